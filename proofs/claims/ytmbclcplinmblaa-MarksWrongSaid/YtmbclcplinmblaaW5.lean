/- marks' even, whatever the two sides are. -/
import Derived.Test.YtmbclcplinmblaaW4c
namespace Go.Proofs.Ytmbclcplinmblaa
open Go.RowKit

theorem even_calls (b : Nat) (d : Nd) (l r : T) (w : World) (hl : Lies w (.node b d l r)) (hn : (T.node b d l r).ids.Nodup) (kl : l.hok) (kr : r.hok) (hs : l.size + r.size < 4611686018427387904) :
    Calls Try.prog 57 #[.pointer (some ⟨b, 0, none⟩)] w fun e w' => e = .returned (.pointer (T.even (.node b d l r)).root) ∧ Lies w' (T.even (.node b d l r)) ∧ Only (fun i => i ∈ (T.node b d l r).ids) w w' := by
  have a1 := T.hok_high kl
  have a2 := T.hok_high kr
  have e1 : wrap64 (r.high + 1) = r.high + 1 := wrap64_of _ (by omega)
  have e2 : wrap64 (l.high + 1) = l.high + 1 := wrap64_of _ (by omega)
  by_cases q1 : l.high ≤ wrap64 (r.high + 1)
  · by_cases q2 : r.high ≤ wrap64 (l.high + 1)
    · have ee : T.even (.node b d l r) = .node b (T.toldD d l r) l r := by
        simp only [T.even]
        rw [if_neg (by omega), if_neg (by omega)]
      rw [ee]
      exact even_none b d l r w hl hn q1 q2
    · cases r with
      | nil => simp only [T.high] at *; omega
      | node kb kd rl rr =>
        have hrl := kr.2.2.1
        have hrr := kr.2.2.2
        have b1 := T.hok_high hrl
        have b2 := T.hok_high hrr
        by_cases q3 : rr.high < rl.high
        · cases rl with
          | nil => simp only [T.high] at *; omega
          | node jb jd jl jr =>
            have ee : T.even (.node b d l (.node kb kd (.node jb jd jl jr) rr)) = T.lift1 (.node b (T.toldD d l (.node kb kd (.node jb jd jl jr) rr)) l (T.lift0 (T.down (.node kb kd (.node jb jd jl jr) rr)))) := by
              simp only [T.even]
              rw [if_neg (by omega), if_pos (by omega)]
              unfold T.evenR
              rw [if_pos (by simp only [T.down, T.lft, T.rgt, T.high_mv]; exact q3)]
            rw [ee]
            exact even_RL b d kb kd rr jb jd jl jr l w hl hn q1 q2 q3 _ _ _ rfl
        · have ee : T.even (.node b d l (.node kb kd rl rr)) = T.lift1 (.node b (T.toldD d l (.node kb kd rl rr)) l (T.down (.node kb kd rl rr))) := by
            simp only [T.even]
            rw [if_neg (by omega), if_pos (by omega)]
            unfold T.evenR
            rw [if_neg (by simp only [T.down, T.lft, T.rgt, T.high_mv]; exact q3)]
          rw [ee]
          exact even_RR b d kb kd rl rr l w hl hn q1 q2 q3
  · cases l with
    | nil => simp only [T.high] at *; omega
    | node kb kd ll lr =>
      have hll := kl.2.2.1
      have hlr := kl.2.2.2
      have b1 := T.hok_high hll
      have b2 := T.hok_high hlr
      by_cases q3 : ll.high < lr.high
      · cases lr with
        | nil => simp only [T.high] at *; omega
        | node jb jd jl jr =>
          have ee : T.even (.node b d (.node kb kd ll (.node jb jd jl jr)) r) = T.lift0 (.node b (T.toldD d (.node kb kd ll (.node jb jd jl jr)) r) (T.lift1 (T.down (.node kb kd ll (.node jb jd jl jr)))) r) := by
            simp only [T.even]
            rw [if_pos (by omega)]
            unfold T.evenL
            rw [if_pos (by simp only [T.down, T.lft, T.rgt, T.high_mv]; exact q3)]
          rw [ee]
          exact even_LR b d kb kd ll jb jd jl jr r w hl hn q1 q3 _ _ _ rfl
      · have ee : T.even (.node b d (.node kb kd ll lr) r) = T.lift0 (.node b (T.toldD d (.node kb kd ll lr) r) (T.down (.node kb kd ll lr)) r) := by
          simp only [T.even]
          rw [if_pos (by omega)]
          unfold T.evenL
          rw [if_neg (by simp only [T.down, T.lft, T.rgt, T.high_mv]; exact q3)]
        rw [ee]
        exact even_LL b d kb kd ll lr r w hl hn q1 q3
end Go.Proofs.Ytmbclcplinmblaa
