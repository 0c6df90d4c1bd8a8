/- The walks of marks' look and order, of cmp.Compare and cmp.Or at int. -/
import Derived.Test.YtmbclcplinmblaaW5
namespace Go.Proofs.Ytmbclcplinmblaa
open Go.RowKit

/-- a tree's struct and the marks that it belongs to (the number of steps is whatever it is) -/
structure Host (w : World) (tb sb : Nat) (rt : Option Addr) (p0 p1 : Value) : Prop where
  tree : w.heap[tb]? = some (.cells #[.pointer rt, .pointer (some ⟨sb, 2, none⟩)] 59 (0, 0))
  marks : ∃ st : Int, w.heap[sb]? = some (.cells #[p0, p1, .int .i64 st] 55 (0, 0))

theorem Host.only {S : Nat → Prop} {w w' : World} {tb sb : Nat} {rt : Option Addr} {p0 p1 : Value} (h : Host w tb sb rt p0 p1) (o : Only S w w') (h1 : ¬ S tb) (h2 : ¬ S sb) : Host w' tb sb rt p0 p1 := by
  obtain ⟨a, st, b⟩ := h
  exact ⟨o.keep a h1, st, o.keep b h2⟩
theorem Host.ne {w : World} {tb sb : Nat} {rt : Option Addr} {p0 p1 : Value} (h : Host w tb sb rt p0 p1) : tb ≠ sb := by
  rintro rfl
  obtain ⟨a, st, b⟩ := h
  rw [a] at b
  simp at b

theorem down_ids_sub {b : Nat} {d : Nd} {l r : T} {i : Nat} (h : i = b ∨ l.isAt i ∨ r.isAt i) : i ∈ (T.node b d l r).ids := by
  rcases h with h | h | h
  · simp [T.ids, h]
  · simp [T.ids, T.isAt_mem h]
  · simp [T.ids, T.isAt_mem h]

set_option maxRecDepth 100000 in
set_option maxHeartbeats 1000000 in
theorem look_calls (b : Nat) (d : Nd) (l r : T) (w : World) (tb sb : Nat) (rt : Option Addr) (p0 p1 : Value) (hh : Host w tb sb rt p0 p1) (hl : Lies w (.node b d l r)) (hn : (T.node b d l r).ids.Nodup)
    (ns : sb ∉ (T.node b d l r).ids) (nt : tb ∉ (T.node b d l r).ids) :
    Calls Try.prog 56 #[.pointer (some ⟨tb, 0, none⟩), .pointer (some ⟨b, 0, none⟩)] w fun e w' => e = .returned (.tuple #[]) ∧ Lies w' (T.down (.node b d l r)) ∧ Host w' tb sb rt p0 p1 ∧ Only (fun i => i = sb ∨ i ∈ (T.node b d l r).ids) w w' := by
  have hne := hh.ne
  obtain ⟨ht, st, hm⟩ := hh
  have c1 := cellAt ht 1 rfl
  have c2 := cellAt hm 2 rfl
  have fz := freeAt hm 2
  have o1 : Only (fun i => i = sb) w (w.setCell ⟨sb, 2, none⟩ (.int .i64 (wrap64 (st + 1)))) := (Only.refl (fun i => i = sb) w).set sb 2 _ (fun _ => rfl)
  have HC := Lib.hid (down_calls b d l r _ (Lies.only o1 hl (fun i hi e => ns (e ▸ hi))) hn)
  have HT : Hid ((w.setCell ⟨sb, 2, none⟩ (.int .i64 (wrap64 (st + 1)))).heap[tb]? = some (.cells #[.pointer rt, .pointer (some ⟨sb, 2, none⟩)] 59 (0, 0))) := setOther ht hne
  have HM : Hid ((w.setCell ⟨sb, 2, none⟩ (.int .i64 (wrap64 (st + 1)))).heap[sb]? = some (.cells #[p0, p1, .int .i64 (wrap64 (st + 1))] 55 (0, 0))) := setAt hm 2 _ rfl
  have O1 := Lib.hid o1
  have NS := Lib.hid ns
  have NT := Lib.hid nt
  clear hne ht hm hl hn ns nt o1
  go_enter Try.func56, Try.ntmps56
  go_wp2_with fail
  refine HC.out.mono ?_
  rintro e w1 ⟨rfl, h1, o1⟩
  have hfin : Host w1 tb sb rt p0 p1 ∧ Only (fun i => i = sb ∨ i ∈ (T.node b d l r).ids) w w1 :=
    ⟨⟨o1.keep HT.out (fun x => NT.out (down_ids_sub x)), _, o1.keep HM.out (fun x => NS.out (down_ids_sub x))⟩,
     O1.out.trans o1 (fun _ _ h => Or.inl h) (fun _ _ h => Or.inr (down_ids_sub h))⟩
  have H1 := Lib.hid h1
  have HF := Lib.hid hfin
  clear h1 o1 hfin
  go_wp2_with fail
  go_end0
  exact ⟨rfl, H1.out, HF.out⟩

/-- cmp.Compare at int -/
def cmpI (x y : Int) : Int := if x < y then -1 else if y < x then 1 else 0
set_option maxHeartbeats 1000000 in
theorem compare_calls (x y : Int) (w : World) : Calls Try.prog 64 #[.int .i64 x, .int .i64 y] w fun e w' => e = .returned (.int .i64 (cmpI x y)) ∧ w' = w := by
  unfold cmpI
  by_cases h1 : x < y
  · rw [if_pos h1]
    go_enter Try.func64, Try.ntmps64
    go_wp2
    go_ret
    exact ⟨rfl, rfl⟩
  · rw [if_neg h1]
    by_cases h2 : y < x
    · rw [if_pos h2]
      go_enter Try.func64, Try.ntmps64
      go_wp2
      go_ret
      exact ⟨rfl, rfl⟩
    · rw [if_neg h2]
      go_enter Try.func64, Try.ntmps64
      go_wp2
      go_ret
      exact ⟨rfl, rfl⟩

/-- cmp.Or of three ints that lie in a row -/
def or3 (x y z : Int) : Int := if x ≠ 0 then x else if y ≠ 0 then y else z
set_option maxHeartbeats 1000000 in
theorem or_calls (g : Nat) (x y z : Int) (w : World) (h0 : w.cell? ⟨g, 0, none⟩ = some (.int .i64 x)) (h1 : w.cell? ⟨g, 1, none⟩ = some (.int .i64 y)) (h2 : w.cell? ⟨g, 2, none⟩ = some (.int .i64 z)) :
    Calls Try.prog 63 #[.slice (some ⟨g, 0, none⟩) 3 3] w fun e w' => e = .returned (.int .i64 (or3 x y z)) ∧ w' = w := by
  unfold or3
  by_cases k0 : x = 0
  · rw [if_neg (by simp [k0])]
    have K0 : (x != 0) = false := by simp [k0]
    clear k0
    by_cases k1 : y = 0
    · rw [if_neg (by simp [k1])]
      have K1 : (y != 0) = false := by simp [k1]
      clear k1
      by_cases k2 : z = 0
      · subst k2
        go_enter Try.func63, Try.ntmps63
        go_wp2
        refine wp_loop_rounds 4 ?_
        iterate 4 (rw [rounds_succ]; go_wp2)
        go_ret
        exact ⟨rfl, rfl⟩
      · have K2 : (z != 0) = true := by simp [k2]
        clear k2
        go_enter Try.func63, Try.ntmps63
        go_wp2
        refine wp_loop_rounds 4 ?_
        iterate 3 (rw [rounds_succ]; go_wp2)
        go_ret
        exact ⟨rfl, rfl⟩
    · rw [if_pos k1]
      have K1 : (y != 0) = true := by simp [k1]
      clear k1
      go_enter Try.func63, Try.ntmps63
      go_wp2
      refine wp_loop_rounds 4 ?_
      iterate 2 (rw [rounds_succ]; go_wp2)
      go_ret
      exact ⟨rfl, rfl⟩
  · rw [if_pos k0]
    have K0 : (x != 0) = true := by simp [k0]
    clear k0
    go_enter Try.func63, Try.ntmps63
    go_wp2
    refine wp_loop_rounds 4 ?_
    rw [rounds_succ]
    go_wp2
    go_ret
    exact ⟨rfl, rfl⟩
end Go.Proofs.Ytmbclcplinmblaa
