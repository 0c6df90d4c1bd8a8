/- One append of an owned row to another, as a step of a drawn region. -/
import Derived.Test.YtmbclcplinmblaaSort
import Derived.Deep.RegionHeld
namespace Go.Proofs.Ytmbclcplinmblaa
open Go.RowKit

theorem step_app {ops : Array Oper} {o : Oper} {a : Act} {w : World} {K : Act → World → Prop} {Q : Exit → Act → World → Prop} {E : Prop} (hgd : o.guard = none) (s x : Operand)
    (ho : o.op = .call { callee := .builtin .append, args := #[s, x], argTypes := #[32, 32] }) (B B2 : Nat) (v v2 : Value) (l l2 : List Sp) (hs : a.eval s = v) (hx : a.eval x = v2)
    (h1 : Owns w B v l) (h2 : Owns w B2 v2 l2) (hB : B ≤ w.heap.size) (hlen : l.length + l2.length ≤ 4398046511104)
    (h : ∀ v' w', Owns w' B v' (l ++ l2) → Only (fun i => B ≤ i) w w' → K (a.put o.dst v') w') : if Region.wanted o (yielded ops a.tmps) = true then Oper.wp Try.prog o a w K Q else E := by
  have hw : Region.wanted o (yielded ops a.tmps) = true := by simp [Region.wanted, hgd]
  rw [if_pos hw]
  obtain ⟨i0, hi, hz0, hz1, hz2⟩ := info_parts info25
  rcases h2.cases with ⟨rfl, rfl⟩ | ⟨g, cap, cur, rfl, hg, hh, hc, hcs, htk⟩
  · have hrun := run_append_owned_none (P := Try.prog) (w := w) B 32 o.type 25 i0 3 Try.underlying32 hi v l.length (spCells l) h1
    unfold Oper.wp
    simp [execOp, ho, resolve, invoke, builtin, hs, hx, hrun, Result.andThen]
    exact h v w (by rw [List.append_nil]; exact h1) (Only.refl _ _)
  · refine wp_append_own w s x 32 ho B 25 i0 _ 3 24 Try.underlying32 hi hz0 hz1 hz2 rfl (by decide) v l.length (spCells l) hs h1 ⟨g, 0, none⟩ l2.length cap (spCells l2) hx (spCells_length _) (rowCell hh htk) (spCells_one _) ?_ ?_ hB ?_
    · unfold maxLen; omega
    · omega
    · intro v' w' hv hg' _
      refine h v' w' ?_ ?_
      · unfold Owns; rw [List.length_append, spCells_append]; exact hv
      · refine Only.of_grown hg' (fun k hk => ?_)
        rcases h1.cases with ⟨rfl, rfl⟩ | ⟨g1, cap1, cur1, rfl, hg1, _⟩
        · simp [Value.ownBlock] at hk
        · simp [Value.ownBlock] at hk; omega
end Go.Proofs.Ytmbclcplinmblaa
