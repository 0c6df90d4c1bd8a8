/- The walk of less: a row of spans is taken out. -/
import Derived.Test.YtmbclcplinmblaaW23
namespace Go.Proofs.Ytmbclcplinmblaa
open Go.RowKit

theorem spCells_at : ∀ {l : List Sp} {k : Nat} {s : Sp}, l[k]? = some s → (spCells l)[k * 3]? = some (.int .i64 s.f) ∧ (spCells l)[k * 3 + 1]? = some (.int .i64 s.t) ∧ (spCells l)[k * 3 + 2]? = some (.int .i64 s.k)
  | [], k, s, h => by simp at h
  | x :: l, 0, s, h => by simp at h; subst h; simp [spCells]
  | x :: l, k + 1, s, h => by
    have ih := spCells_at (l := l) (k := k) (s := s) (by simpa using h)
    have e : spCells (x :: l) = .int .i64 x.f :: .int .i64 x.t :: .int .i64 x.k :: spCells l := rfl
    rw [e, show (k + 1) * 3 = k * 3 + 3 by omega]
    exact ih

theorem rowAt {w : World} {g n : Nat} {cur : Array Value} {l : List Sp} (hh : w.heap[g]? = some (.cells cur 25 (0, 0))) (h5 : cur.toList.take n = spCells l) {k : Nat} {s : Sp} (h : l[k]? = some s) :
    w.cell? ⟨g, k * 3, none⟩ = some (.int .i64 s.f) ∧ w.cell? ⟨g, k * 3 + 1, none⟩ = some (.int .i64 s.t) ∧ w.cell? ⟨g, k * 3 + 2, none⟩ = some (.int .i64 s.k) := by
  have h3 := spCells_at h
  have e : ∀ j, (⟨g, 0, none⟩ : Addr).add j = ⟨g, j, none⟩ := fun j => by unfold Addr.add; split <;> simp_all
  refine ⟨?_, ?_, ?_⟩
  · rw [← e]; exact rowCell hh h5 _ _ h3.1
  · rw [← e]; exact rowCell hh h5 _ _ h3.2.1
  · rw [← e]; exact rowCell hh h5 _ _ h3.2.2

def without (F : Bool → List Sp) (l : List Sp) : Bool → List Sp := fun c => (F c).filter (fun s => decide (s ∉ l))
theorem without_nil (F : Bool → List Sp) : without F [] = F := by funext c; simp [without]
theorem without_snoc (F : Bool → List Sp) (l : List Sp) (s : Sp) : without F (l ++ [s]) = fun c => delS s (without F l c) := by
  funext c
  simp only [without, delS, List.filter_filter]
  congr 1
  funext x
  by_cases h1 : x ∈ l <;> by_cases h2 : x = s <;> simp [h1, h2]

set_option maxRecDepth 100000 in
set_option maxHeartbeats 1000000 in
theorem less_T (B : Nat) (v : Value) (l : List Sp) (mb : Nat) (tb : Bool → Nat) (I : Nat → Prop) (F : Bool → List Sp) (w : World) (hrow : Owns w B v l) (hB : ∀ g n c, v = .slice (some ⟨g, 0, none⟩) n c → ¬ I g) (h : Has w mb tb I F) (hlen : l.length < 4611686018427387904) :
    Calls Try.prog 45 #[.pointer (some ⟨mb, 0, none⟩), v] w fun e w' => e = .returned (.tuple #[]) ∧ Has w' mb tb (Grow I w) (without F l) ∧ Only I w w' := by
  have HS : Hid (∀ W k, k ≤ l.length → Has W mb tb (Grow I w) (without F (l.take k)) → Only I w W → k = l.length → Has W mb tb (Grow I w) (without F l) ∧ Only I w W) := fun W k _ h1 h2 e => by subst e; rw [List.take_length] at h1; exact ⟨h1, h2⟩
  have H0 : Hid (Has w mb tb (Grow I w) (without F (l.take 0)) ∧ Only I w w) := ⟨by rw [List.take_zero, without_nil]; exact h.mono (fun i _ hi => Or.inl hi), Only.refl _ _⟩
  rcases hrow.cases with ⟨rfl, rfl⟩ | ⟨g, cap, cur, rfl, hg, hh, hc, hcs, htk⟩
  · have HS := HS.out w 0 (Nat.le_refl _) H0.out.1 H0.out.2 rfl
    have HS := Lib.hid HS
    clear h H0 hrow hB
    go_enter Try.func45, Try.ntmps45
    go_wp2
    refine wp_loop_rounds 1 ?_
    rw [rounds_succ]
    go_wp2
    go_end0
    exact ⟨rfl, HS.out⟩
  · have hgw := lt_of_blk hh
    have hgI := Lib.hid (hB g _ _ rfl)
    have HH := Lib.hid hh
    have HT := Lib.hid htk
    clear h hrow hB hh htk
    go_enter Try.func45, Try.ntmps45
    go_wp2
    go_loopw [8] (fun i wr => ∃ k : Nat, k ≤ l.length ∧ i = .int .i64 k ∧ Hid (Has wr mb tb (Grow I w) (without F (l.take k)) ∧ Only I w wr)) (fun i _ => l.length - (intOf i).toNat)
    case atStart => exact ⟨0, Nat.zero_le _, rfl, H0⟩
    case round =>
      obtain ⟨k, hk, rfl, HR⟩ := hrel
      clear H0
      by_cases hlt : k < l.length
      · have hs : l[k]? = some l[k] := by simp [hlt]
        generalize l[k] = s at hs
        have HX := Lib.hid hs
        obtain ⟨x0, x1, x2⟩ := rowAt (HR.out.2.keep HH.out hgI.out) HT.out hs
        clear hs
        have HC : Hid (∀ W, Only (fun _ => False) wr W → Calls Try.prog 33 #[.pointer (some ⟨mb, 0, none⟩), s.val] W fun e w' => e = .returned (.bool (decide (s ∈ without F (l.take k) (par s)))) ∧ Hid (Has w' mb tb (Grow I w) (without F (l.take (k + 1))) ∧ Only I w w')) := by
          intro W o
          obtain ⟨r1, r2⟩ := HR.out
          refine (mcut_T s mb tb (Grow I w) (without F (l.take k)) W (r1.only o (fun _ _ _ h => h))).mono fun e w' hp => ?_
          obtain ⟨p1, p2, p3⟩ := hp
          have os := r2.size
          have os2 := o.size
          refine ⟨p1, ?_, ?_⟩
          · rw [List.take_add_one, HX.out, Option.toList_some, without_snoc]
            exact p2.mono (fun i _ hi => by
              rcases hi with hi | hi
              · exact hi
              · exact Or.inr (by omega))
          · exact (r2.trans o (S := I) (fun _ _ h => h) (fun _ _ h => h.elim)).trans p3 (fun _ _ h => h) (fun i hi h => by
              rcases h with h | h
              · exact h
              · omega)
        clear HR HS HH HT hgI HX
        have o1 := (Only.refl (fun _ => False) wr).alloc (.cells #[.int .i64 s.f, .int .i64 s.t, .int .i64 s.k] 25)
        generalize decide (s ∈ without F (l.take k) (par s)) = ok at HC
        unfold Sp.val at HC
        go_wp2_with fail
        refine (HC.out _ o1).mono ?_
        rintro e w1 ⟨rfl, HN⟩
        clear HC o1 x0 x1 x2
        go_wp2_with fail
        go_roundw
        case rel => exact ⟨k + 1, by omega, by simp, HN⟩
        case measure => simp [intOf]; omega
      · have HS := Lib.hid (HS.out wr k hk HR.out.1 HR.out.2 (by omega))
        clear HR HH HT hgI
        go_wp2_with fail
        go_end0
        exact ⟨rfl, HS.out⟩
end Go.Proofs.Ytmbclcplinmblaa
