/- The walk of marks' awake: the document's example. -/
import Derived.Test.YtmbclcplinmblaaW32
namespace Go.Proofs.Ytmbclcplinmblaa
open Go.RowKit

theorem Owns.one {w : World} {B : Nat} {v : Value} {s : Sp} (h : Owns w B v [s]) : ∃ g cap, v = .slice (some ⟨g, 0, none⟩) 1 cap ∧ B ≤ g ∧ w.cell? ⟨g, 0, none⟩ = some (.int .i64 s.f) ∧ w.cell? ⟨g, 1, none⟩ = some (.int .i64 s.t) := by
  rcases h.cases with ⟨_, h⟩ | ⟨g, cap, cur, rfl, hg, hh, _, _, htk⟩
  · cases h
  · have := rowAt hh htk (k := 0) (s := s) rfl
    exact ⟨g, cap, rfl, hg, this.1, this.2.1⟩

set_option maxRecDepth 100000 in
set_option maxHeartbeats 1000000 in
theorem awake_calls (w : World) : Calls Try.prog 15 #[] w fun e w' => e = .returned (.bool true) ∧ Only (fun _ => False) w w' := by
  have hs : okSp ⟨5, 9, 1⟩ := ⟨by decide, by decide, by decide, by decide, by decide⟩
  have H0 := Lib.hid (Mine.new w w (fun _ => False) (Only.refl _ _) (fun _ h => h.elim))
  have H1 : Hid (∀ W, Mine w w.heap.size (fun _ => False) [] W → Calls Try.prog 11 #[P w.heap.size, .agg #[.int .i64 5, .int .i64 9, .int .i64 1]] W fun e w' => e = .returned (.bool true) ∧ Mine w w.heap.size (fun _ => False) (insS ⟨5, 9, 1⟩ []) w') := fun W h => (h.put ⟨5, 9, 1⟩ hs (by decide)).mono fun _ _ h => ⟨h.1, h.2.1⟩
  have H2 : Hid (∀ W, Mine w w.heap.size (fun _ => False) (insS ⟨5, 9, 1⟩ []) W → Calls Try.prog 11 #[P w.heap.size, .agg #[.int .i64 5, .int .i64 9, .int .i64 1]] W fun e w' => e = .returned (.bool false) ∧ Mine w w.heap.size (fun _ => False) (insS ⟨5, 9, 1⟩ []) w') := fun W h => by
    have := h.put ⟨5, 9, 1⟩ hs (by decide); rw [awakePut] at this; exact this.mono fun _ _ h => ⟨h.1, h.2.1⟩
  have H3 : Hid (∀ W, Mine w w.heap.size (fun _ => False) (insS ⟨5, 9, 1⟩ []) W → Calls Try.prog 35 #[P w.heap.size, .int .i64 0, .int .i64 0, .int .i64 3] W fun e w' => e = .returned (.tuple #[]) ∧ Mine w w.heap.size (fun _ => False) [⟨8, 12, 1⟩] w') := fun W h => by
    have := h.edit (by decide) 0 0 3; rw [awakeL] at this; exact this.mono fun _ _ h => ⟨h.1, h.2.1⟩
  have H4 : Hid (∀ W, Mine w w.heap.size (fun _ => False) [⟨8, 12, 1⟩] W → Calls Try.prog 17 #[P w.heap.size] W fun e w' => ∃ g cap, e = .returned (.slice (some ⟨g, 0, none⟩) 1 cap) ∧ w'.cell? ⟨g, 0, none⟩ = some (.int .i64 8) ∧ w'.cell? ⟨g, 1, none⟩ = some (.int .i64 12) ∧ Only (fun _ => False) w w' ∧
      (Calls Try.prog 14 #[P w.heap.size] w' fun e w'' => e = .returned (.int .i64 1) ∧ w' = w'') ∧ (Calls Try.prog 36 #[P w.heap.size] w' fun e w'' => e = .returned (.int .i64 1) ∧ w' = w'')) := fun W h => by
    refine (h.all (by decide)).mono ?_
    rintro e w' ⟨v, rfl, h2, _, ow⟩
    obtain ⟨g, cap, rfl, _, c0, c1⟩ := ow.one
    refine ⟨g, cap, rfl, c0, c1, h2.only, h2.len (by decide), (h2.height (by decide)).mono ?_⟩
    rintro e w' ⟨⟨n, rfl, hn⟩, hw⟩
    rw [hn rfl]
    exact ⟨rfl, hw⟩
  clear hs
  go_enter Try.func15, Try.ntmps15
  go_wp2_with fail
  refine H0.out.mono ?_
  rintro e W1 ⟨rfl, S1, _⟩
  have C1 := Lib.hid (H1.out _ S1)
  clear S1 H0 H1
  go_wp2_with fail
  refine C1.out.mono ?_
  rintro e W2 ⟨rfl, S2⟩
  have C2 := Lib.hid (H2.out _ S2)
  clear C1 S2 H2
  go_wp2_with fail
  refine C2.out.mono ?_
  rintro e W3 ⟨rfl, S3⟩
  have C3 := Lib.hid (H3.out _ S3)
  clear C2 S3 H3
  go_wp2_with fail
  refine C3.out.mono ?_
  rintro e W4 ⟨rfl, S4⟩
  have C4 := Lib.hid (H4.out _ S4)
  clear C3 S4 H4
  go_wp2_with fail
  refine C4.out.mono ?_
  rintro e W5 ⟨g, cap, rfl, c0, c1, o5, C5, C6⟩
  have C5 := Lib.hid C5
  have C6 := Lib.hid C6
  have o5 := Lib.hid o5
  clear C4
  go_wp2_with fail
  refine C5.out.mono ?_
  rintro e W6 ⟨rfl, rfl⟩
  clear C5
  go_wp2_with fail
  refine C6.out.mono ?_
  rintro e W7 ⟨rfl, rfl⟩
  clear C6
  go_wp2_with fail
  go_ret
  exact ⟨rfl, o5.out⟩
end Go.Proofs.Ytmbclcplinmblaa
