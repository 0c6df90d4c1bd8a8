/- The walk of MarksWrong. -/
import Derived.Test.YtmbclcplinmblaaW33
namespace Go.Proofs.Ytmbclcplinmblaa
open Go.RowKit

set_option maxRecDepth 100000 in
set_option maxHeartbeats 1000000 in
theorem MarksWrong_walk (how v : Int) (w : World) : Calls Try.prog 3 #[.int .i64 how, .int .i64 v] w fun e w' => e = .returned (.bool true) ∧ Only (fun _ => False) w w' := by
  have hq := Int.emod_nonneg v (show (1000 : Int) ≠ 0 by decide)
  have hq2 := Int.emod_lt_of_pos v (show (0 : Int) < 1000 by decide)
  have hr := Int.emod_nonneg how (show (6 : Int) ≠ 0 by decide)
  have hr2 := Int.emod_lt_of_pos how (show (0 : Int) < 6 by decide)
  have HP1 := Lib.hid (fun W => Place_calls v 1000 (by decide) (by decide) W)
  have HP2 := Lib.hid (fun W => Place_calls how 6 (by decide) (by decide) W)
  generalize v % 1000 = q at *
  generalize how % 6 = r at *
  obtain ⟨k, hk⟩ : ∃ k, k = 1 + q := ⟨_, rfl⟩
  have ek : wrap64 (1 + q) = k := by rw [hk]; exact wrap64_of _ (by omega)
  have e1 : wrap64 (-k) = -k := wrap64_of _ (by omega)
  have e2 : wrap64 (k - 1) = k - 1 := wrap64_of _ (by omega)
  have e3 : wrap64 (1099511627776 + k) = 1099511627776 + k := wrap64_of _ (by omega)
  have e4 : wrap64 (1000 + k) = 1000 + k := wrap64_of _ (by omega)
  have HI : ∃ f t kd, ¬ okSp ⟨f, t, kd⟩ ∧ ∀ W, (Instr.index 28 (.agg #[.int .i64 (-k), .int .i64 5, .int .i64 0, .int .i64 k, .int .i64 k, .int .i64 0, .int .i64 k, .int .i64 (k - 1), .int .i64 0, .int .i64 0, .int .i64 (1099511627776 + k), .int .i64 0, .int .i64 1, .int .i64 2, .int .i64 (-k), .int .i64 1, .int .i64 2, .int .i64 (1000 + k)]) (.int .i64 r)).run Try.prog W = .ok (.agg #[.int .i64 f, .int .i64 t, .int .i64 kd]) W := by
    have hr6 : r = 0 ∨ r = 1 ∨ r = 2 ∨ r = 3 ∨ r = 4 ∨ r = 5 := by omega
    rcases hr6 with rfl | rfl | rfl | rfl | rfl | rfl
    · exact ⟨-k, 5, 0, fun h => by have := h.1; simp only at this; omega, fun W => by kernel_rfl⟩
    · exact ⟨k, k, 0, fun h => by have := h.2.1; simp only at this; omega, fun W => by kernel_rfl⟩
    · exact ⟨k, k - 1, 0, fun h => by have := h.2.1; simp only at this; omega, fun W => by kernel_rfl⟩
    · exact ⟨0, 1099511627776 + k, 0, fun h => by have := h.2.2.1; simp only at this; omega, fun W => by kernel_rfl⟩
    · exact ⟨1, 2, -k, fun h => by have := h.2.2.2.1; simp only at this; omega, fun W => by kernel_rfl⟩
    · exact ⟨1, 2, 1000 + k, fun h => by have := h.2.2.2.2; simp only at this; omega, fun W => by kernel_rfl⟩
  obtain ⟨f, t, kd, hbad, HI⟩ := HI
  have hs : okSp ⟨5, 9, 2⟩ := ⟨by decide, by decide, by decide, by decide, by decide⟩
  have hs2 : okSp ⟨0, 1099511627776, 1000⟩ := ⟨by decide, by decide, by decide, by decide, by decide⟩
  have nb : ¬ (⟨f, t, kd⟩ : Sp) ∈ [(⟨5, 9, 2⟩ : Sp)] := fun h => hbad (by simp at h; obtain ⟨rfl, rfl, rfl⟩ := h; exact hs)
  have H0 := Lib.hid (Mine.new w w (fun _ => False) (Only.refl _ _) (fun _ h => h.elim))
  have H1 : Hid (∀ X W, Mine w w.heap.size X [] W → Calls Try.prog 11 #[P w.heap.size, .agg #[.int .i64 5, .int .i64 9, .int .i64 2]] W fun e w' => e = .returned (.bool true) ∧ Mine w w.heap.size X [⟨5, 9, 2⟩] w' ∧ Only (Out w X) W w') := fun X W h => h.put ⟨5, 9, 2⟩ hs (by decide)
  have H2 : Hid (∀ X W, Mine w w.heap.size X [⟨5, 9, 2⟩] W → Calls Try.prog 11 #[P w.heap.size, .agg #[.int .i64 f, .int .i64 t, .int .i64 kd]] W fun e w' => e = .returned (.bool false) ∧ Mine w w.heap.size X [⟨5, 9, 2⟩] w' ∧ Only (Out w X) W w') := fun X W h => h.putNo ⟨f, t, kd⟩ hbad
  have H3 : Hid (∀ X W, Mine w w.heap.size X [⟨5, 9, 2⟩] W → Calls Try.prog 11 #[P w.heap.size, .agg #[.int .i64 5, .int .i64 9, .int .i64 2]] W fun e w' => e = .returned (.bool false) ∧ Mine w w.heap.size X [⟨5, 9, 2⟩] w' ∧ Only (Out w X) W w') := fun X W h => h.put ⟨5, 9, 2⟩ hs (by decide)
  have H4 : Hid (∀ X W, Mine w w.heap.size X [⟨5, 9, 2⟩] W → Calls Try.prog 13 #[P w.heap.size, .agg #[.int .i64 f, .int .i64 t, .int .i64 kd]] W fun e w' => e = .returned (.bool false) ∧ Mine w w.heap.size X [⟨5, 9, 2⟩] w' ∧ Only (Out w X) W w') := fun X W h => by have := h.remove ⟨f, t, kd⟩; rw [delS_of_not nb, decide_eq_false nb] at this; exact this
  have H5 : Hid (∀ X W, Mine w w.heap.size X [⟨5, 9, 2⟩] W → Calls Try.prog 13 #[P w.heap.size, .agg #[.int .i64 5, .int .i64 9, .int .i64 3]] W fun e w' => e = .returned (.bool false) ∧ Mine w w.heap.size X [⟨5, 9, 2⟩] w' ∧ Only (Out w X) W w') := fun X W h => h.remove ⟨5, 9, 3⟩
  have H6 : Hid (∀ X W, Mine w w.heap.size X [⟨5, 9, 2⟩] W → Calls Try.prog 14 #[P w.heap.size] W fun e w' => e = .returned (.int .i64 1) ∧ W = w') := fun X W h => h.len (by decide)
  have H7 : Hid (∀ X W, Mine w w.heap.size X [⟨5, 9, 2⟩] W → Calls Try.prog 11 #[P w.heap.size, .agg #[.int .i64 0, .int .i64 1099511627776, .int .i64 1000]] W fun e w' => e = .returned (.bool true) ∧ Mine w w.heap.size X [⟨0, 1099511627776, 1000⟩, ⟨5, 9, 2⟩] w' ∧ Only (Out w X) W w') := fun X W h => h.put ⟨0, 1099511627776, 1000⟩ hs2 (by decide)
  have H8 : Hid (∀ X W, Mine w w.heap.size X [⟨0, 1099511627776, 1000⟩, ⟨5, 9, 2⟩] W → Calls Try.prog 13 #[P w.heap.size, .agg #[.int .i64 5, .int .i64 9, .int .i64 2]] W fun e w' => e = .returned (.bool true) ∧ Mine w w.heap.size X [⟨0, 1099511627776, 1000⟩] w' ∧ Only (Out w X) W w') := fun X W h => h.remove ⟨5, 9, 2⟩
  have H9 : Hid (∀ X W, Mine w w.heap.size X [⟨0, 1099511627776, 1000⟩] W → Calls Try.prog 14 #[P w.heap.size] W fun e w' => e = .returned (.int .i64 1) ∧ W = w') := fun X W h => h.len (by decide)
  clear hq hq2 hr hr2 hbad hs hs2 nb hk
  go_enter Try.func3, Try.ntmps3
  go_wp2_with fail
  refine H0.out.mono ?_
  rintro e W1 ⟨rfl, S1, _⟩
  have S1 := S1.box (.cells #[.int .i64 5, .int .i64 9, .int .i64 2] 25)
  have B1 := heap_alloc_new W1 (.cells #[.int .i64 5, .int .i64 9, .int .i64 2] 25)
  have C1 := Lib.hid (H1.out _ _ S1)
  clear S1 H0 H1
  go_wp2_with fail
  refine C1.out.mono ?_
  rintro e W2 ⟨rfl, S2, o2⟩
  have B1 := o2.keep B1 (fun h => h.2 (Or.inr rfl))
  have hb1 := lt_of_blk B1
  have B1 : (W2.alloc (.cells #[.int .i64 f, .int .i64 t, .int .i64 kd] 25)).heap[W1.heap.size]? = _ := allocOld B1
  have S2 := S2.box (.cells #[.int .i64 f, .int .i64 t, .int .i64 kd] 25)
  have B2 := heap_alloc_new W2 (.cells #[.int .i64 f, .int .i64 t, .int .i64 kd] 25)
  obtain ⟨X, hX1, hX2, S2⟩ : ∃ X : Nat → Prop, X W1.heap.size ∧ X W2.heap.size ∧ Mine w w.heap.size X [⟨5, 9, 2⟩] (W2.alloc (.cells #[.int .i64 f, .int .i64 t, .int .i64 kd] 25)) := ⟨_, Or.inl (Or.inr rfl), Or.inr rfl, S2⟩
  have N1 : Hid (¬ Out w X W1.heap.size) := fun h => h.2 hX1
  have N2 : Hid (¬ Out w X W2.heap.size) := fun h => h.2 hX2
  have C2 := Lib.hid (H2.out _ _ S2)
  clear C1 S2 H2 hX1 hX2 o2 hb1
  have BB1 := Lib.hid B1
  have BB2 := Lib.hid B2
  clear B1 B2
  go_wp2_with fail
  refine (HP1.out _).mono ?_
  rintro e W3 ⟨rfl, rfl⟩
  go_wp2_with fail
  refine (HP2.out _).mono ?_
  rintro e W3 ⟨rfl, rfl⟩
  have x0 := cellAt BB2.out 0 rfl
  have x1 := cellAt BB2.out 1 rfl
  have x2 := cellAt BB2.out 2 rfl
  go_wp2_with fail
  clear HP1 HP2 ek e1 e2 e3 e4 HI x0 x1 x2
  refine C2.out.mono ?_
  rintro e V2 ⟨rfl, S, o⟩
  have BB1 := Lib.hid (o.keep BB1.out N1.out)
  have BB2 := Lib.hid (o.keep BB2.out N2.out)
  have C3 := Lib.hid (H3.out _ _ S)
  clear C2 S o H3
  have x0 := cellAt BB1.out 0 rfl
  have x1 := cellAt BB1.out 1 rfl
  have x2 := cellAt BB1.out 2 rfl
  go_wp2_with fail
  clear x0 x1 x2
  refine C3.out.mono ?_
  rintro e V3 ⟨rfl, S, o⟩
  have BB1 := Lib.hid (o.keep BB1.out N1.out)
  have BB2 := Lib.hid (o.keep BB2.out N2.out)
  have C4 := Lib.hid (H4.out _ _ S)
  clear C3 S o H4
  have x0 := cellAt BB2.out 0 rfl
  have x1 := cellAt BB2.out 1 rfl
  have x2 := cellAt BB2.out 2 rfl
  go_wp2_with fail
  clear x0 x1 x2
  refine C4.out.mono ?_
  rintro e V4 ⟨rfl, S, o⟩
  have BB1 := Lib.hid (o.keep BB1.out N1.out)
  have BB2 := Lib.hid (o.keep BB2.out N2.out)
  have C5 := Lib.hid (H5.out _ _ S)
  clear C4 S o H5
  go_wp2_with fail
  refine C5.out.mono ?_
  rintro e V5 ⟨rfl, S, o⟩
  have BB1 := Lib.hid (o.keep BB1.out N1.out)
  have C6 := Lib.hid (H6.out _ _ S)
  have C7 := Lib.hid (H7.out _ _ S)
  clear C5 S o H6 H7 BB2 N2
  go_wp2_with fail
  refine C6.out.mono ?_
  rintro e V6 ⟨rfl, rfl⟩
  clear C6
  go_wp2_with fail
  refine C7.out.mono ?_
  rintro e V7 ⟨rfl, S, o⟩
  have BB1 := Lib.hid (o.keep BB1.out N1.out)
  have C8 := Lib.hid (H8.out _ _ S)
  clear C7 S o H8
  have x0 := cellAt BB1.out 0 rfl
  have x1 := cellAt BB1.out 1 rfl
  have x2 := cellAt BB1.out 2 rfl
  go_wp2_with fail
  clear x0 x1 x2
  refine C8.out.mono ?_
  rintro e V8 ⟨rfl, S, o⟩
  have C9 := Lib.hid (H9.out _ _ S)
  have S := Lib.hid S.only
  clear C8 o H9 BB1 N1
  go_wp2_with fail
  refine C9.out.mono ?_
  rintro e V9 ⟨rfl, rfl⟩
  clear C9
  go_wp2_with fail
  refine (awake_calls _).mono ?_
  rintro e V10 ⟨rfl, o⟩
  have S := Lib.hid (S.out.trans o (fun _ _ h => h) (fun _ _ h => h))
  clear o
  go_wp2_with fail
  go_ret
  exact ⟨rfl, S.out⟩
end Go.Proofs.Ytmbclcplinmblaa
