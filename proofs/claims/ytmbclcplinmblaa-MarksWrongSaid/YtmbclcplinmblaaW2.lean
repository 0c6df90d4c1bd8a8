/- The walk of marks' down, told. -/
import Derived.Test.YtmbclcplinmblaaW1
import Derived.StillTailTactics
namespace Go.Proofs.Ytmbclcplinmblaa
open Go.RowKit

set_option maxRecDepth 100000 in
set_option maxHeartbeats 1000000 in
theorem down_calls (b : Nat) (d : Nd) (l r : T) (w : World) (hl : Lies w (.node b d l r)) (hn : (T.node b d l r).ids.Nodup) :
    Calls Try.prog 67 #[.pointer (some ⟨b, 0, none⟩)] w fun e w' => e = .returned (.tuple #[]) ∧ Lies w' (T.down (.node b d l r)) ∧ Only (fun i => i = b ∨ l.isAt i ∨ r.isAt i) w w' := by
  obtain ⟨hb, hl, hr⟩ := hl
  obtain ⟨nl, nr, n1, n2, n3⟩ := nodup_node hn
  have c3 := (nodeAt hb).c3
  have c4 := (nodeAt hb).c4
  have c8 := (nodeAt hb).c8
  have HL := Lib.hid hl
  have HR := Lib.hid hr
  have HB := Lib.hid hb
  have NL := Lib.hid nl
  have NR := Lib.hid nr
  have N1 := Lib.hid n1
  have N2 := Lib.hid n2
  have N3 := Lib.hid n3
  clear hl hr hb hn nl nr n1 n2 n3
  go_enter Try.func67, Try.ntmps67
  go_wp2_with fail
  go_still_tail 9, (by kernel_rfl)
  change wpList _ _ _ _ _ w.drew
  go_wp2_with fail
  refine (move_calls l d.w _ HL.out.drew NL.out).mono ?_
  rintro e w1 ⟨rfl, h1, o1⟩
  have b1 : w1.heap[b]? = some (nodeObj d l.root r.root) := o1.keep (w := w.drew) HB.out (fun x => N1.out (T.isAt_mem x))
  have r1 : Lies w1 r := Lies.only o1 HR.out.drew (fun i hi x => N3.out i (T.isAt_mem x) hi)
  have c4 := (nodeAt b1).c4
  have c8 := (nodeAt b1).c8
  have H1 := Lib.hid h1
  have O1 := Lib.hid o1
  have B1 := Lib.hid b1
  have R1 := Lib.hid r1
  clear h1 o1 b1 r1
  go_wp2_with fail
  go_still_tail 9, (by kernel_rfl)
  change wpList _ _ _ _ _ w1.drew
  go_wp2_with fail
  refine (move_calls r d.w _ R1.out.drew NR.out).mono ?_
  rintro e w2 ⟨rfl, h2, o2⟩
  have b2 : w2.heap[b]? = some (nodeObj d l.root r.root) := o2.keep (w := w1.drew) B1.out (fun x => N2.out (T.isAt_mem x))
  have l2 : Lies w2 (l.mv d.w) := Lies.only o2 H1.out.drew (fun i hi x => N3.out i (by rwa [T.ids_mv] at hi) (T.isAt_mem x))
  have c8 := (nodeAt b2).c8
  have fz := (nodeAt b2).fz 8
  have H2 := Lib.hid h2
  have O2 := Lib.hid o2
  have B2 := Lib.hid b2
  have L2 := Lib.hid l2
  clear h2 o2 b2 l2
  go_wp2_with fail
  go_end0
  refine ⟨rfl, ⟨setAt B2.out 8 _ (by simp [T.root_mv]), ?_, ?_⟩, ?_⟩
  · exact Lies.only ((Only.refl (fun i => i = b) w2).set b 8 _ (fun _ => rfl)) L2.out (fun i hi e => N1.out (by rw [T.ids_mv] at hi; rwa [← e]))
  · exact Lies.only ((Only.refl (fun i => i = b) w2).set b 8 _ (fun _ => rfl)) H2.out (fun i hi e => N2.out (by rw [T.ids_mv] at hi; rwa [← e]))
  · have e1 : Only (fun i => i = b ∨ l.isAt i ∨ r.isAt i) w w1.drew := ((Only.refl (fun i => i = b ∨ l.isAt i ∨ r.isAt i) w).drew.trans O1.out (fun _ _ h => h) (fun _ _ h => Or.inr (Or.inl h))).drew
    exact (e1.trans O2.out (fun _ _ h => h) (fun _ _ h => Or.inr (Or.inr h))).set b 8 _ (fun _ => Or.inl rfl)

theorem high_still {t : T} {w : World} (hl : Lies w t) : Calls Try.prog 48 #[.pointer t.root] w fun e w' => e = .returned (.int .i64 t.high) ∧ w' = w :=
  (high_calls t w hl).mono fun _ _ h => ⟨h.1, h.2.symm⟩
theorem many_still {t : T} {w : World} (hl : Lies w t) : Calls Try.prog 34 #[.pointer t.root] w fun e w' => e = .returned (.int .i64 t.many) ∧ w' = w :=
  (many_calls t w hl).mono fun _ _ h => ⟨h.1, h.2.symm⟩
theorem far_still {t : T} {w : World} (hl : Lies w t) : Calls Try.prog 59 #[.pointer t.root] w fun e w' => e = .returned (.int .i64 t.far) ∧ w' = w :=
  (far_calls t w hl).mono fun _ _ h => ⟨h.1, h.2.symm⟩

theorem one_ids {b : Nat} {t : T} (h : b ∉ t.ids) : ∀ i ∈ t.ids, ¬ (i = b) := fun _ hi e => h (e ▸ hi)

set_option maxRecDepth 100000 in
set_option maxHeartbeats 1000000 in
theorem told_calls (b : Nat) (d : Nd) (l r : T) (w : World) (hb : w.heap[b]? = some (nodeObj d l.root r.root)) (hl : Lies w l) (hr : Lies w r) (n1 : b ∉ l.ids) (n2 : b ∉ r.ids) :
    Calls Try.prog 55 #[.pointer (some ⟨b, 0, none⟩)] w fun e w' => e = .returned (.pointer (some ⟨b, 0, none⟩)) ∧ Lies w' (T.told (.node b d l r)) ∧ Only (fun i => i = b) w w' := by
  have c1 := (nodeAt hb).c1
  have c3 := (nodeAt hb).c3
  have c4 := (nodeAt hb).c4
  have c5 := (nodeAt hb).c5
  have c6 := (nodeAt hb).c6
  have c7 := (nodeAt hb).c7
  have fz := (nodeAt hb).fz
  have HL := Lib.hid hl
  have HR := Lib.hid hr
  have HB := Lib.hid hb
  have N1 := Lib.hid n1
  have N2 := Lib.hid n2
  clear hl hr hb n1 n2
  go_enter Try.func55, Try.ntmps55
  go_wp2_with fail
  go_quiet (fail)
  go_wp2_with fail
  refine (high_calls l _ (Lies.only ((Only.refl (fun _ => False) w).drewN nq) HL.out (fun _ _ h => h))).mono ?_
  rintro e w1 ⟨rfl, rfl⟩
  go_wp2_with fail
  refine (high_calls r _ (Lies.only ((Only.refl (fun _ => False) w).drewN nq) HR.out (fun _ _ h => h))).mono ?_
  rintro e w1 ⟨rfl, rfl⟩
  go_wp2_with fail
  have o1 : Only (fun i => i = b) w ((w.drewN nq).setCell ⟨b, 5, none⟩ (.int .i64 (wrap64 (1 + max l.high r.high)))) := ((Only.refl (fun i => i = b) w).drewN nq).set b 5 _ (fun _ => rfl)
  have O1 := Lib.hid o1
  clear o1
  refine (many_calls l _ (Lies.only O1.out HL.out (one_ids N1.out))).mono ?_
  rintro e w1 ⟨rfl, rfl⟩
  go_wp2_with fail
  refine (many_calls r _ (Lies.only O1.out HR.out (one_ids N2.out))).mono ?_
  rintro e w1 ⟨rfl, rfl⟩
  go_wp2_with fail
  have B2 := Lib.hid (O1.out.set b 6 (.int .i64 (wrap64 (wrap64 (1 + l.many) + r.many))) (fun _ => rfl))
  refine wp_region_still_tail 13 (by kernel_rfl) (by kernel_rfl) ?_
  simp only [List.take_succ_cons, List.take_zero, List.drop_succ_cons, List.drop_zero]
  change wpStill _ _ (World.drew _) _ _ _
  repeat (first | still_step | still_call (far_still (Lies.only B2.out.drew HL.out (one_ids N1.out))) | still_call (far_still (Lies.only B2.out.drew HR.out (one_ids N2.out))))
  refine wpStill_nil ?_
  change wpList _ _ _ _ _ (World.drew _)
  go_wp2_with fail
  go_ret
  refine ⟨rfl, ?_⟩
  have o3 := (B2.out.set b 7 (.int .i64 (max d.t (max l.far r.far))) (fun _ => rfl)).drew
  exact ⟨⟨setAt (setAt (setAt HB.out 5 _ rfl) 6 _ rfl) 7 _ rfl, Lies.only o3 HL.out (one_ids N1.out), Lies.only o3 HR.out (one_ids N2.out)⟩, o3⟩
end Go.Proofs.Ytmbclcplinmblaa
