/- The walk of marks' lift, at either side. -/
import Derived.Test.YtmbclcplinmblaaW2
namespace Go.Proofs.Ytmbclcplinmblaa
open Go.RowKit

set_option maxRecDepth 100000 in
set_option maxHeartbeats 2000000 in
theorem lift0_calls (b : Nat) (d : Nd) (kb : Nat) (kd : Nd) (kl kr r : T) (w : World) (hl : Lies w (.node b d (.node kb kd kl kr) r)) (hn : (T.node b d (.node kb kd kl kr) r).ids.Nodup) :
    Calls Try.prog 68 #[.pointer (some ⟨b, 0, none⟩), .int .i64 0] w fun e w' => e = .returned (.pointer (some ⟨kb, 0, none⟩)) ∧ Lies w' (T.lift0 (.node b d (.node kb kd kl kr) r)) ∧ Only (fun i => i ∈ (T.node b d (.node kb kd kl kr) r).ids) w w' := by
  obtain ⟨hb, hk, hr⟩ := hl
  obtain ⟨nl, nr, n1, n2, n3⟩ := nodup_node hn
  obtain ⟨nkl, nkr, k1, k2, k3⟩ := nodup_node nl
  have hne : ¬ b = kb := fun e => n1 (by simp [T.ids, e])
  have hne' : ¬ kb = b := fun e => hne e.symm
  have c3 := (nodeAt hb).c3
  simp only [T.root] at c3
  have HC := Lib.hid (down_calls kb kd kl kr w hk nl)
  have HB := Lib.hid hb
  have HR := Lib.hid hr
  have N1 := Lib.hid n1
  have N2 := Lib.hid n2
  have N3 := Lib.hid n3
  have K1 := Lib.hid k1
  have K2 := Lib.hid k2
  have K3 := Lib.hid k3
  clear hb hk hr hn nl nr n1 n2 n3 nkl nkr k1 k2 k3
  go_enter Try.func68, Try.ntmps68
  go_wp2_with fail
  refine HC.out.mono ?_
  rintro e w1 ⟨rfl, h1, o1⟩
  have hkb := h1.1
  have b1 : w1.heap[b]? = some (nodeObj d (some ⟨kb, 0, none⟩) r.root) := o1.keep HB.out (fun x => by
    rcases x with x | x | x
    · exact hne x
    · exact N1.out (by simp [T.ids, T.isAt_mem x])
    · exact N1.out (by simp [T.ids, T.isAt_mem x]))
  have r1 : Lies w1 r := Lies.only o1 HR.out (fun i hi x => by
    refine N3.out i ?_ hi
    rcases x with x | x | x
    · simp [T.ids, x]
    · simp [T.ids, T.isAt_mem x]
    · simp [T.ids, T.isAt_mem x])
  have g3 := (nodeAt b1).c3
  have g4 := (nodeAt hkb).c4
  have gz := (nodeAt b1).fz
  have gk := (nodeAt hkb).fz
  simp only [T.root_mv] at g4
  have H1 := Lib.hid h1
  have O1 := Lib.hid o1
  have HKB := Lib.hid hkb
  have B1 := Lib.hid b1
  have R1 := Lib.hid r1
  clear h1 o1 hkb b1 r1 c3
  go_wp2_with fail
  go_region
  go_wp2_with fail
  have o2 : Only (fun i => i = b ∨ i = kb) w1 ((w1.setCell ⟨b, 3, none⟩ (.pointer kr.root)).setCell ⟨kb, 4, none⟩ (.pointer (some ⟨b, 0, none⟩))).drew :=
    (((Only.refl (fun i => i = b ∨ i = kb) w1).set b 3 _ (fun _ => Or.inl rfl)).set kb 4 _ (fun _ => Or.inr rfl)).drew
  have hB2 : ((w1.setCell ⟨b, 3, none⟩ (.pointer kr.root)).setCell ⟨kb, 4, none⟩ (.pointer (some ⟨b, 0, none⟩))).drew.heap[b]? = some (nodeObj d (T.mv kd.w kr).root r.root) :=
    setOther (setAt B1.out 3 _ (by rw [T.root_mv]; rfl)) hne
  have hK2 : ((w1.setCell ⟨b, 3, none⟩ (.pointer kr.root)).setCell ⟨kb, 4, none⟩ (.pointer (some ⟨b, 0, none⟩))).drew.heap[kb]? = some (nodeObj { kd with w := 0 } (T.mv kd.w kl).root (some ⟨b, 0, none⟩)) :=
    setAt (setOther HKB.out hne') 4 _ rfl
  have hKL2 : Lies ((w1.setCell ⟨b, 3, none⟩ (.pointer kr.root)).setCell ⟨kb, 4, none⟩ (.pointer (some ⟨b, 0, none⟩))).drew (T.mv kd.w kl) := Lies.only o2 H1.out.2.1 (fun i hi x => by
    rw [T.ids_mv] at hi
    rcases x with rfl | rfl
    · exact N1.out (by simp [T.ids, hi])
    · exact K1.out hi)
  have hKR2 : Lies ((w1.setCell ⟨b, 3, none⟩ (.pointer kr.root)).setCell ⟨kb, 4, none⟩ (.pointer (some ⟨b, 0, none⟩))).drew (T.mv kd.w kr) := Lies.only o2 H1.out.2.2 (fun i hi x => by
    rw [T.ids_mv] at hi
    rcases x with rfl | rfl
    · exact N1.out (by simp [T.ids, hi])
    · exact K2.out hi)
  have hR2 : Lies ((w1.setCell ⟨b, 3, none⟩ (.pointer kr.root)).setCell ⟨kb, 4, none⟩ (.pointer (some ⟨b, 0, none⟩))).drew r := Lies.only o2 R1.out (fun i hi x => by
    rcases x with rfl | rfl
    · exact N2.out hi
    · exact N3.out _ (by simp [T.ids]) hi)
  have q1 : b ∉ (T.mv kd.w kr).ids := fun x => N1.out (by rw [T.ids_mv] at x; simp [T.ids, x])
  refine (told_calls b d (T.mv kd.w kr) r _ hB2 hKR2 hR2 q1 N2.out).mono ?_
  rintro e w3 ⟨rfl, h3, o3⟩
  have hK3 := o3.keep hK2 hne'
  have hKL3 := Lies.only o3 hKL2 (fun i hi x => N1.out (by rw [T.ids_mv] at hi; rw [x] at hi; simp [T.ids, hi]))
  have O2 := Lib.hid o2
  have O3 := Lib.hid o3
  have HK3 := Lib.hid hK3
  have HKL3 := Lib.hid hKL3
  have H3 := Lib.hid h3
  clear hB2 hK2 hKL2 hKR2 hR2 q1 o2 o3 hK3 hKL3 h3 g3 g4 gz gk
  go_wp2_with fail
  have p1 : kb ∉ (T.mv kd.w kl).ids := fun x => K1.out (by rwa [T.ids_mv] at x)
  have p2 : kb ∉ (T.told (.node b d (T.mv kd.w kr) r)).ids := fun x => by
    rw [T.ids_told] at x
    simp only [T.ids, T.ids_mv, List.mem_cons, List.mem_append] at x
    rcases x with x | x | x
    · exact hne' x
    · exact K2.out x
    · exact N3.out kb (by simp [T.ids]) x
  refine (told_calls kb { kd with w := 0 } (T.mv kd.w kl) (T.told (.node b d (T.mv kd.w kr) r)) _ HK3.out HKL3.out H3.out p1 p2).mono ?_
  rintro e w4 ⟨rfl, h4, o4⟩
  have H4 := Lib.hid h4
  have O4 := Lib.hid o4
  clear h4 o4 p1 p2
  go_wp2_with fail
  go_ret
  refine ⟨rfl, H4.out, ?_⟩
  have m0 : b ∈ (T.node b d (.node kb kd kl kr) r).ids := by simp [T.ids]
  have m1 : kb ∈ (T.node b d (.node kb kd kl kr) r).ids := by simp [T.ids]
  have m2 : ∀ i, kl.isAt i → i ∈ (T.node b d (.node kb kd kl kr) r).ids := fun i x => by simp [T.ids, T.isAt_mem x]
  have m3 : ∀ i, kr.isAt i → i ∈ (T.node b d (.node kb kd kl kr) r).ids := fun i x => by simp [T.ids, T.isAt_mem x]
  have a1 : Only (fun i => i ∈ (T.node b d (.node kb kd kl kr) r).ids) w w1 := O1.out.mono (fun i _ x => by
    rcases x with rfl | x | x
    · exact m1
    · exact m2 i x
    · exact m3 i x)
  refine ((a1.trans O2.out (fun _ _ h => h) ?_).trans O3.out (fun _ _ h => h) ?_).trans O4.out (fun _ _ h => h) ?_
  · rintro i _ (rfl | rfl)
    · exact m0
    · exact m1
  · rintro i _ rfl; exact m0
  · rintro i _ rfl; exact m1
set_option maxRecDepth 100000 in
set_option maxHeartbeats 2000000 in
theorem lift1_calls (b : Nat) (d : Nd) (kb : Nat) (kd : Nd) (kl kr l : T) (w : World) (hl : Lies w (.node b d l (.node kb kd kl kr))) (hn : (T.node b d l (.node kb kd kl kr)).ids.Nodup) :
    Calls Try.prog 68 #[.pointer (some ⟨b, 0, none⟩), .int .i64 1] w fun e w' => e = .returned (.pointer (some ⟨kb, 0, none⟩)) ∧ Lies w' (T.lift1 (.node b d l (.node kb kd kl kr))) ∧ Only (fun i => i ∈ (T.node b d l (.node kb kd kl kr)).ids) w w' := by
  obtain ⟨hb, hr, hk⟩ := hl
  obtain ⟨nr, nl, n2, n1, n3⟩ := nodup_node hn
  obtain ⟨nkl, nkr, k1, k2, k3⟩ := nodup_node nl
  have hne : ¬ b = kb := fun e => n1 (by simp [T.ids, e])
  have hne' : ¬ kb = b := fun e => hne e.symm
  have c3 := (nodeAt hb).c4
  simp only [T.root] at c3
  have HC := Lib.hid (down_calls kb kd kl kr w hk nl)
  have HB := Lib.hid hb
  have HR := Lib.hid hr
  have N1 := Lib.hid n1
  have N2 := Lib.hid n2
  have N3 := Lib.hid n3
  have K1 := Lib.hid k1
  have K2 := Lib.hid k2
  have K3 := Lib.hid k3
  clear hb hk hr hn nl nr n1 n2 n3 nkl nkr k1 k2 k3
  go_enter Try.func68, Try.ntmps68
  go_wp2_with fail
  refine HC.out.mono ?_
  rintro e w1 ⟨rfl, h1, o1⟩
  have hkb := h1.1
  have b1 : w1.heap[b]? = some (nodeObj d l.root (some ⟨kb, 0, none⟩)) := o1.keep HB.out (fun x => by
    rcases x with x | x | x
    · exact hne x
    · exact N1.out (by simp [T.ids, T.isAt_mem x])
    · exact N1.out (by simp [T.ids, T.isAt_mem x]))
  have r1 : Lies w1 l := Lies.only o1 HR.out (fun i hi x => by
    refine N3.out i hi ?_
    rcases x with x | x | x
    · simp [T.ids, x]
    · simp [T.ids, T.isAt_mem x]
    · simp [T.ids, T.isAt_mem x])
  have g3 := (nodeAt b1).c4
  have g4 := (nodeAt hkb).c3
  have gz := (nodeAt b1).fz
  have gk := (nodeAt hkb).fz
  simp only [T.root_mv] at g4
  have H1 := Lib.hid h1
  have O1 := Lib.hid o1
  have HKB := Lib.hid hkb
  have B1 := Lib.hid b1
  have R1 := Lib.hid r1
  clear h1 o1 hkb b1 r1 c3
  go_wp2_with fail
  go_region
  go_wp2_with fail
  have o2 : Only (fun i => i = b ∨ i = kb) w1 ((w1.setCell ⟨b, 4, none⟩ (.pointer kl.root)).setCell ⟨kb, 3, none⟩ (.pointer (some ⟨b, 0, none⟩))).drew :=
    (((Only.refl (fun i => i = b ∨ i = kb) w1).set b 4 _ (fun _ => Or.inl rfl)).set kb 3 _ (fun _ => Or.inr rfl)).drew
  have hB2 : ((w1.setCell ⟨b, 4, none⟩ (.pointer kl.root)).setCell ⟨kb, 3, none⟩ (.pointer (some ⟨b, 0, none⟩))).drew.heap[b]? = some (nodeObj d l.root (T.mv kd.w kl).root) :=
    setOther (setAt B1.out 4 _ (by rw [T.root_mv]; rfl)) hne
  have hK2 : ((w1.setCell ⟨b, 4, none⟩ (.pointer kl.root)).setCell ⟨kb, 3, none⟩ (.pointer (some ⟨b, 0, none⟩))).drew.heap[kb]? = some (nodeObj { kd with w := 0 } (some ⟨b, 0, none⟩) (T.mv kd.w kr).root) :=
    setAt (setOther HKB.out hne') 3 _ rfl
  have hKL2 : Lies ((w1.setCell ⟨b, 4, none⟩ (.pointer kl.root)).setCell ⟨kb, 3, none⟩ (.pointer (some ⟨b, 0, none⟩))).drew (T.mv kd.w kl) := Lies.only o2 H1.out.2.1 (fun i hi x => by
    rw [T.ids_mv] at hi
    rcases x with rfl | rfl
    · exact N1.out (by simp [T.ids, hi])
    · exact K1.out hi)
  have hKR2 : Lies ((w1.setCell ⟨b, 4, none⟩ (.pointer kl.root)).setCell ⟨kb, 3, none⟩ (.pointer (some ⟨b, 0, none⟩))).drew (T.mv kd.w kr) := Lies.only o2 H1.out.2.2 (fun i hi x => by
    rw [T.ids_mv] at hi
    rcases x with rfl | rfl
    · exact N1.out (by simp [T.ids, hi])
    · exact K2.out hi)
  have hR2 : Lies ((w1.setCell ⟨b, 4, none⟩ (.pointer kl.root)).setCell ⟨kb, 3, none⟩ (.pointer (some ⟨b, 0, none⟩))).drew l := Lies.only o2 R1.out (fun i hi x => by
    rcases x with rfl | rfl
    · exact N2.out hi
    · exact N3.out _ hi (by simp [T.ids]))
  have q1 : b ∉ (T.mv kd.w kl).ids := fun x => N1.out (by rw [T.ids_mv] at x; simp [T.ids, x])
  refine (told_calls b d l (T.mv kd.w kl) _ hB2 hR2 hKL2 N2.out q1).mono ?_
  rintro e w3 ⟨rfl, h3, o3⟩
  have hK3 := o3.keep hK2 hne'
  have hKL3 := Lies.only o3 hKR2 (fun i hi x => N1.out (by rw [T.ids_mv] at hi; rw [x] at hi; simp [T.ids, hi]))
  have O2 := Lib.hid o2
  have O3 := Lib.hid o3
  have HK3 := Lib.hid hK3
  have HKL3 := Lib.hid hKL3
  have H3 := Lib.hid h3
  clear hB2 hK2 hKL2 hKR2 hR2 q1 o2 o3 hK3 hKL3 h3 g3 g4 gz gk
  go_wp2_with fail
  have p1 : kb ∉ (T.mv kd.w kr).ids := fun x => K2.out (by rwa [T.ids_mv] at x)
  have p2 : kb ∉ (T.told (.node b d l (T.mv kd.w kl))).ids := fun x => by
    rw [T.ids_told] at x
    simp only [T.ids, T.ids_mv, List.mem_cons, List.mem_append] at x
    rcases x with x | x | x
    · exact hne' x
    · exact N3.out kb x (by simp [T.ids])
    · exact K1.out x
  refine (told_calls kb { kd with w := 0 } (T.told (.node b d l (T.mv kd.w kl))) (T.mv kd.w kr) _ HK3.out H3.out HKL3.out p2 p1).mono ?_
  rintro e w4 ⟨rfl, h4, o4⟩
  have H4 := Lib.hid h4
  have O4 := Lib.hid o4
  clear h4 o4 p1 p2
  go_wp2_with fail
  go_ret
  refine ⟨rfl, H4.out, ?_⟩
  have m0 : b ∈ (T.node b d l (.node kb kd kl kr)).ids := by simp [T.ids]
  have m1 : kb ∈ (T.node b d l (.node kb kd kl kr)).ids := by simp [T.ids]
  have m2 : ∀ i, kl.isAt i → i ∈ (T.node b d l (.node kb kd kl kr)).ids := fun i x => by simp [T.ids, T.isAt_mem x]
  have m3 : ∀ i, kr.isAt i → i ∈ (T.node b d l (.node kb kd kl kr)).ids := fun i x => by simp [T.ids, T.isAt_mem x]
  have a1 : Only (fun i => i ∈ (T.node b d l (.node kb kd kl kr)).ids) w w1 := O1.out.mono (fun i _ x => by
    rcases x with rfl | x | x
    · exact m1
    · exact m2 i x
    · exact m3 i x)
  refine ((a1.trans O2.out (fun _ _ h => h) ?_).trans O3.out (fun _ _ h => h) ?_).trans O4.out (fun _ _ h => h) ?_
  · rintro i _ (rfl | rfl)
    · exact m0
    · exact m1
  · rintro i _ rfl; exact m0
  · rintro i _ rfl; exact m1
end Go.Proofs.Ytmbclcplinmblaa
