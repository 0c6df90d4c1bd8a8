/- The walk of marks' even, the left side being the higher one, with a turn of its own. -/
import Derived.Test.YtmbclcplinmblaaW4
namespace Go.Proofs.Ytmbclcplinmblaa
open Go.RowKit

set_option maxRecDepth 100000 in
set_option maxHeartbeats 2000000 in
theorem even_LR (b : Nat) (d : Nd) (kb : Nat) (kd : Nd) (kl : T) (jb : Nat) (jd : Nd) (jl jr r : T) (w : World) (hl : Lies w (.node b d (.node kb kd kl (.node jb jd jl jr)) r)) (hn : (T.node b d (.node kb kd kl (.node jb jd jl jr)) r).ids.Nodup)
    (q1 : ¬ kd.h ≤ wrap64 (r.high + 1)) (q2 : kl.high < jd.h) (jd2 : Nd) (kl2 kr2 : T) (hX : T.lift1 (T.down (.node kb kd kl (.node jb jd jl jr))) = .node jb jd2 kl2 kr2) :
    Calls Try.prog 57 #[.pointer (some ⟨b, 0, none⟩)] w fun e w' => e = .returned (.pointer (some ⟨jb, 0, none⟩)) ∧ Lies w' (T.lift0 (.node b (T.toldD d (.node kb kd kl (.node jb jd jl jr)) r) (.node jb jd2 kl2 kr2) r)) ∧ Only (fun i => i ∈ (T.node b d (.node kb kd kl (.node jb jd jl jr)) r).ids) w w' := by
  obtain ⟨hb, hl, hr⟩ := hl
  obtain ⟨nl, nr, n1, n2, n3⟩ := nodup_node hn
  have HT := Lib.hid (told_calls b d (.node kb kd kl (.node jb jd jl jr)) r w hb hl hr n1 n2)
  have NL := Lib.hid nl
  have N1 := Lib.hid n1
  have N2 := Lib.hid n2
  have N3 := Lib.hid n3
  have HN := Lib.hid hn
  have HX := Lib.hid hX
  clear hX
  clear hb hl hr hn nl nr n1 n2 n3
  have i0 : ∀ w, (Instr.index 69 (.agg #[.pointer (some ⟨kb, 0, none⟩), .pointer r.root]) (.int .i64 0)).run Try.prog w = .ok (.pointer (some ⟨kb, 0, none⟩)) w := fun _ => by kernel_rfl
  have i1 : ∀ w, (Instr.index 69 (.agg #[.pointer (some ⟨kb, 0, none⟩), .pointer r.root]) (.int .i64 1)).run Try.prog w = .ok (.pointer r.root) w := fun _ => by kernel_rfl
  go_enter Try.func57, Try.ntmps57
  go_wp2_with fail
  refine HT.out.mono ?_
  rintro e w1 ⟨rfl, h1, o1⟩
  have c3 := (nodeAt h1.1).c3
  have c4 := (nodeAt h1.1).c4
  have E1 : Ev (fun i => i = b) w b (T.toldD d (.node kb kd kl (.node jb jd jl jr)) r) (.node kb kd kl (.node jb jd jl jr)) r w1 := ⟨h1.1, h1.2.1, h1.2.2, o1⟩
  clear h1 o1
  simp only [T.root] at c3
  go_wp2_with fail
  refine wp_loop_rounds 3 ?_
  rw [rounds_succ]
  go_wp2_with fail
  go_quiet (first | with_reducible exact high_quiet_node E1.l | with_reducible exact high_quiet E1.r)
  have E2 := E1.drewN nq
  clear E1 c3 c4
  generalize World.drewN _ nq = w2 at E2 ⊢
  go_wp2_with fail
  refine (down_calls kb kd kl (.node jb jd jl jr) _ E2.l NL.out).mono ?_
  rintro e w3 ⟨rfl, h3, o3⟩
  have hb3 := o3.keep E2.blk (fun x => by
    rcases x with x | x | x
    · exact N1.out (by simp [T.ids, x])
    · exact N1.out (by simp [T.ids, T.isAt_mem x])
    · exact N1.out (by have := T.isAt_mem x; simp only [T.ids, List.mem_cons, List.mem_append] at this ⊢; exact Or.inr (Or.inr this)))
  have hr3 : Lies w3 r := Lies.only o3 E2.r (fun i hi x => by
    refine N3.out i ?_ hi
    rcases x with x | x | x
    · simp [T.ids, x]
    · simp [T.ids, T.isAt_mem x]
    · have := T.isAt_mem x; simp only [T.ids, List.mem_cons, List.mem_append] at this ⊢; exact Or.inr (Or.inr this))
  have E3 : Ev (fun i => i ∈ (T.node b d (.node kb kd kl (.node jb jd jl jr)) r).ids) w b (T.toldD d (.node kb kd kl (.node jb jd jl jr)) r) (T.down (.node kb kd kl (.node jb jd jl jr))) r w3 :=
    ⟨hb3, h3, hr3, E2.only.trans o3 (by rintro i _ rfl; simp [T.ids]) (by
      rintro i _ (rfl | x | x)
      · simp [T.ids]
      · simp [T.ids, T.isAt_mem x]
      · have := T.isAt_mem x; simp only [T.ids, List.mem_cons, List.mem_append] at this ⊢; exact Or.inr (Or.inl (Or.inr (Or.inr this))))⟩
  have g3 := (nodeAt h3.1).c3
  have g4 := (nodeAt h3.1).c4
  simp only [T.root_mv] at g3
  simp only [T.mv, T.root] at g4
  have e3l : Lies w3 (T.mv kd.w kl) := h3.2.1
  have e3r : Lies w3 (.node jb (T.mvD kd.w jd) jl jr) := h3.2.2
  clear h3 o3 hb3 hr3 E2
  go_wp2_with fail
  have hw1 : IntKind.i64.wrap 1 = 1 := IntWalk.i64_in 1 (by omega)
  go_quiet (first | with_reducible exact high_quiet_mv e3l | with_reducible exact high_quiet_mvnode e3r)
  have E4 := E3.drewN nq
  clear E3 e3l e3r g3 g4
  generalize World.drewN _ nq = w4 at E4 ⊢
  go_wp2_with fail
  have hp : (T.node jb jd2 kl2 kr2).ids.Perm (T.node kb kd kl (.node jb jd jl jr)).ids := by
    rw [← HX.out]; exact (T.ids_lift1 _).trans (by rw [T.ids_down])
  have hL := lift1_calls kb { kd with w := 0 } jb (T.mvD kd.w jd) jl jr (T.mv kd.w kl) 
  have hgo : ∀ W, Lies W (T.down (.node kb kd kl (.node jb jd jl jr))) → Calls Try.prog 68 #[.pointer (some ⟨kb, 0, none⟩), .int .i64 1] W fun e w' => e = .returned (.pointer (some ⟨jb, 0, none⟩)) ∧ Lies w' (.node jb jd2 kl2 kr2) ∧ Only (fun i => i ∈ (T.node kb kd kl (.node jb jd jl jr)).ids) W w' := fun W hW => by
    refine (hL W hW (by simpa [T.ids, T.ids_mv] using NL.out)).mono ?_
    rintro e w' ⟨h1, h2, h3⟩
    refine ⟨h1, ?_, h3.mono (fun i _ h => by simpa [T.ids, T.ids_mv] using h)⟩
    rw [← HX.out]; exact h2
  have HP := Lib.hid hp
  have HG := Lib.hid hgo
  clear hp hL hgo hw1
  have c3 := (nodeAt E4.blk).c3
  have fz := (nodeAt E4.blk).fz
  go_region_with (go_at_call 68; refine (HG.out _ (Lies.only (Only.drew (Only.refl (fun _ => False) w4)) E4.l (fun _ _ h => h))).mono ?_; rintro e w5 ⟨rfl, h5, o5⟩; have b5 := o5.keep E4.blk N1.out; have c35 := (nodeAt b5).c3; have fz5 := (nodeAt b5).fz)
  have r5 : Lies w5 r := Lies.only o5 E4.r.drew (fun i hi x => N3.out i x hi)
  have o6 : Only (fun i => i = b) w5 (w5.setCell ⟨b, 3, none⟩ (.pointer (some ⟨jb, 0, none⟩))) := (Only.refl (fun i => i = b) w5).set b 3 _ (fun _ => rfl)
  have nb : ∀ i ∈ (T.node jb jd2 kl2 kr2).ids, ¬ i = b := fun i hi e => N1.out (HP.out.mem_iff.1 (e ▸ hi))
  have b6 : (w5.setCell ⟨b, 3, none⟩ (.pointer (some ⟨jb, 0, none⟩))).heap[b]? = some (nodeObj (T.toldD d (.node kb kd kl (.node jb jd jl jr)) r) (some ⟨jb, 0, none⟩) r.root) := setAt b5 3 _ rfl
  have E6 : Ev (fun i => i ∈ (T.node b d (.node kb kd kl (.node jb jd jl jr)) r).ids) w b (T.toldD d (.node kb kd kl (.node jb jd jl jr)) r) (.node jb jd2 kl2 kr2) r (w5.setCell ⟨b, 3, none⟩ (.pointer (some ⟨jb, 0, none⟩))) :=
    ⟨b6, Lies.only o6 h5 nb, Lies.only o6 r5 (fun i hi e => N2.out (e ▸ hi)),
     (E4.only.drew.trans o5 (fun _ _ h => h) (fun i _ h => by simp only [T.ids, List.mem_cons, List.mem_append] at h ⊢; exact Or.inr (Or.inl h))).trans o6 (fun _ _ h => h) (by rintro i _ rfl; simp [T.ids])⟩
  have nd : (T.node b (T.toldD d (.node kb kd kl (.node jb jd jl jr)) r) (.node jb jd2 kl2 kr2) r).ids.Nodup := ((HP.out.append_right r.ids).cons b).nodup_iff.2 HN.out
  have sub : ∀ i ∈ (T.node b (T.toldD d (.node kb kd kl (.node jb jd jl jr)) r) (.node jb jd2 kl2 kr2) r).ids, i ∈ (T.node b d (.node kb kd kl (.node jb jd jl jr)) r).ids := fun i hi => ((HP.out.append_right r.ids).cons b).mem_iff.1 hi
  have ND := Lib.hid nd
  have SUB := Lib.hid sub
  clear h5 o5 b5 c35 fz5 r5 o6 nb b6 nd sub E4 c3 fz
  generalize w5.setCell ⟨b, 3, none⟩ (.pointer (some ⟨jb, 0, none⟩)) = w6 at E6 ⊢
  go_wp2_with fail
  refine (lift0_calls b (T.toldD d (.node kb kd kl (.node jb jd jl jr)) r) jb jd2 kl2 kr2 r _ ⟨E6.blk, E6.l, E6.r⟩ ND.out).mono ?_
  rintro e w7 ⟨rfl, h7, o7⟩
  have H7 := Lib.hid h7
  have O7 := Lib.hid o7
  clear h7 o7
  go_wp2_with fail
  go_ret
  exact ⟨rfl, H7.out, E6.only.trans O7.out (fun _ _ h => h) (fun i _ h => SUB.out i h)⟩
end Go.Proofs.Ytmbclcplinmblaa
