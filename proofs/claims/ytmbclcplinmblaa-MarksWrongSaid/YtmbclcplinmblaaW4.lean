/- The walk of marks' even. -/
import Derived.Test.YtmbclcplinmblaaW3
import Derived.Deep.RegionWith
import Derived.LoopN
namespace Go.Proofs.Ytmbclcplinmblaa
open Go.RowKit

/-- the height's walk in any world that only draws have turned -/
theorem high_quiet {t : T} {w : World} {n : Nat} (hl : Lies w t) : Calls Try.prog 48 #[.pointer t.root] (w.drewN n) fun e w' => e = .returned (.int .i64 t.high) ∧ ∃ m, w' = w.drewN m :=
  Calls.quiet_of_same (high_still (Lies.only ((Only.refl (fun _ => False) w).drewN n) hl (fun _ _ h => h)))
theorem Lies.drewN {w : World} {t : T} (h : Lies w t) (n : Nat) : Lies (w.drewN n) t := Lies.only (S := fun _ => False) ((Only.refl _ w).drewN n) h (fun _ _ e => e)

/-- .. of a tree that was moved -/
theorem high_quiet_mv {t : T} {x : Int} {w : World} {n : Nat} (hl : Lies w (t.mv x)) : Calls Try.prog 48 #[.pointer t.root] (w.drewN n) fun e w' => e = .returned (.int .i64 t.high) ∧ ∃ m, w' = w.drewN m := by
  have := high_quiet (n := n) hl
  rwa [T.root_mv, T.high_mv] at this

theorem high_quiet_node {b : Nat} {d : Nd} {l r : T} {w : World} {n : Nat} (hl : Lies w (.node b d l r)) : Calls Try.prog 48 #[.pointer (some ⟨b, 0, none⟩)] (w.drewN n) fun e w' => e = .returned (.int .i64 d.h) ∧ ∃ m, w' = w.drewN m :=
  high_quiet hl

theorem high_quiet_mvnode {b : Nat} {d : Nd} {x : Int} {l r : T} {w : World} {n : Nat} (hl : Lies w (.node b (T.mvD x d) l r)) : Calls Try.prog 48 #[.pointer (some ⟨b, 0, none⟩)] (w.drewN n) fun e w' => e = .returned (.int .i64 d.h) ∧ ∃ m, w' = w.drewN m :=
  high_quiet hl

/-- a node and its two trees lie in w'; outside S nothing has turned since w -/
structure Ev (S : Nat → Prop) (w : World) (b : Nat) (d : Nd) (l r : T) (w' : World) : Prop where
  blk : w'.heap[b]? = some (nodeObj d l.root r.root)
  l : Lies w' l
  r : Lies w' r
  only : Only S w w'
theorem Ev.drewN {S : Nat → Prop} {w : World} {b : Nat} {d : Nd} {l r : T} {w' : World} (h : Ev S w b d l r w') (n : Nat) : Ev S w b d l r (w'.drewN n) :=
  ⟨h.blk, h.l.drewN n, h.r.drewN n, h.only.drewN n⟩

set_option maxRecDepth 100000 in
set_option maxHeartbeats 2000000 in
theorem even_none (b : Nat) (d : Nd) (l r : T) (w : World) (hl : Lies w (.node b d l r)) (hn : (T.node b d l r).ids.Nodup)
    (q1 : l.high ≤ wrap64 (r.high + 1)) (q2 : r.high ≤ wrap64 (l.high + 1)) :
    Calls Try.prog 57 #[.pointer (some ⟨b, 0, none⟩)] w fun e w' => e = .returned (.pointer (some ⟨b, 0, none⟩)) ∧ Lies w' (.node b (T.toldD d l r) l r) ∧ Only (fun i => i ∈ (T.node b d l r).ids) w w' := by
  obtain ⟨hb, hl, hr⟩ := hl
  obtain ⟨nl, nr, n1, n2, n3⟩ := nodup_node hn
  have HT := Lib.hid (told_calls b d l r w hb hl hr n1 n2)
  clear hb hl hr hn nl nr n1 n2 n3
  have i0 : ∀ w, (Instr.index 69 (.agg #[.pointer l.root, .pointer r.root]) (.int .i64 0)).run Try.prog w = .ok (.pointer l.root) w := fun _ => by kernel_rfl
  have i1 : ∀ w, (Instr.index 69 (.agg #[.pointer l.root, .pointer r.root]) (.int .i64 1)).run Try.prog w = .ok (.pointer r.root) w := fun _ => by kernel_rfl
  go_enter Try.func57, Try.ntmps57
  go_wp2_with fail
  refine HT.out.mono ?_
  rintro e w1 ⟨rfl, h1, o1⟩
  have c3 := (nodeAt h1.1).c3
  have c4 := (nodeAt h1.1).c4
  have E1 : Ev (fun i => i = b) w b (T.toldD d l r) l r w1 := ⟨h1.1, h1.2.1, h1.2.2, o1⟩
  clear h1 o1
  go_wp2_with fail
  refine wp_loop_rounds 3 ?_
  rw [rounds_succ]
  go_wp2_with fail
  go_quiet (first | exact high_quiet E1.l | exact high_quiet E1.r)
  have E2 := E1.drewN nq
  clear E1 c3 c4
  generalize World.drewN _ nq = w2 at E2 ⊢
  have c3 := (nodeAt E2.blk).c3
  have c4 := (nodeAt E2.blk).c4
  go_wp2_with fail
  rw [rounds_succ]
  go_wp2_with fail
  go_quiet (first | exact high_quiet E2.l | exact high_quiet E2.r)
  have E3 := E2.drewN nq
  clear E2 c3 c4
  generalize World.drewN _ nq = w3 at E3 ⊢
  have c3 := (nodeAt E3.blk).c3
  have c4 := (nodeAt E3.blk).c4
  go_wp2_with fail
  rw [rounds_succ]
  go_wp2_with fail
  go_ret
  exact ⟨rfl, ⟨E3.blk, E3.l, E3.r⟩, E3.only.mono (by rintro i _ rfl; simp [T.ids])⟩

set_option maxRecDepth 100000 in
set_option maxHeartbeats 2000000 in
theorem even_LL (b : Nat) (d : Nd) (kb : Nat) (kd : Nd) (kl kr r : T) (w : World) (hl : Lies w (.node b d (.node kb kd kl kr) r)) (hn : (T.node b d (.node kb kd kl kr) r).ids.Nodup)
    (q1 : ¬ kd.h ≤ wrap64 (r.high + 1)) (q2 : ¬ kl.high < kr.high) :
    Calls Try.prog 57 #[.pointer (some ⟨b, 0, none⟩)] w fun e w' => e = .returned (.pointer (some ⟨kb, 0, none⟩)) ∧ Lies w' (T.lift0 (.node b (T.toldD d (.node kb kd kl kr) r) (T.down (.node kb kd kl kr)) r)) ∧ Only (fun i => i ∈ (T.node b d (.node kb kd kl kr) r).ids) w w' := by
  obtain ⟨hb, hl, hr⟩ := hl
  obtain ⟨nl, nr, n1, n2, n3⟩ := nodup_node hn
  have HT := Lib.hid (told_calls b d (.node kb kd kl kr) r w hb hl hr n1 n2)
  have NL := Lib.hid nl
  have N1 := Lib.hid n1
  have N2 := Lib.hid n2
  have N3 := Lib.hid n3
  have HN := Lib.hid hn
  clear hb hl hr hn nl nr n1 n2 n3
  have i0 : ∀ w, (Instr.index 69 (.agg #[.pointer (some ⟨kb, 0, none⟩), .pointer r.root]) (.int .i64 0)).run Try.prog w = .ok (.pointer (some ⟨kb, 0, none⟩)) w := fun _ => by kernel_rfl
  have i1 : ∀ w, (Instr.index 69 (.agg #[.pointer (some ⟨kb, 0, none⟩), .pointer r.root]) (.int .i64 1)).run Try.prog w = .ok (.pointer r.root) w := fun _ => by kernel_rfl
  go_enter Try.func57, Try.ntmps57
  go_wp2_with fail
  refine HT.out.mono ?_
  rintro e w1 ⟨rfl, h1, o1⟩
  have c3 := (nodeAt h1.1).c3
  have c4 := (nodeAt h1.1).c4
  have E1 : Ev (fun i => i = b) w b (T.toldD d (.node kb kd kl kr) r) (.node kb kd kl kr) r w1 := ⟨h1.1, h1.2.1, h1.2.2, o1⟩
  clear h1 o1
  simp only [T.root] at c3
  go_wp2_with fail
  refine wp_loop_rounds 3 ?_
  rw [rounds_succ]
  go_wp2_with fail
  go_quiet (first | with_reducible exact high_quiet_node E1.l | with_reducible exact high_quiet E1.r)
  have E2 := E1.drewN nq
  clear E1 c3 c4
  generalize World.drewN _ nq = w2 at E2 ⊢
  go_wp2_with fail
  refine (down_calls kb kd kl kr _ E2.l NL.out).mono ?_
  rintro e w3 ⟨rfl, h3, o3⟩
  have hb3 := o3.keep E2.blk (fun x => by
    rcases x with x | x | x
    · exact N1.out (by simp [T.ids, x])
    · exact N1.out (by simp [T.ids, T.isAt_mem x])
    · exact N1.out (by simp [T.ids, T.isAt_mem x]))
  have hr3 : Lies w3 r := Lies.only o3 E2.r (fun i hi x => by
    refine N3.out i ?_ hi
    rcases x with x | x | x
    · simp [T.ids, x]
    · simp [T.ids, T.isAt_mem x]
    · simp [T.ids, T.isAt_mem x])
  have E3 : Ev (fun i => i ∈ (T.node b d (.node kb kd kl kr) r).ids) w b (T.toldD d (.node kb kd kl kr) r) (T.down (.node kb kd kl kr)) r w3 :=
    ⟨hb3, h3, hr3, E2.only.trans o3 (by rintro i _ rfl; simp [T.ids]) (by
      rintro i _ (rfl | x | x)
      · simp [T.ids]
      · simp [T.ids, T.isAt_mem x]
      · simp [T.ids, T.isAt_mem x])⟩
  have g3 := (nodeAt h3.1).c3
  have g4 := (nodeAt h3.1).c4
  simp only [T.root_mv] at g3 g4
  have e3l : Lies w3 (T.mv kd.w kl) := h3.2.1
  have e3r : Lies w3 (T.mv kd.w kr) := h3.2.2
  clear h3 o3 hb3 hr3 E2
  go_wp2_with fail
  go_quiet (first | with_reducible exact high_quiet_mv e3l | with_reducible exact high_quiet_mv e3r)
  have E4 := E3.drewN nq
  clear E3 e3l e3r g3 g4
  generalize World.drewN _ nq = w4 at E4 ⊢
  go_wp2_with fail
  refine (lift0_calls b (T.toldD d (.node kb kd kl kr) r) kb { kd with w := 0 } (T.mv kd.w kl) (T.mv kd.w kr) r _ ⟨E4.blk, E4.l, E4.r⟩ (by simpa [T.ids, T.ids_mv] using HN.out)).mono ?_
  rintro e w5 ⟨rfl, h5, o5⟩
  have H5 := Lib.hid h5
  have O5 := Lib.hid o5
  clear h5 o5
  go_wp2_with fail
  go_ret
  refine ⟨rfl, H5.out, E4.only.trans O5.out (fun _ _ h => h) (fun i _ h => by simpa [T.ids, T.ids_mv] using h)⟩
end Go.Proofs.Ytmbclcplinmblaa
