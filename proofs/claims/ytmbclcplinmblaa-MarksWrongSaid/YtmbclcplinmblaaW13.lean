/- The walk of marks' tail. -/
import Derived.Test.YtmbclcplinmblaaW12
import Derived.Test.YtmbclcplinmblaaTailS
namespace Go.Proofs.Ytmbclcplinmblaa
open Go.RowKit

/-- behind 'look' at a node -/
structure Lk (w : World) (tb sb : Nat) (rt : Option Addr) (p0 p1 : Value) (b : Nat) (d : Nd) (l r : T) (w1 : World) : Prop where
  blk : w1.heap[b]? = some (nodeObj { d with w := 0 } (l.mv d.w).root (r.mv d.w).root)
  ll : Lies w1 (l.mv d.w)
  lr : Lies w1 (r.mv d.w)
  host : Host w1 tb sb rt p0 p1
  only : Only (fun i => i = sb ∨ i ∈ (T.node b d l r).ids) w w1

def TailPost (p x : Int) (t : T) (tb sb : Nat) (rt : Option Addr) (p0 p1 : Value) (w : World) (e : Ending) (w' : World) : Prop :=
  ∃ t', e = .returned (.tuple #[]) ∧ Lies w' t' ∧ Host w' tb sb rt p0 p1 ∧ Only (fun i => i = sb ∨ i ∈ t.ids) w w' ∧ t'.ids = t.ids ∧ t'.root = t.root ∧ t'.Gd ∧ t'.flat 0 = (t.flat 0).map (tailS p x) ∧ t'.size = t.size

set_option maxHeartbeats 400000 in
theorem tail_nil (p x : Int) (tb sb : Nat) (rt : Option Addr) (p0 p1 : Value) (w : World) (hh : Host w tb sb rt p0 p1) :
    Calls Try.prog 47 #[.pointer (some ⟨tb, 0, none⟩), .pointer none, .int .i64 p, .int .i64 x] w (TailPost p x .nil tb sb rt p0 p1 w) := by
  have HF : Hid (TailPost p x .nil tb sb rt p0 p1 w (.returned (.tuple #[])) w) := ⟨.nil, rfl, trivial, hh, Only.refl _ _, rfl, rfl, T.Gd.nil, rfl, rfl⟩
  clear hh
  go_enter Try.func47, Try.ntmps47
  go_wp2_with fail
  first | go_end0 | refine bodyPost_ret (results_none rfl _ _ _) rfl ?_
  exact HF.out

/-- what the two ways through tail end in -/
theorem tail_fin {b : Nat} {d : Nd} {l r l1 r1 : T} {d1 : Nd} {w w4 w5 : World} {p x : Int} {tb sb : Nat} {rt : Option Addr} {p0 p1 : Value} (ns : sb ∉ (T.node b d l r).ids) (nt : tb ∉ (T.node b d l r).ids)
    (h4 : Host w4 tb sb rt p0 p1) (o4 : Only (fun i => i = sb ∨ i ∈ (T.node b d l r).ids) w w4) (il : l1.ids = l.ids) (ir : r1.ids = r.ids) (gl : l1.Gd) (gr : r1.Gd) (hw : d1.w = 0) (hf : T.inR d1.f) (ht : T.inR d1.t) (sz : l1.size + r1.size < 4611686018427387904) (ss : l1.size + r1.size = l.size + r.size)
    (hfl : l1.flat 0 ++ T.own d1 :: r1.flat 0 = ((T.node b d l r).flat 0).map (tailS p x)) (h5 : Lies w5 (T.told (.node b d1 l1 r1))) (o5 : Only (fun i => i = b) w4 w5) :
    TailPost p x (.node b d l r) tb sb rt p0 p1 w (.returned (.tuple #[])) w5 := by
  have hb : b ∈ (T.node b d l r).ids := by simp [T.ids]
  refine ⟨T.told (.node b d1 l1 r1), rfl, h5, h4.only o5 (fun e => nt (e ▸ hb)) (fun e => ns (e ▸ hb)), o4.trans o5 (fun _ _ h => h) (fun i _ h => Or.inr (h ▸ hb)), by simp [T.told, T.ids, il, ir], rfl, T.Gd.told gl gr hw hf ht sz, ?_, by simp only [T.told, T.size]; omega⟩
  rw [T.flat_told, T.flat_still hw, ← hfl]
  simp only [Int.add_zero, hf.eq, ht.eq, T.own]

set_option maxRecDepth 100000 in
set_option maxHeartbeats 2000000 in
theorem tail_ge (p x : Int) (b : Nat) (d : Nd) (l r : T) (tb sb : Nat) (rt : Option Addr) (p0 p1 : Value) (w : World) (hh : Host w tb sb rt p0 p1) (hl : Lies w (.node b d l r)) (hn : (T.node b d l r).ids.Nodup)
    (ns : sb ∉ (T.node b d l r).ids) (nt : tb ∉ (T.node b d l r).ids) (snd : Sound (.node b d l r)) (hx : -1152921504606846976 ≤ x ∧ x ≤ 1152921504606846976) (hm : Mv p x ((T.node b d l r).flat 0)) (hp : p ≤ d.f)
    (ih : ∀ W, Host W tb sb rt p0 p1 → Lies W (l.mv d.w) → Calls Try.prog 47 #[.pointer (some ⟨tb, 0, none⟩), .pointer l.root, .int .i64 p, .int .i64 x] W (TailPost p x (l.mv d.w) tb sb rt p0 p1 W)) :
    Calls Try.prog 47 #[.pointer (some ⟨tb, 0, none⟩), .pointer (some ⟨b, 0, none⟩), .int .i64 p, .int .i64 x] w (TailPost p x (.node b d l r) tb sb rt p0 p1 w) := by
  have HK := Lib.hid (look_calls b d l r w tb sb rt p0 p1 hh hl hn ns nt)
  have IH := Lib.hid ih
  have HN := Lib.hid hn
  have HNS := Lib.hid ns
  have HNT := Lib.hid nt
  have SND := Lib.hid snd
  have HX := Lib.hid hx
  have HM := Lib.hid hm
  have HP := Lib.hid hp
  have HMV := Lib.hid (fun W (hW : Lies W (r.mv d.w)) => by have := move_calls (r.mv d.w) x W hW (by rw [T.ids_mv]; exact (nodup_node hn).2.1); rwa [T.root_mv] at this)
  clear hh hl hn ns nt snd hx hm ih
  go_enter Try.func47, Try.ntmps47
  go_wp2_with fail
  refine HK.out.mono ?_
  rintro e w1 ⟨rfl, h1, h2, h3⟩
  have L1 : Lk w tb sb rt p0 p1 b d l r w1 := ⟨h1.1, h1.2.1, h1.2.2, h2, h3⟩
  clear h1 h2 h3
  have y0 := (nodeAt L1.blk).c0
  have y1 := (nodeAt L1.blk).c1
  have y3 := (nodeAt L1.blk).c3
  have y4 := (nodeAt L1.blk).c4
  have yz := (nodeAt L1.blk).fz
  simp only [T.root_mv] at y3 y4
  go_wp2_with fail
  go_region
  go_wp2_with fail
  have hne : sb ≠ b := fun e => HNS.out (by simp [T.ids, e])
  have hnt : tb ≠ b := fun e => HNT.out (by simp [T.ids, e])
  have N := nodup_node HN.out
  have o2 : Only (fun i => i = b) w1 ((w1.setCell ⟨b, 0, none⟩ (.int .i64 (wrap64 (d.f + x)))).setCell ⟨b, 1, none⟩ (.int .i64 (wrap64 (d.t + x)))).drew :=
    (((Only.refl (fun i => i = b) w1).set b 0 _ (fun _ => rfl)).set b 1 _ (fun _ => rfl)).drew
  have b2 : ((w1.setCell ⟨b, 0, none⟩ (.int .i64 (wrap64 (d.f + x)))).setCell ⟨b, 1, none⟩ (.int .i64 (wrap64 (d.t + x)))).drew.heap[b]? = some (nodeObj { d with f := wrap64 (d.f + x), t := wrap64 (d.t + x), w := 0 } (l.mv d.w).root (r.mv d.w).root) :=
    setAt (setAt L1.blk 0 _ rfl) 1 _ rfl
  have l2 := Lies.only o2 L1.ll (by rw [T.ids_mv]; exact one_ids N.2.2.1)
  have r2 := Lies.only o2 L1.lr (by rw [T.ids_mv]; exact one_ids N.2.2.2.1)
  have h2 := L1.host.only o2 hnt hne
  have o2' : Only (fun i => i = sb ∨ i ∈ (T.node b d l r).ids) w _ := L1.only.trans o2 (fun _ _ h => h) (fun i _ h => Or.inr (by simp [T.ids, h]))
  clear L1 y0 y1 y3 y4 yz o2
  generalize ((w1.setCell ⟨b, 0, none⟩ (.int .i64 (wrap64 (d.f + x)))).setCell ⟨b, 1, none⟩ (.int .i64 (wrap64 (d.t + x)))).drew = w2 at b2 l2 r2 h2 o2' ⊢
  refine (HMV.out _ r2).mono ?_
  rintro e w3 ⟨rfl, r3, o3⟩
  have rin : ∀ i, (r.mv d.w).isAt i → i ∈ r.ids := fun i hi => by have := T.isAt_mem hi; rwa [T.ids_mv] at this
  have rsub : ∀ i, i ∈ r.ids → i ∈ (T.node b d l r).ids := fun i hi => by simp [T.ids, hi]
  have b3 := o3.keep b2 (fun h => N.2.2.2.1 (rin _ h))
  have l3 := Lies.only o3 l2 (fun i hi h => N.2.2.2.2 i (by rwa [T.ids_mv] at hi) (rin _ h))
  have h3 := h2.only o3 (fun h => HNT.out (rsub _ (rin _ h))) (fun h => HNS.out (rsub _ (rin _ h)))
  have o3' : Only (fun i => i = sb ∨ i ∈ (T.node b d l r).ids) w w3 := o2'.trans o3 (fun _ _ h => h) (fun i _ h => Or.inr (rsub _ (rin _ h)))
  clear b2 l2 r2 h2 o2' o3
  have y3 := (nodeAt b3).c3
  simp only [T.root_mv] at y3
  have HB3 := Lib.hid b3
  clear b3 hne hnt
  go_wp2_with fail
  refine (IH.out _ h3 l3).mono ?_
  rintro e w4 ⟨l1, rfl, hl4, h4, o4, il, irt, gl, fl, sl⟩
  have lsub : ∀ i, i ∈ l.ids → i ∈ (T.node b d l r).ids := fun i hi => by simp [T.ids, hi]
  rw [T.ids_mv] at o4
  have b4 := o4.keep HB3.out (by
    rintro (h | h)
    · exact HNS.out (by simp [T.ids, h])
    · exact N.2.2.1 h)
  have r4 := Lies.only o4 r3 (fun i hi h => by
    rw [T.ids_mv, T.ids_mv] at hi
    rcases h with h | h
    · exact HNS.out (h ▸ rsub i hi)
    · exact N.2.2.2.2 i h hi)
  have o4' : Only (fun i => i = sb ∨ i ∈ (T.node b d l r).ids) w w4 := o3'.trans o4 (fun _ _ h => h) (fun i _ h => h.imp id (lsub i))
  obtain ⟨s1, s2, hf, ht, ef, q1, q2⟩ := SND.out.kids
  have hm' := HM.out
  rw [ef] at hm'
  have gr : ((r.mv d.w).mv x).Gd := T.Gd.mv s2.gd HX.out (fun s hs => by
    have := hm' s (by simp [hs])
    have h2 := lt_f (q2 s hs)
    have h3 : (T.own d).f = d.f := rfl
    have h4 := HP.out
    exact ⟨this.1, this.2.1, this.2.2 (by omega)⟩)
  have hfl : l1.flat 0 ++ T.own { d with f := wrap64 (d.f + x), t := wrap64 (d.t + x), w := 0 } :: ((r.mv d.w).mv x).flat 0 = ((T.node b d l r).flat 0).map (tailS p x) := by
    rw [ef, List.map_append, List.map_cons, fl, T.flat_mv0 x (r.mv d.w)]
    rw [tailS_map_ge (l := (r.mv d.w).flat 0) (fun s hs => by
      have h2 := lt_f (q2 s hs)
      have h3 : (T.own d).f = d.f := rfl
      have h4 := HP.out
      omega)]
    congr 2
    show _ = tailS p x (T.own d)
    unfold tailS
    rw [if_pos (show p ≤ (T.own d).f from HP.out)]
    rfl
  have z1 := s1.small
  have z2 := s2.small
  have HF := Lib.hid (fun w5 => tail_fin (d := d) (r1 := (r.mv d.w).mv x) (l := l) (r := r) (p := p) (x := x) (w5 := w5) (w := w) (w4 := w4) (tb := tb) (sb := sb) (rt := rt) (p0 := p0) (p1 := p1) (b := b) (l1 := l1) (d1 := { d with f := wrap64 (d.f + x), t := wrap64 (d.t + x), w := 0 }) HNS.out HNT.out h4 o4' (by rw [il, T.ids_mv]) (by rw [T.ids_mv, T.ids_mv]) gl gr rfl (T.inR_wrap _) (T.inR_wrap _) (by simp only [T.size_mv] at *; omega) (by simp only [T.size_mv] at *; omega) hfl)
  have q5 : b ∉ l1.ids := by rw [il, T.ids_mv]; exact N.2.2.1
  have q6 : b ∉ ((r.mv d.w).mv x).ids := by rw [T.ids_mv, T.ids_mv]; exact N.2.2.2.1
  have HT := Lib.hid (told_calls b { d with f := wrap64 (d.f + x), t := wrap64 (d.t + x), w := 0 } l1 ((r.mv d.w).mv x) w4 (by rw [irt, T.root_mv x]; exact b4) hl4 r4 q5 q6)
  clear y3 r3 h3 o3' l3 hl4 h4 o4 il irt gl fl sl b4 r4 o4' s1 s2 hf ht ef q1 q2 hm' gr hfl z1 z2 q5 q6 lsub rsub rin N
  go_wp2_with fail
  refine HT.out.mono ?_
  rintro e w5 ⟨rfl, h5, o5⟩
  have HG := Lib.hid (HF.out _ h5 o5)
  clear h5 o5
  go_wp2_with fail
  go_end0
  exact HG.out

set_option maxRecDepth 100000 in
set_option maxHeartbeats 2000000 in
theorem tail_lt (p x : Int) (b : Nat) (d : Nd) (l r : T) (tb sb : Nat) (rt : Option Addr) (p0 p1 : Value) (w : World) (hh : Host w tb sb rt p0 p1) (hl : Lies w (.node b d l r)) (hn : (T.node b d l r).ids.Nodup)
    (ns : sb ∉ (T.node b d l r).ids) (nt : tb ∉ (T.node b d l r).ids) (snd : Sound (.node b d l r)) (hp : d.f < p)
    (ih : ∀ W, Host W tb sb rt p0 p1 → Lies W (r.mv d.w) → Calls Try.prog 47 #[.pointer (some ⟨tb, 0, none⟩), .pointer r.root, .int .i64 p, .int .i64 x] W (TailPost p x (r.mv d.w) tb sb rt p0 p1 W)) :
    Calls Try.prog 47 #[.pointer (some ⟨tb, 0, none⟩), .pointer (some ⟨b, 0, none⟩), .int .i64 p, .int .i64 x] w (TailPost p x (.node b d l r) tb sb rt p0 p1 w) := by
  have HK := Lib.hid (look_calls b d l r w tb sb rt p0 p1 hh hl hn ns nt)
  have IH := Lib.hid ih
  have HN := Lib.hid hn
  have HNS := Lib.hid ns
  have HNT := Lib.hid nt
  have SND := Lib.hid snd
  have HP := Lib.hid hp
  have hp' : ¬ p ≤ d.f := by omega
  clear hh hl hn ns nt snd hp ih
  go_enter Try.func47, Try.ntmps47
  go_wp2_with fail
  refine HK.out.mono ?_
  rintro e w1 ⟨rfl, h1, h2, h3⟩
  have L1 : Lk w tb sb rt p0 p1 b d l r w1 := ⟨h1.1, h1.2.1, h1.2.2, h2, h3⟩
  clear h1 h2 h3
  have y0 := (nodeAt L1.blk).c0
  have y4 := (nodeAt L1.blk).c4
  simp only [T.root_mv] at y4
  go_wp2_with fail
  refine (IH.out _ L1.host L1.lr).mono ?_
  rintro e w4 ⟨r1, rfl, hr4, h4, o4, ir, irt, gr, fr, sr⟩
  have N := nodup_node HN.out
  have lsub : ∀ i, i ∈ l.ids → i ∈ (T.node b d l r).ids := fun i hi => by simp [T.ids, hi]
  have rsub : ∀ i, i ∈ r.ids → i ∈ (T.node b d l r).ids := fun i hi => by simp [T.ids, hi]
  rw [T.ids_mv] at o4
  have b4 := o4.keep L1.blk (by
    rintro (h | h)
    · exact HNS.out (by simp [T.ids, h])
    · exact N.2.2.2.1 h)
  have l4 := Lies.only o4 L1.ll (fun i hi h => by
    rw [T.ids_mv] at hi
    rcases h with h | h
    · exact HNS.out (h ▸ lsub i hi)
    · exact N.2.2.2.2 i hi h)
  have o4' : Only (fun i => i = sb ∨ i ∈ (T.node b d l r).ids) w w4 := L1.only.trans o4 (fun _ _ h => h) (fun i _ h => h.imp id (rsub i))
  obtain ⟨s1, s2, hf, ht, ef, q1, q2⟩ := SND.out.kids
  have hfl : (l.mv d.w).flat 0 ++ T.own { d with w := 0 } :: r1.flat 0 = ((T.node b d l r).flat 0).map (tailS p x) := by
    rw [ef, List.map_append, List.map_cons, fr]
    rw [tailS_map_lt (l := (l.mv d.w).flat 0) (fun s hs => by
      have h2 := lt_f (q1 s hs)
      have h3 : (T.own d).f = d.f := rfl
      have h4 := HP.out
      omega)]
    congr 2
    show _ = tailS p x (T.own d)
    unfold tailS
    rw [if_neg (show ¬ p ≤ (T.own d).f from by have := HP.out; show ¬ p ≤ d.f; omega)]
    rfl
  have z1 := s1.small
  have z2 := s2.small
  have HF := Lib.hid (fun w5 => tail_fin (d := d) (l1 := l.mv d.w) (l := l) (r := r) (p := p) (x := x) (w5 := w5) (w := w) (w4 := w4) (tb := tb) (sb := sb) (rt := rt) (p0 := p0) (p1 := p1) (b := b) (r1 := r1) (d1 := { d with w := 0 }) HNS.out HNT.out h4 o4' (T.ids_mv _ _) (by rw [ir, T.ids_mv]) s1.gd gr rfl hf ht (by simp only [T.size_mv] at *; omega) (by simp only [T.size_mv] at *; omega) hfl)
  have q5 : b ∉ (l.mv d.w).ids := by rw [T.ids_mv]; exact N.2.2.1
  have q6 : b ∉ r1.ids := by rw [ir, T.ids_mv]; exact N.2.2.2.1
  have HT := Lib.hid (told_calls b { d with w := 0 } (l.mv d.w) r1 w4 (by rw [irt]; exact b4) l4 hr4 q5 q6)
  clear y0 y4 hp' L1 hr4 h4 o4 ir irt gr fr sr b4 l4 o4' s1 s2 hf ht ef q1 q2 hfl z1 z2 q5 q6 lsub rsub N
  go_wp2_with fail
  refine HT.out.mono ?_
  rintro e w5 ⟨rfl, h5, o5⟩
  have HG := Lib.hid (HF.out _ h5 o5)
  clear h5 o5
  go_wp2_with fail
  go_end0
  exact HG.out

/-- TAIL: whatever the tree is -/
theorem tail_calls (p x : Int) (hx : -1152921504606846976 ≤ x ∧ x ≤ 1152921504606846976) (tb sb : Nat) (rt : Option Addr) (p0 p1 : Value) : ∀ (n : Nat) (t : T), t.size ≤ n → ∀ w, Host w tb sb rt p0 p1 → Lies w t → t.ids.Nodup → sb ∉ t.ids → tb ∉ t.ids → Sound t → Mv p x (t.flat 0) →
    Calls Try.prog 47 #[.pointer (some ⟨tb, 0, none⟩), .pointer t.root, .int .i64 p, .int .i64 x] w (TailPost p x t tb sb rt p0 p1 w) := by
  intro n
  induction n with
  | zero =>
    intro t hz w hh _ _ _ _ _ _
    cases t with
    | nil => exact tail_nil p x tb sb rt p0 p1 w hh
    | node b d l r => simp [T.size] at hz
  | succ n ih =>
    intro t hz w hh hl hn ns nt snd hm
    cases t with
    | nil => exact tail_nil p x tb sb rt p0 p1 w hh
    | node b d l r =>
      obtain ⟨nl, nr, n1, n2, n3⟩ := nodup_node hn
      simp only [T.size] at hz
      have ns' := ns
      have nt' := nt
      simp only [T.ids, List.mem_cons, List.mem_append, not_or] at ns' nt'
      obtain ⟨s1, s2, _, _, ef, _⟩ := snd.kids
      have hm' := hm
      rw [ef] at hm'
      by_cases h : p ≤ d.f
      · refine tail_ge p x b d l r tb sb rt p0 p1 w hh hl hn ns nt snd hx hm h (fun W hH hW => ?_)
        have := ih (l.mv d.w) (by rw [T.size_mv]; omega) W hH hW (by rwa [T.ids_mv]) (by rw [T.ids_mv]; exact ns'.2.1) (by rw [T.ids_mv]; exact nt'.2.1) s1 (fun s hs => hm' s (by simp [hs]))
        rwa [T.root_mv] at this
      · refine tail_lt p x b d l r tb sb rt p0 p1 w hh hl hn ns nt snd (by omega) (fun W hH hW => ?_)
        have := ih (r.mv d.w) (by rw [T.size_mv]; omega) W hH hW (by rwa [T.ids_mv]) (by rw [T.ids_mv]; exact ns'.2.2) (by rw [T.ids_mv]; exact nt'.2.2) s2 (fun s hs => hm' s (by simp [hs]))
        rwa [T.root_mv] at this
end Go.Proofs.Ytmbclcplinmblaa
