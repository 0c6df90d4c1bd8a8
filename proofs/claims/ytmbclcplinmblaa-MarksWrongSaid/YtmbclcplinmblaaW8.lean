/- The walk of marks' put on a tree. -/
import Derived.Test.YtmbclcplinmblaaW7
import Derived.Test.YtmbclcplinmblaaList
namespace Go.Proofs.Ytmbclcplinmblaa
open Go.RowKit

theorem Host.drewN {w : World} {tb sb : Nat} {rt : Option Addr} {p0 p1 : Value} (h : Host w tb sb rt p0 p1) (n : Nat) : Host (w.drewN n) tb sb rt p0 p1 := ⟨h.tree, h.marks⟩

/-- what a tree's owner needs of it -/
structure Sound (t : T) : Prop where
  gd : t.Gd
  rising : Rising (t.flat 0)
  small : t.size < 2305843009213693952

theorem Sound.kids {b : Nat} {d : Nd} {l r : T} (h : Sound (.node b d l r)) :
    Sound (l.mv d.w) ∧ Sound (r.mv d.w) ∧ T.inR d.f ∧ T.inR d.t ∧ (T.node b d l r).flat 0 = (l.mv d.w).flat 0 ++ T.own d :: (r.mv d.w).flat 0 ∧
    (∀ x ∈ (l.mv d.w).flat 0, x.lt (T.own d)) ∧ (∀ x ∈ (r.mv d.w).flat 0, (T.own d).lt x) := by
  obtain ⟨g, hr, hs⟩ := h
  have hf := T.flat_node g
  obtain ⟨g1, g2, g3, g4⟩ := g.kidsDown
  rw [hf] at hr
  obtain ⟨r1, r2, r3, r4⟩ := rising_split hr
  simp only [T.size] at hs
  exact ⟨⟨g1, r1, by rw [T.size_mv]; omega⟩, ⟨g2, r2, by rw [T.size_mv]; omega⟩, g3, g4, hf, r3, r4⟩

/-- WHAT A CALL LEAVES that hands back a tree made of the old one's nodes and new ones -/
structure Left (w w' : World) (tb sb : Nat) (rt : Option Addr) (p0 p1 : Value) (t t' : T) : Prop where
  lies : Lies w' t'
  host : Host w' tb sb rt p0 p1
  only : Only (fun i => i = sb ∨ i ∈ t.ids) w w'
  nodup : t'.ids.Nodup
  ids : ∀ i ∈ t'.ids, i ∈ t.ids ∨ w.heap.size ≤ i

def PutPost (s : Sp) (t : T) (tb sb : Nat) (rt : Option Addr) (p0 p1 : Value) (w : World) (e : Ending) (w' : World) : Prop :=
  ∃ t' ok, e = .returned (.tuple #[.pointer t'.root, .bool ok]) ∧ Left w w' tb sb rt p0 p1 t t' ∧ t'.Gd ∧ t'.flat 0 = insS s (t.flat 0) ∧ (ok = true ↔ s ∉ t.flat 0) ∧ t'.size ≤ t.size + 1

/-- a node over a new side: the old side's nodes were l's -/
theorem side_nodup {b : Nat} {d d' : Nd} {l r t' : T} {N : Nat} (hn : (T.node b d l r).ids.Nodup) (hlt : ∀ i ∈ (T.node b d l r).ids, i < N) (h1 : t'.ids.Nodup) (h2 : ∀ i ∈ t'.ids, i ∈ l.ids ∨ N ≤ i) :
    (T.node b d' t' r).ids.Nodup ∧ ∀ i ∈ (T.node b d' t' r).ids, i ∈ (T.node b d l r).ids ∨ N ≤ i := by
  obtain ⟨nl, nr, n1, n2, n3⟩ := nodup_node hn
  simp only [T.ids, List.mem_cons, List.mem_append] at hlt
  constructor
  · simp only [T.ids, List.nodup_cons, List.mem_append, List.nodup_append]
    refine ⟨?_, h1, nr, ?_⟩
    · rintro (h | h)
      · rcases h2 b h with h | h
        · exact n1 h
        · have := hlt b (Or.inl rfl); omega
      · exact n2 h
    · rintro a ha c hc rfl
      rcases h2 a ha with h | h
      · exact n3 a h hc
      · have := hlt a (Or.inr (Or.inr hc)); omega
  · intro i hi
    simp only [T.ids, List.mem_cons, List.mem_append] at hi ⊢
    rcases hi with h | h | h
    · exact Or.inl (Or.inl h)
    · rcases h2 i h with h | h
      · exact Or.inl (Or.inr (Or.inl h))
      · exact Or.inr h
    · exact Or.inl (Or.inr (Or.inr h))
theorem side_nodup_r {b : Nat} {d d' : Nd} {l r t' : T} {N : Nat} (hn : (T.node b d l r).ids.Nodup) (hlt : ∀ i ∈ (T.node b d l r).ids, i < N) (h1 : t'.ids.Nodup) (h2 : ∀ i ∈ t'.ids, i ∈ r.ids ∨ N ≤ i) :
    (T.node b d' l t').ids.Nodup ∧ ∀ i ∈ (T.node b d' l t').ids, i ∈ (T.node b d l r).ids ∨ N ≤ i := by
  obtain ⟨nl, nr, n1, n2, n3⟩ := nodup_node hn
  simp only [T.ids, List.mem_cons, List.mem_append] at hlt
  constructor
  · simp only [T.ids, List.nodup_cons, List.mem_append, List.nodup_append]
    refine ⟨?_, nl, h1, ?_⟩
    · rintro (h | h)
      · exact n1 h
      · rcases h2 b h with h | h
        · exact n2 h
        · have := hlt b (Or.inl rfl); omega
    · rintro a ha c hc rfl
      rcases h2 a hc with h | h
      · exact n3 a ha h
      · have := hlt a (Or.inr (Or.inl ha)); omega
  · intro i hi
    simp only [T.ids, List.mem_cons, List.mem_append] at hi ⊢
    rcases hi with h | h | h
    · exact Or.inl (Or.inl h)
    · exact Or.inl (Or.inr (Or.inl h))
    · rcases h2 i h with h | h
      · exact Or.inl (Or.inr (Or.inr h))
      · exact Or.inr h

set_option maxRecDepth 100000 in
set_option maxHeartbeats 1000000 in
theorem put_nil (s : Sp) (hf : T.inR s.f) (ht : T.inR s.t) (tb sb : Nat) (rt : Option Addr) (p0 p1 : Value) (w : World) (hh : Host w tb sb rt p0 p1) :
    Calls Try.prog 43 #[.pointer (some ⟨tb, 0, none⟩), .pointer none, s.val] w (PutPost s .nil tb sb rt p0 p1 w) := by
  have hL : ∀ W e w', e = Ending.returned (.pointer (some ⟨w.heap.size + 1, 0, none⟩)) ∧ Lies w' (T.told (.node (w.heap.size + 1) ⟨s.f, s.t, s.k, 0, 0, 0, 0⟩ .nil .nil)) ∧ Only (fun i => i = w.heap.size + 1) W w' → Only (fun _ => False) w W →
      PutPost s .nil tb sb rt p0 p1 w (.returned (.tuple #[.pointer (some ⟨w.heap.size + 1, 0, none⟩), .bool true])) w' := by
    rintro W e w' ⟨_, h2, h3⟩ h4
    have o : Only (fun _ => False) w w' := h4.trans h3 (fun _ _ h => h) (fun i hi e => by omega)
    refine ⟨T.told (.node (w.heap.size + 1) ⟨s.f, s.t, s.k, 0, 0, 0, 0⟩ .nil .nil), true, rfl, ⟨h2, hh.only o id id, o.mono (fun _ _ h => h.elim), by simp [T.told, T.ids], fun i hi => by simp [T.told, T.ids] at hi; omega⟩, T.Gd.told T.Gd.nil T.Gd.nil rfl hf ht (by simp [T.size]), ?_, by simp [T.flat], by simp [T.told, T.size]⟩
    rw [T.flat_told, T.flat_still rfl]
    simp [T.flat, insS, hf.eq, ht.eq]
  have HF := Lib.hid hL
  clear hL hh
  unfold Sp.val
  go_enter Try.func43, Try.ntmps43
  go_wp2_with fail
  refine (told_calls (w.heap.size + 1) ⟨s.f, s.t, s.k, 0, 0, 0, 0⟩ .nil .nil _ ?_ trivial trivial (by simp [T.ids]) (by simp [T.ids])).mono ?_
  · simp only [T.root]
    exact heap_alloc2_new _ _ _
  rintro e w1 ⟨rfl, h1, o1⟩
  have HG := Lib.hid (HF.out _ _ _ ⟨rfl, h1, o1⟩ (((Only.refl (fun _ => False) w).alloc _).alloc _))
  clear h1 o1
  go_wp2_with fail
  go_ret2
  exact HG.out

/-- a block of a span's own: where it lies -/
def spObj (s : Sp) : Obj := .cells #[.int .i64 s.f, .int .i64 s.t, .int .i64 s.k] 25 (0, 0)
/-- behind 'look' at a node, a box laid ahead: what the walks on a tree go on from -/
structure Look (w : World) (s : Sp) (tb sb : Nat) (rt : Option Addr) (p0 p1 : Value) (b : Nat) (d : Nd) (l r : T) (w1 : World) : Prop where
  blk : w1.heap[b]? = some (nodeObj { d with w := 0 } (l.mv d.w).root (r.mv d.w).root)
  ll : Lies w1 (l.mv d.w)
  lr : Lies w1 (r.mv d.w)
  host : Host w1 tb sb rt p0 p1
  only : Only (fun i => i = sb ∨ i ∈ (T.node b d l r).ids) w w1
  box : w1.heap[w.heap.size]? = some (spObj s)
theorem Look.step {w : World} {s : Sp} {tb sb : Nat} {rt : Option Addr} {p0 p1 : Value} {b : Nat} {d : Nd} {l r : T} {w1 w2 : World} (h : Look w s tb sb rt p0 p1 b d l r w1) (o : Only (fun _ => False) w1 w2) : Look w s tb sb rt p0 p1 b d l r w2 :=
  ⟨o.keep h.blk id, Lies.only o h.ll (fun _ _ h => h), Lies.only o h.lr (fun _ _ h => h), h.host.only o id id, h.only.trans o (fun _ _ h => h) (fun _ _ h => h.elim), o.keep h.box id⟩
theorem look_box {w w1 : World} {s : Sp} {tb sb : Nat} {rt : Option Addr} {p0 p1 : Value} {b : Nat} {d : Nd} {l r : T} (hl : Lies w (.node b d l r)) (hh : Host w tb sb rt p0 p1)
    (h1 : Lies w1 (T.down (.node b d l r))) (h2 : Host w1 tb sb rt p0 p1) (h3 : Only (fun i => i = sb ∨ i ∈ (T.node b d l r).ids) (w.alloc (spObj s)) w1) : Look w s tb sb rt p0 p1 b d l r w1 :=
  ⟨h1.1, h1.2.1, h1.2.2, h2, ((Only.refl (fun _ => False) w).alloc _).trans h3 (fun _ _ h => h.elim) (fun _ _ h => h),
   h3.keep (heap_alloc_new _ _) (by
    rintro (h | h)
    · obtain ⟨_, st, hm⟩ := hh
      have := lt_of_blk hm
      omega
    · have := Lies.lt hl _ h
      omega)⟩

/-- A NODE OVER A NEW SIDE, before 'even': it lies in w4; what is outside the old tree's nodes has not turned since w -/
structure NodeFin (w : World) (tb sb : Nat) (rt : Option Addr) (p0 p1 : Value) (t : T) (b : Nat) (d : Nd) (l r : T) (w4 : World) : Prop where
  lies : Lies w4 (.node b d l r)
  nodup : (T.node b d l r).ids.Nodup
  host : Host w4 tb sb rt p0 p1
  only : Only (fun i => i = sb ∨ i ∈ t.ids) w w4
  ids : ∀ i ∈ (T.node b d l r).ids, i ∈ t.ids ∨ w.heap.size ≤ i
  nt : tb ∉ (T.node b d l r).ids
  ns : sb ∉ (T.node b d l r).ids

theorem NodeFin.left {w : World} {tb sb : Nat} {rt : Option Addr} {p0 p1 : Value} {t : T} {b : Nat} {d : Nd} {l r : T} {w4 w5 : World} (h : NodeFin w tb sb rt p0 p1 t b d l r w4)
    (h5 : Lies w5 (T.even (.node b d l r))) (o5 : Only (fun i => i ∈ (T.node b d l r).ids) w4 w5) : Left w w5 tb sb rt p0 p1 t (T.even (.node b d l r)) :=
  ⟨h5, h.host.only o5 h.nt h.ns, h.only.trans o5 (fun _ _ h => h) (fun i hi x => by
    rcases h.ids i x with y | y
    · exact Or.inr y
    · omega), (T.ids_even _).nodup_iff.2 h.nodup, fun i hi => h.ids i ((T.ids_even _).mem_iff.1 hi)⟩

theorem Host.lt {w : World} {tb sb : Nat} {rt : Option Addr} {p0 p1 : Value} (h : Host w tb sb rt p0 p1) : tb < w.heap.size ∧ sb < w.heap.size := by
  obtain ⟨a, st, b⟩ := h
  exact ⟨lt_of_blk a, lt_of_blk b⟩

theorem nodeFin_left {w : World} {s : Sp} {tb sb : Nat} {rt : Option Addr} {p0 p1 : Value} {b : Nat} {d : Nd} {l r t1 : T} {w2 w3 w4 : World} (hh : Host w tb sb rt p0 p1) (hn : (T.node b d l r).ids.Nodup)
    (ns : sb ∉ (T.node b d l r).ids) (nt : tb ∉ (T.node b d l r).ids) (hl : Lies w (.node b d l r)) (L2 : Look w s tb sb rt p0 p1 b d l r w2) (h3 : Left w2 w3 tb sb rt p0 p1 (l.mv d.w) t1)
    (e4 : w4 = w3.setCell ⟨b, 3, none⟩ (.pointer t1.root)) : NodeFin w tb sb rt p0 p1 (.node b d l r) b { d with w := 0 } t1 (r.mv d.w) w4 := by
  subst e4
  obtain ⟨_, _, n1, n2, n3⟩ := nodup_node hn
  have hlt := Lies.lt hl
  have sz := L2.only.size
  have hb : b ∈ (T.node b d l r).ids := by simp [T.ids]
  have hbs : ¬ b = sb := fun e => ns (e ▸ hb)
  have hbt : ¬ b = tb := fun e => nt (e ▸ hb)
  have lsub : ∀ i ∈ (l.mv d.w).ids, i ∈ (T.node b d l r).ids := fun i hi => by rw [T.ids_mv] at hi; simp [T.ids, hi]
  have rsub : ∀ i ∈ (r.mv d.w).ids, i ∈ (T.node b d l r).ids := fun i hi => by rw [T.ids_mv] at hi; simp [T.ids, hi]
  have b3 := h3.only.keep L2.blk (by
    rintro (e | e)
    · exact hbs e
    · exact n1 (by rwa [T.ids_mv] at e))
  have r3 : Lies w3 (r.mv d.w) := Lies.only h3.only L2.lr (fun i hi x => by
    rcases x with x | x
    · exact ns (x ▸ rsub i hi)
    · rw [T.ids_mv] at hi x; exact n3 i x hi)
  have o4 : Only (fun i => i = b) w3 (w3.setCell ⟨b, 3, none⟩ (.pointer t1.root)) := (Only.refl (fun i => i = b) w3).set b 3 _ (fun _ => rfl)
  have bl := hlt b hb
  obtain ⟨N1, N2⟩ := side_nodup (d' := { d with w := 0 }) (r := r.mv d.w) (l := l.mv d.w) (b := b) (d := d) (N := w2.heap.size) (by simpa [T.ids, T.ids_mv] using hn)
    (fun i hi => Nat.lt_of_lt_of_le (hlt i (by simpa [T.ids, T.ids_mv] using hi)) sz) h3.nodup h3.ids
  have ids : ∀ i ∈ (T.node b { d with w := 0 } t1 (r.mv d.w)).ids, i ∈ (T.node b d l r).ids ∨ w.heap.size ≤ i := fun i hi => by
    rcases N2 i hi with h | h
    · exact Or.inl (by simpa [T.ids, T.ids_mv] using h)
    · exact Or.inr (Nat.le_trans sz h)
  obtain ⟨lt1, lt2⟩ := hh.lt
  refine ⟨⟨setAt b3 3 _ rfl, Lies.only o4 h3.lies ?_, Lies.only o4 r3 ?_⟩, N1, h3.host.only o4 (fun e => hbt e.symm) (fun e => hbs e.symm), ?_, ids, ?_, ?_⟩
  · rintro i hi rfl
    rcases h3.ids i hi with h | h
    · exact n1 (by rwa [T.ids_mv] at h)
    · omega
  · rintro i hi rfl
    exact n2 (by rwa [T.ids_mv] at hi)
  · refine (L2.only.trans h3.only (fun _ _ h => h) (fun i _ h => ?_)).trans o4 (fun _ _ h => h) (fun i _ h => Or.inr (h ▸ hb))
    rcases h with h | h
    · exact Or.inl h
    · exact Or.inr (lsub i h)
  · intro h
    rcases ids tb h with h | h
    · exact nt h
    · omega
  · intro h
    rcases ids sb h with h | h
    · exact ns h
    · omega

theorem nodeFin_right {w : World} {s : Sp} {tb sb : Nat} {rt : Option Addr} {p0 p1 : Value} {b : Nat} {d : Nd} {l r t1 : T} {w2 w3 w4 : World} (hh : Host w tb sb rt p0 p1) (hn : (T.node b d l r).ids.Nodup)
    (ns : sb ∉ (T.node b d l r).ids) (nt : tb ∉ (T.node b d l r).ids) (hl : Lies w (.node b d l r)) (L2 : Look w s tb sb rt p0 p1 b d l r w2) (h3 : Left w2 w3 tb sb rt p0 p1 (r.mv d.w) t1)
    (e4 : w4 = w3.setCell ⟨b, 4, none⟩ (.pointer t1.root)) : NodeFin w tb sb rt p0 p1 (.node b d l r) b { d with w := 0 } (l.mv d.w) t1 w4 := by
  subst e4
  obtain ⟨_, _, n1, n2, n3⟩ := nodup_node hn
  have hlt := Lies.lt hl
  have sz := L2.only.size
  have hb : b ∈ (T.node b d l r).ids := by simp [T.ids]
  have hbs : ¬ b = sb := fun e => ns (e ▸ hb)
  have hbt : ¬ b = tb := fun e => nt (e ▸ hb)
  have lsub : ∀ i ∈ (l.mv d.w).ids, i ∈ (T.node b d l r).ids := fun i hi => by rw [T.ids_mv] at hi; simp [T.ids, hi]
  have rsub : ∀ i ∈ (r.mv d.w).ids, i ∈ (T.node b d l r).ids := fun i hi => by rw [T.ids_mv] at hi; simp [T.ids, hi]
  have b3 := h3.only.keep L2.blk (by
    rintro (e | e)
    · exact hbs e
    · exact n2 (by rwa [T.ids_mv] at e))
  have r3 : Lies w3 (l.mv d.w) := Lies.only h3.only L2.ll (fun i hi x => by
    rcases x with x | x
    · exact ns (x ▸ lsub i hi)
    · rw [T.ids_mv] at hi x; exact n3 i hi x)
  have o4 : Only (fun i => i = b) w3 (w3.setCell ⟨b, 4, none⟩ (.pointer t1.root)) := (Only.refl (fun i => i = b) w3).set b 4 _ (fun _ => rfl)
  have bl := hlt b hb
  obtain ⟨N1, N2⟩ := side_nodup_r (d' := { d with w := 0 }) (r := r.mv d.w) (l := l.mv d.w) (b := b) (d := d) (N := w2.heap.size) (by simpa [T.ids, T.ids_mv] using hn)
    (fun i hi => Nat.lt_of_lt_of_le (hlt i (by simpa [T.ids, T.ids_mv] using hi)) sz) h3.nodup h3.ids
  have ids : ∀ i ∈ (T.node b { d with w := 0 } (l.mv d.w) t1).ids, i ∈ (T.node b d l r).ids ∨ w.heap.size ≤ i := fun i hi => by
    rcases N2 i hi with h | h
    · exact Or.inl (by simpa [T.ids, T.ids_mv] using h)
    · exact Or.inr (Nat.le_trans sz h)
  obtain ⟨lt1, lt2⟩ := hh.lt
  refine ⟨⟨setAt b3 4 _ rfl, Lies.only o4 r3 ?_, Lies.only o4 h3.lies ?_⟩, N1, h3.host.only o4 (fun e => hbt e.symm) (fun e => hbs e.symm), ?_, ids, ?_, ?_⟩
  · rintro i hi rfl
    exact n1 (by rwa [T.ids_mv] at hi)
  · rintro i hi rfl
    rcases h3.ids i hi with h | h
    · exact n2 (by rwa [T.ids_mv] at h)
    · omega
  · refine (L2.only.trans h3.only (fun _ _ h => h) (fun i _ h => ?_)).trans o4 (fun _ _ h => h) (fun i _ h => Or.inr (h ▸ hb))
    rcases h with h | h
    · exact Or.inl h
    · exact Or.inr (rsub i h)
  · intro h
    rcases ids tb h with h | h
    · exact nt h
    · omega
  · intro h
    rcases ids sb h with h | h
    · exact ns h
    · omega

theorem left_blk {w : World} {s : Sp} {tb sb : Nat} {rt : Option Addr} {p0 p1 : Value} {b : Nat} {d : Nd} {l r t1 : T} {w2 w3 : World} (hn : (T.node b d l r).ids.Nodup) (ns : sb ∉ (T.node b d l r).ids)
    (L2 : Look w s tb sb rt p0 p1 b d l r w2) (h3 : Left w2 w3 tb sb rt p0 p1 (l.mv d.w) t1) : w3.heap[b]? = some (nodeObj { d with w := 0 } (l.mv d.w).root (r.mv d.w).root) :=
  h3.only.keep L2.blk (by
    rintro (e | e)
    · exact ns (by simp [T.ids, e])
    · exact (nodup_node hn).2.2.1 (by rwa [T.ids_mv] at e))
theorem right_blk {w : World} {s : Sp} {tb sb : Nat} {rt : Option Addr} {p0 p1 : Value} {b : Nat} {d : Nd} {l r t1 : T} {w2 w3 : World} (hn : (T.node b d l r).ids.Nodup) (ns : sb ∉ (T.node b d l r).ids)
    (L2 : Look w s tb sb rt p0 p1 b d l r w2) (h3 : Left w2 w3 tb sb rt p0 p1 (r.mv d.w) t1) : w3.heap[b]? = some (nodeObj { d with w := 0 } (l.mv d.w).root (r.mv d.w).root) :=
  h3.only.keep L2.blk (by
    rintro (e | e)
    · exact ns (by simp [T.ids, e])
    · exact (nodup_node hn).2.2.2.1 (by rwa [T.ids_mv] at e))

theorem own_of {d : Nd} : ({ d with w := 0 } : Nd).f = d.f ∧ ({ d with w := 0 } : Nd).t = d.t ∧ ({ d with w := 0 } : Nd).k = d.k := ⟨rfl, rfl, rfl⟩

set_option maxRecDepth 100000 in
set_option maxHeartbeats 2000000 in
theorem put_lt (s : Sp) (b : Nat) (d : Nd) (l r : T) (tb sb : Nat) (rt : Option Addr) (p0 p1 : Value) (w : World) (hh : Host w tb sb rt p0 p1) (hl : Lies w (.node b d l r)) (hn : (T.node b d l r).ids.Nodup)
    (ns : sb ∉ (T.node b d l r).ids) (nt : tb ∉ (T.node b d l r).ids) (snd : Sound (.node b d l r)) (hs : s.lt (T.own d))
    (ih : ∀ W, Host W tb sb rt p0 p1 → Lies W (l.mv d.w) → Calls Try.prog 43 #[.pointer (some ⟨tb, 0, none⟩), .pointer l.root, s.val] W (PutPost s (l.mv d.w) tb sb rt p0 p1 W)) :
    Calls Try.prog 43 #[.pointer (some ⟨tb, 0, none⟩), .pointer (some ⟨b, 0, none⟩), s.val] w (PutPost s (.node b d l r) tb sb rt p0 p1 w) := by
  have oa : Only (fun _ => False) w (w.alloc (spObj s)) := (Only.refl (fun _ => False) w).alloc _
  have HK := Lib.hid (look_calls b d l r (w.alloc (spObj s)) tb sb rt p0 p1 (hh.only oa id id) (hl.alloc _) hn ns nt)
  have HB := Lib.hid (fun w1 => look_box (w := w) (w1 := w1) (s := s) hl hh)
  have HO := Lib.hid (fun W => by have := order_calls s (T.own d) W; rw [ordI_lt hs] at this; exact this)
  have IH := Lib.hid ih
  have HFIN : Hid (∀ w2 w3 w4 t1 ok, Look w s tb sb rt p0 p1 b d l r w2 → Left w2 w3 tb sb rt p0 p1 (l.mv d.w) t1 → t1.Gd → t1.flat 0 = insS s ((l.mv d.w).flat 0) → (ok = true ↔ s ∉ (l.mv d.w).flat 0) → t1.size ≤ (l.mv d.w).size + 1 →
      w4 = w3.setCell ⟨b, 3, none⟩ (.pointer t1.root) → w3.heap[b]? = some (nodeObj { d with w := 0 } (l.mv d.w).root (r.mv d.w).root) ∧ NodeFin w tb sb rt p0 p1 (.node b d l r) b { d with w := 0 } t1 (r.mv d.w) w4 ∧
      ∀ e w5, e = Ending.returned (.pointer (T.even (.node b { d with w := 0 } t1 (r.mv d.w))).root) ∧ Lies w5 (T.even (.node b { d with w := 0 } t1 (r.mv d.w))) ∧ Only (fun i => i ∈ (T.node b { d with w := 0 } t1 (r.mv d.w)).ids) w4 w5 →
        PutPost s (.node b d l r) tb sb rt p0 p1 w (.returned (.tuple #[.pointer (T.even (.node b { d with w := 0 } t1 (r.mv d.w))).root, .bool ok])) w5) :=
    fun w2 w3 w4 t1 ok L2 h3 g3 f3 k3 s3 e4 => by
      have NF := nodeFin_left hh hn ns nt hl L2 h3 e4
      obtain ⟨s1, s2, hf, ht, ef, r1, r2⟩ := snd.kids
      refine ⟨left_blk hn ns L2 h3, NF, fun e w5 ⟨_, h5, o5⟩ => ⟨_, ok, rfl, NF.left h5 o5, T.Gd.even g3 s2.gd rfl hf ht (by have := s1.small; have := s2.small; omega), ?_, ?_, ?_⟩⟩
      · rw [T.flat_even_node (d := { d with w := 0 }) rfl hf ht, ef, insS_lt hs, f3]; rfl
      · rw [ef, mem_lt r2 hs]; exact k3
      · rw [T.size_even]; simp only [T.size, T.size_mv] at *; omega
  have HQ : Hid (∀ t1 : T, t1.Gd → t1.size ≤ (l.mv d.w).size + 1 → t1.hok ∧ (r.mv d.w).hok ∧ t1.size + (r.mv d.w).size < 4611686018427387904) := fun t1 g h => by
    obtain ⟨s1, s2, _⟩ := snd.kids
    exact ⟨g.hok, s2.gd.hok, by have := s1.small; have := s2.small; omega⟩
  clear hh hl hn ns nt snd ih oa hs
  unfold Sp.val spObj at *
  go_enter Try.func43, Try.ntmps43
  go_wp2_with fail
  refine HK.out.mono ?_
  rintro e w1 ⟨rfl, h1, h2, h3⟩
  have L1 := HB.out _ h1 h2 h3
  clear h1 h2 h3
  have x0 := cellAt L1.box 0 rfl
  have x1 := cellAt L1.box 1 rfl
  have x2 := cellAt L1.box 2 rfl
  have y0 := (nodeAt L1.blk).c0
  have y1 := (nodeAt L1.blk).c1
  have y2 := (nodeAt L1.blk).c2
  go_wp2_with fail
  go_still_tail 5, (by kernel_rfl)
  change wpList _ _ _ _ _ (World.drew _)
  go_wp2_with fail
  refine (HO.out _).mono ?_
  rintro e w2 ⟨rfl, o2⟩
  have L2 := L1.step ((Only.refl (fun _ => False) w1).drew.trans o2 (fun _ _ h => h) (fun _ _ h => h))
  clear o2 x0 x1 x2 y0 y1 y2 L1
  have x0 := cellAt L2.box 0 rfl
  have x1 := cellAt L2.box 1 rfl
  have x2 := cellAt L2.box 2 rfl
  have y3 := (nodeAt L2.blk).c3
  simp only [T.root_mv] at y3
  go_wp2_with fail
  go_region_with (go_at_call 43; refine (IH.out _ (L2.host.drewN 1) (Lies.drew L2.ll)).mono ?_; rintro e w3 ⟨t1, ok, rfl, h3, g3, f3, k3, s3⟩)
  all_goals
    have HF := Lib.hid (HFIN.out _ w3 _ t1 ok (L2.step (Only.refl (fun _ => False) w2).drew) h3 g3 f3 k3 s3 rfl)
    have q := HQ.out t1 g3 s3
    have y3 := (nodeAt HF.out.1).c3
    have yz := (nodeAt HF.out.1).fz
    go_wp2_with fail
    refine (even_calls b { d with w := 0 } t1 (r.mv d.w) _ HF.out.2.1.lies HF.out.2.1.nodup q.1 q.2.1 q.2.2).mono ?_
    rintro e w5 ⟨rfl, h5, o5⟩
    have HG := Lib.hid (HF.out.2.2 _ w5 ⟨rfl, h5, o5⟩)
    clear h5 o5
    go_wp2_with fail
    go_ret2
    exact HG.out
end Go.Proofs.Ytmbclcplinmblaa
