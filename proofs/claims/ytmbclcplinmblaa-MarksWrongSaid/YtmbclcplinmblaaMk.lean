/- Marks as a rising list of spans: the object in memory, and what Put and Remove leave of it. -/
import Derived.Test.YtmbclcplinmblaaW18
namespace Go.Proofs.Ytmbclcplinmblaa
open Go.RowKit

abbrev P (b : Nat) : Value := .pointer (some ⟨b, 0, none⟩)

/-- the two trees with their owner -/
structure MK (w : World) (mb tb0 tb1 : Nat) (t0 t1 : T) : Prop where
  h0 : Half w mb tb0 (P tb0) (P tb1) t0
  h1 : Half w mb tb1 (P tb0) (P tb1) t1
  ne : tb0 ≠ tb1
  d : ∀ i ∈ t0.ids, i ∉ t1.ids
  n0 : tb0 ∉ t1.ids
  n1 : tb1 ∉ t0.ids

def evenK (s : Sp) : Bool := decide (s.k % 2 = 0)
def oddK (s : Sp) : Bool := decide (¬ s.k % 2 = 0)

/-- Marks that lie in the blocks I, as a rising list -/
def MkL (w : World) (mb : Nat) (I : Nat → Prop) (L : List Sp) : Prop :=
  ∃ tb0 tb1 t0 t1, MK w mb tb0 tb1 t0 t1 ∧ Rising L ∧ t0.flat 0 = L.filter evenK ∧ t1.flat 0 = L.filter oddK ∧ (I mb ∧ I tb0 ∧ I tb1) ∧ (∀ i ∈ t0.ids, I i) ∧ (∀ i ∈ t1.ids, I i)

theorem MkL.mono {w : World} {mb : Nat} {I J : Nat → Prop} {L : List Sp} (h : MkL w mb I L) (hIJ : ∀ i, i < w.heap.size → I i → J i) : MkL w mb J L := by
  obtain ⟨tb0, tb1, t0, t1, m, r, f0, f1, ⟨i1, i2, i3⟩, i4, i5⟩ := h
  have l0 := m.h0.host.lt
  have l1 := m.h1.host.lt
  exact ⟨tb0, tb1, t0, t1, m, r, f0, f1, ⟨hIJ _ l0.2 i1, hIJ _ l0.1 i2, hIJ _ l1.1 i3⟩, fun i hi => hIJ i (Lies.lt m.h0.lies i hi) (i4 i hi), fun i hi => hIJ i (Lies.lt m.h1.lies i hi) (i5 i hi)⟩
theorem MkL.only {w w' : World} {mb : Nat} {I S : Nat → Prop} {L : List Sp} (h : MkL w mb I L) (o : Only S w w') (hS : ∀ i, i < w.heap.size → I i → ¬ S i) : MkL w' mb I L := by
  obtain ⟨tb0, tb1, t0, t1, m, r, f0, f1, ⟨i1, i2, i3⟩, i4, i5⟩ := h
  have l0 := m.h0.host.lt
  have l1 := m.h1.host.lt
  exact ⟨tb0, tb1, t0, t1, ⟨m.h0.only o (hS _ l0.1 i2) (hS _ l0.2 i1) (fun i hi => hS i (Lies.lt m.h0.lies i hi) (i4 i hi)), m.h1.only o (hS _ l1.1 i3) (hS _ l0.2 i1) (fun i hi => hS i (Lies.lt m.h1.lies i hi) (i5 i hi)), m.ne, m.d, m.n0, m.n1⟩, r, f0, f1, ⟨i1, i2, i3⟩, i4, i5⟩

theorem Half.other {S : Nat → Prop} {w w' : World} {mb tb tb' : Nat} {p0 p1 : Value} {t t' : T} (h : Half w mb tb p0 p1 t) (h' : Half w' mb tb' p0 p1 t') (o : Only S w w') (h1 : ¬ S tb) (h3 : ∀ i ∈ t.ids, ¬ S i) : Half w' mb tb p0 p1 t :=
  ⟨⟨o.keep h.host.tree h1, h'.host.marks⟩, Lies.only o h.lies h3, h.nodup, h.ns, h.nt, h.snd⟩

/-- I and what is new -/
def Grow (I : Nat → Prop) (w : World) : Nat → Prop := fun i => I i ∨ w.heap.size ≤ i

theorem filter_insS_pos {p : Sp → Bool} {s : Sp} (hp : p s = true) : ∀ {l : List Sp}, Rising l → (insS s l).filter p = insS s (l.filter p)
  | [], _ => by simp [insS, hp]
  | x :: l, h => by
    have h' := List.pairwise_cons.1 h
    simp only [insS]
    by_cases h1 : s.lt x
    · rw [if_pos h1, List.filter_cons_of_pos hp]
      have hall : ∀ y ∈ (x :: l).filter p, s.lt y := fun y hy => by
        rcases List.mem_cons.1 (List.mem_filter.1 hy).1 with rfl | hy
        · exact h1
        · exact Sp.lt_trans h1 (h'.1 y hy)
      cases hf : (x :: l).filter p with
      | nil => rfl
      | cons y m => rw [hf] at hall; simp only [insS]; rw [if_pos (hall y (by simp))]
    · rw [if_neg h1]
      by_cases h2 : s = x
      · subst h2
        rw [if_pos rfl, List.filter_cons_of_pos hp]
        simp only [insS, if_true]
        rw [if_neg h1]
      · rw [if_neg h2]
        by_cases hx : p x = true
        · rw [List.filter_cons_of_pos hx, List.filter_cons_of_pos hx, filter_insS_pos hp h'.2]
          simp only [insS]
          rw [if_neg h1, if_neg h2]
        · rw [List.filter_cons_of_neg hx, List.filter_cons_of_neg hx, filter_insS_pos hp h'.2]
theorem filter_insS_neg {p : Sp → Bool} {s : Sp} (hp : p s = false) : ∀ {l : List Sp}, (insS s l).filter p = l.filter p
  | [] => by simp [insS, hp]
  | x :: l => by
    have hp' : ¬ p s = true := by rw [hp]; simp
    simp only [insS]
    split
    · rw [List.filter_cons_of_neg hp']
    · split
      · rfl
      · by_cases hx : p x = true
        · rw [List.filter_cons_of_pos hx, List.filter_cons_of_pos hx, filter_insS_neg hp]
        · rw [List.filter_cons_of_neg hx, List.filter_cons_of_neg hx, filter_insS_neg hp]
theorem filter_delS (p : Sp → Bool) (s : Sp) (l : List Sp) : (delS s l).filter p = delS s (l.filter p) := by
  simp only [delS, List.filter_filter]
  congr 1
  funext x
  exact Bool.and_comm _ _
theorem delS_filter_neg {p : Sp → Bool} {s : Sp} (hp : p s = false) (l : List Sp) : delS s (l.filter p) = l.filter p :=
  delS_of_not (fun h => by rw [(List.mem_filter.1 h).2] at hp; cases hp)

theorem sizes {L : List Sp} {t0 t1 : T} (f0 : t0.flat 0 = L.filter evenK) (f1 : t1.flat 0 = L.filter oddK) : t0.size + t1.size = L.length := by
  rw [← T.flat_length 0 t0, ← T.flat_length 0 t1, f0, f1]
  clear f0 f1
  induction L with
  | nil => rfl
  | cons x l ih =>
    by_cases h : x.k % 2 = 0
    · rw [List.filter_cons_of_pos (by simp [evenK, h]), List.filter_cons_of_neg (by simp [oddK, h])]
      simp only [List.length_cons]; omega
    · rw [List.filter_cons_of_neg (by simp [evenK, h]), List.filter_cons_of_pos (by simp [oddK, h])]
      simp only [List.length_cons]; omega

/-- a call that makes one of the trees anew -/
theorem MkL.of_put {w w' : World} {mb : Nat} {I : Nat → Prop} {L L' : List Sp} {e : Ending} {s : Sp} {ok : Bool} {k : Nat} {F : List Sp → List Sp} {tb0 tb1 : Nat} {t0 t1 : T} (m : MK w mb tb0 tb1 t0 t1) (f0 : t0.flat 0 = L.filter evenK) (f1 : t1.flat 0 = L.filter oddK) (hi : I mb ∧ I tb0 ∧ I tb1) (i0 : ∀ i ∈ t0.ids, I i) (i1 : ∀ i ∈ t1.ids, I i)
    (r' : Rising L') (g0 : s.k % 2 = 0 → F (L.filter evenK) = L'.filter evenK ∧ L.filter oddK = L'.filter oddK) (g1 : ¬ s.k % 2 = 0 → F (L.filter oddK) = L'.filter oddK ∧ L.filter evenK = L'.filter evenK)
    (h : if s.k % 2 = 0 then MPut w mb tb0 (P tb0) (P tb1) t0 (F (t0.flat 0)) ok k e w' else MPut w mb tb1 (P tb0) (P tb1) t1 (F (t1.flat 0)) ok k e w') :
    e = .returned (.bool ok) ∧ MkL w' mb (Grow I w) L' ∧ Only I w w' := by
  have l0 := m.h0.host.lt
  have l1 := m.h1.host.lt
  have lt0 := Lies.lt m.h0.lies
  have lt1 := Lies.lt m.h1.lies
  by_cases hk : s.k % 2 = 0
  · rw [if_pos hk] at h
    obtain ⟨he, t', a1, a2, a3, a4, a5⟩ := h
    have ne1 : ∀ i ∈ t1.ids, ¬ (i = mb ∨ i = tb0 ∨ i ∈ t0.ids) := by
      rintro i hi (h | h | h)
      · exact m.h1.ns (h ▸ hi)
      · exact m.n0 (h ▸ hi)
      · exact m.d i h hi
    have b1 := m.h1.other a1 a3 (by
      rintro (h | h | h)
      · exact m.h1.host.ne h
      · exact m.ne h.symm
      · exact m.n1 h) ne1
    refine ⟨he, ⟨tb0, tb1, t', t1, ⟨a1, b1, m.ne, ?_, m.n0, ?_⟩, r', by rw [a2, f0]; exact (g0 hk).1, by rw [f1]; exact (g0 hk).2, ⟨Or.inl hi.1, Or.inl hi.2.1, Or.inl hi.2.2⟩, ?_, fun i hi => Or.inl (i1 i hi)⟩, ?_⟩
    · intro i hi h
      rcases a4 i hi with h2 | h2
      · exact m.d i h2 h
      · have := lt1 i h; omega
    · intro h
      rcases a4 _ h with h2 | h2
      · exact m.n1 h2
      · omega
    · intro i hi
      exact (a4 i hi).imp (i0 i) id
    · exact a3.mono (by
        rintro i _ (h | h | h)
        · exact h ▸ hi.1
        · exact h ▸ hi.2.1
        · exact i0 i h)
  · rw [if_neg hk] at h
    obtain ⟨he, t', a1, a2, a3, a4, a5⟩ := h
    have ne0 : ∀ i ∈ t0.ids, ¬ (i = mb ∨ i = tb1 ∨ i ∈ t1.ids) := by
      rintro i hi (h | h | h)
      · exact m.h0.ns (h ▸ hi)
      · exact m.n1 (h ▸ hi)
      · exact m.d i hi h
    have b0 := m.h0.other a1 a3 (by
      rintro (h | h | h)
      · exact m.h0.host.ne h
      · exact m.ne h
      · exact m.n0 h) ne0
    refine ⟨he, ⟨tb0, tb1, t0, t', ⟨b0, a1, m.ne, ?_, ?_, m.n1⟩, r', by rw [f0]; exact (g1 hk).2, by rw [a2, f1]; exact (g1 hk).1, ⟨Or.inl hi.1, Or.inl hi.2.1, Or.inl hi.2.2⟩, fun i hi => Or.inl (i0 i hi), ?_⟩, ?_⟩
    · intro i hi h
      rcases a4 i h with h2 | h2
      · exact m.d i hi h2
      · have := lt0 i hi; omega
    · intro h
      rcases a4 _ h with h2 | h2
      · exact m.n0 h2
      · omega
    · intro i hi
      exact (a4 i hi).imp (i1 i) id
    · exact a3.mono (by
        rintro i _ (h | h | h)
        · exact h ▸ hi.1
        · exact h ▸ hi.2.2
        · exact i1 i h)

theorem Put_L (s : Sp) (mb : Nat) (I : Nat → Prop) (L : List Sp) (w : World) (h : MkL w mb I L) (hlen : L.length < 1099511627776) (hv : okSp s) :
    Calls Try.prog 11 #[.pointer (some ⟨mb, 0, none⟩), s.val] w fun e w' => e = .returned (.bool (decide (s ∉ L))) ∧ MkL w' mb (Grow I w) (insS s L) ∧ Only I w w' := by
  obtain ⟨tb0, tb1, t0, t1, m, r, f0, f1, hi, i0, i1⟩ := h
  have hsz := sizes f0 f1
  by_cases hk : s.k % 2 = 0
  · have e0 : decide (s ∉ t0.flat 0) = decide (s ∉ L) := by rw [f0]; congr 1; simp [evenK, hk]
    refine (Put_yes s hv mb tb0 tb0 tb1 t0 w m.h0 (if_pos hk) (by omega)).mono fun e w' hp => ?_
    rw [e0] at hp
    exact MkL.of_put (F := insS s) (s := s) (k := t0.size + 1) m f0 f1 hi i0 i1 r.insS (fun _ => ⟨(filter_insS_pos (by simp [evenK, hk]) r).symm, (filter_insS_neg (by simp [oddK, hk])).symm⟩) (fun h => absurd hk h) (by rw [if_pos hk]; exact hp)
  · have e0 : decide (s ∉ t1.flat 0) = decide (s ∉ L) := by rw [f1]; congr 1; simp [oddK, hk]
    refine (Put_yes s hv mb tb1 tb0 tb1 t1 w m.h1 (if_neg hk) (by omega)).mono fun e w' hp => ?_
    rw [e0] at hp
    exact MkL.of_put (F := insS s) (s := s) (k := t1.size + 1) m f0 f1 hi i0 i1 r.insS (fun h => absurd h hk) (fun _ => ⟨(filter_insS_pos (by simp [oddK, hk]) r).symm, (filter_insS_neg (by simp [evenK, hk])).symm⟩) (by rw [if_neg hk]; exact hp)

theorem PutNo_L (s : Sp) (mb : Nat) (I : Nat → Prop) (L : List Sp) (w : World) (h : MkL w mb I L) (hv : ¬ okSp s) :
    Calls Try.prog 11 #[.pointer (some ⟨mb, 0, none⟩), s.val] w fun e w' => e = .returned (.bool false) ∧ MkL w' mb I L ∧ Only (fun _ => False) w w' :=
  (Put_no s hv mb w).mono fun _ _ ⟨he, o⟩ => ⟨he, h.only o (fun _ _ _ h => h), o⟩

theorem Remove_L (s : Sp) (mb : Nat) (I : Nat → Prop) (L : List Sp) (w : World) (h : MkL w mb I L) :
    Calls Try.prog 13 #[.pointer (some ⟨mb, 0, none⟩), s.val] w fun e w' => e = .returned (.bool (decide (s ∈ L))) ∧ MkL w' mb (Grow I w) (delS s L) ∧ Only I w w' := by
  obtain ⟨tb0, tb1, t0, t1, m, r, f0, f1, hi, i0, i1⟩ := h
  by_cases hk : s.k % 2 = 0
  · have e0 : decide (s ∈ t0.flat 0) = decide (s ∈ L) := by rw [f0]; congr 1; simp [evenK, hk]
    refine (Remove_calls s mb tb0 tb0 tb1 t0 w m.h0 (if_pos hk)).mono fun e w' hp => ?_
    rw [e0] at hp
    exact MkL.of_put (F := delS s) (s := s) (k := t0.size) m f0 f1 hi i0 i1 r.delS (fun _ => ⟨(filter_delS _ _ _).symm, by rw [filter_delS, delS_filter_neg (by simp [oddK, hk])]⟩) (fun h => absurd hk h) (by rw [if_pos hk]; exact hp)
  · have e0 : decide (s ∈ t1.flat 0) = decide (s ∈ L) := by rw [f1]; congr 1; simp [oddK, hk]
    refine (Remove_calls s mb tb1 tb0 tb1 t1 w m.h1 (if_neg hk)).mono fun e w' hp => ?_
    rw [e0] at hp
    exact MkL.of_put (F := delS s) (s := s) (k := t1.size) m f0 f1 hi i0 i1 r.delS (fun h => absurd h hk) (fun _ => ⟨(filter_delS _ _ _).symm, by rw [filter_delS, delS_filter_neg (by simp [evenK, hk])]⟩) (by rw [if_neg hk]; exact hp)
end Go.Proofs.Ytmbclcplinmblaa
