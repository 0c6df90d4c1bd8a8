/- What Edit makes of the two halves, in lists. No program is spoken of here. -/
import Derived.Test.YtmbclcplinmblaaW29
namespace Go.Proofs.Ytmbclcplinmblaa
open Go.RowKit (wrap64)

/-- the spans in sight -/
def In40 (l : List Sp) : Prop := ∀ s ∈ l, 0 ≤ s.f ∧ s.f < s.t ∧ s.t ≤ 1099511627776

structure Cut3 (a d i : Int) : Prop where
  a : 0 ≤ a ∧ a ≤ 1099511627776
  d : 0 ≤ d ∧ d ≤ 1099511627776
  i : 0 ≤ i ∧ i ≤ 1099511627776

theorem shS_of {x : Int} {s : Sp} (h : -1152921504606846976 ≤ s.f + x ∧ s.f + x ≤ 1152921504606846976) (h' : -1152921504606846976 ≤ s.t + x ∧ s.t + x ≤ 1152921504606846976) : shS x s = ⟨s.f + x, s.t + x, s.k⟩ := by
  unfold shS
  rw [wrap64_of _ (by omega), wrap64_of _ (by omega)]

/-- a tail whose other spans end ahead of it -/
theorem rising_tail {p x b : Int} {l : List Sp} (hr : Rising l) (hin : In40 l) (hx : -1099511627776 ≤ x ∧ x ≤ 1099511627776) (hb : ∀ s ∈ l, ¬ p ≤ s.f → s.f < b) (hp : b ≤ p + x) : Rising (l.map (tailS p x)) := by
  unfold Rising at *
  rw [List.pairwise_map]
  refine List.Pairwise.imp_of_mem (fun {s s'} hs hs' h => ?_) hr
  have i1 := hin s hs
  have i2 := hin s' hs'
  have b1 := hb s hs
  have b2 := hb s' hs'
  unfold tailS
  unfold Sp.lt at h
  split
  · rw [shS_of (by omega) (by omega)]
    split
    · rw [shS_of (by omega) (by omega)]
      unfold Sp.lt; simp only; omega
    · unfold Sp.lt; simp only; omega
  · split
    · rw [shS_of (by omega) (by omega)]
      unfold Sp.lt; simp only; omega
    · exact h

theorem mv_tail {p x : Int} {l : List Sp} (hin : In40 l) (hp : 0 ≤ p + x) : Mv p x l := fun s hs => by
  have := hin s hs
  exact ⟨by omega, by omega, fun h => by omega⟩

theorem In40.filter {l : List Sp} (h : In40 l) (p : Sp → Bool) : In40 (l.filter p) := fun s hs => h s (List.mem_filter.1 hs).1

theorem without_filter (F : Bool → List Sp) (c : Bool) (p : Sp → Bool) : without F ((F c).filter p) c = (F c).filter (fun s => !p s) := by
  unfold without
  refine List.filter_congr (fun s hs => ?_)
  cases h : p s <;> simp [hs, h]
theorem without_other (F : Bool → List Sp) (c : Bool) (p : Sp → Bool) (hp : ∀ c, ∀ s ∈ F c, par s = c) : without F ((F c).filter p) (!c) = F (!c) := by
  unfold without
  rw [List.filter_eq_self]
  intro s hs
  have h1 := hp _ s hs
  have h2 : ¬ s ∈ F c := fun h => by
    have h3 := hp _ s h
    rw [h1] at h3
    cases c <;> cases h3
  simp [h2]
theorem without_upd (F : Bool → List Sp) (c : Bool) (p : Sp → Bool) (hp : ∀ c, ∀ s ∈ F c, par s = c) : without F ((F c).filter p) = Two.upd F c ((F c).filter (fun s => !p s)) := by
  funext d
  rcases Two.both (c := c) (d := d) with rfl | rfl
  · rw [without_filter, Two.upd_same]
  · rw [without_other F c p hp, Two.upd_other]

/-- which spans of the one sort go, or are clipped -/
def hit1 (a d : Int) : Sp → Bool := overB (a + d) a
def hit0 (a d : Int) : Sp → Bool := overB (max a (a + d - 1)) (a + 1)
def tl1 (a d i : Int) : Sp → Sp := tailS (a + d + 1) (i - d)
def tl0 (a d i : Int) : Sp → Sp := tailS (max (a + 1) (a + d)) (i - d)
def big : Sp → Bool := overB 9223372036854775807 1099511627777

def putC (a d i : Int) (F : Bool → List Sp) (s : Sp) : Bool → List Sp :=
  match clipS a d i s with
  | some c => Two.upd F (par c) (insS c (F (par c)))
  | none => F

def ed1 (a d : Int) (F : Bool → List Sp) : Bool → List Sp := without F ((F true).filter (hit1 a d))
def ed2 (a d i : Int) (F : Bool → List Sp) : Bool → List Sp := Two.upd (ed1 a d F) true ((ed1 a d F true).map (tl1 a d i))
def row0 (a d i : Int) (F : Bool → List Sp) : List Sp := (ed2 a d i F false).filter (hit0 a d)
def ed3 (a d i : Int) (F : Bool → List Sp) : Bool → List Sp := without (ed2 a d i F) (row0 a d i F)
def ed4 (a d i : Int) (F : Bool → List Sp) : Bool → List Sp := Two.upd (ed3 a d i F) false ((ed3 a d i F false).map (tl0 a d i))
def ed5 (a d i : Int) (F : Bool → List Sp) : Bool → List Sp := (row0 a d i F).foldl (putC a d i) (ed4 a d i F)
def ed6 (a d i : Int) (F : Bool → List Sp) : Bool → List Sp := without (ed5 a d i F) ((ed5 a d i F false).filter big)
def ed7 (a d i : Int) (F : Bool → List Sp) : Bool → List Sp := without (ed6 a d i F) ((ed6 a d i F true).filter big)

structure EdOk (a d i : Int) (F : Bool → List Sp) : Prop where
  c : Cut3 a d i
  inn : ∀ c, In40 (F c)
  rising : ∀ c, Rising (F c)
  par : ∀ c, ∀ s ∈ F c, par s = c

namespace EdOk
variable {a d i : Int} {F : Bool → List Sp}

theorem ed1_true : ed1 a d F true = (F true).filter (fun s => !hit1 a d s) := without_filter F true _
theorem ed1_false (h : EdOk a d i F) : ed1 a d F false = F false := without_other F true _ h.par
theorem ed2_false (h : EdOk a d i F) : ed2 a d i F false = F false := by
  unfold ed2; exact (Two.upd_other (ed1 a d F) true _).trans h.ed1_false
theorem ed2_true : ed2 a d i F true = ((F true).filter (fun s => !hit1 a d s)).map (tl1 a d i) := by
  unfold ed2; rw [Two.upd_same, ed1_true]
theorem tail1_ok (h : EdOk a d i F) : Mv (a + d + 1) (i - d) (ed1 a d F true) ∧ Rising ((ed1 a d F true).map (tl1 a d i)) := by
  obtain ⟨ha, hd, hi⟩ := h.c
  rw [ed1_true]
  refine ⟨mv_tail ((h.inn true).filter _) (by omega), rising_tail (b := a) (List.Pairwise.filter _ (h.rising true)) ((h.inn true).filter _) (by omega) (fun s hs hn => ?_) (by omega)⟩
  have h1 := (List.mem_filter.1 hs).2
  have h2 := h.inn true s (List.mem_filter.1 hs).1
  unfold hit1 overB at h1
  simp at h1
  omega
theorem tl_par (p x : Int) (s : Sp) : Ytmbclcplinmblaa.par (tailS p x s) = Ytmbclcplinmblaa.par s := by
  unfold tailS; split
  · rfl
  · rfl
theorem par2 (h : EdOk a d i F) : ∀ c, ∀ s ∈ ed2 a d i F c, Ytmbclcplinmblaa.par s = c := by
  intro c s hs
  cases c
  · rw [h.ed2_false] at hs; exact h.par _ s hs
  · rw [ed2_true] at hs
    obtain ⟨y, hy, rfl⟩ := List.mem_map.1 hs
    unfold tl1
    rw [tl_par]
    exact h.par _ y (List.mem_filter.1 hy).1
theorem row0_eq (h : EdOk a d i F) : row0 a d i F = (F false).filter (hit0 a d) := by unfold row0; rw [h.ed2_false]
theorem ed3_false (h : EdOk a d i F) : ed3 a d i F false = (F false).filter (fun s => !hit0 a d s) := by
  unfold ed3 row0; rw [without_filter, h.ed2_false]
theorem ed3_true (h : EdOk a d i F) : ed3 a d i F true = ed2 a d i F true := without_other _ false _ h.par2
theorem tail0_ok (h : EdOk a d i F) : Mv (max (a + 1) (a + d)) (i - d) (ed3 a d i F false) ∧ Rising ((ed3 a d i F false).map (tl0 a d i)) := by
  obtain ⟨ha, hd, hi⟩ := h.c
  rw [h.ed3_false]
  refine ⟨mv_tail ((h.inn false).filter _) (by omega), rising_tail (b := a) (List.Pairwise.filter _ (h.rising false)) ((h.inn false).filter _) (by omega) (fun s hs hn => ?_) (by omega)⟩
  have h1 := (List.mem_filter.1 hs).2
  have h2 := h.inn false s (List.mem_filter.1 hs).1
  unfold hit0 overB at h1
  simp at h1
  omega
theorem ed4_false (h : EdOk a d i F) : ed4 a d i F false = ((F false).filter (fun s => !hit0 a d s)).map (tl0 a d i) := by
  unfold ed4; rw [Two.upd_same, h.ed3_false]
theorem ed4_true (h : EdOk a d i F) : ed4 a d i F true = ed2 a d i F true := by
  unfold ed4; exact (Two.upd_other _ false _).trans h.ed3_true

theorem clip_par {s c : Sp} (h : clipS a d i s = some c) : Ytmbclcplinmblaa.par c = Ytmbclcplinmblaa.par s := by
  unfold clipS at h
  split at h
  · cases h
  · cases h; rfl
theorem clip_in {x y z : Int} {s c : Sp} (h : clipS x y z s = some c) : 0 ≤ c.f ∧ c.f < c.t ∧ c.t ≤ 3298534883328 := by
  have h1 := cutI_in x
  have h2 := cutI_in y
  have h3 := cutI_in z
  have h4 := cutI_in s.f
  have h5 := cutI_in s.t
  unfold clipS at h
  split at h
  · cases h
  · rename_i hlt
    cases h
    simp only
    unfold placeI at *
    generalize cutI x = a at *
    generalize cutI y = d at *
    generalize cutI z = i at *
    generalize cutI s.f = u at *
    generalize cutI s.t = v at *
    split at hlt <;> split at hlt <;> (try split at hlt) <;> (try split at hlt) <;> simp_all <;> omega

/-- the puts of clipped spans -/
theorem fold_putC : ∀ (l : List Sp) (G : Bool → List Sp), (∀ s ∈ l, Ytmbclcplinmblaa.par s = false) →
    (l.foldl (putC a d i) G) true = G true ∧ (∀ x, x ∈ (l.foldl (putC a d i) G) false ↔ x ∈ G false ∨ ∃ s ∈ l, clipS a d i s = some x)
  | [], G, _ => ⟨rfl, fun x => by simp⟩
  | s :: l, G, hl => by
    have hs := hl s (by simp)
    obtain ⟨h1, h2⟩ := fold_putC l (putC a d i G s) (fun y hy => hl y (by simp [hy]))
    rw [List.foldl_cons]
    cases hcl : clipS a d i s with
    | none =>
      have e : putC a d i G s = G := by unfold putC; rw [hcl]
      rw [e] at h1 h2 ⊢
      refine ⟨h1, fun x => (h2 x).trans ?_⟩
      simp [hcl]
    | some c =>
      have hcp := (clip_par hcl).trans hs
      have e : putC a d i G s = Two.upd G false (insS c (G false)) := by unfold putC; rw [hcl]; simp only [hcp]
      rw [e] at h1 h2 ⊢
      refine ⟨h1.trans (Two.upd_other G false _), fun x => (h2 x).trans ?_⟩
      rw [Two.upd_same, mem_insS]
      simp only [List.mem_cons, exists_eq_or_imp, hcl, Option.some.injEq]
      constructor
      · rintro ((rfl | h) | h)
        · exact Or.inr (Or.inl rfl)
        · exact Or.inl h
        · exact Or.inr (Or.inr h)
      · rintro (h | rfl | h)
        · exact Or.inl (Or.inr h)
        · exact Or.inl (Or.inl rfl)
        · exact Or.inr h
theorem row0_par (h : EdOk a d i F) : ∀ s ∈ row0 a d i F, Ytmbclcplinmblaa.par s = false := by
  rw [h.row0_eq]; exact fun s hs => h.par _ s (List.mem_filter.1 hs).1
theorem insS_len (s : Sp) : ∀ l : List Sp, (insS s l).length ≤ l.length + 1
  | [] => by simp [insS]
  | x :: l => by
    have := insS_len s l
    simp only [insS]; split
    · simp
    · split <;> simp <;> omega
theorem putC_len (G : Bool → List Sp) (s : Sp) (hs : Ytmbclcplinmblaa.par s = false) : (putC a d i G s false).length ≤ (G false).length + 1 := by
  cases hcl : clipS a d i s with
  | none =>
    have e : putC a d i G s = G := by unfold putC; rw [hcl]
    rw [e]; omega
  | some c =>
    have hcp := (clip_par hcl).trans hs
    have e : putC a d i G s = Two.upd G false (insS c (G false)) := by unfold putC; rw [hcl]; simp only [hcp]
    rw [e, Two.upd_same]
    exact insS_len c _
theorem fold_len : ∀ (l : List Sp) (G : Bool → List Sp), (∀ s ∈ l, Ytmbclcplinmblaa.par s = false) → ((l.foldl (putC a d i) G) false).length ≤ (G false).length + l.length
  | [], G, _ => by simp
  | s :: l, G, hl => by
    have h1 := fold_len l (putC a d i G s) (fun y hy => hl y (by simp [hy]))
    have h2 := putC_len (a := a) (d := d) (i := i) G s (hl s (by simp))
    rw [List.foldl_cons, List.length_cons]; omega
theorem filter_two (p : Sp → Bool) (l : List Sp) : (l.filter (fun s => !p s)).length + (l.filter p).length = l.length := by
  induction l with
  | nil => rfl
  | cons x l ih =>
    cases h : p x
    · rw [List.filter_cons_of_pos (by simp [h]), List.filter_cons_of_neg (by simp [h])]; simp only [List.length_cons]; omega
    · rw [List.filter_cons_of_neg (by simp [h]), List.filter_cons_of_pos (by simp [h])]; simp only [List.length_cons]; omega
/-- how long the half of the even kinds is at most -/
theorem len4 (h : EdOk a d i F) : (ed4 a d i F false).length + (row0 a d i F).length = (F false).length := by
  rw [h.ed4_false, h.row0_eq, List.length_map]; exact filter_two _ _
theorem len5 (h : EdOk a d i F) : ∀ c, (ed5 a d i F c).length ≤ (F c).length := by
  intro c
  cases c
  · have h1 := fold_len (a := a) (d := d) (i := i) (row0 a d i F) (ed4 a d i F) h.row0_par
    have h2 := h.len4
    unfold ed5
    omega
  · unfold ed5
    rw [(fold_putC _ _ h.row0_par).1, h.ed4_true, ed2_true, List.length_map]
    exact List.length_filter_le _ _
theorem par5 (h : EdOk a d i F) : ∀ c, ∀ s ∈ ed5 a d i F c, Ytmbclcplinmblaa.par s = c := by
  intro c s hs
  obtain ⟨f1, f2⟩ := fold_putC (a := a) (d := d) (i := i) (row0 a d i F) (ed4 a d i F) h.row0_par
  unfold ed5 at hs
  cases c
  · rcases (f2 s).1 hs with h1 | ⟨y, hy, h1⟩
    · rw [h.ed4_false] at h1
      obtain ⟨y, hy, rfl⟩ := List.mem_map.1 h1
      unfold tl0
      rw [tl_par]
      exact h.par _ y (List.mem_filter.1 hy).1
    · rw [clip_par h1]; exact h.row0_par y hy
  · rw [f1, h.ed4_true] at hs
    exact h.par2 _ s hs
theorem ed7_eq (h : EdOk a d i F) : ∀ c, ed7 a d i F c = (ed5 a d i F c).filter (fun s => !big s) := by
  have e6f : ed6 a d i F false = (ed5 a d i F false).filter (fun s => !big s) := without_filter _ false _
  have e6t : ed6 a d i F true = ed5 a d i F true := without_other _ false _ h.par5
  have p6 : ∀ c, ∀ s ∈ ed6 a d i F c, Ytmbclcplinmblaa.par s = c := by
    intro c s hs
    cases c
    · rw [e6f] at hs; exact h.par5 _ s (List.mem_filter.1 hs).1
    · rw [e6t] at hs; exact h.par5 _ s hs
  intro c
  cases c
  · exact (without_other _ true _ p6).trans e6f
  · have : ed7 a d i F true = (ed6 a d i F true).filter (fun s => !big s) := without_filter _ true _
    rw [this, e6t]

/-- what becomes of one span -/
def one (a d i : Int) (s : Sp) : Option Sp :=
  if Ytmbclcplinmblaa.par s then (if hit1 a d s then none else some (tl1 a d i s)) else (if hit0 a d s then clipS a d i s else some (tl0 a d i s))
/-- .. if it does not end too far -/
def keep (a d i : Int) (s : Sp) : Option Sp := (one a d i s).filter (fun s => !big s)

theorem mem5 (h : EdOk a d i F) : ∀ c x, x ∈ ed5 a d i F c ↔ ∃ s ∈ F c, one a d i s = some x := by
  intro c x
  obtain ⟨f1, f2⟩ := fold_putC (a := a) (d := d) (i := i) (row0 a d i F) (ed4 a d i F) h.row0_par
  unfold ed5
  cases c
  · rw [f2, h.ed4_false, h.row0_eq]
    constructor
    · rintro (h1 | ⟨y, hy, h1⟩)
      · obtain ⟨y, hy, rfl⟩ := List.mem_map.1 h1
        obtain ⟨y1, y2⟩ := List.mem_filter.1 hy
        have y2 : hit0 a d y = false := by simpa using y2
        exact ⟨y, y1, by unfold one; rw [h.par _ y y1, y2]; rfl⟩
      · obtain ⟨y1, y2⟩ := List.mem_filter.1 hy
        exact ⟨y, y1, by unfold one; rw [h.par _ y y1, y2]; exact h1⟩
    · rintro ⟨y, hy, h1⟩
      unfold one at h1
      rw [h.par _ y hy] at h1
      cases h2 : hit0 a d y
      · rw [h2] at h1
        simp at h1
        exact Or.inl (List.mem_map.2 ⟨y, List.mem_filter.2 ⟨hy, by simp [h2]⟩, h1⟩)
      · rw [h2] at h1
        simp at h1
        exact Or.inr ⟨y, List.mem_filter.2 ⟨hy, h2⟩, h1⟩
  · rw [f1, h.ed4_true, ed2_true]
    constructor
    · intro h1
      obtain ⟨y, hy, rfl⟩ := List.mem_map.1 h1
      obtain ⟨y1, y2⟩ := List.mem_filter.1 hy
      have y2 : hit1 a d y = false := by simpa using y2
      exact ⟨y, y1, by unfold one; rw [h.par _ y y1, y2]; rfl⟩
    · rintro ⟨y, hy, h1⟩
      unfold one at h1
      rw [h.par _ y hy] at h1
      cases h2 : hit1 a d y
      · rw [h2] at h1
        simp at h1
        exact List.mem_map.2 ⟨y, List.mem_filter.2 ⟨hy, by simp [h2]⟩, h1⟩
      · rw [h2] at h1
        simp at h1
theorem mem7 (h : EdOk a d i F) : ∀ c x, x ∈ ed7 a d i F c ↔ ∃ s ∈ F c, keep a d i s = some x := by
  intro c x
  rw [h.ed7_eq, List.mem_filter, h.mem5]
  unfold keep
  constructor
  · rintro ⟨⟨s, hs, h1⟩, h2⟩
    exact ⟨s, hs, by rw [h1]; simp [Option.filter, h2]⟩
  · rintro ⟨s, hs, h1⟩
    obtain ⟨h2, h3⟩ := Option.filter_eq_some_iff.1 h1
    exact ⟨⟨s, hs, h2⟩, h3⟩
end EdOk

theorem rising_ext : ∀ {l m : List Sp}, Rising l → Rising m → (∀ x, x ∈ l ↔ x ∈ m) → l = m
  | [], [], _, _, _ => rfl
  | [], y :: m, _, _, h => absurd ((h y).2 (by simp)) (by simp)
  | x :: l, [], _, _, h => absurd ((h x).1 (by simp)) (by simp)
  | x :: l, y :: m, hl, hm, h => by
    have hl' := List.pairwise_cons.1 hl
    have hm' := List.pairwise_cons.1 hm
    have e : x = y := by
      rcases List.mem_cons.1 ((h x).1 (by simp)) with e | e
      · exact e
      · rcases List.mem_cons.1 ((h y).2 (by simp)) with e' | e'
        · exact e'.symm
        · exact absurd (Sp.lt_trans (hl'.1 y e') (hm'.1 x e)) (Sp.lt_irrefl x)
    subst e
    congr 1
    refine rising_ext hl'.2 hm'.2 (fun z => ?_)
    constructor
    · intro hz
      rcases List.mem_cons.1 ((h z).1 (by simp [hz])) with e | e
      · exact absurd (e ▸ hl'.1 z hz) (Sp.lt_irrefl x)
      · exact e
    · intro hz
      rcases List.mem_cons.1 ((h z).2 (by simp [hz])) with e | e
      · exact absurd (e ▸ hm'.1 z hz) (Sp.lt_irrefl x)
      · exact e

/-- a list put into a rising list, one after another -/
def putAll (l : List Sp) (acc : List Sp) : List Sp := l.foldl (fun acc s => insS s acc) acc
theorem mem_putAll : ∀ (l acc : List Sp) (x : Sp), x ∈ putAll l acc ↔ x ∈ l ∨ x ∈ acc
  | [], acc, x => by simp [putAll]
  | s :: l, acc, x => by
    have := mem_putAll l (insS s acc) x
    unfold putAll at *
    rw [List.foldl_cons, this, mem_insS]
    simp only [List.mem_cons]
    constructor
    · rintro (h | h | h)
      · exact Or.inl (Or.inr h)
      · exact Or.inl (Or.inl h)
      · exact Or.inr h
    · rintro ((h | h) | h)
      · exact Or.inr (Or.inl h)
      · exact Or.inl h
      · exact Or.inr (Or.inr h)
theorem rising_putAll : ∀ (l acc : List Sp), Rising acc → Rising (putAll l acc)
  | [], _, h => h
  | _ :: l, _, h => rising_putAll l _ h.insS

/-- EDIT of a rising list -/
def editL (a d i : Int) (L : List Sp) : List Sp := putAll (L.filterMap (EdOk.keep (cutI a) (cutI d) (cutI i))) []
theorem editL_rising (a d i : Int) (L : List Sp) : Rising (editL a d i L) := rising_putAll _ _ List.Pairwise.nil
theorem mem_editL (a d i : Int) (L : List Sp) (x : Sp) : x ∈ editL a d i L ↔ ∃ s ∈ L, EdOk.keep (cutI a) (cutI d) (cutI i) s = some x := by
  unfold editL; rw [mem_putAll]; simp [List.mem_filterMap]

theorem keep_par {a d i : Int} {s x : Sp} (h : EdOk.keep a d i s = some x) : par x = par s := by
  unfold EdOk.keep at h
  obtain ⟨h2, _⟩ := Option.filter_eq_some_iff.1 h
  unfold EdOk.one at h2
  split at h2
  · split at h2
    · cases h2
    · cases h2; exact EdOk.tl_par _ _ _
  · split at h2
    · exact EdOk.clip_par h2
    · cases h2; exact EdOk.tl_par _ _ _

theorem ed7_editL {a d i : Int} {L : List Sp} (h : EdOk (cutI a) (cutI d) (cutI i) (halves L)) (c : Bool) (hr : Rising (ed7 (cutI a) (cutI d) (cutI i) (halves L) c)) : ed7 (cutI a) (cutI d) (cutI i) (halves L) c = halves (editL a d i L) c := by
  refine rising_ext hr (List.Pairwise.filter _ (editL_rising a d i L)) (fun x => ?_)
  rw [h.mem7]
  unfold halves
  rw [List.mem_filter, mem_editL]
  constructor
  · rintro ⟨s, hs, h1⟩
    obtain ⟨h2, h3⟩ := List.mem_filter.1 hs
    exact ⟨⟨s, h2, h1⟩, by rw [keep_par h1]; exact h3⟩
  · rintro ⟨⟨s, hs, h1⟩, h2⟩
    exact ⟨s, List.mem_filter.2 ⟨hs, by rw [← keep_par h1]; exact h2⟩, h1⟩
end Go.Proofs.Ytmbclcplinmblaa
