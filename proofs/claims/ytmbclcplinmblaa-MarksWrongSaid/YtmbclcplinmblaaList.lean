/- Rising lists of spans: putting one in, taking one out. No program is spoken of here. -/
import Derived.Test.YtmbclcplinmblaaTree
namespace Go.Proofs.Ytmbclcplinmblaa
open Go.RowKit (wrap64)

/-- a rising list -/
def Rising (l : List Sp) : Prop := l.Pairwise Sp.lt

/-- a span put into a rising list, unless it is there -/
def insS (s : Sp) : List Sp → List Sp
  | [] => [s]
  | x :: l => if s.lt x then s :: x :: l else if s = x then x :: l else x :: insS s l

theorem mem_insS {s x : Sp} {l : List Sp} : x ∈ insS s l ↔ x = s ∨ x ∈ l := by
  induction l with
  | nil => simp [insS]
  | cons y l ih =>
    simp only [insS]
    split
    · simp
    · split
      · rename_i h; subst h; simp
      · simp only [List.mem_cons, ih]; grind

theorem Rising.insS {s : Sp} {l : List Sp} (h : Rising l) : Rising (insS s l) := by
  induction l with
  | nil => simp [Go.Proofs.Ytmbclcplinmblaa.insS, Rising]
  | cons y l ih =>
    have h' := List.pairwise_cons.1 h
    simp only [Go.Proofs.Ytmbclcplinmblaa.insS]
    split
    · rename_i hlt
      refine List.pairwise_cons.2 ⟨fun z hz => ?_, h⟩
      rcases List.mem_cons.1 hz with rfl | hz
      · exact hlt
      · exact Sp.lt_trans hlt (h'.1 z hz)
    · split
      · exact h
      · rename_i h1 h2
        refine List.pairwise_cons.2 ⟨fun z hz => ?_, ih h'.2⟩
        rcases mem_insS.1 hz with rfl | hz
        · rcases Sp.tri z y with h3 | h3 | h3
          · exact absurd h3 h1
          · exact absurd h3 h2
          · exact h3
        · exact h'.1 z hz

theorem rising_split {L R : List Sp} {n : Sp} (h : Rising (L ++ n :: R)) :
    Rising L ∧ Rising R ∧ (∀ x ∈ L, x.lt n) ∧ (∀ x ∈ R, n.lt x) := by
  obtain ⟨h1, h2, h3⟩ := List.pairwise_append.1 h
  obtain ⟨h4, h5⟩ := List.pairwise_cons.1 h2
  exact ⟨h1, h5, fun x hx => h3 x hx n (by simp), h4⟩
theorem rising_join {L R : List Sp} {n : Sp} (h1 : Rising L) (h2 : Rising R) (h3 : ∀ x ∈ L, x.lt n) (h4 : ∀ x ∈ R, n.lt x) : Rising (L ++ n :: R) := by
  refine List.pairwise_append.2 ⟨h1, List.pairwise_cons.2 ⟨h4, h2⟩, fun a ha b hb => ?_⟩
  rcases List.mem_cons.1 hb with rfl | hb
  · exact h3 a ha
  · exact Sp.lt_trans (h3 a ha) (h4 b hb)

theorem insS_lt {L R : List Sp} {n s : Sp} (hs : s.lt n) : insS s (L ++ n :: R) = insS s L ++ n :: R := by
  induction L with
  | nil => simp [insS, hs]
  | cons y L ih =>
    simp only [List.cons_append, insS, ih]
    split
    · rfl
    · split <;> rfl
theorem insS_gt {L R : List Sp} {n s : Sp} (h : ∀ x ∈ L, x.lt n) (hs : n.lt s) : insS s (L ++ n :: R) = L ++ n :: insS s R := by
  induction L with
  | nil =>
    simp only [List.nil_append, insS]
    rw [if_neg (Sp.lt_asymm hs), if_neg (fun e => by rw [e] at hs; exact Sp.lt_irrefl n hs)]
  | cons y L ih =>
    have hy := Sp.lt_trans (h y (by simp)) hs
    simp only [List.cons_append, insS]
    rw [if_neg (Sp.lt_asymm hy), if_neg (fun e => by rw [e] at hy; exact Sp.lt_irrefl y hy), ih (fun x hx => h x (by simp [hx]))]
theorem insS_eq {L R : List Sp} {n : Sp} (h : ∀ x ∈ L, x.lt n) : insS n (L ++ n :: R) = L ++ n :: R := by
  induction L with
  | nil => simp [insS, Sp.lt_irrefl]
  | cons y L ih =>
    have hy := h y (by simp)
    simp only [List.cons_append, insS]
    rw [if_neg (Sp.lt_asymm hy), if_neg (fun e => by rw [e] at hy; exact Sp.lt_irrefl y hy), ih (fun x hx => h x (by simp [hx]))]

/-- a span taken out -/
def delS (s : Sp) (l : List Sp) : List Sp := l.filter (fun x => decide (x ≠ s))
theorem delS_of_not {s : Sp} {l : List Sp} (h : s ∉ l) : delS s l = l := by
  unfold delS
  rw [List.filter_eq_self]
  intro x hx
  simp only [decide_eq_true_eq]
  rintro rfl
  exact h hx
theorem mem_delS {s x : Sp} {l : List Sp} : x ∈ delS s l ↔ x ∈ l ∧ x ≠ s := by simp [delS]
theorem Rising.delS {s : Sp} {l : List Sp} (h : Rising l) : Rising (delS s l) := List.Pairwise.filter _ h
theorem delS_append {s : Sp} {L R : List Sp} {n : Sp} (h : n ≠ s) : delS s (L ++ n :: R) = delS s L ++ n :: delS s R := by
  unfold delS
  rw [List.filter_append, List.filter_cons_of_pos (by simpa using h)]
theorem delS_lt {L R : List Sp} {n s : Sp} (h : ∀ x ∈ R, n.lt x) (hs : s.lt n) : delS s (L ++ n :: R) = delS s L ++ n :: R := by
  have h1 : n ≠ s := fun e => Sp.lt_irrefl s (e ▸ hs)
  rw [delS_append h1, delS_of_not (l := R) (fun hx => Sp.lt_asymm hs (h s hx))]
theorem delS_gt {L R : List Sp} {n s : Sp} (h : ∀ x ∈ L, x.lt n) (hs : n.lt s) : delS s (L ++ n :: R) = L ++ n :: delS s R := by
  have h1 : n ≠ s := fun e => Sp.lt_irrefl s (e ▸ hs)
  rw [delS_append h1, delS_of_not (l := L) (fun hx => Sp.lt_asymm hs (h s hx))]
theorem delS_eq {L R : List Sp} {n : Sp} (h : ∀ x ∈ L, x.lt n) (h' : ∀ x ∈ R, n.lt x) : delS n (L ++ n :: R) = L ++ R := by
  have h1 : delS n L = L := delS_of_not (fun hx => Sp.lt_irrefl n (h n hx))
  have h2 : delS n R = R := delS_of_not (fun hx => Sp.lt_irrefl n (h' n hx))
  have e : delS n (L ++ n :: R) = delS n L ++ delS n R := by
    unfold delS
    rw [List.filter_append, List.filter_cons_of_neg (by simp)]
  rw [e, h1, h2]
theorem mem_lt {L R : List Sp} {n s : Sp} (h : ∀ x ∈ R, n.lt x) (hs : s.lt n) : s ∈ L ++ n :: R ↔ s ∈ L := by
  have h1 : s ≠ n := fun e => Sp.lt_irrefl n (e ▸ hs)
  have h2 : s ∉ R := fun hx => Sp.lt_asymm hs (h s hx)
  simp [h1, h2]
theorem mem_gt {L R : List Sp} {n s : Sp} (h : ∀ x ∈ L, x.lt n) (hs : n.lt s) : s ∈ L ++ n :: R ↔ s ∈ R := by
  have h1 : s ≠ n := fun e => Sp.lt_irrefl n (e ▸ hs)
  have h2 : s ∉ L := fun hx => Sp.lt_asymm hs (h s hx)
  simp [h1, h2]

namespace T
theorem flat_length (o : Int) (t : T) : (flat o t).length = t.size := by
  induction t generalizing o with
  | nil => rfl
  | node b d l r ihl ihr => simp only [flat, List.length_append, List.length_cons, ihl, ihr, size]; omega
/-- a node's own span -/
def own (d : Nd) : Sp := ⟨d.f, d.t, d.k⟩
/-- a good node's spans, its children as they are behind 'down' -/
theorem flat_node {b : Nat} {d : Nd} {l r : T} (h : Gd (node b d l r)) : flat 0 (node b d l r) = flat 0 (mv d.w l) ++ own d :: flat 0 (mv d.w r) := by
  rw [← flat_down]
  obtain ⟨_, _, hf, ht⟩ := h.kidsDown
  show flat 0 (node b { d with w := 0 } (mv d.w l) (mv d.w r)) = _
  rw [flat_still rfl]
  simp only [Int.add_zero, hf.eq, ht.eq, own]
theorem flat_even_node {b : Nat} {d : Nd} {l r : T} (hw : d.w = 0) (hf : inR d.f) (ht : inR d.t) : flat 0 (even (node b d l r)) = flat 0 l ++ own d :: flat 0 r := by
  rw [flat_even (show (node b d l r).still from hw), flat_still hw]
  simp only [Int.add_zero, hf.eq, ht.eq, own]
end T
end Go.Proofs.Ytmbclcplinmblaa
