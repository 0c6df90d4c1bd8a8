/- The state between Edit's steps: the two halves, and a row that the trees do not touch. -/
import Derived.Test.YtmbclcplinmblaaW28
namespace Go.Proofs.Ytmbclcplinmblaa
open Go.RowKit

structure SR (mb : Nat) (tb : Bool → Nat) (I0 : Nat → Prop) (w0 : World) (F : Bool → List Sp) (v : Value) (l : List Sp) (W : World) : Prop where
  it : ∃ J B, Has W mb tb J F ∧ (∀ i, J i → i < W.heap.size) ∧ (∀ i, i < w0.heap.size → J i → I0 i) ∧ Only I0 w0 W ∧ Owns W B v l ∧ (∀ g n c, v = .slice (some ⟨g, 0, none⟩) n c → ¬ J g)

namespace SR
variable {mb : Nat} {tb : Bool → Nat} {I0 : Nat → Prop} {w0 W W' : World} {F : Bool → List Sp} {v : Value} {l : List Sp}

theorem start {mb : Nat} {I : Nat → Prop} {L : List Sp} (h : MkL w0 mb I L) : ∃ tb, SR mb tb I w0 (halves L) (.slice none 0 0) [] w0 ∧ Rising L := by
  obtain ⟨tb, t, h2, hr⟩ := h.two
  exact ⟨tb, ⟨_, 0, ⟨t, h2.mono (J := fun i => I i ∧ i < w0.heap.size) (fun i hi h => ⟨h, hi⟩)⟩, fun i h => h.2, fun i _ h => h.1, Only.refl _ _, Owns.nil _ _, fun g n c e => by cases e⟩, hr⟩

theorem fin {L : List Sp} (h : SR mb tb I0 w0 F v l W) (hF : ∀ c, F c = halves L c) (hr : Rising L) : MkL W mb (Grow I0 w0) L ∧ Only I0 w0 W := by
  obtain ⟨J, B, ⟨t, h1⟩, h2, h3, h4, _⟩ := h.it
  have e : F = halves L := funext hF
  subst e
  refine ⟨(h1.mkl hr).mono (fun i _ hJ => ?_), h4⟩
  by_cases hi : i < w0.heap.size
  · exact Or.inl (h3 i hi hJ)
  · exact Or.inr (by omega)

theorem rising (h : SR mb tb I0 w0 F v l W) (c : Bool) : Rising (F c) := by
  obtain ⟨J, B, ⟨t, h1⟩, _⟩ := h.it; exact h1.rising c
theorem par (h : SR mb tb I0 w0 F v l W) (c : Bool) : ∀ s ∈ F c, Ytmbclcplinmblaa.par s = c := by
  obtain ⟨J, B, ⟨t, h1⟩, _⟩ := h.it; exact h1.par c

theorem only (h : SR mb tb I0 w0 F v l W) (o : Only (fun _ => False) W W') : SR mb tb I0 w0 F v l W' := by
  obtain ⟨J, B, h1, h2, h3, h4, h5, h6⟩ := h.it
  exact ⟨J, B, h1.only o (fun _ _ _ h => h), fun i h => Nat.lt_of_lt_of_le (h2 i h) o.size, h3, h4.trans o (fun _ _ h => h) (fun _ _ h => h.elim), h5.only o (fun _ _ h => h), h6⟩

theorem marks (h : SR mb tb I0 w0 F v l W) : ∃ st, W.heap[mb]? = some (.cells #[P (tb false), P (tb true), .int .i64 st] 55 (0, 0)) := by
  obtain ⟨J, B, h1, _⟩ := h.it; exact h1.marks.2.2

theorem row (h : SR mb tb I0 w0 F v l W) : (v = .slice none 0 0 ∧ l = []) ∨ ∃ g cap cur, v = .slice (some ⟨g, 0, none⟩) l.length cap ∧ W.heap[g]? = some (.cells cur 25 (0, 0)) ∧ cur.toList.take (l.length * 3) = spCells l := by
  obtain ⟨J, B, h1, h2, h3, h4, h5, h6⟩ := h.it
  rcases h5.cases with h | ⟨g, cap, cur, a, b, c, d, e, f⟩
  · exact Or.inl h
  · exact Or.inr ⟨g, cap, cur, a, c, f⟩

/-- what a step that may grow the trees leaves -/
theorem next {J : Nat → Prop} {B : Nat} (h3 : ∀ i, i < w0.heap.size → J i → I0 i) (h4 : Only I0 w0 W) (h5 : Owns W B v l) (h6 : ∀ g n c, v = .slice (some ⟨g, 0, none⟩) n c → ¬ J g)
    {J' : Nat → Prop} {F' : Bool → List Sp} (p1 : Has W' mb tb J' F') (hJ : ∀ i, J' i → J i ∨ W.heap.size ≤ i) (p2 : Only J W W') : SR mb tb I0 w0 F' v l W' := by
  have hg : ∀ g n c, v = .slice (some ⟨g, 0, none⟩) n c → g < W.heap.size := fun g n c e => by
    rcases h5.cases with ⟨rfl, _⟩ | ⟨g1, cap, cur, rfl, b, hh, _⟩
    · cases e
    · cases e; exact lt_of_blk hh
  have h5' : Owns W' B v l := by
    rcases h5.cases with ⟨rfl, rfl⟩ | ⟨g1, cap, cur, rfl, b, hh, _⟩
    · exact Owns.nil _ _
    · obtain ⟨o1, o2 | ⟨g2, cap2, cur2, ov, og, oh, r⟩⟩ := h5
      · exact absurd o2.1 (by simp)
      · cases ov
        exact ⟨o1, Or.inr ⟨g1, cap, cur2, rfl, og, p2.keep oh (h6 g1 _ _ rfl), r⟩⟩
  refine ⟨fun i => J' i ∧ i < W'.heap.size, B, p1.mono (fun i hi h => ⟨h, hi⟩), fun i h => h.2, fun i hi h => ?_, h4.trans p2 (fun _ _ h => h) (fun i hi h => h3 i hi h), h5', fun g n c e h => ?_⟩
  · rcases hJ i h.1 with h | h
    · exact h3 i hi h
    · have := h4.size; omega
  · rcases hJ g h.1 with h | h
    · exact h6 g n c e h
    · have := hg g n c e; omega

theorem over (h : SR mb tb I0 w0 F v l W) (c : Bool) (p q : Int) (hq : 0 ≤ q) (hl : (F c).length ≤ 1099511627776) :
    ∃ rt, W.cell? ⟨tb c, 0, none⟩ = some (.pointer rt) ∧ Calls Try.prog 46 #[P (tb c), .pointer rt, .int .i64 p, .int .i64 q] W fun e w' => ∃ v', e = .returned v' ∧ SR mb tb I0 w0 F v' ((F c).filter (overB p q)) w' := by
  obtain ⟨J, B, ⟨t, h1⟩, h2, h3, h4, h5, h6⟩ := h.it
  refine ⟨(t c).root, cellAt (h1.half c).host.tree 0 rfl, (over_T c p q hq mb tb J F t W h1 hl).mono fun e w' hp => ?_⟩
  obtain ⟨v', he, p1, p2, p3, p4⟩ := hp
  refine ⟨v', he, J, W.heap.size, p1, fun i h => Nat.lt_of_lt_of_le (h2 i h) p2.size, h3, h4.trans p2 (fun _ _ h => h) (fun i hi h => h3 i hi h), p3, fun g n cc e hJ => ?_⟩
  have := h2 g hJ
  rcases p3.cases with ⟨rfl, _⟩ | ⟨g1, cap, cur, rfl, b, hh, _⟩
  · cases e
  · cases e; omega

theorem tail (h : SR mb tb I0 w0 F v l W) (c : Bool) (p x : Int) (hx : -1152921504606846976 ≤ x ∧ x ≤ 1152921504606846976) (hm : Mv p x (F c)) (hr : Rising ((F c).map (tailS p x))) :
    ∃ rt, W.cell? ⟨tb c, 0, none⟩ = some (.pointer rt) ∧ Calls Try.prog 47 #[P (tb c), .pointer rt, .int .i64 p, .int .i64 x] W fun e w' => e = .returned (.tuple #[]) ∧ SR mb tb I0 w0 (Two.upd F c ((F c).map (tailS p x))) v l w' := by
  obtain ⟨J, B, ⟨t, h1⟩, h2, h3, h4, h5, h6⟩ := h.it
  exact ⟨(t c).root, cellAt (h1.half c).host.tree 0 rfl, (tail_T c p x hx mb tb J F t W h1 hm hr).mono fun e w' ⟨he, p1, p2⟩ => ⟨he, next h3 h4 h5 h6 p1 (fun _ h => Or.inl h) p2⟩⟩

theorem less (h : SR mb tb I0 w0 F v l W) (hl : l.length < 4611686018427387904) :
    Calls Try.prog 45 #[P mb, v] W fun e w' => e = .returned (.tuple #[]) ∧ SR mb tb I0 w0 (without F l) v l w' := by
  obtain ⟨J, B, h1, h2, h3, h4, h5, h6⟩ := h.it
  exact (less_T B v l mb tb J F W h5 h6 h1 hl).mono fun e w' ⟨he, p1, p2⟩ => ⟨he, next h3 h4 h5 h6 p1 (fun _ h => h) p2⟩

theorem put (h : SR mb tb I0 w0 F v l W) (s : Sp) (hf : T.inR s.f) (ht : T.inR s.t) (hl : (F (Ytmbclcplinmblaa.par s)).length + 1 < 2305843009213693952) :
    Calls Try.prog 31 #[P mb, s.val] W fun e w' => e = .returned (.bool (decide (s ∉ F (Ytmbclcplinmblaa.par s)))) ∧ SR mb tb I0 w0 (Two.upd F (Ytmbclcplinmblaa.par s) (insS s (F (Ytmbclcplinmblaa.par s)))) v l w' := by
  obtain ⟨J, B, h1, h2, h3, h4, h5, h6⟩ := h.it
  exact (mput_T s hf ht mb tb J F W h1 hl).mono fun e w' ⟨he, p1, p2⟩ => ⟨he, next h3 h4 h5 h6 p1 (fun _ h => h) p2⟩

theorem steps (h : SR mb tb I0 w0 F v l W) (x : Int) : SR mb tb I0 w0 F v l (W.setCell ⟨mb, 2, none⟩ (.int .i64 x)) := by
  obtain ⟨J, B, h1, h2, h3, h4, h5, h6⟩ := h.it
  exact next h3 h4 h5 h6 (h1.steps x) (fun _ h => Or.inl h) ((Only.refl _ W).set _ _ _ (fun _ => h1.marks.1))
end SR
end Go.Proofs.Ytmbclcplinmblaa
