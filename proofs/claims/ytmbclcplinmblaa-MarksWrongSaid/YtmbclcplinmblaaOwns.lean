/- Rows of spans in memory that the call itself made. -/
import Derived.Test.YtmbclcplinmblaaLies
import Derived.Laws.AppendOwn
import Derived.Laws.AppendOwnNone
namespace Go.Proofs.Ytmbclcplinmblaa
open Go.RowKit

/-- the cells of spans that lie in a row -/
def spCells (l : List Sp) : List Value := l.flatMap (fun s => [.int .i64 s.f, .int .i64 s.t, .int .i64 s.k])
theorem spCells_length (l : List Sp) : (spCells l).length = l.length * 3 := by
  induction l with
  | nil => rfl
  | cons s l ih => simp only [spCells, List.flatMap_cons, List.length_append] at *; rw [ih]; simp; omega
theorem spCells_append (a b : List Sp) : spCells (a ++ b) = spCells a ++ spCells b := by simp [spCells]
theorem spCells_one (l : List Sp) : ∀ u ∈ spCells l, u.oneCell' = true := by
  intro u hu
  simp only [spCells, List.mem_flatMap] at hu
  obtain ⟨s, _, hs⟩ := hu
  simp at hs
  rcases hs with rfl | rfl | rfl <;> rfl

/-- a slice value over a row of spans that was made from block B on -/
def Owns (w : World) (B : Nat) (v : Value) (l : List Sp) : Prop := w.ownsRow B 25 3 v l.length (spCells l)

theorem Owns.nil (w : World) (B : Nat) : Owns w B (.slice none 0 0) [] := ⟨rfl, Or.inl ⟨rfl, rfl⟩⟩
theorem Owns.mono {w : World} {B B' : Nat} {v : Value} {l : List Sp} (h : Owns w B v l) (hB : B' ≤ B) : Owns w B' v l := by
  obtain ⟨h1, h2⟩ := h
  refine ⟨h1, ?_⟩
  rcases h2 with h2 | ⟨g, cap, cur, hv, hg, r⟩
  · exact Or.inl h2
  · exact Or.inr ⟨g, cap, cur, hv, Nat.le_trans hB hg, r⟩
theorem Owns.only {w w' : World} {B : Nat} {v : Value} {l : List Sp} {S : Nat → Prop} (h : Owns w B v l) (o : Only S w w') (hS : ∀ i, B ≤ i → ¬ S i) : Owns w' B v l := by
  obtain ⟨h1, h2⟩ := h
  refine ⟨h1, ?_⟩
  rcases h2 with h2 | ⟨g, cap, cur, hv, hg, hh, r⟩
  · exact Or.inl h2
  · exact Or.inr ⟨g, cap, cur, hv, hg, o.keep hh (hS g hg), r⟩
theorem Owns.cases {w : World} {B : Nat} {v : Value} {l : List Sp} (h : Owns w B v l) : (v = .slice none 0 0 ∧ l = []) ∨
    ∃ g cap cur, v = .slice (some ⟨g, 0, none⟩) l.length cap ∧ B ≤ g ∧ w.heap[g]? = some (.cells cur 25 (0, 0)) ∧ l.length ≤ cap ∧ cur.size = cap * 3 ∧ cur.toList.take (l.length * 3) = spCells l := by
  obtain ⟨h1, h2 | ⟨g, cap, cur, hv, hg, hh, h3, _, h4, h5⟩⟩ := h
  · exact Or.inl ⟨h2.1, List.length_eq_zero_iff.1 h2.2⟩
  · exact Or.inr ⟨g, cap, cur, hv, hg, hh, h3, h4, h5⟩
theorem rowCell {w : World} {g n : Nat} {cur : Array Value} {l : List Sp} (hh : w.heap[g]? = some (.cells cur 25 (0, 0))) (h5 : cur.toList.take n = spCells l) : ∀ j u, (spCells l)[j]? = some u → w.cell? ((⟨g, 0, none⟩ : Addr).add j) = some u := by
  intro j u hj
  rw [← h5, List.getElem?_take] at hj
  split at hj
  · have : (⟨g, 0, none⟩ : Addr).add j = ⟨g, j, none⟩ := by unfold Addr.add; split <;> simp_all
    rw [this]
    exact cellAt hh j (by simpa using hj)
  · cases hj
theorem Only.of_grown {w w' : World} {row : Option Nat} {B : Nat} (h : w.grownBy w' row) (hr : ∀ k, row = some k → B ≤ k) : Only (fun i => B ≤ i) w w' :=
  ⟨h.os, h.tape, h.output, h.size, fun k hk hn => h.block k hk (fun e => hn (hr k e.symm))⟩
end Go.Proofs.Ytmbclcplinmblaa
