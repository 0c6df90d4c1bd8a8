/- The spans behind a place moved by so much: what 'tail' makes of a rising list; a moved tree tells right. No program is spoken of here. -/
import Derived.Test.YtmbclcplinmblaaList
namespace Go.Proofs.Ytmbclcplinmblaa
open Go.RowKit (wrap64)

def shS (x : Int) (s : Sp) : Sp := ⟨wrap64 (s.f + x), wrap64 (s.t + x), s.k⟩
/-- the spans that begin at a place at least, by so much -/
def tailS (p x : Int) (s : Sp) : Sp := if p ≤ s.f then shS x s else s

namespace T
theorem flat_shift (o x : Int) (t : T) : flat (wrap64 (o + x)) t = (flat o t).map (shS x) := by
  induction t generalizing o with
  | nil => rfl
  | node b d l r ihl ihr =>
    have e : wrap64 (wrap64 (o + x) + d.w) = wrap64 (wrap64 (o + d.w) + x) := by
      rw [wrap64_add_l, wrap64_add_l]; congr 1; omega
    simp only [flat, List.map_append, List.map_cons, e, ihl, ihr]
    congr 2
    simp only [shS, wrap64_add_l, wrap64_add_r, Sp.mk.injEq, and_true]
    constructor <;> (congr 1; omega)
theorem flat_mv0 (x : Int) (t : T) : flat 0 (mv x t) = (flat 0 t).map (shS x) := by rw [flat_mv, flat_shift]

theorem top_shift {x : Int} {l : List Sp} (hx : -1152921504606846976 ≤ x ∧ x ≤ 1152921504606846976) (h : ∀ s ∈ l, 0 ≤ s.t ∧ s.t ≤ 1152921504606846976 ∧ 0 ≤ s.t + x) (hl : l ≠ []) : top (l.map (shS x)) = top l + x ∧ 0 ≤ top l ∧ top l ≤ 1152921504606846976 ∧ 0 ≤ top l + x := by
  induction l with
  | nil => exact absurd rfl hl
  | cons s l ih =>
    have hs := h s (by simp)
    have e : (shS x s).t = s.t + x := wrap64_of _ (by omega)
    simp only [List.map_cons, top_cons, e]
    by_cases hn : l = []
    · subst hn
      simp only [List.map_nil, top_nil]
      omega
    · obtain ⟨h1, h2, h3, h4⟩ := ih (fun y hy => h y (by simp [hy])) hn
      rw [h1]
      omega

theorem mostOK_shift {x : Int} (hx : -1152921504606846976 ≤ x ∧ x ≤ 1152921504606846976) : ∀ (t : T) (o : Int), (∀ s ∈ flat o t, 0 ≤ s.t ∧ s.t ≤ 1152921504606846976 ∧ 0 ≤ s.t + x) → mostOK o t → mostOK (wrap64 (o + x)) t
  | nil, _, _, _ => trivial
  | node b d l r, o, h, ⟨h1, h2, h3⟩ => by
    have e : wrap64 (wrap64 (o + x) + d.w) = wrap64 (wrap64 (o + d.w) + x) := by
      rw [wrap64_add_l, wrap64_add_l]; congr 1; omega
    refine ⟨?_, ?_, ?_⟩
    · rw [flat_shift]
      obtain ⟨t1, t2, t3, t4⟩ := top_shift hx h (by simp [flat])
      rw [t1, ← h1]
      have e2 : wrap64 (d.m + wrap64 (o + x)) = wrap64 (wrap64 (d.m + o) + x) := by
        rw [wrap64_add_l, wrap64_add_r]; congr 1; omega
      rw [e2]
      exact wrap64_of _ (by rw [h1]; omega)
    · rw [e]; exact mostOK_shift hx l _ (fun s hs => h s (by simp [flat, hs])) h2
    · rw [e]; exact mostOK_shift hx r _ (fun s hs => h s (by simp [flat, hs])) h3

theorem Gd.mv {x : Int} {t : T} (g : Gd t) (hx : -1152921504606846976 ≤ x ∧ x ≤ 1152921504606846976) (h : ∀ s ∈ flat 0 t, 0 ≤ s.t ∧ s.t ≤ 1152921504606846976 ∧ 0 ≤ s.t + x) : Gd (mv x t) :=
  ⟨(mostOK_mv 0 x t).2 (mostOK_shift hx t 0 h g.most), rng_mv g.rng, hok_mv.2 g.hok⟩
end T

theorem tailS_map_ge {p x : Int} {l : List Sp} (h : ∀ s ∈ l, p ≤ s.f) : l.map (tailS p x) = l.map (shS x) :=
  List.map_congr_left (fun s hs => by unfold tailS; rw [if_pos (h s hs)])
theorem tailS_map_lt {p x : Int} {l : List Sp} (h : ∀ s ∈ l, s.f < p) : l.map (tailS p x) = l := by
  have : l.map (tailS p x) = l.map id := List.map_congr_left (fun s hs => by unfold tailS; rw [if_neg (by have := h s hs; omega)]; rfl)
  simpa using this
theorem lt_f {a b : Sp} (h : a.lt b) : a.f ≤ b.f := by unfold Sp.lt at h; omega
/-- the numbers that may be moved -/
def Mv (p x : Int) (l : List Sp) : Prop := ∀ s ∈ l, 0 ≤ s.t ∧ s.t ≤ 1152921504606846976 ∧ (p ≤ s.f → 0 ≤ s.t + x)
end Go.Proofs.Ytmbclcplinmblaa
