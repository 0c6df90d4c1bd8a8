/- The tree of marks as a plain tree: what a node's move, down, lift, even make of it; the spans that it holds, in order. No program is spoken of here. -/
import Derived.WalkKit
namespace Go.Proofs.Ytmbclcplinmblaa
open Go.RowKit (wrap64)

theorem wrap64_add_l (a b : Int) : wrap64 (wrap64 a + b) = wrap64 (a + b) := by unfold wrap64; omega
theorem wrap64_add_r (a b : Int) : wrap64 (a + wrap64 b) = wrap64 (a + b) := by unfold wrap64; omega
theorem wrap64_idem (a : Int) : wrap64 (wrap64 a) = wrap64 a := by unfold wrap64; omega
theorem wrap64_of (a : Int) (h : -9223372036854775808 ≤ a ∧ a ≤ 9223372036854775807) : wrap64 a = a := by unfold wrap64; omega
theorem wrap64_le (a : Int) : -9223372036854775808 ≤ wrap64 a ∧ wrap64 a ≤ 9223372036854775807 := by unfold wrap64; omega

/-- a node's own numbers: From, To, Kind, height, count, most, wait -/
structure Nd where
  (f t k h c m w : Int)

/-- a span -/
structure Sp where
  (f t k : Int)
  deriving DecidableEq

/-- which stands first -/
def Sp.lt (a b : Sp) : Prop := a.f < b.f ∨ (a.f = b.f ∧ (a.t < b.t ∨ (a.t = b.t ∧ a.k < b.k)))
instance (a b : Sp) : Decidable (Sp.lt a b) := by unfold Sp.lt; infer_instance

theorem Sp.lt_trans {a b c : Sp} (h : Sp.lt a b) (k : Sp.lt b c) : Sp.lt a c := by unfold Sp.lt at *; omega
theorem Sp.lt_irrefl (a : Sp) : ¬ Sp.lt a a := by unfold Sp.lt; omega
theorem Sp.lt_asymm {a b : Sp} (h : Sp.lt a b) : ¬ Sp.lt b a := by unfold Sp.lt at *; omega
theorem Sp.tri (a b : Sp) : Sp.lt a b ∨ a = b ∨ Sp.lt b a := by
  obtain ⟨af, at', ak⟩ := a
  obtain ⟨bf, bt, bk⟩ := b
  simp only [Sp.lt, Sp.mk.injEq]
  omega

/-- a tree with its nodes' blocks -/
inductive T where
  | nil
  | node (b : Nat) (d : Nd) (l r : T)

namespace T
def root : T → Option Addr
  | nil => none
  | node b _ _ _ => some ⟨b, 0, none⟩
/-- is that the root's block? -/
def isAt : T → Nat → Prop
  | nil, _ => False
  | node b _ _ _, i => i = b
def high : T → Int
  | nil => 0
  | node _ d _ _ => d.h
def many : T → Int
  | nil => 0
  | node _ d _ _ => d.c
def far : T → Int
  | nil => -1
  | node _ d _ _ => d.m
def lft : T → T
  | nil => nil
  | node _ _ l _ => l
def rgt : T → T
  | nil => nil
  | node _ _ _ r => r
def ids : T → List Nat
  | nil => []
  | node b _ l r => b :: (ids l ++ ids r)
def size : T → Nat
  | nil => 0
  | node _ _ l r => size l + size r + 1
/-- the data of a node that tells what is below it -/
def toldD (d : Nd) (l r : T) : Nd := { d with h := wrap64 (1 + max l.high r.high), c := wrap64 (wrap64 (1 + l.many) + r.many), m := max d.t (max l.far r.far) }
def told : T → T
  | nil => nil
  | node b d l r => node b (toldD d l r) l r
def mvD (x : Int) (d : Nd) : Nd := { d with f := wrap64 (d.f + x), t := wrap64 (d.t + x), m := wrap64 (d.m + x), w := wrap64 (d.w + x) }
def mv (x : Int) : T → T
  | nil => nil
  | node b d l r => node b (mvD x d) l r
def down : T → T
  | nil => nil
  | node b d l r => node b { d with w := 0 } (mv d.w l) (mv d.w r)
/-- the left one stands above -/
def lift0 : T → T
  | node b d l r =>
    match down l with
    | node kb kd kl kr => told (node kb kd kl (told (node b d kr r)))
    | nil => node b d l r
  | nil => nil
def lift1 : T → T
  | node b d l r =>
    match down r with
    | node kb kd kl kr => told (node kb kd (told (node b d l kl)) kr)
    | nil => node b d l r
  | nil => nil
def evenL (k : T) : T := if (down k).lft.high < (down k).rgt.high then lift1 (down k) else down k
def evenR (k : T) : T := if (down k).rgt.high < (down k).lft.high then lift0 (down k) else down k
def even : T → T
  | nil => nil
  | node b d l r =>
    if wrap64 (r.high + 1) < l.high then lift0 (node b (toldD d l r) (evenL l) r)
    else if wrap64 (l.high + 1) < r.high then lift1 (node b (toldD d l r) l (evenR r))
    else node b (toldD d l r) l r

/-- the spans in order, with so much that still waits above -/
def flat : Int → T → List Sp
  | _, nil => []
  | o, node _ d l r => flat (wrap64 (o + d.w)) l ++ ⟨wrap64 (d.f + o), wrap64 (d.t + o), d.k⟩ :: flat (wrap64 (o + d.w)) r

theorem flat_mv (o x : Int) (t : T) : flat o (mv x t) = flat (wrap64 (o + x)) t := by
  cases t with
  | nil => rfl
  | node b d l r =>
    simp only [mv, mvD, flat, wrap64_add_l, wrap64_add_r]
    have e1 : d.f + x + o = d.f + (o + x) := by omega
    have e2 : d.t + x + o = d.t + (o + x) := by omega
    have e3 : o + (d.w + x) = o + x + d.w := by omega
    rw [e1, e2, e3]

theorem flat_down (o : Int) (t : T) : flat o (down t) = flat o t := by
  cases t with
  | nil => rfl
  | node b d l r => simp only [down, flat, flat_mv, Int.add_zero, wrap64_add_l]

theorem flat_told (o : Int) (t : T) : flat o (told t) = flat o t := by cases t <;> rfl

/-- the root waits for nothing -/
def still : T → Prop
  | nil => True
  | node _ d _ _ => d.w = 0

theorem still_down (t : T) : (down t).still := by cases t <;> simp [down, still]
theorem still_told {t : T} (h : t.still) : (told t).still := by cases t <;> first | trivial | exact h

theorem flat_wrap (o : Int) (t : T) : flat (wrap64 o) t = flat o t := by
  cases t with
  | nil => rfl
  | node b d l r => simp only [flat, wrap64_add_l, wrap64_add_r]

theorem flat_still {o : Int} {b : Nat} {d : Nd} {l r : T} (h : d.w = 0) :
    flat o (node b d l r) = flat o l ++ ⟨wrap64 (d.f + o), wrap64 (d.t + o), d.k⟩ :: flat o r := by
  simp only [flat, h, Int.add_zero, flat_wrap]

theorem flat_lift0 {o : Int} {t : T} (h : t.still) : flat o (lift0 t) = flat o t := by
  cases t with
  | nil => rfl
  | node b d l r =>
    have hd := flat_down o l
    have hs := still_down l
    simp only [lift0]
    cases hl : down l with
    | nil => rfl
    | node kb kd kl kr =>
      rw [hl] at hd hs
      have hs' : kd.w = 0 := hs
      have h' : d.w = 0 := h
      simp only [flat_told]
      rw [flat_still hs', flat_told, flat_still h', flat_still h', ← hd, flat_still hs']
      simp [List.append_assoc]

theorem flat_lift1 {o : Int} {t : T} (h : t.still) : flat o (lift1 t) = flat o t := by
  cases t with
  | nil => rfl
  | node b d l r =>
    have hd := flat_down o r
    have hs := still_down r
    simp only [lift1]
    cases hl : down r with
    | nil => rfl
    | node kb kd kl kr =>
      rw [hl] at hd hs
      have hs' : kd.w = 0 := hs
      have h' : d.w = 0 := h
      simp only [flat_told]
      rw [flat_still hs', flat_told, flat_still h', flat_still h', ← hd, flat_still hs']
      simp [List.append_assoc]

theorem flat_evenL (o : Int) (t : T) : flat o (evenL t) = flat o t := by
  unfold evenL
  split
  · rw [flat_lift1 (still_down t), flat_down]
  · exact flat_down o t
theorem flat_evenR (o : Int) (t : T) : flat o (evenR t) = flat o t := by
  unfold evenR
  split
  · rw [flat_lift0 (still_down t), flat_down]
  · exact flat_down o t

theorem flat_even {o : Int} {t : T} (h : t.still) : flat o (even t) = flat o t := by
  cases t with
  | nil => rfl
  | node b d l r =>
    have h' : d.w = 0 := h
    have ht : (toldD d l r).w = 0 := h
    simp only [even]
    split
    · rw [flat_lift0 (show (node b (toldD d l r) (evenL l) r).still from ht), flat_still ht, flat_still h', flat_evenL]; rfl
    · split
      · rw [flat_lift1 (show (node b (toldD d l r) l (evenR r)).still from ht), flat_still ht, flat_still h', flat_evenR]; rfl
      · rw [flat_still ht, flat_still h']; rfl

theorem size_mv (x : Int) (t : T) : (mv x t).size = t.size := by cases t <;> rfl
theorem ids_mv (x : Int) (t : T) : (mv x t).ids = t.ids := by cases t <;> rfl
theorem high_mv (x : Int) (t : T) : (mv x t).high = t.high := by cases t <;> rfl
theorem many_mv (x : Int) (t : T) : (mv x t).many = t.many := by cases t <;> rfl
theorem root_mv (x : Int) (t : T) : (mv x t).root = t.root := by cases t <;> rfl
theorem size_down (t : T) : (down t).size = t.size := by cases t <;> simp [down, size, size_mv]
theorem ids_down (t : T) : (down t).ids = t.ids := by cases t <;> simp [down, ids, ids_mv]
theorem root_down (t : T) : (down t).root = t.root := by cases t <;> rfl
theorem isAt_mem {t : T} {i : Nat} (h : t.isAt i) : i ∈ t.ids := by
  cases t with
  | nil => cases h
  | node b d l r => simp only [isAt] at h; simp [ids, h]
theorem size_told (t : T) : (told t).size = t.size := by cases t <;> rfl
theorem ids_told (t : T) : (told t).ids = t.ids := by cases t <;> rfl

/-- the greatest To, at least -1 -/
def top (l : List Sp) : Int := l.foldr (fun s a => max s.t a) (-1)
theorem top_nil : top [] = -1 := rfl
theorem top_cons (s : Sp) (l : List Sp) : top (s :: l) = max s.t (top l) := rfl
theorem top_ge (l : List Sp) : -1 ≤ top l := by
  induction l with
  | nil => simp [top]
  | cons s l ih => rw [top_cons]; omega
theorem top_append (a b : List Sp) : top (a ++ b) = max (top a) (top b) := by
  induction a with
  | nil => have := top_ge b; simp only [List.nil_append, top_nil]; omega
  | cons s l ih => simp only [List.cons_append, top_cons, ih]; omega

/-- an int -/
def inR (a : Int) : Prop := -9223372036854775808 ≤ a ∧ a ≤ 9223372036854775807
theorem inR_wrap (a : Int) : inR (wrap64 a) := wrap64_le a
theorem inR.eq {a : Int} (h : inR a) : wrap64 a = a := wrap64_of a h

/-- all numbers are ints -/
def rng : T → Prop
  | nil => True
  | node _ d l r => (inR d.f ∧ inR d.t ∧ inR d.m) ∧ rng l ∧ rng r
/-- 'most' tells the greatest To, below what waits -/
def mostOK : Int → T → Prop
  | _, nil => True
  | o, node b d l r => wrap64 (d.m + o) = top (flat o (node b d l r)) ∧ mostOK (wrap64 (o + d.w)) l ∧ mostOK (wrap64 (o + d.w)) r
/-- height and count tell -/
def hok : T → Prop
  | nil => True
  | node _ d l r => d.h = 1 + max l.high r.high ∧ d.c = 1 + l.many + r.many ∧ hok l ∧ hok r

theorem rng_mv {x : Int} {t : T} (h : rng t) : rng (mv x t) := by
  cases t with
  | nil => trivial
  | node b d l r => exact ⟨⟨inR_wrap _, inR_wrap _, inR_wrap _⟩, h.2⟩
theorem rng_down {t : T} (h : rng t) : rng (down t) := by
  cases t with
  | nil => trivial
  | node b d l r => exact ⟨h.1, rng_mv h.2.1, rng_mv h.2.2⟩
theorem hok_mv {x : Int} {t : T} : hok (mv x t) ↔ hok t := by cases t <;> exact Iff.rfl
theorem hok_down {t : T} : hok (down t) ↔ hok t := by
  cases t with
  | nil => exact Iff.rfl
  | node b d l r => simp only [down, hok, high_mv, many_mv, hok_mv]
theorem mostOK_wrap (o : Int) (t : T) : mostOK (wrap64 o) t ↔ mostOK o t := by
  cases t with
  | nil => exact Iff.rfl
  | node b d l r => simp only [mostOK, flat_wrap, wrap64_add_l, wrap64_add_r]
theorem mostOK_mv (o x : Int) (t : T) : mostOK o (mv x t) ↔ mostOK (wrap64 (o + x)) t := by
  cases t with
  | nil => exact Iff.rfl
  | node b d l r =>
    have hf := flat_mv o x (node b d l r)
    simp only [mv] at hf
    simp only [mv, mostOK, hf]
    simp only [mvD, wrap64_add_l, wrap64_add_r]
    have e1 : d.m + x + o = d.m + (o + x) := by omega
    have e3 : o + (d.w + x) = o + x + d.w := by omega
    rw [e1, e3]
theorem mostOK_down (o : Int) (t : T) : mostOK o (down t) ↔ mostOK o t := by
  cases t with
  | nil => exact Iff.rfl
  | node b d l r =>
    have hf := flat_down o (node b d l r)
    simp only [down] at hf
    simp only [down, mostOK, hf, mostOK_mv, Int.add_zero, wrap64_add_l]

theorem hok_many {t : T} (h : hok t) : t.many = t.size := by
  induction t with
  | nil => rfl
  | node b d l r ihl ihr =>
    obtain ⟨_, hc, hl, hr⟩ := h
    have := ihl hl
    have := ihr hr
    simp only [many, size] at *
    omega
theorem hok_high {t : T} (h : hok t) : 0 ≤ t.high ∧ t.high ≤ t.size := by
  induction t with
  | nil => simp [high, size]
  | node b d l r ihl ihr =>
    obtain ⟨hh, _, hl, hr⟩ := h
    have := ihl hl
    have := ihr hr
    simp only [high, size] at *
    omega
theorem hok_pos {b : Nat} {d : Nd} {l r : T} (h : hok (node b d l r)) : 1 ≤ d.h := by
  obtain ⟨hh, _, hl, hr⟩ := h
  have := (hok_high hl).1
  omega

/-- a tree that nothing waits above of, in order in all it tells -/
structure Gd (t : T) : Prop where
  most : mostOK 0 t
  rng : rng t
  hok : hok t

theorem Gd.nil : Gd nil := ⟨trivial, trivial, trivial⟩
theorem Gd.down {t : T} (h : Gd t) : Gd (down t) := ⟨(mostOK_down 0 t).2 h.most, rng_down h.rng, hok_down.2 h.hok⟩
theorem Gd.far {t : T} (h : Gd t) : t.far = top (flat 0 t) := by
  cases t with
  | nil => rfl
  | node b d l r =>
    have h1 := h.most.1
    rw [Int.add_zero, h.rng.1.2.2.eq] at h1
    exact h1
theorem Gd.kids {b : Nat} {d : Nd} {l r : T} (h : Gd (node b d l r)) (hw : d.w = 0) : Gd l ∧ Gd r ∧ inR d.f ∧ inR d.t := by
  obtain ⟨⟨_, hl, hr⟩, ⟨⟨a, b, _⟩, rl, rr⟩, ⟨_, _, kl, kr⟩⟩ := h
  rw [hw, Int.add_zero, mostOK_wrap] at hl hr
  exact ⟨⟨hl, rl, kl⟩, ⟨hr, rr, kr⟩, a, b⟩
/-- the children behind 'down' -/
theorem Gd.kidsDown {b : Nat} {d : Nd} {l r : T} (h : Gd (node b d l r)) : Gd (mv d.w l) ∧ Gd (mv d.w r) ∧ inR d.f ∧ inR d.t :=
  (Gd.down h).kids rfl
theorem Gd.told {b : Nat} {d : Nd} {l r : T} (hl : Gd l) (hr : Gd r) (hw : d.w = 0) (hf : inR d.f) (ht : inR d.t) (hs : l.size + r.size < 4611686018427387904) : Gd (told (node b d l r)) := by
  have hm : max d.t (max l.far r.far) = top (flat 0 (node b d l r)) := by
    rw [flat_still hw, top_append, top_cons, hl.far, hr.far, Int.add_zero, Int.add_zero, ht.eq]
    show _ = max (top (flat 0 l)) (max d.t (top (flat 0 r)))
    omega
  have fl : inR l.far := by cases l with
    | nil => simp [T.far, inR]
    | node => exact hl.rng.1.2.2
  have fr : inR r.far := by cases r with
    | nil => simp [T.far, inR]
    | node => exact hr.rng.1.2.2
  have hin : inR (max d.t (max l.far r.far)) := by unfold inR at *; omega
  have a1 := hok_high hl.hok
  have a2 := hok_high hr.hok
  have a3 := hok_many hl.hok
  have a4 := hok_many hr.hok
  refine ⟨⟨?_, ?_, ?_⟩, ⟨⟨hf, ht, hin⟩, hl.rng, hr.rng⟩, ⟨?_, ?_, hl.hok, hr.hok⟩⟩
  · show wrap64 (max d.t (max l.far r.far) + 0) = _
    rw [Int.add_zero, hin.eq, hm]; rfl
  · show mostOK (wrap64 (0 + d.w)) l
    rw [mostOK_wrap, hw]; exact hl.most
  · show mostOK (wrap64 (0 + d.w)) r
    rw [mostOK_wrap, hw]; exact hr.most
  · show wrap64 (1 + max l.high r.high) = _
    exact wrap64_of _ (by omega)
  · show wrap64 (wrap64 (1 + l.many) + r.many) = _
    rw [wrap64_add_l]
    exact wrap64_of _ (by omega)

theorem size_lift0 (t : T) : (lift0 t).size = t.size := by
  cases t with
  | nil => rfl
  | node b d l r =>
    have hd := size_down l
    simp only [lift0]
    cases hl : T.down l with
    | nil => rfl
    | node kb kd kl kr => rw [hl] at hd; simp only [size_told, size] at *; omega
theorem size_lift1 (t : T) : (lift1 t).size = t.size := by
  cases t with
  | nil => rfl
  | node b d l r =>
    have hd := size_down r
    simp only [lift1]
    cases hl : T.down r with
    | nil => rfl
    | node kb kd kl kr => rw [hl] at hd; simp only [size_told, size] at *; omega

theorem Gd.lift0 {b : Nat} {d : Nd} {l r : T} (hl : Gd l) (hr : Gd r) (hw : d.w = 0) (hf : inR d.f) (ht : inR d.t) (hs : l.size + r.size < 4611686018427387904) (hn : l ≠ T.nil) : Gd (lift0 (node b d l r)) := by
  have hk := hl.down
  have hst := still_down l
  have hsz := size_down l
  simp only [T.lift0]
  cases hd : T.down l with
  | nil => cases l with
    | nil => exact absurd rfl hn
    | node => cases hd
  | node kb kd kl kr =>
    rw [hd] at hk hst hsz
    obtain ⟨g1, g2, g3, g4⟩ := hk.kids hst
    simp only [size] at hsz
    exact Gd.told g1 (Gd.told g2 hr hw hf ht (by omega)) hst g3 g4 (by simp only [size_told, size]; omega)
theorem Gd.lift1 {b : Nat} {d : Nd} {l r : T} (hl : Gd l) (hr : Gd r) (hw : d.w = 0) (hf : inR d.f) (ht : inR d.t) (hs : l.size + r.size < 4611686018427387904) (hn : r ≠ T.nil) : Gd (lift1 (node b d l r)) := by
  have hk := hr.down
  have hst := still_down r
  have hsz := size_down r
  simp only [T.lift1]
  cases hd : T.down r with
  | nil => cases r with
    | nil => exact absurd rfl hn
    | node => cases hd
  | node kb kd kl kr =>
    rw [hd] at hk hst hsz
    obtain ⟨g1, g2, g3, g4⟩ := hk.kids hst
    simp only [size] at hsz
    exact Gd.told (Gd.told hl g1 hw hf ht (by omega)) g2 hst g3 g4 (by simp only [size_told, size]; omega)

theorem size_evenL (t : T) : (evenL t).size = t.size := by unfold evenL; split <;> simp [size_lift1, size_down]
theorem size_evenR (t : T) : (evenR t).size = t.size := by unfold evenR; split <;> simp [size_lift0, size_down]
theorem size_even (t : T) : (even t).size = t.size := by
  cases t with
  | nil => rfl
  | node b d l r => simp only [even]; split <;> (try split) <;> simp [size_lift0, size_lift1, size, size_evenL, size_evenR]

theorem high_ne {t : T} (h : 0 < t.high) : t ≠ nil := by rintro rfl; simp [high] at h

theorem Gd.evenL {t : T} (h : Gd t) (hs : t.size < 4611686018427387904) : Gd (evenL t) := by
  unfold T.evenL
  split
  · rename_i hlt
    have hk := h.down
    have hst := still_down t
    have hsz := size_down t
    cases hd : T.down t with
    | nil => rw [hd] at hlt; simp [lft, rgt, high] at hlt
    | node kb kd kl kr =>
      rw [hd] at hk hst hsz hlt
      obtain ⟨g1, g2, g3, g4⟩ := hk.kids hst
      have := (hok_high g1.hok).1
      simp only [size, lft, rgt] at hsz hlt
      have hpos : 0 < kr.high := by omega
      exact Gd.lift1 g1 g2 hst g3 g4 (by omega) (high_ne hpos)
  · exact h.down
theorem Gd.evenR {t : T} (h : Gd t) (hs : t.size < 4611686018427387904) : Gd (evenR t) := by
  unfold T.evenR
  split
  · rename_i hlt
    have hk := h.down
    have hst := still_down t
    have hsz := size_down t
    cases hd : T.down t with
    | nil => rw [hd] at hlt; simp [lft, rgt, high] at hlt
    | node kb kd kl kr =>
      rw [hd] at hk hst hsz hlt
      obtain ⟨g1, g2, g3, g4⟩ := hk.kids hst
      have := (hok_high g2.hok).1
      simp only [size, lft, rgt] at hsz hlt
      have hpos : 0 < kl.high := by omega
      exact Gd.lift0 g1 g2 hst g3 g4 (by omega) (high_ne hpos)
  · exact h.down

theorem evenL_ne {t : T} (h : t ≠ nil) : evenL t ≠ nil := by
  intro e
  have := size_evenL t
  cases t with
  | nil => exact h rfl
  | node b d l r => rw [e] at this; simp [size] at this
theorem evenR_ne {t : T} (h : t ≠ nil) : evenR t ≠ nil := by
  intro e
  have := size_evenR t
  cases t with
  | nil => exact h rfl
  | node b d l r => rw [e] at this; simp [size] at this

/-- WHAT 'even' LEAVES: of a node that nothing waits at, over two trees in order -/
theorem Gd.even {b : Nat} {d : Nd} {l r : T} (hl : Gd l) (hr : Gd r) (hw : d.w = 0) (hf : inR d.f) (ht : inR d.t) (hs : l.size + r.size < 4611686018427387904) : Gd (even (node b d l r)) := by
  simp only [T.even]
  have a1 := hok_high hl.hok
  have a2 := hok_high hr.hok
  split
  · rename_i hlt
    rw [wrap64_of _ (by omega)] at hlt
    have hpos : 0 < l.high := by omega
    exact Gd.lift0 (hl.evenL (by omega)) hr hw hf ht (by rw [size_evenL]; omega) (evenL_ne (high_ne hpos))
  · split
    · rename_i hlt
      rw [wrap64_of _ (by omega)] at hlt
      have hpos : 0 < r.high := by omega
      exact Gd.lift1 hl (hr.evenR (by omega)) hw hf ht (by rw [size_evenR]; omega) (evenR_ne (high_ne hpos))
    · exact Gd.told hl hr hw hf ht hs

theorem perm_rot0 (b kb : Nat) (kl kr r : List Nat) : (kb :: (kl ++ (b :: (kr ++ r)))).Perm (b :: ((kb :: (kl ++ kr)) ++ r)) := by
  have h1 : (kl ++ (b :: (kr ++ r))).Perm (b :: (kl ++ (kr ++ r))) := List.perm_middle
  refine (h1.cons kb).trans ?_
  refine (List.Perm.swap b kb _).trans ?_
  simp [List.append_assoc]
theorem perm_rot1 (b kb : Nat) (l kl kr : List Nat) : (kb :: ((b :: (l ++ kl)) ++ kr)).Perm (b :: (l ++ (kb :: (kl ++ kr)))) := by
  have h1 : (l ++ (kb :: (kl ++ kr))).Perm (kb :: (l ++ (kl ++ kr))) := List.perm_middle
  refine List.Perm.trans ?_ (h1.cons b).symm
  refine List.Perm.trans ?_ (List.Perm.swap b kb _)
  simp [List.append_assoc]
theorem ids_lift0 (t : T) : (lift0 t).ids.Perm t.ids := by
  cases t with
  | nil => exact List.Perm.refl _
  | node b d l r =>
    have hd := ids_down l
    simp only [lift0]
    cases hl : T.down l with
    | nil => exact List.Perm.refl _
    | node kb kd kl kr =>
      rw [hl] at hd
      simp only [told, ids, ← hd]
      exact perm_rot0 b kb kl.ids kr.ids r.ids
theorem ids_lift1 (t : T) : (lift1 t).ids.Perm t.ids := by
  cases t with
  | nil => exact List.Perm.refl _
  | node b d l r =>
    have hd := ids_down r
    simp only [lift1]
    cases hl : T.down r with
    | nil => exact List.Perm.refl _
    | node kb kd kl kr =>
      rw [hl] at hd
      simp only [told, ids, ← hd]
      exact perm_rot1 b kb l.ids kl.ids kr.ids
theorem ids_evenL (t : T) : (evenL t).ids.Perm t.ids := by
  unfold evenL
  split
  · exact (ids_lift1 _).trans (by rw [ids_down])
  · rw [ids_down]
theorem ids_evenR (t : T) : (evenR t).ids.Perm t.ids := by
  unfold evenR
  split
  · exact (ids_lift0 _).trans (by rw [ids_down])
  · rw [ids_down]
theorem ids_even (t : T) : (even t).ids.Perm t.ids := by
  cases t with
  | nil => exact List.Perm.refl _
  | node b d l r =>
    simp only [even]
    split
    · refine (ids_lift0 _).trans ?_
      simp only [ids]
      exact ((ids_evenL l).append_right r.ids).cons b
    · split
      · refine (ids_lift1 _).trans ?_
        simp only [ids]
        exact ((ids_evenR r).append_left l.ids).cons b
      · exact List.Perm.refl _
end T
end Go.Proofs.Ytmbclcplinmblaa
