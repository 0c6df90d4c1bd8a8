/- Marks as its two halves: what a call that makes one tree anew leaves of both. -/
import Derived.Test.YtmbclcplinmblaaW22
import Derived.Test.YtmbclcplinmblaaW15
namespace Go.Proofs.Ytmbclcplinmblaa
open Go.RowKit

/-- which tree a span belongs to -/
def par (s : Sp) : Bool := decide (¬ s.k % 2 = 0)

/-- the two trees, and what they hold -/
structure Two (w : World) (mb : Nat) (tb : Bool → Nat) (I : Nat → Prop) (F : Bool → List Sp) (t : Bool → T) : Prop where
  half : ∀ c, Half w mb (tb c) (P (tb false)) (P (tb true)) (t c)
  flat : ∀ c, (t c).flat 0 = F c
  par : ∀ c, ∀ s ∈ F c, par s = c
  ne : tb false ≠ tb true
  d : ∀ i ∈ (t false).ids, i ∉ (t true).ids
  n : ∀ c, tb c ∉ (t (!c)).ids
  mbI : I mb
  tbI : ∀ c, I (tb c)
  idI : ∀ c, ∀ i ∈ (t c).ids, I i

namespace Two
variable {w w' : World} {mb : Nat} {tb : Bool → Nat} {I : Nat → Prop} {F : Bool → List Sp} {t : Bool → T}

theorem only (h : Two w mb tb I F t) {S : Nat → Prop} (o : Only S w w') (hS : ∀ i, i < w.heap.size → I i → ¬ S i) : Two w' mb tb I F t :=
  ⟨fun c => (h.half c).only o (hS _ (h.half c).host.lt.1 (h.tbI c)) (hS _ (h.half c).host.lt.2 h.mbI) (fun i hi => hS i (Lies.lt (h.half c).lies i hi) (h.idI c i hi)), h.flat, h.par, h.ne, h.d, h.n, h.mbI, h.tbI, h.idI⟩

theorem mono (h : Two w mb tb I F t) {J : Nat → Prop} (hIJ : ∀ i, i < w.heap.size → I i → J i) : Two w mb tb J F t :=
  ⟨h.half, h.flat, h.par, h.ne, h.d, h.n, hIJ _ (h.half false).host.lt.2 h.mbI, fun c => hIJ _ (h.half c).host.lt.1 (h.tbI c), fun c i hi => hIJ i (Lies.lt (h.half c).lies i hi) (h.idI c i hi)⟩

theorem tb_ne (h : Two w mb tb I F t) (c : Bool) : tb c ≠ tb (!c) := by
  cases c
  · exact h.ne
  · exact fun e => h.ne e.symm
theorem apart (h : Two w mb tb I F t) (c : Bool) : ∀ i ∈ (t c).ids, i ∉ (t (!c)).ids := by
  cases c
  · exact h.d
  · exact fun i hi hj => h.d i hj hi

/-- the trees with the one of c another one -/
def upd {α : Type} (f : Bool → α) (c : Bool) (x : α) : Bool → α := fun d => if d = c then x else f d
theorem upd_same {α : Type} (f : Bool → α) (c : Bool) (x : α) : upd f c x c = x := if_pos rfl
theorem upd_other {α : Type} (f : Bool → α) (c : Bool) (x : α) : upd f c x (!c) = f (!c) := if_neg (by cases c <;> simp)
theorem both {c d : Bool} : d = c ∨ d = !c := by cases c <;> cases d <;> simp

theorem turn (h : Two w mb tb I F t) (c : Bool) {J : Nat → Prop} (hIJ : ∀ i, I i → J i) {t' : T} {L' : List Sp} (a1 : Half w' mb (tb c) (P (tb false)) (P (tb true)) t') (a2 : t'.flat 0 = L') (hp : ∀ s ∈ L', Ytmbclcplinmblaa.par s = c)
    (a3 : Only (fun i => i = mb ∨ i = tb c ∨ i ∈ (t c).ids) w w') (a4 : ∀ i ∈ t'.ids, i ∈ (t c).ids ∨ w.heap.size ≤ i) (a5 : ∀ i ∈ t'.ids, J i) :
    Two w' mb tb J (upd F c L') (upd t c t') ∧ Only I w w' := by
  have nc := h.tb_ne c
  have nq : tb (!c) ∉ (t c).ids := by have := h.n (!c); rwa [Bool.not_not] at this
  have ap := h.apart c
  have l1 := (h.half (!c)).host.lt
  have lt1 := Lies.lt (h.half (!c)).lies
  have b1 : Half w' mb (tb (!c)) (P (tb false)) (P (tb true)) (t (!c)) := (h.half (!c)).other a1 a3 (by
      rintro (e | e | e)
      · exact (h.half (!c)).host.ne e
      · exact nc e.symm
      · exact nq e) (by
      rintro i hi (e | e | e)
      · exact (h.half (!c)).ns (e ▸ hi)
      · exact h.n c (e ▸ hi)
      · exact ap i e hi)
  have sep : ∀ i ∈ t'.ids, i ∉ (t (!c)).ids := fun i hi hj => by
    rcases a4 i hi with e | e
    · exact ap i e hj
    · have := lt1 i hj; omega
  have hn2 : tb (!c) ∉ t'.ids := fun e => by
    rcases a4 _ e with e | e
    · exact nq e
    · omega
  refine ⟨⟨fun d => ?_, fun d => ?_, fun d => ?_, h.ne, ?_, fun d => ?_, hIJ _ h.mbI, fun d => hIJ _ (h.tbI d), fun d => ?_⟩, a3.mono ?_⟩
  · rcases both (c := c) (d := d) with rfl | rfl
    · rw [upd_same]; exact a1
    · rw [upd_other]; exact b1
  · rcases both (c := c) (d := d) with rfl | rfl
    · rw [upd_same, upd_same]; exact a2
    · rw [upd_other, upd_other]; exact h.flat _
  · rcases both (c := c) (d := d) with rfl | rfl
    · rw [upd_same]; exact hp
    · rw [upd_other]; exact h.par _
  · cases c
    · rw [upd_same]; rw [show upd t false t' true = t true from upd_other t false t']; exact sep
    · rw [upd_same]; rw [show upd t true t' false = t false from upd_other t true t']; exact fun i hi hj => sep i hj hi
  · rcases both (c := c) (d := d) with rfl | rfl
    · rw [upd_other]; exact h.n _
    · rw [show upd t c t' (!!c) = t' by rw [Bool.not_not]; exact upd_same t c t']; exact hn2
  · rcases both (c := c) (d := d) with rfl | rfl
    · rw [upd_same]; exact a5
    · rw [upd_other]; exact fun i hi => hIJ _ (h.idI _ i hi)
  · rintro i _ (e | e | e)
    · exact e ▸ h.mbI
    · exact e ▸ h.tbI c
    · exact h.idI c i e
end Two

/-- the halves of a list -/
def halves (L : List Sp) : Bool → List Sp := fun c => L.filter (fun s => par s == c)

theorem par_iff (s : Sp) (c : Bool) : (if s.k % 2 = 0 then (0 : Nat) else 1) = (if c then 1 else 0) ↔ par s = c := by
  unfold par; by_cases h : s.k % 2 = 0 <;> cases c <;> simp [h]

theorem MkL.two {w : World} {mb : Nat} {I : Nat → Prop} {L : List Sp} (h : MkL w mb I L) : ∃ tb t, Two w mb tb I (halves L) t ∧ Rising L := by
  obtain ⟨tb0, tb1, t0, t1, m, r, f0, f1, ⟨i1, i2, i3⟩, i4, i5⟩ := h
  have e0 : (fun s => par s == false) = evenK := by funext s; unfold par evenK; by_cases h : s.k % 2 = 0 <;> simp [h]
  have e1 : (fun s => par s == true) = oddK := by funext s; unfold par oddK; by_cases h : s.k % 2 = 0 <;> simp [h]
  refine ⟨fun c => if c then tb1 else tb0, fun c => if c then t1 else t0, ⟨?_, ?_, ?_, m.ne, m.d, ?_, i1, ?_, ?_⟩, r⟩
  · intro c; cases c
    · exact m.h0
    · exact m.h1
  · intro c; cases c
    · exact f0.trans (by unfold halves; rw [e0])
    · exact f1.trans (by unfold halves; rw [e1])
  · intro c s hs
    exact eq_of_beq (List.mem_filter.1 hs).2
  · intro c; cases c
    · exact m.n0
    · exact m.n1
  · intro c; cases c
    · exact i2
    · exact i3
  · intro c; cases c
    · exact i4
    · exact i5
theorem Two.mkl {w : World} {mb : Nat} {tb : Bool → Nat} {I : Nat → Prop} {L : List Sp} {t : Bool → T} (h : Two w mb tb I (halves L) t) (r : Rising L) : MkL w mb I L := by
  have e0 : (fun s => Ytmbclcplinmblaa.par s == false) = evenK := by funext s; unfold Ytmbclcplinmblaa.par evenK; by_cases h : s.k % 2 = 0 <;> simp [h]
  have e1 : (fun s => Ytmbclcplinmblaa.par s == true) = oddK := by funext s; unfold Ytmbclcplinmblaa.par oddK; by_cases h : s.k % 2 = 0 <;> simp [h]
  exact ⟨tb false, tb true, t false, t true, ⟨h.half false, h.half true, h.ne, h.d, h.n false, h.n true⟩, r, (h.flat false).trans (by unfold halves; rw [e0]), (h.flat true).trans (by unfold halves; rw [e1]), ⟨h.mbI, h.tbI false, h.tbI true⟩, h.idI false, h.idI true⟩
end Go.Proofs.Ytmbclcplinmblaa
