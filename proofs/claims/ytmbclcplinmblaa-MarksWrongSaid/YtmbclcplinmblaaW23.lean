/- The calls on one of the two trees, told of both: put, cut, over, tail. -/
import Derived.Test.YtmbclcplinmblaaTwo
namespace Go.Proofs.Ytmbclcplinmblaa
open Go.RowKit

def Has (w : World) (mb : Nat) (tb : Bool → Nat) (I : Nat → Prop) (F : Bool → List Sp) : Prop := ∃ t, Two w mb tb I F t
theorem Has.only {w w' : World} {mb : Nat} {tb : Bool → Nat} {I S : Nat → Prop} {F : Bool → List Sp} (h : Has w mb tb I F) (o : Only S w w') (hS : ∀ i, i < w.heap.size → I i → ¬ S i) : Has w' mb tb I F := by
  obtain ⟨t, h⟩ := h; exact ⟨t, h.only o hS⟩
theorem Has.mono {w : World} {mb : Nat} {tb : Bool → Nat} {I J : Nat → Prop} {F : Bool → List Sp} (h : Has w mb tb I F) (hIJ : ∀ i, i < w.heap.size → I i → J i) : Has w mb tb J F := by
  obtain ⟨t, h⟩ := h; exact ⟨t, h.mono hIJ⟩

theorem Two.len {w : World} {mb : Nat} {tb : Bool → Nat} {I : Nat → Prop} {F : Bool → List Sp} {t : Bool → T} (h : Two w mb tb I F t) (c : Bool) : (t c).size = (F c).length := by
  rw [← T.flat_length 0 (t c), h.flat c]
theorem Two.rising {w : World} {mb : Nat} {tb : Bool → Nat} {I : Nat → Prop} {F : Bool → List Sp} {t : Bool → T} (h : Two w mb tb I F t) (c : Bool) : Rising (F c) := by
  rw [← h.flat c]; exact (h.half c).snd.rising

theorem tb_par (tb : Bool → Nat) (s : Sp) : (if s.k % 2 = 0 then tb false else tb true) = tb (par s) := by
  unfold par; by_cases h : s.k % 2 = 0
  · rw [if_pos h]; simp [h]
  · rw [if_neg h]; simp [h]

theorem mput_T (s : Sp) (hf : T.inR s.f) (ht : T.inR s.t) (mb : Nat) (tb : Bool → Nat) (I : Nat → Prop) (F : Bool → List Sp) (w : World) (h : Has w mb tb I F) (hl : (F (par s)).length + 1 < 2305843009213693952) :
    Calls Try.prog 31 #[.pointer (some ⟨mb, 0, none⟩), s.val] w fun e w' => e = .returned (.bool (decide (s ∉ F (par s)))) ∧ Has w' mb tb (Grow I w) (Two.upd F (par s) (insS s (F (par s)))) ∧ Only I w w' := by
  obtain ⟨t, h⟩ := h
  refine (mput_calls s hf ht mb (tb (par s)) (tb false) (tb true) (t (par s)) w (h.half _) (tb_par tb s) (by rw [h.len]; exact hl)).mono fun e w' hp => ?_
  obtain ⟨he, t', a1, a2, a3, a4, a5⟩ := hp
  rw [h.flat] at he a2
  have := h.turn (par s) (J := Grow I w) (fun i hi => Or.inl hi) a1 a2 (fun x hx => by
    rcases mem_insS.1 hx with e | e
    · rw [e]
    · exact h.par _ x e) a3 a4 (fun i hi => (a4 i hi).imp (h.idI _ i) id)
  exact ⟨he, ⟨_, this.1⟩, this.2⟩

theorem mcut_T (s : Sp) (mb : Nat) (tb : Bool → Nat) (I : Nat → Prop) (F : Bool → List Sp) (w : World) (h : Has w mb tb I F) :
    Calls Try.prog 33 #[.pointer (some ⟨mb, 0, none⟩), s.val] w fun e w' => e = .returned (.bool (decide (s ∈ F (par s)))) ∧ Has w' mb tb (Grow I w) (fun c => delS s (F c)) ∧ Only I w w' := by
  obtain ⟨t, h⟩ := h
  refine (mcut_calls s mb (tb (par s)) (tb false) (tb true) (t (par s)) w (h.half _) (tb_par tb s)).mono fun e w' hp => ?_
  obtain ⟨he, t', a1, a2, a3, a4, a5⟩ := hp
  rw [h.flat] at he a2
  have := h.turn (par s) (J := Grow I w) (fun i hi => Or.inl hi) a1 a2 (fun x hx => h.par _ x (mem_delS.1 hx).1) a3 a4 (fun i hi => (a4 i hi).imp (h.idI _ i) id)
  have e : Two.upd F (par s) (delS s (F (par s))) = fun c => delS s (F c) := by
    funext c
    rcases Two.both (c := par s) (d := c) with e | e
    · rw [e, Two.upd_same]
    · rw [e, Two.upd_other, delS_of_not (fun hx => by have := h.par _ s hx; cases hq : par s <;> rw [hq] at this <;> cases this)]
  rw [e] at this
  exact ⟨he, ⟨_, this.1⟩, this.2⟩

theorem over_T (c : Bool) (p q : Int) (hq : 0 ≤ q) (mb : Nat) (tb : Bool → Nat) (I : Nat → Prop) (F : Bool → List Sp) (t : Bool → T) (w : World) (h : Two w mb tb I F t) (hl : (F c).length ≤ 1099511627776) :
    Calls Try.prog 46 #[.pointer (some ⟨tb c, 0, none⟩), .pointer (t c).root, .int .i64 p, .int .i64 q] w fun e w' => ∃ v, e = .returned v ∧ Has w' mb tb I F ∧ Only I w w' ∧ Owns w' w.heap.size v ((F c).filter (overB p q)) ∧ ∀ d, w'.heap[tb d]? = w.heap[tb d]? := by
  have hh := h.half c
  refine (over_calls p q hq (tb c) mb (t c).root _ _ (t c).size (t c) (Nat.le_refl _) w hh.host hh.lies hh.nodup hh.ns hh.nt hh.snd (by rw [h.len]; exact hl)).mono fun e w' hp => ?_
  obtain ⟨t', v, he, b1, b2, b3, b4, b5, b6, b7, ⟨b8, _, _⟩, b9⟩ := hp
  rw [h.flat] at b7 b9
  have := h.turn c (J := I) (fun i hi => hi) (t' := t') (L' := F c) ⟨by rw [b5]; exact b2, b1, by rw [b4]; exact hh.nodup, by rw [b4]; exact hh.ns, by rw [b4]; exact hh.nt, ⟨b6, by rw [b7]; exact h.rising c, by rw [b8]; exact hh.snd.small⟩⟩ b7 (h.par c) (b3.mono (fun i _ hi => by
    rcases hi with hi | hi
    · exact Or.inl hi
    · exact Or.inr (Or.inr hi))) (fun i hi => Or.inl (b4 ▸ hi)) (fun i hi => h.idI c i (b4 ▸ hi))
  have e : Two.upd F c (F c) = F := by
    funext d; unfold Two.upd; split
    · rename_i e; rw [e]
    · rfl
  rw [e] at this
  refine ⟨v, he, ⟨_, this.1⟩, this.2, b9, fun d => b3.block (tb d) (h.half d).host.lt.1 (fun hd => ?_)⟩
  rcases hd with hd | hd
  · exact (h.half d).host.ne hd
  · rcases Two.both (c := c) (d := d) with rfl | rfl
    · exact hh.nt hd
    · have := h.n (!c); rw [Bool.not_not] at this; exact this hd

theorem tail_T (c : Bool) (p x : Int) (hx : -1152921504606846976 ≤ x ∧ x ≤ 1152921504606846976) (mb : Nat) (tb : Bool → Nat) (I : Nat → Prop) (F : Bool → List Sp) (t : Bool → T) (w : World) (h : Two w mb tb I F t) (hm : Mv p x (F c)) (hr : Rising ((F c).map (tailS p x))) :
    Calls Try.prog 47 #[.pointer (some ⟨tb c, 0, none⟩), .pointer (t c).root, .int .i64 p, .int .i64 x] w fun e w' => e = .returned (.tuple #[]) ∧ Has w' mb tb I (Two.upd F c ((F c).map (tailS p x))) ∧ Only I w w' := by
  have hh := h.half c
  refine (tail_calls p x hx (tb c) mb (t c).root _ _ (t c).size (t c) (Nat.le_refl _) w hh.host hh.lies hh.nodup hh.ns hh.nt hh.snd (by rw [h.flat]; exact hm)).mono fun e w' hp => ?_
  obtain ⟨t', he, b1, b2, b3, b4, b5, b6, b7, b8⟩ := hp
  rw [h.flat] at b7
  have := h.turn c (J := I) (fun i hi => hi) (t' := t') (L' := (F c).map (tailS p x)) ⟨by rw [b5]; exact b2, b1, by rw [b4]; exact hh.nodup, by rw [b4]; exact hh.ns, by rw [b4]; exact hh.nt, ⟨b6, by rw [b7]; exact hr, by rw [b8]; exact hh.snd.small⟩⟩ b7 (fun s hs => by
    obtain ⟨y, hy, rfl⟩ := List.mem_map.1 hs
    have := h.par c y hy
    unfold tailS; split
    · exact this
    · exact this) (b3.mono (fun i _ hi => by
    rcases hi with hi | hi
    · exact Or.inl hi
    · exact Or.inr (Or.inr hi))) (fun i hi => Or.inl (b4 ▸ hi)) (fun i hi => h.idI c i (b4 ▸ hi))
  exact ⟨he, ⟨_, this.1⟩, this.2⟩
end Go.Proofs.Ytmbclcplinmblaa
