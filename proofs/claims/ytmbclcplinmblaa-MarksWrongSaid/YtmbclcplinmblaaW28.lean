/- The walk of within, Over and All. -/
import Derived.Test.YtmbclcplinmblaaW27
namespace Go.Proofs.Ytmbclcplinmblaa
open Go.RowKit

set_option maxRecDepth 100000 in
set_option maxHeartbeats 1000000 in
theorem within_L (p q : Int) (hq : 0 ≤ q) (mb : Nat) (I : Nat → Prop) (L : List Sp) (w : World) (h : MkL w mb I L) (hlen : L.length ≤ 1099511627776) :
    Calls Try.prog 37 #[P mb, .int .i64 p, .int .i64 q] w fun e w' => ∃ v, e = .returned v ∧ MkL w' mb I L ∧ Only I w w' ∧ Owns w' w.heap.size v (L.filter (overB p q)) := by
  obtain ⟨tb, t, h2, hr⟩ := h.two
  have h0 : Has w mb tb (fun i => I i ∧ i < w.heap.size) (halves L) := ⟨t, h2.mono (fun i hi h => ⟨h, hi⟩)⟩
  clear h h2
  have hl2 : ∀ c, (halves L c).length ≤ 1099511627776 := fun c => Nat.le_trans (List.length_filter_le _ _) hlen
  have oa : ∀ S, Only S w ((((w.alloc (.cells #[P mb] 22)).alloc (.cells #[.int .i64 p] 3)).alloc (.cells #[.int .i64 q] 3)).alloc (.cells #[.slice none 0 0] 32)) := fun S => ((((Only.refl S w).alloc _).alloc _).alloc _).alloc _
  have c0 : ((((w.alloc (.cells #[P mb] 22)).alloc (.cells #[.int .i64 p] 3)).alloc (.cells #[.int .i64 q] 3)).alloc (.cells #[.slice none 0 0] 32)).heap[w.heap.size]? = some (.cells #[P mb] 22 (0, 0)) := allocOld (allocOld (allocOld (heap_alloc_new w _)))
  have c1 := heap_alloc_new (w.alloc (.cells #[P mb] 22)) (.cells #[.int .i64 p] 3)
  rw [World.size_alloc] at c1
  have c1 : ((((w.alloc (.cells #[P mb] 22)).alloc (.cells #[.int .i64 p] 3)).alloc (.cells #[.int .i64 q] 3)).alloc (.cells #[.slice none 0 0] 32)).heap[w.heap.size + 1]? = some (.cells #[.int .i64 p] 3 (0, 0)) := allocOld (allocOld c1)
  have c2 := heap_alloc_new ((w.alloc (.cells #[P mb] 22)).alloc (.cells #[.int .i64 p] 3)) (.cells #[.int .i64 q] 3)
  rw [World.size_alloc, World.size_alloc] at c2
  have c2 : ((((w.alloc (.cells #[P mb] 22)).alloc (.cells #[.int .i64 p] 3)).alloc (.cells #[.int .i64 q] 3)).alloc (.cells #[.slice none 0 0] 32)).heap[w.heap.size + 1 + 1]? = some (.cells #[.int .i64 q] 3 (0, 0)) := allocOld c2
  have c3 := heap_alloc_new (((w.alloc (.cells #[P mb] 22)).alloc (.cells #[.int .i64 p] 3)).alloc (.cells #[.int .i64 q] 3)) (.cells #[.slice none 0 0] 32)
  rw [World.size_alloc, World.size_alloc, World.size_alloc] at c3
  have z4 : ((((w.alloc (.cells #[P mb] 22)).alloc (.cells #[.int .i64 p] 3)).alloc (.cells #[.int .i64 q] 3)).alloc (.cells #[.slice none 0 0] 32)).heap.size = w.heap.size + 1 + 1 + 1 + 1 := by simp [World.size_alloc]
  have h4 := h0.only (oa (fun _ => False)) (fun _ _ _ h => h)
  have x0 := cellAt c0 0 rfl
  have HQ : Hid (Calls Try.prog 29 #[P mb, .func (.func 49) #[] #[P w.heap.size, P (w.heap.size + 1 + 1 + 1), P (w.heap.size + 1), P (w.heap.size + 1 + 1)]] ((((w.alloc (.cells #[P mb] 22)).alloc (.cells #[.int .i64 p] 3)).alloc (.cells #[.int .i64 q] 3)).alloc (.cells #[.slice none 0 0] 32)) fun e w' => e = .returned (.tuple #[]) ∧ ∃ v, Rnd mb tb (fun i => I i ∧ i < w.heap.size) (halves L) (w.heap.size + 1 + 1 + 1) ((((w.alloc (.cells #[P mb] 22)).alloc (.cells #[.int .i64 p] 3)).alloc (.cells #[.int .i64 q] 3)).alloc (.cells #[.slice none 0 0] 32)) w' v ((halves L false).filter (overB p q) ++ (halves L true).filter (overB p q))) := by
    refine quiet_T mb tb _ _ _ _ _ _ _ _ h4 (fun h => by have := h.2; omega) ?_
    exact within_fun p q hq mb tb _ _ w.heap.size (w.heap.size + 1 + 1 + 1) (w.heap.size + 1) (w.heap.size + 1 + 1) _ h4 hl2 (fun i hi => by rw [z4]; omega) x0 c3 (cellAt c1 0 rfl) (cellAt c2 0 rfl) (fun h => by have := h.2; omega) (fun h => by have := h.2; omega) (fun h => by have := h.2; omega) (by omega) (by omega)
  have HE : Hid (∀ w5 v, Rnd mb tb (fun i => I i ∧ i < w.heap.size) (halves L) (w.heap.size + 1 + 1 + 1) ((((w.alloc (.cells #[P mb] 22)).alloc (.cells #[.int .i64 p] 3)).alloc (.cells #[.int .i64 q] 3)).alloc (.cells #[.slice none 0 0] 32)) w5 v ((halves L false).filter (overB p q) ++ (halves L true).filter (overB p q)) →
      (∃ ad n c, v = .slice ad n c) ∧ w5.heap[w.heap.size + 1 + 1 + 1]? = some (.cells #[v] 32 (0, 0)) ∧ Calls Try.prog 50 #[v, .func (.func 51) #[] #[]] w5 fun e w' => e = .returned (.tuple #[]) ∧ w'.heap[w.heap.size + 1 + 1 + 1]? = some (.cells #[v] 32 (0, 0)) ∧ MkL (w'.setCell ⟨w.heap.size + 1 + 1 + 1, 0, none⟩ v) mb I L ∧ Only I w (w'.setCell ⟨w.heap.size + 1 + 1 + 1, 0, none⟩ v) ∧ Owns (w'.setCell ⟨w.heap.size + 1 + 1 + 1, 0, none⟩ v) w.heap.size v (L.filter (overB p q))) := by
    intro w5 v hr5
    refine ⟨hr5.own.isSlice, hr5.box, ?_⟩
    have hpm := halves_perm L (overB p q)
    have hlf : (L.filter (overB p q)).length ≤ 1099511627776 := Nat.le_trans (List.length_filter_le _ _) hlen
    refine (sort_own _ v _ (L.filter (overB p q)) w5 hr5.own (by rw [hpm.length_eq]; omega) hpm (List.Pairwise.filter _ hr)).mono fun e w' hp => ?_
    obtain ⟨he, o, ow⟩ := hp
    rw [z4] at o ow
    have o5 : Only (fun i => (I i ∧ i < w.heap.size) ∨ w.heap.size + 1 + 1 + 1 = i ∨ w.heap.size + 1 + 1 + 1 + 1 ≤ i) _ w' := hr5.only.trans o (fun i _ h => h.elim Or.inl (fun e => Or.inr (Or.inl e.symm))) (fun i _ h => Or.inr (Or.inr h))
    have hb := o.keep hr5.box (by omega)
    have os : Only (fun i => i = w.heap.size + 1 + 1 + 1) w' (w'.setCell ⟨w.heap.size + 1 + 1 + 1, 0, none⟩ v) := (Only.refl _ _).set _ _ _ (fun _ => rfl)
    have hh6 := (hr5.has.only o (fun i _ h e => by have := h.2; omega)).only os (fun i _ h e => by have := h.2; omega)
    refine ⟨he, hb, ?_, ?_, (ow.only os (fun i hi e => by omega)).mono (by omega)⟩
    · obtain ⟨t6, h6⟩ := hh6
      exact (h6.mkl hr).mono (fun i _ h => h.1)
    · exact ((oa I).trans o5 (S := I) (fun _ _ h => h) (fun i hi h => by
        rcases h with h | h | h
        · exact h.1
        · omega
        · omega)).trans os (fun _ _ h => h) (fun i hi h => by omega)
  clear h0 hl2 oa c0 c1 c2 c3 z4 h4 hlen hr
  go_enter Try.func37, Try.ntmps37
  go_wp2_with fail
  generalize ((((w.alloc (.cells #[P mb] 22)).alloc (.cells #[.int .i64 p] 3)).alloc (.cells #[.int .i64 q] 3)).alloc (.cells #[.slice none 0 0] 32)) = w4 at *
  go_wp2_with fail
  refine HQ.out.mono ?_
  rintro e w5 ⟨rfl, v, hr5⟩
  obtain ⟨⟨ad, nn, cp, rfl⟩, b5, HS⟩ := HE.out w5 v hr5
  have y0 := cellAt b5 0 rfl
  have HS := Lib.hid HS
  clear hr5 HE HQ b5 x0
  go_wp2_with fail
  refine HS.out.mono ?_
  rintro e w6 ⟨rfl, b6, m6, o6, ow6⟩
  have HF := Lib.hid (And.intro m6 (And.intro o6 ow6))
  have b7 := setAt b6 0 (.slice ad nn cp) rfl
  have v0 := cellAt b6 0 rfl
  have vz := freeAt b6
  have u0 := Lib.hid (cellAt b7 0 rfl)
  clear HS y0 b6 b7 m6 o6 ow6
  go_wp2_with fail
  clear v0
  refine bodyPost_ret (v := .slice ad nn cp) (by have u0 := u0.out; simp at u0; simp [results, Try.results37, go_sem, u0]) rfl ⟨_, rfl, HF.out⟩

theorem overB_all {L : List Sp} (h : ∀ s ∈ L, okSp s) : L.filter (overB 9223372036854775807 0) = L := by
  rw [List.filter_eq_self]
  intro s hs
  have := h s hs
  unfold okSp at this
  unfold overB
  simp
  omega

set_option maxHeartbeats 400000 in
theorem All_L (mb : Nat) (I : Nat → Prop) (L : List Sp) (w : World) (h : MkL w mb I L) (hlen : L.length ≤ 1099511627776) (hok : ∀ s ∈ L, okSp s) :
    Calls Try.prog 17 #[P mb] w fun e w' => ∃ v, e = .returned v ∧ MkL w' mb I L ∧ Only I w w' ∧ Owns w' w.heap.size v L := by
  have H := Lib.hid (within_L 9223372036854775807 0 (by omega) mb I L w h hlen)
  rw [overB_all hok] at H
  clear h
  go_enter Try.func17, Try.ntmps17
  go_wp2_with fail
  refine H.out.mono ?_
  rintro e w1 ⟨v, rfl, h1⟩
  have h1 := Lib.hid h1
  clear H
  go_wp2_with fail
  go_ret
  exact ⟨v, rfl, h1.out⟩

/-- the spans that lie over a range -/
def overL (a b : Int) (L : List Sp) : List Sp := L.filter (fun s => decide (s.f < b) && decide (a < s.t))

set_option maxHeartbeats 400000 in
theorem Over_L (a b : Int) (ha : -9223372036854775808 ≤ a ∧ a ≤ 9223372036854775807) (hb : -9223372036854775808 ≤ b ∧ b ≤ 9223372036854775807) (mb : Nat) (I : Nat → Prop) (L : List Sp) (w : World) (h : MkL w mb I L) (hlen : L.length ≤ 1099511627776) (hok : ∀ s ∈ L, okSp s) :
    Calls Try.prog 16 #[P mb, .int .i64 a, .int .i64 b] w fun e w' => ∃ v, e = .returned v ∧ MkL w' mb I L ∧ Only I w w' ∧ Owns w' w.heap.size v (overL a b L) := by
  by_cases h1 : b ≤ 0
  · have hn : overL a b L = [] := by
      unfold overL
      rw [List.filter_eq_nil_iff]
      intro s hs
      have := hok s hs
      unfold okSp at this
      simp
      omega
    rw [hn]
    have HF : Hid (MkL w mb I L ∧ Only I w w ∧ Owns w w.heap.size (.slice none 0 0) []) := ⟨h, Only.refl _ _, Owns.nil _ _⟩
    clear h hn
    go_enter Try.func16, Try.ntmps16
    go_wp2_with fail
    go_ret
    exact ⟨_, rfl, HF.out⟩
  · by_cases h2 : a = 9223372036854775807
    · have hn : overL a b L = [] := by
        unfold overL
        rw [List.filter_eq_nil_iff]
        intro s hs
        have := hok s hs
        unfold okSp at this
        simp
        omega
      rw [hn]
      have HF : Hid (MkL w mb I L ∧ Only I w w ∧ Owns w w.heap.size (.slice none 0 0) []) := ⟨h, Only.refl _ _, Owns.nil _ _⟩
      clear h hn
      go_enter Try.func16, Try.ntmps16
      go_wp2_with fail
      go_ret
      exact ⟨_, rfl, HF.out⟩
    · have hn : L.filter (overB (b - 1) (max a (-1) + 1)) = overL a b L := by
        unfold overL
        refine List.filter_congr (fun s hs => ?_)
        have := hok s hs
        unfold okSp at this
        unfold overB
        rw [Bool.eq_iff_iff]
        simp
        omega
      have H := Lib.hid (within_L (b - 1) (max a (-1) + 1) (by omega) mb I L w h hlen)
      rw [hn] at H
      clear h hn hok hlen
      have e1 : wrap64 (b - 1) = b - 1 := wrap64_of _ (by omega)
      have e2 : wrap64 (max a (-1) + 1) = max a (-1) + 1 := wrap64_of _ (by omega)
      go_enter Try.func16, Try.ntmps16
      go_wp2_with fail
      refine H.out.mono ?_
      rintro e w1 ⟨v, rfl, h3⟩
      have h3 := Lib.hid h3
      clear H
      go_wp2_with fail
      go_ret
      exact ⟨v, rfl, h3.out⟩
end Go.Proofs.Ytmbclcplinmblaa
