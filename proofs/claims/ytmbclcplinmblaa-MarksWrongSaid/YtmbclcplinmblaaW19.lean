/- The walks of Marks' New, Len, Height. -/
import Derived.Test.YtmbclcplinmblaaMk
namespace Go.Proofs.Ytmbclcplinmblaa
open Go.RowKit

set_option maxRecDepth 100000 in
set_option maxHeartbeats 1000000 in
theorem New_calls (w : World) : Calls Try.prog 10 #[] w fun e w' => e = .returned (P w.heap.size) ∧ MkL w' w.heap.size (fun i => w.heap.size ≤ i) [] ∧ Only (fun _ => False) w w' := by
  have HF : Hid (∀ w', w' = (((w.alloc (.cells #[P (w.heap.size + 1), P (w.heap.size + 1 + 1), .int .i64 0] 55)).alloc (.cells #[.pointer none, .pointer (some ⟨w.heap.size, 2, none⟩)] 59)).alloc (.cells #[.pointer none, .pointer (some ⟨w.heap.size, 2, none⟩)] 59)).drew.drew →
      MkL w' w.heap.size (fun i => w.heap.size ≤ i) [] ∧ Only (fun _ => False) w w') := by
    rintro w' rfl
    have o : Only (fun _ => False) w (((w.alloc (.cells #[P (w.heap.size + 1), P (w.heap.size + 1 + 1), .int .i64 0] 55)).alloc (.cells #[.pointer none, .pointer (some ⟨w.heap.size, 2, none⟩)] 59)).alloc (.cells #[.pointer none, .pointer (some ⟨w.heap.size, 2, none⟩)] 59)).drew.drew :=
      ((((Only.refl (fun _ => False) w).alloc _).alloc _).alloc _).drew.drew
    have a0 := allocOld (o' := .cells #[.pointer none, .pointer (some ⟨w.heap.size, 2, none⟩)] 59) (allocOld (o' := .cells #[.pointer none, .pointer (some ⟨w.heap.size, 2, none⟩)] 59) (heap_alloc_new w (.cells #[P (w.heap.size + 1), P (w.heap.size + 1 + 1), .int .i64 0] 55)))
    have a1 := heap_alloc_new (w.alloc (.cells #[P (w.heap.size + 1), P (w.heap.size + 1 + 1), .int .i64 0] 55)) (.cells #[.pointer none, .pointer (some ⟨w.heap.size, 2, none⟩)] 59)
    rw [World.size_alloc] at a1
    have a1' := allocOld (o' := .cells #[.pointer none, .pointer (some ⟨w.heap.size, 2, none⟩)] 59) a1
    have a2 := heap_alloc_new ((w.alloc (.cells #[P (w.heap.size + 1), P (w.heap.size + 1 + 1), .int .i64 0] 55)).alloc (.cells #[.pointer none, .pointer (some ⟨w.heap.size, 2, none⟩)] 59)) (.cells #[.pointer none, .pointer (some ⟨w.heap.size, 2, none⟩)] 59)
    rw [World.size_alloc, World.size_alloc] at a2
    have snd : Sound .nil := ⟨T.Gd.nil, List.Pairwise.nil, by simp [T.size]⟩
    refine ⟨⟨w.heap.size + 1, w.heap.size + 1 + 1, .nil, .nil, ⟨⟨⟨a1', 0, a0⟩, trivial, List.nodup_nil, by simp [T.ids], by simp [T.ids], snd⟩, ⟨⟨a2, 0, a0⟩, trivial, List.nodup_nil, by simp [T.ids], by simp [T.ids], snd⟩, by omega, by simp [T.ids], by simp [T.ids], by simp [T.ids]⟩, List.Pairwise.nil, rfl, rfl, ⟨Nat.le_refl _, by omega, by omega⟩, by simp [T.ids], by simp [T.ids]⟩, o⟩
  go_enter Try.func10, Try.ntmps10
  go_wp2_with fail
  refine wp_loop_rounds 3 ?_
  rw [rounds_succ]
  go_wp2_with fail
  go_region
  go_wp2_with fail
  rw [rounds_succ]
  go_wp2_with fail
  go_region
  go_wp2_with fail
  rw [rounds_succ]
  go_wp2_with fail
  go_ret
  refine ⟨rfl, HF.out _ ?_⟩
  rfl

theorem MkL.many {w : World} {mb : Nat} {I : Nat → Prop} {L : List Sp} (h : MkL w mb I L) (hlen : L.length < 1099511627776) : ∃ tb0 tb1 t0 t1, MK w mb tb0 tb1 t0 t1 ∧ wrap64 (wrap64 (0 + t0.many) + t1.many) = L.length ∧ (L.length = 1 → max (max 0 t0.high) t1.high = 1) := by
  obtain ⟨tb0, tb1, t0, t1, m, r, f0, f1, hi, i0, i1⟩ := h
  have hsz := sizes f0 f1
  have m0 := T.hok_many m.h0.snd.gd.hok
  have m1 := T.hok_many m.h1.snd.gd.hok
  refine ⟨tb0, tb1, t0, t1, m, ?_, fun h1 => ?_⟩
  · rw [wrap64_add_l, wrap64_of _ (by omega)]; omega
  · have q0 := T.hok_high m.h0.snd.gd.hok
    have q1 := T.hok_high m.h1.snd.gd.hok
    have p0 : t0.size ≠ 0 → 1 ≤ t0.high := fun h => by
      cases t0 with
      | nil => simp [T.size] at h
      | node b d l r => exact T.hok_pos m.h0.snd.gd.hok
    have p1 : t1.size ≠ 0 → 1 ≤ t1.high := fun h => by
      cases t1 with
      | nil => simp [T.size] at h
      | node b d l r => exact T.hok_pos m.h1.snd.gd.hok
    by_cases z : t0.size = 0
    · have := p1 (by omega); omega
    · have := p0 z; omega

set_option maxRecDepth 100000 in
set_option maxHeartbeats 1000000 in
theorem Len_calls (mb : Nat) (I : Nat → Prop) (L : List Sp) (w : World) (h : MkL w mb I L) (hlen : L.length < 1099511627776) :
    Calls Try.prog 14 #[P mb] w fun e w' => e = .returned (.int .i64 L.length) ∧ w = w' := by
  obtain ⟨tb0, tb1, t0, t1, m, e1, _⟩ := h.many hlen
  obtain ⟨st, hm⟩ := m.h0.host.marks
  have c0 := cellAt hm 0 rfl
  have c1 := cellAt hm 1 rfl
  have x0 := cellAt m.h0.host.tree 0 rfl
  have x1 := cellAt m.h1.host.tree 0 rfl
  have H0 := Lib.hid (many_calls t0 w m.h0.lies)
  have H1 := Lib.hid (many_calls t1 w m.h1.lies)
  have E1 := Lib.hid e1
  clear m hm e1 h
  have i0 : ∀ w, (Instr.index 53 (.agg #[P tb0, P tb1]) (.int .i64 0)).run Try.prog w = .ok (P tb0) w := fun _ => by kernel_rfl
  have i1 : ∀ w, (Instr.index 53 (.agg #[P tb0, P tb1]) (.int .i64 1)).run Try.prog w = .ok (P tb1) w := fun _ => by kernel_rfl
  go_enter Try.func14, Try.ntmps14
  go_wp2_with fail
  refine wp_loop_rounds 3 ?_
  rw [rounds_succ]
  go_wp2_with fail
  refine H0.out.mono ?_
  rintro e w1 ⟨rfl, rfl⟩
  go_wp2_with fail
  rw [rounds_succ]
  go_wp2_with fail
  refine H1.out.mono ?_
  rintro e w1 ⟨rfl, rfl⟩
  go_wp2_with fail
  rw [rounds_succ]
  go_wp2_with fail
  go_ret
  refine ⟨?_, rfl⟩
  rw [← E1.out]
  simp [Array.getD]

set_option maxRecDepth 100000 in
set_option maxHeartbeats 1000000 in
theorem Height_calls (mb : Nat) (I : Nat → Prop) (L : List Sp) (w : World) (h : MkL w mb I L) (hlen : L.length < 1099511627776) :
    Calls Try.prog 36 #[P mb] w fun e w' => (∃ n : Int, e = .returned (.int .i64 n) ∧ (L.length = 1 → n = 1)) ∧ w = w' := by
  obtain ⟨tb0, tb1, t0, t1, m, _, e1⟩ := h.many hlen
  obtain ⟨st, hm⟩ := m.h0.host.marks
  have c0 := cellAt hm 0 rfl
  have c1 := cellAt hm 1 rfl
  have x0 := cellAt m.h0.host.tree 0 rfl
  have x1 := cellAt m.h1.host.tree 0 rfl
  have H0 := Lib.hid (high_calls t0 w m.h0.lies)
  have H1 := Lib.hid (high_calls t1 w m.h1.lies)
  have HF : Hid (∀ n : Int, n = max (max 0 t0.high) t1.high → ∃ k : Int, Ending.returned (.int .i64 n) = .returned (.int .i64 k) ∧ (L.length = 1 → k = 1)) := fun n hn => ⟨n, rfl, fun h => hn.trans (e1 h)⟩
  clear m hm e1 h
  have i0 : ∀ w, (Instr.index 53 (.agg #[P tb0, P tb1]) (.int .i64 0)).run Try.prog w = .ok (P tb0) w := fun _ => by kernel_rfl
  have i1 : ∀ w, (Instr.index 53 (.agg #[P tb0, P tb1]) (.int .i64 1)).run Try.prog w = .ok (P tb1) w := fun _ => by kernel_rfl
  go_enter Try.func36, Try.ntmps36
  go_wp2_with fail
  refine wp_loop_rounds 3 ?_
  rw [rounds_succ]
  go_wp2_with fail
  refine H0.out.mono ?_
  rintro e w1 ⟨rfl, rfl⟩
  go_wp2_with fail
  rw [rounds_succ]
  go_wp2_with fail
  refine H1.out.mono ?_
  rintro e w1 ⟨rfl, rfl⟩
  go_wp2_with fail
  rw [rounds_succ]
  go_wp2_with fail
  go_ret
  exact ⟨HF.out (max 0 (max t0.high t1.high)) (by omega), rfl⟩
end Go.Proofs.Ytmbclcplinmblaa
