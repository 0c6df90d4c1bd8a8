/- The walks of the laws' Place and of marks' awake. -/
import Derived.Test.YtmbclcplinmblaaW31
namespace Go.Proofs.Ytmbclcplinmblaa
open Go.RowKit

theorem tmod_emod (v n : Int) (hn : 0 < n) : (if v.tmod n < 0 then v.tmod n + n else v.tmod n) = v % n := by
  rw [Int.tmod_eq_emod]
  have h1 := Int.emod_nonneg v (Int.ne_of_gt hn)
  have h2 := Int.emod_lt_of_pos v hn
  split <;> split <;> omega

set_option maxHeartbeats 400000 in
theorem Place_calls (v n : Int) (hn : 0 < n) (hn2 : n ≤ 1152921504606846976) (w : World) : Calls Try.prog 12 #[.int .i64 v, .int .i64 n] w fun e w' => e = .returned (.int .i64 (v % n)) ∧ w = w' := by
  have h := tmod_emod v n hn
  have h1 : -n < v.tmod n := by
    rw [Int.tmod_eq_emod]
    have h1 := Int.emod_nonneg v (Int.ne_of_gt hn)
    split <;> omega
  have h2 : v.tmod n < n := by
    rw [Int.tmod_eq_emod]
    have h2 := Int.emod_lt_of_pos v hn
    split <;> omega
  have h0 : ¬ n = 0 := by omega
  generalize v % n = r at h ⊢
  have HH := Lib.hid h
  have e1 : wrap64 (v.tmod n) = v.tmod n := wrap64_of _ (by omega)
  by_cases hneg : v.tmod n < 0
  · have e2 : wrap64 (v.tmod n + n) = v.tmod n + n := wrap64_of _ (by omega)
    have HR : Hid (v.tmod n + n = r) := by have := HH.out; rw [if_pos hneg] at this; exact this
    clear h HH
    go_enter Try.func12, Try.ntmps12
    go_wp2_with fail
    go_ret
    exact ⟨by rw [← HR.out]; rfl, rfl⟩
  · have HR : Hid (v.tmod n = r) := by have := HH.out; rw [if_neg hneg] at this; exact this
    clear h HH
    go_enter Try.func12, Try.ntmps12
    go_wp2_with fail
    go_ret
    exact ⟨by rw [← HR.out]; rfl, rfl⟩

/-- what of a world made behind w may turn: the blocks X may not -/
def Out (w : World) (X : Nat → Prop) : Nat → Prop := fun i => w.heap.size ≤ i ∧ ¬ X i
/-- Marks made behind the world w, apart from the blocks X -/
structure Mine (w : World) (mb : Nat) (X : Nat → Prop) (L : List Sp) (W : World) : Prop where
  mkl : MkL W mb (Out w X) L
  only : Only (fun _ => False) w W
  xs : ∀ i, X i → i < W.heap.size
  ok : ∀ s ∈ L, okSp s

theorem Only.out {w W W' : World} {X : Nat → Prop} (h : Only (fun _ => False) w W) (o : Only (Out w X) W W') : Only (fun _ => False) w W' :=
  h.trans o (fun _ _ h => h) (fun i hi h => by have := h.1; omega)

namespace Mine
variable {w W W' : World} {mb : Nat} {X : Nat → Prop} {L : List Sp}

theorem next (h : Mine w mb X L W) {L' : List Sp} (o : Only (Out w X) W W') (m : MkL W' mb (Grow (Out w X) W) L') (ok : ∀ s ∈ L', okSp s) : Mine w mb X L' W' :=
  ⟨m.mono (fun i _ hi => by
    rcases hi with hi | hi
    · exact hi
    · exact ⟨Nat.le_trans h.only.size hi, fun hx => by have := h.xs i hx; omega⟩), h.only.out o, fun i hx => Nat.lt_of_lt_of_le (h.xs i hx) o.size, ok⟩
theorem same (h : Mine w mb X L W) (o : Only (Out w X) W W') (m : MkL W' mb (Out w X) L) : Mine w mb X L W' :=
  ⟨m, h.only.out o, fun i hx => Nat.lt_of_lt_of_le (h.xs i hx) o.size, h.ok⟩
theorem keep (h : Mine w mb X L W) (o : Only (fun _ => False) W W') : Mine w mb X L W' :=
  ⟨h.mkl.only o (fun _ _ _ h => h), h.only.trans o (fun _ _ h => h) (fun _ _ h => h), fun i hx => Nat.lt_of_lt_of_le (h.xs i hx) o.size, h.ok⟩
/-- a block laid besides -/
theorem box (h : Mine w mb X L W) (o : Obj) : Mine w mb (fun i => X i ∨ i = W.heap.size) L (W.alloc o) := by
  refine ⟨(h.mkl.mono (J := Out w (fun i => X i ∨ i = W.heap.size)) (fun i hi h => ⟨h.1, fun hx => hx.elim h.2 (fun e => by omega)⟩)).only ((Only.refl (fun _ => False) W).alloc o) (fun _ _ _ h => h), (h.only.alloc o), fun i hx => ?_, h.ok⟩
  rw [World.size_alloc]
  rcases hx with hx | hx
  · have := h.xs i hx; omega
  · omega
/-- a block that is not the trees' may turn -/
theorem set (h : Mine w mb X L W) {S : Nat → Prop} (o : Only S W W') (hS : ∀ i, S i → X i) (hw : ∀ i, i < w.heap.size → ¬ S i) : Mine w mb X L W' :=
  ⟨h.mkl.only o (fun i _ h hs => h.2 (hS i hs)), h.only.trans o (fun _ _ h => h) (fun i hi hs => hw i hi hs), fun i hx => Nat.lt_of_lt_of_le (h.xs i hx) o.size, h.ok⟩

theorem new (w W : World) (X : Nat → Prop) (hw : Only (fun _ => False) w W) (hx : ∀ i, X i → i < W.heap.size) : Calls Try.prog 10 #[] W fun e w' => e = .returned (P W.heap.size) ∧ Mine w W.heap.size X [] w' ∧ Only (fun _ => False) W w' :=
  (New_calls W).mono fun _ _ ⟨he, m, o⟩ => ⟨he, ⟨m.mono (fun i _ h => ⟨Nat.le_trans hw.size h, fun hX => by have := hx i hX; omega⟩), hw.trans o (fun _ _ h => h) (fun _ _ h => h), fun i hX => Nat.lt_of_lt_of_le (hx i hX) o.size, fun s hs => by cases hs⟩, o⟩

theorem put (h : Mine w mb X L W) (s : Sp) (hs : okSp s) (hl : L.length < 1099511627776) : Calls Try.prog 11 #[P mb, s.val] W fun e w' => e = .returned (.bool (decide (s ∉ L))) ∧ Mine w mb X (insS s L) w' ∧ Only (Out w X) W w' :=
  (Put_L s mb _ L W h.mkl hl hs).mono fun _ _ ⟨he, m, o⟩ => ⟨he, h.next o m (fun x hx => by
    rcases mem_insS.1 hx with rfl | hx
    · exact hs
    · exact h.ok x hx), o⟩
theorem putNo (h : Mine w mb X L W) (s : Sp) (hs : ¬ okSp s) : Calls Try.prog 11 #[P mb, s.val] W fun e w' => e = .returned (.bool false) ∧ Mine w mb X L w' ∧ Only (Out w X) W w' :=
  (PutNo_L s mb _ L W h.mkl hs).mono fun _ _ ⟨he, _, o⟩ => ⟨he, h.keep o, o.mono (fun _ _ h => h.elim)⟩
theorem remove (h : Mine w mb X L W) (s : Sp) : Calls Try.prog 13 #[P mb, s.val] W fun e w' => e = .returned (.bool (decide (s ∈ L))) ∧ Mine w mb X (delS s L) w' ∧ Only (Out w X) W w' :=
  (Remove_L s mb _ L W h.mkl).mono fun _ _ ⟨he, m, o⟩ => ⟨he, h.next o m (fun x hx => h.ok x (mem_delS.1 hx).1), o⟩
theorem all (h : Mine w mb X L W) (hl : L.length ≤ 1099511627776) : Calls Try.prog 17 #[P mb] W fun e w' => ∃ v, e = .returned v ∧ Mine w mb X L w' ∧ Only (Out w X) W w' ∧ Owns w' W.heap.size v L :=
  (All_L mb _ L W h.mkl hl h.ok).mono fun _ _ ⟨v, he, m, o, ow⟩ => ⟨v, he, h.same o m, o, ow⟩
theorem over (h : Mine w mb X L W) (hl : L.length ≤ 1099511627776) (a b : Int) (ha : -9223372036854775808 ≤ a ∧ a ≤ 9223372036854775807) (hb : -9223372036854775808 ≤ b ∧ b ≤ 9223372036854775807) : Calls Try.prog 16 #[P mb, .int .i64 a, .int .i64 b] W fun e w' => ∃ v, e = .returned v ∧ Mine w mb X L w' ∧ Only (Out w X) W w' ∧ Owns w' W.heap.size v (overL a b L) :=
  (Over_L a b ha hb mb _ L W h.mkl hl h.ok).mono fun _ _ ⟨v, he, m, o, ow⟩ => ⟨v, he, h.same o m, o, ow⟩
theorem len (h : Mine w mb X L W) (hl : L.length < 1099511627776) : Calls Try.prog 14 #[P mb] W fun e w' => e = .returned (.int .i64 L.length) ∧ W = w' := Len_calls mb _ L W h.mkl hl
theorem height (h : Mine w mb X L W) (hl : L.length < 1099511627776) : Calls Try.prog 36 #[P mb] W fun e w' => (∃ n : Int, e = .returned (.int .i64 n) ∧ (L.length = 1 → n = 1)) ∧ W = w' := Height_calls mb _ L W h.mkl hl
end Mine

theorem one_ok {a d i : Int} (hc : Cut3 a d i) {s x : Sp} (hs : okSp s) (h : EdOk.keep a d i s = some x) : okSp x := by
  unfold EdOk.keep at h
  obtain ⟨h2, h3⟩ := Option.filter_eq_some_iff.1 h
  obtain ⟨ha, hd, hi⟩ := hc
  unfold okSp at hs
  have hx : 0 ≤ x.f ∧ x.f < x.t ∧ x.t ≤ 3298534883328 ∧ x.k = s.k := by
    have ht : ∀ p, 0 ≤ p + (i - d) → x = tailS p (i - d) s → 0 ≤ x.f ∧ x.f < x.t ∧ x.t ≤ 3298534883328 ∧ x.k = s.k := fun p hp e => by
      subst e
      unfold tailS
      split
      · rw [shS_of (by omega) (by omega)]
        refine ⟨?_, ?_, ?_, rfl⟩
        · show 0 ≤ s.f + (i - d); omega
        · show s.f + (i - d) < s.t + (i - d); omega
        · show s.t + (i - d) ≤ 3298534883328; omega
      · omega
    unfold EdOk.one at h2
    split at h2
    · split at h2
      · cases h2
      · exact ht (a + d + 1) (by omega) (Option.some.inj h2).symm
    · split at h2
      · have := EdOk.clip_in h2
        have e : x.k = s.k := by
          unfold clipS at h2
          split at h2
          · cases h2
          · cases h2; rfl
        omega
      · exact ht (max (a + 1) (a + d)) (by omega) (Option.some.inj h2).symm
  unfold big overB at h3
  simp at h3
  unfold okSp
  omega
theorem editL_ok (x y z : Int) {L : List Sp} (h : ∀ s ∈ L, okSp s) : ∀ s ∈ editL x y z L, okSp s := by
  intro s hs
  obtain ⟨y', hy, h1⟩ := (mem_editL x y z L s).1 hs
  exact one_ok ⟨cutI_in x, cutI_in y, cutI_in z⟩ (h y' hy) h1

theorem Mine.edit {w W : World} {mb : Nat} {X : Nat → Prop} {L : List Sp} (h : Mine w mb X L W) (hl : L.length ≤ 1099511627776) (x y z : Int) : Calls Try.prog 35 #[P mb, .int .i64 x, .int .i64 y, .int .i64 z] W fun e w' => e = .returned (.tuple #[]) ∧ Mine w mb X (editL x y z L) w' ∧ Only (Out w X) W w' :=
  (Edit_L x y z mb _ L W h.mkl hl h.ok).mono fun _ _ ⟨he, m, o⟩ => ⟨he, h.next o m (editL_ok x y z h.ok), o⟩

theorem awakeL : editL 0 0 3 (insS ⟨5, 9, 1⟩ []) = [⟨8, 12, 1⟩] := by kernel_rfl
theorem awakePut : insS ⟨5, 9, 1⟩ (insS ⟨5, 9, 1⟩ []) = insS ⟨5, 9, 1⟩ [] := by kernel_rfl
end Go.Proofs.Ytmbclcplinmblaa
