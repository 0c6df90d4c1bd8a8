/- The walk of shift.Clip. -/
import Derived.Test.YtmbclcplinmblaaW21
namespace Go.Proofs.Ytmbclcplinmblaa
open Go.RowKit

set_option maxRecDepth 100000 in
set_option maxHeartbeats 1000000 in
theorem Clip_walk (x y z a d i : Int) (s r : Sp) (b : Bool)
    (HO : ∀ W, Calls Try.prog 52 #[.int .i64 x, .int .i64 y, .int .i64 z] W fun e w' => e = .returned (.agg #[.int .i64 a, .int .i64 d, .int .i64 i]) ∧ Only (fun _ => False) W w')
    (HU : ∀ W, Calls Try.prog 53 #[.agg #[.int .i64 a, .int .i64 d, .int .i64 i], s.val, .func (.func 54) #[] #[]] W fun e w' => e = .returned (.tuple #[r.val, .bool b]) ∧ Only (fun _ => False) W w') (w : World) :
    Calls Try.prog 39 #[s.val, .int .i64 x, .int .i64 y, .int .i64 z] w fun e w' => e = .returned (.tuple #[r.val, .bool b]) ∧ Only (fun _ => False) w w' := by
  have HO := Lib.hid HO
  have HU := Lib.hid HU
  unfold Sp.val at *
  have OO : Only (fun _ => False) w (((w.alloc (spObj s)).alloc (spObj ⟨0, 0, 0⟩)).drew) := (((Only.refl (fun _ => False) w).alloc _).alloc _).drew
  have b1 : (((w.alloc (spObj s)).alloc (spObj ⟨0, 0, 0⟩)).drew).heap[w.heap.size]? = some (spObj s) := allocOld (heap_alloc_new w (spObj s))
  have k2 : (((w.alloc (spObj s)).alloc (spObj ⟨0, 0, 0⟩)).drew).heap[(w.alloc (spObj s)).heap.size]? = _ := heap_alloc_new (w.alloc (spObj s)) (spObj ⟨0, 0, 0⟩)
  rw [World.size_alloc] at k2
  unfold spObj at *
  go_enter Try.func39, Try.ntmps39
  go_wp2_with fail
  have K := And.intro (cellAt b1 0 rfl) (And.intro (cellAt b1 1 rfl) (cellAt b1 2 rfl))
  have x0 := cellAt k2 0 rfl
  have x1 := cellAt k2 1 rfl
  have x2 := cellAt k2 2 rfl
  have xz := freeAt k2
  clear b1
  have ne : ¬ w.heap.size = w.heap.size + 1 := by omega
  go_region_held3 (fun w' => w'.cell? ⟨w.heap.size, 0, none⟩ = some (.int .i64 s.f) ∧ w'.cell? ⟨w.heap.size, 1, none⟩ = some (.int .i64 s.t) ∧ w'.cell? ⟨w.heap.size, 2, none⟩ = some (.int .i64 s.k))
    (first | exact K | (obtain ⟨q0, q1, q2⟩ := K; refine ⟨?_, ?_, ?_⟩ <;> simp [World.cell?_setCell_other, *]))
    ((first
      | (go_at_call 52; refine (HO.out _).mono ?_; rintro e w1 ⟨rfl, o1⟩; have K := And.intro (o1.cellK K.1) (And.intro (o1.cellK K.2.1) (o1.cellK K.2.2)); have OO := OO.trans o1 (fun _ _ h => h) (fun _ _ h => h); have k2 := o1.keep k2 id; have x0 := o1.cellK x0; have x1 := o1.cellK x1; have x2 := o1.cellK x2; have xz := freeAt k2)
      | (go_at_call 53; refine (HU.out _).mono ?_; rintro e w1 ⟨rfl, o1⟩; have K := And.intro (o1.cellK K.1) (And.intro (o1.cellK K.2.1) (o1.cellK K.2.2)); have OO := OO.trans o1 (fun _ _ h => h) (fun _ _ h => h); have k2 := o1.keep k2 id; have x0 := o1.cellK x0; have x1 := o1.cellK x1; have x2 := o1.cellK x2; have xz := freeAt k2)))
  all_goals
    have OZ := Lib.hid (((OO.set (w.heap.size + 1) 0 (.int .i64 r.f) (fun h => by omega)).set (w.heap.size + 1) 1 (.int .i64 r.t) (fun h => by omega)).set (w.heap.size + 1) 2 (.int .i64 r.k) (fun h => by omega))
    have b6 := setAt (setAt (setAt k2 0 (.int .i64 r.f) rfl) 1 (.int .i64 r.t) rfl) 2 (.int .i64 r.k) rfl
    have z0 := Lib.hid (cellAt b6 0 rfl)
    have z1 := Lib.hid (cellAt b6 1 rfl)
    have z2 := Lib.hid (cellAt b6 2 rfl)
    clear b6 k2 x0 x1 x2 xz
    go_wp2_with fail
    refine bodyPost_ret (v := .tuple #[.agg #[.int .i64 r.f, .int .i64 r.t, .int .i64 r.k], .bool b]) (by have z0 := z0.out; have z1 := z1.out; have z2 := z2.out; simp at z0 z1 z2; simp [results, Try.results39, go_sem, z0, z1, z2]) rfl ⟨rfl, OZ.out⟩

/-- shift.Clip in numbers -/
def clipS (x y z : Int) (s : Sp) : Option Sp :=
  if placeI (cutI x) (cutI y) (cutI z) s.t ≤ placeI (cutI x) (cutI y) (cutI z) s.f then none
  else some ⟨placeI (cutI x) (cutI y) (cutI z) s.f, placeI (cutI x) (cutI y) (cutI z) s.t, s.k⟩

theorem Clip_calls (x y z : Int) (s : Sp) (w : World) :
    Calls Try.prog 39 #[s.val, .int .i64 x, .int .i64 y, .int .i64 z] w fun e w' => e = .returned (.tuple #[((clipS x y z s).getD ⟨0, 0, 0⟩).val, .bool (clipS x y z s).isSome]) ∧ Only (fun _ => False) w w' := by
  unfold clipS
  by_cases h : placeI (cutI x) (cutI y) (cutI z) s.t ≤ placeI (cutI x) (cutI y) (cutI z) s.f
  · rw [if_pos h]
    exact Clip_walk x y z (cutI x) (cutI y) (cutI z) s ⟨0, 0, 0⟩ false (of_calls52 x y z) (unless_gone _ _ _ s (cutI_in x) (cutI_in y) (cutI_in z) h) w
  · rw [if_neg h]
    exact Clip_walk x y z (cutI x) (cutI y) (cutI z) s ⟨_, _, _⟩ true (of_calls52 x y z) (unless_left _ _ _ s (cutI_in x) (cutI_in y) (cutI_in z) (by omega)) w
end Go.Proofs.Ytmbclcplinmblaa
