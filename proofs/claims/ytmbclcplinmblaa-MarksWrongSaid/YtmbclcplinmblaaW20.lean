/- The walks of package shift: cut, of, place, empty, unless, Clip. -/
import Derived.Test.YtmbclcplinmblaaW19
import Derived.Deep.RegionHeld3
namespace Go.Proofs.Ytmbclcplinmblaa
open Go.RowKit

/-- a number cut to those from 0 to 2^40 -/
def cutI (v : Int) : Int := max 0 (min v 1099511627776)
theorem cutI_in (v : Int) : 0 ≤ cutI v ∧ cutI v ≤ 1099511627776 := by unfold cutI; omega
theorem cutI_of {v : Int} (h : 0 ≤ v ∧ v ≤ 1099511627776) : cutI v = v := by unfold cutI; omega
/-- where a place is behind a change -/
def placeI (a d i p : Int) : Int := if cutI p ≤ a then cutI p else if cutI p < a + d then a + i else cutI p + i - d

set_option maxHeartbeats 400000 in
theorem cut_calls65 (v : Int) (w : World) : Calls Try.prog 65 #[.int .i64 v] w fun e w' => e = .returned (.int .i64 (cutI v)) ∧ w' = w := by
  unfold cutI
  go_enter Try.func65, Try.ntmps65
  go_wp2
  go_ret
  exact ⟨rfl, rfl⟩

set_option maxHeartbeats 400000 in
theorem of_calls52 (a d i : Int) (w : World) : Calls Try.prog 52 #[.int .i64 a, .int .i64 d, .int .i64 i] w fun e w' => e = .returned (.agg #[.int .i64 (cutI a), .int .i64 (cutI d), .int .i64 (cutI i)]) ∧ Only (fun _ => False) w w' := by
  have H := fun v W => cut_calls65 v W
  generalize cutI = f at H ⊢
  have HC := Lib.hid H
  clear H
  go_enter Try.func52, Try.ntmps52
  go_wp2_with (go_at_call 65; refine (HC.out _ _).mono ?_; rintro e w' ⟨rfl, rfl⟩)
  refine bodyPost_ret (v := .agg #[.int .i64 (f a), .int .i64 (f d), .int .i64 (f i)]) (by simp [results, Try.results52, go_sem]) rfl ⟨rfl, ?_⟩
  exact (Only.refl (fun _ => False) w).alloc _

set_option maxHeartbeats 1000000 in
theorem place_calls (a d i p : Int) (ha : 0 ≤ a ∧ a ≤ 1099511627776) (hd : 0 ≤ d ∧ d ≤ 1099511627776) (hi : 0 ≤ i ∧ i ≤ 1099511627776) (w : World) :
    Calls Try.prog 66 #[.agg #[.int .i64 a, .int .i64 d, .int .i64 i], .int .i64 p] w fun e w' => e = .returned (.int .i64 (placeI a d i p)) ∧ w.alloc (.cells #[.int .i64 a, .int .i64 d, .int .i64 i] 78) = w' := by
  have hp := cutI_in p
  have H := cut_calls65 p
  unfold placeI
  generalize cutI p = q at hp H ⊢
  obtain ⟨a0, a1⟩ := ha
  obtain ⟨d0, d1⟩ := hd
  obtain ⟨i0, i1⟩ := hi
  obtain ⟨p0, p1⟩ := hp
  have HC := Lib.hid H
  clear H
  by_cases c1 : q ≤ a
  · rw [if_pos c1]
    go_enter Try.func66, Try.ntmps66
    go_wp2_with (go_at_call 65; refine (HC.out _).mono ?_; rintro e w' ⟨rfl, rfl⟩)
    go_ret
    exact ⟨rfl, rfl⟩
  · rw [if_neg c1]
    by_cases c2 : q < a + d
    · rw [if_pos c2]
      go_enter Try.func66, Try.ntmps66
      go_wp2_with (go_at_call 65; refine (HC.out _).mono ?_; rintro e w' ⟨rfl, rfl⟩)
      go_ret
      exact ⟨rfl, rfl⟩
    · rw [if_neg c2]
      go_enter Try.func66, Try.ntmps66
      go_wp2_with (go_at_call 65; refine (HC.out _).mono ?_; rintro e w' ⟨rfl, rfl⟩)
      go_ret
      exact ⟨rfl, rfl⟩

theorem Only.cellK {w w' : World} (o : Only (fun _ => False) w w') {a : Addr} {v : Value} (h : w.cell? a = some v) : w'.cell? a = some v :=
  (World.cell?_of_block (w := w) (o.block a.block (block_lt_of_cell h) id)).trans h

set_option maxRecDepth 100000 in
set_option maxHeartbeats 1000000 in
theorem empty_calls (a d i : Int) (s : Sp) (ha : 0 ≤ a ∧ a ≤ 1099511627776) (hd : 0 ≤ d ∧ d ≤ 1099511627776) (hi : 0 ≤ i ∧ i ≤ 1099511627776) (w : World) :
    Calls Try.prog 54 #[.agg #[.int .i64 a, .int .i64 d, .int .i64 i], s.val] w fun e w' => e = .returned (.bool (decide (placeI a d i s.t ≤ placeI a d i s.f))) ∧ Only (fun _ => False) w w' := by
  have H : ∀ p W, Calls Try.prog 66 #[.agg #[.int .i64 a, .int .i64 d, .int .i64 i], .int .i64 p] W fun e w' => e = .returned (.int .i64 (placeI a d i p)) ∧ Only (fun _ => False) W w' := fun p W => (place_calls a d i p ha hd hi W).mono fun e w' ⟨h1, h2⟩ => ⟨h1, h2 ▸ (Only.refl (fun _ => False) W).alloc _⟩
  generalize placeI a d i = g at H ⊢
  have HC := Lib.hid H
  clear H ha hd hi
  unfold Sp.val
  have o : Only (fun _ => False) w ((w.alloc (.cells #[.int .i64 a, .int .i64 d, .int .i64 i] 78)).alloc (spObj s)) := ((Only.refl (fun _ => False) w).alloc _).alloc _
  have b0 : ((w.alloc (.cells #[.int .i64 a, .int .i64 d, .int .i64 i] 78)).alloc (spObj s)).heap[w.heap.size]? = some (.cells #[.int .i64 a, .int .i64 d, .int .i64 i] 78 (0, 0)) := allocOld (heap_alloc_new w _)
  have b1 := heap_alloc_new (w.alloc (.cells #[.int .i64 a, .int .i64 d, .int .i64 i] 78)) (spObj s)
  rw [World.size_alloc] at b1
  unfold spObj at *
  go_enter Try.func54, Try.ntmps54
  go_wp2_with fail
  generalize (w.alloc (.cells #[.int .i64 a, .int .i64 d, .int .i64 i] 78)).alloc (.cells #[.int .i64 s.f, .int .i64 s.t, .int .i64 s.k] 25) = w0 at o b0 b1 ⊢
  have x0 := cellAt b0 0 rfl
  have x1 := cellAt b0 1 rfl
  have x2 := cellAt b0 2 rfl
  have y0 := cellAt b1 0 rfl
  have y1 := cellAt b1 1 rfl
  have B0 := Lib.hid b0
  have B1 := Lib.hid b1
  have O := Lib.hid o
  clear b0 b1 o
  have K : w0.cell? ⟨w.heap.size, 0, none⟩ = some (.int .i64 a) ∧ w0.cell? ⟨w.heap.size, 1, none⟩ = some (.int .i64 d) ∧ w0.cell? ⟨w.heap.size, 2, none⟩ = some (.int .i64 i) ∧ w0.cell? ⟨w.heap.size + 1, 0, none⟩ = some (.int .i64 s.f) ∧ w0.cell? ⟨w.heap.size + 1, 1, none⟩ = some (.int .i64 s.t) := ⟨x0, x1, x2, y0, y1⟩
  have OO := O.out.drew
  clear x0 x1 x2 y0 y1
  go_region_held3 (fun w' => w'.cell? ⟨w.heap.size, 0, none⟩ = some (.int .i64 a) ∧ w'.cell? ⟨w.heap.size, 1, none⟩ = some (.int .i64 d) ∧ w'.cell? ⟨w.heap.size, 2, none⟩ = some (.int .i64 i) ∧ w'.cell? ⟨w.heap.size + 1, 0, none⟩ = some (.int .i64 s.f) ∧ w'.cell? ⟨w.heap.size + 1, 1, none⟩ = some (.int .i64 s.t))
    (first | exact K)
    ((go_at_call 66; refine (HC.out _ _).mono ?_; rintro e w1 ⟨rfl, o1⟩; have K := And.intro (o1.cellK K.1) (And.intro (o1.cellK K.2.1) (And.intro (o1.cellK K.2.2.1) (And.intro (o1.cellK K.2.2.2.1) (o1.cellK K.2.2.2.2)))); have OO := OO.trans o1 (fun _ _ h => h) (fun _ _ h => h)))
  have OX := Lib.hid OO
  clear K OO
  go_wp2_with fail
  go_ret
  exact ⟨rfl, OX.out⟩
end Go.Proofs.Ytmbclcplinmblaa
