/- The walks of marks' small functions on nodes: high, many, far, move, down, told. -/
import Derived.Test.YtmbclcplinmblaaProg
import Derived.Test.YtmbclcplinmblaaLies
import Derived.WalkSpells
import Derived.WalkLawsBesides
import Derived.BigRegion
import Derived.Deep.QuietTactic
import Derived.BigQuiet
import Derived.Lib.Hide
namespace Go.Proofs.Ytmbclcplinmblaa
open Go.RowKit

set_option maxHeartbeats 400000 in
theorem high_calls (t : T) (w : World) (hl : Lies w t) :
    Calls Try.prog 48 #[.pointer t.root] w fun e w' => e = .returned (.int .i64 t.high) ∧ w = w' := by
  cases t with
  | nil =>
    simp only [T.root]
    go_enter Try.func48, Try.ntmps48
    go_wp2
    go_ret
    exact ⟨rfl, rfl⟩
  | node b d l r =>
    have c5 := (nodeAt hl.1).c5
    clear hl
    simp only [T.root]
    go_enter Try.func48, Try.ntmps48
    go_wp2
    go_ret
    exact ⟨rfl, rfl⟩
set_option maxHeartbeats 400000 in
theorem many_calls (t : T) (w : World) (hl : Lies w t) :
    Calls Try.prog 34 #[.pointer t.root] w fun e w' => e = .returned (.int .i64 t.many) ∧ w = w' := by
  cases t with
  | nil =>
    simp only [T.root]
    go_enter Try.func34, Try.ntmps34
    go_wp2
    go_ret
    exact ⟨rfl, rfl⟩
  | node b d l r =>
    have c5 := (nodeAt hl.1).c6
    clear hl
    simp only [T.root]
    go_enter Try.func34, Try.ntmps34
    go_wp2
    go_ret
    exact ⟨rfl, rfl⟩
set_option maxHeartbeats 400000 in
theorem far_calls (t : T) (w : World) (hl : Lies w t) :
    Calls Try.prog 59 #[.pointer t.root] w fun e w' => e = .returned (.int .i64 t.far) ∧ w = w' := by
  cases t with
  | nil =>
    simp only [T.root]
    go_enter Try.func59, Try.ntmps59
    go_wp2
    go_ret
    exact ⟨rfl, rfl⟩
  | node b d l r =>
    have c5 := (nodeAt hl.1).c7
    clear hl
    simp only [T.root]
    go_enter Try.func59, Try.ntmps59
    go_wp2
    go_ret
    exact ⟨rfl, rfl⟩

set_option maxHeartbeats 1000000 in
theorem move_calls (t : T) (x : Int) (w : World) (hl : Lies w t) (hn : t.ids.Nodup) :
    Calls Try.prog 60 #[.pointer t.root, .int .i64 x] w fun e w' => e = .returned (.tuple #[]) ∧ Lies w' (t.mv x) ∧ Only t.isAt w w' := by
  cases t with
  | nil =>
    simp only [T.root]
    go_enter Try.func60, Try.ntmps60
    go_wp2
    go_end0
    exact ⟨rfl, trivial, Only.refl _ _⟩
  | node b d l r =>
    obtain ⟨hb, hl, hr⟩ := hl
    obtain ⟨_, _, n1, n2, _⟩ := nodup_node hn
    have hfin : ∀ W : World, W = ((((w.setCell ⟨b, 0, none⟩ (.int .i64 (wrap64 (d.f + x)))).setCell ⟨b, 1, none⟩ (.int .i64 (wrap64 (d.t + x)))).setCell ⟨b, 7, none⟩ (.int .i64 (wrap64 (d.m + x)))).setCell ⟨b, 8, none⟩ (.int .i64 (wrap64 (d.w + x)))).drew →
        Lies W ((T.node b d l r).mv x) ∧ Only (T.node b d l r).isAt w W := by
      rintro _ rfl
      have ho : Only (T.node b d l r).isAt w ((((w.setCell ⟨b, 0, none⟩ (.int .i64 (wrap64 (d.f + x)))).setCell ⟨b, 1, none⟩ (.int .i64 (wrap64 (d.t + x)))).setCell ⟨b, 7, none⟩ (.int .i64 (wrap64 (d.m + x)))).setCell ⟨b, 8, none⟩ (.int .i64 (wrap64 (d.w + x)))).drew :=
        (((((Only.refl (T.node b d l r).isAt w).set b 0 _ (fun _ => rfl)).set b 1 _ (fun _ => rfl)).set b 7 _ (fun _ => rfl)).set b 8 _ (fun _ => rfl)).drew
      refine ⟨⟨?_, Lies.only ho hl (fun i hi e => n1 (by rw [← show i = b from e]; exact hi)), Lies.only ho hr (fun i hi e => n2 (by rw [← show i = b from e]; exact hi))⟩, ho⟩
      exact setAt (setAt (setAt (setAt hb 0 _ rfl) 1 _ rfl) 7 _ rfl) 8 _ rfl
    have c0 := (nodeAt hb).c0
    have c1 := (nodeAt hb).c1
    have c7 := (nodeAt hb).c7
    have c8 := (nodeAt hb).c8
    have fz := (nodeAt hb).fz
    have HF := Lib.hid hfin
    clear hfin hb hl hr hn n1 n2
    simp only [T.root]
    go_enter Try.func60, Try.ntmps60
    go_wp2
    go_region
    go_end0
    exact ⟨rfl, HF.out _ rfl⟩
end Go.Proofs.Ytmbclcplinmblaa
