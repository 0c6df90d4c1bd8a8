/- The walk of marks' order. -/
import Derived.Test.YtmbclcplinmblaaW6
namespace Go.Proofs.Ytmbclcplinmblaa
open Go.RowKit

def Sp.val (s : Sp) : Value := .agg #[.int .i64 s.f, .int .i64 s.t, .int .i64 s.k]
/-- which stands first, as a number -/
def ordI (a b : Sp) : Int := or3 (cmpI a.f b.f) (cmpI a.t b.t) (cmpI a.k b.k)

set_option maxRecDepth 100000 in
set_option maxHeartbeats 1000000 in
theorem order_calls (a b : Sp) (w : World) : Calls Try.prog 51 #[a.val, b.val] w fun e w' => e = .returned (.int .i64 (ordI a b)) ∧ Only (fun _ => False) w w' := by
  unfold Sp.val
  go_enter Try.func51, Try.ntmps51
  go_wp2_with fail
  refine wp_region_still_tail 15 (by kernel_rfl) (by kernel_rfl) ?_
  simp only [List.take_succ_cons, List.take_zero, List.drop_succ_cons, List.drop_zero]
  change wpStill _ _ (World.drew _) _ _ _
  repeat (first | still_step | still_call (compare_calls _ _ _))
  refine wpStill_nil ?_
  change wpList _ _ _ _ _ (World.drew _)
  go_wp2_with fail
  refine (or_calls _ (cmpI a.f b.f) (cmpI a.t b.t) (cmpI a.k b.k) _ ?_ ?_ ?_).mono ?_
  · go_simp
  · go_simp
  · go_simp
  rintro e w1 ⟨rfl, rfl⟩
  go_wp2_with fail
  go_ret
  exact ⟨rfl, (((Only.refl (fun _ => False) w).alloc _).alloc _).alloc _ |>.drew⟩

theorem ordI_lt {a b : Sp} (h : Sp.lt a b) : ordI a b = -1 := by
  unfold ordI or3 cmpI
  unfold Sp.lt at h
  rcases h with h | ⟨h1, h | ⟨h2, h⟩⟩
  · simp [h]
  · simp [h1, h]
  · simp [h1, h2, h]
theorem ordI_gt {a b : Sp} (h : Sp.lt b a) : ordI a b = 1 := by
  unfold ordI or3 cmpI
  unfold Sp.lt at h
  rcases h with h | ⟨h1, h | ⟨h2, h⟩⟩
  · have : ¬ a.f < b.f := by omega
    simp [h, this]
  · have : ¬ a.t < b.t := by omega
    simp [h1, h, this]
  · have : ¬ a.k < b.k := by omega
    simp [h1, h2, h, this]
theorem ordI_eq (a : Sp) : ordI a a = 0 := by simp [ordI, or3, cmpI]
end Go.Proofs.Ytmbclcplinmblaa
