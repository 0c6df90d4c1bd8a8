/- The walk of Marks' Put at a span that may not be. -/
import Derived.Test.YtmbclcplinmblaaW17
namespace Go.Proofs.Ytmbclcplinmblaa
open Go.RowKit

set_option maxRecDepth 100000 in
set_option maxHeartbeats 2000000 in
theorem Put_no (s : Sp) (hv : ¬ okSp s) (mb : Nat) (w : World) :
    Calls Try.prog 11 #[.pointer (some ⟨mb, 0, none⟩), s.val] w fun e w' => e = .returned (.bool false) ∧ Only (fun _ => False) w w' := by
  have HF := Lib.hid (boxes w mb s).only
  unfold Sp.val spObj at *
  by_cases q1 : s.f < 0
  · clear hv
    go_enter Try.func11, Try.ntmps11
    go_wp2_with fail
    refine bodyPost_ret (v := .bool false) (by simp [results, Try.results11, go_sem]) rfl ?_
    exact ⟨rfl, HF.out⟩
  by_cases q2 : s.t ≤ s.f
  · clear hv
    go_enter Try.func11, Try.ntmps11
    go_wp2_with fail
    refine bodyPost_ret (v := .bool false) (by simp [results, Try.results11, go_sem]) rfl ?_
    exact ⟨rfl, HF.out⟩
  by_cases q3 : 1099511627776 < s.t
  · clear hv
    go_enter Try.func11, Try.ntmps11
    go_wp2_with fail
    refine bodyPost_ret (v := .bool false) (by simp [results, Try.results11, go_sem]) rfl ?_
    exact ⟨rfl, HF.out⟩
  by_cases q4 : s.k < 0
  · clear hv
    go_enter Try.func11, Try.ntmps11
    go_wp2_with fail
    refine bodyPost_ret (v := .bool false) (by simp [results, Try.results11, go_sem]) rfl ?_
    exact ⟨rfl, HF.out⟩
  by_cases q5 : 1000 < s.k
  · clear hv
    go_enter Try.func11, Try.ntmps11
    go_wp2_with fail
    refine bodyPost_ret (v := .bool false) (by simp [results, Try.results11, go_sem]) rfl ?_
    exact ⟨rfl, HF.out⟩
  exact absurd ⟨by omega, by omega, by omega, by omega, by omega⟩ hv
end Go.Proofs.Ytmbclcplinmblaa
