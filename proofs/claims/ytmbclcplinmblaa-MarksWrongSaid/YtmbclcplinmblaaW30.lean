/- What Edit's steps leave, each as a contract over the state between the steps. -/
import Derived.Test.YtmbclcplinmblaaEditS
namespace Go.Proofs.Ytmbclcplinmblaa
open Go.RowKit

theorem SR.isRow {mb : Nat} {tb : Bool → Nat} {I0 : Nat → Prop} {w0 W : World} {F : Bool → List Sp} {v : Value} {l : List Sp} (h : SR mb tb I0 w0 F v l W) : ∃ ad cap, v = .slice ad l.length cap ∧ (0 < l.length → ∃ g, ad = some ⟨g, 0, none⟩) := by
  rcases h.row with ⟨rfl, rfl⟩ | ⟨g, cap, cur, rfl, _, _⟩
  · exact ⟨none, 0, rfl, fun h => absurd h (by simp)⟩
  · exact ⟨_, cap, rfl, fun _ => ⟨g, rfl⟩⟩
theorem SR.cells {mb : Nat} {tb : Bool → Nat} {I0 : Nat → Prop} {w0 W : World} {F : Bool → List Sp} {l : List Sp} {g n cap : Nat} (h : SR mb tb I0 w0 F (.slice (some ⟨g, 0, none⟩) n cap) l W) {k : Nat} {s : Sp} (hs : l[k]? = some s) :
    W.cell? ⟨g, k * 3, none⟩ = some (.int .i64 s.f) ∧ W.cell? ⟨g, k * 3 + 1, none⟩ = some (.int .i64 s.t) ∧ W.cell? ⟨g, k * 3 + 2, none⟩ = some (.int .i64 s.k) := by
  rcases h.row with ⟨e, _⟩ | ⟨g', cap', cur, e, hh, htk⟩
  · cases e
  · cases e; exact rowAt hh htk hs

section
variable {mb : Nat} {tb : Bool → Nat} {I0 : Nat → Prop} {w0 : World} {a d i : Int} {F : Bool → List Sp} (E : EdOk a d i F) (hl : ∀ c, (F c).length ≤ 1099511627776)
include E hl

theorem ed_h1 (W : World) (v : Value) (l : List Sp) (h : SR mb tb I0 w0 F v l W) : ∃ rt, W.cell? ⟨tb true, 0, none⟩ = some (.pointer rt) ∧ Calls Try.prog 46 #[P (tb true), .pointer rt, .int .i64 (a + d), .int .i64 a] W fun e w' => ∃ v', e = .returned v' ∧ SR mb tb I0 w0 F v' ((F true).filter (hit1 a d)) w' :=
  h.over true (a + d) a E.c.a.1 (hl true)

theorem ed_h2 (W : World) (v : Value) (h : SR mb tb I0 w0 F v ((F true).filter (hit1 a d)) W) : Calls Try.prog 45 #[P mb, v] W fun e w' => e = .returned (.tuple #[]) ∧ SR mb tb I0 w0 (ed1 a d F) v ((F true).filter (hit1 a d)) w' :=
  have := E.c.a
  h.less (by have := List.length_filter_le (hit1 a d) (F true); have := hl true; omega)

theorem ed_h3 (W : World) (v : Value) (l : List Sp) (h : SR mb tb I0 w0 (ed1 a d F) v l W) : ∃ rt, W.cell? ⟨tb true, 0, none⟩ = some (.pointer rt) ∧ Calls Try.prog 47 #[P (tb true), .pointer rt, .int .i64 (a + d + 1), .int .i64 (i - d)] W fun e w' => e = .returned (.tuple #[]) ∧ SR mb tb I0 w0 (ed2 a d i F) v l w' :=
  have := hl true
  h.tail true (a + d + 1) (i - d) (by have := E.c.d; have := E.c.i; omega) E.tail1_ok.1 E.tail1_ok.2

theorem ed_h4 (W : World) (v : Value) (l : List Sp) (h : SR mb tb I0 w0 (ed2 a d i F) v l W) : ∃ rt, W.cell? ⟨tb false, 0, none⟩ = some (.pointer rt) ∧ Calls Try.prog 46 #[P (tb false), .pointer rt, .int .i64 (max a (a + d - 1)), .int .i64 (a + 1)] W fun e w' => ∃ v', e = .returned v' ∧ SR mb tb I0 w0 (ed2 a d i F) v' (row0 a d i F) w' :=
  h.over false _ _ (by have := E.c.a; omega) (by rw [E.ed2_false]; exact hl false)

theorem row0_len : (row0 a d i F).length ≤ 1099511627776 := by
  rw [E.row0_eq]; have := List.length_filter_le (hit0 a d) (F false); have := hl false; omega

theorem ed_h5 (W : World) (v : Value) (h : SR mb tb I0 w0 (ed2 a d i F) v (row0 a d i F) W) : Calls Try.prog 45 #[P mb, v] W fun e w' => e = .returned (.tuple #[]) ∧ SR mb tb I0 w0 (ed3 a d i F) v (row0 a d i F) w' :=
  h.less (by have := row0_len E hl; omega)

theorem ed_h6 (W : World) (v : Value) (l : List Sp) (h : SR mb tb I0 w0 (ed3 a d i F) v l W) : ∃ rt, W.cell? ⟨tb false, 0, none⟩ = some (.pointer rt) ∧ Calls Try.prog 47 #[P (tb false), .pointer rt, .int .i64 (max (a + 1) (a + d)), .int .i64 (i - d)] W fun e w' => e = .returned (.tuple #[]) ∧ SR mb tb I0 w0 (ed4 a d i F) v l w' :=
  have := hl true
  h.tail false _ (i - d) (by have := E.c.d; have := E.c.i; omega) E.tail0_ok.1 E.tail0_ok.2

/-- the state of the loop over the clipped spans -/
def edK (a d i : Int) (F : Bool → List Sp) (k : Nat) : Bool → List Sp := ((row0 a d i F).take k).foldl (putC a d i) (ed4 a d i F)

theorem edK_succ {k : Nat} {s : Sp} (hs : (row0 a d i F)[k]? = some s) : edK a d i F (k + 1) = putC a d i (edK a d i F k) s := by
  have := hl true
  have := E.c.a
  unfold edK
  rw [List.take_add_one, hs, Option.toList_some, List.foldl_append]
  rfl
theorem edK_len {k : Nat} (hk : k < (row0 a d i F).length) : (edK a d i F k false).length + 1 < 2305843009213693952 := by
  have h1 := EdOk.fold_len (a := a) (d := d) (i := i) ((row0 a d i F).take k) (ed4 a d i F) (fun s hs => E.row0_par s (List.mem_of_mem_take hs))
  have h2 := E.len4
  have h3 := hl false
  unfold edK
  rw [List.length_take] at h1
  omega

/-- a span that is not left: nothing is put -/
theorem ed_h7n {k : Nat} {s : Sp} (hs : (row0 a d i F)[k]? = some s) (hn : clipS a d i s = none) : edK a d i F (k + 1) = edK a d i F k := by
  rw [edK_succ E hl hs]; unfold putC; rw [hn]
theorem ed_h7s {k : Nat} {s r : Sp} (hs : (row0 a d i F)[k]? = some s) (hn : clipS a d i s = some r) (v : Value) (l : List Sp) (W : World) (h : SR mb tb I0 w0 (edK a d i F k) v l W) :
    Calls Try.prog 31 #[P mb, r.val] W fun e w' => (∃ b, e = .returned (.bool b)) ∧ SR mb tb I0 w0 (edK a d i F (k + 1)) v l w' := by
  have hk : k < (row0 a d i F).length := by
    rcases Nat.lt_or_ge k (row0 a d i F).length with h | h
    · exact h
    · rw [List.getElem?_eq_none h] at hs; cases hs
  have hp : par r = false := (EdOk.clip_par hn).trans (E.row0_par s (List.mem_of_getElem? hs))
  have hin := EdOk.clip_in hn
  refine (h.put r (by unfold T.inR; omega) (by unfold T.inR; omega) (by rw [hp]; exact edK_len E hl hk)).mono fun e w' hq => ⟨⟨_, hq.1⟩, ?_⟩
  have e : putC a d i (edK a d i F k) s = Two.upd (edK a d i F k) (par r) (insS r (edK a d i F k (par r))) := by unfold putC; rw [hn]
  rw [edK_succ E hl hs, e]
  exact hq.2
theorem edK_all : edK a d i F (row0 a d i F).length = ed5 a d i F := by
  have := hl true
  have := E.c.a
  unfold edK ed5; rw [List.take_length]

theorem ed_h8 (W : World) (v : Value) (l : List Sp) (h : SR mb tb I0 w0 (ed5 a d i F) v l W) : ∃ rt, W.cell? ⟨tb false, 0, none⟩ = some (.pointer rt) ∧ Calls Try.prog 46 #[P (tb false), .pointer rt, .int .i64 9223372036854775807, .int .i64 1099511627777] W fun e w' => ∃ v', e = .returned v' ∧ SR mb tb I0 w0 (ed5 a d i F) v' ((ed5 a d i F false).filter big) w' :=
  h.over false _ _ (by omega) (Nat.le_trans (E.len5 false) (hl false))
theorem ed_h9 (W : World) (v : Value) (h : SR mb tb I0 w0 (ed5 a d i F) v ((ed5 a d i F false).filter big) W) : Calls Try.prog 45 #[P mb, v] W fun e w' => e = .returned (.tuple #[]) ∧ SR mb tb I0 w0 (ed6 a d i F) v ((ed5 a d i F false).filter big) w' :=
  h.less (by have h1 := List.length_filter_le big (ed5 a d i F false); have h2 := E.len5 false; have h3 := hl false; omega)
theorem ed6_len : (ed6 a d i F true).length ≤ 1099511627776 := by
  have h2 := E.len5 true
  have h3 := hl true
  unfold ed6 without
  exact Nat.le_trans (List.length_filter_le _ _) (Nat.le_trans h2 h3)
theorem ed_h10 (W : World) (v : Value) (l : List Sp) (h : SR mb tb I0 w0 (ed6 a d i F) v l W) : ∃ rt, W.cell? ⟨tb true, 0, none⟩ = some (.pointer rt) ∧ Calls Try.prog 46 #[P (tb true), .pointer rt, .int .i64 9223372036854775807, .int .i64 1099511627777] W fun e w' => ∃ v', e = .returned v' ∧ SR mb tb I0 w0 (ed6 a d i F) v' ((ed6 a d i F true).filter big) w' :=
  h.over true _ _ (by omega) (ed6_len E hl)
theorem ed_h11 (W : World) (v : Value) (h : SR mb tb I0 w0 (ed6 a d i F) v ((ed6 a d i F true).filter big) W) : Calls Try.prog 45 #[P mb, v] W fun e w' => e = .returned (.tuple #[]) ∧ SR mb tb I0 w0 (ed7 a d i F) v ((ed6 a d i F true).filter big) w' :=
  h.less (by have h1 := List.length_filter_le big (ed6 a d i F true); have h2 := ed6_len E hl; omega)
end
end Go.Proofs.Ytmbclcplinmblaa
