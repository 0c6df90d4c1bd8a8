/- The walks of quiet and within. -/
import Derived.Test.YtmbclcplinmblaaW26
import Derived.Shelf.SlSortCmp.NoneTotal
namespace Go.Proofs.Ytmbclcplinmblaa
open Go.RowKit

theorem Has.marks {w : World} {mb : Nat} {tb : Bool → Nat} {I : Nat → Prop} {F : Bool → List Sp} (h : Has w mb tb I F) : I mb ∧ mb < w.heap.size ∧ ∃ st, w.heap[mb]? = some (.cells #[P (tb false), P (tb true), .int .i64 st] 55 (0, 0)) := by
  obtain ⟨t, h⟩ := h
  exact ⟨h.mbI, (h.half false).host.lt.2, (h.half false).host.marks⟩
theorem Has.steps {w : World} {mb : Nat} {tb : Bool → Nat} {I : Nat → Prop} {F : Bool → List Sp} (h : Has w mb tb I F) (x : Int) : Has (w.setCell ⟨mb, 2, none⟩ (.int .i64 x)) mb tb I F := by
  obtain ⟨_, hlt, st, hm⟩ := h.marks
  obtain ⟨t, h⟩ := h
  have o : Only (fun i => i = mb) w (w.setCell ⟨mb, 2, none⟩ (.int .i64 x)) := (Only.refl _ w).set _ _ _ (fun _ => rfl)
  have hm2 := setAt hm 2 (.int .i64 x) rfl
  exact ⟨t, fun c => ⟨⟨o.keep (h.half c).host.tree (fun e => (h.half c).host.ne e), x, hm2⟩, Lies.only o (h.half c).lies (fun i hi e => (h.half c).ns (e ▸ hi)), (h.half c).nodup, (h.half c).ns, (h.half c).nt, (h.half c).snd⟩, h.flat, h.par, h.ne, h.d, h.n, h.mbI, h.tbI, h.idI⟩

set_option maxHeartbeats 400000 in
theorem quiet_T (mb : Nat) (tb : Bool → Nat) (I : Nat → Prop) (F : Bool → List Sp) (bm bl bf bt : Nat) (R : List Sp) (w : World) (h : Has w mb tb I F) (nl : ¬ I bl)
    (HC : Calls Try.prog 49 #[P bm, P bl, P bf, P bt] w fun e w' => e = .returned (.tuple #[]) ∧ ∃ v, Rnd mb tb I F bl w w' v R) :
    Calls Try.prog 29 #[P mb, .func (.func 49) #[] #[P bm, P bl, P bf, P bt]] w fun e w' => e = .returned (.tuple #[]) ∧ ∃ v, Rnd mb tb I F bl w w' v R := by
  obtain ⟨im, hlt, st, hm⟩ := h.marks
  have x2 := cellAt hm 2 rfl
  have HF : Hid (∀ w1 v, Rnd mb tb I F bl w w1 v R → (∃ st1, w1.heap[mb]? = some (.cells #[P (tb false), P (tb true), .int .i64 st1] 55 (0, 0))) ∧ Rnd mb tb I F bl w (w1.setCell ⟨mb, 2, none⟩ (.int .i64 st)) v R) := fun w1 v hr => by
    refine ⟨hr.has.marks.2.2, hr.has.steps st, hr.only.set _ _ _ (fun _ => Or.inl im), setOther hr.box (fun e => nl (e ▸ im)), ?_⟩
    have o : Only (fun i => i = mb) w1 (w1.setCell ⟨mb, 2, none⟩ (.int .i64 st)) := (Only.refl _ w1).set _ _ _ (fun _ => rfl)
    exact hr.own.only o (fun i hi e => by omega)
  have HC := Lib.hid HC
  clear h nl hm im hlt
  go_enter Try.func29, Try.ntmps29
  go_wp2_with fail
  refine HC.out.mono ?_
  rintro e w1 ⟨rfl, v, hr⟩
  obtain ⟨⟨st1, hm1⟩, HR⟩ := HF.out w1 v hr
  have HR := Lib.hid HR
  have y2 := cellAt hm1 2 rfl
  have yz := freeAt hm1
  clear hr hm1 HC HF x2
  go_wp2_with fail
  go_end0
  exact ⟨rfl, v, HR.out⟩

theorem halves_perm (L : List Sp) (p : Sp → Bool) : ((halves L false).filter p ++ (halves L true).filter p).Perm (L.filter p) := by
  induction L with
  | nil => exact List.Perm.refl _
  | cons x l ih =>
    by_cases hp : p x = true
    · by_cases hx : par x = true
      · have e0 : halves (x :: l) false = halves l false := by unfold halves; rw [List.filter_cons_of_neg (by simp [hx])]
        have e1 : halves (x :: l) true = x :: halves l true := by unfold halves; rw [List.filter_cons_of_pos (by simp [hx])]
        rw [e0, e1, List.filter_cons_of_pos hp, List.filter_cons_of_pos hp]
        exact List.perm_middle.trans (ih.cons x)
      · have hx : par x = false := by simpa using hx
        have e0 : halves (x :: l) false = x :: halves l false := by unfold halves; rw [List.filter_cons_of_pos (by simp [hx])]
        have e1 : halves (x :: l) true = halves l true := by unfold halves; rw [List.filter_cons_of_neg (by simp [hx])]
        rw [e0, e1, List.filter_cons_of_pos hp, List.filter_cons_of_pos hp]
        exact ih.cons x
    · by_cases hx : par x = true
      · have e0 : halves (x :: l) false = halves l false := by unfold halves; rw [List.filter_cons_of_neg (by simp [hx])]
        have e1 : halves (x :: l) true = x :: halves l true := by unfold halves; rw [List.filter_cons_of_pos (by simp [hx])]
        rw [e0, e1, List.filter_cons_of_neg hp, List.filter_cons_of_neg hp]
        exact ih
      · have hx : par x = false := by simpa using hx
        have e0 : halves (x :: l) false = x :: halves l false := by unfold halves; rw [List.filter_cons_of_pos (by simp [hx])]
        have e1 : halves (x :: l) true = halves l true := by unfold halves; rw [List.filter_cons_of_neg (by simp [hx])]
        rw [e0, e1, List.filter_cons_of_neg hp, List.filter_cons_of_neg hp]
        exact ih

/-- the sort of a row that the call made itself -/
theorem sort_own (B : Nat) (v : Value) (l R : List Sp) (w : World) (h : Owns w B v l) (hlen : l.length < 4611686018427387904) (hp : l.Perm R) (hr : Rising R) :
    Calls Try.prog 50 #[v, .func (.func 51) #[] #[]] w fun e w' => e = .returned (.tuple #[]) ∧ Only (fun i => B ≤ i) w w' ∧ Owns w' B v R := by
  rcases h.cases with ⟨rfl, rfl⟩ | ⟨g, cap, cur, rfl, hg, hh, hc, hcs, htk⟩
  · have hR : R = [] := List.nil_perm.1 hp
    subst hR
    have := AnyF.slices_SortFunc_none Try.sortSp none 0 (.func (.func 51) #[] #[]) w
    change Calls Try.prog 50 _ _ _ at this
    refine this.mono ?_
    rintro e w' ⟨rfl, rfl⟩
    exact ⟨rfl, Only.refl _ _, Owns.nil _ _⟩
  · refine (sort_calls g cap cur l R w hh hc hcs htk hlen hp hr).mono ?_
    rintro e w' ⟨rfl, o, cur', h1, h2, h3⟩
    refine ⟨rfl, o.mono (fun i _ e => e ▸ hg), ?_⟩
    have hl := hp.length_eq
    obtain ⟨o1, o2 | ⟨g2, cap2, cur2, ov, og, oh, oc, onn, osz, otk⟩⟩ := h
    · exact absurd o2.1 (by simp)
    · cases ov
      refine ⟨by rw [spCells_length], Or.inr ⟨g, cap, cur', ?_, hg, h1, ?_, ?_, h2, h3⟩⟩
      · rw [hl]
      · rw [← hl]; exact oc
      · exact onn
end Go.Proofs.Ytmbclcplinmblaa
