/- The walks of Marks' Put, Remove. -/
import Derived.Test.YtmbclcplinmblaaW16
namespace Go.Proofs.Ytmbclcplinmblaa
open Go.RowKit

/-- a span that may be put -/
def okSp (s : Sp) : Prop := 0 ≤ s.f ∧ s.f < s.t ∧ s.t ≤ 1099511627776 ∧ 0 ≤ s.k ∧ s.k ≤ 1000

/-- the number of steps set to whatever -/
theorem Half.steps {w : World} {mb tb : Nat} {p0 p1 : Value} {t : T} (h : Half w mb tb p0 p1 t) (st : Int) : Half (w.setCell ⟨mb, 2, none⟩ (.int .i64 st)) mb tb p0 p1 t := by
  have hne := h.host.ne
  obtain ⟨ht, st0, hm⟩ := h.host
  exact ⟨⟨setOther ht hne, st, setAt hm 2 _ rfl⟩, Lies.only ((Only.refl (fun i => i = mb) w).set mb 2 _ (fun _ => rfl)) h.lies (fun i hi e => h.ns (e ▸ hi)), h.nodup, h.ns, h.nt, h.snd⟩

/-- the three boxes that Put and Remove lay -/
structure Boxes (w : World) (mb : Nat) (s : Sp) (w0 : World) : Prop where
  b0 : w0.heap[w.heap.size]? = some (.cells #[.pointer (some ⟨mb, 0, none⟩)] 22 (0, 0))
  b1 : w0.heap[w.heap.size + 1]? = some (spObj s)
  b2 : w0.heap[w.heap.size + 1 + 1]? = some (.cells #[.bool false] 4 (0, 0))
  only : Only (fun _ => False) w w0
  size : w0.heap.size = w.heap.size + 3
theorem boxes (w : World) (mb : Nat) (s : Sp) : Boxes w mb s (((w.alloc (.cells #[.pointer (some ⟨mb, 0, none⟩)] 22)).alloc (spObj s)).alloc (.cells #[.bool false] 4)) := by
  refine ⟨?_, ?_, ?_, (((Only.refl (fun _ => False) w).alloc _).alloc _).alloc _, by simp⟩
  · exact allocOld (allocOld (heap_alloc_new w _))
  · have := heap_alloc_new (w.alloc (.cells #[.pointer (some ⟨mb, 0, none⟩)] 22)) (spObj s)
    rw [World.size_alloc] at this
    exact allocOld this
  · have := heap_alloc_new ((w.alloc (.cells #[.pointer (some ⟨mb, 0, none⟩)] 22)).alloc (spObj s)) (.cells #[.bool false] 4)
    rw [World.size_alloc, World.size_alloc] at this
    exact this

/-- behind the call in the middle: the answer into its box, the number of steps as it was -/
theorem put_end {w w0 w1 : World} {mb tb : Nat} {p0 p1 : Value} {t : T} {L : List Sp} {ok : Bool} {k : Nat} {s : Sp} {e : Ending} (hlt : tb < w.heap.size ∧ mb < w.heap.size) (B : Boxes w mb s w0) (hids : ∀ i ∈ t.ids, i < w.heap.size) (h : MPut w0 mb tb p0 p1 t L ok k e w1) (st : Int) :
    MPut w mb tb p0 p1 t L ok k (.returned (.bool ok)) (((w1.setCell ⟨w.heap.size + 1 + 1, 0, none⟩ (.bool ok)).setCell ⟨mb, 2, none⟩ (.int .i64 st)).setCell ⟨w.heap.size + 1 + 1, 0, none⟩ (.bool ok)) := by
  obtain ⟨_, t', h1, h2, h3, h4, h5⟩ := h
  have sz := B.size
  have o2 : Only (fun i => i = w.heap.size + 1 + 1) w1 (w1.setCell ⟨w.heap.size + 1 + 1, 0, none⟩ (.bool ok)) := (Only.refl (fun i => i = w.heap.size + 1 + 1) w1).set _ 0 _ (fun _ => rfl)
  have nid : ∀ i ∈ t'.ids, ¬ i = w.heap.size + 1 + 1 := fun i hi e => by
    rcases h4 i hi with h | h
    · have := hids i h; omega
    · omega
  have a1 := (h1.only o2 (by omega) (by omega) nid).steps st
  have o3 : Only (fun i => i = w.heap.size + 1 + 1) ((w1.setCell ⟨w.heap.size + 1 + 1, 0, none⟩ (.bool ok)).setCell ⟨mb, 2, none⟩ (.int .i64 st)) (((w1.setCell ⟨w.heap.size + 1 + 1, 0, none⟩ (.bool ok)).setCell ⟨mb, 2, none⟩ (.int .i64 st)).setCell ⟨w.heap.size + 1 + 1, 0, none⟩ (.bool ok)) := (Only.refl (fun i => i = w.heap.size + 1 + 1) _).set _ 0 _ (fun _ => rfl)
  refine ⟨rfl, t', a1.only o3 (by omega) (by omega) nid, h2, ?_, fun i hi => (h4 i hi).imp id (fun h => by omega), h5⟩
  have o4 : Only (fun i => i = mb ∨ i = tb ∨ i ∈ t.ids) w w1 := B.only.trans h3 (fun _ _ h => h.elim) (fun _ _ h => h)
  have o5 : Only (fun i => i = mb ∨ i = tb ∨ i ∈ t.ids) w (w1.setCell ⟨w.heap.size + 1 + 1, 0, none⟩ (.bool ok)) := o4.trans o2 (fun _ _ h => h) (fun i hi e => by omega)
  exact (o5.set mb 2 _ (fun _ => Or.inl rfl)).trans o3 (fun _ _ h => h) (fun i hi e => by omega)

set_option maxRecDepth 100000 in
set_option maxHeartbeats 1000000 in
theorem Put_yes (s : Sp) (hv : okSp s) (mb tb tb0 tb1 : Nat) (t : T) (w : World) (hh : Half w mb tb (.pointer (some ⟨tb0, 0, none⟩)) (.pointer (some ⟨tb1, 0, none⟩)) t) (htb : (if s.k % 2 = 0 then tb0 else tb1) = tb) (hsz : t.size + 1 < 2305843009213693952) :
    Calls Try.prog 11 #[.pointer (some ⟨mb, 0, none⟩), s.val] w (MPut w mb tb (.pointer (some ⟨tb0, 0, none⟩)) (.pointer (some ⟨tb1, 0, none⟩)) t (insS s (t.flat 0)) (decide (s ∉ t.flat 0)) (t.size + 1)) := by
  obtain ⟨v1, v2, v3, v4, v5⟩ := hv
  have q1 : ¬ s.f < 0 := by omega
  have q2 : ¬ s.t ≤ s.f := by omega
  have q3 : ¬ 1099511627776 < s.t := by omega
  have q4 : ¬ s.k < 0 := by omega
  have q5 : ¬ 1000 < s.k := by omega
  have HP : Hid (∀ W, Half W mb tb (.pointer (some ⟨tb0, 0, none⟩)) (.pointer (some ⟨tb1, 0, none⟩)) t → Calls Try.prog 31 #[.pointer (some ⟨mb, 0, none⟩), s.val] W (MPut W mb tb (.pointer (some ⟨tb0, 0, none⟩)) (.pointer (some ⟨tb1, 0, none⟩)) t (insS s (t.flat 0)) (decide (s ∉ t.flat 0)) (t.size + 1))) :=
    fun W hW => mput_calls s (by unfold T.inR; omega) (by unfold T.inR; omega) mb tb tb0 tb1 t W hW htb hsz
  have HH := Lib.hid hh
  have hlt := hh.host.lt
  have hids := Lies.lt hh.lies
  have B := boxes w mb s
  have HE := Lib.hid (fun w0 w1 (B : Boxes w mb s w0) e st (h : MPut w0 mb tb (.pointer (some ⟨tb0, 0, none⟩)) (.pointer (some ⟨tb1, 0, none⟩)) t (insS s (t.flat 0)) (decide (s ∉ t.flat 0)) (t.size + 1) e w1) => put_end hlt B hids h st)
  generalize decide (s ∉ t.flat 0) = ok at HP HE ⊢
  have HLT := Lib.hid hlt
  have HIDS := Lib.hid hids
  clear hh htb hsz v1 v2 v3 v4 v5 hlt hids
  unfold Sp.val spObj at *
  go_enter Try.func11, Try.ntmps11
  go_wp2_with fail
  generalize ((w.alloc (.cells #[.pointer (some ⟨mb, 0, none⟩)] 22)).alloc (.cells #[.int .i64 s.f, .int .i64 s.t, .int .i64 s.k] 25)).alloc (.cells #[.bool false] 4) = w0 at B ⊢
  have h0 := HH.out.only B.only id id (fun _ _ h => h)
  have H0 := Lib.hid h0
  obtain ⟨st, hm⟩ := h0.host.marks
  have m2 := cellAt hm 2 rfl
  have x0 := cellAt B.b0 0 rfl
  have x1 := cellAt B.b1 0 rfl
  have x2 := cellAt B.b1 1 rfl
  have x3 := cellAt B.b1 2 rfl
  have HB := Lib.hid B
  clear h0 hm B
  go_in
  go_wp2_with fail
  go_in
  go_wp2_with fail
  refine (HP.out _ H0.out).mono ?_
  rintro e w1 ⟨rfl, hp⟩
  have HG := Lib.hid (HE.out w0 w1 HB.out _ st ⟨rfl, hp⟩)
  obtain ⟨t', a1, a2, a3, a4, a5⟩ := hp
  have sz := HB.out.size
  have hlt := HLT.out
  have y0 := cellAt (a3.keep HB.out.b2 (by
    rintro (h | h | h)
    · omega
    · omega
    · have := HIDS.out _ h; omega)) 0 rfl
  have yz := freeAt (a3.keep HB.out.b2 (by
    rintro (h | h | h)
    · omega
    · omega
    · have := HIDS.out _ h; omega))
  have b3 := a3.keep HB.out.b2 (by
    rintro (h | h | h)
    · omega
    · omega
    · have := HIDS.out _ h; omega)
  have hne0 : w.heap.size + 1 + 1 ≠ mb := by omega
  have Y5 := Lib.hid (cellAt (setAt (setOther (b := mb) (i := 2) (v := .int .i64 st) (setAt b3 0 (.bool ok) rfl) hne0) 0 (.bool ok) rfl) 0 rfl)
  clear b3 hne0
  obtain ⟨st1, hm1⟩ := a1.host.marks
  have z2 := cellAt hm1 2 rfl
  have zz := freeAt hm1
  have hne : ¬ w.heap.size + 1 + 1 = mb := by omega
  have hne' : ¬ mb = w.heap.size + 1 + 1 := by omega
  clear a1 a2 a3 a4 a5 hm1 x0 x1 x2 x3 m2 hlt sz
  go_wp2_with fail
  go_end0
  go_wp2_with fail
  go_end0
  go_wp2_with fail
  clear y0 yz z2 zz
  have w5 : (((w1.setCell ⟨w.heap.size + 1 + 1, 0, none⟩ (.bool ok)).setCell ⟨mb, 2, none⟩ (.int .i64 st)).setCell ⟨w.heap.size + 1 + 1, 0, none⟩ (.bool ok)).cell? ⟨w.heap.size + 1 + 1, 0, none⟩ = some (.bool ok) := Y5.out
  refine bodyPost_ret (v := .bool ok) (by simp [results, Try.results11, go_sem, w5]) rfl ?_
  exact HG.out

set_option maxRecDepth 100000 in
set_option maxHeartbeats 1000000 in
theorem Remove_calls (s : Sp) (mb tb tb0 tb1 : Nat) (t : T) (w : World) (hh : Half w mb tb (.pointer (some ⟨tb0, 0, none⟩)) (.pointer (some ⟨tb1, 0, none⟩)) t) (htb : (if s.k % 2 = 0 then tb0 else tb1) = tb) :
    Calls Try.prog 13 #[.pointer (some ⟨mb, 0, none⟩), s.val] w (MPut w mb tb (.pointer (some ⟨tb0, 0, none⟩)) (.pointer (some ⟨tb1, 0, none⟩)) t (delS s (t.flat 0)) (decide (s ∈ t.flat 0)) t.size) := by
  have HP : Hid (∀ W, Half W mb tb (.pointer (some ⟨tb0, 0, none⟩)) (.pointer (some ⟨tb1, 0, none⟩)) t → Calls Try.prog 33 #[.pointer (some ⟨mb, 0, none⟩), s.val] W (MPut W mb tb (.pointer (some ⟨tb0, 0, none⟩)) (.pointer (some ⟨tb1, 0, none⟩)) t (delS s (t.flat 0)) (decide (s ∈ t.flat 0)) t.size)) :=
    fun W hW => mcut_calls s mb tb tb0 tb1 t W hW htb
  have HH := Lib.hid hh
  have hlt := hh.host.lt
  have hids := Lies.lt hh.lies
  have B := boxes w mb s
  have HE := Lib.hid (fun w0 w1 (B : Boxes w mb s w0) e st (h : MPut w0 mb tb (.pointer (some ⟨tb0, 0, none⟩)) (.pointer (some ⟨tb1, 0, none⟩)) t (delS s (t.flat 0)) (decide (s ∈ t.flat 0)) t.size e w1) => put_end hlt B hids h st)
  generalize decide (s ∈ t.flat 0) = ok at HP HE ⊢
  have HLT := Lib.hid hlt
  have HIDS := Lib.hid hids
  clear hh htb hlt hids
  unfold Sp.val spObj at *
  go_enter Try.func13, Try.ntmps13
  go_wp2_with fail
  generalize ((w.alloc (.cells #[.pointer (some ⟨mb, 0, none⟩)] 22)).alloc (.cells #[.int .i64 s.f, .int .i64 s.t, .int .i64 s.k] 25)).alloc (.cells #[.bool false] 4) = w0 at B ⊢
  have h0 := HH.out.only B.only id id (fun _ _ h => h)
  have H0 := Lib.hid h0
  obtain ⟨st, hm⟩ := h0.host.marks
  have m2 := cellAt hm 2 rfl
  have x0 := cellAt B.b0 0 rfl
  have x1 := cellAt B.b1 0 rfl
  have x2 := cellAt B.b1 1 rfl
  have x3 := cellAt B.b1 2 rfl
  have HB := Lib.hid B
  clear h0 hm B
  go_in
  go_wp2_with fail
  go_in
  go_wp2_with fail
  refine (HP.out _ H0.out).mono ?_
  rintro e w1 ⟨rfl, hp⟩
  have HG := Lib.hid (HE.out w0 w1 HB.out _ st ⟨rfl, hp⟩)
  obtain ⟨t', a1, a2, a3, a4, a5⟩ := hp
  have sz := HB.out.size
  have hlt := HLT.out
  have y0 := cellAt (a3.keep HB.out.b2 (by
    rintro (h | h | h)
    · omega
    · omega
    · have := HIDS.out _ h; omega)) 0 rfl
  have yz := freeAt (a3.keep HB.out.b2 (by
    rintro (h | h | h)
    · omega
    · omega
    · have := HIDS.out _ h; omega))
  have b3 := a3.keep HB.out.b2 (by
    rintro (h | h | h)
    · omega
    · omega
    · have := HIDS.out _ h; omega)
  have hne0 : w.heap.size + 1 + 1 ≠ mb := by omega
  have Y5 := Lib.hid (cellAt (setAt (setOther (b := mb) (i := 2) (v := .int .i64 st) (setAt b3 0 (.bool ok) rfl) hne0) 0 (.bool ok) rfl) 0 rfl)
  clear b3 hne0
  obtain ⟨st1, hm1⟩ := a1.host.marks
  have z2 := cellAt hm1 2 rfl
  have zz := freeAt hm1
  have hne : ¬ w.heap.size + 1 + 1 = mb := by omega
  have hne' : ¬ mb = w.heap.size + 1 + 1 := by omega
  clear a1 a2 a3 a4 a5 hm1 x0 x1 x2 x3 m2 hlt sz
  go_wp2_with fail
  go_end0
  go_wp2_with fail
  go_end0
  go_wp2_with fail
  clear y0 yz z2 zz
  have w5 : (((w1.setCell ⟨w.heap.size + 1 + 1, 0, none⟩ (.bool ok)).setCell ⟨mb, 2, none⟩ (.int .i64 st)).setCell ⟨w.heap.size + 1 + 1, 0, none⟩ (.bool ok)).cell? ⟨w.heap.size + 1 + 1, 0, none⟩ = some (.bool ok) := Y5.out
  refine bodyPost_ret (v := .bool ok) (by simp [results, Try.results13, go_sem, w5]) rfl ?_
  exact HG.out
end Go.Proofs.Ytmbclcplinmblaa
