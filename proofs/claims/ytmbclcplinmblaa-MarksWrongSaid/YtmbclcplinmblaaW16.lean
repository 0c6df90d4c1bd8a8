/- The walks of Marks' of, put, cut. -/
import Derived.Test.YtmbclcplinmblaaW15
namespace Go.Proofs.Ytmbclcplinmblaa
open Go.RowKit

theorem and_one_i64 (x : Int) : bits .and .i64 x 1 = x % 2 := by
  have h1 : (BitVec.ofInt 64 x).toNat = (x % 18446744073709551616).toNat := by rw [BitVec.toNat_ofInt]; rfl
  have h2 : (BitVec.ofInt 64 (1 : Int)).toNat = 1 := by decide
  show IntKind.i64.wrap ((BitVec.ofInt 64 x &&& BitVec.ofInt 64 1).toNat : Int) = _
  rw [BitVec.toNat_and, h1, h2, Nat.and_one_is_mod, IntKind.wrap_i64]
  omega

set_option maxRecDepth 100000 in
set_option maxHeartbeats 1000000 in
theorem of_calls (s : Sp) (mb tb0 tb1 : Nat) (st : Int) (w : World) (hm : w.heap[mb]? = some (.cells #[.pointer (some ⟨tb0, 0, none⟩), .pointer (some ⟨tb1, 0, none⟩), .int .i64 st] 55 (0, 0))) :
    Calls Try.prog 42 #[.pointer (some ⟨mb, 0, none⟩), s.val] w fun e w' => e = .returned (.pointer (some ⟨if s.k % 2 = 0 then tb0 else tb1, 0, none⟩)) ∧ Only (fun _ => False) w w' := by
  have c0 := cellAt (allocOld hm (o' := spObj s)) 0 rfl
  have c1 := cellAt (allocOld hm (o' := spObj s)) 1 rfl
  clear hm
  unfold Sp.val spObj at *
  by_cases h : s.k % 2 = 0
  · have hb : bits .and .i64 s.k 1 = 0 := by rw [and_one_i64]; exact h
    rw [if_pos h]
    clear h
    go_enter Try.func42, Try.ntmps42
    go_wp2_with fail
    go_quiet (fail)
    go_wp2_with fail
    go_ret
    exact ⟨rfl, ((Only.refl (fun _ => False) w).alloc _).drewN nq⟩
  · have hb : bits .and .i64 s.k 1 = 1 := by rw [and_one_i64]; omega
    rw [if_neg h]
    clear h
    go_enter Try.func42, Try.ntmps42
    go_wp2_with fail
    go_quiet (fail)
    go_wp2_with fail
    go_ret
    exact ⟨rfl, ((Only.refl (fun _ => False) w).alloc _).drewN nq⟩

/-- one of the two trees, with its owner -/
structure Half (w : World) (mb tb : Nat) (p0 p1 : Value) (t : T) : Prop where
  host : Host w tb mb t.root p0 p1
  lies : Lies w t
  nodup : t.ids.Nodup
  ns : mb ∉ t.ids
  nt : tb ∉ t.ids
  snd : Sound t

theorem Half.only {S : Nat → Prop} {w w' : World} {mb tb : Nat} {p0 p1 : Value} {t : T} (h : Half w mb tb p0 p1 t) (o : Only S w w') (h1 : ¬ S tb) (h2 : ¬ S mb) (h3 : ∀ i ∈ t.ids, ¬ S i) : Half w' mb tb p0 p1 t :=
  ⟨h.host.only o h1 h2, Lies.only o h.lies h3, h.nodup, h.ns, h.nt, h.snd⟩

/-- a tree put back into its struct -/
theorem Half.put {w w3 w4 : World} {mb tb : Nat} {p0 p1 : Value} {t t1 : T} {rt : Option Addr} (hlt : tb < w.heap.size ∧ mb < w.heap.size) (nt : tb ∉ t.ids) (ns : mb ∉ t.ids) (h3 : Left w w3 tb mb rt p0 p1 t t1) (snd : Sound t1) (e4 : w4 = w3.setCell ⟨tb, 0, none⟩ (.pointer t1.root)) :
    Half w4 mb tb p0 p1 t1 ∧ Only (fun i => i = mb ∨ i = tb ∨ i ∈ t.ids) w w4 := by
  subst e4
  have n1 : tb ∉ t1.ids := fun h => by
    rcases h3.ids tb h with h | h
    · exact nt h
    · omega
  have n2 : mb ∉ t1.ids := fun h => by
    rcases h3.ids mb h with h | h
    · exact ns h
    · omega
  have hne := h3.host.ne
  obtain ⟨ht, st, hm⟩ := h3.host
  refine ⟨⟨⟨setAt ht 0 _ rfl, st, setOther hm hne.symm⟩, Lies.only ((Only.refl (fun i => i = tb) w3).set tb 0 _ (fun _ => rfl)) h3.lies (fun i hi e => n1 (e ▸ hi)), h3.nodup, n2, n1, snd⟩, ?_⟩
  exact ((h3.only.mono (S := fun i => i = mb ∨ i = tb ∨ i ∈ t.ids) (fun i _ h => h.imp id Or.inr)).set tb 0 _ (fun _ => Or.inr (Or.inl rfl)))

def MPut (w : World) (mb tb : Nat) (p0 p1 : Value) (t : T) (L : List Sp) (ok : Bool) (k : Nat) (e : Ending) (w' : World) : Prop :=
  e = .returned (.bool ok) ∧ ∃ t', Half w' mb tb p0 p1 t' ∧ t'.flat 0 = L ∧ Only (fun i => i = mb ∨ i = tb ∨ i ∈ t.ids) w w' ∧ (∀ i ∈ t'.ids, i ∈ t.ids ∨ w.heap.size ≤ i) ∧ t'.size ≤ k

set_option maxRecDepth 100000 in
set_option maxHeartbeats 1000000 in
theorem mput_calls (s : Sp) (hf : T.inR s.f) (ht : T.inR s.t) (mb tb tb0 tb1 : Nat) (t : T) (w : World) (hh : Half w mb tb (.pointer (some ⟨tb0, 0, none⟩)) (.pointer (some ⟨tb1, 0, none⟩)) t) (htb : (if s.k % 2 = 0 then tb0 else tb1) = tb) (hsz : t.size + 1 < 2305843009213693952) :
    Calls Try.prog 31 #[.pointer (some ⟨mb, 0, none⟩), s.val] w (MPut w mb tb (.pointer (some ⟨tb0, 0, none⟩)) (.pointer (some ⟨tb1, 0, none⟩)) t (insS s (t.flat 0)) (decide (s ∉ t.flat 0)) (t.size + 1)) := by
  have o1 : Only (fun _ => False) w (w.alloc (spObj s)) := (Only.refl (fun _ => False) w).alloc _
  have h1 := hh.only o1 id id (fun _ _ h => h)
  obtain ⟨st, hm⟩ := h1.host.marks
  have HOF : Hid (Calls Try.prog 42 #[.pointer (some ⟨mb, 0, none⟩), s.val] (w.alloc (spObj s)) fun e w' => e = .returned (.pointer (some ⟨tb, 0, none⟩)) ∧ Only (fun _ => False) (w.alloc (spObj s)) w') := by
    rw [← htb]; exact of_calls s mb tb0 tb1 st _ hm
  have HH := Lib.hid hh
  have H1 := Lib.hid h1
  have BX : Hid ((w.alloc (spObj s)).heap[w.heap.size]? = some (spObj s)) := heap_alloc_new _ _
  have x0 := cellAt BX.out 0 rfl
  have x1 := cellAt BX.out 1 rfl
  have x2 := cellAt BX.out 2 rfl
  have HP : Hid (∀ W, Half W mb tb (.pointer (some ⟨tb0, 0, none⟩)) (.pointer (some ⟨tb1, 0, none⟩)) t → Calls Try.prog 43 #[.pointer (some ⟨tb, 0, none⟩), .pointer t.root, s.val] W fun e w' => ∃ t' ok, e = .returned (.tuple #[.pointer t'.root, .bool ok]) ∧ Left W w' tb mb t.root (.pointer (some ⟨tb0, 0, none⟩)) (.pointer (some ⟨tb1, 0, none⟩)) t t' ∧ t'.Gd ∧ t'.flat 0 = insS s (t.flat 0) ∧ (ok = true ↔ s ∉ t.flat 0) ∧ t'.size ≤ t.size + 1) :=
    fun W hW => put_calls s hf ht tb mb t.root _ _ t.size t (Nat.le_refl _) W hW.host hW.lies hW.nodup hW.ns hW.nt hW.snd
  have HSZ := Lib.hid hsz
  clear hh h1 hm o1 htb hsz
  unfold Sp.val spObj at *
  go_enter Try.func31, Try.ntmps31
  go_wp2_with fail
  refine HOF.out.mono ?_
  rintro e w2 ⟨rfl, o2⟩
  have h2 := H1.out.only o2 id id (fun _ _ h => h)
  have b2 := o2.keep BX.out id
  clear x0 x1 x2
  have x0 := cellAt b2 0 rfl
  have x1 := cellAt b2 1 rfl
  have x2 := cellAt b2 2 rfl
  have y0 := cellAt h2.host.tree 0 rfl
  have O2 := Lib.hid o2
  have H2 := Lib.hid h2
  clear o2 h2 b2
  go_wp2_with fail
  go_region_with (go_at_call 43; refine (HP.out _ (H2.out.only (Only.drew (Only.refl (fun _ => False) w2)) id id (fun _ _ h => h))).mono ?_; rintro e w3 ⟨t1, ok, rfl, h3, g3, f3, k3, s3⟩; have z0 := cellAt h3.host.tree 0 rfl; have zz := freeAt h3.host.tree)
  all_goals
    have sz2 : (w.alloc (.cells #[.int .i64 s.f, .int .i64 s.t, .int .i64 s.k] 25)).heap.size ≤ w2.heap.size := O2.out.size
    rw [World.size_alloc] at sz2
    have lt := HH.out.host.lt
    have NF := Half.put (w := w2.drew) (w4 := w3.setCell ⟨tb, 0, none⟩ (.pointer t1.root)) ⟨by have := lt.1; show tb < w2.heap.size; omega, by have := lt.2; show mb < w2.heap.size; omega⟩ HH.out.nt HH.out.ns h3 ⟨g3, by rw [f3]; exact HH.out.snd.rising.insS, by have := HSZ.out; omega⟩ rfl
    have OO : Only (fun i => i = mb ∨ i = tb ∨ i ∈ t.ids) w w2.drew := (((Only.refl (fun i => i = mb ∨ i = tb ∨ i ∈ t.ids) w).alloc _).trans O2.out (fun _ _ h => h) (fun _ _ h => h.elim)).drew
    have HG : Hid (MPut w mb tb (.pointer (some ⟨tb0, 0, none⟩)) (.pointer (some ⟨tb1, 0, none⟩)) t (insS s (t.flat 0)) (decide (s ∉ t.flat 0)) (t.size + 1) (.returned (.bool ok)) (w3.setCell ⟨tb, 0, none⟩ (.pointer t1.root))) :=
      ⟨by rw [show decide (s ∉ t.flat 0) = ok from by rw [Bool.eq_iff_iff, decide_eq_true_eq]; exact k3.symm], t1, NF.1, f3, OO.trans NF.2 (fun _ _ h => h) (fun _ _ h => h), fun i hi => (h3.ids i hi).imp id (fun h => by have h' : w2.heap.size ≤ i := h; omega), s3⟩
    clear h3 g3 f3 k3 s3 z0 zz sz2 lt NF OO x0 x1 x2 y0
    go_wp2_with fail
    go_ret
    exact HG.out

set_option maxRecDepth 100000 in
set_option maxHeartbeats 1000000 in
theorem mcut_calls (s : Sp) (mb tb tb0 tb1 : Nat) (t : T) (w : World) (hh : Half w mb tb (.pointer (some ⟨tb0, 0, none⟩)) (.pointer (some ⟨tb1, 0, none⟩)) t) (htb : (if s.k % 2 = 0 then tb0 else tb1) = tb) :
    Calls Try.prog 33 #[.pointer (some ⟨mb, 0, none⟩), s.val] w (MPut w mb tb (.pointer (some ⟨tb0, 0, none⟩)) (.pointer (some ⟨tb1, 0, none⟩)) t (delS s (t.flat 0)) (decide (s ∈ t.flat 0)) t.size) := by
  have o1 : Only (fun _ => False) w (w.alloc (spObj s)) := (Only.refl (fun _ => False) w).alloc _
  have h1 := hh.only o1 id id (fun _ _ h => h)
  obtain ⟨st, hm⟩ := h1.host.marks
  have HOF : Hid (Calls Try.prog 42 #[.pointer (some ⟨mb, 0, none⟩), s.val] (w.alloc (spObj s)) fun e w' => e = .returned (.pointer (some ⟨tb, 0, none⟩)) ∧ Only (fun _ => False) (w.alloc (spObj s)) w') := by
    rw [← htb]; exact of_calls s mb tb0 tb1 st _ hm
  have HH := Lib.hid hh
  have H1 := Lib.hid h1
  have BX : Hid ((w.alloc (spObj s)).heap[w.heap.size]? = some (spObj s)) := heap_alloc_new _ _
  have x0 := cellAt BX.out 0 rfl
  have x1 := cellAt BX.out 1 rfl
  have x2 := cellAt BX.out 2 rfl
  have HP : Hid (∀ W, Half W mb tb (.pointer (some ⟨tb0, 0, none⟩)) (.pointer (some ⟨tb1, 0, none⟩)) t → Calls Try.prog 44 #[.pointer (some ⟨tb, 0, none⟩), .pointer t.root, s.val] W fun e w' => ∃ t' ok, e = .returned (.tuple #[.pointer t'.root, .bool ok]) ∧ Left W w' tb mb t.root (.pointer (some ⟨tb0, 0, none⟩)) (.pointer (some ⟨tb1, 0, none⟩)) t t' ∧ t'.Gd ∧ t'.flat 0 = delS s (t.flat 0) ∧ (ok = true ↔ s ∈ t.flat 0) ∧ t'.size ≤ t.size) :=
    fun W hW => cut_calls s tb mb t.root _ _ t.size t (Nat.le_refl _) W hW.host hW.lies hW.nodup hW.ns hW.nt hW.snd
  clear hh h1 hm o1 htb
  unfold Sp.val spObj at *
  go_enter Try.func33, Try.ntmps33
  go_wp2_with fail
  refine HOF.out.mono ?_
  rintro e w2 ⟨rfl, o2⟩
  have h2 := H1.out.only o2 id id (fun _ _ h => h)
  have b2 := o2.keep BX.out id
  clear x0 x1 x2
  have x0 := cellAt b2 0 rfl
  have x1 := cellAt b2 1 rfl
  have x2 := cellAt b2 2 rfl
  have y0 := cellAt h2.host.tree 0 rfl
  have O2 := Lib.hid o2
  have H2 := Lib.hid h2
  clear o2 h2 b2
  go_wp2_with fail
  go_region_with (go_at_call 44; refine (HP.out _ (H2.out.only (Only.drew (Only.refl (fun _ => False) w2)) id id (fun _ _ h => h))).mono ?_; rintro e w3 ⟨t1, ok, rfl, h3, g3, f3, k3, s3⟩; have z0 := cellAt h3.host.tree 0 rfl; have zz := freeAt h3.host.tree)
  all_goals
    have sz2 : (w.alloc (.cells #[.int .i64 s.f, .int .i64 s.t, .int .i64 s.k] 25)).heap.size ≤ w2.heap.size := O2.out.size
    rw [World.size_alloc] at sz2
    have lt := HH.out.host.lt
    have NF := Half.put (w := w2.drew) (w4 := w3.setCell ⟨tb, 0, none⟩ (.pointer t1.root)) ⟨by have := lt.1; show tb < w2.heap.size; omega, by have := lt.2; show mb < w2.heap.size; omega⟩ HH.out.nt HH.out.ns h3 ⟨g3, by rw [f3]; exact HH.out.snd.rising.delS, by have := HH.out.snd.small; omega⟩ rfl
    have OO : Only (fun i => i = mb ∨ i = tb ∨ i ∈ t.ids) w w2.drew := (((Only.refl (fun i => i = mb ∨ i = tb ∨ i ∈ t.ids) w).alloc _).trans O2.out (fun _ _ h => h) (fun _ _ h => h.elim)).drew
    have HG : Hid (MPut w mb tb (.pointer (some ⟨tb0, 0, none⟩)) (.pointer (some ⟨tb1, 0, none⟩)) t (delS s (t.flat 0)) (decide (s ∈ t.flat 0)) t.size (.returned (.bool ok)) (w3.setCell ⟨tb, 0, none⟩ (.pointer t1.root))) :=
      ⟨by rw [show decide (s ∈ t.flat 0) = ok from by rw [Bool.eq_iff_iff, decide_eq_true_eq]; exact k3.symm], t1, NF.1, f3, OO.trans NF.2 (fun _ _ h => h) (fun _ _ h => h), fun i hi => (h3.ids i hi).imp id (fun h => by have h' : w2.heap.size ≤ i := h; omega), s3⟩
    clear h3 g3 f3 k3 s3 z0 zz sz2 lt NF OO x0 x1 x2 y0
    go_wp2_with fail
    go_ret
    exact HG.out
end Go.Proofs.Ytmbclcplinmblaa
