/- The walk of Edit. -/
import Derived.Test.YtmbclcplinmblaaW30
namespace Go.Proofs.Ytmbclcplinmblaa
open Go.RowKit

set_option maxRecDepth 100000 in
set_option maxHeartbeats 2000000 in
theorem Edit_walk (x y z a d i : Int) (ea : max 0 (min x 1099511627776) = a) (ed : max 0 (min y 1099511627776) = d) (ei : max 0 (min z 1099511627776) = i) (mb : Nat) (tb : Bool → Nat) (I0 : Nat → Prop) (F : Bool → List Sp) (w : World) (E : EdOk a d i F) (hl : ∀ c, (F c).length ≤ 1099511627776) (h : SR mb tb I0 w F (.slice none 0 0) [] w) :
    Calls Try.prog 35 #[P mb, .int .i64 x, .int .i64 y, .int .i64 z] w fun e w' => ∃ v l, e = .returned (.tuple #[]) ∧ SR mb tb I0 w (ed7 a d i F) v l w' := by
  have HC : Hid (∀ s W, Calls Try.prog 39 #[s.val, .int .i64 a, .int .i64 d, .int .i64 i] W fun e w' => e = .returned (.tuple #[((clipS a d i s).getD ⟨0, 0, 0⟩).val, .bool (clipS a d i s).isSome]) ∧ Only (fun _ => False) W w') := fun s W => Clip_calls a d i s W
  have H1 := Lib.hid (ed_h1 (mb := mb) (tb := tb) (I0 := I0) (w0 := w) E hl)
  have H2 := Lib.hid (ed_h2 (mb := mb) (tb := tb) (I0 := I0) (w0 := w) E hl)
  have H3 := Lib.hid (ed_h3 (mb := mb) (tb := tb) (I0 := I0) (w0 := w) E hl)
  have H4 := Lib.hid (ed_h4 (mb := mb) (tb := tb) (I0 := I0) (w0 := w) E hl)
  have H5 := Lib.hid (ed_h5 (mb := mb) (tb := tb) (I0 := I0) (w0 := w) E hl)
  have H6 := ed_h6 (mb := mb) (tb := tb) (I0 := I0) (w0 := w) E hl
  rw [show max (a + 1) (a + d) = a + max 1 d by omega] at H6
  have H6 := Lib.hid H6
  have H7n := Lib.hid (fun k s => ed_h7n (a := a) (d := d) (i := i) (k := k) (s := s) E hl)
  have H7s := Lib.hid (fun k s r => ed_h7s (mb := mb) (tb := tb) (I0 := I0) (w0 := w) (k := k) (s := s) (r := r) E hl)
  have HA := Lib.hid (edK_all E hl)
  have H8 := Lib.hid (ed_h8 (mb := mb) (tb := tb) (I0 := I0) (w0 := w) E hl)
  have H9 := Lib.hid (ed_h9 (mb := mb) (tb := tb) (I0 := I0) (w0 := w) E hl)
  have H10 := Lib.hid (ed_h10 (mb := mb) (tb := tb) (I0 := I0) (w0 := w) E hl)
  have H11 := Lib.hid (ed_h11 (mb := mb) (tb := tb) (I0 := I0) (w0 := w) E hl)
  have HR := Lib.hid (row0_len E hl)
  obtain ⟨st, hm⟩ := h.marks
  have a0 := cellAt hm 0 rfl
  have a1 := cellAt hm 1 rfl
  have a2 := cellAt hm 2 rfl
  have az := freeAt hm
  have h' := Lib.hid (h.steps 0)
  obtain ⟨ha, hd, hi⟩ := E.c
  have w1 : wrap64 (a + d) = a + d := wrap64_of _ (by omega)
  have w2 : wrap64 (a + d + 1) = a + d + 1 := wrap64_of _ (by omega)
  have w3 : wrap64 (i - d) = i - d := wrap64_of _ (by omega)
  have w4 : wrap64 (a + d - 1) = a + d - 1 := wrap64_of _ (by omega)
  have w5 : wrap64 (a + 1) = a + 1 := wrap64_of _ (by omega)
  clear E hl h hm ha hd hi
  obtain ⟨st1, hm1⟩ := h'.out.marks
  have b1 := cellAt hm1 1 rfl
  obtain ⟨rt1, r1, C1⟩ := H1.out _ _ _ h'.out
  have C1 := Lib.hid C1
  clear hm1 h'
  go_enter Try.func35, Try.ntmps35
  go_wp2_with fail
  clear a0 a1 a2 az ea ed ei b1 r1
  refine C1.out.mono ?_
  rintro e W1 ⟨v1, rfl, S1⟩
  have C2 := Lib.hid (H2.out _ _ S1)
  clear C1 S1 H1 H2
  go_wp2_with fail
  refine C2.out.mono ?_
  rintro e W2 ⟨rfl, S2⟩
  obtain ⟨rt2, r2, C3⟩ := H3.out _ _ _ S2
  have C3 := Lib.hid C3
  clear C2 S2 H3
  go_wp2_with fail
  clear r2
  refine C3.out.mono ?_
  rintro e W3 ⟨rfl, S3⟩
  obtain ⟨st3, hm3⟩ := S3.marks
  have b3 := cellAt hm3 0 rfl
  obtain ⟨rt3, r3, C4⟩ := H4.out _ _ _ S3
  have C4 := Lib.hid C4
  clear C3 S3 hm3 H4
  go_wp2_with fail
  clear b3 r3
  refine C4.out.mono ?_
  rintro e W4 ⟨v4, rfl, S4⟩
  have C5 := Lib.hid (H5.out _ _ S4)
  clear C4 S4 H5
  go_wp2_with fail
  refine C5.out.mono ?_
  rintro e W5 ⟨rfl, S5⟩
  obtain ⟨rt5, r5, C6⟩ := H6.out _ _ _ S5
  have C6 := Lib.hid C6
  clear C5 S5 H6
  go_wp2_with fail
  clear r5
  refine C6.out.mono ?_
  rintro e W6 ⟨rfl, S6⟩
  obtain ⟨ad, cap, rfl, had⟩ := S6.isRow
  have S6 := Lib.hid S6
  have HAD := Lib.hid had
  clear C6 had w1 w2 w3 w4 w5
  go_wp2_with fail
  go_loopw [97] (fun j wr => ∃ k : Nat, k ≤ (row0 a d i F).length ∧ j = .int .i64 k ∧ Hid (SR mb tb I0 w (edK a d i F k) (.slice ad (row0 a d i F).length cap) (row0 a d i F) wr)) (fun j _ => (row0 a d i F).length - (intOf j).toNat)
  case atStart => exact ⟨0, Nat.zero_le _, rfl, S6⟩
  case round =>
    obtain ⟨k, hk, rfl, SK⟩ := hrel
    clear S6
    by_cases hlt : k < (row0 a d i F).length
    · obtain ⟨g, rfl⟩ := HAD.out (by omega)
      have hs : (row0 a d i F)[k]? = some (row0 a d i F)[k] := by simp [hlt]
      generalize (row0 a d i F)[k] = s at hs
      obtain ⟨x0, x1, x2⟩ := SK.out.cells hs
      have HX := Lib.hid hs
      clear hs HAD HA H8 H9 H10 H11
      generalize hn : (row0 a d i F).length = len at hlt hk SK HR ⊢
      clear hn
      have hlen := HR.out
      cases hcl : clipS a d i s with
      | none =>
        have HK : Hid (∀ W W', SR mb tb I0 w (edK a d i F k) (.slice (some ⟨g, 0, none⟩) len cap) (row0 a d i F) W → Only (fun _ => False) W W' → SR mb tb I0 w (edK a d i F (k + 1)) (.slice (some ⟨g, 0, none⟩) len cap) (row0 a d i F) W') := fun W W' h o => by
          rw [H7n.out k s HX.out hcl]; exact h.only o
        have HCC : Hid (∀ W, Calls Try.prog 39 #[.agg #[.int .i64 s.f, .int .i64 s.t, .int .i64 s.k], .int .i64 a, .int .i64 d, .int .i64 i] W fun e w' => e = .returned (.tuple #[.agg #[.int .i64 0, .int .i64 0, .int .i64 0], .bool false]) ∧ Only (fun _ => False) W w') := fun W => by
          have := HC.out s W; rw [hcl] at this; exact this
        clear HC H7n H7s HX hcl
        have o1 := (Only.refl (fun _ => False) wr).alloc (.cells #[.int .i64 s.f, .int .i64 s.t, .int .i64 s.k] 25)
        go_wp2_with fail
        refine (HCC.out _).mono ?_
        rintro e W7 ⟨rfl, o2⟩
        have SN := Lib.hid (HK.out _ _ SK.out ((o1.trans o2 (fun _ _ h => h) (fun _ _ h => h)).alloc (.cells #[.int .i64 0, .int .i64 0, .int .i64 0] 25)))
        clear HCC HK SK o1 o2 x0 x1 x2
        go_wp2_with fail
        go_roundw
        case rel => exact ⟨k + 1, by omega, by simp, SN⟩
        case measure => simp [intOf]; omega
      | some r =>
        have HK : Hid (∀ W W', SR mb tb I0 w (edK a d i F k) (.slice (some ⟨g, 0, none⟩) len cap) (row0 a d i F) W → Only (fun _ => False) W W' → Calls Try.prog 31 #[P mb, .agg #[.int .i64 r.f, .int .i64 r.t, .int .i64 r.k]] W' fun e w' => (∃ b, e = .returned (.bool b)) ∧ SR mb tb I0 w (edK a d i F (k + 1)) (.slice (some ⟨g, 0, none⟩) len cap) (row0 a d i F) w') := fun W W' h o =>
          H7s.out k s r HX.out hcl _ _ W' (h.only o)
        have HCC : Hid (∀ W, Calls Try.prog 39 #[.agg #[.int .i64 s.f, .int .i64 s.t, .int .i64 s.k], .int .i64 a, .int .i64 d, .int .i64 i] W fun e w' => e = .returned (.tuple #[.agg #[.int .i64 r.f, .int .i64 r.t, .int .i64 r.k], .bool true]) ∧ Only (fun _ => False) W w') := fun W => by
          have := HC.out s W; rw [hcl] at this; exact this
        clear HC H7n H7s HX hcl
        have o1 := (Only.refl (fun _ => False) wr).alloc (.cells #[.int .i64 s.f, .int .i64 s.t, .int .i64 s.k] 25)
        go_wp2_with fail
        refine (HCC.out _).mono ?_
        rintro e W7 ⟨rfl, o2⟩
        have CP := Lib.hid (HK.out _ _ SK.out ((o1.trans o2 (fun _ _ h => h) (fun _ _ h => h)).alloc (.cells #[.int .i64 r.f, .int .i64 r.t, .int .i64 r.k] 25)))
        clear HCC HK SK o1 o2 x0 x1 x2
        go_wp2_with fail
        refine CP.out.mono ?_
        rintro e W8 ⟨⟨b, rfl⟩, SN⟩
        have SN := Lib.hid SN
        clear CP
        go_wp2_with fail
        go_roundw
        case rel => exact ⟨k + 1, by omega, by simp, SN⟩
        case measure => simp [intOf]; omega
    · have hk2 : k = (row0 a d i F).length := by omega
      have S7 := SK.out
      rw [hk2, HA.out] at S7
      obtain ⟨st7, hm7⟩ := S7.marks
      have b7 := cellAt hm7 0 rfl
      have b8 := cellAt hm7 1 rfl
      obtain ⟨rt7, r7, C8⟩ := H8.out _ _ _ S7
      have C8 := Lib.hid C8
      clear S7 hm7 SK hk2 HA HAD HC H7n H7s H8
      have i0 : ∀ W, (Instr.index 53 (.agg #[P (tb false), P (tb true)]) (.int .i64 0)).run Try.prog W = .ok (P (tb false)) W := fun _ => by kernel_rfl
      have i1 : ∀ W, (Instr.index 53 (.agg #[P (tb false), P (tb true)]) (.int .i64 1)).run Try.prog W = .ok (P (tb true)) W := fun _ => by kernel_rfl
      go_wp2_with fail
      refine wp_loop_rounds 3 ?_
      rw [rounds_succ]
      go_wp2_with fail
      clear b7 b8 r7
      refine C8.out.mono ?_
      rintro e W8 ⟨v8, rfl, S8⟩
      have C9 := Lib.hid (H9.out _ _ S8)
      clear C8 S8 H9
      go_wp2_with fail
      refine C9.out.mono ?_
      rintro e W9 ⟨rfl, S9⟩
      obtain ⟨rt9, r9, C10⟩ := H10.out _ _ _ S9
      have C10 := Lib.hid C10
      clear C9 S9 H10
      go_wp2_with fail
      rw [rounds_succ]
      go_wp2_with fail
      clear r9
      refine C10.out.mono ?_
      rintro e W10 ⟨v10, rfl, S10⟩
      have C11 := Lib.hid (H11.out _ _ S10)
      clear C10 S10 H11
      go_wp2_with fail
      refine C11.out.mono ?_
      rintro e W11 ⟨rfl, S11⟩
      have S11 := Lib.hid S11
      clear C11
      go_wp2_with fail
      rw [rounds_succ]
      go_wp2_with fail
      go_end0
      exact ⟨_, _, rfl, S11.out⟩

theorem Edit_L (x y z : Int) (mb : Nat) (I : Nat → Prop) (L : List Sp) (w : World) (h : MkL w mb I L) (hlen : L.length ≤ 1099511627776) (hok : ∀ s ∈ L, okSp s) :
    Calls Try.prog 35 #[P mb, .int .i64 x, .int .i64 y, .int .i64 z] w fun e w' => e = .returned (.tuple #[]) ∧ MkL w' mb (Grow I w) (editL x y z L) ∧ Only I w w' := by
  obtain ⟨tb, h1, hr⟩ := SR.start h
  have E : EdOk (cutI x) (cutI y) (cutI z) (halves L) := ⟨⟨cutI_in x, cutI_in y, cutI_in z⟩, fun c s hs => by
      have := hok s (List.mem_filter.1 hs).1
      unfold okSp at this; omega, h1.rising, h1.par⟩
  refine (Edit_walk x y z (cutI x) (cutI y) (cutI z) rfl rfl rfl mb tb I (halves L) w E (fun c => Nat.le_trans (List.length_filter_le _ _) hlen) h1).mono fun e w' hp => ?_
  obtain ⟨v, l, he, hs⟩ := hp
  exact ⟨he, hs.fin (fun c => ed7_editL E c (hs.rising c)) (editL_rising x y z L)⟩
end Go.Proofs.Ytmbclcplinmblaa
