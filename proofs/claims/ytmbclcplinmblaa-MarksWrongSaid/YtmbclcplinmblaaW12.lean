/- The walk of marks' cut at the span itself. -/
import Derived.Test.YtmbclcplinmblaaW11
namespace Go.Proofs.Ytmbclcplinmblaa
open Go.RowKit

theorem nodeFin_rightO {w : World} {s : Sp} {tb sb : Nat} {rt : Option Addr} {p0 p1 : Value} {b : Nat} {d d' : Nd} {l r t1 : T} {w2 w3 w4 : World} (hh : Host w tb sb rt p0 p1) (hn : (T.node b d l r).ids.Nodup)
    (ns : sb ∉ (T.node b d l r).ids) (nt : tb ∉ (T.node b d l r).ids) (hl : Lies w (.node b d l r)) (L2 : Look w s tb sb rt p0 p1 b d l r w2) (h3 : Left w2 w3 tb sb rt p0 p1 (r.mv d.w) t1)
    (o4 : Only (fun i => i = b) w3 w4) (b4 : w4.heap[b]? = some (nodeObj d' (l.mv d.w).root t1.root)) : NodeFin w tb sb rt p0 p1 (.node b d l r) b d' (l.mv d.w) t1 w4 := by
  obtain ⟨_, _, n1, n2, n3⟩ := nodup_node hn
  have hlt := Lies.lt hl
  have sz := L2.only.size
  have hb : b ∈ (T.node b d l r).ids := by simp [T.ids]
  have hbs : ¬ b = sb := fun e => ns (e ▸ hb)
  have hbt : ¬ b = tb := fun e => nt (e ▸ hb)
  have lsub : ∀ i ∈ (l.mv d.w).ids, i ∈ (T.node b d l r).ids := fun i hi => by rw [T.ids_mv] at hi; simp [T.ids, hi]
  have rsub : ∀ i ∈ (r.mv d.w).ids, i ∈ (T.node b d l r).ids := fun i hi => by rw [T.ids_mv] at hi; simp [T.ids, hi]
  have r3 : Lies w3 (l.mv d.w) := Lies.only h3.only L2.ll (fun i hi x => by
    rcases x with x | x
    · exact ns (x ▸ lsub i hi)
    · rw [T.ids_mv] at hi x; exact n3 i hi x)
  have bl := hlt b hb
  obtain ⟨N1, N2⟩ := side_nodup_r (d' := d') (r := r.mv d.w) (l := l.mv d.w) (b := b) (d := d) (N := w2.heap.size) (by simpa [T.ids, T.ids_mv] using hn)
    (fun i hi => Nat.lt_of_lt_of_le (hlt i (by simpa [T.ids, T.ids_mv] using hi)) sz) h3.nodup h3.ids
  have ids : ∀ i ∈ (T.node b d' (l.mv d.w) t1).ids, i ∈ (T.node b d l r).ids ∨ w.heap.size ≤ i := fun i hi => by
    rcases N2 i hi with h | h
    · exact Or.inl (by simpa [T.ids, T.ids_mv] using h)
    · exact Or.inr (Nat.le_trans sz h)
  obtain ⟨lt1, lt2⟩ := hh.lt
  refine ⟨⟨b4, Lies.only o4 r3 ?_, Lies.only o4 h3.lies ?_⟩, N1, h3.host.only o4 (fun e => hbt e.symm) (fun e => hbs e.symm), ?_, ids, ?_, ?_⟩
  · rintro i hi rfl
    exact n1 (by rwa [T.ids_mv] at hi)
  · rintro i hi rfl
    rcases h3.ids i hi with h | h
    · exact n2 (by rwa [T.ids_mv] at h)
    · omega
  · refine (L2.only.trans h3.only (fun _ _ h => h) (fun i _ h => ?_)).trans o4 (fun _ _ h => h) (fun i _ h => Or.inr (h ▸ hb))
    rcases h with h | h
    · exact Or.inl h
    · exact Or.inr (rsub i h)
  · intro h
    rcases ids tb h with h | h
    · exact nt h
    · omega
  · intro h
    rcases ids sb h with h | h
    · exact ns h
    · omega


set_option maxRecDepth 100000 in
set_option maxHeartbeats 2000000 in
theorem cut_eq_l (b : Nat) (d : Nd) (r : T) (tb sb : Nat) (rt : Option Addr) (p0 p1 : Value) (w : World) (hh : Host w tb sb rt p0 p1) (hl : Lies w (.node b d .nil r)) (hn : (T.node b d .nil r).ids.Nodup)
    (ns : sb ∉ (T.node b d .nil r).ids) (nt : tb ∉ (T.node b d .nil r).ids) (snd : Sound (.node b d .nil r)) :
    Calls Try.prog 44 #[.pointer (some ⟨tb, 0, none⟩), .pointer (some ⟨b, 0, none⟩), (T.own d).val] w (CutPost (T.own d) (.node b d .nil r) tb sb rt p0 p1 w) := by
  have oa : Only (fun _ => False) w (w.alloc (spObj (T.own d))) := (Only.refl (fun _ => False) w).alloc _
  have HK := Lib.hid (look_calls b d .nil r (w.alloc (spObj (T.own d))) tb sb rt p0 p1 (hh.only oa id id) (hl.alloc _) hn ns nt)
  have HB := Lib.hid (fun w1 => look_box (w := w) (w1 := w1) (s := T.own d) hl hh)
  have HO := Lib.hid (fun W => by have := order_calls (T.own d) (T.own d) W; rw [ordI_eq] at this; exact this)
  have HFIN : Hid (∀ w2, Look w (T.own d) tb sb rt p0 p1 b d .nil r w2 → CutPost (T.own d) (.node b d .nil r) tb sb rt p0 p1 w (.returned (.tuple #[.pointer (T.mv d.w r).root, .bool true])) w2) := fun w2 L2 => by
    obtain ⟨s1, s2, hf, ht, ef, r1, r2⟩ := snd.kids
    obtain ⟨nl, nr, n1, n2, n3⟩ := nodup_node hn
    refine ⟨r.mv d.w, true, rfl, ⟨L2.lr, L2.host, L2.only, by rwa [T.ids_mv], fun i hi => Or.inl (by rw [T.ids_mv] at hi; simp [T.ids, hi])⟩, s2.gd, ?_, ?_, by rw [T.size_mv]; simp only [T.size]; omega⟩
    · rw [ef, delS_eq r1 r2]; rfl
    · rw [ef]; simp
  clear hh hl hn ns nt snd oa
  unfold Sp.val spObj at *
  simp only [T.own] at HK HO
  go_enter Try.func44, Try.ntmps44
  go_wp2_with fail
  refine HK.out.mono ?_
  rintro e w1 ⟨rfl, h1, h2, h3⟩
  have L1 := HB.out _ h1 h2 h3
  clear h1 h2 h3
  have x0 := cellAt L1.box 0 rfl
  have x1 := cellAt L1.box 1 rfl
  have x2 := cellAt L1.box 2 rfl
  have y0 := (nodeAt L1.blk).c0
  have y1 := (nodeAt L1.blk).c1
  have y2 := (nodeAt L1.blk).c2
  go_wp2_with fail
  go_still_tail 5, (by kernel_rfl)
  change wpList _ _ _ _ _ (World.drew _)
  go_wp2_with fail
  refine (HO.out _).mono ?_
  rintro e w2 ⟨rfl, o2⟩
  have L2 := L1.step ((Only.refl (fun _ => False) w1).drew.trans o2 (fun _ _ h => h) (fun _ _ h => h))
  clear o2 x0 x1 x2 y0 y1 y2 L1
  have HG := Lib.hid (HFIN.out _ L2)
  have y3 := (nodeAt L2.blk).c3
  have y4 := (nodeAt L2.blk).c4
  simp only [T.mv, T.root] at y3
  clear L2
  go_wp2_with fail
  go_ret2
  exact HG.out


set_option maxRecDepth 100000 in
set_option maxHeartbeats 2000000 in
theorem cut_eq_r (b : Nat) (d : Nd) (lb : Nat) (ld : Nd) (ll lr : T) (tb sb : Nat) (rt : Option Addr) (p0 p1 : Value) (w : World) (hh : Host w tb sb rt p0 p1) (hl : Lies w (.node b d (.node lb ld ll lr) .nil)) (hn : (T.node b d (.node lb ld ll lr) .nil).ids.Nodup)
    (ns : sb ∉ (T.node b d (.node lb ld ll lr) .nil).ids) (nt : tb ∉ (T.node b d (.node lb ld ll lr) .nil).ids) (snd : Sound (.node b d (.node lb ld ll lr) .nil)) :
    Calls Try.prog 44 #[.pointer (some ⟨tb, 0, none⟩), .pointer (some ⟨b, 0, none⟩), (T.own d).val] w (CutPost (T.own d) (.node b d (.node lb ld ll lr) .nil) tb sb rt p0 p1 w) := by
  have oa : Only (fun _ => False) w (w.alloc (spObj (T.own d))) := (Only.refl (fun _ => False) w).alloc _
  have HK := Lib.hid (look_calls b d (.node lb ld ll lr) .nil (w.alloc (spObj (T.own d))) tb sb rt p0 p1 (hh.only oa id id) (hl.alloc _) hn ns nt)
  have HB := Lib.hid (fun w1 => look_box (w := w) (w1 := w1) (s := T.own d) hl hh)
  have HO := Lib.hid (fun W => by have := order_calls (T.own d) (T.own d) W; rw [ordI_eq] at this; exact this)
  have HFIN : Hid (∀ w2, Look w (T.own d) tb sb rt p0 p1 b d (.node lb ld ll lr) .nil w2 → CutPost (T.own d) (.node b d (.node lb ld ll lr) .nil) tb sb rt p0 p1 w (.returned (.tuple #[.pointer (some ⟨lb, 0, none⟩), .bool true])) w2) := fun w2 L2 => by
    obtain ⟨s1, s2, hf, ht, ef, r1, r2⟩ := snd.kids
    obtain ⟨nl, nr, n1, n2, n3⟩ := nodup_node hn
    refine ⟨T.mv d.w (.node lb ld ll lr), true, rfl, ⟨L2.ll, L2.host, L2.only, by rwa [T.ids_mv], fun i hi => Or.inl (by rw [T.ids_mv] at hi; show i ∈ b :: ((T.node lb ld ll lr).ids ++ []); simp [hi])⟩, s1.gd, ?_, ?_, by rw [T.size_mv]; simp only [T.size]; omega⟩
    · rw [ef, delS_eq r1 r2]; simp [T.mv, T.flat]
    · rw [ef]; simp
  clear hh hl hn ns nt snd oa
  unfold Sp.val spObj at *
  simp only [T.own] at HK HO
  go_enter Try.func44, Try.ntmps44
  go_wp2_with fail
  refine HK.out.mono ?_
  rintro e w1 ⟨rfl, h1, h2, h3⟩
  have L1 := HB.out _ h1 h2 h3
  clear h1 h2 h3
  have x0 := cellAt L1.box 0 rfl
  have x1 := cellAt L1.box 1 rfl
  have x2 := cellAt L1.box 2 rfl
  have y0 := (nodeAt L1.blk).c0
  have y1 := (nodeAt L1.blk).c1
  have y2 := (nodeAt L1.blk).c2
  go_wp2_with fail
  go_still_tail 5, (by kernel_rfl)
  change wpList _ _ _ _ _ (World.drew _)
  go_wp2_with fail
  refine (HO.out _).mono ?_
  rintro e w2 ⟨rfl, o2⟩
  have L2 := L1.step ((Only.refl (fun _ => False) w1).drew.trans o2 (fun _ _ h => h) (fun _ _ h => h))
  clear o2 x0 x1 x2 y0 y1 y2 L1
  have HG := Lib.hid (HFIN.out _ L2)
  have y3 := (nodeAt L2.blk).c3
  have y4 := (nodeAt L2.blk).c4
  simp only [T.mv, T.root] at y3 y4
  clear L2
  go_wp2_with fail
  go_ret2
  exact HG.out


set_option maxRecDepth 100000 in
set_option maxHeartbeats 2000000 in
theorem cut_eq_b (b : Nat) (d : Nd) (lb : Nat) (ld : Nd) (ll lr : T) (rb : Nat) (rd : Nd) (rl rr : T) (tb sb : Nat) (rt : Option Addr) (p0 p1 : Value) (w : World) (hh : Host w tb sb rt p0 p1) (hl : Lies w (.node b d (.node lb ld ll lr) (.node rb rd rl rr))) (hn : (T.node b d (.node lb ld ll lr) (.node rb rd rl rr)).ids.Nodup)
    (ns : sb ∉ (T.node b d (.node lb ld ll lr) (.node rb rd rl rr)).ids) (nt : tb ∉ (T.node b d (.node lb ld ll lr) (.node rb rd rl rr)).ids) (snd : Sound (.node b d (.node lb ld ll lr) (.node rb rd rl rr)))
    (ih : ∀ W, Host W tb sb rt p0 p1 → Lies W (T.mv d.w (.node rb rd rl rr)) → Calls Try.prog 58 #[.pointer (some ⟨tb, 0, none⟩), .pointer (some ⟨rb, 0, none⟩)] W (FirstPost (T.mv d.w (.node rb rd rl rr)) tb sb rt p0 p1 W)) :
    Calls Try.prog 44 #[.pointer (some ⟨tb, 0, none⟩), .pointer (some ⟨b, 0, none⟩), (T.own d).val] w (CutPost (T.own d) (.node b d (.node lb ld ll lr) (.node rb rd rl rr)) tb sb rt p0 p1 w) := by
  have oa : Only (fun _ => False) w (w.alloc (spObj (T.own d))) := (Only.refl (fun _ => False) w).alloc _
  have HK := Lib.hid (look_calls b d (.node lb ld ll lr) (.node rb rd rl rr) (w.alloc (spObj (T.own d))) tb sb rt p0 p1 (hh.only oa id id) (hl.alloc _) hn ns nt)
  have HB := Lib.hid (fun w1 => look_box (w := w) (w1 := w1) (s := T.own d) hl hh)
  have HO := Lib.hid (fun W => by have := order_calls (T.own d) (T.own d) W; rw [ordI_eq] at this; exact this)
  have IH : Hid (∀ W, Host W tb sb rt p0 p1 → Lies W (T.mv d.w (.node rb rd rl rr)) → Calls Try.prog 58 #[.pointer (some ⟨tb, 0, none⟩), .pointer (some ⟨rb, 0, none⟩)] W fun e w' => ∃ (t1 : T) (sf st sk : Int), e = .returned (.tuple #[.agg #[.int .i64 sf, .int .i64 st, .int .i64 sk], .pointer t1.root]) ∧
      Left W w' tb sb rt p0 p1 (T.mv d.w (.node rb rd rl rr)) t1 ∧ t1.Gd ∧ (T.mv d.w (.node rb rd rl rr)).flat 0 = ⟨sf, st, sk⟩ :: t1.flat 0 ∧ T.inR sf ∧ T.inR st ∧ t1.size + 1 = (T.mv d.w (.node rb rd rl rr)).size) := fun W h1 h2 =>
    (ih W h1 h2).mono (by rintro e w' ⟨t1, s1, h⟩; exact ⟨t1, s1.f, s1.t, s1.k, h⟩)
  have HFIN : Hid (∀ w2 w3 w4 t1 sf st sk, Look w (T.own d) tb sb rt p0 p1 b d (.node lb ld ll lr) (.node rb rd rl rr) w2 → Left w2 w3 tb sb rt p0 p1 (T.mv d.w (.node rb rd rl rr)) t1 → t1.Gd → (T.mv d.w (.node rb rd rl rr)).flat 0 = ⟨sf, st, sk⟩ :: t1.flat 0 → T.inR sf → T.inR st → t1.size + 1 = (T.mv d.w (.node rb rd rl rr)).size →
      Only (fun i => i = b) w3 w4 → w4.heap[b]? = some (nodeObj { d with f := sf, t := st, k := sk, w := 0 } (T.mv d.w (.node lb ld ll lr)).root t1.root) → NodeFin w tb sb rt p0 p1 (.node b d (.node lb ld ll lr) (.node rb rd rl rr)) b { d with f := sf, t := st, k := sk, w := 0 } (T.mv d.w (.node lb ld ll lr)) t1 w4 ∧ (T.mv d.w (.node lb ld ll lr)).hok ∧ t1.hok ∧ (T.mv d.w (.node lb ld ll lr)).size + t1.size < 4611686018427387904 ∧
      ∀ w5, Lies w5 (T.even (.node b { d with f := sf, t := st, k := sk, w := 0 } (T.mv d.w (.node lb ld ll lr)) t1)) → Only (fun i => i ∈ (T.node b { d with f := sf, t := st, k := sk, w := 0 } (T.mv d.w (.node lb ld ll lr)) t1).ids) w4 w5 →
        CutPost (T.own d) (.node b d (.node lb ld ll lr) (.node rb rd rl rr)) tb sb rt p0 p1 w (.returned (.tuple #[.pointer (T.even (.node b { d with f := sf, t := st, k := sk, w := 0 } (T.mv d.w (.node lb ld ll lr)) t1)).root, .bool true])) w5) :=
    fun w2 w3 w4 t1 sf st sk L2 h3 g3 f3 i1 i2 s3 o4 b4 => by
      obtain ⟨s1, s2, hf, ht, ef, r1, r2⟩ := snd.kids
      have z1 := s1.small
      have z2 := s2.small
      have NF := nodeFin_rightO hh hn ns nt hl L2 h3 o4 b4
      refine ⟨NF, s1.gd.hok, g3.hok, by omega, fun w5 h5 o5 => ⟨_, true, rfl, NF.left h5 o5, T.Gd.even s1.gd g3 rfl i1 i2 (by omega), ?_, ?_, ?_⟩⟩
      · rw [T.flat_even_node (d := { d with f := sf, t := st, k := sk, w := 0 }) rfl i1 i2, ef, delS_eq r1 r2, f3]; rfl
      · rw [ef]; simp
      · rw [T.size_even]; simp only [T.size, T.size_mv] at *; omega
  have HNS := Lib.hid ns
  have HN := Lib.hid hn
  clear hh hl hn ns nt snd oa ih
  unfold Sp.val spObj at *
  simp only [T.own] at HK HO
  go_enter Try.func44, Try.ntmps44
  go_wp2_with fail
  refine HK.out.mono ?_
  rintro e w1 ⟨rfl, h1, h2, h3⟩
  have L1 := HB.out _ h1 h2 h3
  clear h1 h2 h3
  have x0 := cellAt L1.box 0 rfl
  have x1 := cellAt L1.box 1 rfl
  have x2 := cellAt L1.box 2 rfl
  have y0 := (nodeAt L1.blk).c0
  have y1 := (nodeAt L1.blk).c1
  have y2 := (nodeAt L1.blk).c2
  go_wp2_with fail
  go_still_tail 5, (by kernel_rfl)
  change wpList _ _ _ _ _ (World.drew _)
  go_wp2_with fail
  refine (HO.out _).mono ?_
  rintro e w2 ⟨rfl, o2⟩
  have L2 := L1.step ((Only.refl (fun _ => False) w1).drew.trans o2 (fun _ _ h => h) (fun _ _ h => h))
  clear o2 x0 x1 x2 y0 y1 y2 L1
  have y3 := (nodeAt L2.blk).c3
  have ya := (nodeAt L2.blk).c4
  simp only [T.mv, T.root] at y3 ya
  go_wp2_with fail
  go_region_with (go_at_call 58; refine (IH.out _ (L2.host.drewN 1) (Lies.drew L2.lr)).mono ?_; rintro e w3 ⟨t1, sf, st, sk, rfl, h3, g3, f3, i1, i2, s3⟩; have z0 := (nodeAt (right_blk HN.out HNS.out (L2.step (Only.refl (fun _ => False) w2).drew) h3)).c0; have z1 := (nodeAt (right_blk HN.out HNS.out (L2.step (Only.refl (fun _ => False) w2).drew) h3)).c1; have z2 := (nodeAt (right_blk HN.out HNS.out (L2.step (Only.refl (fun _ => False) w2).drew) h3)).c2; have z4 := (nodeAt (right_blk HN.out HNS.out (L2.step (Only.refl (fun _ => False) w2).drew) h3)).c4; have zz := (nodeAt (right_blk HN.out HNS.out (L2.step (Only.refl (fun _ => False) w2).drew) h3)).fz)
  have b3 := right_blk HN.out HNS.out (L2.step (Only.refl (fun _ => False) w2).drew) h3
  have o4 : Only (fun i => i = b) w3 ((((w3.setCell ⟨b, 0, none⟩ (.int .i64 sf)).setCell ⟨b, 1, none⟩ (.int .i64 st)).setCell ⟨b, 2, none⟩ (.int .i64 sk)).setCell ⟨b, 4, none⟩ (.pointer t1.root)) :=
    ((((Only.refl (fun i => i = b) w3).set b 0 _ (fun _ => rfl)).set b 1 _ (fun _ => rfl)).set b 2 _ (fun _ => rfl)).set b 4 _ (fun _ => rfl)
  have b4 : ((((w3.setCell ⟨b, 0, none⟩ (.int .i64 sf)).setCell ⟨b, 1, none⟩ (.int .i64 st)).setCell ⟨b, 2, none⟩ (.int .i64 sk)).setCell ⟨b, 4, none⟩ (.pointer t1.root)).heap[b]? = some (nodeObj { d with f := sf, t := st, k := sk, w := 0 } (T.mv d.w (.node lb ld ll lr)).root t1.root) :=
    setAt (setAt (setAt (setAt b3 0 _ rfl) 1 _ rfl) 2 _ rfl) 4 _ rfl
  have HF := Lib.hid (HFIN.out _ w3 _ t1 sf st sk (L2.step (Only.refl (fun _ => False) w2).drew) h3 g3 f3 i1 i2 s3 o4 b4)
  clear z0 z1 z2 z4 zz y3 ya L2 b3 o4 b4 h3 g3 f3 i1 i2 s3
  go_wp2_with fail
  generalize ((((w3.setCell ⟨b, 0, none⟩ (.int .i64 sf)).setCell ⟨b, 1, none⟩ (.int .i64 st)).setCell ⟨b, 2, none⟩ (.int .i64 sk)).setCell ⟨b, 4, none⟩ (.pointer t1.root)) = w4 at HF ⊢
  refine (even_calls b { d with f := sf, t := st, k := sk, w := 0 } (T.mv d.w (.node lb ld ll lr)) t1 _ HF.out.1.lies HF.out.1.nodup HF.out.2.1 HF.out.2.2.1 HF.out.2.2.2.1).mono ?_
  rintro e w5 ⟨rfl, h5, o5⟩
  have HG := Lib.hid (HF.out.2.2.2.2 w5 h5 o5)
  clear h5 o5
  go_wp2_with fail
  go_ret2
  exact HG.out

/-- CUT: whatever the tree is -/
theorem cut_calls (s : Sp) (tb sb : Nat) (rt : Option Addr) (p0 p1 : Value) : ∀ (n : Nat) (t : T), t.size ≤ n → ∀ w, Host w tb sb rt p0 p1 → Lies w t → t.ids.Nodup → sb ∉ t.ids → tb ∉ t.ids → Sound t →
    Calls Try.prog 44 #[.pointer (some ⟨tb, 0, none⟩), .pointer t.root, s.val] w (CutPost s t tb sb rt p0 p1 w) := by
  intro n
  induction n with
  | zero =>
    intro t hz w hh _ _ _ _ _
    cases t with
    | nil => exact cut_nil s tb sb rt p0 p1 w hh
    | node b d l r => simp [T.size] at hz
  | succ n ih =>
    intro t hz w hh hl hn ns nt snd
    cases t with
    | nil => exact cut_nil s tb sb rt p0 p1 w hh
    | node b d l r =>
      obtain ⟨nl, nr, n1, n2, n3⟩ := nodup_node hn
      simp only [T.size] at hz
      have ns' := ns
      have nt' := nt
      simp only [T.ids, List.mem_cons, List.mem_append, not_or] at ns' nt'
      obtain ⟨s1, s2, _⟩ := snd.kids
      rcases Sp.tri s (T.own d) with h | h | h
      · refine cut_lt s b d l r tb sb rt p0 p1 w hh hl hn ns nt snd h (fun W hH hW => ?_)
        have := ih (l.mv d.w) (by rw [T.size_mv]; omega) W hH hW (by rwa [T.ids_mv]) (by rw [T.ids_mv]; exact ns'.2.1) (by rw [T.ids_mv]; exact nt'.2.1) s1
        rwa [T.root_mv] at this
      · subst h
        cases l with
        | nil => exact cut_eq_l b d r tb sb rt p0 p1 w hh hl hn ns nt snd
        | node lb ld ll lr =>
          cases r with
          | nil => exact cut_eq_r b d lb ld ll lr tb sb rt p0 p1 w hh hl hn ns nt snd
          | node rb rd rl rr =>
            refine cut_eq_b b d lb ld ll lr rb rd rl rr tb sb rt p0 p1 w hh hl hn ns nt snd (fun W hH hW => ?_)
            have hid : (T.mv d.w (.node rb rd rl rr)).ids = (T.node rb rd rl rr).ids := T.ids_mv _ _
            exact first_calls tb sb rt p0 p1 _ rb (T.mvD d.w rd) rl rr (Nat.le_refl _) W hH hW nr ns'.2.2 nt'.2.2 s2
      · refine cut_gt s b d l r tb sb rt p0 p1 w hh hl hn ns nt snd h (fun W hH hW => ?_)
        have := ih (r.mv d.w) (by rw [T.size_mv]; omega) W hH hW (by rwa [T.ids_mv]) (by rw [T.ids_mv]; exact ns'.2.2) (by rw [T.ids_mv]; exact nt'.2.2) s2
        rwa [T.root_mv] at this
end Go.Proofs.Ytmbclcplinmblaa
