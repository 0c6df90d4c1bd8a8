/- marks' put on a tree: to the right; at the span itself; whatever the tree is. -/
import Derived.Test.YtmbclcplinmblaaW8
namespace Go.Proofs.Ytmbclcplinmblaa
open Go.RowKit

set_option maxRecDepth 100000 in
set_option maxHeartbeats 2000000 in
theorem put_gt (s : Sp) (b : Nat) (d : Nd) (l r : T) (tb sb : Nat) (rt : Option Addr) (p0 p1 : Value) (w : World) (hh : Host w tb sb rt p0 p1) (hl : Lies w (.node b d l r)) (hn : (T.node b d l r).ids.Nodup)
    (ns : sb ∉ (T.node b d l r).ids) (nt : tb ∉ (T.node b d l r).ids) (snd : Sound (.node b d l r)) (hs : (T.own d).lt s)
    (ih : ∀ W, Host W tb sb rt p0 p1 → Lies W (r.mv d.w) → Calls Try.prog 43 #[.pointer (some ⟨tb, 0, none⟩), .pointer r.root, s.val] W (PutPost s (r.mv d.w) tb sb rt p0 p1 W)) :
    Calls Try.prog 43 #[.pointer (some ⟨tb, 0, none⟩), .pointer (some ⟨b, 0, none⟩), s.val] w (PutPost s (.node b d l r) tb sb rt p0 p1 w) := by
  have oa : Only (fun _ => False) w (w.alloc (spObj s)) := (Only.refl (fun _ => False) w).alloc _
  have HK := Lib.hid (look_calls b d l r (w.alloc (spObj s)) tb sb rt p0 p1 (hh.only oa id id) (hl.alloc _) hn ns nt)
  have HB := Lib.hid (fun w1 => look_box (w := w) (w1 := w1) (s := s) hl hh)
  have HO := Lib.hid (fun W => by have := order_calls s (T.own d) W; rw [ordI_gt hs] at this; exact this)
  have IH := Lib.hid ih
  have HFIN : Hid (∀ w2 w3 w4 t1 ok, Look w s tb sb rt p0 p1 b d l r w2 → Left w2 w3 tb sb rt p0 p1 (r.mv d.w) t1 → t1.Gd → t1.flat 0 = insS s ((r.mv d.w).flat 0) → (ok = true ↔ s ∉ (r.mv d.w).flat 0) → t1.size ≤ (r.mv d.w).size + 1 →
      w4 = w3.setCell ⟨b, 4, none⟩ (.pointer t1.root) → w3.heap[b]? = some (nodeObj { d with w := 0 } (l.mv d.w).root (r.mv d.w).root) ∧ NodeFin w tb sb rt p0 p1 (.node b d l r) b { d with w := 0 } (l.mv d.w) t1 w4 ∧
      ∀ e w5, e = Ending.returned (.pointer (T.even (.node b { d with w := 0 } (l.mv d.w) t1)).root) ∧ Lies w5 (T.even (.node b { d with w := 0 } (l.mv d.w) t1)) ∧ Only (fun i => i ∈ (T.node b { d with w := 0 } (l.mv d.w) t1).ids) w4 w5 →
        PutPost s (.node b d l r) tb sb rt p0 p1 w (.returned (.tuple #[.pointer (T.even (.node b { d with w := 0 } (l.mv d.w) t1)).root, .bool ok])) w5) :=
    fun w2 w3 w4 t1 ok L2 h3 g3 f3 k3 s3 e4 => by
      have NF := nodeFin_right hh hn ns nt hl L2 h3 e4
      obtain ⟨s1, s2, hf, ht, ef, r1, r2⟩ := snd.kids
      refine ⟨right_blk hn ns L2 h3, NF, fun e w5 ⟨_, h5, o5⟩ => ⟨_, ok, rfl, NF.left h5 o5, T.Gd.even s1.gd g3 rfl hf ht (by have := s1.small; have := s2.small; omega), ?_, ?_, ?_⟩⟩
      · rw [T.flat_even_node (d := { d with w := 0 }) rfl hf ht, ef, insS_gt r1 hs, f3]; rfl
      · rw [ef, mem_gt r1 hs]; exact k3
      · rw [T.size_even]; simp only [T.size, T.size_mv] at *; omega
  have HQ : Hid (∀ t1 : T, t1.Gd → t1.size ≤ (r.mv d.w).size + 1 → (l.mv d.w).hok ∧ t1.hok ∧ (l.mv d.w).size + t1.size < 4611686018427387904) := fun t1 g h => by
    obtain ⟨s1, s2, _⟩ := snd.kids
    exact ⟨s1.gd.hok, g.hok, by have := s1.small; have := s2.small; omega⟩
  clear hh hl hn ns nt snd ih oa hs
  unfold Sp.val spObj at *
  go_enter Try.func43, Try.ntmps43
  go_wp2_with fail
  refine HK.out.mono ?_
  rintro e w1 ⟨rfl, h1, h2, h3⟩
  have L1 := HB.out _ h1 h2 h3
  clear h1 h2 h3
  have x0 := cellAt L1.box 0 rfl
  have x1 := cellAt L1.box 1 rfl
  have x2 := cellAt L1.box 2 rfl
  have y0 := (nodeAt L1.blk).c0
  have y1 := (nodeAt L1.blk).c1
  have y2 := (nodeAt L1.blk).c2
  go_wp2_with fail
  go_still_tail 5, (by kernel_rfl)
  change wpList _ _ _ _ _ (World.drew _)
  go_wp2_with fail
  refine (HO.out _).mono ?_
  rintro e w2 ⟨rfl, o2⟩
  have L2 := L1.step ((Only.refl (fun _ => False) w1).drew.trans o2 (fun _ _ h => h) (fun _ _ h => h))
  clear o2 x0 x1 x2 y0 y1 y2 L1
  have x0 := cellAt L2.box 0 rfl
  have x1 := cellAt L2.box 1 rfl
  have x2 := cellAt L2.box 2 rfl
  have y3 := (nodeAt L2.blk).c4
  simp only [T.root_mv] at y3
  go_wp2_with fail
  go_region_with (go_at_call 43; refine (IH.out _ (L2.host.drewN 1) (Lies.drew L2.lr)).mono ?_; rintro e w3 ⟨t1, ok, rfl, h3, g3, f3, k3, s3⟩)
  all_goals
    have HF := Lib.hid (HFIN.out _ w3 _ t1 ok (L2.step (Only.refl (fun _ => False) w2).drew) h3 g3 f3 k3 s3 rfl)
    have q := HQ.out t1 g3 s3
    have y3 := (nodeAt HF.out.1).c4
    have yz := (nodeAt HF.out.1).fz
    go_wp2_with fail
    refine (even_calls b { d with w := 0 } (l.mv d.w) t1 _ HF.out.2.1.lies HF.out.2.1.nodup q.1 q.2.1 q.2.2).mono ?_
    rintro e w5 ⟨rfl, h5, o5⟩
    have HG := Lib.hid (HF.out.2.2 _ w5 ⟨rfl, h5, o5⟩)
    clear h5 o5
    go_wp2_with fail
    go_ret2
    exact HG.out

set_option maxRecDepth 100000 in
set_option maxHeartbeats 2000000 in
theorem put_eq (b : Nat) (d : Nd) (l r : T) (tb sb : Nat) (rt : Option Addr) (p0 p1 : Value) (w : World) (hh : Host w tb sb rt p0 p1) (hl : Lies w (.node b d l r)) (hn : (T.node b d l r).ids.Nodup)
    (ns : sb ∉ (T.node b d l r).ids) (nt : tb ∉ (T.node b d l r).ids) (snd : Sound (.node b d l r)) :
    Calls Try.prog 43 #[.pointer (some ⟨tb, 0, none⟩), .pointer (some ⟨b, 0, none⟩), (T.own d).val] w (PutPost (T.own d) (.node b d l r) tb sb rt p0 p1 w) := by
  have oa : Only (fun _ => False) w (w.alloc (spObj (T.own d))) := (Only.refl (fun _ => False) w).alloc _
  have HK := Lib.hid (look_calls b d l r (w.alloc (spObj (T.own d))) tb sb rt p0 p1 (hh.only oa id id) (hl.alloc _) hn ns nt)
  have HB := Lib.hid (fun w1 => look_box (w := w) (w1 := w1) (s := T.own d) hl hh)
  have HO := Lib.hid (fun W => by have := order_calls (T.own d) (T.own d) W; rw [ordI_eq] at this; exact this)
  have HFIN : Hid (∀ w2, Look w (T.own d) tb sb rt p0 p1 b d l r w2 → PutPost (T.own d) (.node b d l r) tb sb rt p0 p1 w (.returned (.tuple #[.pointer (some ⟨b, 0, none⟩), .bool false])) w2) := fun w2 L2 => by
    obtain ⟨s1, s2, hf, ht, ef, r1, r2⟩ := snd.kids
    have hid : (T.down (.node b d l r)).ids = (T.node b d l r).ids := T.ids_down _
    refine ⟨T.down (.node b d l r), false, rfl, ⟨⟨L2.blk, L2.ll, L2.lr⟩, L2.host, L2.only, by rw [hid]; exact hn, fun i hi => Or.inl (by rwa [hid] at hi)⟩, snd.gd.down, ?_, ?_, by rw [T.size_down]; omega⟩
    · rw [T.flat_down, ef, insS_eq r1]
    · rw [ef]; simp
  clear hh hl hn ns nt snd oa
  unfold Sp.val spObj at *
  simp only [T.own] at HK HO
  go_enter Try.func43, Try.ntmps43
  go_wp2_with fail
  refine HK.out.mono ?_
  rintro e w1 ⟨rfl, h1, h2, h3⟩
  have L1 := HB.out _ h1 h2 h3
  clear h1 h2 h3
  have x0 := cellAt L1.box 0 rfl
  have x1 := cellAt L1.box 1 rfl
  have x2 := cellAt L1.box 2 rfl
  have y0 := (nodeAt L1.blk).c0
  have y1 := (nodeAt L1.blk).c1
  have y2 := (nodeAt L1.blk).c2
  go_wp2_with fail
  go_still_tail 5, (by kernel_rfl)
  change wpList _ _ _ _ _ (World.drew _)
  go_wp2_with fail
  refine (HO.out _).mono ?_
  rintro e w2 ⟨rfl, o2⟩
  have L2 := L1.step ((Only.refl (fun _ => False) w1).drew.trans o2 (fun _ _ h => h) (fun _ _ h => h))
  clear o2 x0 x1 x2 y0 y1 y2 L1
  have HG := Lib.hid (HFIN.out _ L2)
  clear L2
  go_wp2_with fail
  go_ret2
  exact HG.out

/-- PUT: whatever the tree is -/
theorem put_calls (s : Sp) (hf : T.inR s.f) (ht : T.inR s.t) (tb sb : Nat) (rt : Option Addr) (p0 p1 : Value) : ∀ (n : Nat) (t : T), t.size ≤ n → ∀ w, Host w tb sb rt p0 p1 → Lies w t → t.ids.Nodup → sb ∉ t.ids → tb ∉ t.ids → Sound t →
    Calls Try.prog 43 #[.pointer (some ⟨tb, 0, none⟩), .pointer t.root, s.val] w (PutPost s t tb sb rt p0 p1 w) := by
  intro n
  induction n with
  | zero =>
    intro t hz w hh _ _ _ _ _
    cases t with
    | nil => exact put_nil s hf ht tb sb rt p0 p1 w hh
    | node b d l r => simp [T.size] at hz
  | succ n ih =>
    intro t hz w hh hl hn ns nt snd
    cases t with
    | nil => exact put_nil s hf ht tb sb rt p0 p1 w hh
    | node b d l r =>
      obtain ⟨nl, nr, n1, n2, n3⟩ := nodup_node hn
      simp only [T.size] at hz
      simp only [T.ids, List.mem_cons, List.mem_append, not_or] at ns nt
      obtain ⟨s1, s2, _⟩ := snd.kids
      rcases Sp.tri s (T.own d) with h | h | h
      · refine put_lt s b d l r tb sb rt p0 p1 w hh hl hn (by simp [T.ids, ns]) (by simp [T.ids, nt]) snd h (fun W hH hW => ?_)
        have := ih (l.mv d.w) (by rw [T.size_mv]; omega) W hH hW (by rwa [T.ids_mv]) (by rw [T.ids_mv]; exact ns.2.1) (by rw [T.ids_mv]; exact nt.2.1) s1
        rwa [T.root_mv] at this
      · subst h
        exact put_eq b d l r tb sb rt p0 p1 w hh hl hn (by simp [T.ids, ns]) (by simp [T.ids, nt]) snd
      · refine put_gt s b d l r tb sb rt p0 p1 w hh hl hn (by simp [T.ids, ns]) (by simp [T.ids, nt]) snd h (fun W hH hW => ?_)
        have := ih (r.mv d.w) (by rw [T.size_mv]; omega) W hH hW (by rwa [T.ids_mv]) (by rw [T.ids_mv]; exact ns.2.2) (by rw [T.ids_mv]; exact nt.2.2) s2
        rwa [T.root_mv] at this
end Go.Proofs.Ytmbclcplinmblaa
