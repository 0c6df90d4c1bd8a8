/- The walk of marks' over. -/
import Derived.Test.YtmbclcplinmblaaW13
import Derived.Test.YtmbclcplinmblaaOwns
namespace Go.Proofs.Ytmbclcplinmblaa
open Go.RowKit

def overB (p q : Int) (s : Sp) : Bool := decide (s.f ≤ p) && decide (q ≤ s.t)

theorem top_lt {q : Int} {l : List Sp} (h : T.top l < q) : ∀ s ∈ l, s.t < q := by
  induction l with
  | nil => intro s hs; cases hs
  | cons x l ih =>
    rw [T.top_cons] at h
    intro s hs
    rcases List.mem_cons.1 hs with rfl | hs
    · omega
    · exact ih (by omega) s hs

def OverPost (p q : Int) (t : T) (tb sb : Nat) (rt : Option Addr) (p0 p1 : Value) (w : World) (e : Ending) (w' : World) : Prop :=
  ∃ t' v, e = .returned v ∧ Lies w' t' ∧ Host w' tb sb rt p0 p1 ∧ Only (fun i => i = sb ∨ i ∈ t.ids) w w' ∧ t'.ids = t.ids ∧ t'.root = t.root ∧ t'.Gd ∧ t'.flat 0 = t.flat 0 ∧ (t'.size = t.size ∧ t'.high = t.high ∧ t'.many = t.many) ∧
    Owns w' w.heap.size v ((t.flat 0).filter (overB p q))

theorem T.Gd.rebuild {b : Nat} {d : Nd} {l r l1 r1 : T} (g : Gd (.node b d l r)) (gl : Gd l1) (gr : Gd r1) (fl : l1.flat 0 = (l.mv d.w).flat 0) (fr : r1.flat 0 = (r.mv d.w).flat 0) (hl : l1.high = l.high) (hr : r1.high = r.high) (ml : l1.many = l.many) (mr : r1.many = r.many) :
    Gd (.node b { d with w := 0 } l1 r1) ∧ (T.node b { d with w := 0 } l1 r1).flat 0 = (T.node b d l r).flat 0 := by
  have ef := T.flat_node g
  obtain ⟨_, _, hf, ht⟩ := g.kidsDown
  have e1 : (T.node b { d with w := 0 } l1 r1).flat 0 = (T.node b d l r).flat 0 := by
    rw [T.flat_still rfl, ef, fl, fr]
    simp only [Int.add_zero, hf.eq, ht.eq, T.own]
  refine ⟨⟨⟨?_, ?_, ?_⟩, ⟨g.rng.1, gl.rng, gr.rng⟩, ⟨?_, ?_, gl.hok, gr.hok⟩⟩, e1⟩
  · rw [e1]; exact g.most.1
  · rw [T.mostOK_wrap]; exact gl.most
  · rw [T.mostOK_wrap]; exact gr.most
  · rw [hl, hr]; exact g.hok.1
  · rw [ml, mr]; exact g.hok.2.1

set_option maxRecDepth 100000 in
set_option maxHeartbeats 1000000 in
theorem over_none (p q : Int) (t : T) (tb sb : Nat) (rt : Option Addr) (p0 p1 : Value) (w : World) (hh : Host w tb sb rt p0 p1) (hl : Lies w t) (g : t.Gd) (hq : t.far < q) :
    Calls Try.prog 46 #[.pointer (some ⟨tb, 0, none⟩), .pointer t.root, .int .i64 p, .int .i64 q] w (OverPost p q t tb sb rt p0 p1 w) := by
  have HF : Hid (OverPost p q t tb sb rt p0 p1 w (.returned (.slice none 0 0)) w) := by
    refine ⟨t, _, rfl, hl, hh, Only.refl _ _, rfl, rfl, g, rfl, ⟨rfl, rfl, rfl⟩, ?_⟩
    have : (t.flat 0).filter (overB p q) = [] := by
      rw [List.filter_eq_nil_iff]
      intro s hs
      have := top_lt (g.far ▸ hq) s hs
      simp only [overB, Bool.and_eq_true, decide_eq_true_eq, not_and]
      omega
    rw [this]
    exact Owns.nil _ _
  have HC := Lib.hid (far_calls t w hl)
  clear hh hl g
  go_enter Try.func46, Try.ntmps46
  go_wp2_with fail
  refine HC.out.mono ?_
  rintro e w1 ⟨rfl, rfl⟩
  go_wp2_with fail
  go_ret
  exact HF.out

set_option maxRecDepth 100000 in
set_option maxHeartbeats 2000000 in
theorem over_past (p q : Int) (b : Nat) (d : Nd) (l r : T) (tb sb : Nat) (rt : Option Addr) (p0 p1 : Value) (w : World) (hh : Host w tb sb rt p0 p1) (hl : Lies w (.node b d l r)) (hn : (T.node b d l r).ids.Nodup)
    (ns : sb ∉ (T.node b d l r).ids) (nt : tb ∉ (T.node b d l r).ids) (snd : Sound (.node b d l r)) (hq : ¬ d.m < q) (hp : p < d.f)
    (ih : ∀ W, Host W tb sb rt p0 p1 → Lies W (l.mv d.w) → Calls Try.prog 46 #[.pointer (some ⟨tb, 0, none⟩), .pointer l.root, .int .i64 p, .int .i64 q] W (OverPost p q (l.mv d.w) tb sb rt p0 p1 W)) :
    Calls Try.prog 46 #[.pointer (some ⟨tb, 0, none⟩), .pointer (some ⟨b, 0, none⟩), .int .i64 p, .int .i64 q] w (OverPost p q (.node b d l r) tb sb rt p0 p1 w) := by
  have HC : Hid (Calls Try.prog 59 #[.pointer (some ⟨b, 0, none⟩)] w fun e w' => e = .returned (.int .i64 d.m) ∧ w = w') := far_calls (.node b d l r) w hl
  have HK := Lib.hid (look_calls b d l r w tb sb rt p0 p1 hh hl hn ns nt)
  have IH := Lib.hid ih
  have HN := Lib.hid hn
  have HNS := Lib.hid ns
  have HNT := Lib.hid nt
  have SND := Lib.hid snd
  have HP := Lib.hid hp
  have hp' : ¬ d.f ≤ p := by omega
  clear hh hl hn ns nt snd ih hp
  go_enter Try.func46, Try.ntmps46
  go_wp2_with fail
  refine HC.out.mono ?_
  rintro e w0 ⟨rfl, rfl⟩
  go_wp2_with fail
  refine HK.out.mono ?_
  rintro e w1 ⟨rfl, h1, h2, h3⟩
  have L1 : Lk w tb sb rt p0 p1 b d l r w1 := ⟨h1.1, h1.2.1, h1.2.2, h2, h3⟩
  clear h1 h2 h3
  have y3 := (nodeAt L1.blk).c3
  simp only [T.root_mv] at y3
  go_wp2_with fail
  refine (IH.out _ L1.host L1.ll).mono ?_
  rintro e w2 ⟨l1, v1, rfl, h2, hh2, o2, i2, t2, g2, f2, ⟨s2, hi2, m2⟩, ow2⟩
  have N := nodup_node HN.out
  rw [T.ids_mv] at o2
  have b2 := o2.keep L1.blk (by
    rintro (h | h)
    · exact HNS.out (by simp [T.ids, h])
    · exact N.2.2.1 h)
  have r2 := Lies.only o2 L1.lr (fun i hi h => by
    rw [T.ids_mv] at hi
    rcases h with h | h
    · exact HNS.out (by simp [T.ids, ← h, hi])
    · exact N.2.2.2.2 i h hi)
  have y0 := (nodeAt b2).c0
  have HF : Hid (OverPost p q (.node b d l r) tb sb rt p0 p1 w (.returned v1) w2) := by
    obtain ⟨k1, k2, hf, ht, ef, q1, q2⟩ := SND.out.kids
    obtain ⟨ga, fa⟩ := T.Gd.rebuild SND.out.gd g2 k2.gd f2 rfl (by rw [hi2, T.high_mv]) (T.high_mv _ _) (by rw [m2, T.many_mv]) (T.many_mv _ _)
    refine ⟨.node b { d with w := 0 } l1 (r.mv d.w), v1, rfl, ⟨by rw [t2]; exact b2, h2, r2⟩, hh2, L1.only.trans o2 (fun _ _ h => h) (fun i _ h => h.imp id (fun h => by simp [T.ids, h])), by simp [T.ids, i2, T.ids_mv], rfl, ga, fa, ⟨by simp [T.size, s2, T.size_mv], rfl, rfl⟩, ?_⟩
    have hfil : ((T.node b d l r).flat 0).filter (overB p q) = ((l.mv d.w).flat 0).filter (overB p q) := by
      have hz : (T.own d :: (r.mv d.w).flat 0).filter (overB p q) = [] := by
       rw [List.filter_eq_nil_iff]
       intro s hs
       have hge : d.f ≤ s.f := by
        rcases List.mem_cons.1 hs with rfl | hs
        · exact Int.le_refl _
        · exact lt_f (q2 s hs)
       have := HP.out
       simp only [overB, Bool.and_eq_true, decide_eq_true_eq, not_and]
       omega
      rw [ef, List.filter_append, hz, List.append_nil]
    rw [hfil]
    exact ow2.mono L1.only.size
  clear L1 y3 h2 hh2 o2 i2 t2 g2 f2 s2 hi2 m2 ow2 N b2 r2
  go_wp2_with fail
  go_ret
  exact HF.out

/-- what the ways through both sides end in -/
theorem over_fin {p q : Int} {b : Nat} {d : Nd} {l r l1 r1 : T} {tb sb : Nat} {rt : Option Addr} {p0 p1 : Value} {w w4 w5 : World} {v : Value} {mid : List Sp} (snd : Sound (.node b d l r)) (hlt : ∀ i ∈ (T.node b d l r).ids, i < w.heap.size) (hht : tb < w.heap.size ∧ sb < w.heap.size)
    (hb : w4.heap[b]? = some (nodeObj { d with w := 0 } (l.mv d.w).root (r.mv d.w).root)) (hl1 : Lies w4 l1) (hr1 : Lies w4 r1) (hh : Host w4 tb sb rt p0 p1) (o4 : Only (fun i => i = sb ∨ i ∈ (T.node b d l r).ids) w w4)
    (il : l1.ids = (l.mv d.w).ids) (ir : r1.ids = (r.mv d.w).ids) (tl : l1.root = (l.mv d.w).root) (tr : r1.root = (r.mv d.w).root) (gl : l1.Gd) (gr : r1.Gd) (fl : l1.flat 0 = (l.mv d.w).flat 0) (fr : r1.flat 0 = (r.mv d.w).flat 0)
    (zl : l1.size = (l.mv d.w).size ∧ l1.high = (l.mv d.w).high ∧ l1.many = (l.mv d.w).many) (zr : r1.size = (r.mv d.w).size ∧ r1.high = (r.mv d.w).high ∧ r1.many = (r.mv d.w).many)
    (o5 : Only (fun i => w.heap.size ≤ i) w4 w5) (hm : (if d.f ≤ p ∧ q ≤ d.t then [T.own d] else []) = mid) (ow : Owns w5 w.heap.size v (((l.mv d.w).flat 0).filter (overB p q) ++ mid ++ ((r.mv d.w).flat 0).filter (overB p q))) :
    OverPost p q (.node b d l r) tb sb rt p0 p1 w (.returned v) w5 := by
  obtain ⟨k1, k2, hf, ht, ef, q1, q2⟩ := snd.kids
  obtain ⟨ga, fa⟩ := T.Gd.rebuild snd.gd gl gr fl fr (by rw [zl.2.1, T.high_mv]) (by rw [zr.2.1, T.high_mv]) (by rw [zl.2.2, T.many_mv]) (by rw [zr.2.2, T.many_mv])
  have ids : (T.node b { d with w := 0 } l1 r1).ids = (T.node b d l r).ids := by simp [T.ids, il, ir, T.ids_mv]
  have hl : Lies w4 (.node b { d with w := 0 } l1 r1) := ⟨by rw [tl, tr]; exact hb, hl1, hr1⟩
  refine ⟨.node b { d with w := 0 } l1 r1, v, rfl, Lies.only o5 hl (fun i hi h => ?_), hh.only o5 (by omega) (by omega), o4.trans o5 (fun _ _ h => h) (fun i hi h => by omega), ids, rfl, ga, fa, ⟨by simp [T.size, zl.1, zr.1, T.size_mv], rfl, rfl⟩, ?_⟩
  · rw [ids] at hi
    have := hlt i hi
    omega
  · have hfil : ((T.node b d l r).flat 0).filter (overB p q) = ((l.mv d.w).flat 0).filter (overB p q) ++ mid ++ ((r.mv d.w).flat 0).filter (overB p q) := by
      rw [ef, List.filter_append, List.filter_cons, ← hm]
      by_cases h : d.f ≤ p ∧ q ≤ d.t
      · rw [if_pos (by simp only [overB, Bool.and_eq_true, decide_eq_true_eq]; exact h), if_pos h]; simp
      · rw [if_neg (by simp only [overB, Bool.and_eq_true, decide_eq_true_eq]; exact h), if_neg h]; simp
    rw [hfil]
    exact ow

theorem info25 : (Try.prog.info? 25).map (fun i => (i.zero, i.size, i.bytes)) = some (some (.agg #[.int .i64 0, .int .i64 0, .int .i64 0]), 3, 24) := by kernel_rfl

set_option maxRecDepth 100000 in
set_option maxHeartbeats 2000000 in
theorem over_in (p q : Int) (b : Nat) (d : Nd) (l r : T) (tb sb : Nat) (rt : Option Addr) (p0 p1 : Value) (w : World) (hh : Host w tb sb rt p0 p1) (hl : Lies w (.node b d l r)) (hn : (T.node b d l r).ids.Nodup)
    (ns : sb ∉ (T.node b d l r).ids) (nt : tb ∉ (T.node b d l r).ids) (snd : Sound (.node b d l r)) (hsz : (T.node b d l r).size ≤ 1099511627776) (hq : ¬ d.m < q) (hp : d.f ≤ p) (ht : q ≤ d.t)
    (ih : ∀ W, Host W tb sb rt p0 p1 → Lies W (l.mv d.w) → Calls Try.prog 46 #[.pointer (some ⟨tb, 0, none⟩), .pointer l.root, .int .i64 p, .int .i64 q] W (OverPost p q (l.mv d.w) tb sb rt p0 p1 W))
    (ih2 : ∀ W, Host W tb sb rt p0 p1 → Lies W (r.mv d.w) → Calls Try.prog 46 #[.pointer (some ⟨tb, 0, none⟩), .pointer r.root, .int .i64 p, .int .i64 q] W (OverPost p q (r.mv d.w) tb sb rt p0 p1 W)) :
    Calls Try.prog 46 #[.pointer (some ⟨tb, 0, none⟩), .pointer (some ⟨b, 0, none⟩), .int .i64 p, .int .i64 q] w (OverPost p q (.node b d l r) tb sb rt p0 p1 w) := by
  have HC : Hid (Calls Try.prog 59 #[.pointer (some ⟨b, 0, none⟩)] w fun e w' => e = .returned (.int .i64 d.m) ∧ w = w') := far_calls (.node b d l r) w hl
  have HK := Lib.hid (look_calls b d l r w tb sb rt p0 p1 hh hl hn ns nt)
  have IH := Lib.hid ih
  have IH2 := Lib.hid ih2
  have HN := Lib.hid hn
  have HNS := Lib.hid ns
  have HNT := Lib.hid nt
  have SND := Lib.hid snd
  have HP := Lib.hid hp
  have HT := Lib.hid ht
  have HSZ := Lib.hid hsz
  have HLT := Lib.hid (Lies.lt hl)
  have HHT := Lib.hid hh.lt
  obtain ⟨i0, hi, hz0, hz1, hz2⟩ := info_parts info25
  have HI := Lib.hid hi
  have HZ0 := Lib.hid hz0
  have HZ1 := Lib.hid hz1
  have HZ2 := Lib.hid hz2
  clear hh hl hn ns nt snd ih ih2 hsz hi hz0 hz1 hz2
  go_enter Try.func46, Try.ntmps46
  go_wp2_with fail
  refine HC.out.mono ?_
  rintro e w0 ⟨rfl, rfl⟩
  go_wp2_with fail
  refine HK.out.mono ?_
  rintro e w1 ⟨rfl, h1, h2, h3⟩
  have L1 : Lk w tb sb rt p0 p1 b d l r w1 := ⟨h1.1, h1.2.1, h1.2.2, h2, h3⟩
  clear h1 h2 h3
  have y3 := (nodeAt L1.blk).c3
  simp only [T.root_mv] at y3
  go_wp2_with fail
  refine (IH.out _ L1.host L1.ll).mono ?_
  rintro e w2 ⟨l1, v1, rfl, h2, hh2, o2, i2, t2, g2, f2, z2, ow2⟩
  have N := nodup_node HN.out
  rw [T.ids_mv] at o2
  have b2 := o2.keep L1.blk (by
    rintro (h | h)
    · exact HNS.out (by simp [T.ids, h])
    · exact N.2.2.1 h)
  have r2 := Lies.only o2 L1.lr (fun i hi h => by
    rw [T.ids_mv] at hi
    rcases h with h | h
    · exact HNS.out (by simp [T.ids, ← h, hi])
    · exact N.2.2.2.2 i h hi)
  have o2' : Only (fun i => i = sb ∨ i ∈ (T.node b d l r).ids) w w2 := L1.only.trans o2 (fun _ _ h => h) (fun i _ h => h.imp id (fun h => by simp [T.ids, h]))
  have y0 := (nodeAt b2).c0
  have y1 := (nodeAt b2).c1
  have y2 := (nodeAt b2).c2
  have OW2 := Lib.hid (ow2.mono L1.only.size)
  have hlen : ((l.mv d.w).flat 0 |>.filter (overB p q)).length ≤ l.size := by
    refine Nat.le_trans (List.length_filter_le _ _) ?_
    rw [T.flat_length, T.size_mv]; exact Nat.le_refl _
  have HLEN := Lib.hid hlen
  have O2 := Lib.hid o2'
  have B2 := Lib.hid b2
  have H2 := Lib.hid h2
  have R2 := Lib.hid r2
  have HH2 := Lib.hid hh2
  have G2 := Lib.hid g2
  have F2 := Lib.hid f2
  have I2 := Lib.hid i2
  have T2 := Lib.hid t2
  have Z2 := Lib.hid z2
  clear L1 y3 h2 hh2 o2 i2 t2 g2 f2 z2 ow2 N b2 r2 o2' hlen
  go_wp2_with (at_builtin; go_must (refine wpList_append_own _ rfl _ _ 32 rfl w.heap.size 25 i0 _ 3 24 Try.underlying32 HI.out HZ0.out HZ1.out HZ2.out rfl (by decide) _ _ _ rfl (World.ownsRow.alloc OW2.out _) ⟨w2.heap.size, 0, none⟩ 1 1 [.int .i64 d.f, .int .i64 d.t, .int .i64 d.k] rfl rfl ?c1 ?c2 ?c3 ?c4 ?c5 ?_))
  case c1 => exact rowCell (l := [T.own d]) (n := 3) (heap_alloc_new _ _) rfl
  case c2 => exact spCells_one [T.own d]
  case c3 => have := HLEN.out; have := HSZ.out; simp only [T.size] at this; unfold maxLen; omega
  case c4 => have := HLEN.out; have := HSZ.out; simp only [T.size] at this; omega
  case c5 => have := O2.out.size; rw [World.size_alloc]; omega
  intro v2 w3 ow3 hg _
  have ow3' : Owns w3 w.heap.size v2 (((l.mv d.w).flat 0).filter (overB p q) ++ [T.own d]) := by
    unfold Owns
    rw [List.length_append, spCells_append]; exact ow3
  have o3 : Only (fun i => w.heap.size ≤ i) w2 w3 := ((Only.refl (fun i => w.heap.size ≤ i) w2).alloc _).trans (Only.of_grown hg (fun k hk => (World.ownsRow.lt OW2.out k hk).1)) (fun _ _ h => h) (fun _ _ h => h)
  have hb := HLT.out b (by simp [T.ids])
  have b3 := o3.keep B2.out (by omega)
  have l3 := Lies.only o3 H2.out (fun i hi h => by rw [I2.out, T.ids_mv] at hi; have := HLT.out i (by simp [T.ids, hi]); omega)
  have r3 := Lies.only o3 R2.out (fun i hi h => by rw [T.ids_mv] at hi; have := HLT.out i (by simp [T.ids, hi]); omega)
  have h3 := HH2.out.only o3 (by have := HHT.out; omega) (by have := HHT.out; omega)
  have o3' : Only (fun i => i = sb ∨ i ∈ (T.node b d l r).ids) w w3 := O2.out.trans o3 (fun _ _ h => h) (fun i hi h => by omega)
  have y4 := (nodeAt b3).c4
  simp only [T.root_mv] at y4
  have OW3 := Lib.hid ow3'
  have B3 := Lib.hid b3
  have O3 := Lib.hid o3'
  have L3 := Lib.hid l3
  clear ow3 hg ow3' o3 hb b3 l3 o3' y0 y1 y2
  go_wp2_with fail
  refine (IH2.out _ h3 r3).mono ?_
  rintro e w4 ⟨r1, v3, rfl, hr4, h4, o4, i4, t4, g4, f4, z4, ow4⟩
  have N := nodup_node HN.out
  rw [T.ids_mv] at o4
  have b4 := o4.keep B3.out (by
    rintro (h | h)
    · exact HNS.out (by simp [T.ids, h])
    · exact N.2.2.2.1 h)
  have l4 := Lies.only o4 L3.out (fun i hi h => by
    rw [I2.out, T.ids_mv] at hi
    rcases h with h | h
    · exact HNS.out (by simp [T.ids, ← h, hi])
    · exact N.2.2.2.2 i hi h)
  have ow3' := OW3.out.only o4 (fun i hi h => by
    rcases h with h | h
    · have := HHT.out; omega
    · have := HLT.out i (by simp [T.ids, h]); omega)
  have o4' : Only (fun i => i = sb ∨ i ∈ (T.node b d l r).ids) w w4 := O3.out.trans o4 (fun _ _ h => h) (fun i _ h => h.imp id (fun h => by simp [T.ids, h]))
  have HF := Lib.hid (fun w5 v (o5 : Only (fun i => w.heap.size ≤ i) w4 w5) (ow : Owns w5 w.heap.size v (((l.mv d.w).flat 0).filter (overB p q) ++ [T.own d] ++ ((r.mv d.w).flat 0).filter (overB p q))) =>
    over_fin (p := p) (q := q) (w5 := w5) (v := v) SND.out HLT.out HHT.out b4 l4 hr4 h4 o4' I2.out i4 T2.out t4 G2.out g4 F2.out f4 Z2.out z4 o5 (if_pos ⟨HP.out, HT.out⟩) ow)
  have OW4 := Lib.hid (ow4.cases)
  have OWX := Lib.hid ow3'
  have hlen2 : ((r.mv d.w).flat 0 |>.filter (overB p q)).length ≤ r.size := by
    refine Nat.le_trans (List.length_filter_le _ _) ?_
    rw [T.flat_length, T.size_mv]; exact Nat.le_refl _
  have HLEN2 := Lib.hid hlen2
  have SZ := Lib.hid o4'.size
  clear hr4 h4 o4 i4 t4 g4 f4 z4 ow4 N b4 l4 ow3' o4' y4 r3 h3 hlen2
  rcases OW4.out with ⟨rfl, e4⟩ | ⟨g, cap, cur, rfl, hg4, hh4, hc4, hz4, hk4⟩
  · have E4 := Lib.hid e4
    clear e4 OW4
    go_wp2_with (at_builtin; go_must (refine wpList_append_own_none rfl _ _ 32 rfl w.heap.size 25 i0 3 Try.underlying32 HI.out _ _ _ rfl OWX.out rfl ?_))
    go_ret
    exact HF.out w4 v2 (Only.refl _ _) (by rw [E4.out, List.append_nil]; exact OWX.out)
  · have HH4 := Lib.hid hh4
    have HK4 := Lib.hid hk4
    clear hg4 hh4 hc4 hz4 hk4 OW4
    go_wp2_with (at_builtin; go_must (refine wpList_append_own _ rfl _ _ 32 rfl w.heap.size 25 i0 _ 3 24 Try.underlying32 HI.out HZ0.out HZ1.out HZ2.out rfl (by decide) _ _ _ rfl OWX.out ⟨g, 0, none⟩ _ _ (spCells (((r.mv d.w).flat 0).filter (overB p q))) rfl (spCells_length _) ?d1 ?d2 ?d3 ?d4 ?d5 ?_))
    case d1 => exact rowCell HH4.out HK4.out
    case d2 => exact spCells_one _
    case d3 => have := HLEN.out; have := HLEN2.out; have := HSZ.out; simp only [T.size] at this; simp only [List.length_append, List.length_cons, List.length_nil]; unfold maxLen; omega
    case d4 => have := HLEN.out; have := HLEN2.out; have := HSZ.out; simp only [T.size] at this; simp only [List.length_append, List.length_cons, List.length_nil]; omega
    case d5 => exact SZ.out
    intro v5 w5 ow5 hg5 _
    have HG := Lib.hid (HF.out w5 v5 (Only.of_grown hg5 (fun k hk => (World.ownsRow.lt OWX.out k hk).1)) (by
      unfold Owns
      rw [spCells_append]
      simpa only [List.length_append, List.length_cons, List.length_nil, Nat.zero_add] using ow5))
    clear ow5 hg5
    go_wp2_with fail
    go_ret
    exact HG.out
end Go.Proofs.Ytmbclcplinmblaa
