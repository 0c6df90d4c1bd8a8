/- marks' over where the node's own span is too short; whatever the tree is. -/
import Derived.Test.YtmbclcplinmblaaW14
namespace Go.Proofs.Ytmbclcplinmblaa
open Go.RowKit

set_option maxRecDepth 100000 in
set_option maxHeartbeats 2000000 in
theorem over_out (p q : Int) (b : Nat) (d : Nd) (l r : T) (tb sb : Nat) (rt : Option Addr) (p0 p1 : Value) (w : World) (hh : Host w tb sb rt p0 p1) (hl : Lies w (.node b d l r)) (hn : (T.node b d l r).ids.Nodup)
    (ns : sb ∉ (T.node b d l r).ids) (nt : tb ∉ (T.node b d l r).ids) (snd : Sound (.node b d l r)) (hsz : (T.node b d l r).size ≤ 1099511627776) (hq : ¬ d.m < q) (hp : d.f ≤ p) (ht : d.t < q)
    (ih : ∀ W, Host W tb sb rt p0 p1 → Lies W (l.mv d.w) → Calls Try.prog 46 #[.pointer (some ⟨tb, 0, none⟩), .pointer l.root, .int .i64 p, .int .i64 q] W (OverPost p q (l.mv d.w) tb sb rt p0 p1 W))
    (ih2 : ∀ W, Host W tb sb rt p0 p1 → Lies W (r.mv d.w) → Calls Try.prog 46 #[.pointer (some ⟨tb, 0, none⟩), .pointer r.root, .int .i64 p, .int .i64 q] W (OverPost p q (r.mv d.w) tb sb rt p0 p1 W)) :
    Calls Try.prog 46 #[.pointer (some ⟨tb, 0, none⟩), .pointer (some ⟨b, 0, none⟩), .int .i64 p, .int .i64 q] w (OverPost p q (.node b d l r) tb sb rt p0 p1 w) := by
  have HC : Hid (Calls Try.prog 59 #[.pointer (some ⟨b, 0, none⟩)] w fun e w' => e = .returned (.int .i64 d.m) ∧ w = w') := far_calls (.node b d l r) w hl
  have HK := Lib.hid (look_calls b d l r w tb sb rt p0 p1 hh hl hn ns nt)
  have IH := Lib.hid ih
  have IH2 := Lib.hid ih2
  have HN := Lib.hid hn
  have HNS := Lib.hid ns
  have HNT := Lib.hid nt
  have SND := Lib.hid snd
  have HP := Lib.hid hp
  have HT := Lib.hid ht
  have HSZ := Lib.hid hsz
  have HLT := Lib.hid (Lies.lt hl)
  have HHT := Lib.hid hh.lt
  obtain ⟨i0, hi, hz0, hz1, hz2⟩ := info_parts info25
  have HI := Lib.hid hi
  have HZ0 := Lib.hid hz0
  have HZ1 := Lib.hid hz1
  have HZ2 := Lib.hid hz2
  clear hh hl hn ns nt snd ih ih2 hsz hi hz0 hz1 hz2
  go_enter Try.func46, Try.ntmps46
  go_wp2_with fail
  refine HC.out.mono ?_
  rintro e w0 ⟨rfl, rfl⟩
  go_wp2_with fail
  refine HK.out.mono ?_
  rintro e w1 ⟨rfl, h1, h2, h3⟩
  have L1 : Lk w tb sb rt p0 p1 b d l r w1 := ⟨h1.1, h1.2.1, h1.2.2, h2, h3⟩
  clear h1 h2 h3
  have y3 := (nodeAt L1.blk).c3
  simp only [T.root_mv] at y3
  go_wp2_with fail
  refine (IH.out _ L1.host L1.ll).mono ?_
  rintro e w2 ⟨l1, v1, rfl, h2, hh2, o2, i2, t2, g2, f2, z2, ow2⟩
  have N := nodup_node HN.out
  rw [T.ids_mv] at o2
  have b2 := o2.keep L1.blk (by
    rintro (h | h)
    · exact HNS.out (by simp [T.ids, h])
    · exact N.2.2.1 h)
  have r2 := Lies.only o2 L1.lr (fun i hi h => by
    rw [T.ids_mv] at hi
    rcases h with h | h
    · exact HNS.out (by simp [T.ids, ← h, hi])
    · exact N.2.2.2.2 i h hi)
  have o2' : Only (fun i => i = sb ∨ i ∈ (T.node b d l r).ids) w w2 := L1.only.trans o2 (fun _ _ h => h) (fun i _ h => h.imp id (fun h => by simp [T.ids, h]))
  have y0 := (nodeAt b2).c0
  have y1 := (nodeAt b2).c1
  have y2 := (nodeAt b2).c2
  have OW2 := Lib.hid (ow2.mono L1.only.size)
  have hlen : ((l.mv d.w).flat 0 |>.filter (overB p q)).length ≤ l.size := by
    refine Nat.le_trans (List.length_filter_le _ _) ?_
    rw [T.flat_length, T.size_mv]; exact Nat.le_refl _
  have HLEN := Lib.hid hlen
  have O2 := Lib.hid o2'
  have B2 := Lib.hid b2
  have H2 := Lib.hid h2
  have R2 := Lib.hid r2
  have HH2 := Lib.hid hh2
  have G2 := Lib.hid g2
  have F2 := Lib.hid f2
  have I2 := Lib.hid i2
  have T2 := Lib.hid t2
  have Z2 := Lib.hid z2
  clear L1 y3 h2 hh2 o2 i2 t2 g2 f2 z2 ow2 N b2 r2 o2' hlen
  have y4 := (nodeAt B2.out).c4
  simp only [T.root_mv] at y4
  have ht' : ¬ q ≤ d.t := by have := HT.out; omega
  clear y2
  go_wp2_with fail
  refine (IH2.out _ HH2.out R2.out).mono ?_
  rintro e w4 ⟨r1, v3, rfl, hr4, h4, o4, i4, t4, g4, f4, z4, ow4⟩
  have N := nodup_node HN.out
  rw [T.ids_mv] at o4
  have b4 := o4.keep B2.out (by
    rintro (h | h)
    · exact HNS.out (by simp [T.ids, h])
    · exact N.2.2.2.1 h)
  have l4 := Lies.only o4 H2.out (fun i hi h => by
    rw [I2.out, T.ids_mv] at hi
    rcases h with h | h
    · exact HNS.out (by simp [T.ids, ← h, hi])
    · exact N.2.2.2.2 i hi h)
  have ow3' := OW2.out.only o4 (fun i hi h => by
    rcases h with h | h
    · have := HHT.out; omega
    · have := HLT.out i (by simp [T.ids, h]); omega)
  have o4' : Only (fun i => i = sb ∨ i ∈ (T.node b d l r).ids) w w4 := O2.out.trans o4 (fun _ _ h => h) (fun i _ h => h.imp id (fun h => by simp [T.ids, h]))
  have HF := Lib.hid (fun w5 v (o5 : Only (fun i => w.heap.size ≤ i) w4 w5) (ow : Owns w5 w.heap.size v (((l.mv d.w).flat 0).filter (overB p q) ++ [] ++ ((r.mv d.w).flat 0).filter (overB p q))) =>
    over_fin (p := p) (q := q) (w5 := w5) (v := v) SND.out HLT.out HHT.out b4 l4 hr4 h4 o4' I2.out i4 T2.out t4 G2.out g4 F2.out f4 Z2.out z4 o5 (if_neg (fun h => by have := HT.out; omega)) ow)
  have OW4 := Lib.hid (ow4.cases)
  have OWX := Lib.hid ow3'
  have hlen2 : ((r.mv d.w).flat 0 |>.filter (overB p q)).length ≤ r.size := by
    refine Nat.le_trans (List.length_filter_le _ _) ?_
    rw [T.flat_length, T.size_mv]; exact Nat.le_refl _
  have HLEN2 := Lib.hid hlen2
  have SZ := Lib.hid o4'.size
  clear hr4 h4 o4 i4 t4 g4 f4 z4 ow4 N b4 l4 ow3' o4' y4 y0 y1 ht' ht hp hlen2
  rcases OW4.out with ⟨rfl, e4⟩ | ⟨g, cap, cur, rfl, hg4, hh4, hc4, hz4, hk4⟩
  · have E4 := Lib.hid e4
    clear e4 OW4
    go_wp2_with (at_builtin; go_must (refine wpList_append_own_none rfl _ _ 32 rfl w.heap.size 25 i0 3 Try.underlying32 HI.out _ _ _ rfl OWX.out rfl ?_))
    go_ret
    exact HF.out w4 v1 (Only.refl _ _) (by rw [E4.out, List.append_nil, List.append_nil]; exact OWX.out)
  · have HH4 := Lib.hid hh4
    have HK4 := Lib.hid hk4
    clear hg4 hh4 hc4 hz4 hk4 OW4
    go_wp2_with (at_builtin; go_must (refine wpList_append_own _ rfl _ _ 32 rfl w.heap.size 25 i0 _ 3 24 Try.underlying32 HI.out HZ0.out HZ1.out HZ2.out rfl (by decide) _ _ _ rfl OWX.out ⟨g, 0, none⟩ _ _ (spCells (((r.mv d.w).flat 0).filter (overB p q))) rfl (spCells_length _) ?d1 ?d2 ?d3 ?d4 ?d5 ?_))
    case d1 => exact rowCell HH4.out HK4.out
    case d2 => exact spCells_one _
    case d3 => have := HLEN.out; have := HLEN2.out; have := HSZ.out; simp only [T.size] at this; unfold maxLen; omega
    case d4 => have := HLEN.out; have := HLEN2.out; have := HSZ.out; simp only [T.size] at this; omega
    case d5 => exact SZ.out
    intro v5 w5 ow5 hg5 _
    have HG := Lib.hid (HF.out w5 v5 (Only.of_grown hg5 (fun k hk => (World.ownsRow.lt OWX.out k hk).1)) (by
      unfold Owns
      rw [spCells_append]
      simpa only [List.length_append, List.append_nil] using ow5))
    clear ow5 hg5
    go_wp2_with fail
    go_ret
    exact HG.out

/-- OVER: whatever the tree is -/
theorem over_calls (p q : Int) (hq0 : 0 ≤ q) (tb sb : Nat) (rt : Option Addr) (p0 p1 : Value) : ∀ (n : Nat) (t : T), t.size ≤ n → ∀ w, Host w tb sb rt p0 p1 → Lies w t → t.ids.Nodup → sb ∉ t.ids → tb ∉ t.ids → Sound t → t.size ≤ 1099511627776 →
    Calls Try.prog 46 #[.pointer (some ⟨tb, 0, none⟩), .pointer t.root, .int .i64 p, .int .i64 q] w (OverPost p q t tb sb rt p0 p1 w) := by
  intro n
  induction n with
  | zero =>
    intro t hz w hh hl _ _ _ snd _
    cases t with
    | nil => exact over_none p q .nil tb sb rt p0 p1 w hh hl snd.gd (by simp only [T.far]; omega)
    | node b d l r => simp [T.size] at hz
  | succ n ih =>
    intro t hz w hh hl hn ns nt snd hsz
    cases t with
    | nil => exact over_none p q .nil tb sb rt p0 p1 w hh hl snd.gd (by simp only [T.far]; omega)
    | node b d l r =>
      obtain ⟨nl, nr, n1, n2, n3⟩ := nodup_node hn
      have hsz' := hsz
      simp only [T.size] at hz hsz'
      have ns' := ns
      have nt' := nt
      simp only [T.ids, List.mem_cons, List.mem_append, not_or] at ns' nt'
      obtain ⟨s1, s2, _⟩ := snd.kids
      have il : ∀ W, Host W tb sb rt p0 p1 → Lies W (l.mv d.w) → Calls Try.prog 46 #[.pointer (some ⟨tb, 0, none⟩), .pointer l.root, .int .i64 p, .int .i64 q] W (OverPost p q (l.mv d.w) tb sb rt p0 p1 W) := fun W hH hW => by
        have := ih (l.mv d.w) (by rw [T.size_mv]; omega) W hH hW (by rwa [T.ids_mv]) (by rw [T.ids_mv]; exact ns'.2.1) (by rw [T.ids_mv]; exact nt'.2.1) s1 (by rw [T.size_mv]; omega)
        rwa [T.root_mv] at this
      have ir : ∀ W, Host W tb sb rt p0 p1 → Lies W (r.mv d.w) → Calls Try.prog 46 #[.pointer (some ⟨tb, 0, none⟩), .pointer r.root, .int .i64 p, .int .i64 q] W (OverPost p q (r.mv d.w) tb sb rt p0 p1 W) := fun W hH hW => by
        have := ih (r.mv d.w) (by rw [T.size_mv]; omega) W hH hW (by rwa [T.ids_mv]) (by rw [T.ids_mv]; exact ns'.2.2) (by rw [T.ids_mv]; exact nt'.2.2) s2 (by rw [T.size_mv]; omega)
        rwa [T.root_mv] at this
      by_cases h1 : d.m < q
      · exact over_none p q (.node b d l r) tb sb rt p0 p1 w hh hl snd.gd h1
      · by_cases h2 : d.f ≤ p
        · by_cases h3 : q ≤ d.t
          · exact over_in p q b d l r tb sb rt p0 p1 w hh hl hn ns nt snd hsz h1 h2 h3 il ir
          · exact over_out p q b d l r tb sb rt p0 p1 w hh hl hn ns nt snd hsz h1 h2 (by omega) il ir
        · exact over_past p q b d l r tb sb rt p0 p1 w hh hl hn ns nt snd h1 (by omega) il
end Go.Proofs.Ytmbclcplinmblaa
