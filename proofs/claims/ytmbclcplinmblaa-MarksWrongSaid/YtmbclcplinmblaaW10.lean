/- The walk of marks' first. -/
import Derived.Test.YtmbclcplinmblaaW9
namespace Go.Proofs.Ytmbclcplinmblaa
open Go.RowKit

def FirstPost (t : T) (tb sb : Nat) (rt : Option Addr) (p0 p1 : Value) (w : World) (e : Ending) (w' : World) : Prop :=
  ∃ t' s, e = .returned (.tuple #[Sp.val s, .pointer t'.root]) ∧ Left w w' tb sb rt p0 p1 t t' ∧ t'.Gd ∧ t.flat 0 = s :: t'.flat 0 ∧ T.inR s.f ∧ T.inR s.t ∧ t'.size + 1 = t.size

def zeroSp : Sp := ⟨0, 0, 0⟩

/-- the box written anew -/
theorem Look.setBox {w : World} {s : Sp} {tb sb : Nat} {rt : Option Addr} {p0 p1 : Value} {b : Nat} {d : Nd} {l r : T} {w1 : World} (h : Look w s tb sb rt p0 p1 b d l r w1) (hlt : ∀ i ∈ (T.node b d l r).ids, i < w.heap.size) (ht : tb < w.heap.size ∧ sb < w.heap.size) (s' : Sp) :
    Look w s' tb sb rt p0 p1 b d l r (((w1.setCell ⟨w.heap.size, 0, none⟩ (.int .i64 s'.f)).setCell ⟨w.heap.size, 1, none⟩ (.int .i64 s'.t)).setCell ⟨w.heap.size, 2, none⟩ (.int .i64 s'.k)) := by
  have o : Only (fun i => i = w.heap.size) w1 (((w1.setCell ⟨w.heap.size, 0, none⟩ (.int .i64 s'.f)).setCell ⟨w.heap.size, 1, none⟩ (.int .i64 s'.t)).setCell ⟨w.heap.size, 2, none⟩ (.int .i64 s'.k)) :=
    (((Only.refl (fun i => i = w.heap.size) w1).set _ 0 _ (fun _ => rfl)).set _ 1 _ (fun _ => rfl)).set _ 2 _ (fun _ => rfl)
  have nl : ∀ i ∈ (l.mv d.w).ids, ¬ i = w.heap.size := fun i hi e => by
    have := hlt i (by rw [T.ids_mv] at hi; simp [T.ids, hi])
    omega
  have nr : ∀ i ∈ (r.mv d.w).ids, ¬ i = w.heap.size := fun i hi e => by
    have := hlt i (by rw [T.ids_mv] at hi; simp [T.ids, hi])
    omega
  have nb := hlt b (by simp [T.ids])
  exact ⟨o.keep h.blk (by omega), Lies.only o h.ll nl, Lies.only o h.lr nr, h.host.only o (by omega) (by omega), h.only.trans o (fun _ _ h => h) (fun i hi e => by omega),
    setAt (setAt (setAt h.box 0 _ rfl) 1 _ rfl) 2 _ rfl⟩

set_option maxRecDepth 100000 in
set_option maxHeartbeats 2000000 in
theorem first_leaf (b : Nat) (d : Nd) (r : T) (tb sb : Nat) (rt : Option Addr) (p0 p1 : Value) (w : World) (hh : Host w tb sb rt p0 p1) (hl : Lies w (.node b d .nil r)) (hn : (T.node b d .nil r).ids.Nodup)
    (ns : sb ∉ (T.node b d .nil r).ids) (nt : tb ∉ (T.node b d .nil r).ids) (snd : Sound (.node b d .nil r)) :
    Calls Try.prog 58 #[.pointer (some ⟨tb, 0, none⟩), .pointer (some ⟨b, 0, none⟩)] w (FirstPost (.node b d .nil r) tb sb rt p0 p1 w) := by
  have oa : Only (fun _ => False) w (w.alloc (spObj zeroSp)) := (Only.refl (fun _ => False) w).alloc _
  have HK := Lib.hid (look_calls b d .nil r (w.alloc (spObj zeroSp)) tb sb rt p0 p1 (hh.only oa id id) (hl.alloc _) hn ns nt)
  have HB := Lib.hid (fun w1 => look_box (w := w) (w1 := w1) (s := zeroSp) hl hh)
  have HLT := Lib.hid (Lies.lt hl)
  have HT := Lib.hid hh.lt
  have HFIN : Hid (∀ w2, Look w (T.own d) tb sb rt p0 p1 b d .nil r w2 → FirstPost (.node b d .nil r) tb sb rt p0 p1 w (.returned (.tuple #[(T.own d).val, .pointer (T.mv d.w r).root])) w2) := fun w2 L2 => by
    obtain ⟨s1, s2, hf, ht, ef, r1, r2⟩ := snd.kids
    obtain ⟨nl, nr, n1, n2, n3⟩ := nodup_node hn
    refine ⟨r.mv d.w, T.own d, rfl, ⟨L2.lr, L2.host, L2.only, by rwa [T.ids_mv], fun i hi => Or.inl (by rw [T.ids_mv] at hi; simp [T.ids, hi])⟩, s2.gd, by rw [ef]; rfl, hf, ht, by simp [T.size_mv, T.size]⟩
  clear hh hl hn ns nt snd oa
  unfold spObj zeroSp at *
  go_enter Try.func58, Try.ntmps58
  go_wp2_with fail
  refine HK.out.mono ?_
  rintro e w1 ⟨rfl, h1, h2, h3⟩
  have L1 := HB.out _ h1 h2 h3
  clear h1 h2 h3
  have y0 := (nodeAt L1.blk).c0
  have y1 := (nodeAt L1.blk).c1
  have y2 := (nodeAt L1.blk).c2
  have y3 := (nodeAt L1.blk).c3
  have y4 := (nodeAt L1.blk).c4
  simp only [T.mv, T.root] at y3
  have x0 := cellAt L1.box 0 rfl
  have x1 := cellAt L1.box 1 rfl
  have x2 := cellAt L1.box 2 rfl
  have xz := freeAt L1.box
  have nq : ¬ w.heap.size = b := by have := HLT.out b (by simp [T.ids]); omega
  have nq' : ¬ b = w.heap.size := fun e => nq e.symm
  go_wp2_with fail
  go_region
  go_wp2_with fail
  have L2 := (L1.setBox HLT.out HT.out (T.own d)).step (Only.refl (fun _ => False) _).drew
  clear L1 x0 x1 x2 xz y0 y1 y2 y3 y4
  simp only [T.own] at L2
  generalize World.drew _ = w4 at L2 ⊢
  have x0 := cellAt L2.box 0 rfl
  have x1 := cellAt L2.box 1 rfl
  have x2 := cellAt L2.box 2 rfl
  refine bodyPost_ret (v := .tuple #[(T.own d).val, .pointer (T.mv d.w r).root]) (by simp [results, Try.results58, go_sem, x0, x1, x2, Sp.val, T.own]) rfl ?_
  exact HFIN.out _ L2

theorem left_box {w : World} {s : Sp} {tb sb : Nat} {rt : Option Addr} {p0 p1 : Value} {b : Nat} {d : Nd} {l r t1 : T} {w2 w3 : World} (hlt : ∀ i ∈ (T.node b d l r).ids, i < w.heap.size) (ht : tb < w.heap.size ∧ sb < w.heap.size)
    (L2 : Look w s tb sb rt p0 p1 b d l r w2) (h3 : Left w2 w3 tb sb rt p0 p1 (l.mv d.w) t1) : w3.heap[w.heap.size]? = some (spObj s) :=
  h3.only.keep L2.box (by
    rintro (e | e)
    · omega
    · have := hlt _ (by rw [T.ids_mv] at e; simp only [T.ids, List.mem_cons, List.mem_append]; exact Or.inr (Or.inl e))
      omega)

theorem nodeFin_leftO {w : World} {s : Sp} {tb sb : Nat} {rt : Option Addr} {p0 p1 : Value} {b : Nat} {d : Nd} {l r t1 : T} {w2 w3 w4 : World} (hh : Host w tb sb rt p0 p1) (hn : (T.node b d l r).ids.Nodup)
    (ns : sb ∉ (T.node b d l r).ids) (nt : tb ∉ (T.node b d l r).ids) (hl : Lies w (.node b d l r)) (L2 : Look w s tb sb rt p0 p1 b d l r w2) (h3 : Left w2 w3 tb sb rt p0 p1 (l.mv d.w) t1)
    (o4 : Only (fun i => i = b ∨ i = w.heap.size) w3 w4) (b4 : w4.heap[b]? = some (nodeObj { d with w := 0 } t1.root (r.mv d.w).root)) : NodeFin w tb sb rt p0 p1 (.node b d l r) b { d with w := 0 } t1 (r.mv d.w) w4 := by
  obtain ⟨_, _, n1, n2, n3⟩ := nodup_node hn
  have hlt := Lies.lt hl
  have sz := L2.only.size
  have hb : b ∈ (T.node b d l r).ids := by simp [T.ids]
  have hbs : ¬ b = sb := fun e => ns (e ▸ hb)
  have hbt : ¬ b = tb := fun e => nt (e ▸ hb)
  have lsub : ∀ i ∈ (l.mv d.w).ids, i ∈ (T.node b d l r).ids := fun i hi => by rw [T.ids_mv] at hi; simp [T.ids, hi]
  have rsub : ∀ i ∈ (r.mv d.w).ids, i ∈ (T.node b d l r).ids := fun i hi => by rw [T.ids_mv] at hi; simp [T.ids, hi]
  have r3 : Lies w3 (r.mv d.w) := Lies.only h3.only L2.lr (fun i hi x => by
    rcases x with x | x
    · exact ns (x ▸ rsub i hi)
    · rw [T.ids_mv] at hi x; exact n3 i x hi)
  have bx := lt_of_blk L2.box
  have bl := hlt b hb
  obtain ⟨N1, N2⟩ := side_nodup (d' := { d with w := 0 }) (r := r.mv d.w) (l := l.mv d.w) (b := b) (d := d) (N := w2.heap.size) (by simpa [T.ids, T.ids_mv] using hn)
    (fun i hi => Nat.lt_of_lt_of_le (hlt i (by simpa [T.ids, T.ids_mv] using hi)) sz) h3.nodup h3.ids
  have ids : ∀ i ∈ (T.node b { d with w := 0 } t1 (r.mv d.w)).ids, i ∈ (T.node b d l r).ids ∨ w.heap.size ≤ i := fun i hi => by
    rcases N2 i hi with h | h
    · exact Or.inl (by simpa [T.ids, T.ids_mv] using h)
    · exact Or.inr (Nat.le_trans sz h)
  obtain ⟨lt1, lt2⟩ := hh.lt
  refine ⟨⟨b4, Lies.only o4 h3.lies ?_, Lies.only o4 r3 ?_⟩, N1, h3.host.only o4 (by rintro (e | e); exact hbt e.symm; omega) (by rintro (e | e); exact hbs e.symm; omega), ?_, ids, ?_, ?_⟩
  · rintro i hi (rfl | rfl)
    · rcases h3.ids i hi with h | h
      · exact n1 (by rwa [T.ids_mv] at h)
      · omega
    · rcases h3.ids _ hi with h | h
      · have := hlt _ (lsub _ h); omega
      · omega
  · rintro i hi (rfl | rfl)
    · exact n2 (by rwa [T.ids_mv] at hi)
    · have := hlt _ (rsub _ hi); omega
  · refine (L2.only.trans h3.only (fun _ _ h => h) (fun i _ h => ?_)).trans o4 (fun _ _ h => h) (fun i hi h => by
      rcases h with h | h
      · exact Or.inr (h ▸ hb)
      · omega)
    rcases h with h | h
    · exact Or.inl h
    · exact Or.inr (lsub i h)
  · intro h
    rcases ids tb h with h | h
    · exact nt h
    · omega
  · intro h
    rcases ids sb h with h | h
    · exact ns h
    · omega


theorem Left.box {w w5 w6 : World} {tb sb : Nat} {rt : Option Addr} {p0 p1 : Value} {t t' : T} (h : Left w w5 tb sb rt p0 p1 t t') (o : Only (fun i => i = w.heap.size) w5 w6) (hn : w.heap.size ∉ t'.ids) (hh : tb < w.heap.size ∧ sb < w.heap.size) : Left w w6 tb sb rt p0 p1 t t' :=
  ⟨Lies.only o h.lies (fun i hi e => hn (e ▸ hi)), h.host.only o (by omega) (by omega), h.only.trans o (fun _ _ h => h) (fun i hi e => by omega), h.nodup, h.ids⟩

set_option maxRecDepth 100000 in
set_option maxHeartbeats 2000000 in
theorem first_node (b : Nat) (d : Nd) (lb : Nat) (ld : Nd) (ll lr r : T) (tb sb : Nat) (rt : Option Addr) (p0 p1 : Value) (w : World) (hh : Host w tb sb rt p0 p1) (hl : Lies w (.node b d (.node lb ld ll lr) r)) (hn : (T.node b d (.node lb ld ll lr) r).ids.Nodup)
    (ns : sb ∉ (T.node b d (.node lb ld ll lr) r).ids) (nt : tb ∉ (T.node b d (.node lb ld ll lr) r).ids) (snd : Sound (.node b d (.node lb ld ll lr) r))
    (ih : ∀ W, Host W tb sb rt p0 p1 → Lies W (T.mv d.w (.node lb ld ll lr)) → Calls Try.prog 58 #[.pointer (some ⟨tb, 0, none⟩), .pointer (some ⟨lb, 0, none⟩)] W (FirstPost (T.mv d.w (.node lb ld ll lr)) tb sb rt p0 p1 W)) :
    Calls Try.prog 58 #[.pointer (some ⟨tb, 0, none⟩), .pointer (some ⟨b, 0, none⟩)] w (FirstPost (.node b d (.node lb ld ll lr) r) tb sb rt p0 p1 w) := by
  have oa : Only (fun _ => False) w (w.alloc (spObj zeroSp)) := (Only.refl (fun _ => False) w).alloc _
  have HK := Lib.hid (look_calls b d (.node lb ld ll lr) r (w.alloc (spObj zeroSp)) tb sb rt p0 p1 (hh.only oa id id) (hl.alloc _) hn ns nt)
  have HB := Lib.hid (fun w1 => look_box (w := w) (w1 := w1) (s := zeroSp) hl hh)
  have HLT := Lib.hid (Lies.lt hl)
  have HT := Lib.hid hh.lt
  have IH : Hid (∀ W, Host W tb sb rt p0 p1 → Lies W (T.mv d.w (.node lb ld ll lr)) → Calls Try.prog 58 #[.pointer (some ⟨tb, 0, none⟩), .pointer (some ⟨lb, 0, none⟩)] W fun e w' => ∃ (t1 : T) (sf st sk : Int), e = .returned (.tuple #[.agg #[.int .i64 sf, .int .i64 st, .int .i64 sk], .pointer t1.root]) ∧
      Left W w' tb sb rt p0 p1 (T.mv d.w (.node lb ld ll lr)) t1 ∧ t1.Gd ∧ (T.mv d.w (.node lb ld ll lr)).flat 0 = ⟨sf, st, sk⟩ :: t1.flat 0 ∧ T.inR sf ∧ T.inR st ∧ t1.size + 1 = (T.mv d.w (.node lb ld ll lr)).size) := fun W h1 h2 =>
    (ih W h1 h2).mono (by rintro e w' ⟨t1, s1, h⟩; exact ⟨t1, s1.f, s1.t, s1.k, h⟩)
  have HFIN : Hid (∀ w2 w3 w4 t1 sf st sk, Look w zeroSp tb sb rt p0 p1 b d (.node lb ld ll lr) r w2 → Left w2 w3 tb sb rt p0 p1 (T.mv d.w (.node lb ld ll lr)) t1 → t1.Gd → (T.mv d.w (.node lb ld ll lr)).flat 0 = ⟨sf, st, sk⟩ :: t1.flat 0 → T.inR sf → T.inR st → t1.size + 1 = (T.mv d.w (.node lb ld ll lr)).size →
      Only (fun i => i = b ∨ i = w.heap.size) w3 w4 → w4.heap[b]? = some (nodeObj { d with w := 0 } t1.root (r.mv d.w).root) → NodeFin w tb sb rt p0 p1 (.node b d (.node lb ld ll lr) r) b { d with w := 0 } t1 (r.mv d.w) w4 ∧ t1.hok ∧ (r.mv d.w).hok ∧ t1.size + (r.mv d.w).size < 4611686018427387904 ∧ w.heap.size ∉ (T.node b { d with w := 0 } t1 (r.mv d.w)).ids ∧
      ∀ w5 w6, Lies w5 (T.even (.node b { d with w := 0 } t1 (r.mv d.w))) → Only (fun i => i ∈ (T.node b { d with w := 0 } t1 (r.mv d.w)).ids) w4 w5 → Only (fun i => i = w.heap.size) w5 w6 →
        FirstPost (.node b d (.node lb ld ll lr) r) tb sb rt p0 p1 w (.returned (.tuple #[.agg #[.int .i64 sf, .int .i64 st, .int .i64 sk], .pointer (T.even (.node b { d with w := 0 } t1 (r.mv d.w))).root])) w6) :=
    fun w2 w3 w4 t1 sf st sk L2 h3 g3 f3 i1 i2 s3 o4 b4 => by
      obtain ⟨s1, s2, hf, ht, ef, r1, r2⟩ := snd.kids
      have z1 := s1.small
      have z2 := s2.small
      have NF := nodeFin_leftO hh hn ns nt hl L2 h3 o4 b4
      have hbox : w.heap.size ∉ (T.node b { d with w := 0 } t1 (r.mv d.w)).ids := fun hi => by
        have hlt := Lies.lt hl
        have hx := lt_of_blk L2.box
        simp only [T.ids, List.mem_cons, List.mem_append] at hi hlt
        rcases hi with h | h | h
        · have := hlt b (Or.inl rfl); omega
        · rcases h3.ids _ h with h | h
          · rw [T.ids_mv] at h; have := hlt _ (Or.inr (Or.inl (by simpa [T.ids] using h))); omega
          · omega
        · rw [T.ids_mv] at h; have := hlt _ (Or.inr (Or.inr h)); omega
      refine ⟨NF, g3.hok, s2.gd.hok, by omega, hbox, fun w5 w6 h5 o5 o6 => ⟨_, ⟨sf, st, sk⟩, rfl, (NF.left h5 o5).box o6 (fun h => hbox ((T.ids_even _).mem_iff.1 h)) hh.lt, T.Gd.even g3 s2.gd rfl hf ht (by omega), ?_, i1, i2, ?_⟩⟩
      · rw [T.flat_even_node (d := { d with w := 0 }) rfl hf ht, ef, f3]; rfl
      · rw [T.size_even]; simp only [T.size, T.size_mv] at *; omega
  have HNS := Lib.hid ns
  have HN := Lib.hid hn
  clear hh hl hn ns nt snd oa ih
  unfold spObj zeroSp at *
  go_enter Try.func58, Try.ntmps58
  go_wp2_with fail
  refine HK.out.mono ?_
  rintro e w1 ⟨rfl, h1, h2, h3⟩
  have L1 := HB.out _ h1 h2 h3
  clear h1 h2 h3
  have ya := (nodeAt L1.blk).c3
  simp only [T.mv, T.root] at ya
  have nq : ¬ w.heap.size = b := by have := HLT.out b (by simp [T.ids]); omega
  have nq' : ¬ b = w.heap.size := fun e => nq e.symm
  go_wp2_with fail
  go_region_with (go_at_call 58; refine (IH.out _ (L1.host.drewN 1) (Lies.drew L1.ll)).mono ?_; rintro e w3 ⟨t1, sf, st, sk, rfl, h3, g3, f3, i1, i2, s3⟩; have y3 := (nodeAt (left_blk HN.out HNS.out (L1.step (Only.refl (fun _ => False) w1).drew) h3)).c3; have yz := (nodeAt (left_blk HN.out HNS.out (L1.step (Only.refl (fun _ => False) w1).drew) h3)).fz; have x0 := cellAt (left_box HLT.out HT.out (L1.step (Only.refl (fun _ => False) w1).drew) h3) 0 rfl; have x1 := cellAt (left_box HLT.out HT.out (L1.step (Only.refl (fun _ => False) w1).drew) h3) 1 rfl; have x2 := cellAt (left_box HLT.out HT.out (L1.step (Only.refl (fun _ => False) w1).drew) h3) 2 rfl; have xz := freeAt (left_box HLT.out HT.out (L1.step (Only.refl (fun _ => False) w1).drew) h3))
  have L2 := L1.step (Only.refl (fun _ => False) w1).drew
  have b3 := left_blk HN.out HNS.out L2 h3
  have x3 := left_box HLT.out HT.out L2 h3
  go_wp2_with fail
  have o4 : Only (fun i => i = b ∨ i = w.heap.size) w3 ((((w3.setCell ⟨w.heap.size, 0, none⟩ (.int .i64 sf)).setCell ⟨w.heap.size, 1, none⟩ (.int .i64 st)).setCell ⟨w.heap.size, 2, none⟩ (.int .i64 sk)).setCell ⟨b, 3, none⟩ (.pointer t1.root)) :=
    ((((Only.refl (fun i => i = b ∨ i = w.heap.size) w3).set _ 0 _ (fun _ => Or.inr rfl)).set _ 1 _ (fun _ => Or.inr rfl)).set _ 2 _ (fun _ => Or.inr rfl)).set b 3 _ (fun _ => Or.inl rfl)
  have b4 : ((((w3.setCell ⟨w.heap.size, 0, none⟩ (.int .i64 sf)).setCell ⟨w.heap.size, 1, none⟩ (.int .i64 st)).setCell ⟨w.heap.size, 2, none⟩ (.int .i64 sk)).setCell ⟨b, 3, none⟩ (.pointer t1.root)).heap[b]? = some (nodeObj { d with w := 0 } t1.root (r.mv d.w).root) :=
    setAt (setOther (setOther (setOther b3 nq') nq') nq') 3 _ rfl
  have x4 : ((((w3.setCell ⟨w.heap.size, 0, none⟩ (.int .i64 sf)).setCell ⟨w.heap.size, 1, none⟩ (.int .i64 st)).setCell ⟨w.heap.size, 2, none⟩ (.int .i64 sk)).setCell ⟨b, 3, none⟩ (.pointer t1.root)).heap[w.heap.size]? = some (.cells #[.int .i64 sf, .int .i64 st, .int .i64 sk] 25 (0, 0)) :=
    setOther (setAt (setAt (setAt x3 0 _ rfl) 1 _ rfl) 2 _ rfl) nq
  have HF := Lib.hid (HFIN.out _ w3 _ t1 sf st sk L2 h3 g3 f3 i1 i2 s3 o4 b4)
  have X4 := Lib.hid x4
  clear x0 x1 x2 xz yz y3 ya L2 b3 x3 o4 b4 x4 h3 g3 f3 i1 i2 s3 L1
  generalize ((((w3.setCell ⟨w.heap.size, 0, none⟩ (.int .i64 sf)).setCell ⟨w.heap.size, 1, none⟩ (.int .i64 st)).setCell ⟨w.heap.size, 2, none⟩ (.int .i64 sk)).setCell ⟨b, 3, none⟩ (.pointer t1.root)) = w4 at HF X4 ⊢
  have x0 := cellAt X4.out 0 rfl
  have x1 := cellAt X4.out 1 rfl
  have x2 := cellAt X4.out 2 rfl
  go_region_with (go_at_call 57; refine (even_calls b { d with w := 0 } t1 (r.mv d.w) _ (Lies.drew HF.out.1.lies) HF.out.1.nodup HF.out.2.1 HF.out.2.2.1 HF.out.2.2.2.1).mono ?_; rintro e w5 ⟨rfl, h5, o5⟩; have z0 := cellAt (o5.keep (w := w4.drew) X4.out HF.out.2.2.2.2.1) 0 rfl; have z1 := cellAt (o5.keep (w := w4.drew) X4.out HF.out.2.2.2.2.1) 1 rfl; have z2 := cellAt (o5.keep (w := w4.drew) X4.out HF.out.2.2.2.2.1) 2 rfl; have zz := freeAt (o5.keep (w := w4.drew) X4.out HF.out.2.2.2.2.1))
  all_goals
    have o6 : Only (fun i => i = w.heap.size) w5 (((w5.setCell ⟨w.heap.size, 0, none⟩ (.int .i64 sf)).setCell ⟨w.heap.size, 1, none⟩ (.int .i64 st)).setCell ⟨w.heap.size, 2, none⟩ (.int .i64 sk)) :=
      (((Only.refl (fun i => i = w.heap.size) w5).set _ 0 _ (fun _ => rfl)).set _ 1 _ (fun _ => rfl)).set _ 2 _ (fun _ => rfl)
    have x6 : (((w5.setCell ⟨w.heap.size, 0, none⟩ (.int .i64 sf)).setCell ⟨w.heap.size, 1, none⟩ (.int .i64 st)).setCell ⟨w.heap.size, 2, none⟩ (.int .i64 sk)).heap[w.heap.size]? = some (.cells #[.int .i64 sf, .int .i64 st, .int .i64 sk] 25 (0, 0)) :=
      setAt (setAt (setAt (o5.keep (w := w4.drew) X4.out HF.out.2.2.2.2.1) 0 _ rfl) 1 _ rfl) 2 _ rfl
    have HG := Lib.hid (HF.out.2.2.2.2.2 w5 _ h5 ((Only.refl _ w4).drew.trans o5 (fun _ _ h => h) (fun _ _ h => h)) o6)
    clear x0 x1 x2 z0 z1 z2 zz o5 o6 h5
    go_wp2_with fail
    generalize (((w5.setCell ⟨w.heap.size, 0, none⟩ (.int .i64 sf)).setCell ⟨w.heap.size, 1, none⟩ (.int .i64 st)).setCell ⟨w.heap.size, 2, none⟩ (.int .i64 sk)) = w6 at HG x6 ⊢
    have x0 := cellAt x6 0 rfl
    have x1 := cellAt x6 1 rfl
    have x2 := cellAt x6 2 rfl
    refine bodyPost_ret (v := .tuple #[.agg #[.int .i64 sf, .int .i64 st, .int .i64 sk], .pointer (T.even (.node b { d with w := 0 } t1 (r.mv d.w))).root]) (by simp [results, Try.results58, go_sem, x0, x1, x2]) rfl ?_
    exact HG.out

/-- FIRST: of whatever tree that is not empty -/
theorem first_calls (tb sb : Nat) (rt : Option Addr) (p0 p1 : Value) : ∀ (n : Nat) (b : Nat) (d : Nd) (l r : T), l.size ≤ n → ∀ w, Host w tb sb rt p0 p1 → Lies w (.node b d l r) → (T.node b d l r).ids.Nodup → sb ∉ (T.node b d l r).ids → tb ∉ (T.node b d l r).ids → Sound (.node b d l r) →
    Calls Try.prog 58 #[.pointer (some ⟨tb, 0, none⟩), .pointer (some ⟨b, 0, none⟩)] w (FirstPost (.node b d l r) tb sb rt p0 p1 w) := by
  intro n
  induction n with
  | zero =>
    intro b d l r hz w hh hl hn ns nt snd
    cases l with
    | nil => exact first_leaf b d r tb sb rt p0 p1 w hh hl hn ns nt snd
    | node lb ld ll lr => simp [T.size] at hz
  | succ n ih =>
    intro b d l r hz w hh hl hn ns nt snd
    cases l with
    | nil => exact first_leaf b d r tb sb rt p0 p1 w hh hl hn ns nt snd
    | node lb ld ll lr =>
      obtain ⟨nl, nr, n1, n2, n3⟩ := nodup_node hn
      obtain ⟨s1, s2, _⟩ := snd.kids
      refine first_node b d lb ld ll lr r tb sb rt p0 p1 w hh hl hn ns nt snd (fun W hH hW => ?_)
      simp only [T.size] at hz
      have hid : (T.mv d.w (.node lb ld ll lr)).ids = (T.node lb ld ll lr).ids := T.ids_mv _ _
      have sub : ∀ i ∈ (T.node lb ld ll lr).ids, i ∈ (T.node b d (.node lb ld ll lr) r).ids := fun i hi => by
        show i ∈ b :: ((T.node lb ld ll lr).ids ++ r.ids)
        simp [hi]
      exact ih lb (T.mvD d.w ld) ll lr (by omega) W hH hW nl (fun h => ns (sub _ h)) (fun h => nt (sub _ h)) s1
end Go.Proofs.Ytmbclcplinmblaa
