/- The walk of within's inner function: both trees' spans over a place, one behind the other. -/
import Derived.Test.YtmbclcplinmblaaW25
namespace Go.Proofs.Ytmbclcplinmblaa
open Go.RowKit

theorem Only.cellS {S : Nat → Prop} {w w' : World} (o : Only S w w') {a : Addr} {v : Value} (h : w.cell? a = some v) (hn : ¬ S a.block) : w'.cell? a = some v :=
  (World.cell?_of_block (w := w) (o.block a.block (block_lt_of_cell h) hn)).trans h

theorem Owns.isSlice {w : World} {B : Nat} {v : Value} {l : List Sp} (h : Owns w B v l) : ∃ ad n c, v = .slice ad n c := by
  rcases h.cases with ⟨rfl, _⟩ | ⟨g, cap, _, rfl, _⟩
  · exact ⟨_, _, _, rfl⟩
  · exact ⟨_, _, _, rfl⟩

/-- what a round of within's inner function hands on -/
structure Rnd (mb : Nat) (tb : Bool → Nat) (I : Nat → Prop) (F : Bool → List Sp) (bl : Nat) (w wr : World) (v : Value) (l : List Sp) : Prop where
  has : Has wr mb tb I F
  only : Only (fun i => I i ∨ i = bl) w wr
  box : wr.heap[bl]? = some (.cells #[v] 32 (0, 0))
  own : Owns wr w.heap.size v l

theorem Rnd.drew {mb : Nat} {tb : Bool → Nat} {I : Nat → Prop} {F : Bool → List Sp} {bl : Nat} {w wr : World} {v : Value} {l : List Sp} (h : Rnd mb tb I F bl w wr v l) : Rnd mb tb I F bl w wr.drew v l :=
  ⟨h.has.only (Only.refl (fun _ => False) wr).drew (fun _ _ _ h => h), h.only.drew, h.box, h.own.only (Only.refl (fun _ => False) wr).drew (fun _ _ h => h)⟩

/-- behind the call of over -/
structure Mid (mb : Nat) (tb : Bool → Nat) (I : Nat → Prop) (F : Bool → List Sp) (bl : Nat) (w w1 : World) (v v1 : Value) (l l1 : List Sp) : Prop where
  has : Has w1 mb tb I F
  only : Only (fun i => I i ∨ i = bl) w w1
  box : w1.heap[bl]? = some (.cells #[v] 32 (0, 0))
  own : Owns w1 w.heap.size v l
  own1 : Owns w1 w.heap.size v1 l1

theorem Rnd.mid {mb : Nat} {tb : Bool → Nat} {I : Nat → Prop} {F : Bool → List Sp} {bl : Nat} {w wr w1 : World} {v v1 : Value} {l l1 : List Sp} (h : Rnd mb tb I F bl w wr v l) (hI : ∀ i, I i → i < w.heap.size) (nb : ¬ I bl) (o : Only I wr w1) (h1 : Has w1 mb tb I F) (h2 : Owns w1 wr.heap.size v1 l1) : Mid mb tb I F bl w w1 v v1 l l1 :=
  ⟨h1, h.only.trans o (fun _ _ h => h) (fun _ _ h => Or.inl h), o.keep h.box nb, h.own.only o (fun i hi hn => by have := hI i hn; omega), h2.mono h.only.size⟩

theorem Mid.fin {mb : Nat} {tb : Bool → Nat} {I : Nat → Prop} {F : Bool → List Sp} {bl : Nat} {w w1 w2 : World} {v v1 v2 : Value} {l l1 : List Sp} (h : Mid mb tb I F bl w w1 v v1 l l1) (hI : ∀ i, I i → i < w.heap.size) (hb : bl < w.heap.size) (nb : ¬ I bl) (o : Only (fun i => w.heap.size ≤ i) w1 w2) (h2 : Owns w2 w.heap.size v2 (l ++ l1)) :
    w2.heap[bl]? = some (.cells #[v] 32 (0, 0)) ∧ Rnd mb tb I F bl w (w2.setCell ⟨bl, 0, none⟩ v2) v2 (l ++ l1) := by
  have hk := o.keep h.box (by omega)
  have o2 : Only (fun i => i = bl) w2 (w2.setCell ⟨bl, 0, none⟩ v2) := (Only.refl _ w2).set _ _ _ (fun _ => rfl)
  have o1 : Only (fun i => I i ∨ i = bl) w w2 := h.only.trans o (fun _ _ h => h) (fun i hi h => by omega)
  refine ⟨hk, ⟨?_, o1.trans o2 (fun _ _ h => h) (fun _ _ h => Or.inr h), setAt hk 0 v2 rfl, ?_⟩⟩
  · exact (h.has.only o (fun i _ hi h => by have := hI i hi; omega)).only o2 (fun i _ hi h => nb (h ▸ hi))
  · exact h2.only o2 (fun i hi h => by omega)

set_option maxRecDepth 100000 in
set_option maxHeartbeats 1000000 in
theorem within_fun (p q : Int) (hq : 0 ≤ q) (mb : Nat) (tb : Bool → Nat) (I : Nat → Prop) (F : Bool → List Sp) (bm bl bf bt : Nat) (w : World) (h : Has w mb tb I F) (hlen : ∀ c, (F c).length ≤ 1099511627776) (hI : ∀ i, I i → i < w.heap.size)
    (hm : w.cell? ⟨bm, 0, none⟩ = some (P mb)) (hl : w.heap[bl]? = some (.cells #[.slice none 0 0] 32 (0, 0))) (hf : w.cell? ⟨bf, 0, none⟩ = some (.int .i64 p)) (ht : w.cell? ⟨bt, 0, none⟩ = some (.int .i64 q))
    (nl : ¬ I bl) (nf : ¬ I bf) (nt : ¬ I bt) (ef : bf ≠ bl) (et : bt ≠ bl) :
    Calls Try.prog 49 #[P bm, P bl, P bf, P bt] w fun e w' => e = .returned (.tuple #[]) ∧ ∃ v, Rnd mb tb I F bl w w' v ((F false).filter (overB p q) ++ (F true).filter (overB p q)) := by
  have hbl := lt_of_blk hl
  have hR0 : Hid (Rnd mb tb I F bl w w (.slice none 0 0) []) := ⟨h, Only.refl _ _, hl, Owns.nil _ _⟩
  -- a round's beginning: the tree's root, and what a call of over leaves
  have HO : Hid (∀ c W v l, Rnd mb tb I F bl w W v l → ∃ rt, W.cell? ⟨tb c, 0, none⟩ = some (.pointer rt) ∧ tb c ≠ bl ∧ tb c < w.heap.size ∧ Calls Try.prog 46 #[P (tb c), .pointer rt, .int .i64 p, .int .i64 q] W.drew fun e w' => ∃ v1, e = .returned v1 ∧ Hid (Mid mb tb I F bl w w' v v1 l ((F c).filter (overB p q))) ∧ w'.cell? ⟨tb c, 0, none⟩ = some (.pointer rt) ∧ w'.cell? ⟨bf, 0, none⟩ = some (.int .i64 p) ∧ w'.cell? ⟨bt, 0, none⟩ = some (.int .i64 q)) := by
    intro c W v l hr
    have hrd := hr.drew
    obtain ⟨t, h2⟩ := hrd.has
    have htr := (h2.half c).host.tree
    have hc0 := cellAt htr 0 rfl
    have kf : W.drew.cell? ⟨bf, 0, none⟩ = some (.int .i64 p) := hrd.only.cellS hf (fun h => h.elim nf ef)
    have kt : W.drew.cell? ⟨bt, 0, none⟩ = some (.int .i64 q) := hrd.only.cellS ht (fun h => h.elim nt et)
    refine ⟨(t c).root, hc0, fun e => nl (e ▸ h2.tbI c), hI _ (h2.tbI c), (over_T c p q hq mb tb I F t W.drew h2 (hlen c)).mono fun e w' hp => ?_⟩
    obtain ⟨v1, he, p1, p2, p3, p4⟩ := hp
    exact ⟨v1, he, hrd.mid hI nl p2 p1 p3, cellAt ((p4 c).trans htr) 0 rfl, p2.cellS kf nf, p2.cellS kt nt⟩
  have HS : Hid (∀ c w1 w2 v v1 v2 l, Mid mb tb I F bl w w1 v v1 l ((F c).filter (overB p q)) → Only (fun i => w.heap.size ≤ i) w1 w2 → Owns w2 w.heap.size v2 (l ++ (F c).filter (overB p q)) → w2.heap[bl]? = some (.cells #[v] 32 (0, 0)) ∧ Rnd mb tb I F bl w (w2.setCell ⟨bl, 0, none⟩ v2) v2 (l ++ (F c).filter (overB p q))) := fun c w1 w2 v v1 v2 l hm o ow => hm.fin hI hbl nl o ow
  have HL : Hid (∀ c, ((F c).filter (overB p q)).length ≤ 1099511627776) := fun c => Nat.le_trans (List.length_filter_le _ _) (hlen c)
  -- the marks' own cells
  have hA : ∃ st, w.heap[mb]? = some (.cells #[P (tb false), P (tb true), .int .i64 st] 55 (0, 0)) := by
    obtain ⟨t, h2⟩ := h; exact (h2.half false).host.marks
  obtain ⟨st, hA⟩ := hA
  have a0 := cellAt hA 0 rfl
  have a1 := cellAt hA 1 rfl
  have HF : Hid (∀ W v l, Rnd mb tb I F bl w W v l → W.cell? ⟨bf, 0, none⟩ = some (.int .i64 p) ∧ W.cell? ⟨bt, 0, none⟩ = some (.int .i64 q)) := fun W v l hr => ⟨hr.only.cellS hf (fun h => h.elim nf ef), hr.only.cellS ht (fun h => h.elim nt et)⟩
  have HB := Lib.hid hbl
  have hbf := block_lt_of_cell hf
  have hbt := block_lt_of_cell ht
  have HBF := Lib.hid hbf
  have HBT := Lib.hid hbt
  clear h hlen hI hl hf ht nl nf nt hA hbl hbf hbt
  have HEF := Lib.hid ef
  have HET := Lib.hid et
  clear ef et
  go_enter Try.func49, Try.ntmps49
  go_wp2_with fail
  have i0 : ∀ W, (Instr.index 53 (.agg #[P (tb false), P (tb true)]) (.int .i64 0)).run Try.prog W = .ok (P (tb false)) W := fun _ => by kernel_rfl
  have i1 : ∀ W, (Instr.index 53 (.agg #[P (tb false), P (tb true)]) (.int .i64 1)).run Try.prog W = .ok (P (tb true)) W := fun _ => by kernel_rfl
  clear hm a0 a1
  refine wp_loop_rounds 3 ?_
  rw [rounds_succ]
  go_wp2_with fail
  obtain ⟨rt, y0, y1, y2, OV⟩ := HO.out false _ _ _ hR0.out
  have kk := HF.out _ _ _ hR0.out
  have K0 := And.intro y0 kk
  have bx := cellAt hR0.out.drew.box 0 rfl
  clear y0 kk
  have OV := Lib.hid OV
  have Y1 := Lib.hid y1
  have Y2 := Lib.hid y2
  clear y1 y2
  refine wp_region_held_drew (S := (fun w' : World => w'.cell? ⟨tb false, 0, none⟩ = some (.pointer rt) ∧ w'.cell? ⟨bf, 0, none⟩ = some (.int .i64 p) ∧ w'.cell? ⟨bt, 0, none⟩ = some (.int .i64 q))) (by kernel_rfl) K0 (fun K => ?_)
  refine wpAnyH_take (i := 1) (oi := { dst := some 14, op := .move (.tmp 5), type := 52, pos := "marks.go:264", after := #[], guard := none }) (v := ?_) rfl (by kernel_rfl) (by kernel_rfl) (by kernel_rfl) (fun _ _ _ h => h) (Or.inl ⟨by rfl, ?_⟩) K ?_
  rotate_left
  · (intro W hSw; (try dsimp only at hSw); go_split_ands; go_simp; (try with_reducible rfl))
  try simp only [Act.put, List.setIfInBounds_toArray, List.set_cons_zero, List.set_cons_succ]
  refine wpAnyH_take (i := 2) (oi := { dst := some 15, op := .move (.tmp 5), type := 52, pos := "marks.go:264", after := #[], guard := none }) (v := ?_) rfl (by kernel_rfl) (by kernel_rfl) (by kernel_rfl) (fun _ _ _ h => h) (Or.inl ⟨by rfl, ?_⟩) K ?_
  rotate_left
  · (intro W hSw; (try dsimp only at hSw); go_split_ands; go_simp; (try with_reducible rfl))
  try simp only [Act.put, List.setIfInBounds_toArray, List.set_cons_zero, List.set_cons_succ]
  refine wpAnyH_take (i := 3) (oi := { dst := some 16, op := .nilCheck (.tmp 15), type := 0, pos := "marks.go:264", after := #[{ on := 2, ground := .data }], guard := none }) (v := ?_) rfl (by kernel_rfl) (by kernel_rfl) (by kernel_rfl) (fun _ _ _ h => h) (Or.inl ⟨by rfl, ?_⟩) K ?_
  rotate_left
  · (intro W hSw; (try dsimp only at hSw); go_split_ands; go_simp; (try with_reducible rfl))
  try simp only [Act.put, List.setIfInBounds_toArray, List.set_cons_zero, List.set_cons_succ]
  refine wpAnyH_take (i := 4) (oi := { dst := some 17, op := .fieldAddr 59 (.tmp 16) 0, type := 0, pos := "marks.go:264", after := #[{ on := 3, ground := .data }], guard := none }) (v := ?_) rfl (by kernel_rfl) (by kernel_rfl) (by kernel_rfl) (fun _ _ _ h => h) (Or.inl ⟨by rfl, ?_⟩) K ?_
  rotate_left
  · (intro W hSw; (try dsimp only at hSw); go_split_ands; go_simp; (try with_reducible rfl))
  try simp only [Act.put, List.setIfInBounds_toArray, List.set_cons_zero, List.set_cons_succ]
  refine wpAnyH_take (i := 5) (oi := { dst := some 18, op := .load 57 (.tmp 17), type := 57, pos := "marks.go:264", after := #[{ on := 4, ground := .data }], guard := none }) (v := ?_) rfl (by kernel_rfl) (by kernel_rfl) (by kernel_rfl) (fun _ _ _ h => h) (Or.inl ⟨by rfl, ?_⟩) K ?_
  rotate_left
  · (intro W hSw; (try dsimp only at hSw); go_split_ands; go_simp; (try with_reducible rfl))
  try simp only [Act.put, List.setIfInBounds_toArray, List.set_cons_zero, List.set_cons_succ]
  refine wpAnyH_take (i := 6) (oi := { dst := some 19, op := .load 3 (.tmp 2), type := 3, pos := "marks.go:264", after := #[], guard := none }) (v := ?_) rfl (by kernel_rfl) (by kernel_rfl) (by kernel_rfl) (fun _ _ _ h => h) (Or.inl ⟨by rfl, ?_⟩) K ?_
  rotate_left
  · (intro W hSw; (try dsimp only at hSw); go_split_ands; go_simp; (try with_reducible rfl))
  try simp only [Act.put, List.setIfInBounds_toArray, List.set_cons_zero, List.set_cons_succ]
  refine wpAnyH_take (i := 7) (oi := { dst := some 20, op := .load 3 (.tmp 3), type := 3, pos := "marks.go:264", after := #[], guard := none }) (v := ?_) rfl (by kernel_rfl) (by kernel_rfl) (by kernel_rfl) (fun _ _ _ h => h) (Or.inl ⟨by rfl, ?_⟩) K ?_
  rotate_left
  · (intro W hSw; (try dsimp only at hSw); go_split_ands; go_simp; (try with_reducible rfl))
  try simp only [Act.put, List.setIfInBounds_toArray, List.set_cons_zero, List.set_cons_succ]
  refine wpAnyH_ready (rs := [0, 8]) (by kernel_rfl) (by simp) ?_
  refine AllReadyH.cons (o := { dst := some 13, op := .load 32 (.tmp 1), type := 32, pos := "marks.go:264", after := #[], guard := none }) rfl (fun K0 hK => ?_) ?_
  · go_simp
    refine hK.out _ _ K (fun _ => ?_)
    clear hK K0
    try simp only [Act.put, List.setIfInBounds_toArray, List.set_cons_zero, List.set_cons_succ]
    refine wpAnyH_ready (rs := [8]) (by kernel_rfl) (by simp) ?_
    refine AllReadyH.cons (o := { dst := some 21, op := .call { callee := .value (.func 46), args := #[.tmp 14, .tmp 18, .tmp 19, .tmp 20], argTypes := #[52, 57, 3, 3] }, type := 32, pos := "marks.go:264", after := #[{ on := 1, ground := .data }, { on := 5, ground := .data }, { on := 6, ground := .data }, { on := 7, ground := .data }], guard := none }) rfl (fun K0 hK => ?_) ?_
    · go_simp
      refine OV.out.mono ?_
      rintro e w1 ⟨v1, rfl, MI, K⟩
      have bx := cellAt MI.out.box 0 rfl
      try dsimp only
      refine hK.out _ _ K (fun _ => ?_)
      clear hK K0
      try simp only [Act.put, List.setIfInBounds_toArray, List.set_cons_zero, List.set_cons_succ]
      refine wpAnyH_ready (rs := [9]) (by kernel_rfl) (by simp) ?_
      refine AllReadyH.cons (o := { dst := some 22, op := .call { callee := .builtin .append, args := #[.tmp 13, .tmp 21], argTypes := #[32, 32] }, type := 32, pos := "marks.go:264", after := #[{ on := 0, ground := .data }, { on := 8, ground := .data }, { on := 8, ground := .chain }], guard := none }) rfl (fun K0 hK => ?_) ?_
      · refine step_app rfl _ _ rfl w.heap.size w.heap.size _ _ _ _ rfl rfl MI.out.own MI.out.own1 MI.out.only.size ?_ ?_
        · have := HL.out false; have := HL.out false; simp only [List.length_nil]; omega
        intro v2 w2 ow o2
        obtain ⟨ad, nn, cp, rfl⟩ := ow.isSlice
        obtain ⟨bx2, FI⟩ := HS.out false _ _ _ _ _ _ MI.out o2 ow
        have FI := Lib.hid FI
        have bx := cellAt bx2 0 rfl
        have bz := freeAt bx2
        clear bx2
        have K := And.intro (o2.cellS K.1 (Nat.not_le.2 Y2.out)) (And.intro (o2.cellS K.2.1 (Nat.not_le.2 HBF.out)) (o2.cellS K.2.2 (Nat.not_le.2 HBT.out)))
        refine hK.out _ _ K (fun _ => ?_)
        clear hK K0
        try simp only [Act.put, List.setIfInBounds_toArray, List.set_cons_zero, List.set_cons_succ]
        refine wpAnyH_ready (rs := [10]) (by kernel_rfl) (by simp) ?_
        refine AllReadyH.cons (o := { dst := none, op := .store 32 (.tmp 1) (.tmp 22), type := 0, pos := "marks.go:264", after := #[{ on := 9, ground := .data }, { on := 9, ground := .chain }, { on := 0, ground := .phase }, { on := 1, ground := .phase }, { on := 2, ground := .phase }, { on := 3, ground := .phase }, { on := 4, ground := .phase }, { on := 5, ground := .phase }, { on := 6, ground := .phase }, { on := 7, ground := .phase }, { on := 8, ground := .phase }, { on := 9, ground := .phase }], guard := none }) rfl (fun K0 hK => ?_) ?_
        · go_simp
          have K := And.intro ((World.cell?_setCell_far _ ⟨bl, 0, none⟩ _ (.slice ad nn cp) (fun e => Y1.out e.symm)).trans K.1) (And.intro ((World.cell?_setCell_far _ ⟨bl, 0, none⟩ _ (.slice ad nn cp) (fun e => HEF.out e.symm)).trans K.2.1) ((World.cell?_setCell_far _ ⟨bl, 0, none⟩ _ (.slice ad nn cp) (fun e => HET.out e.symm)).trans K.2.2))
          refine hK.out _ _ K (fun _ => ?_)
          clear hK K0
          try simp only [Act.put, List.setIfInBounds_toArray, List.set_cons_zero, List.set_cons_succ]
          refine wpAnyH_done (by kernel_rfl) ?_ _
          have HR1 := FI
          clear bx bz K OV Y1 Y2
          go_wp2_with fail
          rw [rounds_succ]
          go_wp2_with fail
          obtain ⟨rt, y0, y1, y2, OV⟩ := HO.out true _ _ _ HR1.out
          have kk := HF.out _ _ _ HR1.out
          have K0 := And.intro y0 kk
          have bx := cellAt HR1.out.drew.box 0 rfl
          clear y0 kk
          have OV := Lib.hid OV
          have Y1 := Lib.hid y1
          have Y2 := Lib.hid y2
          clear y1 y2
          refine wp_region_held_drew (S := (fun w' : World => w'.cell? ⟨tb true, 0, none⟩ = some (.pointer rt) ∧ w'.cell? ⟨bf, 0, none⟩ = some (.int .i64 p) ∧ w'.cell? ⟨bt, 0, none⟩ = some (.int .i64 q))) (by kernel_rfl) K0 (fun K => ?_)
          refine wpAnyH_take (i := 1) (oi := { dst := some 14, op := .move (.tmp 5), type := 52, pos := "marks.go:264", after := #[], guard := none }) (v := ?_) rfl (by kernel_rfl) (by kernel_rfl) (by kernel_rfl) (fun _ _ _ h => h) (Or.inl ⟨by rfl, ?_⟩) K ?_
          rotate_left
          · (intro W hSw; (try dsimp only at hSw); go_split_ands; go_simp; (try with_reducible rfl))
          try simp only [Act.put, List.setIfInBounds_toArray, List.set_cons_zero, List.set_cons_succ]
          refine wpAnyH_take (i := 2) (oi := { dst := some 15, op := .move (.tmp 5), type := 52, pos := "marks.go:264", after := #[], guard := none }) (v := ?_) rfl (by kernel_rfl) (by kernel_rfl) (by kernel_rfl) (fun _ _ _ h => h) (Or.inl ⟨by rfl, ?_⟩) K ?_
          rotate_left
          · (intro W hSw; (try dsimp only at hSw); go_split_ands; go_simp; (try with_reducible rfl))
          try simp only [Act.put, List.setIfInBounds_toArray, List.set_cons_zero, List.set_cons_succ]
          refine wpAnyH_take (i := 3) (oi := { dst := some 16, op := .nilCheck (.tmp 15), type := 0, pos := "marks.go:264", after := #[{ on := 2, ground := .data }], guard := none }) (v := ?_) rfl (by kernel_rfl) (by kernel_rfl) (by kernel_rfl) (fun _ _ _ h => h) (Or.inl ⟨by rfl, ?_⟩) K ?_
          rotate_left
          · (intro W hSw; (try dsimp only at hSw); go_split_ands; go_simp; (try with_reducible rfl))
          try simp only [Act.put, List.setIfInBounds_toArray, List.set_cons_zero, List.set_cons_succ]
          refine wpAnyH_take (i := 4) (oi := { dst := some 17, op := .fieldAddr 59 (.tmp 16) 0, type := 0, pos := "marks.go:264", after := #[{ on := 3, ground := .data }], guard := none }) (v := ?_) rfl (by kernel_rfl) (by kernel_rfl) (by kernel_rfl) (fun _ _ _ h => h) (Or.inl ⟨by rfl, ?_⟩) K ?_
          rotate_left
          · (intro W hSw; (try dsimp only at hSw); go_split_ands; go_simp; (try with_reducible rfl))
          try simp only [Act.put, List.setIfInBounds_toArray, List.set_cons_zero, List.set_cons_succ]
          refine wpAnyH_take (i := 5) (oi := { dst := some 18, op := .load 57 (.tmp 17), type := 57, pos := "marks.go:264", after := #[{ on := 4, ground := .data }], guard := none }) (v := ?_) rfl (by kernel_rfl) (by kernel_rfl) (by kernel_rfl) (fun _ _ _ h => h) (Or.inl ⟨by rfl, ?_⟩) K ?_
          rotate_left
          · (intro W hSw; (try dsimp only at hSw); go_split_ands; go_simp; (try with_reducible rfl))
          try simp only [Act.put, List.setIfInBounds_toArray, List.set_cons_zero, List.set_cons_succ]
          refine wpAnyH_take (i := 6) (oi := { dst := some 19, op := .load 3 (.tmp 2), type := 3, pos := "marks.go:264", after := #[], guard := none }) (v := ?_) rfl (by kernel_rfl) (by kernel_rfl) (by kernel_rfl) (fun _ _ _ h => h) (Or.inl ⟨by rfl, ?_⟩) K ?_
          rotate_left
          · (intro W hSw; (try dsimp only at hSw); go_split_ands; go_simp; (try with_reducible rfl))
          try simp only [Act.put, List.setIfInBounds_toArray, List.set_cons_zero, List.set_cons_succ]
          refine wpAnyH_take (i := 7) (oi := { dst := some 20, op := .load 3 (.tmp 3), type := 3, pos := "marks.go:264", after := #[], guard := none }) (v := ?_) rfl (by kernel_rfl) (by kernel_rfl) (by kernel_rfl) (fun _ _ _ h => h) (Or.inl ⟨by rfl, ?_⟩) K ?_
          rotate_left
          · (intro W hSw; (try dsimp only at hSw); go_split_ands; go_simp; (try with_reducible rfl))
          try simp only [Act.put, List.setIfInBounds_toArray, List.set_cons_zero, List.set_cons_succ]
          refine wpAnyH_ready (rs := [0, 8]) (by kernel_rfl) (by simp) ?_
          refine AllReadyH.cons (o := { dst := some 13, op := .load 32 (.tmp 1), type := 32, pos := "marks.go:264", after := #[], guard := none }) rfl (fun K0 hK => ?_) ?_
          · go_simp
            refine hK.out _ _ K (fun _ => ?_)
            clear hK K0
            try simp only [Act.put, List.setIfInBounds_toArray, List.set_cons_zero, List.set_cons_succ]
            refine wpAnyH_ready (rs := [8]) (by kernel_rfl) (by simp) ?_
            refine AllReadyH.cons (o := { dst := some 21, op := .call { callee := .value (.func 46), args := #[.tmp 14, .tmp 18, .tmp 19, .tmp 20], argTypes := #[52, 57, 3, 3] }, type := 32, pos := "marks.go:264", after := #[{ on := 1, ground := .data }, { on := 5, ground := .data }, { on := 6, ground := .data }, { on := 7, ground := .data }], guard := none }) rfl (fun K0 hK => ?_) ?_
            · go_simp
              refine OV.out.mono ?_
              rintro e w1 ⟨v1, rfl, MI, K⟩
              have bx := cellAt MI.out.box 0 rfl
              try dsimp only
              refine hK.out _ _ K (fun _ => ?_)
              clear hK K0
              try simp only [Act.put, List.setIfInBounds_toArray, List.set_cons_zero, List.set_cons_succ]
              refine wpAnyH_ready (rs := [9]) (by kernel_rfl) (by simp) ?_
              refine AllReadyH.cons (o := { dst := some 22, op := .call { callee := .builtin .append, args := #[.tmp 13, .tmp 21], argTypes := #[32, 32] }, type := 32, pos := "marks.go:264", after := #[{ on := 0, ground := .data }, { on := 8, ground := .data }, { on := 8, ground := .chain }], guard := none }) rfl (fun K0 hK => ?_) ?_
              · refine step_app rfl _ _ rfl w.heap.size w.heap.size _ _ _ _ rfl rfl MI.out.own MI.out.own1 MI.out.only.size ?_ ?_
                · have := HL.out true; have := HL.out false; simp only [List.nil_append]; omega
                intro v2 w2 ow o2
                obtain ⟨ad, nn, cp, rfl⟩ := ow.isSlice
                obtain ⟨bx2, FI⟩ := HS.out true _ _ _ _ _ _ MI.out o2 ow
                have FI := Lib.hid FI
                have bx := cellAt bx2 0 rfl
                have bz := freeAt bx2
                clear bx2
                have K := And.intro (o2.cellS K.1 (Nat.not_le.2 Y2.out)) (And.intro (o2.cellS K.2.1 (Nat.not_le.2 HBF.out)) (o2.cellS K.2.2 (Nat.not_le.2 HBT.out)))
                refine hK.out _ _ K (fun _ => ?_)
                clear hK K0
                try simp only [Act.put, List.setIfInBounds_toArray, List.set_cons_zero, List.set_cons_succ]
                refine wpAnyH_ready (rs := [10]) (by kernel_rfl) (by simp) ?_
                refine AllReadyH.cons (o := { dst := none, op := .store 32 (.tmp 1) (.tmp 22), type := 0, pos := "marks.go:264", after := #[{ on := 9, ground := .data }, { on := 9, ground := .chain }, { on := 0, ground := .phase }, { on := 1, ground := .phase }, { on := 2, ground := .phase }, { on := 3, ground := .phase }, { on := 4, ground := .phase }, { on := 5, ground := .phase }, { on := 6, ground := .phase }, { on := 7, ground := .phase }, { on := 8, ground := .phase }, { on := 9, ground := .phase }], guard := none }) rfl (fun K0 hK => ?_) ?_
                · go_simp
                  have K := And.intro ((World.cell?_setCell_far _ ⟨bl, 0, none⟩ _ (.slice ad nn cp) (fun e => Y1.out e.symm)).trans K.1) (And.intro ((World.cell?_setCell_far _ ⟨bl, 0, none⟩ _ (.slice ad nn cp) (fun e => HEF.out e.symm)).trans K.2.1) ((World.cell?_setCell_far _ ⟨bl, 0, none⟩ _ (.slice ad nn cp) (fun e => HET.out e.symm)).trans K.2.2))
                  refine hK.out _ _ K (fun _ => ?_)
                  clear hK K0
                  try simp only [Act.put, List.setIfInBounds_toArray, List.set_cons_zero, List.set_cons_succ]
                  refine wpAnyH_done (by kernel_rfl) ?_ _
                  clear bx bz K OV
                  have HR2 := FI
                  clear FI
                  go_wp2_with fail
                  rw [rounds_succ]
                  go_wp2_with fail
                  go_end0
                  exact ⟨rfl, _, HR2.out⟩
                exact AllReadyH.nil
              exact AllReadyH.nil
            exact AllReadyH.nil
          refine AllReadyH.cons (o := { dst := some 21, op := .call { callee := .value (.func 46), args := #[.tmp 14, .tmp 18, .tmp 19, .tmp 20], argTypes := #[52, 57, 3, 3] }, type := 32, pos := "marks.go:264", after := #[{ on := 1, ground := .data }, { on := 5, ground := .data }, { on := 6, ground := .data }, { on := 7, ground := .data }], guard := none }) rfl (fun K0 hK => ?_) ?_
          · go_simp
            refine OV.out.mono ?_
            rintro e w1 ⟨v1, rfl, MI, K⟩
            have bx := cellAt MI.out.box 0 rfl
            try dsimp only
            refine hK.out _ _ K (fun _ => ?_)
            clear hK K0
            try simp only [Act.put, List.setIfInBounds_toArray, List.set_cons_zero, List.set_cons_succ]
            refine wpAnyH_ready (rs := [0]) (by kernel_rfl) (by simp) ?_
            refine AllReadyH.cons (o := { dst := some 13, op := .load 32 (.tmp 1), type := 32, pos := "marks.go:264", after := #[], guard := none }) rfl (fun K0 hK => ?_) ?_
            · go_simp
              refine hK.out _ _ K (fun _ => ?_)
              clear hK K0
              try simp only [Act.put, List.setIfInBounds_toArray, List.set_cons_zero, List.set_cons_succ]
              refine wpAnyH_ready (rs := [9]) (by kernel_rfl) (by simp) ?_
              refine AllReadyH.cons (o := { dst := some 22, op := .call { callee := .builtin .append, args := #[.tmp 13, .tmp 21], argTypes := #[32, 32] }, type := 32, pos := "marks.go:264", after := #[{ on := 0, ground := .data }, { on := 8, ground := .data }, { on := 8, ground := .chain }], guard := none }) rfl (fun K0 hK => ?_) ?_
              · refine step_app rfl _ _ rfl w.heap.size w.heap.size _ _ _ _ rfl rfl MI.out.own MI.out.own1 MI.out.only.size ?_ ?_
                · have := HL.out true; have := HL.out false; simp only [List.nil_append]; omega
                intro v2 w2 ow o2
                obtain ⟨ad, nn, cp, rfl⟩ := ow.isSlice
                obtain ⟨bx2, FI⟩ := HS.out true _ _ _ _ _ _ MI.out o2 ow
                have FI := Lib.hid FI
                have bx := cellAt bx2 0 rfl
                have bz := freeAt bx2
                clear bx2
                have K := And.intro (o2.cellS K.1 (Nat.not_le.2 Y2.out)) (And.intro (o2.cellS K.2.1 (Nat.not_le.2 HBF.out)) (o2.cellS K.2.2 (Nat.not_le.2 HBT.out)))
                refine hK.out _ _ K (fun _ => ?_)
                clear hK K0
                try simp only [Act.put, List.setIfInBounds_toArray, List.set_cons_zero, List.set_cons_succ]
                refine wpAnyH_ready (rs := [10]) (by kernel_rfl) (by simp) ?_
                refine AllReadyH.cons (o := { dst := none, op := .store 32 (.tmp 1) (.tmp 22), type := 0, pos := "marks.go:264", after := #[{ on := 9, ground := .data }, { on := 9, ground := .chain }, { on := 0, ground := .phase }, { on := 1, ground := .phase }, { on := 2, ground := .phase }, { on := 3, ground := .phase }, { on := 4, ground := .phase }, { on := 5, ground := .phase }, { on := 6, ground := .phase }, { on := 7, ground := .phase }, { on := 8, ground := .phase }, { on := 9, ground := .phase }], guard := none }) rfl (fun K0 hK => ?_) ?_
                · go_simp
                  have K := And.intro ((World.cell?_setCell_far _ ⟨bl, 0, none⟩ _ (.slice ad nn cp) (fun e => Y1.out e.symm)).trans K.1) (And.intro ((World.cell?_setCell_far _ ⟨bl, 0, none⟩ _ (.slice ad nn cp) (fun e => HEF.out e.symm)).trans K.2.1) ((World.cell?_setCell_far _ ⟨bl, 0, none⟩ _ (.slice ad nn cp) (fun e => HET.out e.symm)).trans K.2.2))
                  refine hK.out _ _ K (fun _ => ?_)
                  clear hK K0
                  try simp only [Act.put, List.setIfInBounds_toArray, List.set_cons_zero, List.set_cons_succ]
                  refine wpAnyH_done (by kernel_rfl) ?_ _
                  clear bx bz K OV
                  have HR2 := FI
                  clear FI
                  go_wp2_with fail
                  rw [rounds_succ]
                  go_wp2_with fail
                  go_end0
                  exact ⟨rfl, _, HR2.out⟩
                exact AllReadyH.nil
              exact AllReadyH.nil
            exact AllReadyH.nil
          exact AllReadyH.nil
        exact AllReadyH.nil
      exact AllReadyH.nil
    exact AllReadyH.nil
  refine AllReadyH.cons (o := { dst := some 21, op := .call { callee := .value (.func 46), args := #[.tmp 14, .tmp 18, .tmp 19, .tmp 20], argTypes := #[52, 57, 3, 3] }, type := 32, pos := "marks.go:264", after := #[{ on := 1, ground := .data }, { on := 5, ground := .data }, { on := 6, ground := .data }, { on := 7, ground := .data }], guard := none }) rfl (fun K0 hK => ?_) ?_
  · go_simp
    refine OV.out.mono ?_
    rintro e w1 ⟨v1, rfl, MI, K⟩
    have bx := cellAt MI.out.box 0 rfl
    try dsimp only
    refine hK.out _ _ K (fun _ => ?_)
    clear hK K0
    try simp only [Act.put, List.setIfInBounds_toArray, List.set_cons_zero, List.set_cons_succ]
    refine wpAnyH_ready (rs := [0]) (by kernel_rfl) (by simp) ?_
    refine AllReadyH.cons (o := { dst := some 13, op := .load 32 (.tmp 1), type := 32, pos := "marks.go:264", after := #[], guard := none }) rfl (fun K0 hK => ?_) ?_
    · go_simp
      refine hK.out _ _ K (fun _ => ?_)
      clear hK K0
      try simp only [Act.put, List.setIfInBounds_toArray, List.set_cons_zero, List.set_cons_succ]
      refine wpAnyH_ready (rs := [9]) (by kernel_rfl) (by simp) ?_
      refine AllReadyH.cons (o := { dst := some 22, op := .call { callee := .builtin .append, args := #[.tmp 13, .tmp 21], argTypes := #[32, 32] }, type := 32, pos := "marks.go:264", after := #[{ on := 0, ground := .data }, { on := 8, ground := .data }, { on := 8, ground := .chain }], guard := none }) rfl (fun K0 hK => ?_) ?_
      · refine step_app rfl _ _ rfl w.heap.size w.heap.size _ _ _ _ rfl rfl MI.out.own MI.out.own1 MI.out.only.size ?_ ?_
        · have := HL.out false; have := HL.out false; simp only [List.length_nil]; omega
        intro v2 w2 ow o2
        obtain ⟨ad, nn, cp, rfl⟩ := ow.isSlice
        obtain ⟨bx2, FI⟩ := HS.out false _ _ _ _ _ _ MI.out o2 ow
        have FI := Lib.hid FI
        have bx := cellAt bx2 0 rfl
        have bz := freeAt bx2
        clear bx2
        have K := And.intro (o2.cellS K.1 (Nat.not_le.2 Y2.out)) (And.intro (o2.cellS K.2.1 (Nat.not_le.2 HBF.out)) (o2.cellS K.2.2 (Nat.not_le.2 HBT.out)))
        refine hK.out _ _ K (fun _ => ?_)
        clear hK K0
        try simp only [Act.put, List.setIfInBounds_toArray, List.set_cons_zero, List.set_cons_succ]
        refine wpAnyH_ready (rs := [10]) (by kernel_rfl) (by simp) ?_
        refine AllReadyH.cons (o := { dst := none, op := .store 32 (.tmp 1) (.tmp 22), type := 0, pos := "marks.go:264", after := #[{ on := 9, ground := .data }, { on := 9, ground := .chain }, { on := 0, ground := .phase }, { on := 1, ground := .phase }, { on := 2, ground := .phase }, { on := 3, ground := .phase }, { on := 4, ground := .phase }, { on := 5, ground := .phase }, { on := 6, ground := .phase }, { on := 7, ground := .phase }, { on := 8, ground := .phase }, { on := 9, ground := .phase }], guard := none }) rfl (fun K0 hK => ?_) ?_
        · go_simp
          have K := And.intro ((World.cell?_setCell_far _ ⟨bl, 0, none⟩ _ (.slice ad nn cp) (fun e => Y1.out e.symm)).trans K.1) (And.intro ((World.cell?_setCell_far _ ⟨bl, 0, none⟩ _ (.slice ad nn cp) (fun e => HEF.out e.symm)).trans K.2.1) ((World.cell?_setCell_far _ ⟨bl, 0, none⟩ _ (.slice ad nn cp) (fun e => HET.out e.symm)).trans K.2.2))
          refine hK.out _ _ K (fun _ => ?_)
          clear hK K0
          try simp only [Act.put, List.setIfInBounds_toArray, List.set_cons_zero, List.set_cons_succ]
          refine wpAnyH_done (by kernel_rfl) ?_ _
          have HR1 := FI
          clear bx bz K OV Y1 Y2
          go_wp2_with fail
          rw [rounds_succ]
          go_wp2_with fail
          obtain ⟨rt, y0, y1, y2, OV⟩ := HO.out true _ _ _ HR1.out
          have kk := HF.out _ _ _ HR1.out
          have K0 := And.intro y0 kk
          have bx := cellAt HR1.out.drew.box 0 rfl
          clear y0 kk
          have OV := Lib.hid OV
          have Y1 := Lib.hid y1
          have Y2 := Lib.hid y2
          clear y1 y2
          refine wp_region_held_drew (S := (fun w' : World => w'.cell? ⟨tb true, 0, none⟩ = some (.pointer rt) ∧ w'.cell? ⟨bf, 0, none⟩ = some (.int .i64 p) ∧ w'.cell? ⟨bt, 0, none⟩ = some (.int .i64 q))) (by kernel_rfl) K0 (fun K => ?_)
          refine wpAnyH_take (i := 1) (oi := { dst := some 14, op := .move (.tmp 5), type := 52, pos := "marks.go:264", after := #[], guard := none }) (v := ?_) rfl (by kernel_rfl) (by kernel_rfl) (by kernel_rfl) (fun _ _ _ h => h) (Or.inl ⟨by rfl, ?_⟩) K ?_
          rotate_left
          · (intro W hSw; (try dsimp only at hSw); go_split_ands; go_simp; (try with_reducible rfl))
          try simp only [Act.put, List.setIfInBounds_toArray, List.set_cons_zero, List.set_cons_succ]
          refine wpAnyH_take (i := 2) (oi := { dst := some 15, op := .move (.tmp 5), type := 52, pos := "marks.go:264", after := #[], guard := none }) (v := ?_) rfl (by kernel_rfl) (by kernel_rfl) (by kernel_rfl) (fun _ _ _ h => h) (Or.inl ⟨by rfl, ?_⟩) K ?_
          rotate_left
          · (intro W hSw; (try dsimp only at hSw); go_split_ands; go_simp; (try with_reducible rfl))
          try simp only [Act.put, List.setIfInBounds_toArray, List.set_cons_zero, List.set_cons_succ]
          refine wpAnyH_take (i := 3) (oi := { dst := some 16, op := .nilCheck (.tmp 15), type := 0, pos := "marks.go:264", after := #[{ on := 2, ground := .data }], guard := none }) (v := ?_) rfl (by kernel_rfl) (by kernel_rfl) (by kernel_rfl) (fun _ _ _ h => h) (Or.inl ⟨by rfl, ?_⟩) K ?_
          rotate_left
          · (intro W hSw; (try dsimp only at hSw); go_split_ands; go_simp; (try with_reducible rfl))
          try simp only [Act.put, List.setIfInBounds_toArray, List.set_cons_zero, List.set_cons_succ]
          refine wpAnyH_take (i := 4) (oi := { dst := some 17, op := .fieldAddr 59 (.tmp 16) 0, type := 0, pos := "marks.go:264", after := #[{ on := 3, ground := .data }], guard := none }) (v := ?_) rfl (by kernel_rfl) (by kernel_rfl) (by kernel_rfl) (fun _ _ _ h => h) (Or.inl ⟨by rfl, ?_⟩) K ?_
          rotate_left
          · (intro W hSw; (try dsimp only at hSw); go_split_ands; go_simp; (try with_reducible rfl))
          try simp only [Act.put, List.setIfInBounds_toArray, List.set_cons_zero, List.set_cons_succ]
          refine wpAnyH_take (i := 5) (oi := { dst := some 18, op := .load 57 (.tmp 17), type := 57, pos := "marks.go:264", after := #[{ on := 4, ground := .data }], guard := none }) (v := ?_) rfl (by kernel_rfl) (by kernel_rfl) (by kernel_rfl) (fun _ _ _ h => h) (Or.inl ⟨by rfl, ?_⟩) K ?_
          rotate_left
          · (intro W hSw; (try dsimp only at hSw); go_split_ands; go_simp; (try with_reducible rfl))
          try simp only [Act.put, List.setIfInBounds_toArray, List.set_cons_zero, List.set_cons_succ]
          refine wpAnyH_take (i := 6) (oi := { dst := some 19, op := .load 3 (.tmp 2), type := 3, pos := "marks.go:264", after := #[], guard := none }) (v := ?_) rfl (by kernel_rfl) (by kernel_rfl) (by kernel_rfl) (fun _ _ _ h => h) (Or.inl ⟨by rfl, ?_⟩) K ?_
          rotate_left
          · (intro W hSw; (try dsimp only at hSw); go_split_ands; go_simp; (try with_reducible rfl))
          try simp only [Act.put, List.setIfInBounds_toArray, List.set_cons_zero, List.set_cons_succ]
          refine wpAnyH_take (i := 7) (oi := { dst := some 20, op := .load 3 (.tmp 3), type := 3, pos := "marks.go:264", after := #[], guard := none }) (v := ?_) rfl (by kernel_rfl) (by kernel_rfl) (by kernel_rfl) (fun _ _ _ h => h) (Or.inl ⟨by rfl, ?_⟩) K ?_
          rotate_left
          · (intro W hSw; (try dsimp only at hSw); go_split_ands; go_simp; (try with_reducible rfl))
          try simp only [Act.put, List.setIfInBounds_toArray, List.set_cons_zero, List.set_cons_succ]
          refine wpAnyH_ready (rs := [0, 8]) (by kernel_rfl) (by simp) ?_
          refine AllReadyH.cons (o := { dst := some 13, op := .load 32 (.tmp 1), type := 32, pos := "marks.go:264", after := #[], guard := none }) rfl (fun K0 hK => ?_) ?_
          · go_simp
            refine hK.out _ _ K (fun _ => ?_)
            clear hK K0
            try simp only [Act.put, List.setIfInBounds_toArray, List.set_cons_zero, List.set_cons_succ]
            refine wpAnyH_ready (rs := [8]) (by kernel_rfl) (by simp) ?_
            refine AllReadyH.cons (o := { dst := some 21, op := .call { callee := .value (.func 46), args := #[.tmp 14, .tmp 18, .tmp 19, .tmp 20], argTypes := #[52, 57, 3, 3] }, type := 32, pos := "marks.go:264", after := #[{ on := 1, ground := .data }, { on := 5, ground := .data }, { on := 6, ground := .data }, { on := 7, ground := .data }], guard := none }) rfl (fun K0 hK => ?_) ?_
            · go_simp
              refine OV.out.mono ?_
              rintro e w1 ⟨v1, rfl, MI, K⟩
              have bx := cellAt MI.out.box 0 rfl
              try dsimp only
              refine hK.out _ _ K (fun _ => ?_)
              clear hK K0
              try simp only [Act.put, List.setIfInBounds_toArray, List.set_cons_zero, List.set_cons_succ]
              refine wpAnyH_ready (rs := [9]) (by kernel_rfl) (by simp) ?_
              refine AllReadyH.cons (o := { dst := some 22, op := .call { callee := .builtin .append, args := #[.tmp 13, .tmp 21], argTypes := #[32, 32] }, type := 32, pos := "marks.go:264", after := #[{ on := 0, ground := .data }, { on := 8, ground := .data }, { on := 8, ground := .chain }], guard := none }) rfl (fun K0 hK => ?_) ?_
              · refine step_app rfl _ _ rfl w.heap.size w.heap.size _ _ _ _ rfl rfl MI.out.own MI.out.own1 MI.out.only.size ?_ ?_
                · have := HL.out true; have := HL.out false; simp only [List.nil_append]; omega
                intro v2 w2 ow o2
                obtain ⟨ad, nn, cp, rfl⟩ := ow.isSlice
                obtain ⟨bx2, FI⟩ := HS.out true _ _ _ _ _ _ MI.out o2 ow
                have FI := Lib.hid FI
                have bx := cellAt bx2 0 rfl
                have bz := freeAt bx2
                clear bx2
                have K := And.intro (o2.cellS K.1 (Nat.not_le.2 Y2.out)) (And.intro (o2.cellS K.2.1 (Nat.not_le.2 HBF.out)) (o2.cellS K.2.2 (Nat.not_le.2 HBT.out)))
                refine hK.out _ _ K (fun _ => ?_)
                clear hK K0
                try simp only [Act.put, List.setIfInBounds_toArray, List.set_cons_zero, List.set_cons_succ]
                refine wpAnyH_ready (rs := [10]) (by kernel_rfl) (by simp) ?_
                refine AllReadyH.cons (o := { dst := none, op := .store 32 (.tmp 1) (.tmp 22), type := 0, pos := "marks.go:264", after := #[{ on := 9, ground := .data }, { on := 9, ground := .chain }, { on := 0, ground := .phase }, { on := 1, ground := .phase }, { on := 2, ground := .phase }, { on := 3, ground := .phase }, { on := 4, ground := .phase }, { on := 5, ground := .phase }, { on := 6, ground := .phase }, { on := 7, ground := .phase }, { on := 8, ground := .phase }, { on := 9, ground := .phase }], guard := none }) rfl (fun K0 hK => ?_) ?_
                · go_simp
                  have K := And.intro ((World.cell?_setCell_far _ ⟨bl, 0, none⟩ _ (.slice ad nn cp) (fun e => Y1.out e.symm)).trans K.1) (And.intro ((World.cell?_setCell_far _ ⟨bl, 0, none⟩ _ (.slice ad nn cp) (fun e => HEF.out e.symm)).trans K.2.1) ((World.cell?_setCell_far _ ⟨bl, 0, none⟩ _ (.slice ad nn cp) (fun e => HET.out e.symm)).trans K.2.2))
                  refine hK.out _ _ K (fun _ => ?_)
                  clear hK K0
                  try simp only [Act.put, List.setIfInBounds_toArray, List.set_cons_zero, List.set_cons_succ]
                  refine wpAnyH_done (by kernel_rfl) ?_ _
                  clear bx bz K OV
                  have HR2 := FI
                  clear FI
                  go_wp2_with fail
                  rw [rounds_succ]
                  go_wp2_with fail
                  go_end0
                  exact ⟨rfl, _, HR2.out⟩
                exact AllReadyH.nil
              exact AllReadyH.nil
            exact AllReadyH.nil
          refine AllReadyH.cons (o := { dst := some 21, op := .call { callee := .value (.func 46), args := #[.tmp 14, .tmp 18, .tmp 19, .tmp 20], argTypes := #[52, 57, 3, 3] }, type := 32, pos := "marks.go:264", after := #[{ on := 1, ground := .data }, { on := 5, ground := .data }, { on := 6, ground := .data }, { on := 7, ground := .data }], guard := none }) rfl (fun K0 hK => ?_) ?_
          · go_simp
            refine OV.out.mono ?_
            rintro e w1 ⟨v1, rfl, MI, K⟩
            have bx := cellAt MI.out.box 0 rfl
            try dsimp only
            refine hK.out _ _ K (fun _ => ?_)
            clear hK K0
            try simp only [Act.put, List.setIfInBounds_toArray, List.set_cons_zero, List.set_cons_succ]
            refine wpAnyH_ready (rs := [0]) (by kernel_rfl) (by simp) ?_
            refine AllReadyH.cons (o := { dst := some 13, op := .load 32 (.tmp 1), type := 32, pos := "marks.go:264", after := #[], guard := none }) rfl (fun K0 hK => ?_) ?_
            · go_simp
              refine hK.out _ _ K (fun _ => ?_)
              clear hK K0
              try simp only [Act.put, List.setIfInBounds_toArray, List.set_cons_zero, List.set_cons_succ]
              refine wpAnyH_ready (rs := [9]) (by kernel_rfl) (by simp) ?_
              refine AllReadyH.cons (o := { dst := some 22, op := .call { callee := .builtin .append, args := #[.tmp 13, .tmp 21], argTypes := #[32, 32] }, type := 32, pos := "marks.go:264", after := #[{ on := 0, ground := .data }, { on := 8, ground := .data }, { on := 8, ground := .chain }], guard := none }) rfl (fun K0 hK => ?_) ?_
              · refine step_app rfl _ _ rfl w.heap.size w.heap.size _ _ _ _ rfl rfl MI.out.own MI.out.own1 MI.out.only.size ?_ ?_
                · have := HL.out true; have := HL.out false; simp only [List.nil_append]; omega
                intro v2 w2 ow o2
                obtain ⟨ad, nn, cp, rfl⟩ := ow.isSlice
                obtain ⟨bx2, FI⟩ := HS.out true _ _ _ _ _ _ MI.out o2 ow
                have FI := Lib.hid FI
                have bx := cellAt bx2 0 rfl
                have bz := freeAt bx2
                clear bx2
                have K := And.intro (o2.cellS K.1 (Nat.not_le.2 Y2.out)) (And.intro (o2.cellS K.2.1 (Nat.not_le.2 HBF.out)) (o2.cellS K.2.2 (Nat.not_le.2 HBT.out)))
                refine hK.out _ _ K (fun _ => ?_)
                clear hK K0
                try simp only [Act.put, List.setIfInBounds_toArray, List.set_cons_zero, List.set_cons_succ]
                refine wpAnyH_ready (rs := [10]) (by kernel_rfl) (by simp) ?_
                refine AllReadyH.cons (o := { dst := none, op := .store 32 (.tmp 1) (.tmp 22), type := 0, pos := "marks.go:264", after := #[{ on := 9, ground := .data }, { on := 9, ground := .chain }, { on := 0, ground := .phase }, { on := 1, ground := .phase }, { on := 2, ground := .phase }, { on := 3, ground := .phase }, { on := 4, ground := .phase }, { on := 5, ground := .phase }, { on := 6, ground := .phase }, { on := 7, ground := .phase }, { on := 8, ground := .phase }, { on := 9, ground := .phase }], guard := none }) rfl (fun K0 hK => ?_) ?_
                · go_simp
                  have K := And.intro ((World.cell?_setCell_far _ ⟨bl, 0, none⟩ _ (.slice ad nn cp) (fun e => Y1.out e.symm)).trans K.1) (And.intro ((World.cell?_setCell_far _ ⟨bl, 0, none⟩ _ (.slice ad nn cp) (fun e => HEF.out e.symm)).trans K.2.1) ((World.cell?_setCell_far _ ⟨bl, 0, none⟩ _ (.slice ad nn cp) (fun e => HET.out e.symm)).trans K.2.2))
                  refine hK.out _ _ K (fun _ => ?_)
                  clear hK K0
                  try simp only [Act.put, List.setIfInBounds_toArray, List.set_cons_zero, List.set_cons_succ]
                  refine wpAnyH_done (by kernel_rfl) ?_ _
                  clear bx bz K OV
                  have HR2 := FI
                  clear FI
                  go_wp2_with fail
                  rw [rounds_succ]
                  go_wp2_with fail
                  go_end0
                  exact ⟨rfl, _, HR2.out⟩
                exact AllReadyH.nil
              exact AllReadyH.nil
            exact AllReadyH.nil
          exact AllReadyH.nil
        exact AllReadyH.nil
      exact AllReadyH.nil
    exact AllReadyH.nil
  exact AllReadyH.nil
end Go.Proofs.Ytmbclcplinmblaa
