/- The walks of package shift: unless with empty, Clip. -/
import Derived.Test.YtmbclcplinmblaaW20
namespace Go.Proofs.Ytmbclcplinmblaa
open Go.RowKit

set_option maxRecDepth 100000 in
set_option maxHeartbeats 1000000 in
theorem unless_gone (a d i : Int) (s : Sp) (ha : 0 ≤ a ∧ a ≤ 1099511627776) (hd : 0 ≤ d ∧ d ≤ 1099511627776) (hi : 0 ≤ i ∧ i ≤ 1099511627776) (hg : placeI a d i s.t ≤ placeI a d i s.f) (w : World) :
    Calls Try.prog 53 #[.agg #[.int .i64 a, .int .i64 d, .int .i64 i], s.val, .func (.func 54) #[] #[]] w fun e w' => e = .returned (.tuple #[.agg #[.int .i64 0, .int .i64 0, .int .i64 0], .bool false]) ∧ Only (fun _ => False) w w' := by
  have HC : Hid (∀ W, Calls Try.prog 54 #[.agg #[.int .i64 a, .int .i64 d, .int .i64 i], s.val] W fun e w' => e = .returned (.bool true) ∧ Only (fun _ => False) W w') := fun W => by
    have := empty_calls a d i s ha hd hi W
    rwa [decide_eq_true hg] at this
  clear ha hd hi hg
  unfold Sp.val at *
  have o : Only (fun _ => False) w (((w.alloc (.cells #[.int .i64 a, .int .i64 d, .int .i64 i] 78)).alloc (spObj s)).alloc (spObj ⟨0, 0, 0⟩)) := (((Only.refl (fun _ => False) w).alloc _).alloc _).alloc _
  have b2 := heap_alloc_new ((w.alloc (.cells #[.int .i64 a, .int .i64 d, .int .i64 i] 78)).alloc (spObj s)) (spObj ⟨0, 0, 0⟩)
  rw [World.size_alloc, World.size_alloc] at b2
  unfold spObj at *
  go_enter Try.func53, Try.ntmps53
  go_wp2_with fail
  refine (HC.out _).mono ?_
  rintro e w1 ⟨rfl, o1⟩
  have b3 := o1.keep b2 id
  have o3 : Only (fun i => i = w.heap.size + 1 + 1) w1 _ := (((Only.refl (fun i => i = w.heap.size + 1 + 1) w1).set _ 0 (.int .i64 0) (fun _ => rfl)).set _ 1 (.int .i64 0) (fun _ => rfl)).set _ 2 (.int .i64 0) (fun _ => rfl)
  have HF := Lib.hid ((o.trans o1 (fun _ _ h => h) (fun _ _ h => h)).trans (S := fun _ => False) o3 (fun _ _ h => h) (fun i hi e => by omega))
  have b4 := setAt (setAt (setAt b3 0 (.int .i64 0) rfl) 1 (.int .i64 0) rfl) 2 (.int .i64 0) rfl
  have x0 := cellAt b3 0 rfl
  have x1 := cellAt b3 1 rfl
  have x2 := cellAt b3 2 rfl
  have xz := freeAt b3
  have z0 := Lib.hid (cellAt b4 0 rfl)
  have z1 := Lib.hid (cellAt b4 1 rfl)
  have z2 := Lib.hid (cellAt b4 2 rfl)
  clear o b2 o1 b3 b4 o3
  go_wp2_with fail
  refine bodyPost_ret (v := .tuple #[.agg #[.int .i64 0, .int .i64 0, .int .i64 0], .bool false]) (by have z0 := z0.out; have z1 := z1.out; have z2 := z2.out; clear x0 x1 x2; simp [results, Try.results53, go_sem, z0, z1, z2]) rfl ⟨rfl, HF.out⟩

set_option maxRecDepth 100000 in
set_option maxHeartbeats 1000000 in
theorem unless_left (a d i : Int) (s : Sp) (ha : 0 ≤ a ∧ a ≤ 1099511627776) (hd : 0 ≤ d ∧ d ≤ 1099511627776) (hi : 0 ≤ i ∧ i ≤ 1099511627776) (hg : placeI a d i s.f < placeI a d i s.t) (w : World) :
    Calls Try.prog 53 #[.agg #[.int .i64 a, .int .i64 d, .int .i64 i], s.val, .func (.func 54) #[] #[]] w fun e w' => e = .returned (.tuple #[.agg #[.int .i64 (placeI a d i s.f), .int .i64 (placeI a d i s.t), .int .i64 s.k], .bool true]) ∧ Only (fun _ => False) w w' := by
  have HC : Hid (∀ W, Calls Try.prog 54 #[.agg #[.int .i64 a, .int .i64 d, .int .i64 i], s.val] W fun e w' => e = .returned (.bool false) ∧ Only (fun _ => False) W w') := fun W => by
    have := empty_calls a d i s ha hd hi W
    rwa [decide_eq_false (by omega)] at this
  have H : ∀ p W, Calls Try.prog 66 #[.agg #[.int .i64 a, .int .i64 d, .int .i64 i], .int .i64 p] W fun e w' => e = .returned (.int .i64 (placeI a d i p)) ∧ Only (fun _ => False) W w' := fun p W => (place_calls a d i p ha hd hi W).mono fun e w' ⟨h1, h2⟩ => ⟨h1, h2 ▸ (Only.refl (fun _ => False) W).alloc _⟩
  clear hg
  generalize placeI a d i = g at H ⊢
  have HP := Lib.hid H
  clear H ha hd hi
  unfold Sp.val at *
  have o : Only (fun _ => False) w (((w.alloc (.cells #[.int .i64 a, .int .i64 d, .int .i64 i] 78)).alloc (spObj s)).alloc (spObj ⟨0, 0, 0⟩)) := (((Only.refl (fun _ => False) w).alloc _).alloc _).alloc _
  have b0 : (((w.alloc (.cells #[.int .i64 a, .int .i64 d, .int .i64 i] 78)).alloc (spObj s)).alloc (spObj ⟨0, 0, 0⟩)).heap[w.heap.size]? = some (.cells #[.int .i64 a, .int .i64 d, .int .i64 i] 78 (0, 0)) := allocOld (allocOld (heap_alloc_new w _))
  have b1 := heap_alloc_new (w.alloc (.cells #[.int .i64 a, .int .i64 d, .int .i64 i] 78)) (spObj s)
  rw [World.size_alloc] at b1
  have b1 := allocOld (o' := spObj ⟨0, 0, 0⟩) b1
  have b2 := heap_alloc_new ((w.alloc (.cells #[.int .i64 a, .int .i64 d, .int .i64 i] 78)).alloc (spObj s)) (spObj ⟨0, 0, 0⟩)
  rw [World.size_alloc, World.size_alloc] at b2
  unfold spObj at *
  go_enter Try.func53, Try.ntmps53
  go_wp2_with fail
  refine (HC.out _).mono ?_
  rintro e w1 ⟨rfl, o1⟩
  have k0 := o1.keep b0 id
  have k1 := o1.keep b1 id
  have k2 := o1.keep b2 id
  have OO := o.trans (S := fun _ => False) o1 (fun _ _ h => h) (fun _ _ h => h)
  clear o b0 b1 b2 o1
  have x0 := cellAt k0 0 rfl
  have x1 := cellAt k0 1 rfl
  have x2 := cellAt k0 2 rfl
  have y0 := cellAt k1 0 rfl
  have y1 := cellAt k1 1 rfl
  have xz := freeAt k1
  go_wp2_with fail
  have OO := OO.drew
  have x0 : w1.drew.cell? ⟨w.heap.size, 0, none⟩ = some (.int .i64 a) := x0
  have x1 : w1.drew.cell? ⟨w.heap.size, 1, none⟩ = some (.int .i64 d) := x1
  have x2 : w1.drew.cell? ⟨w.heap.size, 2, none⟩ = some (.int .i64 i) := x2
  have y0 : w1.drew.cell? ⟨w.heap.size + 1, 0, none⟩ = some (.int .i64 s.f) := y0
  have y1 : w1.drew.cell? ⟨w.heap.size + 1, 1, none⟩ = some (.int .i64 s.t) := y1
  have xz : ∀ i, w1.drew.frozen? ⟨w.heap.size + 1, i, none⟩ = false := xz
  have k1 : w1.drew.heap[w.heap.size + 1]? = _ := k1
  have k2 : w1.drew.heap[w.heap.size + 1 + 1]? = _ := k2
  have K : w1.drew.cell? ⟨w.heap.size, 0, none⟩ = some (.int .i64 a) ∧ w1.drew.cell? ⟨w.heap.size, 1, none⟩ = some (.int .i64 d) ∧ w1.drew.cell? ⟨w.heap.size, 2, none⟩ = some (.int .i64 i) := ⟨x0, x1, x2⟩
  clear x0 x1 x2
  have ne : ¬ w.heap.size = w.heap.size + 1 := by omega
  refine wp_region_held_drew (S := (fun w' : World => w'.cell? ⟨w.heap.size, 0, none⟩ = some (.int .i64 a) ∧ w'.cell? ⟨w.heap.size, 1, none⟩ = some (.int .i64 d) ∧ w'.cell? ⟨w.heap.size, 2, none⟩ = some (.int .i64 i))) (by kernel_rfl) K (fun hHeld => ?_)
  clear hHeld
  refine wpAnyH_take (i := 0) (oi := { dst := some 13, op := .load 78 (.tmp 3), type := 78, pos := "shift.go:39", after := #[], guard := none }) (v := .agg #[.int .i64 a, .int .i64 d, .int .i64 i]) rfl (by kernel_rfl) (by kernel_rfl) (by kernel_rfl) (fun _ _ _ h => h) (Or.inl ⟨by rfl, ?_⟩) K ?_
  · intro W hSw; obtain ⟨h1, h2, h3⟩ := hSw; clear K; go_simp; try with_reducible rfl
  try simp only [Act.put, List.setIfInBounds_toArray, List.set_cons_zero, List.set_cons_succ]
  refine wpAnyH_take (i := 1) (oi := { dst := some 14, op := .fieldAddr 25 (.tmp 4) 0, type := 0, pos := "shift.go:39", after := #[], guard := none }) (v := .pointer (some ⟨w.heap.size + 1, 0, none⟩)) rfl (by kernel_rfl) (by kernel_rfl) (by kernel_rfl) (fun _ _ _ h => h) (Or.inl ⟨by rfl, ?_⟩) K ?_
  · intro W hSw; obtain ⟨h1, h2, h3⟩ := hSw; clear K; go_simp; try with_reducible rfl
  try simp only [Act.put, List.setIfInBounds_toArray, List.set_cons_zero, List.set_cons_succ]
  refine wpAnyH_take (i := 4) (oi := { dst := some 17, op := .load 78 (.tmp 3), type := 78, pos := "shift.go:39", after := #[], guard := none }) (v := .agg #[.int .i64 a, .int .i64 d, .int .i64 i]) rfl (by kernel_rfl) (by kernel_rfl) (by kernel_rfl) (fun _ _ _ h => h) (Or.inl ⟨by rfl, ?_⟩) K ?_
  · intro W hSw; obtain ⟨h1, h2, h3⟩ := hSw; clear K; go_simp; try with_reducible rfl
  try simp only [Act.put, List.setIfInBounds_toArray, List.set_cons_zero, List.set_cons_succ]
  refine wpAnyH_take (i := 5) (oi := { dst := some 18, op := .fieldAddr 25 (.tmp 4) 1, type := 0, pos := "shift.go:39", after := #[], guard := none }) (v := .pointer (some ⟨w.heap.size + 1, 1, none⟩)) rfl (by kernel_rfl) (by kernel_rfl) (by kernel_rfl) (fun _ _ _ h => h) (Or.inl ⟨by rfl, ?_⟩) K ?_
  · intro W hSw; obtain ⟨h1, h2, h3⟩ := hSw; clear K; go_simp; try with_reducible rfl
  try simp only [Act.put, List.setIfInBounds_toArray, List.set_cons_zero, List.set_cons_succ]
  refine wpAnyH_ready (rs := [2, 6]) (by kernel_rfl) (by simp) ?_
  refine AllReadyH.cons (o := { dst := some 15, op := .load 3 (.tmp 14), type := 3, pos := "shift.go:39", after := #[{ on := 1, ground := .data }], guard := none }) rfl (fun K0 hK => ?_) ?_
  · go_simp
    refine hK.out _ _ K (fun _ => ?_)
    clear hK K0
    try simp only [Act.put, List.setIfInBounds_toArray, List.set_cons_zero, List.set_cons_succ]
    refine wpAnyH_ready (rs := [3, 6]) (by kernel_rfl) (by simp) ?_
    refine AllReadyH.cons (o := { dst := some 16, op := .call { callee := .value (.func 66), args := #[.tmp 13, .tmp 15], argTypes := #[78, 3] }, type := 3, pos := "shift.go:39", after := #[{ on := 0, ground := .data }, { on := 2, ground := .data }], guard := none }) rfl (fun K0 hK => ?_) ?_
    · go_simp
      refine (HP.out _ _).mono ?_
      rintro e w1 ⟨rfl, o1⟩
      have K := And.intro (o1.cellK K.1) (And.intro (o1.cellK K.2.1) (o1.cellK K.2.2))
      have y0 := o1.cellK y0; have y1 := o1.cellK y1; have OO := OO.trans o1 (fun _ _ h => h) (fun _ _ h => h); have k1 := o1.keep k1 id; have k2 := o1.keep k2 id; have xz := freeAt k1
      try dsimp only
      refine hK.out _ _ K (fun _ => ?_)
      clear hK K0
      try simp only [Act.put, List.setIfInBounds_toArray, List.set_cons_zero, List.set_cons_succ]
      refine wpAnyH_ready (rs := [6]) (by kernel_rfl) (by simp) ?_
      refine AllReadyH.cons (o := { dst := some 19, op := .load 3 (.tmp 18), type := 3, pos := "shift.go:39", after := #[{ on := 5, ground := .data }], guard := none }) rfl (fun K0 hK => ?_) ?_
      · go_simp
        refine hK.out _ _ K (fun _ => ?_)
        clear hK K0
        try simp only [Act.put, List.setIfInBounds_toArray, List.set_cons_zero, List.set_cons_succ]
        refine wpAnyH_take (i := 8) (oi := { dst := some 21, op := .fieldAddr 25 (.tmp 4) 0, type := 0, pos := "shift.go:39", after := #[{ on := 0, ground := .phase }, { on := 1, ground := .phase }, { on := 2, ground := .phase }, { on := 3, ground := .phase }, { on := 4, ground := .textOnly .lateStores }, { on := 5, ground := .phase }, { on := 6, ground := .phase }, { on := 7, ground := .textOnly .lateStoresUnsure }], guard := none }) (v := .pointer (some ⟨w.heap.size + 1, 0, none⟩)) rfl (by kernel_rfl) (by kernel_rfl) (by kernel_rfl) (fun _ _ _ h => h) (Or.inl ⟨by rfl, ?_⟩) K ?_
        · intro W hSw; obtain ⟨h1, h2, h3⟩ := hSw; clear K; go_simp; try with_reducible rfl
        try simp only [Act.put, List.setIfInBounds_toArray, List.set_cons_zero, List.set_cons_succ]
        refine wpAnyH_ready (rs := [7]) (by kernel_rfl) (by simp) ?_
        refine AllReadyH.cons (o := { dst := some 20, op := .call { callee := .value (.func 66), args := #[.tmp 17, .tmp 19], argTypes := #[78, 3] }, type := 3, pos := "shift.go:39", after := #[{ on := 4, ground := .data }, { on := 6, ground := .data }, { on := 3, ground := .chain }], guard := none }) rfl (fun K0 hK => ?_) ?_
        · go_simp
          refine (HP.out _ _).mono ?_
          rintro e w1 ⟨rfl, o1⟩
          have K := And.intro (o1.cellK K.1) (And.intro (o1.cellK K.2.1) (o1.cellK K.2.2))
          have y0 := o1.cellK y0; have y1 := o1.cellK y1; have OO := OO.trans o1 (fun _ _ h => h) (fun _ _ h => h); have k1 := o1.keep k1 id; have k2 := o1.keep k2 id; have xz := freeAt k1
          try dsimp only
          refine hK.out _ _ K (fun _ => ?_)
          clear hK K0
          try simp only [Act.put, List.setIfInBounds_toArray, List.set_cons_zero, List.set_cons_succ]
          refine wpAnyH_ready (rs := [9]) (by kernel_rfl) (by simp) ?_
          refine AllReadyH.cons (o := { dst := none, op := .store 3 (.tmp 21) (.tmp 16), type := 0, pos := "shift.go:39", after := #[{ on := 8, ground := .data }, { on := 3, ground := .data }, { on := 7, ground := .chain }, { on := 0, ground := .phase }, { on := 1, ground := .phase }, { on := 2, ground := .phase }, { on := 3, ground := .phase }, { on := 4, ground := .textOnly .lateStores }, { on := 5, ground := .phase }, { on := 6, ground := .phase }, { on := 7, ground := .textOnly .lateStoresUnsure }], guard := none }) rfl (fun K0 hK => ?_) ?_
          · go_simp
            have K := And.intro ((World.cell?_setCell_far _ ⟨w.heap.size + 1, 0, none⟩ _ (.int .i64 (g s.f)) (Nat.succ_ne_self _)).trans K.1) (And.intro ((World.cell?_setCell_far _ ⟨w.heap.size + 1, 0, none⟩ _ (.int .i64 (g s.f)) (Nat.succ_ne_self _)).trans K.2.1) ((World.cell?_setCell_far _ ⟨w.heap.size + 1, 0, none⟩ _ (.int .i64 (g s.f)) (Nat.succ_ne_self _)).trans K.2.2))
            have y1 : World.cell? _ _ = _ := (cellAt (setAt k1 0 (.int .i64 (g s.f)) rfl) 1 rfl)
            have xz := freeAt (setAt k1 0 (.int .i64 (g s.f)) rfl)
            refine hK.out _ _ K (fun _ => ?_)
            clear hK K0
            try simp only [Act.put, List.setIfInBounds_toArray, List.set_cons_zero, List.set_cons_succ]
            refine wpAnyH_take (i := 10) (oi := { dst := some 22, op := .fieldAddr 25 (.tmp 4) 1, type := 0, pos := "shift.go:39", after := #[{ on := 0, ground := .phase }, { on := 1, ground := .phase }, { on := 2, ground := .phase }, { on := 3, ground := .phase }, { on := 4, ground := .phase }, { on := 5, ground := .phase }, { on := 6, ground := .phase }, { on := 7, ground := .phase }, { on := 8, ground := .phase }, { on := 9, ground := .phase }], guard := none }) (v := .pointer (some ⟨w.heap.size + 1, 1, none⟩)) rfl (by kernel_rfl) (by kernel_rfl) (by kernel_rfl) (fun _ _ _ h => h) (Or.inl ⟨by rfl, ?_⟩) K ?_
            · intro W hSw; obtain ⟨h1, h2, h3⟩ := hSw; clear K; go_simp; try with_reducible rfl
            try simp only [Act.put, List.setIfInBounds_toArray, List.set_cons_zero, List.set_cons_succ]
            refine wpAnyH_ready (rs := [11]) (by kernel_rfl) (by simp) ?_
            refine AllReadyH.cons (o := { dst := none, op := .store 3 (.tmp 22) (.tmp 20), type := 0, pos := "shift.go:39", after := #[{ on := 10, ground := .data }, { on := 7, ground := .data }, { on := 9, ground := .chain }, { on := 0, ground := .phase }, { on := 1, ground := .phase }, { on := 2, ground := .phase }, { on := 3, ground := .phase }, { on := 4, ground := .phase }, { on := 5, ground := .phase }, { on := 6, ground := .phase }, { on := 7, ground := .phase }, { on := 8, ground := .phase }, { on := 9, ground := .phase }], guard := none }) rfl (fun K0 hK => ?_) ?_
            · go_simp
              have K := And.intro ((World.cell?_setCell_far _ ⟨w.heap.size + 1, 1, none⟩ _ (.int .i64 (g s.t)) (Nat.succ_ne_self _)).trans K.1) (And.intro ((World.cell?_setCell_far _ ⟨w.heap.size + 1, 1, none⟩ _ (.int .i64 (g s.t)) (Nat.succ_ne_self _)).trans K.2.1) ((World.cell?_setCell_far _ ⟨w.heap.size + 1, 1, none⟩ _ (.int .i64 (g s.t)) (Nat.succ_ne_self _)).trans K.2.2))
              refine hK.out _ _ K (fun _ => ?_)
              clear hK K0
              try simp only [Act.put, List.setIfInBounds_toArray, List.set_cons_zero, List.set_cons_succ]
              refine wpAnyH_done (by kernel_rfl) ?_ _
              clear HP
              have b4 := setAt (setAt k1 0 (.int .i64 (g s.f)) rfl) 1 (.int .i64 (g s.t)) rfl
              have b5 := setOther (b := w.heap.size + 1) (i := 1) (v := .int .i64 (g s.t)) (setOther (b := w.heap.size + 1) (i := 0) (v := .int .i64 (g s.f)) k2 (by omega)) (by omega)
              have OZ := Lib.hid ((OO.set (w.heap.size + 1) 0 (.int .i64 (g s.f)) (fun h => by omega)).set (w.heap.size + 1) 1 (.int .i64 (g s.t)) (fun h => by omega))
              clear OO k1 k2 K y0 y1 xz
              have x0 := cellAt b4 0 rfl
              have x1 := cellAt b4 1 rfl
              have x2 := cellAt b4 2 rfl
              have y0 := cellAt b5 0 rfl
              have y1 := cellAt b5 1 rfl
              have y2 := cellAt b5 2 rfl
              have yz := freeAt b5
              have b6 := setAt (setAt (setAt b5 0 (.int .i64 (g s.f)) rfl) 1 (.int .i64 (g s.t)) rfl) 2 (.int .i64 s.k) rfl
              have z0 := Lib.hid (cellAt b6 0 rfl)
              have z1 := Lib.hid (cellAt b6 1 rfl)
              have z2 := Lib.hid (cellAt b6 2 rfl)
              clear b4 b5 b6
              go_wp2_with fail
              clear x0 x1 x2 y0 y1 y2
              refine bodyPost_ret (v := .tuple #[.agg #[.int .i64 (g s.f), .int .i64 (g s.t), .int .i64 s.k], .bool true]) (by have z0 := z0.out; have z1 := z1.out; have z2 := z2.out; simp at z0 z1 z2; simp [results, Try.results53, go_sem, z0, z1, z2]) rfl ⟨rfl, ?_⟩
              exact (((OZ.out.set _ 0 _ (fun h => by omega)).set _ 1 _ (fun h => by omega)).set _ 2 _ (fun h => by omega))
            exact AllReadyH.nil
          exact AllReadyH.nil
        exact AllReadyH.nil
      exact AllReadyH.nil
    refine AllReadyH.cons (o := { dst := some 19, op := .load 3 (.tmp 18), type := 3, pos := "shift.go:39", after := #[{ on := 5, ground := .data }], guard := none }) rfl (fun K0 hK => ?_) ?_
    · go_simp
      refine hK.out _ _ K (fun _ => ?_)
      clear hK K0
      try simp only [Act.put, List.setIfInBounds_toArray, List.set_cons_zero, List.set_cons_succ]
      refine wpAnyH_ready (rs := [3]) (by kernel_rfl) (by simp) ?_
      refine AllReadyH.cons (o := { dst := some 16, op := .call { callee := .value (.func 66), args := #[.tmp 13, .tmp 15], argTypes := #[78, 3] }, type := 3, pos := "shift.go:39", after := #[{ on := 0, ground := .data }, { on := 2, ground := .data }], guard := none }) rfl (fun K0 hK => ?_) ?_
      · go_simp
        refine (HP.out _ _).mono ?_
        rintro e w1 ⟨rfl, o1⟩
        have K := And.intro (o1.cellK K.1) (And.intro (o1.cellK K.2.1) (o1.cellK K.2.2))
        have y0 := o1.cellK y0; have y1 := o1.cellK y1; have OO := OO.trans o1 (fun _ _ h => h) (fun _ _ h => h); have k1 := o1.keep k1 id; have k2 := o1.keep k2 id; have xz := freeAt k1
        try dsimp only
        refine hK.out _ _ K (fun _ => ?_)
        clear hK K0
        try simp only [Act.put, List.setIfInBounds_toArray, List.set_cons_zero, List.set_cons_succ]
        refine wpAnyH_take (i := 8) (oi := { dst := some 21, op := .fieldAddr 25 (.tmp 4) 0, type := 0, pos := "shift.go:39", after := #[{ on := 0, ground := .phase }, { on := 1, ground := .phase }, { on := 2, ground := .phase }, { on := 3, ground := .phase }, { on := 4, ground := .textOnly .lateStores }, { on := 5, ground := .phase }, { on := 6, ground := .phase }, { on := 7, ground := .textOnly .lateStoresUnsure }], guard := none }) (v := .pointer (some ⟨w.heap.size + 1, 0, none⟩)) rfl (by kernel_rfl) (by kernel_rfl) (by kernel_rfl) (fun _ _ _ h => h) (Or.inl ⟨by rfl, ?_⟩) K ?_
        · intro W hSw; obtain ⟨h1, h2, h3⟩ := hSw; clear K; go_simp; try with_reducible rfl
        try simp only [Act.put, List.setIfInBounds_toArray, List.set_cons_zero, List.set_cons_succ]
        refine wpAnyH_ready (rs := [7]) (by kernel_rfl) (by simp) ?_
        refine AllReadyH.cons (o := { dst := some 20, op := .call { callee := .value (.func 66), args := #[.tmp 17, .tmp 19], argTypes := #[78, 3] }, type := 3, pos := "shift.go:39", after := #[{ on := 4, ground := .data }, { on := 6, ground := .data }, { on := 3, ground := .chain }], guard := none }) rfl (fun K0 hK => ?_) ?_
        · go_simp
          refine (HP.out _ _).mono ?_
          rintro e w1 ⟨rfl, o1⟩
          have K := And.intro (o1.cellK K.1) (And.intro (o1.cellK K.2.1) (o1.cellK K.2.2))
          have y0 := o1.cellK y0; have y1 := o1.cellK y1; have OO := OO.trans o1 (fun _ _ h => h) (fun _ _ h => h); have k1 := o1.keep k1 id; have k2 := o1.keep k2 id; have xz := freeAt k1
          try dsimp only
          refine hK.out _ _ K (fun _ => ?_)
          clear hK K0
          try simp only [Act.put, List.setIfInBounds_toArray, List.set_cons_zero, List.set_cons_succ]
          refine wpAnyH_ready (rs := [9]) (by kernel_rfl) (by simp) ?_
          refine AllReadyH.cons (o := { dst := none, op := .store 3 (.tmp 21) (.tmp 16), type := 0, pos := "shift.go:39", after := #[{ on := 8, ground := .data }, { on := 3, ground := .data }, { on := 7, ground := .chain }, { on := 0, ground := .phase }, { on := 1, ground := .phase }, { on := 2, ground := .phase }, { on := 3, ground := .phase }, { on := 4, ground := .textOnly .lateStores }, { on := 5, ground := .phase }, { on := 6, ground := .phase }, { on := 7, ground := .textOnly .lateStoresUnsure }], guard := none }) rfl (fun K0 hK => ?_) ?_
          · go_simp
            have K := And.intro ((World.cell?_setCell_far _ ⟨w.heap.size + 1, 0, none⟩ _ (.int .i64 (g s.f)) (Nat.succ_ne_self _)).trans K.1) (And.intro ((World.cell?_setCell_far _ ⟨w.heap.size + 1, 0, none⟩ _ (.int .i64 (g s.f)) (Nat.succ_ne_self _)).trans K.2.1) ((World.cell?_setCell_far _ ⟨w.heap.size + 1, 0, none⟩ _ (.int .i64 (g s.f)) (Nat.succ_ne_self _)).trans K.2.2))
            have y1 : World.cell? _ _ = _ := (cellAt (setAt k1 0 (.int .i64 (g s.f)) rfl) 1 rfl)
            have xz := freeAt (setAt k1 0 (.int .i64 (g s.f)) rfl)
            refine hK.out _ _ K (fun _ => ?_)
            clear hK K0
            try simp only [Act.put, List.setIfInBounds_toArray, List.set_cons_zero, List.set_cons_succ]
            refine wpAnyH_take (i := 10) (oi := { dst := some 22, op := .fieldAddr 25 (.tmp 4) 1, type := 0, pos := "shift.go:39", after := #[{ on := 0, ground := .phase }, { on := 1, ground := .phase }, { on := 2, ground := .phase }, { on := 3, ground := .phase }, { on := 4, ground := .phase }, { on := 5, ground := .phase }, { on := 6, ground := .phase }, { on := 7, ground := .phase }, { on := 8, ground := .phase }, { on := 9, ground := .phase }], guard := none }) (v := .pointer (some ⟨w.heap.size + 1, 1, none⟩)) rfl (by kernel_rfl) (by kernel_rfl) (by kernel_rfl) (fun _ _ _ h => h) (Or.inl ⟨by rfl, ?_⟩) K ?_
            · intro W hSw; obtain ⟨h1, h2, h3⟩ := hSw; clear K; go_simp; try with_reducible rfl
            try simp only [Act.put, List.setIfInBounds_toArray, List.set_cons_zero, List.set_cons_succ]
            refine wpAnyH_ready (rs := [11]) (by kernel_rfl) (by simp) ?_
            refine AllReadyH.cons (o := { dst := none, op := .store 3 (.tmp 22) (.tmp 20), type := 0, pos := "shift.go:39", after := #[{ on := 10, ground := .data }, { on := 7, ground := .data }, { on := 9, ground := .chain }, { on := 0, ground := .phase }, { on := 1, ground := .phase }, { on := 2, ground := .phase }, { on := 3, ground := .phase }, { on := 4, ground := .phase }, { on := 5, ground := .phase }, { on := 6, ground := .phase }, { on := 7, ground := .phase }, { on := 8, ground := .phase }, { on := 9, ground := .phase }], guard := none }) rfl (fun K0 hK => ?_) ?_
            · go_simp
              have K := And.intro ((World.cell?_setCell_far _ ⟨w.heap.size + 1, 1, none⟩ _ (.int .i64 (g s.t)) (Nat.succ_ne_self _)).trans K.1) (And.intro ((World.cell?_setCell_far _ ⟨w.heap.size + 1, 1, none⟩ _ (.int .i64 (g s.t)) (Nat.succ_ne_self _)).trans K.2.1) ((World.cell?_setCell_far _ ⟨w.heap.size + 1, 1, none⟩ _ (.int .i64 (g s.t)) (Nat.succ_ne_self _)).trans K.2.2))
              refine hK.out _ _ K (fun _ => ?_)
              clear hK K0
              try simp only [Act.put, List.setIfInBounds_toArray, List.set_cons_zero, List.set_cons_succ]
              refine wpAnyH_done (by kernel_rfl) ?_ _
              clear HP
              have b4 := setAt (setAt k1 0 (.int .i64 (g s.f)) rfl) 1 (.int .i64 (g s.t)) rfl
              have b5 := setOther (b := w.heap.size + 1) (i := 1) (v := .int .i64 (g s.t)) (setOther (b := w.heap.size + 1) (i := 0) (v := .int .i64 (g s.f)) k2 (by omega)) (by omega)
              have OZ := Lib.hid ((OO.set (w.heap.size + 1) 0 (.int .i64 (g s.f)) (fun h => by omega)).set (w.heap.size + 1) 1 (.int .i64 (g s.t)) (fun h => by omega))
              clear OO k1 k2 K y0 y1 xz
              have x0 := cellAt b4 0 rfl
              have x1 := cellAt b4 1 rfl
              have x2 := cellAt b4 2 rfl
              have y0 := cellAt b5 0 rfl
              have y1 := cellAt b5 1 rfl
              have y2 := cellAt b5 2 rfl
              have yz := freeAt b5
              have b6 := setAt (setAt (setAt b5 0 (.int .i64 (g s.f)) rfl) 1 (.int .i64 (g s.t)) rfl) 2 (.int .i64 s.k) rfl
              have z0 := Lib.hid (cellAt b6 0 rfl)
              have z1 := Lib.hid (cellAt b6 1 rfl)
              have z2 := Lib.hid (cellAt b6 2 rfl)
              clear b4 b5 b6
              go_wp2_with fail
              clear x0 x1 x2 y0 y1 y2
              refine bodyPost_ret (v := .tuple #[.agg #[.int .i64 (g s.f), .int .i64 (g s.t), .int .i64 s.k], .bool true]) (by have z0 := z0.out; have z1 := z1.out; have z2 := z2.out; simp at z0 z1 z2; simp [results, Try.results53, go_sem, z0, z1, z2]) rfl ⟨rfl, ?_⟩
              exact (((OZ.out.set _ 0 _ (fun h => by omega)).set _ 1 _ (fun h => by omega)).set _ 2 _ (fun h => by omega))
            exact AllReadyH.nil
          exact AllReadyH.nil
        exact AllReadyH.nil
      exact AllReadyH.nil
    exact AllReadyH.nil
  refine AllReadyH.cons (o := { dst := some 19, op := .load 3 (.tmp 18), type := 3, pos := "shift.go:39", after := #[{ on := 5, ground := .data }], guard := none }) rfl (fun K0 hK => ?_) ?_
  · go_simp
    refine hK.out _ _ K (fun _ => ?_)
    clear hK K0
    try simp only [Act.put, List.setIfInBounds_toArray, List.set_cons_zero, List.set_cons_succ]
    refine wpAnyH_ready (rs := [2]) (by kernel_rfl) (by simp) ?_
    refine AllReadyH.cons (o := { dst := some 15, op := .load 3 (.tmp 14), type := 3, pos := "shift.go:39", after := #[{ on := 1, ground := .data }], guard := none }) rfl (fun K0 hK => ?_) ?_
    · go_simp
      refine hK.out _ _ K (fun _ => ?_)
      clear hK K0
      try simp only [Act.put, List.setIfInBounds_toArray, List.set_cons_zero, List.set_cons_succ]
      refine wpAnyH_ready (rs := [3]) (by kernel_rfl) (by simp) ?_
      refine AllReadyH.cons (o := { dst := some 16, op := .call { callee := .value (.func 66), args := #[.tmp 13, .tmp 15], argTypes := #[78, 3] }, type := 3, pos := "shift.go:39", after := #[{ on := 0, ground := .data }, { on := 2, ground := .data }], guard := none }) rfl (fun K0 hK => ?_) ?_
      · go_simp
        refine (HP.out _ _).mono ?_
        rintro e w1 ⟨rfl, o1⟩
        have K := And.intro (o1.cellK K.1) (And.intro (o1.cellK K.2.1) (o1.cellK K.2.2))
        have y0 := o1.cellK y0; have y1 := o1.cellK y1; have OO := OO.trans o1 (fun _ _ h => h) (fun _ _ h => h); have k1 := o1.keep k1 id; have k2 := o1.keep k2 id; have xz := freeAt k1
        try dsimp only
        refine hK.out _ _ K (fun _ => ?_)
        clear hK K0
        try simp only [Act.put, List.setIfInBounds_toArray, List.set_cons_zero, List.set_cons_succ]
        refine wpAnyH_take (i := 8) (oi := { dst := some 21, op := .fieldAddr 25 (.tmp 4) 0, type := 0, pos := "shift.go:39", after := #[{ on := 0, ground := .phase }, { on := 1, ground := .phase }, { on := 2, ground := .phase }, { on := 3, ground := .phase }, { on := 4, ground := .textOnly .lateStores }, { on := 5, ground := .phase }, { on := 6, ground := .phase }, { on := 7, ground := .textOnly .lateStoresUnsure }], guard := none }) (v := .pointer (some ⟨w.heap.size + 1, 0, none⟩)) rfl (by kernel_rfl) (by kernel_rfl) (by kernel_rfl) (fun _ _ _ h => h) (Or.inl ⟨by rfl, ?_⟩) K ?_
        · intro W hSw; obtain ⟨h1, h2, h3⟩ := hSw; clear K; go_simp; try with_reducible rfl
        try simp only [Act.put, List.setIfInBounds_toArray, List.set_cons_zero, List.set_cons_succ]
        refine wpAnyH_ready (rs := [7]) (by kernel_rfl) (by simp) ?_
        refine AllReadyH.cons (o := { dst := some 20, op := .call { callee := .value (.func 66), args := #[.tmp 17, .tmp 19], argTypes := #[78, 3] }, type := 3, pos := "shift.go:39", after := #[{ on := 4, ground := .data }, { on := 6, ground := .data }, { on := 3, ground := .chain }], guard := none }) rfl (fun K0 hK => ?_) ?_
        · go_simp
          refine (HP.out _ _).mono ?_
          rintro e w1 ⟨rfl, o1⟩
          have K := And.intro (o1.cellK K.1) (And.intro (o1.cellK K.2.1) (o1.cellK K.2.2))
          have y0 := o1.cellK y0; have y1 := o1.cellK y1; have OO := OO.trans o1 (fun _ _ h => h) (fun _ _ h => h); have k1 := o1.keep k1 id; have k2 := o1.keep k2 id; have xz := freeAt k1
          try dsimp only
          refine hK.out _ _ K (fun _ => ?_)
          clear hK K0
          try simp only [Act.put, List.setIfInBounds_toArray, List.set_cons_zero, List.set_cons_succ]
          refine wpAnyH_ready (rs := [9]) (by kernel_rfl) (by simp) ?_
          refine AllReadyH.cons (o := { dst := none, op := .store 3 (.tmp 21) (.tmp 16), type := 0, pos := "shift.go:39", after := #[{ on := 8, ground := .data }, { on := 3, ground := .data }, { on := 7, ground := .chain }, { on := 0, ground := .phase }, { on := 1, ground := .phase }, { on := 2, ground := .phase }, { on := 3, ground := .phase }, { on := 4, ground := .textOnly .lateStores }, { on := 5, ground := .phase }, { on := 6, ground := .phase }, { on := 7, ground := .textOnly .lateStoresUnsure }], guard := none }) rfl (fun K0 hK => ?_) ?_
          · go_simp
            have K := And.intro ((World.cell?_setCell_far _ ⟨w.heap.size + 1, 0, none⟩ _ (.int .i64 (g s.f)) (Nat.succ_ne_self _)).trans K.1) (And.intro ((World.cell?_setCell_far _ ⟨w.heap.size + 1, 0, none⟩ _ (.int .i64 (g s.f)) (Nat.succ_ne_self _)).trans K.2.1) ((World.cell?_setCell_far _ ⟨w.heap.size + 1, 0, none⟩ _ (.int .i64 (g s.f)) (Nat.succ_ne_self _)).trans K.2.2))
            have y1 : World.cell? _ _ = _ := (cellAt (setAt k1 0 (.int .i64 (g s.f)) rfl) 1 rfl)
            have xz := freeAt (setAt k1 0 (.int .i64 (g s.f)) rfl)
            refine hK.out _ _ K (fun _ => ?_)
            clear hK K0
            try simp only [Act.put, List.setIfInBounds_toArray, List.set_cons_zero, List.set_cons_succ]
            refine wpAnyH_take (i := 10) (oi := { dst := some 22, op := .fieldAddr 25 (.tmp 4) 1, type := 0, pos := "shift.go:39", after := #[{ on := 0, ground := .phase }, { on := 1, ground := .phase }, { on := 2, ground := .phase }, { on := 3, ground := .phase }, { on := 4, ground := .phase }, { on := 5, ground := .phase }, { on := 6, ground := .phase }, { on := 7, ground := .phase }, { on := 8, ground := .phase }, { on := 9, ground := .phase }], guard := none }) (v := .pointer (some ⟨w.heap.size + 1, 1, none⟩)) rfl (by kernel_rfl) (by kernel_rfl) (by kernel_rfl) (fun _ _ _ h => h) (Or.inl ⟨by rfl, ?_⟩) K ?_
            · intro W hSw; obtain ⟨h1, h2, h3⟩ := hSw; clear K; go_simp; try with_reducible rfl
            try simp only [Act.put, List.setIfInBounds_toArray, List.set_cons_zero, List.set_cons_succ]
            refine wpAnyH_ready (rs := [11]) (by kernel_rfl) (by simp) ?_
            refine AllReadyH.cons (o := { dst := none, op := .store 3 (.tmp 22) (.tmp 20), type := 0, pos := "shift.go:39", after := #[{ on := 10, ground := .data }, { on := 7, ground := .data }, { on := 9, ground := .chain }, { on := 0, ground := .phase }, { on := 1, ground := .phase }, { on := 2, ground := .phase }, { on := 3, ground := .phase }, { on := 4, ground := .phase }, { on := 5, ground := .phase }, { on := 6, ground := .phase }, { on := 7, ground := .phase }, { on := 8, ground := .phase }, { on := 9, ground := .phase }], guard := none }) rfl (fun K0 hK => ?_) ?_
            · go_simp
              have K := And.intro ((World.cell?_setCell_far _ ⟨w.heap.size + 1, 1, none⟩ _ (.int .i64 (g s.t)) (Nat.succ_ne_self _)).trans K.1) (And.intro ((World.cell?_setCell_far _ ⟨w.heap.size + 1, 1, none⟩ _ (.int .i64 (g s.t)) (Nat.succ_ne_self _)).trans K.2.1) ((World.cell?_setCell_far _ ⟨w.heap.size + 1, 1, none⟩ _ (.int .i64 (g s.t)) (Nat.succ_ne_self _)).trans K.2.2))
              refine hK.out _ _ K (fun _ => ?_)
              clear hK K0
              try simp only [Act.put, List.setIfInBounds_toArray, List.set_cons_zero, List.set_cons_succ]
              refine wpAnyH_done (by kernel_rfl) ?_ _
              clear HP
              have b4 := setAt (setAt k1 0 (.int .i64 (g s.f)) rfl) 1 (.int .i64 (g s.t)) rfl
              have b5 := setOther (b := w.heap.size + 1) (i := 1) (v := .int .i64 (g s.t)) (setOther (b := w.heap.size + 1) (i := 0) (v := .int .i64 (g s.f)) k2 (by omega)) (by omega)
              have OZ := Lib.hid ((OO.set (w.heap.size + 1) 0 (.int .i64 (g s.f)) (fun h => by omega)).set (w.heap.size + 1) 1 (.int .i64 (g s.t)) (fun h => by omega))
              clear OO k1 k2 K y0 y1 xz
              have x0 := cellAt b4 0 rfl
              have x1 := cellAt b4 1 rfl
              have x2 := cellAt b4 2 rfl
              have y0 := cellAt b5 0 rfl
              have y1 := cellAt b5 1 rfl
              have y2 := cellAt b5 2 rfl
              have yz := freeAt b5
              have b6 := setAt (setAt (setAt b5 0 (.int .i64 (g s.f)) rfl) 1 (.int .i64 (g s.t)) rfl) 2 (.int .i64 s.k) rfl
              have z0 := Lib.hid (cellAt b6 0 rfl)
              have z1 := Lib.hid (cellAt b6 1 rfl)
              have z2 := Lib.hid (cellAt b6 2 rfl)
              clear b4 b5 b6
              go_wp2_with fail
              clear x0 x1 x2 y0 y1 y2
              refine bodyPost_ret (v := .tuple #[.agg #[.int .i64 (g s.f), .int .i64 (g s.t), .int .i64 s.k], .bool true]) (by have z0 := z0.out; have z1 := z1.out; have z2 := z2.out; simp at z0 z1 z2; simp [results, Try.results53, go_sem, z0, z1, z2]) rfl ⟨rfl, ?_⟩
              exact (((OZ.out.set _ 0 _ (fun h => by omega)).set _ 1 _ (fun h => by omega)).set _ 2 _ (fun h => by omega))
            exact AllReadyH.nil
          exact AllReadyH.nil
        exact AllReadyH.nil
      exact AllReadyH.nil
    exact AllReadyH.nil
  exact AllReadyH.nil
end Go.Proofs.Ytmbclcplinmblaa
