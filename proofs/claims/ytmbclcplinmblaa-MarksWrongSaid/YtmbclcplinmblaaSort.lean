/- slices.SortFunc over marks' order: a row of spans is sorted. -/
import Derived.Test.YtmbclcplinmblaaShelf
import Derived.Test.YtmbclcplinmblaaW24
namespace Go.Proofs.Ytmbclcplinmblaa
open Go.RowKit Go.Sort

instance : Inhabited Sp := ⟨⟨0, 0, 0⟩⟩
def encSp (s : Sp) : List Value := [.int .i64 s.f, .int .i64 s.t, .int .i64 s.k]

set_option maxRecDepth 100000 in
set_option maxHeartbeats 1000000 in
theorem order_grow (a b : Sp) (w : World) : Calls Try.prog 51 #[a.val, b.val] w fun e w' => e = .returned (.int .i64 (ordI a b)) ∧ ∃ q os', w' = grow (w.drewN q) os' := by
  unfold Sp.val
  go_enter Try.func51, Try.ntmps51
  go_wp2_with fail
  refine wp_region_still_tail 15 (by kernel_rfl) (by kernel_rfl) ?_
  simp only [List.take_succ_cons, List.take_zero, List.drop_succ_cons, List.drop_zero]
  change wpStill _ _ (World.drew _) _ _ _
  repeat (first | still_step | still_call (compare_calls _ _ _))
  refine wpStill_nil ?_
  change wpList _ _ _ _ _ (World.drew _)
  go_wp2_with fail
  refine (or_calls _ (cmpI a.f b.f) (cmpI a.t b.t) (cmpI a.k b.k) _ ?_ ?_ ?_).mono ?_
  · go_simp
  · go_simp
  · go_simp
  rintro e w1 ⟨rfl, rfl⟩
  go_wp2_with fail
  go_ret
  exact ⟨rfl, 1, #[.cells #[.int .i64 a.f, .int .i64 a.t, .int .i64 a.k] 25, .cells #[.int .i64 b.f, .int .i64 b.t, .int .i64 b.k] 25, .cells #[.int .i64 (cmpI a.f b.f), .int .i64 (cmpI a.t b.t), .int .i64 (cmpI a.k b.k)] 3], by
    rw [alloc_eq_grow, alloc_eq_grow, alloc_eq_grow, grow_grow, grow_grow]; rfl⟩

theorem Sp.lt_total (a b : Sp) : a.lt b ∨ a = b ∨ b.lt a := by
  have e : a = b ↔ a.f = b.f ∧ a.t = b.t ∧ a.k = b.k := by
    cases a; cases b; simp
  rw [e]; unfold Sp.lt; omega
theorem ltOrd (x y : Sp) : ltOf ordI x y = decide (x.lt y) := by
  unfold ltOf
  rcases Sp.lt_total x y with h | h | h
  · rw [ordI_lt h]; simp [h]
  · subst h; rw [ordI_eq]; simp [Sp.lt_irrefl]
  · rw [ordI_gt h]; simp [Sp.lt_asymm h]
theorem swoOrd : SWO (ltOf ordI) where
  irrefl x := by rw [ltOrd]; simp [Sp.lt_irrefl]
  trans x y z h1 h2 := by rw [ltOrd] at *; simp at *; exact Sp.lt_trans h1 h2
  ntrans x y z h1 h2 := by
    rw [ltOrd] at *
    simp at *
    intro h3
    rcases Sp.lt_total x y with h | h | h
    · exact h1 h
    · subst h; exact h2 h3
    · exact h2 (Sp.lt_trans h h3)

theorem flatK_sp (l : List Sp) : flatK encSp 3 l.toArray = (spCells l).toArray := by
  refine ext_get! (by simp [spCells_length]) fun t ht => ?_
  have ht' : t < l.length * 3 := by simpa using ht
  rw [get_flatK _ _ _ _ (by simpa using ht')]
  have hk : t / 3 < l.length := by omega
  obtain ⟨h0, h1, h2⟩ := spCells_at (l := l) (k := t / 3) (s := l[t / 3]) (by simp [hk])
  have e : (l.toArray)[t / 3]! = l[t / 3] := by simp [hk]
  rw [e]
  clear e
  generalize l[t / 3] = x at h0 h1 h2 ⊢
  have hm : t % 3 = 0 ∨ t % 3 = 1 ∨ t % 3 = 2 := by omega
  have ed : t = t / 3 * 3 + t % 3 := by omega
  have g : ∀ v, (spCells l)[t]? = some v → (spCells l).toArray[t]! = v := fun v hv => by
    simp [hv]
  rcases hm with hm | hm | hm <;> rw [hm] at ed ⊢ <;> refine (g _ ?_).symm <;> rw [ed]
  · exact h0
  · exact h1
  · exact h2

set_option maxHeartbeats 400000 in
theorem sort_calls (g cap : Nat) (cur : Array Value) (l R : List Sp) (w : World) (hh : w.heap[g]? = some (.cells cur 25 (0, 0))) (hcap : l.length ≤ cap) (hcs : cur.size = cap * 3) (htk : cur.toList.take (l.length * 3) = spCells l)
    (hlen : l.length < 4611686018427387904) (hp : l.Perm R) (hr : Rising R) :
    Calls Try.prog 50 #[.slice (some ⟨g, 0, none⟩) l.length cap, .func (.func 51) #[] #[]] w fun e w' =>
      e = .returned (.tuple #[]) ∧ Only (fun i => i = g) w w' ∧ ∃ cur', w'.heap[g]? = some (.cells cur' 25 (0, 0)) ∧ cur'.size = cap * 3 ∧ cur'.toList.take (R.length * 3) = spCells R := by
  have eg : ∀ args w, (callFunc 51 args).run Try.prog w = .ok (.enter 51 args) w := enters_of Try.func51 (by kernel_rfl) rfl
  have hH : HoldsK encSp 3 w g 0 l.toArray := by
    intro j hj
    rw [flatK_sp] at hj ⊢
    have hj' : j < (spCells l).length := by simpa using hj
    refine ⟨?_, freeAt hh _⟩
    have h1 := rowCell hh htk j (spCells l)[j] (by simp [hj'])
    have e : (⟨g, 0, none⟩ : Addr).add j = ⟨g, j, none⟩ := by unfold Addr.add; split <;> simp_all
    rw [e] at h1
    rw [Nat.zero_add, h1]
    simp [hj']
  have hcon := AnyQ.slices_SortFunc Try.sortSp 3 Try.isAgg25 Try.sizeOf25 encSp (fun _ => rfl) (fun x v hv => by simp [encSp] at hv; rcases hv with rfl | rfl | rfl <;> rfl) ordI swoOrd 51 #[] g 0 cap l.toArray w eg (fun _ _ _ _ x y => order_grow x y _) hH (lt_of_blk hh) (by simpa using hlen)
  change Calls Try.prog 50 _ _ _ at hcon
  rw [List.size_toArray] at hcon
  refine hcon.mono ?_
  rintro e w' ⟨rfl, d', n, os, ⟨p1, _, p3⟩, hs, rfl⟩
  have hd : d'.size = l.length := by simpa using p1
  have e1 : d'.toList = R := by
    refine List.Perm.eq_of_pairwise (le := fun a b => ¬ b.lt a) (fun a b _ _ h1 h2 => ?_) ?_ (hr.imp (fun h => Sp.lt_asymm h)) ?_
    · rcases Sp.lt_total a b with h | h | h
      · exact absurd h h2
      · exact h
      · exact absurd h h1
    · rw [List.pairwise_iff_getElem]
      intro i j hi hj hij
      have := hs i j (Nat.zero_le _) hij (by simp at hj; omega)
      rw [ltOrd] at this
      have a1 : d'[j]! = d'.toList[j] := by rw [getElem!_pos d' j (by simpa using hj)]; simp
      have a2 : d'[i]! = d'.toList[i] := by rw [getElem!_pos d' i (by simpa using hi)]; simp
      rw [a1, a2] at this
      simpa using this
    · have a1 : d'.extract 0 l.length = d' := by rw [← hd]; simp
      have a2 : l.toArray.extract 0 l.length = l.toArray := by simp
      rw [a1, a2] at p3
      exact p3.trans hp
  have e2 : d' = R.toArray := by rw [← e1]
  subst e2
  have hl : R.length = l.length := by simpa using hd
  have hb := lt_of_blk hh
  have hheap : ((sortWorldK encSp 3 w g 0 n R.toArray os).heap)[g]? = some (.cells (putCells id 0 (spCells R).toArray cur) 25 (0, 0)) := by
    unfold sortWorldK putRowK
    rw [flatK_sp]
    show ((w.heap.modify g (onCells (putCells id 0 (spCells R).toArray))) ++ os)[g]? = _
    rw [Array.getElem?_append_left (by simpa using hb), Array.getElem?_modify, if_pos rfl, hh]
    rfl
  refine ⟨rfl, ⟨rfl, rfl, rfl, ?_, fun k hk hn => ?_⟩, _, hheap, ?_, ?_⟩
  · show w.heap.size ≤ ((w.heap.modify g (onCells (putCells id 0 (flatK encSp 3 R.toArray)))) ++ os).size
    simp
  · show ((w.heap.modify g (onCells (putCells id 0 (flatK encSp 3 R.toArray)))) ++ os)[k]? = _
    rw [Array.getElem?_append_left (by simpa using hk), Array.getElem?_modify, if_neg (fun e => hn e.symm)]
  · simp [putCells, hcs]
  · have hs : (spCells R).length = R.length * 3 := spCells_length R
    apply List.ext_getElem?
    intro i
    rw [List.getElem?_take]
    by_cases hi : i < R.length * 3
    · rw [if_pos hi]
      have hc : i < cur.size := by rw [hcs]; have := Nat.mul_le_mul_right 3 hcap; omega
      have hi' : i < (spCells R).length := by omega
      simp [putCells, hc, hi']
    · rw [if_neg hi, List.getElem?_eq_none (by omega)]
end Go.Proofs.Ytmbclcplinmblaa
