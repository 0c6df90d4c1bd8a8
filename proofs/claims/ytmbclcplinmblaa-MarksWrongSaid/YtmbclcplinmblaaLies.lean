/- A tree that lies in a world, node by node. -/
import Derived.Test.YtmbclcplinmblaaHeap
import Derived.Test.YtmbclcplinmblaaTree
namespace Go.Proofs.Ytmbclcplinmblaa
open Go.RowKit

/-- a node's block -/
def nodeObj (d : Nd) (l r : Option Addr) : Obj :=
  .cells #[.int .i64 d.f, .int .i64 d.t, .int .i64 d.k, .pointer l, .pointer r, .int .i64 d.h, .int .i64 d.c, .int .i64 d.m, .int .i64 d.w] 71 (0, 0)

/-- the tree's nodes lie in the world -/
def Lies (w : World) : T → Prop
  | .nil => True
  | .node b d l r => w.heap[b]? = some (nodeObj d l.root r.root) ∧ Lies w l ∧ Lies w r

theorem Lies.only {S : Nat → Prop} {w w' : World} (h : Only S w w') : ∀ {t : T}, Lies w t → (∀ i ∈ t.ids, ¬ S i) → Lies w' t
  | .nil, _, _ => trivial
  | .node b d l r, ⟨hb, hl, hr⟩, hn =>
    ⟨h.keep hb (hn b (by simp [T.ids])), Lies.only h hl (fun i hi => hn i (by simp [T.ids, hi])), Lies.only h hr (fun i hi => hn i (by simp [T.ids, hi]))⟩

theorem Lies.drew {w : World} {t : T} (h : Lies w t) : Lies w.drew t := Lies.only (S := fun _ => False) (Only.refl _ w).drew h (fun _ _ e => e)
theorem Lies.alloc {w : World} {t : T} (h : Lies w t) (o : Obj) : Lies (w.alloc o) t := Lies.only (S := fun _ => False) ((Only.refl _ w).alloc o) h (fun _ _ e => e)

theorem Lies.lt {w : World} : ∀ {t : T}, Lies w t → ∀ i ∈ t.ids, i < w.heap.size
  | .nil, _, i, hi => by cases hi
  | .node b d l r, ⟨hb, hl, hr⟩, i, hi => by
    simp only [T.ids, List.mem_cons, List.mem_append] at hi
    rcases hi with rfl | hi | hi
    · exact lt_of_blk hb
    · exact Lies.lt hl i hi
    · exact Lies.lt hr i hi

theorem nodup_node {b : Nat} {d : Nd} {l r : T} (h : (T.node b d l r).ids.Nodup) :
    l.ids.Nodup ∧ r.ids.Nodup ∧ b ∉ l.ids ∧ b ∉ r.ids ∧ (∀ i ∈ l.ids, i ∉ r.ids) := by
  simp only [T.ids, List.nodup_cons, List.mem_append, not_or, List.nodup_append] at h
  obtain ⟨⟨h1, h2⟩, h3, h4, h5⟩ := h
  exact ⟨h3, h4, h1, h2, fun i hi hr => h5 i hi i hr rfl⟩

/-- what a node's block holds, cell by cell -/
structure NodeAt (w : World) (b : Nat) (d : Nd) (l r : Option Addr) : Prop where
  c0 : w.cell? ⟨b, 0, none⟩ = some (.int .i64 d.f)
  c1 : w.cell? ⟨b, 1, none⟩ = some (.int .i64 d.t)
  c2 : w.cell? ⟨b, 2, none⟩ = some (.int .i64 d.k)
  c3 : w.cell? ⟨b, 3, none⟩ = some (.pointer l)
  c4 : w.cell? ⟨b, 4, none⟩ = some (.pointer r)
  c5 : w.cell? ⟨b, 5, none⟩ = some (.int .i64 d.h)
  c6 : w.cell? ⟨b, 6, none⟩ = some (.int .i64 d.c)
  c7 : w.cell? ⟨b, 7, none⟩ = some (.int .i64 d.m)
  c8 : w.cell? ⟨b, 8, none⟩ = some (.int .i64 d.w)
  fz : ∀ i, w.frozen? ⟨b, i, none⟩ = false

theorem nodeAt {w : World} {b : Nat} {d : Nd} {l r : Option Addr} (h : w.heap[b]? = some (nodeObj d l r)) : NodeAt w b d l r :=
  ⟨cellAt h 0 rfl, cellAt h 1 rfl, cellAt h 2 rfl, cellAt h 3 rfl, cellAt h 4 rfl, cellAt h 5 rfl, cellAt h 6 rfl, cellAt h 7 rfl, cellAt h 8 rfl, freeAt h⟩

theorem nodeObj_eta (d : Nd) (l r : Option Addr) : nodeObj d l r =
  .cells #[.int .i64 d.f, .int .i64 d.t, .int .i64 d.k, .pointer l, .pointer r, .int .i64 d.h, .int .i64 d.c, .int .i64 d.m, .int .i64 d.w] 71 (0, 0) := rfl
end Go.Proofs.Ytmbclcplinmblaa
