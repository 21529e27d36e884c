/- Blocks that are written: what a walk in an abstract world leans on. -/
import Derived.Test.YtkdbajpdcadliaaGreatDoorBb
set_option linter.unusedVariables false
namespace Go.Proofs.YtkdbajpdcadliaaGreatDoor.Pg
open Go.RowKit

/-- Block b is a row of cells of type T, nothing of it frozen. -/
def Blk (w : World) (b : Nat) (T : TypeId) (cs : List Value) : Prop := w.heap[b]? = some (.cells cs.toArray T (0, 0))
section
variable {w w' : World} {b b' : Nat} {T : TypeId} {cs : List Value}
theorem Blk.lt (h : Blk w b T cs) : b < w.heap.size := (Array.getElem?_eq_some_iff.1 h).1
theorem Blk.new (w : World) (l : List Value) (t : TypeId) : Blk (w.alloc (.cells l.toArray t)) w.heap.size t l := heap_alloc_new w _
theorem Blk.ext (h : Blk w b T cs) (he : Ext w w') : Blk w' b T cs := (he.block b h.lt).trans h
theorem Blk.at_ (h : Blk w b T cs) (j : Nat) : w.cell? ⟨b, j, none⟩ = cs[j]? := by simp [World.cell?, show w.heap[b]? = _ from h]
theorem Blk.fz (h : Blk w b T cs) (j : Nat) : w.frozen? ⟨b, j, none⟩ = false := by simp [World.frozen?, show w.heap[b]? = _ from h]
theorem Blk.c0 {v : Value} {l : List Value} (h : Blk w b T (v :: l)) : w.cell? ⟨b, 0, none⟩ = some v := h.at_ 0
theorem Blk.c1 {v v1 : Value} {l : List Value} (h : Blk w b T (v :: v1 :: l)) : w.cell? ⟨b, 1, none⟩ = some v1 := h.at_ 1
theorem Blk.c2 {v v1 v2 : Value} {l : List Value} (h : Blk w b T (v :: v1 :: v2 :: l)) : w.cell? ⟨b, 2, none⟩ = some v2 := h.at_ 2
theorem Blk.c3 {v v1 v2 v3 : Value} {l : List Value} (h : Blk w b T (v :: v1 :: v2 :: v3 :: l)) : w.cell? ⟨b, 3, none⟩ = some v3 := h.at_ 3
theorem Blk.c4 {v v1 v2 v3 v4 : Value} {l : List Value} (h : Blk w b T (v :: v1 :: v2 :: v3 :: v4 :: l)) : w.cell? ⟨b, 4, none⟩ = some v4 := h.at_ 4
theorem Blk.set (h : Blk w b T cs) (j : Nat) (v : Value) : Blk (w.setCell ⟨b, j, none⟩ v) b T (cs.set j v) := by
  obtain ⟨hlt, hk⟩ := Array.getElem?_eq_some_iff.1 h
  show (w.heap.modify b _)[b]? = _
  rw [Array.getElem?_eq_getElem (by rw [Array.size_modify]; exact hlt), Array.getElem_modify_self, hk]
  simp
theorem Blk.other (h : Blk w b T cs) (hne : b ≠ b') (j : Nat) (v : Value) : Blk (w.setCell ⟨b', j, none⟩ v) b T cs :=
  (Below.heap_setCell w ⟨b', j, none⟩ v b hne).trans h
theorem Blk.drewN (h : Blk w b T cs) (n : Nat) : Blk (w.drewN n) b T cs := h.ext ((Ext.refl w).drewN n)
theorem Blk.size_set (w : World) (a : Addr) (v : Value) : (w.setCell a v).heap.size = w.heap.size := by simp [World.setCell]
end
/-- A store into a block that came later. -/
theorem Ext.set {w w' : World} (h : Ext w w') {b : Nat} (hb : w.heap.size ≤ b) (j : Nat) (v : Value) : Ext w (w'.setCell ⟨b, j, none⟩ v) := Below.setCell h (p := ⟨b, j, none⟩) hb v
theorem grown_set (W : World) (b j : Nat) (v : Value) : W.grownBy (W.setCell ⟨b, j, none⟩ v) (some b) :=
  ⟨rfl, rfl, rfl, by simp [World.setCell], fun k _ hk => Below.heap_setCell _ _ _ k (fun e => hk (by rw [e]))⟩
theorem Own.set {w : World} {base b : Nat} {v : Value} {xs : List ByteArray} (h : Own w base v xs) (hb : some b ≠ v.ownBlock) (j : Nat) (u : Value) : Own (w.setCell ⟨b, j, none⟩ u) base v xs :=
  World.ownsRow.kept h (grown_set w b j u) (.inr hb.symm)
theorem Own.base {w : World} {base b : Nat} {v : Value} {xs : List ByteArray} (h : Own w base v xs) (hb : b ≤ base) : Own w b v xs := by
  refine ⟨h.1, ?_⟩
  rcases h.2 with hn | ⟨g, cap, cur, e, h1, h2⟩
  · exact .inl hn
  · exact .inr ⟨g, cap, cur, e, Nat.le_trans hb h1, h2⟩
end Go.Proofs.YtkdbajpdcadliaaGreatDoor.Pg
