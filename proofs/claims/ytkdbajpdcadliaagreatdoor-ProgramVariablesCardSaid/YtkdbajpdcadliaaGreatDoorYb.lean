/- The memory of a walk that keeps what was there but for one box. -/
import Derived.Test.YtkdbajpdcadliaaGreatDoorYa
set_option linter.unusedVariables false
namespace Go.Proofs.YtkdbajpdcadliaaGreatDoor.Pg
open Go.RowKit

/-- Of what was there at w, nothing but box bp has turned. -/
structure Keep (bp : Nat) (w wr : World) : Prop where
  os : wr.os = w.os
  tape : wr.tape = w.tape
  output : wr.output = w.output
  size : w.heap.size ≤ wr.heap.size
  block : ∀ k, k < w.heap.size → k ≠ bp → wr.heap[k]? = w.heap[k]?
section
variable {bp : Nat} {w wr w' : World}
theorem Keep.refl (bp : Nat) (w : World) : Keep bp w w := ⟨rfl, rfl, rfl, Nat.le_refl _, fun _ _ _ => rfl⟩
theorem Keep.ext (h : Keep bp w wr) (he : Ext wr w') : Keep bp w w' :=
  ⟨he.os.trans h.os, he.tape.trans h.tape, he.output.trans h.output, Nat.le_trans h.size he.size, fun k hk hn => (he.block k (Nat.lt_of_lt_of_le hk h.size)).trans (h.block k hk hn)⟩
theorem Keep.row {row : Option Nat} (h : Keep bp w wr) (hg : wr.grownBy w' row) (hr : ∀ b, row = some b → w.heap.size ≤ b ∨ b = bp) : Keep bp w w' :=
  ⟨hg.os.trans h.os, hg.tape.trans h.tape, hg.output.trans h.output, Nat.le_trans h.size hg.size, fun k hk hn => (hg.block k (Nat.lt_of_lt_of_le hk h.size) (fun e => by rcases hr k e.symm with h1 | h1 <;> omega)).trans (h.block k hk hn)⟩
theorem Keep.set (h : Keep bp w wr) {g : Nat} (hg : w.heap.size ≤ g ∨ g = bp) (j : Nat) (v : Value) : Keep bp w (wr.setCell ⟨g, j, none⟩ v) :=
  h.row (grown_set wr g j v) (fun b e => by cases e; exact hg)
theorem Keep.grown (h : Keep bp w wr) : w.grownBy wr (some bp) := ⟨h.os, h.tape, h.output, h.size, fun k hk hn => h.block k hk (fun e => hn (by rw [e]))⟩
theorem Keep.below {w0 : World} (h : Keep bp w wr) (h0 : Ext w0 w) (hb : w0.heap.size ≤ bp) : Ext w0 wr :=
  ⟨h.os.trans h0.os, h.tape.trans h0.tape, h.output.trans h0.output, Nat.le_trans h0.size h.size, fun k hk => (h.block k (Nat.lt_of_lt_of_le hk h0.size) (by omega)).trans (h0.block k hk)⟩
theorem Keep.strs {A : Option Addr} {xs : List ByteArray} (h : Keep bp w wr) (hs : Strs w A xs) (hA : ∀ ad, A = some ad → ad.block ≠ bp) : Strs wr A xs := by
  intro i hi
  obtain ⟨ad, e, hc⟩ := hs i hi
  refine ⟨ad, e, ?_⟩
  have hb := block_of_cell hc
  have hab : (ad.add i).block = ad.block := by unfold Addr.add; split <;> rfl
  rw [World.cell?_of_block (h.block _ (by rw [hab]; exact hb) (by rw [hab]; exact hA ad e))]
  exact hc
/-- Another box that was there. -/
theorem Keep.blk {b : Nat} {T : TypeId} {cs : List Value} (h : Keep bp w wr) (hb : Blk w b T cs) (hne : b ≠ bp) : Blk wr b T cs := (h.block b hb.lt hne).trans hb
end
theorem Own.six {w : World} {base g d n : Nat} {xs : List ByteArray} (h : Own w base (.slice (some ⟨g, 0, none⟩) n d) xs) : n = xs.length := by
  obtain ⟨A, c, e, _⟩ := h.open_
  simp only [Value.slice.injEq] at e
  exact e.2.1
theorem Own.cellAt {w : World} {base g d n : Nat} {xs : List ByteArray} (h : Own w base (.slice (some ⟨g, 0, none⟩) n d) xs) (i : Nat) (hi : i < xs.length) : w.cell? ⟨g, i, none⟩ = some (.string xs[i]) := by
  obtain rfl := h.six
  rw [World.ownsRow.cellAt h i (by omega)]
  simp [hi]
theorem Own.fzAt {w : World} {base g d n : Nat} {xs : List ByteArray} (h : Own w base (.slice (some ⟨g, 0, none⟩) n d) xs) (i : Nat) : w.frozen? ⟨g, i, none⟩ = false := by
  obtain rfl := h.six
  exact World.ownsRow.frozenAt h i
theorem Own.stored {w : World} {base g d n : Nat} {xs : List ByteArray} (h : Own w base (.slice (some ⟨g, 0, none⟩) n d) xs) (i : Nat) (y : ByteArray) : Own (w.setCell ⟨g, i, none⟩ (.string y)) base (.slice (some ⟨g, 0, none⟩) n d) (xs.set i y) := by
  obtain rfl := h.six
  have := (World.ownsRow.stored h i (.string y)).1
  rw [← List.map_set] at this
  unfold Own
  simpa using this
theorem row_self (l : List SV) (i : Nat) (hi : i < l.length) : (rowL l).set (i * 4 + 3) l[i].2 = rowL l := by
  have h := rowL_get l i hi 3 (by omega)
  have hlt : i * 4 + 3 < (rowL l).length := by rw [rowL_length]; omega
  rw [List.getElem?_eq_getElem hlt] at h
  have h2 : (rowL l)[i * 4 + 3] = l[i].2 := Option.some.inj h
  rw [← h2, List.set_getElem_self]
/-- A store into one of the rows of texts. -/
theorem Mem.txtset {w : World} {B b n c : Nat} {sv : Value} {l : List SV} (h : Mem w B sv l) (i : Nat) (hi : i < l.length) (hv : l[i].2 = .slice (some ⟨b, 0, none⟩) n c) (q : Nat) (y : ByteArray) :
    Mem (w.setCell ⟨b, q, none⟩ (.string y)) B sv (l.set i (⟨l[i].1.op, l[i].1.a, l[i].1.b, l[i].1.texts.set q y⟩, l[i].2)) := by
  have hg := grown_set w b q (.string y)
  have hob : l[i].2.ownBlock = some b := by rw [hv]; rfl
  have hrow : (rowL (l.set i (⟨l[i].1.op, l[i].1.a, l[i].1.b, l[i].1.texts.set q y⟩, l[i].2))) = rowL l := by
    exact (rowL_set l i hi ⟨l[i].1.op, l[i].1.a, l[i].1.b, l[i].1.texts.set q y⟩ l[i].2 rfl rfl rfl).symm.trans (row_self l i hi)
  refine ⟨?_, fun j hj => ?_, fun j k hj hk hne x hx => ?_⟩
  · rw [hrow, List.length_set]
    exact World.ownsRow.kept h.row hg (.inr (own_ty2 h.row (h.txt i hi) (by decide) b hob))
  · have hj' : j < l.length := by simpa using hj
    by_cases hji : j = i
    · subst hji
      simp only [List.getElem_set_self]
      have ho := h.txt j hj'
      rw [hv] at ho ⊢
      exact ho.stored q y
    · rw [List.getElem_set_ne (fun e => hji e.symm)]
      exact World.ownsRow.kept (h.txt j hj') hg (.inr (fun e => h.far j i hj' hi hji b e hob))
  · have hj' : j < l.length := by simpa using hj
    have hk' : k < l.length := by simpa using hk
    have e : ∀ m (hm : m < l.length), ((l.set i (⟨l[i].1.op, l[i].1.a, l[i].1.b, l[i].1.texts.set q y⟩, l[i].2))[m]'(by simpa using hm)).2 = l[m].2 := by
      intro m hm
      by_cases hmi : m = i
      · subst hmi; simp only [List.getElem_set_self]
      · rw [List.getElem_set_ne (fun e => hmi e.symm)]
    rw [e j hj'] at hx
    rw [e k hk']
    exact h.far j k hj' hk' hne x hx
theorem grown_pre {w X W1 : World} {row : Option Nat} (hg : X.grownBy W1 row) (h : Ext w X) : Ext w X := h
end Go.Proofs.YtkdbajpdcadliaaGreatDoor.Pg
