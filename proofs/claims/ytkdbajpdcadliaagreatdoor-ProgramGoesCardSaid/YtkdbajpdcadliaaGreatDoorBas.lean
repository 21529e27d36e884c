/- The words of this seat's walks: the worlds, the kit's imports. -/
import Derived.Test.YtkdbajpdcadliaaGreatDoorProg
import Derived.Test.YtkdbajpdcadliaaGreatDoorSp
import Derived.WalkKit
import Derived.RowKit
import Derived.RowKit3
import Derived.OwnWalk
import Derived.Below
import Derived.Outline
import Derived.Lib.Hide
import Derived.Deep.LoopGhost
import Derived.Deep.QuietTactic
import Derived.BigQuiet
import Derived.Deep.RegionHeld3
import Derived.StillTailTactics
import Derived.Laws.OwnMore
import Derived.Maps.AppendAt
import Derived.Laws.CopyOwn
import Derived.Laws.MakeOwn
import Derived.Laws.Rows
import Derived.WideLaws
import Derived.LaidEql
import Derived.IntWalk
import Derived.WalkSpells
import Derived.WalkLawsBesides
import Derived.Lib.ConvBytes
import Derived.Laws.BytesArg
import Derived.Handy
import Derived.Lib.LaidTab
import Derived.Lib.Itoa
import Derived.Sort.Grow
import Derived.Lib.IndexMore
set_option linter.unusedVariables false
namespace Go.Proofs.YtkdbajpdcadliaaGreatDoor.Pg
open Go.RowKit

/-- Nothing that was there has turned; blocks may have come. -/
abbrev Ext (w w' : World) : Prop := Below w.heap.size w w'
theorem Ext.refl (w : World) : Ext w w := Below.refl _ _
theorem Ext.trans {a b c : World} (h : Ext a b) (k : Ext b c) : Ext a c := Below.trans h (Below.mono k h.size)
theorem Ext.then {B : Nat} {a b c : World} (h : Below B a b) (hB : B ≤ b.heap.size) (k : Ext b c) : Below B a c := Below.trans h (Below.mono k hB)
theorem Ext.cell {w w' : World} (h : Ext w w') {p : Addr} {v : Value} (hc : w.cell? p = some v) : w'.cell? p = some v :=
  (Below.cell h (World.block_lt_of_cell? w p hc)).trans hc

/-- The bytes of a byte. -/
theorem u8_lt (c : UInt8) : (c.toNat : Int) < 256 := by have := c.toNat_lt; omega
/-- '[]byte(s)': a new block with the bytes. -/
theorem bytes_of (w : World) (s : ByteArray) : ∃ cap W1, (convert 9 118 (.string s)).run Tryz.prog w = .ok (.slice (some ⟨w.heap.size, 0, none⟩) s.size cap) W1 ∧
    (∀ j (h : j < s.size), W1.cell? ⟨w.heap.size, j, none⟩ = some (.int .u8 s[j].toNat)) ∧ Ext w W1 ∧ W1.heap.size = w.heap.size + 1 := by
  refine ⟨_, _, Lib.run_convert_string_bytes w 9 118 5 s Tryz.underlying9 Tryz.underlying118 Tryz.underlying5, fun j h => ?_, ?_, Lib.bytesWorld_size _ _ _⟩
  · rw [Lib.bytesWorld_cell _ _ _ _ h]
    have hj : j < s.data.toList.length := by simpa using h
    rw [List.getD_eq_getElem?_getD, List.getElem?_eq_getElem hj]
    simp [ByteArray.getElem_eq_getElem_data]
  · exact ⟨rfl, rfl, rfl, by rw [Lib.bytesWorld_size]; omega, fun k hk => Lib.bytesWorld_at_old _ _ _ _ hk⟩

theorem Ext.drewN {w w' : World} (h : Ext w w') (n : Nat) : Ext w (w'.drewN n) := ⟨h.os, h.tape, h.output, h.size, h.block⟩
/-- '==' of two texts, as the walk spells it. -/
theorem str_eq {a b : ByteArray} (h : a = b) : (a.toList == b.toList) = true := by subst h; simp
theorem str_ne {a b : ByteArray} (h : a ≠ b) : (a.toList == b.toList) = false := by
  rw [beq_eq_false_iff_ne, ByteArray.toList_eq, ByteArray.toList_eq]
  intro e
  exact h (ByteArray.ext (Array.toList_inj.mp e))

/-! ### slices that are read -/
/-- A slice of strings reads as xs. -/
def Strs (w : World) (A : Option Addr) (xs : List ByteArray) : Prop :=
  ∀ i (h : i < xs.length), ∃ ad, A = some ad ∧ w.cell? (ad.add i) = some (.string xs[i])
theorem Strs.ext {w w' : World} {A : Option Addr} {xs : List ByteArray} (h : Strs w A xs) (he : Ext w w') : Strs w' A xs := fun i hi => by
  obtain ⟨ad, e, hc⟩ := h i hi
  exact ⟨ad, e, he.cell hc⟩
theorem Strs.nil (w : World) (A : Option Addr) : Strs w A [] := fun i h => by simp at h
/-- The same at one address. -/
theorem Strs.at_ {w : World} {A : Option Addr} {xs : List ByteArray} (h : Strs w A xs) (hp : 0 < xs.length) : ∃ ad, A = some ad ∧ ∀ i (h : i < xs.length), w.cell? (ad.add i) = some (.string xs[i]) := by
  obtain ⟨ad, rfl, _⟩ := h 0 hp
  refine ⟨ad, rfl, fun i hi => ?_⟩
  obtain ⟨ad', e, hc⟩ := h i hi
  cases e
  exact hc

/-- Texts of no great length. -/
structure Bd (xs : List ByteArray) : Prop where
  len : (xs.length : Int) ≤ 1000000000
  each : ∀ x ∈ xs, (x.size : Int) ≤ 1000000000
theorem le_max {n : Nat} (h : (n : Int) ≤ 1000000000) : n ≤ maxLen := by unfold maxLen; omega
theorem Bd.at_ {xs : List ByteArray} (h : Bd xs) (i : Nat) (hi : i < xs.length) : (xs[i].size : Int) ≤ 1000000000 := h.each _ (List.getElem_mem hi)

theorem block_of_cell {w : World} {a : Addr} {i : Nat} {v : Value} (h : w.cell? (a.add i) = some v) : a.block < w.heap.size := by
  have := World.block_lt_of_cell? w _ h
  unfold Addr.add at this
  split at this <;> exact this

/-- A slice of steps reads as ss. -/
def StepsAt (w : World) (A : Option Addr) (ss : List Step) : Prop :=
  ∀ i (h : i < ss.length), ∃ ad T c, A = some ad ∧ w.cell? (ad.add (i * 4)) = some (.int .i64 ss[i].op) ∧ w.cell? ⟨(ad.add (i * 4)).block, (ad.add (i * 4)).off + 1, none⟩ = some (.int .i64 ss[i].a)
    ∧ w.cell? ⟨(ad.add (i * 4)).block, (ad.add (i * 4)).off + 2, none⟩ = some (.int .i64 ss[i].b) ∧ w.cell? ⟨(ad.add (i * 4)).block, (ad.add (i * 4)).off + 3, none⟩ = some (.slice T ss[i].texts.length c)
    ∧ ss[i].texts.length ≤ c ∧ Strs w T ss[i].texts
theorem StepsAt.ext {w w' : World} {A : Option Addr} {ss : List Step} (h : StepsAt w A ss) (he : Ext w w') : StepsAt w' A ss := fun i hi => by
  obtain ⟨ad, T, c, e, c0, c1, c2, c3, hc, hs⟩ := h i hi
  exact ⟨ad, T, c, e, he.cell c0, he.cell c1, he.cell c2, he.cell c3, hc, hs.ext he⟩
/-- Steps of no great length. -/
structure BdS (ss : List Step) : Prop where
  len : (ss.length : Int) ≤ 1000000000
  each : ∀ s ∈ ss, Bd s.texts
theorem BdS.at_ {ss : List Step} (h : BdS ss) (i : Nat) (hi : i < ss.length) : Bd ss[i].texts := h.each _ (List.getElem_mem hi)

/-! ### boxes -/
/-- Block b holds these cells. -/
def Cells (w : World) (b : Nat) (cs : List Value) : Prop := b < w.heap.size ∧ ∀ j v, cs[j]? = some v → w.cell? ⟨b, j, none⟩ = some v
theorem Cells.ext {w w' : World} {b : Nat} {cs : List Value} (h : Cells w b cs) (he : Ext w w') : Cells w' b cs := ⟨Nat.lt_of_lt_of_le h.1 he.size, fun j v hj => he.cell (h.2 j v hj)⟩
theorem Cells.new (w : World) (l : List Value) (t : TypeId) : Cells (w.alloc (.cells l.toArray t)) w.heap.size l :=
  ⟨by simp, fun j v hj => by rw [cell_of_row _ _ _ _ _ _ (heap_alloc_new w _)]; simpa using hj⟩
theorem Cells.c0 {w : World} {b : Nat} {v : Value} {l : List Value} (h : Cells w b (v :: l)) : w.cell? ⟨b, 0, none⟩ = some v := h.2 0 v rfl
theorem Cells.c1 {w : World} {b : Nat} {v v1 : Value} {l : List Value} (h : Cells w b (v :: v1 :: l)) : w.cell? ⟨b, 1, none⟩ = some v1 := h.2 1 v1 rfl
theorem Cells.c2 {w : World} {b : Nat} {v v1 v2 : Value} {l : List Value} (h : Cells w b (v :: v1 :: v2 :: l)) : w.cell? ⟨b, 2, none⟩ = some v2 := h.2 2 v2 rfl
theorem Cells.c3 {w : World} {b : Nat} {v v1 v2 v3 : Value} {l : List Value} (h : Cells w b (v :: v1 :: v2 :: v3 :: l)) : w.cell? ⟨b, 3, none⟩ = some v3 := h.2 3 v3 rfl
theorem Cells.c4 {w : World} {b : Nat} {v v1 v2 v3 v4 : Value} {l : List Value} (h : Cells w b (v :: v1 :: v2 :: v3 :: v4 :: l)) : w.cell? ⟨b, 4, none⟩ = some v4 := h.2 4 v4 rfl
theorem Ext.al {w w' : World} (h : Ext w w') (o : Obj) : Ext w (w'.alloc o) := Below.alloc h h.size o
theorem Ext.new (w : World) (o : Obj) : Ext w (w.alloc o) := (Ext.refl w).al o

/-! ### a slice of strings of the call's own -/
/-- The slice value v owns the texts xs, in a block from base on. -/
def Own (w : World) (base : Nat) (v : Value) (xs : List ByteArray) : Prop := w.ownsRow base 9 1 v xs.length (xs.map Value.string)
theorem Own.none_ (w : World) (base : Nat) : Own w base (.slice none 0 0) [] := ⟨by simp, .inl ⟨rfl, rfl⟩⟩
theorem Own.below {w w' : World} {base B : Nat} {v : Value} {xs : List ByteArray} (h : Own w base v xs) (hb : Below B w w') (hB : w.heap.size ≤ B) : Own w' base v xs :=
  World.ownsRow.kept (row := none) h ⟨hb.os, hb.tape, hb.output, hb.size, fun i hi _ => hb.block i (by omega)⟩ (by cases v.ownBlock <;> simp)
theorem Own.ext {w w' : World} {base : Nat} {v : Value} {xs : List ByteArray} (h : Own w base v xs) (he : Ext w w') : Own w' base v xs := h.below he (Nat.le_refl _)
theorem Own.open_ {w : World} {base : Nat} {v : Value} {xs : List ByteArray} (h : Own w base v xs) : ∃ A c, v = .slice A xs.length c ∧ xs.length ≤ c ∧ Strs w A xs ∧ (∀ ad, A = some ad → base ≤ ad.block) := by
  rcases h.2 with ⟨rfl, h0⟩ | ⟨g, cap, cur, rfl, hb, hh, hc, _⟩
  · have hx : xs = [] := List.eq_nil_of_length_eq_zero h0
    subst hx
    exact ⟨none, 0, rfl, Nat.le_refl _, Strs.nil _ _, fun _ h => by cases h⟩
  · refine ⟨_, cap, rfl, hc, fun i hi => ⟨_, rfl, ?_⟩, fun ad e => by cases e; exact hb⟩
    exact World.ownsRow.cells h (g := g) rfl i (.string xs[i]) (by simp [List.getElem?_eq_getElem hi])
theorem infoStr : (Tryz.prog.info? 9).map (fun i => (i.zero, i.size, i.bytes)) = some (some (.string ⟨#[]⟩), 1, 16) := by kernel_rfl
/-- append(v, y): behind 'at_builtin'; the goal's world bears the variadic's box. -/
theorem app_str {ops : Array Oper} {rest : List Oper} {o : Oper} {a : Act} {Q : Exit → Act → World → Prop} {W : World} (base : Nat) (hgd : o.guard = none) (s x : Operand)
    (ho : o.op = .call { callee := .builtin .append, args := #[s, x], argTypes := #[25, 25] }) (v : Value) (xs : List ByteArray) (y : ByteArray) (hs : a.eval s = v)
    (hx : a.eval x = .slice (some ⟨W.heap.size, 0, none⟩) 1 1) (HO : Own W base v xs) (hbase : base ≤ W.heap.size) (hl : (xs.length : Int) ≤ 1000000000000)
    (h : ∀ v1 w1, Own w1 base v1 (xs ++ [y]) → Below base W w1 → base ≤ w1.heap.size → wpList Tryz.prog ops Q rest (a.put o.dst v1) w1) :
    wpList Tryz.prog ops Q (o :: rest) a (W.alloc (.cells #[.string y] 9)) := by
  obtain ⟨i0, hi, hzz⟩ := Option.map_eq_some_iff.1 infoStr
  simp only [Prod.mk.injEq] at hzz
  obtain ⟨hz0, hz1, hz2⟩ := hzz
  refine wpList_append_own_at (W.alloc (.cells #[.string y] 9)) hgd s x 25 ho base 9 i0 _ 1 16 Tryz.underlying25 hi hz0 hz1 hz2 rfl (by omega) v xs.length (xs.map Value.string) hs
    (World.ownsRow.alloc HO _) ⟨W.heap.size, 0, none⟩ 1 1 [.string y] hx rfl (cell_one_new _ _ _) (by simp [Value.oneCell']) (by simp only [maxLen]; omega) (by omega) (by simp; omega) ?_
  intro v1 w1 hown hg _ hat
  have hb : Below base W w1 := by
    refine ((Below.refl base W).alloc hbase _).grown hg (by simp; omega) (fun k hk => ?_)
    exact (World.ownsRow.lt HO k hk).1
  refine h v1 w1 ?_ hb (Nat.le_trans hbase hb.size)
  unfold Own
  simpa using hown

/-! ### the listed variables -/
/-- What the library's variables hold. -/
structure Gl (w : World) : Prop where
  len : ∃ m, w.cell? ⟨0, 0, none⟩ = some (.int .i64 m)
  tab : Lib.TabIs Tryz.prog w "internal/strconv.uint64pow10" .u64 Lib.pow10Tab
  syn : ∃ t p, w.var? Tryz.prog "strconv.ErrSyntax" = some #[.iface t p]
  rng : ∃ t p, w.var? Tryz.prog "strconv.ErrRange" = some #[.iface t p]
theorem var?_ext {P : Program} {w w' : World} {n : String} {cs : Array Value} (h : Ext w w') (hv : w.var? P n = some cs) : w'.var? P n = some cs := by
  unfold World.var? at hv ⊢
  cases hg : P.globalNamed n with
  | none => simp [hg] at hv
  | some g =>
    simp only [hg, Option.bind_some] at hv ⊢
    have hlt : g < w.heap.size := by
      rcases Nat.lt_or_ge g w.heap.size with h' | h'
      · exact h'
      · simp [Array.getElem?_eq_none h'] at hv
    rw [h.block g hlt]
    exact hv
theorem Gl.ext {w w' : World} (h : Gl w) (he : Ext w w') : Gl w' := by
  obtain ⟨m, hm⟩ := h.len
  obtain ⟨t1, p1, h1⟩ := h.syn
  obtain ⟨t2, p2, h2⟩ := h.rng
  exact ⟨⟨m, he.cell hm⟩, var?_ext he h.tab, ⟨t1, p1, var?_ext he h1⟩, ⟨t2, p2, var?_ext he h2⟩⟩
theorem Ext.grow (w : World) (k : Nat) (os : Array Obj) : Ext w (Sort.grow (w.drewN k) os) :=
  ⟨rfl, rfl, rfl, by rw [Sort.size_grow]; show w.heap.size ≤ w.heap.size + _; omega, fun i hi => Sort.heap_grow_old (w.drewN k) os hi⟩

theorem ret_int {k : IntKind} {a b : Int} (h : a = b) : Ending.returned (.int k a) = .returned (.int k b) := by rw [h]
theorem ret_bool {a b : Bool} (h : a = b) : Ending.returned (.bool a) = .returned (.bool b) := by rw [h]
theorem ret_str {a b : ByteArray} (h : a = b) : Ending.returned (.string a) = .returned (.string b) := by rw [h]
end Go.Proofs.YtkdbajpdcadliaaGreatDoor.Pg
