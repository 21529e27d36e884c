/- Walks: Begin of both sides. -/
import Derived.Test.YtkdbajpdcadliaaGreatDoorBb
import Derived.Test.YtkdbajpdcadliaaGreatDoorWm
set_option linter.unusedVariables false
namespace Go.Proofs.YtkdbajpdcadliaaGreatDoor.Pg
open Go.RowKit

/-- A run's value. -/
def runV (place : Int) (T : Option Addr) (n c : Nat) (status : ByteArray) (count over : Int) : Value :=
  .agg #[.int .i64 place, .slice T n c, .string status, .int .i64 count, .int .i64 over]
def six : List ByteArray := [⟨#[]⟩, ⟨#[]⟩, ⟨#[]⟩, ⟨#[]⟩, ⟨#[]⟩, ⟨#[]⟩]
theorem six_made : (madeCells (Value.string ⟨#[]⟩).cells (6 * 1)).toList = six.map Value.string := by
  first | rfl | (simp [madeCells, six, Value.cells]; done) | kernel_rfl

set_option maxRecDepth 100000 in
theorem begin22 (nm : ByteArray) (A : Option Addr) (n c : Nat) (ss : List Step) (w : World) (hx : StepsAt w A ss) (hl : ss.length = n) (hb : BdS ss) (hnm : (nm.size : Int) ≤ 1000000) (hv : validS ⟨nm, ss⟩ = true) :
    Calls Tryz.prog 22 #[.agg #[.string nm, .slice A n c]] w fun e w' => ∃ T, e = .returned (.tuple #[runV 0 T 6 6 ⟨#[32, 32]⟩ 0 0, .int .i64 0]) ∧ Own w' w.heap.size (.slice T 6 6) six ∧ Ext w w' := by
  go_enter Tryz.func22, Tryz.ntmps22
  go_wp2_with fail
  refine (valid35 nm A n c ss _ ((hx.ext (Ext.new _ _)).ext (Ext.new _ _)) hl hb (by omega)).mono ?_
  rintro e w1 ⟨rfl, he⟩
  rw [hv]
  have kR0 := Blk.new (w.alloc (.cells #[.string nm, .slice A n c] 24)) [.int .i64 0, .slice none 0 0, .string ⟨#[]⟩, .int .i64 0, .int .i64 0] 27
  rw [show (w.alloc (.cells #[.string nm, .slice A n c] 24)).heap.size = w.heap.size + 1 by simp] at kR0
  have kR1 := kR0.ext he
  have E1 := Ext.trans (Ext.trans (Ext.new w (.cells #[.string nm, .slice A n c] 24)) (Ext.new _ (.cells #[.int .i64 0, .slice none 0 0, .string ⟨#[]⟩, .int .i64 0, .int .i64 0] 27))) he
  have KR1 := Lib.hid kR1
  have HE1 := Lib.hid E1
  clear he hx hl hb kR0 kR1 E1 hv
  obtain ⟨i0, hi, hzz⟩ := Option.map_eq_some_iff.1 infoStr
  simp only [Prod.mk.injEq] at hzz
  obtain ⟨hz0, hz1, hz2⟩ := hzz
  have hRl : w.heap.size + 1 < w1.heap.size := KR1.out.lt
  go_wp2_with (at_make; go_loud (refine wpList_make_full _ rfl _ _ 25 rfl w1.heap.size 9 i0 _ 1 Tryz.underlying25 hi hz0 hz1 .i64 .i64 6 6 6 rfl rfl rfl rfl (by rw [hz2]; decide) (by decide) (Nat.le_refl _) ?_; intro w2 hown hgrow; rw [six_made] at hown; have he2 : Ext w1 w2 := ⟨hgrow.os, hgrow.tape, hgrow.output, hgrow.size, fun i hi => hgrow.block i hi (by simp)⟩; have hO : Own w2 w1.heap.size (.slice (some ⟨w1.heap.size, 0, none⟩) 6 6) six := hown; have kR2 := KR1.out.ext he2; have HO := Lib.hid hO; have HE2 := Lib.hid (Ext.trans HE1.out he2); have KR2 := Lib.hid kR2; have x0 := kR2.c0; have x1 := kR2.c1; have x2 := kR2.c2; have x3 := kR2.c3; have x4 := kR2.c4; have y0 := kR2.fz 0; have y1 := kR2.fz 1; have y2 := kR2.fz 2; have y3 := kR2.fz 3; have y4 := kR2.fz 4; have z := kR2.lt; clear hown hgrow he2 hO kR2))
  have kR4 := (show Blk _ (w.heap.size + 1) 27 [.int .i64 0, .slice (some ⟨w1.heap.size, 0, none⟩) 6 6, .string ⟨#[32, 32]⟩, .int .i64 0, .int .i64 0] from ((((KR2.out.set 0 (.int .i64 0)).set 1 (.slice (some ⟨w1.heap.size, 0, none⟩) 6 6)).set 2 (.string ⟨#[32, 32]⟩)).set 3 (.int .i64 0)).set 4 (.int .i64 0))
  have EW4 := Lib.hid (Ext.set (Ext.set (Ext.set (Ext.set (Ext.set HE2.out (show w.heap.size ≤ w.heap.size + 1 by omega) 0 (.int .i64 0)) (show w.heap.size ≤ w.heap.size + 1 by omega) 1 (.slice (some ⟨w1.heap.size, 0, none⟩) 6 6)) (show w.heap.size ≤ w.heap.size + 1 by omega) 2 (.string ⟨#[32, 32]⟩)) (show w.heap.size ≤ w.heap.size + 1 by omega) 3 (.int .i64 0)) (show w.heap.size ≤ w.heap.size + 1 by omega) 4 (.int .i64 0))
  have HO4 := Lib.hid ((((((HO.out.set (b := w.heap.size + 1) (by simp [Value.ownBlock]; omega) 0 (.int .i64 0)).set (b := w.heap.size + 1) (by simp [Value.ownBlock]; omega) 1 (.slice (some ⟨w1.heap.size, 0, none⟩) 6 6)).set (b := w.heap.size + 1) (by simp [Value.ownBlock]; omega) 2 (.string ⟨#[32, 32]⟩)).set (b := w.heap.size + 1) (by simp [Value.ownBlock]; omega) 3 (.int .i64 0)).set (b := w.heap.size + 1) (by simp [Value.ownBlock]; omega) 4 (.int .i64 0)).base (b := w.heap.size) (by omega))
  clear x0 x1 x2 x3 x4 y0 y1 y2 y3 y4 z KR2 HO HE2
  generalize World.setCell _ _ _ = Z at kR4 EW4 HO4
  have x0 := kR4.c0
  have x1 := kR4.c1
  have x2 := kR4.c2
  have x3 := kR4.c3
  have x4 := kR4.c4
  refine bodyPost_ret (v := .tuple #[runV 0 (some ⟨w1.heap.size, 0, none⟩) 6 6 ⟨#[32, 32]⟩ 0 0, .int .i64 0]) (by simp [results, Tryz.results22, go_sem, x0, x1, x2, x3, x4, runV]) rfl ?_
  exact ⟨_, rfl, HO4.out, EW4.out⟩

set_option maxRecDepth 100000 in
theorem begin29 (nm : ByteArray) (A : Option Addr) (n c : Nat) (ss : List Step) (w : World) (hx : StepsAt w A ss) (hl : ss.length = n) (hb : BdS ss) (hnm : (nm.size : Int) ≤ 1000000) (hv : validS ⟨nm, ss⟩ = true) :
    Calls Tryz.prog 29 #[.agg #[.string nm, .slice A n c]] w fun e w' => ∃ T, e = .returned (.tuple #[runV 0 T 6 6 ⟨#[32, 32]⟩ 0 0, .int .i64 0]) ∧ Own w' w.heap.size (.slice T 6 6) six ∧ Ext w w' := by
  go_enter Tryz.func29, Tryz.ntmps29
  go_wp2_with fail
  refine (valid21 nm A n c ss _ ((hx.ext (Ext.new _ _)).ext (Ext.new _ _)) hl hb (by omega)).mono ?_
  rintro e w1 ⟨rfl, he⟩
  rw [hv]
  have kR0 := Blk.new (w.alloc (.cells #[.string nm, .slice A n c] 24)) [.int .i64 0, .slice none 0 0, .string ⟨#[]⟩, .int .i64 0, .int .i64 0] 27
  rw [show (w.alloc (.cells #[.string nm, .slice A n c] 24)).heap.size = w.heap.size + 1 by simp] at kR0
  have kR1 := kR0.ext he
  have E1 := Ext.trans (Ext.trans (Ext.new w (.cells #[.string nm, .slice A n c] 24)) (Ext.new _ (.cells #[.int .i64 0, .slice none 0 0, .string ⟨#[]⟩, .int .i64 0, .int .i64 0] 27))) he
  have KR1 := Lib.hid kR1
  have HE1 := Lib.hid E1
  clear he hx hl hb kR0 kR1 E1 hv
  obtain ⟨i0, hi, hzz⟩ := Option.map_eq_some_iff.1 infoStr
  simp only [Prod.mk.injEq] at hzz
  obtain ⟨hz0, hz1, hz2⟩ := hzz
  have hRl : w.heap.size + 1 < w1.heap.size := KR1.out.lt
  go_wp2_with (at_make; go_loud (refine wpList_make_full _ rfl _ _ 25 rfl w1.heap.size 9 i0 _ 1 Tryz.underlying25 hi hz0 hz1 .i64 .i64 6 6 6 rfl rfl rfl rfl (by rw [hz2]; decide) (by decide) (Nat.le_refl _) ?_; intro w2 hown hgrow; rw [six_made] at hown; have he2 : Ext w1 w2 := ⟨hgrow.os, hgrow.tape, hgrow.output, hgrow.size, fun i hi => hgrow.block i hi (by simp)⟩; have hO : Own w2 w1.heap.size (.slice (some ⟨w1.heap.size, 0, none⟩) 6 6) six := hown; have kR2 := KR1.out.ext he2; have HO := Lib.hid hO; have HE2 := Lib.hid (Ext.trans HE1.out he2); have KR2 := Lib.hid kR2; have x0 := kR2.c0; have x1 := kR2.c1; have x2 := kR2.c2; have x3 := kR2.c3; have x4 := kR2.c4; have y0 := kR2.fz 0; have y1 := kR2.fz 1; have y2 := kR2.fz 2; have y3 := kR2.fz 3; have y4 := kR2.fz 4; have z := kR2.lt; clear hown hgrow he2 hO kR2))
  have kR4 := (show Blk _ (w.heap.size + 1) 27 [.int .i64 0, .slice (some ⟨w1.heap.size, 0, none⟩) 6 6, .string ⟨#[32, 32]⟩, .int .i64 0, .int .i64 0] from ((((KR2.out.set 0 (.int .i64 0)).set 1 (.slice (some ⟨w1.heap.size, 0, none⟩) 6 6)).set 2 (.string ⟨#[32, 32]⟩)).set 3 (.int .i64 0)).set 4 (.int .i64 0))
  have EW4 := Lib.hid (Ext.set (Ext.set (Ext.set (Ext.set (Ext.set HE2.out (show w.heap.size ≤ w.heap.size + 1 by omega) 0 (.int .i64 0)) (show w.heap.size ≤ w.heap.size + 1 by omega) 1 (.slice (some ⟨w1.heap.size, 0, none⟩) 6 6)) (show w.heap.size ≤ w.heap.size + 1 by omega) 2 (.string ⟨#[32, 32]⟩)) (show w.heap.size ≤ w.heap.size + 1 by omega) 3 (.int .i64 0)) (show w.heap.size ≤ w.heap.size + 1 by omega) 4 (.int .i64 0))
  have HO4 := Lib.hid ((((((HO.out.set (b := w.heap.size + 1) (by simp [Value.ownBlock]; omega) 0 (.int .i64 0)).set (b := w.heap.size + 1) (by simp [Value.ownBlock]; omega) 1 (.slice (some ⟨w1.heap.size, 0, none⟩) 6 6)).set (b := w.heap.size + 1) (by simp [Value.ownBlock]; omega) 2 (.string ⟨#[32, 32]⟩)).set (b := w.heap.size + 1) (by simp [Value.ownBlock]; omega) 3 (.int .i64 0)).set (b := w.heap.size + 1) (by simp [Value.ownBlock]; omega) 4 (.int .i64 0)).base (b := w.heap.size) (by omega))
  clear x0 x1 x2 x3 x4 y0 y1 y2 y3 y4 z KR2 HO HE2
  generalize World.setCell _ _ _ = Z at kR4 EW4 HO4
  have x0 := kR4.c0
  have x1 := kR4.c1
  have x2 := kR4.c2
  have x3 := kR4.c3
  have x4 := kR4.c4
  refine bodyPost_ret (v := .tuple #[runV 0 (some ⟨w1.heap.size, 0, none⟩) 6 6 ⟨#[32, 32]⟩ 0 0, .int .i64 0]) (by simp [results, Tryz.results29, go_sem, x0, x1, x2, x3, x4, runV]) rfl ?_
  exact ⟨_, rfl, HO4.out, EW4.out⟩

set_option maxRecDepth 100000 in
theorem begin22_no (nm : ByteArray) (A : Option Addr) (n c : Nat) (ss : List Step) (w : World) (hx : StepsAt w A ss) (hl : ss.length = n) (hb : BdS ss) (hnm : (nm.size : Int) ≤ 1000000) (hv : validS ⟨nm, ss⟩ = false) :
    Calls Tryz.prog 22 #[.agg #[.string nm, .slice A n c]] w fun e w' => e = .returned (.tuple #[runV 0 none 0 0 ⟨#[]⟩ 0 0, .int .i64 230]) ∧ Ext w w' := by
  go_enter Tryz.func22, Tryz.ntmps22
  go_wp2_with fail
  refine (valid35 nm A n c ss _ ((hx.ext (Ext.new _ _)).ext (Ext.new _ _)) hl hb (by omega)).mono ?_
  rintro e w1 ⟨rfl, he⟩
  rw [hv]
  have kR0 := Blk.new (w.alloc (.cells #[.string nm, .slice A n c] 24)) [.int .i64 0, .slice none 0 0, .string ⟨#[]⟩, .int .i64 0, .int .i64 0] 27
  rw [show (w.alloc (.cells #[.string nm, .slice A n c] 24)).heap.size = w.heap.size + 1 by simp] at kR0
  have kR1 := kR0.ext he
  have E1 := Ext.trans (Ext.trans (Ext.new w (.cells #[.string nm, .slice A n c] 24)) (Ext.new _ (.cells #[.int .i64 0, .slice none 0 0, .string ⟨#[]⟩, .int .i64 0, .int .i64 0] 27))) he
  have KR1 := Lib.hid kR1
  have HE1 := Lib.hid E1
  have x0 := kR1.c0
  have x1 := kR1.c1
  have x2 := kR1.c2
  have x3 := kR1.c3
  have x4 := kR1.c4
  have y0 := kR1.fz 0
  have y1 := kR1.fz 1
  have y2 := kR1.fz 2
  have y3 := kR1.fz 3
  have y4 := kR1.fz 4
  have z := kR1.lt
  clear he hx hl hb kR0 kR1 E1 hv
  go_wp2_with fail
  have kR4 := (show Blk _ (w.heap.size + 1) 27 [.int .i64 0, .slice none 0 0, .string ⟨#[]⟩, .int .i64 0, .int .i64 0] from ((((KR1.out.set 0 (.int .i64 0)).set 1 (.slice none 0 0)).set 2 (.string ⟨#[]⟩)).set 3 (.int .i64 0)).set 4 (.int .i64 0))
  have EW4 := Lib.hid (Ext.set (Ext.set (Ext.set (Ext.set (Ext.set HE1.out (show w.heap.size ≤ w.heap.size + 1 by omega) 0 (.int .i64 0)) (show w.heap.size ≤ w.heap.size + 1 by omega) 1 (.slice none 0 0)) (show w.heap.size ≤ w.heap.size + 1 by omega) 2 (.string ⟨#[]⟩)) (show w.heap.size ≤ w.heap.size + 1 by omega) 3 (.int .i64 0)) (show w.heap.size ≤ w.heap.size + 1 by omega) 4 (.int .i64 0))
  clear x0 x1 x2 x3 x4 y0 y1 y2 y3 y4 z KR1 HE1
  generalize World.setCell _ _ _ = Z at kR4 EW4
  have x0 := kR4.c0
  have x1 := kR4.c1
  have x2 := kR4.c2
  have x3 := kR4.c3
  have x4 := kR4.c4
  refine bodyPost_ret (v := .tuple #[runV 0 none 0 0 ⟨#[]⟩ 0 0, .int .i64 230]) (by simp [results, Tryz.results22, go_sem, x0, x1, x2, x3, x4, runV]) rfl ?_
  exact ⟨rfl, EW4.out⟩

set_option maxRecDepth 100000 in
theorem begin29_no (nm : ByteArray) (A : Option Addr) (n c : Nat) (ss : List Step) (w : World) (hx : StepsAt w A ss) (hl : ss.length = n) (hb : BdS ss) (hnm : (nm.size : Int) ≤ 1000000) (hv : validS ⟨nm, ss⟩ = false) :
    Calls Tryz.prog 29 #[.agg #[.string nm, .slice A n c]] w fun e w' => e = .returned (.tuple #[runV 0 none 0 0 ⟨#[]⟩ 0 0, .int .i64 230]) ∧ Ext w w' := by
  go_enter Tryz.func29, Tryz.ntmps29
  go_wp2_with fail
  refine (valid21 nm A n c ss _ ((hx.ext (Ext.new _ _)).ext (Ext.new _ _)) hl hb (by omega)).mono ?_
  rintro e w1 ⟨rfl, he⟩
  rw [hv]
  have kR0 := Blk.new (w.alloc (.cells #[.string nm, .slice A n c] 24)) [.int .i64 0, .slice none 0 0, .string ⟨#[]⟩, .int .i64 0, .int .i64 0] 27
  rw [show (w.alloc (.cells #[.string nm, .slice A n c] 24)).heap.size = w.heap.size + 1 by simp] at kR0
  have kR1 := kR0.ext he
  have E1 := Ext.trans (Ext.trans (Ext.new w (.cells #[.string nm, .slice A n c] 24)) (Ext.new _ (.cells #[.int .i64 0, .slice none 0 0, .string ⟨#[]⟩, .int .i64 0, .int .i64 0] 27))) he
  have KR1 := Lib.hid kR1
  have HE1 := Lib.hid E1
  have x0 := kR1.c0
  have x1 := kR1.c1
  have x2 := kR1.c2
  have x3 := kR1.c3
  have x4 := kR1.c4
  have y0 := kR1.fz 0
  have y1 := kR1.fz 1
  have y2 := kR1.fz 2
  have y3 := kR1.fz 3
  have y4 := kR1.fz 4
  have z := kR1.lt
  clear he hx hl hb kR0 kR1 E1 hv
  go_wp2_with fail
  have kR4 := (show Blk _ (w.heap.size + 1) 27 [.int .i64 0, .slice none 0 0, .string ⟨#[]⟩, .int .i64 0, .int .i64 0] from ((((KR1.out.set 0 (.int .i64 0)).set 1 (.slice none 0 0)).set 2 (.string ⟨#[]⟩)).set 3 (.int .i64 0)).set 4 (.int .i64 0))
  have EW4 := Lib.hid (Ext.set (Ext.set (Ext.set (Ext.set (Ext.set HE1.out (show w.heap.size ≤ w.heap.size + 1 by omega) 0 (.int .i64 0)) (show w.heap.size ≤ w.heap.size + 1 by omega) 1 (.slice none 0 0)) (show w.heap.size ≤ w.heap.size + 1 by omega) 2 (.string ⟨#[]⟩)) (show w.heap.size ≤ w.heap.size + 1 by omega) 3 (.int .i64 0)) (show w.heap.size ≤ w.heap.size + 1 by omega) 4 (.int .i64 0))
  clear x0 x1 x2 x3 x4 y0 y1 y2 y3 y4 z KR1 HE1
  generalize World.setCell _ _ _ = Z at kR4 EW4
  have x0 := kR4.c0
  have x1 := kR4.c1
  have x2 := kR4.c2
  have x3 := kR4.c3
  have x4 := kR4.c4
  refine bodyPost_ret (v := .tuple #[runV 0 none 0 0 ⟨#[]⟩ 0 0, .int .i64 230]) (by simp [results, Tryz.results29, go_sem, x0, x1, x2, x3, x4, runV]) rfl ?_
  exact ⟨rfl, EW4.out⟩

end Go.Proofs.YtkdbajpdcadliaaGreatDoor.Pg
