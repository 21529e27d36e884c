/- Walks: program.readStep. -/
import Derived.Test.YtkdbajpdcadliaaGreatDoorBb
import Derived.Test.YtkdbajpdcadliaaGreatDoorWq
import Derived.Test.YtkdbajpdcadliaaGreatDoorWk
set_option linter.unusedVariables false
namespace Go.Proofs.YtkdbajpdcadliaaGreatDoor.Pg
open Go.RowKit

/-- What readStep reads behind the word of kind op. -/
def stepP (op : Int) (r : List UInt8) : Step :=
  if op = 2 then ⟨2, numL (cutB 32 r).1, numL (cutB 32 (cutB 32 (cutB 32 r).2.1).2.1).1, [mkB (cutB 32 (cutB 32 r).2.1).1]⟩
  else if op = 5 then (if 3 < r.length then ⟨5, 0, numL (r.drop 3), [mkB (r.take 2)]⟩ else ⟨5, 0, 0, []⟩)
  else if op = 9 then ⟨9, 0, 0, [mkB (cutB 32 r).1, mkB (cutB 32 r).2.1]⟩
  else
    let v := (verbS op).1
    let r1 := if v.a ≠ 0 then (cutB 32 r).2.1 else r
    let r2 := if v.b ≠ 0 then (cutB 32 r1).2.1 else r1
    ⟨op, if v.a ≠ 0 then numL (cutB 32 r).1 else 0, if v.b ≠ 0 then numL (cutB 32 r1).1 else 0, if 0 < v.all then [mkB r2] else []⟩
theorem next94l (B : Nat) (r : List UInt8) (w : World) (hg : Gl w) (hc : w.cell? ⟨B, 0, none⟩ = some (.string (mkB r))) (hf : w.frozen? ⟨B, 0, none⟩ = false) (hs : (r.length : Int) ≤ 100000) :
    Calls Tryz.prog 94 #[.pointer (some ⟨B, 0, none⟩)] w fun e w' => e = .returned (.string (mkB (cutB 32 r).1)) ∧ ∃ n, w' = (w.drewN n).setCell ⟨B, 0, none⟩ (.string (mkB (cutB 32 r).2.1)) := by
  have := next94 B (mkB r) w hg hc hf (by rw [mkB_size]; omega)
  rwa [mkB_toList] at this
theorem finish5 (r : List UInt8) (w Z : World) (T : Option Addr) (tm : Array Value) (ds : List Deferred) (hd : ds = []) (ht : tm[2]? = some (.pointer (some ⟨w.heap.size, 0, none⟩))) (hl : 3 < r.length)
    (kR : Blk Z w.heap.size 77 [.int .i64 5, .int .i64 0, .int .i64 (numL (r.drop 3)), .slice T 1 1]) (EW : Ext w Z) (HO : Own Z w.heap.size (.slice T 1 1) [(mkB r).extract 0 2]) :
    bodyPost Tryz.prog Tryz.f62 (fun e w' => ∃ T c, e = .returned (.agg #[.int .i64 (stepP 5 r).op, .int .i64 (stepP 5 r).a, .int .i64 (stepP 5 r).b, .slice T (stepP 5 r).texts.length c]) ∧ (stepP 5 r).texts.length ≤ c ∧ Own w' w.heap.size (.slice T (stepP 5 r).texts.length c) (stepP 5 r).texts ∧ Ext w w') Exit.ret ⟨tm, ds⟩ Z := by
  subst hd
  have xR0 := kR.c0
  have xR1 := kR.c1
  have xR2 := kR.c2
  have xR3 := kR.c3
  refine bodyPost_ret (v := .agg #[.int .i64 5, .int .i64 0, .int .i64 (numL (r.drop 3)), .slice T 1 1]) (by simp [results, Tryz.results62, go_sem, ht, xR0, xR1, xR2, xR3]) rfl ?_
  have e2 : (mkB r).extract 0 2 = mkB (r.take 2) := ext_list (by rw [extract_upto, mkB_toList, mkB_toList])
  rw [e2] at HO
  have hst : stepP 5 r = ⟨5, 0, numL (r.drop 3), [mkB (r.take 2)]⟩ := by simp [stepP, hl]
  rw [hst]
  refine ⟨T, 1, rfl, Nat.le_refl _, ?_, EW⟩
  exact HO
theorem number95l (l : List UInt8) (w : World) (hg : Gl w) (hs : (l.length : Int) ≤ 100000) :
    Calls Tryz.prog 95 #[.string (mkB l)] w fun e w' => e = .returned (.int .i64 (numL l)) ∧ Ext w w' := by
  have := number95 (mkB l) w hg (by rw [mkB_size]; omega)
  rwa [mkB_toList] at this


set_option maxRecDepth 100000 in
set_option maxHeartbeats 4000000 in
theorem readStep62_1 (s : ByteArray) (r : List UInt8) (fd : Bool) (hc : cutB 32 s.data.toList = ([82, 69, 65, 68], r, fd)) (w : World) (hg : Gl w) (hs : (s.size : Int) ≤ 100000) :
    Calls Tryz.prog 62 #[.string s] w fun e w' => ∃ T c, e = .returned (.agg #[.int .i64 (stepP 1 r).op, .int .i64 (stepP 1 r).a, .int .i64 (stepP 1 r).b, .slice T (stepP 1 r).texts.length c]) ∧ (stepP 1 r).texts.length ≤ c ∧ Own w' w.heap.size (.slice T (stepP 1 r).texts.length c) (stepP 1 r).texts ∧ Ext w w' := by
  have hrl : r.length ≤ s.size := by have := (cutB_len 32 s.data.toList).2; rw [hc] at this; simpa using this
  have hc92 : ∀ w, Gl w → Calls Tryz.prog 92 #[.string s, .string ⟨#[32]⟩] w fun e w' => e = .returned (.tuple #[.string (mkB [82, 69, 65, 68]), .string (mkB r), .bool fd]) ∧ ∃ n, w' = w.drewN n := fun w hg => by
    have := cut92 s w hg (by omega)
    rwa [hc] at this
  have HG := Lib.hid hg
  clear hc hg
  go_enter Tryz.func62, Tryz.ntmps62
  go_wp2_with fail
  refine (hc92 _ (HG.out.ext (Ext.new w _))).mono ?_
  rintro e w1 ⟨rfl, n, rfl⟩
  go_upto_region 2 with (fail)
  have E0 := Ext.al (Ext.drewN (Ext.new w (.cells #[.int .i64 0, .int .i64 0, .int .i64 0, .slice none 0 0] 77)) n) (.cells #[.string (mkB r)] 9)
  have kR : Blk _ w.heap.size 77 [.int .i64 0, .int .i64 0, .int .i64 0, .slice none 0 0] := ((Blk.new w [.int .i64 0, .int .i64 0, .int .i64 0, .slice none 0 0] 77).drewN n).ext (Ext.new _ (.cells #[.string (mkB r)] 9))
  have kB := Blk.new ((w.alloc (.cells #[.int .i64 0, .int .i64 0, .int .i64 0, .slice none 0 0] 77)).drewN n) [.string (mkB r)] 9
  rw [show ((w.alloc (.cells #[.int .i64 0, .int .i64 0, .int .i64 0, .slice none 0 0] 77)).drewN n).heap.size = w.heap.size + 1 by simp] at kB
  obtain ⟨B, hB⟩ : ∃ B, w.heap.size + 1 = B := ⟨_, rfl⟩
  rw [hB] at kB
  simp only [hB]
  replace hB : w.heap.size < B := by omega
  generalize World.alloc _ _ = W0 at E0 kR kB
  go_wp2_with fail
  go_loopw [6] (fun i wr => ∃ op : Int, 1 ≤ op ∧ op ≤ 1 ∧ i = .int .i64 op ∧ Blk wr w.heap.size 77 [.int .i64 0, .int .i64 0, .int .i64 0, .slice none 0 0] ∧ Blk wr B 9 [.string (mkB r)] ∧ Hid (Ext w wr)) (fun i _ => (14 - intOf i).toNat)
  case atStart => exact ⟨1, by omega, by omega, rfl, kR, kB, Lib.hid E0⟩
  case round =>
    clear E0 kR kB
    obtain ⟨op, h1, h2, rfl, kR, kB, EW⟩ := hrel
    by_cases hlt : op < 1
    · exact absurd hlt (by omega)
    · obtain rfl : op = 1 := by omega
      clear hlt h1 h2
      go_wp2_with fail
      refine (verbs93' 1 [82, 69, 65, 68] 118 0 0 0 true rfl _).mono ?_
      rintro e w2 ⟨rfl, he2⟩
      have kR2 := (kR.ext he2).ext (Ext.new w2 (.cells #[.string (mkB [82, 69, 65, 68]), .int .u8 118, .int .u8 0, .int .i64 0, .int .i64 0] 126))
      have kB2 := (kB.ext he2).ext (Ext.new w2 (.cells #[.string (mkB [82, 69, 65, 68]), .int .u8 118, .int .u8 0, .int .i64 0, .int .i64 0] 126))
      have EW2 := Ext.trans (Ext.trans EW.out he2) (Ext.new w2 (.cells #[.string (mkB [82, 69, 65, 68]), .int .u8 118, .int .u8 0, .int .i64 0, .int .i64 0] 126))
      have kV2 := Blk.new w2 [.string (mkB [82, 69, 65, 68]), .int .u8 118, .int .u8 0, .int .i64 0, .int .i64 0] 126
      have hBV : B < w2.heap.size := (kB.ext he2).lt
      clear he2 kR kB EW
      go_upto_region 7 with (fail)
      obtain ⟨V, hV⟩ : ∃ V, w2.heap.size = V := ⟨_, rfl⟩
      rw [hV] at kV2 hBV
      simp only [hV]
      have hVs : V < (w2.alloc (.cells #[.string (mkB [82, 69, 65, 68]), .int .u8 118, .int .u8 0, .int .i64 0, .int .i64 0] 126)).heap.size := kV2.lt
      generalize World.alloc _ _ = w3 at kR2 kB2 kV2 EW2 hVs
      clear hV
      go_upto_region 9 with (fail)
      have kR3 := kR2.ext (Ext.new w3 (.cells #[.int .i64 1, .int .i64 0, .int .i64 0, .slice none 0 0] 77))
      have kB3 := kB2.ext (Ext.new w3 (.cells #[.int .i64 1, .int .i64 0, .int .i64 0, .slice none 0 0] 77))
      have kV3 := kV2.ext (Ext.new w3 (.cells #[.int .i64 1, .int .i64 0, .int .i64 0, .slice none 0 0] 77))
      have kS3 := Blk.new w3 [.int .i64 1, .int .i64 0, .int .i64 0, .slice none 0 0] 77
      have EW3 := Ext.trans EW2 (Ext.new w3 (.cells #[.int .i64 1, .int .i64 0, .int .i64 0, .slice none 0 0] 77))
      clear kR2 kB2 kV2 EW2
      obtain ⟨S, hS⟩ : ∃ S, w3.heap.size = S := ⟨_, rfl⟩
      rw [hS] at kS3 hVs
      simp only [hS]
      generalize World.alloc _ _ = W at kR3 kB3 kV3 kS3 EW3
      clear hS
      replace EW3 := Lib.hid EW3
      have xB0 := kB3.c0
      have xV1 := kV3.c1
      have xV2 := kV3.c2
      have xV4 := kV3.c4
      have xS0 := kS3.c0
      have xS1 := kS3.c1
      have xS2 := kS3.c2
      have xS3 := kS3.c3
      have xR0 := kR3.c0
      have xR1 := kR3.c1
      have xR2 := kR3.c2
      have xR3 := kR3.c3
      have yB0 := kB3.fz 0
      have yS0 := kS3.fz 0
      have yS1 := kS3.fz 1
      have yS2 := kS3.fz 2
      have yS3 := kS3.fz 3
      have yR0 := kR3.fz 0
      have yR1 := kR3.fz 1
      have yR2 := kR3.fz 2
      have yR3 := kR3.fz 3
      have zR := kR3.lt
      have zB := kB3.lt
      have zV := kV3.lt
      have zS := kS3.lt
      go_wp2_with fail
      have hl1 : ((r).length : Int) ≤ 100000 := by omega
      refine (next94l B r _ (HG.out.ext EW3.out) xB0 yB0 hl1).mono ?_
      rintro e x1 ⟨rfl, n1, rfl⟩
      clear xB0 xV1 xV2 xV4 xS0 xS1 xS2 xS3 xR0 xR1 xR2 xR3 yB0 yS0 yS1 yS2 yS3 yR0 yR1 yR2 yR3 zR zB zV zS
      replace kR3 := (kR3.drewN n1).other (show w.heap.size ≠ B by omega) 0 (.string (mkB (cutB 32 r).2.1))
      replace kB3 := (show Blk _ B 9 [.string (mkB (cutB 32 r).2.1)] from (kB3.drewN n1).set 0 (.string (mkB (cutB 32 r).2.1)))
      replace kV3 := (kV3.drewN n1).other (show V ≠ B by omega) 0 (.string (mkB (cutB 32 r).2.1))
      replace kS3 := (kS3.drewN n1).other (show S ≠ B by omega) 0 (.string (mkB (cutB 32 r).2.1))
      replace EW3 := Lib.hid (Ext.set (Ext.drewN EW3.out n1) (show w.heap.size ≤ B by omega) 0 (.string (mkB (cutB 32 r).2.1)))
      generalize World.setCell _ _ _ = W2 at kR3 kB3 kV3 kS3 EW3
      have xB0 := kB3.c0
      have xV1 := kV3.c1
      have xV2 := kV3.c2
      have xV4 := kV3.c4
      have xS0 := kS3.c0
      have xS1 := kS3.c1
      have xS2 := kS3.c2
      have xS3 := kS3.c3
      have xR0 := kR3.c0
      have xR1 := kR3.c1
      have xR2 := kR3.c2
      have xR3 := kR3.c3
      have yB0 := kB3.fz 0
      have yS0 := kS3.fz 0
      have yS1 := kS3.fz 1
      have yS2 := kS3.fz 2
      have yS3 := kS3.fz 3
      have yR0 := kR3.fz 0
      have yR1 := kR3.fz 1
      have yR2 := kR3.fz 2
      have yR3 := kR3.fz 3
      have zR := kR3.lt
      have zB := kB3.lt
      have zV := kV3.lt
      have zS := kS3.lt
      go_wp2_with fail
      refine (number95l (cutB 32 r).1 _ (HG.out.ext EW3.out) (by have := (cutB_len 32 (r)).1; omega)).mono ?_
      rintro e Y3 ⟨rfl, he3⟩
      clear xB0 xV1 xV2 xV4 xS0 xS1 xS2 xS3 xR0 xR1 xR2 xR3 yB0 yS0 yS1 yS2 yS3 yR0 yR1 yR2 yR3 zR zB zV zS
      replace kR3 := kR3.ext he3
      replace kB3 := kB3.ext he3
      replace kV3 := kV3.ext he3
      replace kS3 := kS3.ext he3
      replace EW3 := Lib.hid (Ext.trans EW3.out he3)
      clear he3
      have xB0 := kB3.c0
      have xV1 := kV3.c1
      have xV2 := kV3.c2
      have xV4 := kV3.c4
      have xS0 := kS3.c0
      have xS1 := kS3.c1
      have xS2 := kS3.c2
      have xS3 := kS3.c3
      have xR0 := kR3.c0
      have xR1 := kR3.c1
      have xR2 := kR3.c2
      have xR3 := kR3.c3
      have yB0 := kB3.fz 0
      have yS0 := kS3.fz 0
      have yS1 := kS3.fz 1
      have yS2 := kS3.fz 2
      have yS3 := kS3.fz 3
      have yR0 := kR3.fz 0
      have yR1 := kR3.fz 1
      have yR2 := kR3.fz 2
      have yR3 := kR3.fz 3
      have zR := kR3.lt
      have zB := kB3.lt
      have zV := kV3.lt
      have zS := kS3.lt
      go_wp2_with fail
      have kR4 := (show Blk _ w.heap.size 77 [.int .i64 1, .int .i64 (numL (cutB 32 r).1), .int .i64 0, .slice none 0 0] from (((((kR3.other (show w.heap.size ≠ S by omega) 1 (.int .i64 (numL (cutB 32 r).1))).set 0 (.int .i64 1)).set 1 (.int .i64 (numL (cutB 32 r).1))).set 2 (.int .i64 0)).set 3 (.slice none 0 0)))
      have EW4 := Lib.hid (Ext.set (Ext.set (Ext.set (Ext.set (Ext.set EW3.out (show w.heap.size ≤ S by omega) 1 (.int .i64 (numL (cutB 32 r).1))) (Nat.le_refl _) 0 (.int .i64 1)) (Nat.le_refl _) 1 (.int .i64 (numL (cutB 32 r).1))) (Nat.le_refl _) 2 (.int .i64 0)) (Nat.le_refl _) 3 (.slice none 0 0))
      clear xB0 xV1 xV2 xV4 xS0 xS1 xS2 xS3 xR0 xR1 xR2 xR3 yB0 yS0 yS1 yS2 yS3 yR0 yR1 yR2 yR3 zR zB zV zS kR3 kB3 kV3 kS3 EW3
      generalize World.setCell _ _ _ = Z at kR4 EW4
      have xR0 := kR4.c0
      have xR1 := kR4.c1
      have xR2 := kR4.c2
      have xR3 := kR4.c3
      refine bodyPost_ret (v := .agg #[.int .i64 1, .int .i64 (numL (cutB 32 r).1), .int .i64 0, .slice none 0 0]) (by simp [results, Tryz.results62, go_sem, xR0, xR1, xR2, xR3]) rfl ?_
      have hst : stepP 1 r = ⟨1, (numL (cutB 32 r).1), 0, []⟩ := by simp [stepP, verbS]
      rw [hst]
      exact ⟨none, 0, rfl, Nat.le_refl _, Own.none_ _ _, EW4.out⟩

set_option maxRecDepth 100000 in
set_option maxHeartbeats 4000000 in
theorem readStep62_2 (s : ByteArray) (r : List UInt8) (fd : Bool) (hc : cutB 32 s.data.toList = ([67, 65, 76, 76], r, fd)) (w : World) (hg : Gl w) (hs : (s.size : Int) ≤ 100000) :
    Calls Tryz.prog 62 #[.string s] w fun e w' => ∃ T c, e = .returned (.agg #[.int .i64 (stepP 2 r).op, .int .i64 (stepP 2 r).a, .int .i64 (stepP 2 r).b, .slice T (stepP 2 r).texts.length c]) ∧ (stepP 2 r).texts.length ≤ c ∧ Own w' w.heap.size (.slice T (stepP 2 r).texts.length c) (stepP 2 r).texts ∧ Ext w w' := by
  have hrl : r.length ≤ s.size := by have := (cutB_len 32 s.data.toList).2; rw [hc] at this; simpa using this
  have hc92 : ∀ w, Gl w → Calls Tryz.prog 92 #[.string s, .string ⟨#[32]⟩] w fun e w' => e = .returned (.tuple #[.string (mkB [67, 65, 76, 76]), .string (mkB r), .bool fd]) ∧ ∃ n, w' = w.drewN n := fun w hg => by
    have := cut92 s w hg (by omega)
    rwa [hc] at this
  have HG := Lib.hid hg
  clear hc hg
  go_enter Tryz.func62, Tryz.ntmps62
  go_wp2_with fail
  refine (hc92 _ (HG.out.ext (Ext.new w _))).mono ?_
  rintro e w1 ⟨rfl, n, rfl⟩
  go_upto_region 2 with (fail)
  have E0 := Ext.al (Ext.drewN (Ext.new w (.cells #[.int .i64 0, .int .i64 0, .int .i64 0, .slice none 0 0] 77)) n) (.cells #[.string (mkB r)] 9)
  have kR : Blk _ w.heap.size 77 [.int .i64 0, .int .i64 0, .int .i64 0, .slice none 0 0] := ((Blk.new w [.int .i64 0, .int .i64 0, .int .i64 0, .slice none 0 0] 77).drewN n).ext (Ext.new _ (.cells #[.string (mkB r)] 9))
  have kB := Blk.new ((w.alloc (.cells #[.int .i64 0, .int .i64 0, .int .i64 0, .slice none 0 0] 77)).drewN n) [.string (mkB r)] 9
  rw [show ((w.alloc (.cells #[.int .i64 0, .int .i64 0, .int .i64 0, .slice none 0 0] 77)).drewN n).heap.size = w.heap.size + 1 by simp] at kB
  obtain ⟨B, hB⟩ : ∃ B, w.heap.size + 1 = B := ⟨_, rfl⟩
  rw [hB] at kB
  simp only [hB]
  replace hB : w.heap.size < B := by omega
  generalize World.alloc _ _ = W0 at E0 kR kB
  go_wp2_with fail
  go_loopw [6] (fun i wr => ∃ op : Int, 1 ≤ op ∧ op ≤ 2 ∧ i = .int .i64 op ∧ Blk wr w.heap.size 77 [.int .i64 0, .int .i64 0, .int .i64 0, .slice none 0 0] ∧ Blk wr B 9 [.string (mkB r)] ∧ Hid (Ext w wr)) (fun i _ => (14 - intOf i).toNat)
  case atStart => exact ⟨1, by omega, by omega, rfl, kR, kB, Lib.hid E0⟩
  case round =>
    clear E0 kR kB
    obtain ⟨op, h1, h2, rfl, kR, kB, EW⟩ := hrel
    by_cases hlt : op < 2
    · obtain ⟨nm, va, vb, few, all, ok, hv⟩ : ∃ nm va vb few all ok, verbS op = (⟨nm, va, vb, few, all⟩, ok) := ⟨_, _, _, _, _, _, rfl⟩
      have hne : (mkB nm) ≠ (mkB [67, 65, 76, 76]) := fun e => by
        have e2 : nm = [67, 65, 76, 76] := by have := congrArg (fun b => b.data.toList) e; simpa [mkB_toList] using this
        subst e2
        rcases (by omega : op = 1) with rfl <;> (simp [verbS] at hv)
      have hne2 := str_ne hne
      go_wp2_with fail
      refine (verbs93' op nm va vb few all ok hv _).mono ?_
      rintro e w2 ⟨rfl, he2⟩
      have kR2 := kR.ext he2
      have kB2 := kB.ext he2
      have EW2 := Lib.hid (Ext.trans EW.out he2)
      clear he2 kR kB
      go_wp2_with fail
      go_roundw
      case rel => exact ⟨op + 1, by omega, by omega, rfl, kR2.ext (Ext.new _ _), kB2.ext (Ext.new _ _), Lib.hid (Ext.trans EW2.out (Ext.new _ _))⟩
      case measure => simp [intOf]; omega
    · obtain rfl : op = 2 := by omega
      clear hlt h1 h2
      go_wp2_with fail
      refine (verbs93' 2 [67, 65, 76, 76] 119 118 2 7 true rfl _).mono ?_
      rintro e w2 ⟨rfl, he2⟩
      have kR2 := (kR.ext he2).ext (Ext.new w2 (.cells #[.string (mkB [67, 65, 76, 76]), .int .u8 119, .int .u8 118, .int .i64 2, .int .i64 7] 126))
      have kB2 := (kB.ext he2).ext (Ext.new w2 (.cells #[.string (mkB [67, 65, 76, 76]), .int .u8 119, .int .u8 118, .int .i64 2, .int .i64 7] 126))
      have EW2 := Ext.trans (Ext.trans EW.out he2) (Ext.new w2 (.cells #[.string (mkB [67, 65, 76, 76]), .int .u8 119, .int .u8 118, .int .i64 2, .int .i64 7] 126))
      have kV2 := Blk.new w2 [.string (mkB [67, 65, 76, 76]), .int .u8 119, .int .u8 118, .int .i64 2, .int .i64 7] 126
      have hBV : B < w2.heap.size := (kB.ext he2).lt
      clear he2 kR kB EW
      go_upto_region 7 with (fail)
      obtain ⟨V, hV⟩ : ∃ V, w2.heap.size = V := ⟨_, rfl⟩
      rw [hV] at kV2 hBV
      simp only [hV]
      have hVs : V < (w2.alloc (.cells #[.string (mkB [67, 65, 76, 76]), .int .u8 119, .int .u8 118, .int .i64 2, .int .i64 7] 126)).heap.size := kV2.lt
      generalize World.alloc _ _ = w3 at kR2 kB2 kV2 EW2 hVs
      clear hV
      go_upto_region 9 with (fail)
      have kR3 := kR2.ext (Ext.new w3 (.cells #[.int .i64 2, .int .i64 0, .int .i64 0, .slice none 0 0] 77))
      have kB3 := kB2.ext (Ext.new w3 (.cells #[.int .i64 2, .int .i64 0, .int .i64 0, .slice none 0 0] 77))
      have kV3 := kV2.ext (Ext.new w3 (.cells #[.int .i64 2, .int .i64 0, .int .i64 0, .slice none 0 0] 77))
      have kS3 := Blk.new w3 [.int .i64 2, .int .i64 0, .int .i64 0, .slice none 0 0] 77
      have EW3 := Ext.trans EW2 (Ext.new w3 (.cells #[.int .i64 2, .int .i64 0, .int .i64 0, .slice none 0 0] 77))
      clear kR2 kB2 kV2 EW2
      obtain ⟨S, hS⟩ : ∃ S, w3.heap.size = S := ⟨_, rfl⟩
      rw [hS] at kS3 hVs
      simp only [hS]
      generalize World.alloc _ _ = W at kR3 kB3 kV3 kS3 EW3
      clear hS
      replace EW3 := Lib.hid EW3
      have xB0 := kB3.c0
      have xV1 := kV3.c1
      have xV2 := kV3.c2
      have xV4 := kV3.c4
      have xS0 := kS3.c0
      have xS1 := kS3.c1
      have xS2 := kS3.c2
      have xS3 := kS3.c3
      have xR0 := kR3.c0
      have xR1 := kR3.c1
      have xR2 := kR3.c2
      have xR3 := kR3.c3
      have yB0 := kB3.fz 0
      have yS0 := kS3.fz 0
      have yS1 := kS3.fz 1
      have yS2 := kS3.fz 2
      have yS3 := kS3.fz 3
      have yR0 := kR3.fz 0
      have yR1 := kR3.fz 1
      have yR2 := kR3.fz 2
      have yR3 := kR3.fz 3
      have zR := kR3.lt
      have zB := kB3.lt
      have zV := kV3.lt
      have zS := kS3.lt
      go_wp2_with fail
      have hl1 : ((r).length : Int) ≤ 100000 := by omega
      refine (next94l B r _ (HG.out.ext EW3.out) xB0 yB0 hl1).mono ?_
      rintro e x1 ⟨rfl, n1, rfl⟩
      clear xB0 xV1 xV2 xV4 xS0 xS1 xS2 xS3 xR0 xR1 xR2 xR3 yB0 yS0 yS1 yS2 yS3 yR0 yR1 yR2 yR3 zR zB zV zS
      replace kR3 := (kR3.drewN n1).other (show w.heap.size ≠ B by omega) 0 (.string (mkB (cutB 32 r).2.1))
      replace kB3 := (show Blk _ B 9 [.string (mkB (cutB 32 r).2.1)] from (kB3.drewN n1).set 0 (.string (mkB (cutB 32 r).2.1)))
      replace kV3 := (kV3.drewN n1).other (show V ≠ B by omega) 0 (.string (mkB (cutB 32 r).2.1))
      replace kS3 := (kS3.drewN n1).other (show S ≠ B by omega) 0 (.string (mkB (cutB 32 r).2.1))
      replace EW3 := Lib.hid (Ext.set (Ext.drewN EW3.out n1) (show w.heap.size ≤ B by omega) 0 (.string (mkB (cutB 32 r).2.1)))
      generalize World.setCell _ _ _ = W2 at kR3 kB3 kV3 kS3 EW3
      have xB0 := kB3.c0
      have xV1 := kV3.c1
      have xV2 := kV3.c2
      have xV4 := kV3.c4
      have xS0 := kS3.c0
      have xS1 := kS3.c1
      have xS2 := kS3.c2
      have xS3 := kS3.c3
      have xR0 := kR3.c0
      have xR1 := kR3.c1
      have xR2 := kR3.c2
      have xR3 := kR3.c3
      have yB0 := kB3.fz 0
      have yS0 := kS3.fz 0
      have yS1 := kS3.fz 1
      have yS2 := kS3.fz 2
      have yS3 := kS3.fz 3
      have yR0 := kR3.fz 0
      have yR1 := kR3.fz 1
      have yR2 := kR3.fz 2
      have yR3 := kR3.fz 3
      have zR := kR3.lt
      have zB := kB3.lt
      have zV := kV3.lt
      have zS := kS3.lt
      go_wp2_with fail
      refine (number95l (cutB 32 r).1 _ (HG.out.ext EW3.out) (by have := (cutB_len 32 (r)).1; omega)).mono ?_
      rintro e Y3 ⟨rfl, he3⟩
      clear xB0 xV1 xV2 xV4 xS0 xS1 xS2 xS3 xR0 xR1 xR2 xR3 yB0 yS0 yS1 yS2 yS3 yR0 yR1 yR2 yR3 zR zB zV zS
      replace kR3 := kR3.ext he3
      replace kB3 := kB3.ext he3
      replace kV3 := kV3.ext he3
      replace kS3 := kS3.ext he3
      replace EW3 := Lib.hid (Ext.trans EW3.out he3)
      clear he3
      have xB0 := kB3.c0
      have xV1 := kV3.c1
      have xV2 := kV3.c2
      have xV4 := kV3.c4
      have xS0 := kS3.c0
      have xS1 := kS3.c1
      have xS2 := kS3.c2
      have xS3 := kS3.c3
      have xR0 := kR3.c0
      have xR1 := kR3.c1
      have xR2 := kR3.c2
      have xR3 := kR3.c3
      have yB0 := kB3.fz 0
      have yS0 := kS3.fz 0
      have yS1 := kS3.fz 1
      have yS2 := kS3.fz 2
      have yS3 := kS3.fz 3
      have yR0 := kR3.fz 0
      have yR1 := kR3.fz 1
      have yR2 := kR3.fz 2
      have yR3 := kR3.fz 3
      have zR := kR3.lt
      have zB := kB3.lt
      have zV := kV3.lt
      have zS := kS3.lt
      go_wp2_with fail
      clear xB0 xV1 xV2 xV4 xS0 xS1 xS2 xS3 xR0 xR1 xR2 xR3 yB0 yS0 yS1 yS2 yS3 yR0 yR1 yR2 yR3 zR zB zV zS
      replace kR3 := kR3.other (show w.heap.size ≠ S by omega) 1 (.int .i64 (numL (cutB 32 r).1))
      replace kB3 := kB3.other (show B ≠ S by omega) 1 (.int .i64 (numL (cutB 32 r).1))
      replace kV3 := kV3.other (show V ≠ S by omega) 1 (.int .i64 (numL (cutB 32 r).1))
      replace kS3 := (show Blk _ S 77 [.int .i64 2, .int .i64 (numL (cutB 32 r).1), .int .i64 0, .slice none 0 0] from kS3.set 1 (.int .i64 (numL (cutB 32 r).1)))
      replace EW3 := Lib.hid (Ext.set EW3.out (show w.heap.size ≤ S by omega) 1 (.int .i64 (numL (cutB 32 r).1)))
      generalize World.setCell _ _ _ = W5 at kR3 kB3 kV3 kS3 EW3
      have xB0 := kB3.c0
      have xV1 := kV3.c1
      have xV2 := kV3.c2
      have xV4 := kV3.c4
      have xS0 := kS3.c0
      have xS1 := kS3.c1
      have xS2 := kS3.c2
      have xS3 := kS3.c3
      have xR0 := kR3.c0
      have xR1 := kR3.c1
      have xR2 := kR3.c2
      have xR3 := kR3.c3
      have yB0 := kB3.fz 0
      have yS0 := kS3.fz 0
      have yS1 := kS3.fz 1
      have yS2 := kS3.fz 2
      have yS3 := kS3.fz 3
      have yR0 := kR3.fz 0
      have yR1 := kR3.fz 1
      have yR2 := kR3.fz 2
      have yR3 := kR3.fz 3
      have zR := kR3.lt
      have zB := kB3.lt
      have zV := kV3.lt
      have zS := kS3.lt
      have hl4 : (((cutB 32 r).2.1).length : Int) ≤ 100000 := by have := (cutB_len 32 (r)).2; omega
      refine (next94l B (cutB 32 r).2.1 _ (HG.out.ext EW3.out) xB0 yB0 hl4).mono ?_
      rintro e x4 ⟨rfl, n4, rfl⟩
      clear xB0 xV1 xV2 xV4 xS0 xS1 xS2 xS3 xR0 xR1 xR2 xR3 yB0 yS0 yS1 yS2 yS3 yR0 yR1 yR2 yR3 zR zB zV zS
      replace kR3 := (kR3.drewN n4).other (show w.heap.size ≠ B by omega) 0 (.string (mkB (cutB 32 (cutB 32 r).2.1).2.1))
      replace kB3 := (show Blk _ B 9 [.string (mkB (cutB 32 (cutB 32 r).2.1).2.1)] from (kB3.drewN n4).set 0 (.string (mkB (cutB 32 (cutB 32 r).2.1).2.1)))
      replace kV3 := (kV3.drewN n4).other (show V ≠ B by omega) 0 (.string (mkB (cutB 32 (cutB 32 r).2.1).2.1))
      replace kS3 := (kS3.drewN n4).other (show S ≠ B by omega) 0 (.string (mkB (cutB 32 (cutB 32 r).2.1).2.1))
      replace EW3 := Lib.hid (Ext.set (Ext.drewN EW3.out n4) (show w.heap.size ≤ B by omega) 0 (.string (mkB (cutB 32 (cutB 32 r).2.1).2.1)))
      generalize World.setCell _ _ _ = W6 at kR3 kB3 kV3 kS3 EW3
      have xB0 := kB3.c0
      have xV1 := kV3.c1
      have xV2 := kV3.c2
      have xV4 := kV3.c4
      have xS0 := kS3.c0
      have xS1 := kS3.c1
      have xS2 := kS3.c2
      have xS3 := kS3.c3
      have xR0 := kR3.c0
      have xR1 := kR3.c1
      have xR2 := kR3.c2
      have xR3 := kR3.c3
      have yB0 := kB3.fz 0
      have yS0 := kS3.fz 0
      have yS1 := kS3.fz 1
      have yS2 := kS3.fz 2
      have yS3 := kS3.fz 3
      have yR0 := kR3.fz 0
      have yR1 := kR3.fz 1
      have yR2 := kR3.fz 2
      have yR3 := kR3.fz 3
      have zR := kR3.lt
      have zB := kB3.lt
      have zV := kV3.lt
      have zS := kS3.lt
      have hg0 : S < W6.heap.size := zS
      go_wp2_with fail
      clear xB0 xV1 xV2 xV4 xS0 xS1 xS2 xS3 xR0 xR1 xR2 xR3 yB0 yS0 yS1 yS2 yS3 yR0 yR1 yR2 yR3 zR zB zV zS
      replace kR3 := kR3.other (show w.heap.size ≠ S by omega) 3 (.slice (some ⟨W6.heap.size, 0, none⟩) 1 1)
      replace kB3 := kB3.other (show B ≠ S by omega) 3 (.slice (some ⟨W6.heap.size, 0, none⟩) 1 1)
      replace kV3 := kV3.other (show V ≠ S by omega) 3 (.slice (some ⟨W6.heap.size, 0, none⟩) 1 1)
      replace kS3 := (show Blk _ S 77 [.int .i64 2, .int .i64 (numL (cutB 32 r).1), .int .i64 0, .slice (some ⟨W6.heap.size, 0, none⟩) 1 1] from kS3.set 3 (.slice (some ⟨W6.heap.size, 0, none⟩) 1 1))
      replace EW3 := Lib.hid (Ext.set EW3.out (show w.heap.size ≤ S by omega) 3 (.slice (some ⟨W6.heap.size, 0, none⟩) 1 1))
      have hg : S < W6.heap.size := hg0
      have HO : Own (World.alloc (W6.setCell ⟨S, 3, none⟩ (.slice (some ⟨W6.heap.size, 0, none⟩) 1 1)) (.cells #[.string (mkB (cutB 32 (cutB 32 r).2.1).1)] 9)) (World.heap (W6.setCell ⟨S, 3, none⟩ (.slice (some ⟨W6.heap.size, 0, none⟩) 1 1))).size (.slice (some ⟨(World.heap (W6.setCell ⟨S, 3, none⟩ (.slice (some ⟨W6.heap.size, 0, none⟩) 1 1))).size, 0, none⟩) 1 1) [mkB (cutB 32 (cutB 32 r).2.1).1] := Own.fresh (W6.setCell ⟨S, 3, none⟩ (.slice (some ⟨W6.heap.size, 0, none⟩) 1 1)) [mkB (cutB 32 (cutB 32 r).2.1).1] (by simp) (by simp)
      rw [Blk.size_set] at HO
      replace HO := Lib.hid (HO.base (b := w.heap.size) (by omega))
      replace kR3 := kR3.ext (Ext.new _ (.cells #[.string (mkB (cutB 32 (cutB 32 r).2.1).1)] 9))
      replace kB3 := kB3.ext (Ext.new _ (.cells #[.string (mkB (cutB 32 (cutB 32 r).2.1).1)] 9))
      replace kV3 := kV3.ext (Ext.new _ (.cells #[.string (mkB (cutB 32 (cutB 32 r).2.1).1)] 9))
      replace kS3 := kS3.ext (Ext.new _ (.cells #[.string (mkB (cutB 32 (cutB 32 r).2.1).1)] 9))
      replace EW3 := Lib.hid (Ext.trans EW3.out (Ext.new _ (.cells #[.string (mkB (cutB 32 (cutB 32 r).2.1).1)] 9)))
      generalize World.alloc _ _ = W8 at kR3 kB3 kV3 kS3 EW3 HO
      have xB0 := kB3.c0
      have xV1 := kV3.c1
      have xV2 := kV3.c2
      have xV4 := kV3.c4
      have xS0 := kS3.c0
      have xS1 := kS3.c1
      have xS2 := kS3.c2
      have xS3 := kS3.c3
      have xR0 := kR3.c0
      have xR1 := kR3.c1
      have xR2 := kR3.c2
      have xR3 := kR3.c3
      have yB0 := kB3.fz 0
      have yS0 := kS3.fz 0
      have yS1 := kS3.fz 1
      have yS2 := kS3.fz 2
      have yS3 := kS3.fz 3
      have yR0 := kR3.fz 0
      have yR1 := kR3.fz 1
      have yR2 := kR3.fz 2
      have yR3 := kR3.fz 3
      have zR := kR3.lt
      have zB := kB3.lt
      have zV := kV3.lt
      have zS := kS3.lt
      have hl7 : (((cutB 32 (cutB 32 r).2.1).2.1).length : Int) ≤ 100000 := by have := (cutB_len 32 ((cutB 32 r).2.1)).2; omega
      refine (next94l B (cutB 32 (cutB 32 r).2.1).2.1 _ (HG.out.ext EW3.out) xB0 yB0 hl7).mono ?_
      rintro e x7 ⟨rfl, n7, rfl⟩
      clear xB0 xV1 xV2 xV4 xS0 xS1 xS2 xS3 xR0 xR1 xR2 xR3 yB0 yS0 yS1 yS2 yS3 yR0 yR1 yR2 yR3 zR zB zV zS
      replace kR3 := (kR3.drewN n7).other (show w.heap.size ≠ B by omega) 0 (.string (mkB (cutB 32 (cutB 32 (cutB 32 r).2.1).2.1).2.1))
      replace kB3 := (show Blk _ B 9 [.string (mkB (cutB 32 (cutB 32 (cutB 32 r).2.1).2.1).2.1)] from (kB3.drewN n7).set 0 (.string (mkB (cutB 32 (cutB 32 (cutB 32 r).2.1).2.1).2.1)))
      replace kV3 := (kV3.drewN n7).other (show V ≠ B by omega) 0 (.string (mkB (cutB 32 (cutB 32 (cutB 32 r).2.1).2.1).2.1))
      replace kS3 := (kS3.drewN n7).other (show S ≠ B by omega) 0 (.string (mkB (cutB 32 (cutB 32 (cutB 32 r).2.1).2.1).2.1))
      replace HO := Lib.hid ((HO.out.ext (Ext.drewN (Ext.refl _) n7)).set (b := B) (by simp [Value.ownBlock]; omega) 0 (.string (mkB (cutB 32 (cutB 32 (cutB 32 r).2.1).2.1).2.1)))
      replace EW3 := Lib.hid (Ext.set (Ext.drewN EW3.out n7) (show w.heap.size ≤ B by omega) 0 (.string (mkB (cutB 32 (cutB 32 (cutB 32 r).2.1).2.1).2.1)))
      generalize World.setCell _ _ _ = W9 at kR3 kB3 kV3 kS3 EW3 HO
      have xB0 := kB3.c0
      have xV1 := kV3.c1
      have xV2 := kV3.c2
      have xV4 := kV3.c4
      have xS0 := kS3.c0
      have xS1 := kS3.c1
      have xS2 := kS3.c2
      have xS3 := kS3.c3
      have xR0 := kR3.c0
      have xR1 := kR3.c1
      have xR2 := kR3.c2
      have xR3 := kR3.c3
      have yB0 := kB3.fz 0
      have yS0 := kS3.fz 0
      have yS1 := kS3.fz 1
      have yS2 := kS3.fz 2
      have yS3 := kS3.fz 3
      have yR0 := kR3.fz 0
      have yR1 := kR3.fz 1
      have yR2 := kR3.fz 2
      have yR3 := kR3.fz 3
      have zR := kR3.lt
      have zB := kB3.lt
      have zV := kV3.lt
      have zS := kS3.lt
      go_wp2_with fail
      refine (number95l (cutB 32 (cutB 32 (cutB 32 r).2.1).2.1).1 _ (HG.out.ext EW3.out) (by have := (cutB_len 32 ((cutB 32 (cutB 32 r).2.1).2.1)).1; omega)).mono ?_
      rintro e Y10 ⟨rfl, he10⟩
      clear xB0 xV1 xV2 xV4 xS0 xS1 xS2 xS3 xR0 xR1 xR2 xR3 yB0 yS0 yS1 yS2 yS3 yR0 yR1 yR2 yR3 zR zB zV zS
      replace kR3 := kR3.ext he10
      replace kB3 := kB3.ext he10
      replace kV3 := kV3.ext he10
      replace kS3 := kS3.ext he10
      replace HO := Lib.hid (HO.out.ext he10)
      replace EW3 := Lib.hid (Ext.trans EW3.out he10)
      clear he10
      have xB0 := kB3.c0
      have xV1 := kV3.c1
      have xV2 := kV3.c2
      have xV4 := kV3.c4
      have xS0 := kS3.c0
      have xS1 := kS3.c1
      have xS2 := kS3.c2
      have xS3 := kS3.c3
      have xR0 := kR3.c0
      have xR1 := kR3.c1
      have xR2 := kR3.c2
      have xR3 := kR3.c3
      have yB0 := kB3.fz 0
      have yS0 := kS3.fz 0
      have yS1 := kS3.fz 1
      have yS2 := kS3.fz 2
      have yS3 := kS3.fz 3
      have yR0 := kR3.fz 0
      have yR1 := kR3.fz 1
      have yR2 := kR3.fz 2
      have yR3 := kR3.fz 3
      have zR := kR3.lt
      have zB := kB3.lt
      have zV := kV3.lt
      have zS := kS3.lt
      go_wp2_with fail
      have kR4 := (show Blk _ w.heap.size 77 [.int .i64 2, .int .i64 (numL (cutB 32 r).1), .int .i64 (numL (cutB 32 (cutB 32 (cutB 32 r).2.1).2.1).1), .slice (some ⟨W6.heap.size, 0, none⟩) 1 1] from (((((kR3.other (show w.heap.size ≠ S by omega) 2 (.int .i64 (numL (cutB 32 (cutB 32 (cutB 32 r).2.1).2.1).1))).set 0 (.int .i64 2)).set 1 (.int .i64 (numL (cutB 32 r).1))).set 2 (.int .i64 (numL (cutB 32 (cutB 32 (cutB 32 r).2.1).2.1).1))).set 3 (.slice (some ⟨W6.heap.size, 0, none⟩) 1 1)))
      have EW4 := Lib.hid (Ext.set (Ext.set (Ext.set (Ext.set (Ext.set EW3.out (show w.heap.size ≤ S by omega) 2 (.int .i64 (numL (cutB 32 (cutB 32 (cutB 32 r).2.1).2.1).1))) (Nat.le_refl _) 0 (.int .i64 2)) (Nat.le_refl _) 1 (.int .i64 (numL (cutB 32 r).1))) (Nat.le_refl _) 2 (.int .i64 (numL (cutB 32 (cutB 32 (cutB 32 r).2.1).2.1).1))) (Nat.le_refl _) 3 (.slice (some ⟨W6.heap.size, 0, none⟩) 1 1))
      have HO4 := Lib.hid (((((HO.out.set (b := S) (by simp [Value.ownBlock]; omega) 2 (.int .i64 (numL (cutB 32 (cutB 32 (cutB 32 r).2.1).2.1).1))).set (b := w.heap.size) (by simp [Value.ownBlock]; omega) 0 (.int .i64 2)).set (b := w.heap.size) (by simp [Value.ownBlock]; omega) 1 (.int .i64 (numL (cutB 32 r).1))).set (b := w.heap.size) (by simp [Value.ownBlock]; omega) 2 (.int .i64 (numL (cutB 32 (cutB 32 (cutB 32 r).2.1).2.1).1))).set (b := w.heap.size) (by simp [Value.ownBlock]; omega) 3 (.slice (some ⟨W6.heap.size, 0, none⟩) 1 1))
      clear HO
      clear xB0 xV1 xV2 xV4 xS0 xS1 xS2 xS3 xR0 xR1 xR2 xR3 yB0 yS0 yS1 yS2 yS3 yR0 yR1 yR2 yR3 zR zB zV zS kR3 kB3 kV3 kS3 EW3
      generalize World.setCell _ _ _ = Z at kR4 EW4 HO4
      have xR0 := kR4.c0
      have xR1 := kR4.c1
      have xR2 := kR4.c2
      have xR3 := kR4.c3
      refine bodyPost_ret (v := .agg #[.int .i64 2, .int .i64 (numL (cutB 32 r).1), .int .i64 (numL (cutB 32 (cutB 32 (cutB 32 r).2.1).2.1).1), .slice (some ⟨W6.heap.size, 0, none⟩) 1 1]) (by simp [results, Tryz.results62, go_sem, xR0, xR1, xR2, xR3]) rfl ?_
      have hst : stepP 2 r = ⟨2, (numL (cutB 32 r).1), (numL (cutB 32 (cutB 32 (cutB 32 r).2.1).2.1).1), [mkB (cutB 32 (cutB 32 r).2.1).1]⟩ := by simp [stepP]
      rw [hst]
      refine ⟨some ⟨W6.heap.size, 0, none⟩, 1, rfl, Nat.le_refl _, ?_, EW4.out⟩
      exact HO4.out

set_option maxRecDepth 100000 in
set_option maxHeartbeats 4000000 in
theorem readStep62_3 (s : ByteArray) (r : List UInt8) (fd : Bool) (hc : cutB 32 s.data.toList = ([83, 69, 84], r, fd)) (w : World) (hg : Gl w) (hs : (s.size : Int) ≤ 100000) :
    Calls Tryz.prog 62 #[.string s] w fun e w' => ∃ T c, e = .returned (.agg #[.int .i64 (stepP 3 r).op, .int .i64 (stepP 3 r).a, .int .i64 (stepP 3 r).b, .slice T (stepP 3 r).texts.length c]) ∧ (stepP 3 r).texts.length ≤ c ∧ Own w' w.heap.size (.slice T (stepP 3 r).texts.length c) (stepP 3 r).texts ∧ Ext w w' := by
  have hrl : r.length ≤ s.size := by have := (cutB_len 32 s.data.toList).2; rw [hc] at this; simpa using this
  have hc92 : ∀ w, Gl w → Calls Tryz.prog 92 #[.string s, .string ⟨#[32]⟩] w fun e w' => e = .returned (.tuple #[.string (mkB [83, 69, 84]), .string (mkB r), .bool fd]) ∧ ∃ n, w' = w.drewN n := fun w hg => by
    have := cut92 s w hg (by omega)
    rwa [hc] at this
  have HG := Lib.hid hg
  clear hc hg
  go_enter Tryz.func62, Tryz.ntmps62
  go_wp2_with fail
  refine (hc92 _ (HG.out.ext (Ext.new w _))).mono ?_
  rintro e w1 ⟨rfl, n, rfl⟩
  go_upto_region 2 with (fail)
  have E0 := Ext.al (Ext.drewN (Ext.new w (.cells #[.int .i64 0, .int .i64 0, .int .i64 0, .slice none 0 0] 77)) n) (.cells #[.string (mkB r)] 9)
  have kR : Blk _ w.heap.size 77 [.int .i64 0, .int .i64 0, .int .i64 0, .slice none 0 0] := ((Blk.new w [.int .i64 0, .int .i64 0, .int .i64 0, .slice none 0 0] 77).drewN n).ext (Ext.new _ (.cells #[.string (mkB r)] 9))
  have kB := Blk.new ((w.alloc (.cells #[.int .i64 0, .int .i64 0, .int .i64 0, .slice none 0 0] 77)).drewN n) [.string (mkB r)] 9
  rw [show ((w.alloc (.cells #[.int .i64 0, .int .i64 0, .int .i64 0, .slice none 0 0] 77)).drewN n).heap.size = w.heap.size + 1 by simp] at kB
  obtain ⟨B, hB⟩ : ∃ B, w.heap.size + 1 = B := ⟨_, rfl⟩
  rw [hB] at kB
  simp only [hB]
  replace hB : w.heap.size < B := by omega
  generalize World.alloc _ _ = W0 at E0 kR kB
  go_wp2_with fail
  go_loopw [6] (fun i wr => ∃ op : Int, 1 ≤ op ∧ op ≤ 3 ∧ i = .int .i64 op ∧ Blk wr w.heap.size 77 [.int .i64 0, .int .i64 0, .int .i64 0, .slice none 0 0] ∧ Blk wr B 9 [.string (mkB r)] ∧ Hid (Ext w wr)) (fun i _ => (14 - intOf i).toNat)
  case atStart => exact ⟨1, by omega, by omega, rfl, kR, kB, Lib.hid E0⟩
  case round =>
    clear E0 kR kB
    obtain ⟨op, h1, h2, rfl, kR, kB, EW⟩ := hrel
    by_cases hlt : op < 3
    · obtain ⟨nm, va, vb, few, all, ok, hv⟩ : ∃ nm va vb few all ok, verbS op = (⟨nm, va, vb, few, all⟩, ok) := ⟨_, _, _, _, _, _, rfl⟩
      have hne : (mkB nm) ≠ (mkB [83, 69, 84]) := fun e => by
        have e2 : nm = [83, 69, 84] := by have := congrArg (fun b => b.data.toList) e; simpa [mkB_toList] using this
        subst e2
        rcases (by omega : op = 1 ∨ op = 2) with rfl | rfl <;> (simp [verbS] at hv)
      have hne2 := str_ne hne
      go_wp2_with fail
      refine (verbs93' op nm va vb few all ok hv _).mono ?_
      rintro e w2 ⟨rfl, he2⟩
      have kR2 := kR.ext he2
      have kB2 := kB.ext he2
      have EW2 := Lib.hid (Ext.trans EW.out he2)
      clear he2 kR kB
      go_wp2_with fail
      go_roundw
      case rel => exact ⟨op + 1, by omega, by omega, rfl, kR2.ext (Ext.new _ _), kB2.ext (Ext.new _ _), Lib.hid (Ext.trans EW2.out (Ext.new _ _))⟩
      case measure => simp [intOf]; omega
    · obtain rfl : op = 3 := by omega
      clear hlt h1 h2
      go_wp2_with fail
      refine (verbs93' 3 [83, 69, 84] 118 0 1 1 true rfl _).mono ?_
      rintro e w2 ⟨rfl, he2⟩
      have kR2 := (kR.ext he2).ext (Ext.new w2 (.cells #[.string (mkB [83, 69, 84]), .int .u8 118, .int .u8 0, .int .i64 1, .int .i64 1] 126))
      have kB2 := (kB.ext he2).ext (Ext.new w2 (.cells #[.string (mkB [83, 69, 84]), .int .u8 118, .int .u8 0, .int .i64 1, .int .i64 1] 126))
      have EW2 := Ext.trans (Ext.trans EW.out he2) (Ext.new w2 (.cells #[.string (mkB [83, 69, 84]), .int .u8 118, .int .u8 0, .int .i64 1, .int .i64 1] 126))
      have kV2 := Blk.new w2 [.string (mkB [83, 69, 84]), .int .u8 118, .int .u8 0, .int .i64 1, .int .i64 1] 126
      have hBV : B < w2.heap.size := (kB.ext he2).lt
      clear he2 kR kB EW
      go_upto_region 7 with (fail)
      obtain ⟨V, hV⟩ : ∃ V, w2.heap.size = V := ⟨_, rfl⟩
      rw [hV] at kV2 hBV
      simp only [hV]
      have hVs : V < (w2.alloc (.cells #[.string (mkB [83, 69, 84]), .int .u8 118, .int .u8 0, .int .i64 1, .int .i64 1] 126)).heap.size := kV2.lt
      generalize World.alloc _ _ = w3 at kR2 kB2 kV2 EW2 hVs
      clear hV
      go_upto_region 9 with (fail)
      have kR3 := kR2.ext (Ext.new w3 (.cells #[.int .i64 3, .int .i64 0, .int .i64 0, .slice none 0 0] 77))
      have kB3 := kB2.ext (Ext.new w3 (.cells #[.int .i64 3, .int .i64 0, .int .i64 0, .slice none 0 0] 77))
      have kV3 := kV2.ext (Ext.new w3 (.cells #[.int .i64 3, .int .i64 0, .int .i64 0, .slice none 0 0] 77))
      have kS3 := Blk.new w3 [.int .i64 3, .int .i64 0, .int .i64 0, .slice none 0 0] 77
      have EW3 := Ext.trans EW2 (Ext.new w3 (.cells #[.int .i64 3, .int .i64 0, .int .i64 0, .slice none 0 0] 77))
      clear kR2 kB2 kV2 EW2
      obtain ⟨S, hS⟩ : ∃ S, w3.heap.size = S := ⟨_, rfl⟩
      rw [hS] at kS3 hVs
      simp only [hS]
      generalize World.alloc _ _ = W at kR3 kB3 kV3 kS3 EW3
      clear hS
      replace EW3 := Lib.hid EW3
      have xB0 := kB3.c0
      have xV1 := kV3.c1
      have xV2 := kV3.c2
      have xV4 := kV3.c4
      have xS0 := kS3.c0
      have xS1 := kS3.c1
      have xS2 := kS3.c2
      have xS3 := kS3.c3
      have xR0 := kR3.c0
      have xR1 := kR3.c1
      have xR2 := kR3.c2
      have xR3 := kR3.c3
      have yB0 := kB3.fz 0
      have yS0 := kS3.fz 0
      have yS1 := kS3.fz 1
      have yS2 := kS3.fz 2
      have yS3 := kS3.fz 3
      have yR0 := kR3.fz 0
      have yR1 := kR3.fz 1
      have yR2 := kR3.fz 2
      have yR3 := kR3.fz 3
      have zR := kR3.lt
      have zB := kB3.lt
      have zV := kV3.lt
      have zS := kS3.lt
      go_wp2_with fail
      have hl1 : ((r).length : Int) ≤ 100000 := by omega
      refine (next94l B r _ (HG.out.ext EW3.out) xB0 yB0 hl1).mono ?_
      rintro e x1 ⟨rfl, n1, rfl⟩
      clear xB0 xV1 xV2 xV4 xS0 xS1 xS2 xS3 xR0 xR1 xR2 xR3 yB0 yS0 yS1 yS2 yS3 yR0 yR1 yR2 yR3 zR zB zV zS
      replace kR3 := (kR3.drewN n1).other (show w.heap.size ≠ B by omega) 0 (.string (mkB (cutB 32 r).2.1))
      replace kB3 := (show Blk _ B 9 [.string (mkB (cutB 32 r).2.1)] from (kB3.drewN n1).set 0 (.string (mkB (cutB 32 r).2.1)))
      replace kV3 := (kV3.drewN n1).other (show V ≠ B by omega) 0 (.string (mkB (cutB 32 r).2.1))
      replace kS3 := (kS3.drewN n1).other (show S ≠ B by omega) 0 (.string (mkB (cutB 32 r).2.1))
      replace EW3 := Lib.hid (Ext.set (Ext.drewN EW3.out n1) (show w.heap.size ≤ B by omega) 0 (.string (mkB (cutB 32 r).2.1)))
      generalize World.setCell _ _ _ = W2 at kR3 kB3 kV3 kS3 EW3
      have xB0 := kB3.c0
      have xV1 := kV3.c1
      have xV2 := kV3.c2
      have xV4 := kV3.c4
      have xS0 := kS3.c0
      have xS1 := kS3.c1
      have xS2 := kS3.c2
      have xS3 := kS3.c3
      have xR0 := kR3.c0
      have xR1 := kR3.c1
      have xR2 := kR3.c2
      have xR3 := kR3.c3
      have yB0 := kB3.fz 0
      have yS0 := kS3.fz 0
      have yS1 := kS3.fz 1
      have yS2 := kS3.fz 2
      have yS3 := kS3.fz 3
      have yR0 := kR3.fz 0
      have yR1 := kR3.fz 1
      have yR2 := kR3.fz 2
      have yR3 := kR3.fz 3
      have zR := kR3.lt
      have zB := kB3.lt
      have zV := kV3.lt
      have zS := kS3.lt
      go_wp2_with fail
      refine (number95l (cutB 32 r).1 _ (HG.out.ext EW3.out) (by have := (cutB_len 32 (r)).1; omega)).mono ?_
      rintro e Y3 ⟨rfl, he3⟩
      clear xB0 xV1 xV2 xV4 xS0 xS1 xS2 xS3 xR0 xR1 xR2 xR3 yB0 yS0 yS1 yS2 yS3 yR0 yR1 yR2 yR3 zR zB zV zS
      replace kR3 := kR3.ext he3
      replace kB3 := kB3.ext he3
      replace kV3 := kV3.ext he3
      replace kS3 := kS3.ext he3
      replace EW3 := Lib.hid (Ext.trans EW3.out he3)
      clear he3
      have xB0 := kB3.c0
      have xV1 := kV3.c1
      have xV2 := kV3.c2
      have xV4 := kV3.c4
      have xS0 := kS3.c0
      have xS1 := kS3.c1
      have xS2 := kS3.c2
      have xS3 := kS3.c3
      have xR0 := kR3.c0
      have xR1 := kR3.c1
      have xR2 := kR3.c2
      have xR3 := kR3.c3
      have yB0 := kB3.fz 0
      have yS0 := kS3.fz 0
      have yS1 := kS3.fz 1
      have yS2 := kS3.fz 2
      have yS3 := kS3.fz 3
      have yR0 := kR3.fz 0
      have yR1 := kR3.fz 1
      have yR2 := kR3.fz 2
      have yR3 := kR3.fz 3
      have zR := kR3.lt
      have zB := kB3.lt
      have zV := kV3.lt
      have zS := kS3.lt
      go_upto_region 28 with (fail)
      clear xB0 xV1 xV2 xV4 xS0 xS1 xS2 xS3 xR0 xR1 xR2 xR3 yB0 yS0 yS1 yS2 yS3 yR0 yR1 yR2 yR3 zR zB zV zS
      replace kR3 := kR3.other (show w.heap.size ≠ S by omega) 1 (.int .i64 (numL (cutB 32 r).1))
      replace kB3 := kB3.other (show B ≠ S by omega) 1 (.int .i64 (numL (cutB 32 r).1))
      replace kV3 := kV3.other (show V ≠ S by omega) 1 (.int .i64 (numL (cutB 32 r).1))
      replace kS3 := (show Blk _ S 77 [.int .i64 3, .int .i64 (numL (cutB 32 r).1), .int .i64 0, .slice none 0 0] from kS3.set 1 (.int .i64 (numL (cutB 32 r).1)))
      replace EW3 := Lib.hid (Ext.set EW3.out (show w.heap.size ≤ S by omega) 1 (.int .i64 (numL (cutB 32 r).1)))
      generalize World.setCell _ _ _ = W4 at kR3 kB3 kV3 kS3 EW3
      have xB0 := kB3.c0
      have xV1 := kV3.c1
      have xV2 := kV3.c2
      have xV4 := kV3.c4
      have xS0 := kS3.c0
      have xS1 := kS3.c1
      have xS2 := kS3.c2
      have xS3 := kS3.c3
      have xR0 := kR3.c0
      have xR1 := kR3.c1
      have xR2 := kR3.c2
      have xR3 := kR3.c3
      have yB0 := kB3.fz 0
      have yS0 := kS3.fz 0
      have yS1 := kS3.fz 1
      have yS2 := kS3.fz 2
      have yS3 := kS3.fz 3
      have yR0 := kR3.fz 0
      have yR1 := kR3.fz 1
      have yR2 := kR3.fz 2
      have yR3 := kR3.fz 3
      have zR := kR3.lt
      have zB := kB3.lt
      have zV := kV3.lt
      have zS := kS3.lt
      have hg0 : S < W4.heap.size := zS
      go_upto_region 29 with (fail)
      clear xB0 xV1 xV2 xV4 xS0 xS1 xS2 xS3 xR0 xR1 xR2 xR3 yB0 yS0 yS1 yS2 yS3 yR0 yR1 yR2 yR3 zR zB zV zS
      replace kR3 := kR3.other (show w.heap.size ≠ S by omega) 3 (.slice (some ⟨W4.heap.size, 0, none⟩) 1 1)
      replace kB3 := kB3.other (show B ≠ S by omega) 3 (.slice (some ⟨W4.heap.size, 0, none⟩) 1 1)
      replace kV3 := kV3.other (show V ≠ S by omega) 3 (.slice (some ⟨W4.heap.size, 0, none⟩) 1 1)
      replace kS3 := (show Blk _ S 77 [.int .i64 3, .int .i64 (numL (cutB 32 r).1), .int .i64 0, .slice (some ⟨W4.heap.size, 0, none⟩) 1 1] from kS3.set 3 (.slice (some ⟨W4.heap.size, 0, none⟩) 1 1))
      replace EW3 := Lib.hid (Ext.set EW3.out (show w.heap.size ≤ S by omega) 3 (.slice (some ⟨W4.heap.size, 0, none⟩) 1 1))
      have hg : S < W4.heap.size := hg0
      have HO : Own (World.alloc (W4.setCell ⟨S, 3, none⟩ (.slice (some ⟨W4.heap.size, 0, none⟩) 1 1)) (.cells #[.string (mkB (cutB 32 r).2.1)] 9)) (World.heap (W4.setCell ⟨S, 3, none⟩ (.slice (some ⟨W4.heap.size, 0, none⟩) 1 1))).size (.slice (some ⟨(World.heap (W4.setCell ⟨S, 3, none⟩ (.slice (some ⟨W4.heap.size, 0, none⟩) 1 1))).size, 0, none⟩) 1 1) [mkB (cutB 32 r).2.1] := Own.fresh (W4.setCell ⟨S, 3, none⟩ (.slice (some ⟨W4.heap.size, 0, none⟩) 1 1)) [mkB (cutB 32 r).2.1] (by simp) (by simp)
      rw [Blk.size_set] at HO
      replace HO := Lib.hid (HO.base (b := w.heap.size) (by omega))
      replace kR3 := kR3.ext (Ext.new _ (.cells #[.string (mkB (cutB 32 r).2.1)] 9))
      replace kB3 := kB3.ext (Ext.new _ (.cells #[.string (mkB (cutB 32 r).2.1)] 9))
      replace kV3 := kV3.ext (Ext.new _ (.cells #[.string (mkB (cutB 32 r).2.1)] 9))
      replace kS3 := kS3.ext (Ext.new _ (.cells #[.string (mkB (cutB 32 r).2.1)] 9))
      replace EW3 := Lib.hid (Ext.trans EW3.out (Ext.new _ (.cells #[.string (mkB (cutB 32 r).2.1)] 9)))
      generalize World.alloc _ _ = W5 at kR3 kB3 kV3 kS3 EW3 HO
      have xB0 := kB3.c0
      have xV1 := kV3.c1
      have xV2 := kV3.c2
      have xV4 := kV3.c4
      have xS0 := kS3.c0
      have xS1 := kS3.c1
      have xS2 := kS3.c2
      have xS3 := kS3.c3
      have xR0 := kR3.c0
      have xR1 := kR3.c1
      have xR2 := kR3.c2
      have xR3 := kR3.c3
      have yB0 := kB3.fz 0
      have yS0 := kS3.fz 0
      have yS1 := kS3.fz 1
      have yS2 := kS3.fz 2
      have yS3 := kS3.fz 3
      have yR0 := kR3.fz 0
      have yR1 := kR3.fz 1
      have yR2 := kR3.fz 2
      have yR3 := kR3.fz 3
      have zR := kR3.lt
      have zB := kB3.lt
      have zV := kV3.lt
      have zS := kS3.lt
      go_wp2_with fail
      have kR4 := (show Blk _ w.heap.size 77 [.int .i64 3, .int .i64 (numL (cutB 32 r).1), .int .i64 0, .slice (some ⟨W4.heap.size, 0, none⟩) 1 1] from ((((kR3.set 0 (.int .i64 3)).set 1 (.int .i64 (numL (cutB 32 r).1))).set 2 (.int .i64 0)).set 3 (.slice (some ⟨W4.heap.size, 0, none⟩) 1 1)))
      have EW4 := Lib.hid (Ext.set (Ext.set (Ext.set (Ext.set EW3.out (Nat.le_refl _) 0 (.int .i64 3)) (Nat.le_refl _) 1 (.int .i64 (numL (cutB 32 r).1))) (Nat.le_refl _) 2 (.int .i64 0)) (Nat.le_refl _) 3 (.slice (some ⟨W4.heap.size, 0, none⟩) 1 1))
      have HO4 := Lib.hid ((((HO.out.set (b := w.heap.size) (by simp [Value.ownBlock]; omega) 0 (.int .i64 3)).set (b := w.heap.size) (by simp [Value.ownBlock]; omega) 1 (.int .i64 (numL (cutB 32 r).1))).set (b := w.heap.size) (by simp [Value.ownBlock]; omega) 2 (.int .i64 0)).set (b := w.heap.size) (by simp [Value.ownBlock]; omega) 3 (.slice (some ⟨W4.heap.size, 0, none⟩) 1 1))
      clear HO
      clear xB0 xV1 xV2 xV4 xS0 xS1 xS2 xS3 xR0 xR1 xR2 xR3 yB0 yS0 yS1 yS2 yS3 yR0 yR1 yR2 yR3 zR zB zV zS kR3 kB3 kV3 kS3 EW3
      generalize World.setCell _ _ _ = Z at kR4 EW4 HO4
      have xR0 := kR4.c0
      have xR1 := kR4.c1
      have xR2 := kR4.c2
      have xR3 := kR4.c3
      refine bodyPost_ret (v := .agg #[.int .i64 3, .int .i64 (numL (cutB 32 r).1), .int .i64 0, .slice (some ⟨W4.heap.size, 0, none⟩) 1 1]) (by simp [results, Tryz.results62, go_sem, xR0, xR1, xR2, xR3]) rfl ?_
      have hst : stepP 3 r = ⟨3, (numL (cutB 32 r).1), 0, [mkB (cutB 32 r).2.1]⟩ := by simp [stepP, verbS]
      rw [hst]
      refine ⟨some ⟨W4.heap.size, 0, none⟩, 1, rfl, Nat.le_refl _, ?_, EW4.out⟩
      exact HO4.out

set_option maxRecDepth 100000 in
set_option maxHeartbeats 4000000 in
theorem readStep62_4 (s : ByteArray) (r : List UInt8) (fd : Bool) (hc : cutB 32 s.data.toList = ([65, 68, 68], r, fd)) (w : World) (hg : Gl w) (hs : (s.size : Int) ≤ 100000) :
    Calls Tryz.prog 62 #[.string s] w fun e w' => ∃ T c, e = .returned (.agg #[.int .i64 (stepP 4 r).op, .int .i64 (stepP 4 r).a, .int .i64 (stepP 4 r).b, .slice T (stepP 4 r).texts.length c]) ∧ (stepP 4 r).texts.length ≤ c ∧ Own w' w.heap.size (.slice T (stepP 4 r).texts.length c) (stepP 4 r).texts ∧ Ext w w' := by
  have hrl : r.length ≤ s.size := by have := (cutB_len 32 s.data.toList).2; rw [hc] at this; simpa using this
  have hc92 : ∀ w, Gl w → Calls Tryz.prog 92 #[.string s, .string ⟨#[32]⟩] w fun e w' => e = .returned (.tuple #[.string (mkB [65, 68, 68]), .string (mkB r), .bool fd]) ∧ ∃ n, w' = w.drewN n := fun w hg => by
    have := cut92 s w hg (by omega)
    rwa [hc] at this
  have HG := Lib.hid hg
  clear hc hg
  go_enter Tryz.func62, Tryz.ntmps62
  go_wp2_with fail
  refine (hc92 _ (HG.out.ext (Ext.new w _))).mono ?_
  rintro e w1 ⟨rfl, n, rfl⟩
  go_upto_region 2 with (fail)
  have E0 := Ext.al (Ext.drewN (Ext.new w (.cells #[.int .i64 0, .int .i64 0, .int .i64 0, .slice none 0 0] 77)) n) (.cells #[.string (mkB r)] 9)
  have kR : Blk _ w.heap.size 77 [.int .i64 0, .int .i64 0, .int .i64 0, .slice none 0 0] := ((Blk.new w [.int .i64 0, .int .i64 0, .int .i64 0, .slice none 0 0] 77).drewN n).ext (Ext.new _ (.cells #[.string (mkB r)] 9))
  have kB := Blk.new ((w.alloc (.cells #[.int .i64 0, .int .i64 0, .int .i64 0, .slice none 0 0] 77)).drewN n) [.string (mkB r)] 9
  rw [show ((w.alloc (.cells #[.int .i64 0, .int .i64 0, .int .i64 0, .slice none 0 0] 77)).drewN n).heap.size = w.heap.size + 1 by simp] at kB
  obtain ⟨B, hB⟩ : ∃ B, w.heap.size + 1 = B := ⟨_, rfl⟩
  rw [hB] at kB
  simp only [hB]
  replace hB : w.heap.size < B := by omega
  generalize World.alloc _ _ = W0 at E0 kR kB
  go_wp2_with fail
  go_loopw [6] (fun i wr => ∃ op : Int, 1 ≤ op ∧ op ≤ 4 ∧ i = .int .i64 op ∧ Blk wr w.heap.size 77 [.int .i64 0, .int .i64 0, .int .i64 0, .slice none 0 0] ∧ Blk wr B 9 [.string (mkB r)] ∧ Hid (Ext w wr)) (fun i _ => (14 - intOf i).toNat)
  case atStart => exact ⟨1, by omega, by omega, rfl, kR, kB, Lib.hid E0⟩
  case round =>
    clear E0 kR kB
    obtain ⟨op, h1, h2, rfl, kR, kB, EW⟩ := hrel
    by_cases hlt : op < 4
    · obtain ⟨nm, va, vb, few, all, ok, hv⟩ : ∃ nm va vb few all ok, verbS op = (⟨nm, va, vb, few, all⟩, ok) := ⟨_, _, _, _, _, _, rfl⟩
      have hne : (mkB nm) ≠ (mkB [65, 68, 68]) := fun e => by
        have e2 : nm = [65, 68, 68] := by have := congrArg (fun b => b.data.toList) e; simpa [mkB_toList] using this
        subst e2
        rcases (by omega : op = 1 ∨ op = 2 ∨ op = 3) with rfl | rfl | rfl <;> (simp [verbS] at hv)
      have hne2 := str_ne hne
      go_wp2_with fail
      refine (verbs93' op nm va vb few all ok hv _).mono ?_
      rintro e w2 ⟨rfl, he2⟩
      have kR2 := kR.ext he2
      have kB2 := kB.ext he2
      have EW2 := Lib.hid (Ext.trans EW.out he2)
      clear he2 kR kB
      go_wp2_with fail
      go_roundw
      case rel => exact ⟨op + 1, by omega, by omega, rfl, kR2.ext (Ext.new _ _), kB2.ext (Ext.new _ _), Lib.hid (Ext.trans EW2.out (Ext.new _ _))⟩
      case measure => simp [intOf]; omega
    · obtain rfl : op = 4 := by omega
      clear hlt h1 h2
      go_wp2_with fail
      refine (verbs93' 4 [65, 68, 68] 118 110 0 0 true rfl _).mono ?_
      rintro e w2 ⟨rfl, he2⟩
      have kR2 := (kR.ext he2).ext (Ext.new w2 (.cells #[.string (mkB [65, 68, 68]), .int .u8 118, .int .u8 110, .int .i64 0, .int .i64 0] 126))
      have kB2 := (kB.ext he2).ext (Ext.new w2 (.cells #[.string (mkB [65, 68, 68]), .int .u8 118, .int .u8 110, .int .i64 0, .int .i64 0] 126))
      have EW2 := Ext.trans (Ext.trans EW.out he2) (Ext.new w2 (.cells #[.string (mkB [65, 68, 68]), .int .u8 118, .int .u8 110, .int .i64 0, .int .i64 0] 126))
      have kV2 := Blk.new w2 [.string (mkB [65, 68, 68]), .int .u8 118, .int .u8 110, .int .i64 0, .int .i64 0] 126
      have hBV : B < w2.heap.size := (kB.ext he2).lt
      clear he2 kR kB EW
      go_upto_region 7 with (fail)
      obtain ⟨V, hV⟩ : ∃ V, w2.heap.size = V := ⟨_, rfl⟩
      rw [hV] at kV2 hBV
      simp only [hV]
      have hVs : V < (w2.alloc (.cells #[.string (mkB [65, 68, 68]), .int .u8 118, .int .u8 110, .int .i64 0, .int .i64 0] 126)).heap.size := kV2.lt
      generalize World.alloc _ _ = w3 at kR2 kB2 kV2 EW2 hVs
      clear hV
      go_upto_region 9 with (fail)
      have kR3 := kR2.ext (Ext.new w3 (.cells #[.int .i64 4, .int .i64 0, .int .i64 0, .slice none 0 0] 77))
      have kB3 := kB2.ext (Ext.new w3 (.cells #[.int .i64 4, .int .i64 0, .int .i64 0, .slice none 0 0] 77))
      have kV3 := kV2.ext (Ext.new w3 (.cells #[.int .i64 4, .int .i64 0, .int .i64 0, .slice none 0 0] 77))
      have kS3 := Blk.new w3 [.int .i64 4, .int .i64 0, .int .i64 0, .slice none 0 0] 77
      have EW3 := Ext.trans EW2 (Ext.new w3 (.cells #[.int .i64 4, .int .i64 0, .int .i64 0, .slice none 0 0] 77))
      clear kR2 kB2 kV2 EW2
      obtain ⟨S, hS⟩ : ∃ S, w3.heap.size = S := ⟨_, rfl⟩
      rw [hS] at kS3 hVs
      simp only [hS]
      generalize World.alloc _ _ = W at kR3 kB3 kV3 kS3 EW3
      clear hS
      replace EW3 := Lib.hid EW3
      have xB0 := kB3.c0
      have xV1 := kV3.c1
      have xV2 := kV3.c2
      have xV4 := kV3.c4
      have xS0 := kS3.c0
      have xS1 := kS3.c1
      have xS2 := kS3.c2
      have xS3 := kS3.c3
      have xR0 := kR3.c0
      have xR1 := kR3.c1
      have xR2 := kR3.c2
      have xR3 := kR3.c3
      have yB0 := kB3.fz 0
      have yS0 := kS3.fz 0
      have yS1 := kS3.fz 1
      have yS2 := kS3.fz 2
      have yS3 := kS3.fz 3
      have yR0 := kR3.fz 0
      have yR1 := kR3.fz 1
      have yR2 := kR3.fz 2
      have yR3 := kR3.fz 3
      have zR := kR3.lt
      have zB := kB3.lt
      have zV := kV3.lt
      have zS := kS3.lt
      go_wp2_with fail
      have hl1 : ((r).length : Int) ≤ 100000 := by omega
      refine (next94l B r _ (HG.out.ext EW3.out) xB0 yB0 hl1).mono ?_
      rintro e x1 ⟨rfl, n1, rfl⟩
      clear xB0 xV1 xV2 xV4 xS0 xS1 xS2 xS3 xR0 xR1 xR2 xR3 yB0 yS0 yS1 yS2 yS3 yR0 yR1 yR2 yR3 zR zB zV zS
      replace kR3 := (kR3.drewN n1).other (show w.heap.size ≠ B by omega) 0 (.string (mkB (cutB 32 r).2.1))
      replace kB3 := (show Blk _ B 9 [.string (mkB (cutB 32 r).2.1)] from (kB3.drewN n1).set 0 (.string (mkB (cutB 32 r).2.1)))
      replace kV3 := (kV3.drewN n1).other (show V ≠ B by omega) 0 (.string (mkB (cutB 32 r).2.1))
      replace kS3 := (kS3.drewN n1).other (show S ≠ B by omega) 0 (.string (mkB (cutB 32 r).2.1))
      replace EW3 := Lib.hid (Ext.set (Ext.drewN EW3.out n1) (show w.heap.size ≤ B by omega) 0 (.string (mkB (cutB 32 r).2.1)))
      generalize World.setCell _ _ _ = W2 at kR3 kB3 kV3 kS3 EW3
      have xB0 := kB3.c0
      have xV1 := kV3.c1
      have xV2 := kV3.c2
      have xV4 := kV3.c4
      have xS0 := kS3.c0
      have xS1 := kS3.c1
      have xS2 := kS3.c2
      have xS3 := kS3.c3
      have xR0 := kR3.c0
      have xR1 := kR3.c1
      have xR2 := kR3.c2
      have xR3 := kR3.c3
      have yB0 := kB3.fz 0
      have yS0 := kS3.fz 0
      have yS1 := kS3.fz 1
      have yS2 := kS3.fz 2
      have yS3 := kS3.fz 3
      have yR0 := kR3.fz 0
      have yR1 := kR3.fz 1
      have yR2 := kR3.fz 2
      have yR3 := kR3.fz 3
      have zR := kR3.lt
      have zB := kB3.lt
      have zV := kV3.lt
      have zS := kS3.lt
      go_wp2_with fail
      refine (number95l (cutB 32 r).1 _ (HG.out.ext EW3.out) (by have := (cutB_len 32 (r)).1; omega)).mono ?_
      rintro e Y3 ⟨rfl, he3⟩
      clear xB0 xV1 xV2 xV4 xS0 xS1 xS2 xS3 xR0 xR1 xR2 xR3 yB0 yS0 yS1 yS2 yS3 yR0 yR1 yR2 yR3 zR zB zV zS
      replace kR3 := kR3.ext he3
      replace kB3 := kB3.ext he3
      replace kV3 := kV3.ext he3
      replace kS3 := kS3.ext he3
      replace EW3 := Lib.hid (Ext.trans EW3.out he3)
      clear he3
      have xB0 := kB3.c0
      have xV1 := kV3.c1
      have xV2 := kV3.c2
      have xV4 := kV3.c4
      have xS0 := kS3.c0
      have xS1 := kS3.c1
      have xS2 := kS3.c2
      have xS3 := kS3.c3
      have xR0 := kR3.c0
      have xR1 := kR3.c1
      have xR2 := kR3.c2
      have xR3 := kR3.c3
      have yB0 := kB3.fz 0
      have yS0 := kS3.fz 0
      have yS1 := kS3.fz 1
      have yS2 := kS3.fz 2
      have yS3 := kS3.fz 3
      have yR0 := kR3.fz 0
      have yR1 := kR3.fz 1
      have yR2 := kR3.fz 2
      have yR3 := kR3.fz 3
      have zR := kR3.lt
      have zB := kB3.lt
      have zV := kV3.lt
      have zS := kS3.lt
      go_wp2_with fail
      clear xB0 xV1 xV2 xV4 xS0 xS1 xS2 xS3 xR0 xR1 xR2 xR3 yB0 yS0 yS1 yS2 yS3 yR0 yR1 yR2 yR3 zR zB zV zS
      replace kR3 := kR3.other (show w.heap.size ≠ S by omega) 1 (.int .i64 (numL (cutB 32 r).1))
      replace kB3 := kB3.other (show B ≠ S by omega) 1 (.int .i64 (numL (cutB 32 r).1))
      replace kV3 := kV3.other (show V ≠ S by omega) 1 (.int .i64 (numL (cutB 32 r).1))
      replace kS3 := (show Blk _ S 77 [.int .i64 4, .int .i64 (numL (cutB 32 r).1), .int .i64 0, .slice none 0 0] from kS3.set 1 (.int .i64 (numL (cutB 32 r).1)))
      replace EW3 := Lib.hid (Ext.set EW3.out (show w.heap.size ≤ S by omega) 1 (.int .i64 (numL (cutB 32 r).1)))
      generalize World.setCell _ _ _ = W5 at kR3 kB3 kV3 kS3 EW3
      have xB0 := kB3.c0
      have xV1 := kV3.c1
      have xV2 := kV3.c2
      have xV4 := kV3.c4
      have xS0 := kS3.c0
      have xS1 := kS3.c1
      have xS2 := kS3.c2
      have xS3 := kS3.c3
      have xR0 := kR3.c0
      have xR1 := kR3.c1
      have xR2 := kR3.c2
      have xR3 := kR3.c3
      have yB0 := kB3.fz 0
      have yS0 := kS3.fz 0
      have yS1 := kS3.fz 1
      have yS2 := kS3.fz 2
      have yS3 := kS3.fz 3
      have yR0 := kR3.fz 0
      have yR1 := kR3.fz 1
      have yR2 := kR3.fz 2
      have yR3 := kR3.fz 3
      have zR := kR3.lt
      have zB := kB3.lt
      have zV := kV3.lt
      have zS := kS3.lt
      have hl4 : (((cutB 32 r).2.1).length : Int) ≤ 100000 := by have := (cutB_len 32 (r)).2; omega
      refine (next94l B (cutB 32 r).2.1 _ (HG.out.ext EW3.out) xB0 yB0 hl4).mono ?_
      rintro e x4 ⟨rfl, n4, rfl⟩
      clear xB0 xV1 xV2 xV4 xS0 xS1 xS2 xS3 xR0 xR1 xR2 xR3 yB0 yS0 yS1 yS2 yS3 yR0 yR1 yR2 yR3 zR zB zV zS
      replace kR3 := (kR3.drewN n4).other (show w.heap.size ≠ B by omega) 0 (.string (mkB (cutB 32 (cutB 32 r).2.1).2.1))
      replace kB3 := (show Blk _ B 9 [.string (mkB (cutB 32 (cutB 32 r).2.1).2.1)] from (kB3.drewN n4).set 0 (.string (mkB (cutB 32 (cutB 32 r).2.1).2.1)))
      replace kV3 := (kV3.drewN n4).other (show V ≠ B by omega) 0 (.string (mkB (cutB 32 (cutB 32 r).2.1).2.1))
      replace kS3 := (kS3.drewN n4).other (show S ≠ B by omega) 0 (.string (mkB (cutB 32 (cutB 32 r).2.1).2.1))
      replace EW3 := Lib.hid (Ext.set (Ext.drewN EW3.out n4) (show w.heap.size ≤ B by omega) 0 (.string (mkB (cutB 32 (cutB 32 r).2.1).2.1)))
      generalize World.setCell _ _ _ = W6 at kR3 kB3 kV3 kS3 EW3
      have xB0 := kB3.c0
      have xV1 := kV3.c1
      have xV2 := kV3.c2
      have xV4 := kV3.c4
      have xS0 := kS3.c0
      have xS1 := kS3.c1
      have xS2 := kS3.c2
      have xS3 := kS3.c3
      have xR0 := kR3.c0
      have xR1 := kR3.c1
      have xR2 := kR3.c2
      have xR3 := kR3.c3
      have yB0 := kB3.fz 0
      have yS0 := kS3.fz 0
      have yS1 := kS3.fz 1
      have yS2 := kS3.fz 2
      have yS3 := kS3.fz 3
      have yR0 := kR3.fz 0
      have yR1 := kR3.fz 1
      have yR2 := kR3.fz 2
      have yR3 := kR3.fz 3
      have zR := kR3.lt
      have zB := kB3.lt
      have zV := kV3.lt
      have zS := kS3.lt
      go_wp2_with fail
      refine (number95l (cutB 32 (cutB 32 r).2.1).1 _ (HG.out.ext EW3.out) (by have := (cutB_len 32 ((cutB 32 r).2.1)).1; omega)).mono ?_
      rintro e Y7 ⟨rfl, he7⟩
      clear xB0 xV1 xV2 xV4 xS0 xS1 xS2 xS3 xR0 xR1 xR2 xR3 yB0 yS0 yS1 yS2 yS3 yR0 yR1 yR2 yR3 zR zB zV zS
      replace kR3 := kR3.ext he7
      replace kB3 := kB3.ext he7
      replace kV3 := kV3.ext he7
      replace kS3 := kS3.ext he7
      replace EW3 := Lib.hid (Ext.trans EW3.out he7)
      clear he7
      have xB0 := kB3.c0
      have xV1 := kV3.c1
      have xV2 := kV3.c2
      have xV4 := kV3.c4
      have xS0 := kS3.c0
      have xS1 := kS3.c1
      have xS2 := kS3.c2
      have xS3 := kS3.c3
      have xR0 := kR3.c0
      have xR1 := kR3.c1
      have xR2 := kR3.c2
      have xR3 := kR3.c3
      have yB0 := kB3.fz 0
      have yS0 := kS3.fz 0
      have yS1 := kS3.fz 1
      have yS2 := kS3.fz 2
      have yS3 := kS3.fz 3
      have yR0 := kR3.fz 0
      have yR1 := kR3.fz 1
      have yR2 := kR3.fz 2
      have yR3 := kR3.fz 3
      have zR := kR3.lt
      have zB := kB3.lt
      have zV := kV3.lt
      have zS := kS3.lt
      go_wp2_with fail
      have kR4 := (show Blk _ w.heap.size 77 [.int .i64 4, .int .i64 (numL (cutB 32 r).1), .int .i64 (numL (cutB 32 (cutB 32 r).2.1).1), .slice none 0 0] from (((((kR3.other (show w.heap.size ≠ S by omega) 2 (.int .i64 (numL (cutB 32 (cutB 32 r).2.1).1))).set 0 (.int .i64 4)).set 1 (.int .i64 (numL (cutB 32 r).1))).set 2 (.int .i64 (numL (cutB 32 (cutB 32 r).2.1).1))).set 3 (.slice none 0 0)))
      have EW4 := Lib.hid (Ext.set (Ext.set (Ext.set (Ext.set (Ext.set EW3.out (show w.heap.size ≤ S by omega) 2 (.int .i64 (numL (cutB 32 (cutB 32 r).2.1).1))) (Nat.le_refl _) 0 (.int .i64 4)) (Nat.le_refl _) 1 (.int .i64 (numL (cutB 32 r).1))) (Nat.le_refl _) 2 (.int .i64 (numL (cutB 32 (cutB 32 r).2.1).1))) (Nat.le_refl _) 3 (.slice none 0 0))
      clear xB0 xV1 xV2 xV4 xS0 xS1 xS2 xS3 xR0 xR1 xR2 xR3 yB0 yS0 yS1 yS2 yS3 yR0 yR1 yR2 yR3 zR zB zV zS kR3 kB3 kV3 kS3 EW3
      generalize World.setCell _ _ _ = Z at kR4 EW4
      have xR0 := kR4.c0
      have xR1 := kR4.c1
      have xR2 := kR4.c2
      have xR3 := kR4.c3
      refine bodyPost_ret (v := .agg #[.int .i64 4, .int .i64 (numL (cutB 32 r).1), .int .i64 (numL (cutB 32 (cutB 32 r).2.1).1), .slice none 0 0]) (by simp [results, Tryz.results62, go_sem, xR0, xR1, xR2, xR3]) rfl ?_
      have hst : stepP 4 r = ⟨4, (numL (cutB 32 r).1), (numL (cutB 32 (cutB 32 r).2.1).1), []⟩ := by simp [stepP, verbS]
      rw [hst]
      exact ⟨none, 0, rfl, Nat.le_refl _, Own.none_ _ _, EW4.out⟩

set_option maxRecDepth 100000 in
set_option maxHeartbeats 4000000 in
theorem readStep62_5 (s : ByteArray) (r : List UInt8) (fd : Bool) (hc : cutB 32 s.data.toList = ([87, 72, 69, 78], r, fd)) (w : World) (hg : Gl w) (hs : (s.size : Int) ≤ 100000) :
    Calls Tryz.prog 62 #[.string s] w fun e w' => ∃ T c, e = .returned (.agg #[.int .i64 (stepP 5 r).op, .int .i64 (stepP 5 r).a, .int .i64 (stepP 5 r).b, .slice T (stepP 5 r).texts.length c]) ∧ (stepP 5 r).texts.length ≤ c ∧ Own w' w.heap.size (.slice T (stepP 5 r).texts.length c) (stepP 5 r).texts ∧ Ext w w' := by
  have hrl : r.length ≤ s.size := by have := (cutB_len 32 s.data.toList).2; rw [hc] at this; simpa using this
  have hc92 : ∀ w, Gl w → Calls Tryz.prog 92 #[.string s, .string ⟨#[32]⟩] w fun e w' => e = .returned (.tuple #[.string (mkB [87, 72, 69, 78]), .string (mkB r), .bool fd]) ∧ ∃ n, w' = w.drewN n := fun w hg => by
    have := cut92 s w hg (by omega)
    rwa [hc] at this
  have HG := Lib.hid hg
  clear hc hg
  go_enter Tryz.func62, Tryz.ntmps62
  go_wp2_with fail
  refine (hc92 _ (HG.out.ext (Ext.new w _))).mono ?_
  rintro e w1 ⟨rfl, n, rfl⟩
  go_upto_region 2 with (fail)
  have E0 := Ext.al (Ext.drewN (Ext.new w (.cells #[.int .i64 0, .int .i64 0, .int .i64 0, .slice none 0 0] 77)) n) (.cells #[.string (mkB r)] 9)
  have kR : Blk _ w.heap.size 77 [.int .i64 0, .int .i64 0, .int .i64 0, .slice none 0 0] := ((Blk.new w [.int .i64 0, .int .i64 0, .int .i64 0, .slice none 0 0] 77).drewN n).ext (Ext.new _ (.cells #[.string (mkB r)] 9))
  have kB := Blk.new ((w.alloc (.cells #[.int .i64 0, .int .i64 0, .int .i64 0, .slice none 0 0] 77)).drewN n) [.string (mkB r)] 9
  rw [show ((w.alloc (.cells #[.int .i64 0, .int .i64 0, .int .i64 0, .slice none 0 0] 77)).drewN n).heap.size = w.heap.size + 1 by simp] at kB
  obtain ⟨B, hB⟩ : ∃ B, w.heap.size + 1 = B := ⟨_, rfl⟩
  rw [hB] at kB
  simp only [hB]
  replace hB : w.heap.size < B := by omega
  generalize World.alloc _ _ = W0 at E0 kR kB
  go_wp2_with fail
  go_loopw [6] (fun i wr => ∃ op : Int, 1 ≤ op ∧ op ≤ 5 ∧ i = .int .i64 op ∧ Blk wr w.heap.size 77 [.int .i64 0, .int .i64 0, .int .i64 0, .slice none 0 0] ∧ Blk wr B 9 [.string (mkB r)] ∧ Hid (Ext w wr)) (fun i _ => (14 - intOf i).toNat)
  case atStart => exact ⟨1, by omega, by omega, rfl, kR, kB, Lib.hid E0⟩
  case round =>
    clear E0 kR kB
    obtain ⟨op, h1, h2, rfl, kR, kB, EW⟩ := hrel
    by_cases hlt : op < 5
    · obtain ⟨nm, va, vb, few, all, ok, hv⟩ : ∃ nm va vb few all ok, verbS op = (⟨nm, va, vb, few, all⟩, ok) := ⟨_, _, _, _, _, _, rfl⟩
      have hne : (mkB nm) ≠ (mkB [87, 72, 69, 78]) := fun e => by
        have e2 : nm = [87, 72, 69, 78] := by have := congrArg (fun b => b.data.toList) e; simpa [mkB_toList] using this
        subst e2
        rcases (by omega : op = 1 ∨ op = 2 ∨ op = 3 ∨ op = 4) with rfl | rfl | rfl | rfl <;> (simp [verbS] at hv)
      have hne2 := str_ne hne
      go_wp2_with fail
      refine (verbs93' op nm va vb few all ok hv _).mono ?_
      rintro e w2 ⟨rfl, he2⟩
      have kR2 := kR.ext he2
      have kB2 := kB.ext he2
      have EW2 := Lib.hid (Ext.trans EW.out he2)
      clear he2 kR kB
      go_wp2_with fail
      go_roundw
      case rel => exact ⟨op + 1, by omega, by omega, rfl, kR2.ext (Ext.new _ _), kB2.ext (Ext.new _ _), Lib.hid (Ext.trans EW2.out (Ext.new _ _))⟩
      case measure => simp [intOf]; omega
    · obtain rfl : op = 5 := by omega
      clear hlt h1 h2
      go_wp2_with fail
      refine (verbs93' 5 [87, 72, 69, 78] 0 112 1 1 true rfl _).mono ?_
      rintro e w2 ⟨rfl, he2⟩
      have kR2 := (kR.ext he2).ext (Ext.new w2 (.cells #[.string (mkB [87, 72, 69, 78]), .int .u8 0, .int .u8 112, .int .i64 1, .int .i64 1] 126))
      have kB2 := (kB.ext he2).ext (Ext.new w2 (.cells #[.string (mkB [87, 72, 69, 78]), .int .u8 0, .int .u8 112, .int .i64 1, .int .i64 1] 126))
      have EW2 := Ext.trans (Ext.trans EW.out he2) (Ext.new w2 (.cells #[.string (mkB [87, 72, 69, 78]), .int .u8 0, .int .u8 112, .int .i64 1, .int .i64 1] 126))
      have kV2 := Blk.new w2 [.string (mkB [87, 72, 69, 78]), .int .u8 0, .int .u8 112, .int .i64 1, .int .i64 1] 126
      have hBV : B < w2.heap.size := (kB.ext he2).lt
      clear he2 kR kB EW
      go_upto_region 7 with (fail)
      obtain ⟨V, hV⟩ : ∃ V, w2.heap.size = V := ⟨_, rfl⟩
      rw [hV] at kV2 hBV
      simp only [hV]
      have hVs : V < (w2.alloc (.cells #[.string (mkB [87, 72, 69, 78]), .int .u8 0, .int .u8 112, .int .i64 1, .int .i64 1] 126)).heap.size := kV2.lt
      generalize World.alloc _ _ = w3 at kR2 kB2 kV2 EW2 hVs
      clear hV
      go_upto_region 9 with (fail)
      have kR3 := kR2.ext (Ext.new w3 (.cells #[.int .i64 5, .int .i64 0, .int .i64 0, .slice none 0 0] 77))
      have kB3 := kB2.ext (Ext.new w3 (.cells #[.int .i64 5, .int .i64 0, .int .i64 0, .slice none 0 0] 77))
      have kV3 := kV2.ext (Ext.new w3 (.cells #[.int .i64 5, .int .i64 0, .int .i64 0, .slice none 0 0] 77))
      have kS3 := Blk.new w3 [.int .i64 5, .int .i64 0, .int .i64 0, .slice none 0 0] 77
      have EW3 := Ext.trans EW2 (Ext.new w3 (.cells #[.int .i64 5, .int .i64 0, .int .i64 0, .slice none 0 0] 77))
      clear kR2 kB2 kV2 EW2
      obtain ⟨S, hS⟩ : ∃ S, w3.heap.size = S := ⟨_, rfl⟩
      rw [hS] at kS3 hVs
      simp only [hS]
      generalize World.alloc _ _ = W at kR3 kB3 kV3 kS3 EW3
      clear hS
      replace EW3 := Lib.hid EW3
      have xB0 := kB3.c0
      have xV1 := kV3.c1
      have xV2 := kV3.c2
      have xV4 := kV3.c4
      have xS0 := kS3.c0
      have xS1 := kS3.c1
      have xS2 := kS3.c2
      have xS3 := kS3.c3
      have xR0 := kR3.c0
      have xR1 := kR3.c1
      have xR2 := kR3.c2
      have xR3 := kR3.c3
      have yB0 := kB3.fz 0
      have yS0 := kS3.fz 0
      have yS1 := kS3.fz 1
      have yS2 := kS3.fz 2
      have yS3 := kS3.fz 3
      have yR0 := kR3.fz 0
      have yR1 := kR3.fz 1
      have yR2 := kR3.fz 2
      have yR3 := kR3.fz 3
      have zR := kR3.lt
      have zB := kB3.lt
      have zV := kV3.lt
      have zS := kS3.lt
      have hrz : ((mkB r).size : Int) = r.length := by rw [mkB_size]
      by_cases hl3 : 3 < r.length
      · have hz3 : (3 : Int) < ((mkB r).size : Int) := by omega
        have hz2 : (2 : Int) ≤ ((mkB r).size : Int) := by omega
        have hz4 : (3 : Int) ≤ ((mkB r).size : Int) := by omega
        have hz5 : 2 ≤ (mkB r).size := by omega
        have hz6 : 3 ≤ (mkB r).size := by omega
        have nBS : B ≠ S := by omega
        have nSB : S ≠ B := by omega
        have HL3 := Lib.hid hl3
        clear hrz hl3
        go_upto_region 17 with (fail)
        have hnum : ∀ W', Ext W W' → Calls Tryz.prog 95 #[.string ((mkB r).extract 3 (mkB r).size)] W' fun e Y => e = .returned (.int .i64 (numL (r.drop 3))) ∧ Ext W' Y := fun W' h => by
          have e1 : (mkB r).extract 3 (mkB r).size = mkB (r.drop 3) := ext_list (by rw [extract_from, mkB_toList, mkB_toList])
          rw [e1]
          exact number95l _ _ (HG.out.ext (Ext.trans EW3.out h)) (by have := HL3.out; rw [List.length_drop]; omega)
        have HN := Lib.hid hnum
        clear hnum
        go_region_held3 (fun w' => w'.cell? ⟨B, 0, none⟩ = some (.string (mkB r))) (go_keep) (first | (go_at_call 95; refine (HN.out _ (by first | exact Ext.refl _ | exact Below.drew (Ext.refl _) | exact Below.drew (Ext.new _ _) | exact Ext.new _ _)).mono ?_; rintro e Y ⟨rfl, he⟩; have hw : Ext W Y := Ext.trans (by first | exact Ext.refl _ | exact Below.drew (Ext.refl _) | exact Below.drew (Ext.new _ _) | exact Ext.new _ _) he; have kB4 := (kB3.ext hw).c0; have kS4 := kS3.ext hw; have a0 := kS4.c0; have a1 := kS4.c1; have a2 := kS4.c2; have a3 := kS4.c3; have b0 := kS4.fz 0; have b1 := kS4.fz 1; have b2 := kS4.fz 2; have b3 := kS4.fz 3; have kR4 := kR3.ext hw; have d0 := kR4.c0; have d1 := kR4.c1; have d2 := kR4.c2; have d3 := kR4.c3; have f0 := kR4.fz 0; have f1 := kR4.fz 1; have f2 := kR4.fz 2; have f3 := kR4.fz 3; have lR := kR4.lt; have lS := kS4.lt; have HE := Lib.hid he; have HW := Lib.hid hw; clear he hw))
        · skip
          have hgS : S < W.heap.size := by have := HW.out.size; omega
          have HO0 : Own (W.alloc (.cells #[.string ((mkB r).extract 0 2)] 9)).drew W.heap.size (.slice (some ⟨W.heap.size, 0, none⟩) 1 1) [(mkB r).extract 0 2] := Own.fresh W [(mkB r).extract 0 2] (by simp) (by simp)
          have HO1 := (HO0.ext HE.out).base (b := w.heap.size) (by omega)
          have HO := Lib.hid ((HO1.set (b := S) (by simp [Value.ownBlock]; omega) 3 (.slice (some ⟨W.heap.size, 0, none⟩) 1 1)).set (b := S) (by simp [Value.ownBlock]; omega) 2 (.int .i64 (numL (r.drop 3))))
          clear HO0 HO1
          clear xB0 xV1 xV2 xV4 xS0 xS1 xS2 xS3 xR0 xR1 xR2 xR3 yB0 yS0 yS1 yS2 yS3 yR0 yR1 yR2 yR3 zR zB zV zS a0 a1 a2 a3 b0 b1 b2 b3 d0 d1 d2 d3 f0 f1 f2 f3 lR lS kS4 kB4 kR4
          replace kR3 := (((kR3.ext HW.out).other (show w.heap.size ≠ S by omega) 3 (.slice (some ⟨W.heap.size, 0, none⟩) 1 1)).other (show w.heap.size ≠ S by omega) 2 (.int .i64 (numL (r.drop 3))))
          replace kB3 := (((kB3.ext HW.out).other (show B ≠ S by omega) 3 (.slice (some ⟨W.heap.size, 0, none⟩) 1 1)).other (show B ≠ S by omega) 2 (.int .i64 (numL (r.drop 3))))
          replace kV3 := (((kV3.ext HW.out).other (show V ≠ S by omega) 3 (.slice (some ⟨W.heap.size, 0, none⟩) 1 1)).other (show V ≠ S by omega) 2 (.int .i64 (numL (r.drop 3))))
          replace kS3 := (show Blk _ S 77 [.int .i64 5, .int .i64 0, .int .i64 (numL (r.drop 3)), .slice (some ⟨W.heap.size, 0, none⟩) 1 1] from ((kS3.ext HW.out).set 3 (.slice (some ⟨W.heap.size, 0, none⟩) 1 1)).set 2 (.int .i64 (numL (r.drop 3))))
          replace EW3 := Lib.hid (Ext.set (Ext.set (Ext.trans EW3.out HW.out) (show w.heap.size ≤ S by omega) 3 (.slice (some ⟨W.heap.size, 0, none⟩) 1 1)) (show w.heap.size ≤ S by omega) 2 (.int .i64 (numL (r.drop 3))))
          generalize World.setCell _ _ _ = W1 at kR3 kB3 kV3 kS3 EW3 HO
          have xB0 := kB3.c0
          have xV1 := kV3.c1
          have xV2 := kV3.c2
          have xV4 := kV3.c4
          have xS0 := kS3.c0
          have xS1 := kS3.c1
          have xS2 := kS3.c2
          have xS3 := kS3.c3
          have xR0 := kR3.c0
          have xR1 := kR3.c1
          have xR2 := kR3.c2
          have xR3 := kR3.c3
          have yB0 := kB3.fz 0
          have yS0 := kS3.fz 0
          have yS1 := kS3.fz 1
          have yS2 := kS3.fz 2
          have yS3 := kS3.fz 3
          have yR0 := kR3.fz 0
          have yR1 := kR3.fz 1
          have yR2 := kR3.fz 2
          have yR3 := kR3.fz 3
          have zR := kR3.lt
          have zB := kB3.lt
          have zV := kV3.lt
          have zS := kS3.lt
          have e2x : (mkB r).extract 0 2 = mkB (r.take 2) := ext_list (by rw [extract_upto, mkB_toList, mkB_toList])
          go_wp2_with fail
          have kR4 := (show Blk _ w.heap.size 77 [.int .i64 5, .int .i64 0, .int .i64 (numL (r.drop 3)), .slice (some ⟨W.heap.size, 0, none⟩) 1 1] from ((((kR3.set 0 (.int .i64 5)).set 1 (.int .i64 0)).set 2 (.int .i64 (numL (r.drop 3)))).set 3 (.slice (some ⟨W.heap.size, 0, none⟩) 1 1)))
          have EW4 := Lib.hid (Ext.set (Ext.set (Ext.set (Ext.set EW3.out (Nat.le_refl _) 0 (.int .i64 5)) (Nat.le_refl _) 1 (.int .i64 0)) (Nat.le_refl _) 2 (.int .i64 (numL (r.drop 3)))) (Nat.le_refl _) 3 (.slice (some ⟨W.heap.size, 0, none⟩) 1 1))
          have HO4 := Lib.hid ((((HO.out.set (b := w.heap.size) (by simp [Value.ownBlock]; omega) 0 (.int .i64 5)).set (b := w.heap.size) (by simp [Value.ownBlock]; omega) 1 (.int .i64 0)).set (b := w.heap.size) (by simp [Value.ownBlock]; omega) 2 (.int .i64 (numL (r.drop 3)))).set (b := w.heap.size) (by simp [Value.ownBlock]; omega) 3 (.slice (some ⟨W.heap.size, 0, none⟩) 1 1))
          clear HO
          clear xB0 xV1 xV2 xV4 xS0 xS1 xS2 xS3 xR0 xR1 xR2 xR3 yB0 yS0 yS1 yS2 yS3 yR0 yR1 yR2 yR3 zR zB zV zS kR3 kB3 kV3 kS3 EW3
          generalize World.setCell _ _ _ = Z at kR4 EW4 HO4
          have xR0 := kR4.c0
          have xR1 := kR4.c1
          have xR2 := kR4.c2
          have xR3 := kR4.c3
          refine bodyPost_ret (v := .agg #[.int .i64 5, .int .i64 0, .int .i64 (numL (r.drop 3)), .slice (some ⟨W.heap.size, 0, none⟩) 1 1]) (by simp [results, Tryz.results62, go_sem, xR0, xR1, xR2, xR3]) rfl ?_
          have hst : stepP 5 r = ⟨5, 0, (numL (r.drop 3)), [(mkB r).extract 0 2]⟩ := by simp [stepP, HL3.out, ← e2x]
          rw [hst]
          refine ⟨some ⟨W.heap.size, 0, none⟩, 1, rfl, Nat.le_refl _, ?_, EW4.out⟩
          exact HO4.out
        · skip
          have hgS : S < Y.heap.size := by have := HW.out.size; omega
          have HO := Own.fresh ((Y.setCell ⟨S, 3, none⟩ (.slice (some ⟨Y.heap.size, 0, none⟩) 1 1)).setCell ⟨S, 2, none⟩ (.int .i64 (numL (r.drop 3)))) [(mkB r).extract 0 2] (by simp) (by simp)
          simp only [Blk.size_set] at HO
          have HO2 : Own (((Y.setCell ⟨S, 3, none⟩ (.slice (some ⟨Y.heap.size, 0, none⟩) 1 1)).setCell ⟨S, 2, none⟩ (.int .i64 (numL (r.drop 3)))).alloc (.cells #[.string ((mkB r).extract 0 2)] 9)) Y.heap.size (.slice (some ⟨Y.heap.size, 0, none⟩) 1 1) [(mkB r).extract 0 2] := HO
          replace HO := Lib.hid (HO2.base (b := w.heap.size) (by have := HW.out.size; omega))
          clear HO2
          clear xB0 xV1 xV2 xV4 xS0 xS1 xS2 xS3 xR0 xR1 xR2 xR3 yB0 yS0 yS1 yS2 yS3 yR0 yR1 yR2 yR3 zR zB zV zS a0 a1 a2 a3 b0 b1 b2 b3 d0 d1 d2 d3 f0 f1 f2 f3 lR lS kS4 kB4 kR4
          replace kR3 := ((((kR3.ext HW.out).other (show w.heap.size ≠ S by omega) 3 (.slice (some ⟨Y.heap.size, 0, none⟩) 1 1)).other (show w.heap.size ≠ S by omega) 2 (.int .i64 (numL (r.drop 3)))).ext (Ext.new _ (.cells #[.string ((mkB r).extract 0 2)] 9)))
          replace kB3 := ((((kB3.ext HW.out).other (show B ≠ S by omega) 3 (.slice (some ⟨Y.heap.size, 0, none⟩) 1 1)).other (show B ≠ S by omega) 2 (.int .i64 (numL (r.drop 3)))).ext (Ext.new _ (.cells #[.string ((mkB r).extract 0 2)] 9)))
          replace kV3 := ((((kV3.ext HW.out).other (show V ≠ S by omega) 3 (.slice (some ⟨Y.heap.size, 0, none⟩) 1 1)).other (show V ≠ S by omega) 2 (.int .i64 (numL (r.drop 3)))).ext (Ext.new _ (.cells #[.string ((mkB r).extract 0 2)] 9)))
          replace kS3 := ((show Blk _ S 77 [.int .i64 5, .int .i64 0, .int .i64 (numL (r.drop 3)), .slice (some ⟨Y.heap.size, 0, none⟩) 1 1] from ((kS3.ext HW.out).set 3 (.slice (some ⟨Y.heap.size, 0, none⟩) 1 1)).set 2 (.int .i64 (numL (r.drop 3)))).ext (Ext.new _ (.cells #[.string ((mkB r).extract 0 2)] 9)))
          replace EW3 := Lib.hid (Ext.trans (Ext.set (Ext.set (Ext.trans EW3.out HW.out) (show w.heap.size ≤ S by omega) 3 (.slice (some ⟨Y.heap.size, 0, none⟩) 1 1)) (show w.heap.size ≤ S by omega) 2 (.int .i64 (numL (r.drop 3)))) (Ext.new _ (.cells #[.string ((mkB r).extract 0 2)] 9)))
          generalize World.alloc _ _ = W1 at kR3 kB3 kV3 kS3 EW3 HO
          have xB0 := kB3.c0
          have xV1 := kV3.c1
          have xV2 := kV3.c2
          have xV4 := kV3.c4
          have xS0 := kS3.c0
          have xS1 := kS3.c1
          have xS2 := kS3.c2
          have xS3 := kS3.c3
          have xR0 := kR3.c0
          have xR1 := kR3.c1
          have xR2 := kR3.c2
          have xR3 := kR3.c3
          have yB0 := kB3.fz 0
          have yS0 := kS3.fz 0
          have yS1 := kS3.fz 1
          have yS2 := kS3.fz 2
          have yS3 := kS3.fz 3
          have yR0 := kR3.fz 0
          have yR1 := kR3.fz 1
          have yR2 := kR3.fz 2
          have yR3 := kR3.fz 3
          have zR := kR3.lt
          have zB := kB3.lt
          have zV := kV3.lt
          have zS := kS3.lt
          have e2x : (mkB r).extract 0 2 = mkB (r.take 2) := ext_list (by rw [extract_upto, mkB_toList, mkB_toList])
          go_wp2_with fail
          have kR4 := (show Blk _ w.heap.size 77 [.int .i64 5, .int .i64 0, .int .i64 (numL (r.drop 3)), .slice (some ⟨Y.heap.size, 0, none⟩) 1 1] from ((((kR3.set 0 (.int .i64 5)).set 1 (.int .i64 0)).set 2 (.int .i64 (numL (r.drop 3)))).set 3 (.slice (some ⟨Y.heap.size, 0, none⟩) 1 1)))
          have EW4 := Lib.hid (Ext.set (Ext.set (Ext.set (Ext.set EW3.out (Nat.le_refl _) 0 (.int .i64 5)) (Nat.le_refl _) 1 (.int .i64 0)) (Nat.le_refl _) 2 (.int .i64 (numL (r.drop 3)))) (Nat.le_refl _) 3 (.slice (some ⟨Y.heap.size, 0, none⟩) 1 1))
          have HO4 := Lib.hid ((((HO.out.set (b := w.heap.size) (by simp [Value.ownBlock]; omega) 0 (.int .i64 5)).set (b := w.heap.size) (by simp [Value.ownBlock]; omega) 1 (.int .i64 0)).set (b := w.heap.size) (by simp [Value.ownBlock]; omega) 2 (.int .i64 (numL (r.drop 3)))).set (b := w.heap.size) (by simp [Value.ownBlock]; omega) 3 (.slice (some ⟨Y.heap.size, 0, none⟩) 1 1))
          clear HO
          clear xB0 xV1 xV2 xV4 xS0 xS1 xS2 xS3 xR0 xR1 xR2 xR3 yB0 yS0 yS1 yS2 yS3 yR0 yR1 yR2 yR3 zR zB zV zS kR3 kB3 kV3 kS3 EW3
          generalize World.setCell _ _ _ = Z at kR4 EW4 HO4
          have xR0 := kR4.c0
          have xR1 := kR4.c1
          have xR2 := kR4.c2
          have xR3 := kR4.c3
          refine bodyPost_ret (v := .agg #[.int .i64 5, .int .i64 0, .int .i64 (numL (r.drop 3)), .slice (some ⟨Y.heap.size, 0, none⟩) 1 1]) (by simp [results, Tryz.results62, go_sem, xR0, xR1, xR2, xR3]) rfl ?_
          have hst : stepP 5 r = ⟨5, 0, (numL (r.drop 3)), [(mkB r).extract 0 2]⟩ := by simp [stepP, HL3.out, ← e2x]
          rw [hst]
          refine ⟨some ⟨Y.heap.size, 0, none⟩, 1, rfl, Nat.le_refl _, ?_, EW4.out⟩
          exact HO4.out
      · have hz3 : ¬ (3 : Int) < ((mkB r).size : Int) := by omega
        go_wp2_with fail
        have kR4 := (show Blk _ w.heap.size 77 [.int .i64 5, .int .i64 0, .int .i64 0, .slice none 0 0] from ((((kR3.set 0 (.int .i64 5)).set 1 (.int .i64 0)).set 2 (.int .i64 0)).set 3 (.slice none 0 0)))
        have EW4 := Lib.hid (Ext.set (Ext.set (Ext.set (Ext.set EW3.out (Nat.le_refl _) 0 (.int .i64 5)) (Nat.le_refl _) 1 (.int .i64 0)) (Nat.le_refl _) 2 (.int .i64 0)) (Nat.le_refl _) 3 (.slice none 0 0))
        clear xB0 xV1 xV2 xV4 xS0 xS1 xS2 xS3 xR0 xR1 xR2 xR3 yB0 yS0 yS1 yS2 yS3 yR0 yR1 yR2 yR3 zR zB zV zS kR3 kB3 kV3 kS3 EW3
        generalize World.setCell _ _ _ = Z at kR4 EW4
        have xR0 := kR4.c0
        have xR1 := kR4.c1
        have xR2 := kR4.c2
        have xR3 := kR4.c3
        refine bodyPost_ret (v := .agg #[.int .i64 5, .int .i64 0, .int .i64 0, .slice none 0 0]) (by simp [results, Tryz.results62, go_sem, xR0, xR1, xR2, xR3]) rfl ?_
        have hst : stepP 5 r = ⟨5, 0, 0, []⟩ := by simp [stepP, hl3]
        rw [hst]
        exact ⟨none, 0, rfl, Nat.le_refl _, Own.none_ _ _, EW4.out⟩

set_option maxRecDepth 100000 in
set_option maxHeartbeats 4000000 in
theorem readStep62_6 (s : ByteArray) (r : List UInt8) (fd : Bool) (hc : cutB 32 s.data.toList = ([83, 65, 77, 69], r, fd)) (w : World) (hg : Gl w) (hs : (s.size : Int) ≤ 100000) :
    Calls Tryz.prog 62 #[.string s] w fun e w' => ∃ T c, e = .returned (.agg #[.int .i64 (stepP 6 r).op, .int .i64 (stepP 6 r).a, .int .i64 (stepP 6 r).b, .slice T (stepP 6 r).texts.length c]) ∧ (stepP 6 r).texts.length ≤ c ∧ Own w' w.heap.size (.slice T (stepP 6 r).texts.length c) (stepP 6 r).texts ∧ Ext w w' := by
  have hrl : r.length ≤ s.size := by have := (cutB_len 32 s.data.toList).2; rw [hc] at this; simpa using this
  have hc92 : ∀ w, Gl w → Calls Tryz.prog 92 #[.string s, .string ⟨#[32]⟩] w fun e w' => e = .returned (.tuple #[.string (mkB [83, 65, 77, 69]), .string (mkB r), .bool fd]) ∧ ∃ n, w' = w.drewN n := fun w hg => by
    have := cut92 s w hg (by omega)
    rwa [hc] at this
  have HG := Lib.hid hg
  clear hc hg
  go_enter Tryz.func62, Tryz.ntmps62
  go_wp2_with fail
  refine (hc92 _ (HG.out.ext (Ext.new w _))).mono ?_
  rintro e w1 ⟨rfl, n, rfl⟩
  go_upto_region 2 with (fail)
  have E0 := Ext.al (Ext.drewN (Ext.new w (.cells #[.int .i64 0, .int .i64 0, .int .i64 0, .slice none 0 0] 77)) n) (.cells #[.string (mkB r)] 9)
  have kR : Blk _ w.heap.size 77 [.int .i64 0, .int .i64 0, .int .i64 0, .slice none 0 0] := ((Blk.new w [.int .i64 0, .int .i64 0, .int .i64 0, .slice none 0 0] 77).drewN n).ext (Ext.new _ (.cells #[.string (mkB r)] 9))
  have kB := Blk.new ((w.alloc (.cells #[.int .i64 0, .int .i64 0, .int .i64 0, .slice none 0 0] 77)).drewN n) [.string (mkB r)] 9
  rw [show ((w.alloc (.cells #[.int .i64 0, .int .i64 0, .int .i64 0, .slice none 0 0] 77)).drewN n).heap.size = w.heap.size + 1 by simp] at kB
  obtain ⟨B, hB⟩ : ∃ B, w.heap.size + 1 = B := ⟨_, rfl⟩
  rw [hB] at kB
  simp only [hB]
  replace hB : w.heap.size < B := by omega
  generalize World.alloc _ _ = W0 at E0 kR kB
  go_wp2_with fail
  go_loopw [6] (fun i wr => ∃ op : Int, 1 ≤ op ∧ op ≤ 6 ∧ i = .int .i64 op ∧ Blk wr w.heap.size 77 [.int .i64 0, .int .i64 0, .int .i64 0, .slice none 0 0] ∧ Blk wr B 9 [.string (mkB r)] ∧ Hid (Ext w wr)) (fun i _ => (14 - intOf i).toNat)
  case atStart => exact ⟨1, by omega, by omega, rfl, kR, kB, Lib.hid E0⟩
  case round =>
    clear E0 kR kB
    obtain ⟨op, h1, h2, rfl, kR, kB, EW⟩ := hrel
    by_cases hlt : op < 6
    · obtain ⟨nm, va, vb, few, all, ok, hv⟩ : ∃ nm va vb few all ok, verbS op = (⟨nm, va, vb, few, all⟩, ok) := ⟨_, _, _, _, _, _, rfl⟩
      have hne : (mkB nm) ≠ (mkB [83, 65, 77, 69]) := fun e => by
        have e2 : nm = [83, 65, 77, 69] := by have := congrArg (fun b => b.data.toList) e; simpa [mkB_toList] using this
        subst e2
        rcases (by omega : op = 1 ∨ op = 2 ∨ op = 3 ∨ op = 4 ∨ op = 5) with rfl | rfl | rfl | rfl | rfl <;> (simp [verbS] at hv)
      have hne2 := str_ne hne
      go_wp2_with fail
      refine (verbs93' op nm va vb few all ok hv _).mono ?_
      rintro e w2 ⟨rfl, he2⟩
      have kR2 := kR.ext he2
      have kB2 := kB.ext he2
      have EW2 := Lib.hid (Ext.trans EW.out he2)
      clear he2 kR kB
      go_wp2_with fail
      go_roundw
      case rel => exact ⟨op + 1, by omega, by omega, rfl, kR2.ext (Ext.new _ _), kB2.ext (Ext.new _ _), Lib.hid (Ext.trans EW2.out (Ext.new _ _))⟩
      case measure => simp [intOf]; omega
    · obtain rfl : op = 6 := by omega
      clear hlt h1 h2
      go_wp2_with fail
      refine (verbs93' 6 [83, 65, 77, 69] 118 112 1 1 true rfl _).mono ?_
      rintro e w2 ⟨rfl, he2⟩
      have kR2 := (kR.ext he2).ext (Ext.new w2 (.cells #[.string (mkB [83, 65, 77, 69]), .int .u8 118, .int .u8 112, .int .i64 1, .int .i64 1] 126))
      have kB2 := (kB.ext he2).ext (Ext.new w2 (.cells #[.string (mkB [83, 65, 77, 69]), .int .u8 118, .int .u8 112, .int .i64 1, .int .i64 1] 126))
      have EW2 := Ext.trans (Ext.trans EW.out he2) (Ext.new w2 (.cells #[.string (mkB [83, 65, 77, 69]), .int .u8 118, .int .u8 112, .int .i64 1, .int .i64 1] 126))
      have kV2 := Blk.new w2 [.string (mkB [83, 65, 77, 69]), .int .u8 118, .int .u8 112, .int .i64 1, .int .i64 1] 126
      have hBV : B < w2.heap.size := (kB.ext he2).lt
      clear he2 kR kB EW
      go_upto_region 7 with (fail)
      obtain ⟨V, hV⟩ : ∃ V, w2.heap.size = V := ⟨_, rfl⟩
      rw [hV] at kV2 hBV
      simp only [hV]
      have hVs : V < (w2.alloc (.cells #[.string (mkB [83, 65, 77, 69]), .int .u8 118, .int .u8 112, .int .i64 1, .int .i64 1] 126)).heap.size := kV2.lt
      generalize World.alloc _ _ = w3 at kR2 kB2 kV2 EW2 hVs
      clear hV
      go_upto_region 9 with (fail)
      have kR3 := kR2.ext (Ext.new w3 (.cells #[.int .i64 6, .int .i64 0, .int .i64 0, .slice none 0 0] 77))
      have kB3 := kB2.ext (Ext.new w3 (.cells #[.int .i64 6, .int .i64 0, .int .i64 0, .slice none 0 0] 77))
      have kV3 := kV2.ext (Ext.new w3 (.cells #[.int .i64 6, .int .i64 0, .int .i64 0, .slice none 0 0] 77))
      have kS3 := Blk.new w3 [.int .i64 6, .int .i64 0, .int .i64 0, .slice none 0 0] 77
      have EW3 := Ext.trans EW2 (Ext.new w3 (.cells #[.int .i64 6, .int .i64 0, .int .i64 0, .slice none 0 0] 77))
      clear kR2 kB2 kV2 EW2
      obtain ⟨S, hS⟩ : ∃ S, w3.heap.size = S := ⟨_, rfl⟩
      rw [hS] at kS3 hVs
      simp only [hS]
      generalize World.alloc _ _ = W at kR3 kB3 kV3 kS3 EW3
      clear hS
      replace EW3 := Lib.hid EW3
      have xB0 := kB3.c0
      have xV1 := kV3.c1
      have xV2 := kV3.c2
      have xV4 := kV3.c4
      have xS0 := kS3.c0
      have xS1 := kS3.c1
      have xS2 := kS3.c2
      have xS3 := kS3.c3
      have xR0 := kR3.c0
      have xR1 := kR3.c1
      have xR2 := kR3.c2
      have xR3 := kR3.c3
      have yB0 := kB3.fz 0
      have yS0 := kS3.fz 0
      have yS1 := kS3.fz 1
      have yS2 := kS3.fz 2
      have yS3 := kS3.fz 3
      have yR0 := kR3.fz 0
      have yR1 := kR3.fz 1
      have yR2 := kR3.fz 2
      have yR3 := kR3.fz 3
      have zR := kR3.lt
      have zB := kB3.lt
      have zV := kV3.lt
      have zS := kS3.lt
      go_wp2_with fail
      have hl1 : ((r).length : Int) ≤ 100000 := by omega
      refine (next94l B r _ (HG.out.ext EW3.out) xB0 yB0 hl1).mono ?_
      rintro e x1 ⟨rfl, n1, rfl⟩
      clear xB0 xV1 xV2 xV4 xS0 xS1 xS2 xS3 xR0 xR1 xR2 xR3 yB0 yS0 yS1 yS2 yS3 yR0 yR1 yR2 yR3 zR zB zV zS
      replace kR3 := (kR3.drewN n1).other (show w.heap.size ≠ B by omega) 0 (.string (mkB (cutB 32 r).2.1))
      replace kB3 := (show Blk _ B 9 [.string (mkB (cutB 32 r).2.1)] from (kB3.drewN n1).set 0 (.string (mkB (cutB 32 r).2.1)))
      replace kV3 := (kV3.drewN n1).other (show V ≠ B by omega) 0 (.string (mkB (cutB 32 r).2.1))
      replace kS3 := (kS3.drewN n1).other (show S ≠ B by omega) 0 (.string (mkB (cutB 32 r).2.1))
      replace EW3 := Lib.hid (Ext.set (Ext.drewN EW3.out n1) (show w.heap.size ≤ B by omega) 0 (.string (mkB (cutB 32 r).2.1)))
      generalize World.setCell _ _ _ = W2 at kR3 kB3 kV3 kS3 EW3
      have xB0 := kB3.c0
      have xV1 := kV3.c1
      have xV2 := kV3.c2
      have xV4 := kV3.c4
      have xS0 := kS3.c0
      have xS1 := kS3.c1
      have xS2 := kS3.c2
      have xS3 := kS3.c3
      have xR0 := kR3.c0
      have xR1 := kR3.c1
      have xR2 := kR3.c2
      have xR3 := kR3.c3
      have yB0 := kB3.fz 0
      have yS0 := kS3.fz 0
      have yS1 := kS3.fz 1
      have yS2 := kS3.fz 2
      have yS3 := kS3.fz 3
      have yR0 := kR3.fz 0
      have yR1 := kR3.fz 1
      have yR2 := kR3.fz 2
      have yR3 := kR3.fz 3
      have zR := kR3.lt
      have zB := kB3.lt
      have zV := kV3.lt
      have zS := kS3.lt
      go_wp2_with fail
      refine (number95l (cutB 32 r).1 _ (HG.out.ext EW3.out) (by have := (cutB_len 32 (r)).1; omega)).mono ?_
      rintro e Y3 ⟨rfl, he3⟩
      clear xB0 xV1 xV2 xV4 xS0 xS1 xS2 xS3 xR0 xR1 xR2 xR3 yB0 yS0 yS1 yS2 yS3 yR0 yR1 yR2 yR3 zR zB zV zS
      replace kR3 := kR3.ext he3
      replace kB3 := kB3.ext he3
      replace kV3 := kV3.ext he3
      replace kS3 := kS3.ext he3
      replace EW3 := Lib.hid (Ext.trans EW3.out he3)
      clear he3
      have xB0 := kB3.c0
      have xV1 := kV3.c1
      have xV2 := kV3.c2
      have xV4 := kV3.c4
      have xS0 := kS3.c0
      have xS1 := kS3.c1
      have xS2 := kS3.c2
      have xS3 := kS3.c3
      have xR0 := kR3.c0
      have xR1 := kR3.c1
      have xR2 := kR3.c2
      have xR3 := kR3.c3
      have yB0 := kB3.fz 0
      have yS0 := kS3.fz 0
      have yS1 := kS3.fz 1
      have yS2 := kS3.fz 2
      have yS3 := kS3.fz 3
      have yR0 := kR3.fz 0
      have yR1 := kR3.fz 1
      have yR2 := kR3.fz 2
      have yR3 := kR3.fz 3
      have zR := kR3.lt
      have zB := kB3.lt
      have zV := kV3.lt
      have zS := kS3.lt
      go_wp2_with fail
      clear xB0 xV1 xV2 xV4 xS0 xS1 xS2 xS3 xR0 xR1 xR2 xR3 yB0 yS0 yS1 yS2 yS3 yR0 yR1 yR2 yR3 zR zB zV zS
      replace kR3 := kR3.other (show w.heap.size ≠ S by omega) 1 (.int .i64 (numL (cutB 32 r).1))
      replace kB3 := kB3.other (show B ≠ S by omega) 1 (.int .i64 (numL (cutB 32 r).1))
      replace kV3 := kV3.other (show V ≠ S by omega) 1 (.int .i64 (numL (cutB 32 r).1))
      replace kS3 := (show Blk _ S 77 [.int .i64 6, .int .i64 (numL (cutB 32 r).1), .int .i64 0, .slice none 0 0] from kS3.set 1 (.int .i64 (numL (cutB 32 r).1)))
      replace EW3 := Lib.hid (Ext.set EW3.out (show w.heap.size ≤ S by omega) 1 (.int .i64 (numL (cutB 32 r).1)))
      generalize World.setCell _ _ _ = W5 at kR3 kB3 kV3 kS3 EW3
      have xB0 := kB3.c0
      have xV1 := kV3.c1
      have xV2 := kV3.c2
      have xV4 := kV3.c4
      have xS0 := kS3.c0
      have xS1 := kS3.c1
      have xS2 := kS3.c2
      have xS3 := kS3.c3
      have xR0 := kR3.c0
      have xR1 := kR3.c1
      have xR2 := kR3.c2
      have xR3 := kR3.c3
      have yB0 := kB3.fz 0
      have yS0 := kS3.fz 0
      have yS1 := kS3.fz 1
      have yS2 := kS3.fz 2
      have yS3 := kS3.fz 3
      have yR0 := kR3.fz 0
      have yR1 := kR3.fz 1
      have yR2 := kR3.fz 2
      have yR3 := kR3.fz 3
      have zR := kR3.lt
      have zB := kB3.lt
      have zV := kV3.lt
      have zS := kS3.lt
      have hl4 : (((cutB 32 r).2.1).length : Int) ≤ 100000 := by have := (cutB_len 32 (r)).2; omega
      refine (next94l B (cutB 32 r).2.1 _ (HG.out.ext EW3.out) xB0 yB0 hl4).mono ?_
      rintro e x4 ⟨rfl, n4, rfl⟩
      clear xB0 xV1 xV2 xV4 xS0 xS1 xS2 xS3 xR0 xR1 xR2 xR3 yB0 yS0 yS1 yS2 yS3 yR0 yR1 yR2 yR3 zR zB zV zS
      replace kR3 := (kR3.drewN n4).other (show w.heap.size ≠ B by omega) 0 (.string (mkB (cutB 32 (cutB 32 r).2.1).2.1))
      replace kB3 := (show Blk _ B 9 [.string (mkB (cutB 32 (cutB 32 r).2.1).2.1)] from (kB3.drewN n4).set 0 (.string (mkB (cutB 32 (cutB 32 r).2.1).2.1)))
      replace kV3 := (kV3.drewN n4).other (show V ≠ B by omega) 0 (.string (mkB (cutB 32 (cutB 32 r).2.1).2.1))
      replace kS3 := (kS3.drewN n4).other (show S ≠ B by omega) 0 (.string (mkB (cutB 32 (cutB 32 r).2.1).2.1))
      replace EW3 := Lib.hid (Ext.set (Ext.drewN EW3.out n4) (show w.heap.size ≤ B by omega) 0 (.string (mkB (cutB 32 (cutB 32 r).2.1).2.1)))
      generalize World.setCell _ _ _ = W6 at kR3 kB3 kV3 kS3 EW3
      have xB0 := kB3.c0
      have xV1 := kV3.c1
      have xV2 := kV3.c2
      have xV4 := kV3.c4
      have xS0 := kS3.c0
      have xS1 := kS3.c1
      have xS2 := kS3.c2
      have xS3 := kS3.c3
      have xR0 := kR3.c0
      have xR1 := kR3.c1
      have xR2 := kR3.c2
      have xR3 := kR3.c3
      have yB0 := kB3.fz 0
      have yS0 := kS3.fz 0
      have yS1 := kS3.fz 1
      have yS2 := kS3.fz 2
      have yS3 := kS3.fz 3
      have yR0 := kR3.fz 0
      have yR1 := kR3.fz 1
      have yR2 := kR3.fz 2
      have yR3 := kR3.fz 3
      have zR := kR3.lt
      have zB := kB3.lt
      have zV := kV3.lt
      have zS := kS3.lt
      go_wp2_with fail
      refine (number95l (cutB 32 (cutB 32 r).2.1).1 _ (HG.out.ext EW3.out) (by have := (cutB_len 32 ((cutB 32 r).2.1)).1; omega)).mono ?_
      rintro e Y7 ⟨rfl, he7⟩
      clear xB0 xV1 xV2 xV4 xS0 xS1 xS2 xS3 xR0 xR1 xR2 xR3 yB0 yS0 yS1 yS2 yS3 yR0 yR1 yR2 yR3 zR zB zV zS
      replace kR3 := kR3.ext he7
      replace kB3 := kB3.ext he7
      replace kV3 := kV3.ext he7
      replace kS3 := kS3.ext he7
      replace EW3 := Lib.hid (Ext.trans EW3.out he7)
      clear he7
      have xB0 := kB3.c0
      have xV1 := kV3.c1
      have xV2 := kV3.c2
      have xV4 := kV3.c4
      have xS0 := kS3.c0
      have xS1 := kS3.c1
      have xS2 := kS3.c2
      have xS3 := kS3.c3
      have xR0 := kR3.c0
      have xR1 := kR3.c1
      have xR2 := kR3.c2
      have xR3 := kR3.c3
      have yB0 := kB3.fz 0
      have yS0 := kS3.fz 0
      have yS1 := kS3.fz 1
      have yS2 := kS3.fz 2
      have yS3 := kS3.fz 3
      have yR0 := kR3.fz 0
      have yR1 := kR3.fz 1
      have yR2 := kR3.fz 2
      have yR3 := kR3.fz 3
      have zR := kR3.lt
      have zB := kB3.lt
      have zV := kV3.lt
      have zS := kS3.lt
      go_upto_region 28 with (fail)
      clear xB0 xV1 xV2 xV4 xS0 xS1 xS2 xS3 xR0 xR1 xR2 xR3 yB0 yS0 yS1 yS2 yS3 yR0 yR1 yR2 yR3 zR zB zV zS
      replace kR3 := kR3.other (show w.heap.size ≠ S by omega) 2 (.int .i64 (numL (cutB 32 (cutB 32 r).2.1).1))
      replace kB3 := kB3.other (show B ≠ S by omega) 2 (.int .i64 (numL (cutB 32 (cutB 32 r).2.1).1))
      replace kV3 := kV3.other (show V ≠ S by omega) 2 (.int .i64 (numL (cutB 32 (cutB 32 r).2.1).1))
      replace kS3 := (show Blk _ S 77 [.int .i64 6, .int .i64 (numL (cutB 32 r).1), .int .i64 (numL (cutB 32 (cutB 32 r).2.1).1), .slice none 0 0] from kS3.set 2 (.int .i64 (numL (cutB 32 (cutB 32 r).2.1).1)))
      replace EW3 := Lib.hid (Ext.set EW3.out (show w.heap.size ≤ S by omega) 2 (.int .i64 (numL (cutB 32 (cutB 32 r).2.1).1)))
      generalize World.setCell _ _ _ = W8 at kR3 kB3 kV3 kS3 EW3
      have xB0 := kB3.c0
      have xV1 := kV3.c1
      have xV2 := kV3.c2
      have xV4 := kV3.c4
      have xS0 := kS3.c0
      have xS1 := kS3.c1
      have xS2 := kS3.c2
      have xS3 := kS3.c3
      have xR0 := kR3.c0
      have xR1 := kR3.c1
      have xR2 := kR3.c2
      have xR3 := kR3.c3
      have yB0 := kB3.fz 0
      have yS0 := kS3.fz 0
      have yS1 := kS3.fz 1
      have yS2 := kS3.fz 2
      have yS3 := kS3.fz 3
      have yR0 := kR3.fz 0
      have yR1 := kR3.fz 1
      have yR2 := kR3.fz 2
      have yR3 := kR3.fz 3
      have zR := kR3.lt
      have zB := kB3.lt
      have zV := kV3.lt
      have zS := kS3.lt
      have hg0 : S < W8.heap.size := zS
      go_upto_region 29 with (fail)
      clear xB0 xV1 xV2 xV4 xS0 xS1 xS2 xS3 xR0 xR1 xR2 xR3 yB0 yS0 yS1 yS2 yS3 yR0 yR1 yR2 yR3 zR zB zV zS
      replace kR3 := kR3.other (show w.heap.size ≠ S by omega) 3 (.slice (some ⟨W8.heap.size, 0, none⟩) 1 1)
      replace kB3 := kB3.other (show B ≠ S by omega) 3 (.slice (some ⟨W8.heap.size, 0, none⟩) 1 1)
      replace kV3 := kV3.other (show V ≠ S by omega) 3 (.slice (some ⟨W8.heap.size, 0, none⟩) 1 1)
      replace kS3 := (show Blk _ S 77 [.int .i64 6, .int .i64 (numL (cutB 32 r).1), .int .i64 (numL (cutB 32 (cutB 32 r).2.1).1), .slice (some ⟨W8.heap.size, 0, none⟩) 1 1] from kS3.set 3 (.slice (some ⟨W8.heap.size, 0, none⟩) 1 1))
      replace EW3 := Lib.hid (Ext.set EW3.out (show w.heap.size ≤ S by omega) 3 (.slice (some ⟨W8.heap.size, 0, none⟩) 1 1))
      have hg : S < W8.heap.size := hg0
      have HO : Own (World.alloc (W8.setCell ⟨S, 3, none⟩ (.slice (some ⟨W8.heap.size, 0, none⟩) 1 1)) (.cells #[.string (mkB (cutB 32 (cutB 32 r).2.1).2.1)] 9)) (World.heap (W8.setCell ⟨S, 3, none⟩ (.slice (some ⟨W8.heap.size, 0, none⟩) 1 1))).size (.slice (some ⟨(World.heap (W8.setCell ⟨S, 3, none⟩ (.slice (some ⟨W8.heap.size, 0, none⟩) 1 1))).size, 0, none⟩) 1 1) [mkB (cutB 32 (cutB 32 r).2.1).2.1] := Own.fresh (W8.setCell ⟨S, 3, none⟩ (.slice (some ⟨W8.heap.size, 0, none⟩) 1 1)) [mkB (cutB 32 (cutB 32 r).2.1).2.1] (by simp) (by simp)
      rw [Blk.size_set] at HO
      replace HO := Lib.hid (HO.base (b := w.heap.size) (by omega))
      replace kR3 := kR3.ext (Ext.new _ (.cells #[.string (mkB (cutB 32 (cutB 32 r).2.1).2.1)] 9))
      replace kB3 := kB3.ext (Ext.new _ (.cells #[.string (mkB (cutB 32 (cutB 32 r).2.1).2.1)] 9))
      replace kV3 := kV3.ext (Ext.new _ (.cells #[.string (mkB (cutB 32 (cutB 32 r).2.1).2.1)] 9))
      replace kS3 := kS3.ext (Ext.new _ (.cells #[.string (mkB (cutB 32 (cutB 32 r).2.1).2.1)] 9))
      replace EW3 := Lib.hid (Ext.trans EW3.out (Ext.new _ (.cells #[.string (mkB (cutB 32 (cutB 32 r).2.1).2.1)] 9)))
      generalize World.alloc _ _ = W9 at kR3 kB3 kV3 kS3 EW3 HO
      have xB0 := kB3.c0
      have xV1 := kV3.c1
      have xV2 := kV3.c2
      have xV4 := kV3.c4
      have xS0 := kS3.c0
      have xS1 := kS3.c1
      have xS2 := kS3.c2
      have xS3 := kS3.c3
      have xR0 := kR3.c0
      have xR1 := kR3.c1
      have xR2 := kR3.c2
      have xR3 := kR3.c3
      have yB0 := kB3.fz 0
      have yS0 := kS3.fz 0
      have yS1 := kS3.fz 1
      have yS2 := kS3.fz 2
      have yS3 := kS3.fz 3
      have yR0 := kR3.fz 0
      have yR1 := kR3.fz 1
      have yR2 := kR3.fz 2
      have yR3 := kR3.fz 3
      have zR := kR3.lt
      have zB := kB3.lt
      have zV := kV3.lt
      have zS := kS3.lt
      go_wp2_with fail
      have kR4 := (show Blk _ w.heap.size 77 [.int .i64 6, .int .i64 (numL (cutB 32 r).1), .int .i64 (numL (cutB 32 (cutB 32 r).2.1).1), .slice (some ⟨W8.heap.size, 0, none⟩) 1 1] from ((((kR3.set 0 (.int .i64 6)).set 1 (.int .i64 (numL (cutB 32 r).1))).set 2 (.int .i64 (numL (cutB 32 (cutB 32 r).2.1).1))).set 3 (.slice (some ⟨W8.heap.size, 0, none⟩) 1 1)))
      have EW4 := Lib.hid (Ext.set (Ext.set (Ext.set (Ext.set EW3.out (Nat.le_refl _) 0 (.int .i64 6)) (Nat.le_refl _) 1 (.int .i64 (numL (cutB 32 r).1))) (Nat.le_refl _) 2 (.int .i64 (numL (cutB 32 (cutB 32 r).2.1).1))) (Nat.le_refl _) 3 (.slice (some ⟨W8.heap.size, 0, none⟩) 1 1))
      have HO4 := Lib.hid ((((HO.out.set (b := w.heap.size) (by simp [Value.ownBlock]; omega) 0 (.int .i64 6)).set (b := w.heap.size) (by simp [Value.ownBlock]; omega) 1 (.int .i64 (numL (cutB 32 r).1))).set (b := w.heap.size) (by simp [Value.ownBlock]; omega) 2 (.int .i64 (numL (cutB 32 (cutB 32 r).2.1).1))).set (b := w.heap.size) (by simp [Value.ownBlock]; omega) 3 (.slice (some ⟨W8.heap.size, 0, none⟩) 1 1))
      clear HO
      clear xB0 xV1 xV2 xV4 xS0 xS1 xS2 xS3 xR0 xR1 xR2 xR3 yB0 yS0 yS1 yS2 yS3 yR0 yR1 yR2 yR3 zR zB zV zS kR3 kB3 kV3 kS3 EW3
      generalize World.setCell _ _ _ = Z at kR4 EW4 HO4
      have xR0 := kR4.c0
      have xR1 := kR4.c1
      have xR2 := kR4.c2
      have xR3 := kR4.c3
      refine bodyPost_ret (v := .agg #[.int .i64 6, .int .i64 (numL (cutB 32 r).1), .int .i64 (numL (cutB 32 (cutB 32 r).2.1).1), .slice (some ⟨W8.heap.size, 0, none⟩) 1 1]) (by simp [results, Tryz.results62, go_sem, xR0, xR1, xR2, xR3]) rfl ?_
      have hst : stepP 6 r = ⟨6, (numL (cutB 32 r).1), (numL (cutB 32 (cutB 32 r).2.1).1), [mkB (cutB 32 (cutB 32 r).2.1).2.1]⟩ := by simp [stepP, verbS]
      rw [hst]
      refine ⟨some ⟨W8.heap.size, 0, none⟩, 1, rfl, Nat.le_refl _, ?_, EW4.out⟩
      exact HO4.out

set_option maxRecDepth 100000 in
set_option maxHeartbeats 4000000 in
theorem readStep62_7 (s : ByteArray) (r : List UInt8) (fd : Bool) (hc : cutB 32 s.data.toList = ([71, 79], r, fd)) (w : World) (hg : Gl w) (hs : (s.size : Int) ≤ 100000) :
    Calls Tryz.prog 62 #[.string s] w fun e w' => ∃ T c, e = .returned (.agg #[.int .i64 (stepP 7 r).op, .int .i64 (stepP 7 r).a, .int .i64 (stepP 7 r).b, .slice T (stepP 7 r).texts.length c]) ∧ (stepP 7 r).texts.length ≤ c ∧ Own w' w.heap.size (.slice T (stepP 7 r).texts.length c) (stepP 7 r).texts ∧ Ext w w' := by
  have hrl : r.length ≤ s.size := by have := (cutB_len 32 s.data.toList).2; rw [hc] at this; simpa using this
  have hc92 : ∀ w, Gl w → Calls Tryz.prog 92 #[.string s, .string ⟨#[32]⟩] w fun e w' => e = .returned (.tuple #[.string (mkB [71, 79]), .string (mkB r), .bool fd]) ∧ ∃ n, w' = w.drewN n := fun w hg => by
    have := cut92 s w hg (by omega)
    rwa [hc] at this
  have HG := Lib.hid hg
  clear hc hg
  go_enter Tryz.func62, Tryz.ntmps62
  go_wp2_with fail
  refine (hc92 _ (HG.out.ext (Ext.new w _))).mono ?_
  rintro e w1 ⟨rfl, n, rfl⟩
  go_upto_region 2 with (fail)
  have E0 := Ext.al (Ext.drewN (Ext.new w (.cells #[.int .i64 0, .int .i64 0, .int .i64 0, .slice none 0 0] 77)) n) (.cells #[.string (mkB r)] 9)
  have kR : Blk _ w.heap.size 77 [.int .i64 0, .int .i64 0, .int .i64 0, .slice none 0 0] := ((Blk.new w [.int .i64 0, .int .i64 0, .int .i64 0, .slice none 0 0] 77).drewN n).ext (Ext.new _ (.cells #[.string (mkB r)] 9))
  have kB := Blk.new ((w.alloc (.cells #[.int .i64 0, .int .i64 0, .int .i64 0, .slice none 0 0] 77)).drewN n) [.string (mkB r)] 9
  rw [show ((w.alloc (.cells #[.int .i64 0, .int .i64 0, .int .i64 0, .slice none 0 0] 77)).drewN n).heap.size = w.heap.size + 1 by simp] at kB
  obtain ⟨B, hB⟩ : ∃ B, w.heap.size + 1 = B := ⟨_, rfl⟩
  rw [hB] at kB
  simp only [hB]
  replace hB : w.heap.size < B := by omega
  generalize World.alloc _ _ = W0 at E0 kR kB
  go_wp2_with fail
  go_loopw [6] (fun i wr => ∃ op : Int, 1 ≤ op ∧ op ≤ 7 ∧ i = .int .i64 op ∧ Blk wr w.heap.size 77 [.int .i64 0, .int .i64 0, .int .i64 0, .slice none 0 0] ∧ Blk wr B 9 [.string (mkB r)] ∧ Hid (Ext w wr)) (fun i _ => (14 - intOf i).toNat)
  case atStart => exact ⟨1, by omega, by omega, rfl, kR, kB, Lib.hid E0⟩
  case round =>
    clear E0 kR kB
    obtain ⟨op, h1, h2, rfl, kR, kB, EW⟩ := hrel
    by_cases hlt : op < 7
    · obtain ⟨nm, va, vb, few, all, ok, hv⟩ : ∃ nm va vb few all ok, verbS op = (⟨nm, va, vb, few, all⟩, ok) := ⟨_, _, _, _, _, _, rfl⟩
      have hne : (mkB nm) ≠ (mkB [71, 79]) := fun e => by
        have e2 : nm = [71, 79] := by have := congrArg (fun b => b.data.toList) e; simpa [mkB_toList] using this
        subst e2
        rcases (by omega : op = 1 ∨ op = 2 ∨ op = 3 ∨ op = 4 ∨ op = 5 ∨ op = 6) with rfl | rfl | rfl | rfl | rfl | rfl <;> (simp [verbS] at hv)
      have hne2 := str_ne hne
      go_wp2_with fail
      refine (verbs93' op nm va vb few all ok hv _).mono ?_
      rintro e w2 ⟨rfl, he2⟩
      have kR2 := kR.ext he2
      have kB2 := kB.ext he2
      have EW2 := Lib.hid (Ext.trans EW.out he2)
      clear he2 kR kB
      go_wp2_with fail
      go_roundw
      case rel => exact ⟨op + 1, by omega, by omega, rfl, kR2.ext (Ext.new _ _), kB2.ext (Ext.new _ _), Lib.hid (Ext.trans EW2.out (Ext.new _ _))⟩
      case measure => simp [intOf]; omega
    · obtain rfl : op = 7 := by omega
      clear hlt h1 h2
      go_wp2_with fail
      refine (verbs93' 7 [71, 79] 0 112 0 0 true rfl _).mono ?_
      rintro e w2 ⟨rfl, he2⟩
      have kR2 := (kR.ext he2).ext (Ext.new w2 (.cells #[.string (mkB [71, 79]), .int .u8 0, .int .u8 112, .int .i64 0, .int .i64 0] 126))
      have kB2 := (kB.ext he2).ext (Ext.new w2 (.cells #[.string (mkB [71, 79]), .int .u8 0, .int .u8 112, .int .i64 0, .int .i64 0] 126))
      have EW2 := Ext.trans (Ext.trans EW.out he2) (Ext.new w2 (.cells #[.string (mkB [71, 79]), .int .u8 0, .int .u8 112, .int .i64 0, .int .i64 0] 126))
      have kV2 := Blk.new w2 [.string (mkB [71, 79]), .int .u8 0, .int .u8 112, .int .i64 0, .int .i64 0] 126
      have hBV : B < w2.heap.size := (kB.ext he2).lt
      clear he2 kR kB EW
      go_upto_region 7 with (fail)
      obtain ⟨V, hV⟩ : ∃ V, w2.heap.size = V := ⟨_, rfl⟩
      rw [hV] at kV2 hBV
      simp only [hV]
      have hVs : V < (w2.alloc (.cells #[.string (mkB [71, 79]), .int .u8 0, .int .u8 112, .int .i64 0, .int .i64 0] 126)).heap.size := kV2.lt
      generalize World.alloc _ _ = w3 at kR2 kB2 kV2 EW2 hVs
      clear hV
      go_upto_region 9 with (fail)
      have kR3 := kR2.ext (Ext.new w3 (.cells #[.int .i64 7, .int .i64 0, .int .i64 0, .slice none 0 0] 77))
      have kB3 := kB2.ext (Ext.new w3 (.cells #[.int .i64 7, .int .i64 0, .int .i64 0, .slice none 0 0] 77))
      have kV3 := kV2.ext (Ext.new w3 (.cells #[.int .i64 7, .int .i64 0, .int .i64 0, .slice none 0 0] 77))
      have kS3 := Blk.new w3 [.int .i64 7, .int .i64 0, .int .i64 0, .slice none 0 0] 77
      have EW3 := Ext.trans EW2 (Ext.new w3 (.cells #[.int .i64 7, .int .i64 0, .int .i64 0, .slice none 0 0] 77))
      clear kR2 kB2 kV2 EW2
      obtain ⟨S, hS⟩ : ∃ S, w3.heap.size = S := ⟨_, rfl⟩
      rw [hS] at kS3 hVs
      simp only [hS]
      generalize World.alloc _ _ = W at kR3 kB3 kV3 kS3 EW3
      clear hS
      replace EW3 := Lib.hid EW3
      have xB0 := kB3.c0
      have xV1 := kV3.c1
      have xV2 := kV3.c2
      have xV4 := kV3.c4
      have xS0 := kS3.c0
      have xS1 := kS3.c1
      have xS2 := kS3.c2
      have xS3 := kS3.c3
      have xR0 := kR3.c0
      have xR1 := kR3.c1
      have xR2 := kR3.c2
      have xR3 := kR3.c3
      have yB0 := kB3.fz 0
      have yS0 := kS3.fz 0
      have yS1 := kS3.fz 1
      have yS2 := kS3.fz 2
      have yS3 := kS3.fz 3
      have yR0 := kR3.fz 0
      have yR1 := kR3.fz 1
      have yR2 := kR3.fz 2
      have yR3 := kR3.fz 3
      have zR := kR3.lt
      have zB := kB3.lt
      have zV := kV3.lt
      have zS := kS3.lt
      go_wp2_with fail
      have hl1 : ((r).length : Int) ≤ 100000 := by omega
      refine (next94l B r _ (HG.out.ext EW3.out) xB0 yB0 hl1).mono ?_
      rintro e x1 ⟨rfl, n1, rfl⟩
      clear xB0 xV1 xV2 xV4 xS0 xS1 xS2 xS3 xR0 xR1 xR2 xR3 yB0 yS0 yS1 yS2 yS3 yR0 yR1 yR2 yR3 zR zB zV zS
      replace kR3 := (kR3.drewN n1).other (show w.heap.size ≠ B by omega) 0 (.string (mkB (cutB 32 r).2.1))
      replace kB3 := (show Blk _ B 9 [.string (mkB (cutB 32 r).2.1)] from (kB3.drewN n1).set 0 (.string (mkB (cutB 32 r).2.1)))
      replace kV3 := (kV3.drewN n1).other (show V ≠ B by omega) 0 (.string (mkB (cutB 32 r).2.1))
      replace kS3 := (kS3.drewN n1).other (show S ≠ B by omega) 0 (.string (mkB (cutB 32 r).2.1))
      replace EW3 := Lib.hid (Ext.set (Ext.drewN EW3.out n1) (show w.heap.size ≤ B by omega) 0 (.string (mkB (cutB 32 r).2.1)))
      generalize World.setCell _ _ _ = W2 at kR3 kB3 kV3 kS3 EW3
      have xB0 := kB3.c0
      have xV1 := kV3.c1
      have xV2 := kV3.c2
      have xV4 := kV3.c4
      have xS0 := kS3.c0
      have xS1 := kS3.c1
      have xS2 := kS3.c2
      have xS3 := kS3.c3
      have xR0 := kR3.c0
      have xR1 := kR3.c1
      have xR2 := kR3.c2
      have xR3 := kR3.c3
      have yB0 := kB3.fz 0
      have yS0 := kS3.fz 0
      have yS1 := kS3.fz 1
      have yS2 := kS3.fz 2
      have yS3 := kS3.fz 3
      have yR0 := kR3.fz 0
      have yR1 := kR3.fz 1
      have yR2 := kR3.fz 2
      have yR3 := kR3.fz 3
      have zR := kR3.lt
      have zB := kB3.lt
      have zV := kV3.lt
      have zS := kS3.lt
      go_wp2_with fail
      refine (number95l (cutB 32 r).1 _ (HG.out.ext EW3.out) (by have := (cutB_len 32 (r)).1; omega)).mono ?_
      rintro e Y3 ⟨rfl, he3⟩
      clear xB0 xV1 xV2 xV4 xS0 xS1 xS2 xS3 xR0 xR1 xR2 xR3 yB0 yS0 yS1 yS2 yS3 yR0 yR1 yR2 yR3 zR zB zV zS
      replace kR3 := kR3.ext he3
      replace kB3 := kB3.ext he3
      replace kV3 := kV3.ext he3
      replace kS3 := kS3.ext he3
      replace EW3 := Lib.hid (Ext.trans EW3.out he3)
      clear he3
      have xB0 := kB3.c0
      have xV1 := kV3.c1
      have xV2 := kV3.c2
      have xV4 := kV3.c4
      have xS0 := kS3.c0
      have xS1 := kS3.c1
      have xS2 := kS3.c2
      have xS3 := kS3.c3
      have xR0 := kR3.c0
      have xR1 := kR3.c1
      have xR2 := kR3.c2
      have xR3 := kR3.c3
      have yB0 := kB3.fz 0
      have yS0 := kS3.fz 0
      have yS1 := kS3.fz 1
      have yS2 := kS3.fz 2
      have yS3 := kS3.fz 3
      have yR0 := kR3.fz 0
      have yR1 := kR3.fz 1
      have yR2 := kR3.fz 2
      have yR3 := kR3.fz 3
      have zR := kR3.lt
      have zB := kB3.lt
      have zV := kV3.lt
      have zS := kS3.lt
      go_wp2_with fail
      have kR4 := (show Blk _ w.heap.size 77 [.int .i64 7, .int .i64 0, .int .i64 (numL (cutB 32 r).1), .slice none 0 0] from (((((kR3.other (show w.heap.size ≠ S by omega) 2 (.int .i64 (numL (cutB 32 r).1))).set 0 (.int .i64 7)).set 1 (.int .i64 0)).set 2 (.int .i64 (numL (cutB 32 r).1))).set 3 (.slice none 0 0)))
      have EW4 := Lib.hid (Ext.set (Ext.set (Ext.set (Ext.set (Ext.set EW3.out (show w.heap.size ≤ S by omega) 2 (.int .i64 (numL (cutB 32 r).1))) (Nat.le_refl _) 0 (.int .i64 7)) (Nat.le_refl _) 1 (.int .i64 0)) (Nat.le_refl _) 2 (.int .i64 (numL (cutB 32 r).1))) (Nat.le_refl _) 3 (.slice none 0 0))
      clear xB0 xV1 xV2 xV4 xS0 xS1 xS2 xS3 xR0 xR1 xR2 xR3 yB0 yS0 yS1 yS2 yS3 yR0 yR1 yR2 yR3 zR zB zV zS kR3 kB3 kV3 kS3 EW3
      generalize World.setCell _ _ _ = Z at kR4 EW4
      have xR0 := kR4.c0
      have xR1 := kR4.c1
      have xR2 := kR4.c2
      have xR3 := kR4.c3
      refine bodyPost_ret (v := .agg #[.int .i64 7, .int .i64 0, .int .i64 (numL (cutB 32 r).1), .slice none 0 0]) (by simp [results, Tryz.results62, go_sem, xR0, xR1, xR2, xR3]) rfl ?_
      have hst : stepP 7 r = ⟨7, 0, (numL (cutB 32 r).1), []⟩ := by simp [stepP, verbS]
      rw [hst]
      exact ⟨none, 0, rfl, Nat.le_refl _, Own.none_ _ _, EW4.out⟩

set_option maxRecDepth 100000 in
set_option maxHeartbeats 4000000 in
theorem readStep62_8 (s : ByteArray) (r : List UInt8) (fd : Bool) (hc : cutB 32 s.data.toList = ([83, 69, 78, 68], r, fd)) (w : World) (hg : Gl w) (hs : (s.size : Int) ≤ 100000) :
    Calls Tryz.prog 62 #[.string s] w fun e w' => ∃ T c, e = .returned (.agg #[.int .i64 (stepP 8 r).op, .int .i64 (stepP 8 r).a, .int .i64 (stepP 8 r).b, .slice T (stepP 8 r).texts.length c]) ∧ (stepP 8 r).texts.length ≤ c ∧ Own w' w.heap.size (.slice T (stepP 8 r).texts.length c) (stepP 8 r).texts ∧ Ext w w' := by
  have hrl : r.length ≤ s.size := by have := (cutB_len 32 s.data.toList).2; rw [hc] at this; simpa using this
  have hc92 : ∀ w, Gl w → Calls Tryz.prog 92 #[.string s, .string ⟨#[32]⟩] w fun e w' => e = .returned (.tuple #[.string (mkB [83, 69, 78, 68]), .string (mkB r), .bool fd]) ∧ ∃ n, w' = w.drewN n := fun w hg => by
    have := cut92 s w hg (by omega)
    rwa [hc] at this
  have HG := Lib.hid hg
  clear hc hg
  go_enter Tryz.func62, Tryz.ntmps62
  go_wp2_with fail
  refine (hc92 _ (HG.out.ext (Ext.new w _))).mono ?_
  rintro e w1 ⟨rfl, n, rfl⟩
  go_upto_region 2 with (fail)
  have E0 := Ext.al (Ext.drewN (Ext.new w (.cells #[.int .i64 0, .int .i64 0, .int .i64 0, .slice none 0 0] 77)) n) (.cells #[.string (mkB r)] 9)
  have kR : Blk _ w.heap.size 77 [.int .i64 0, .int .i64 0, .int .i64 0, .slice none 0 0] := ((Blk.new w [.int .i64 0, .int .i64 0, .int .i64 0, .slice none 0 0] 77).drewN n).ext (Ext.new _ (.cells #[.string (mkB r)] 9))
  have kB := Blk.new ((w.alloc (.cells #[.int .i64 0, .int .i64 0, .int .i64 0, .slice none 0 0] 77)).drewN n) [.string (mkB r)] 9
  rw [show ((w.alloc (.cells #[.int .i64 0, .int .i64 0, .int .i64 0, .slice none 0 0] 77)).drewN n).heap.size = w.heap.size + 1 by simp] at kB
  obtain ⟨B, hB⟩ : ∃ B, w.heap.size + 1 = B := ⟨_, rfl⟩
  rw [hB] at kB
  simp only [hB]
  replace hB : w.heap.size < B := by omega
  generalize World.alloc _ _ = W0 at E0 kR kB
  go_wp2_with fail
  go_loopw [6] (fun i wr => ∃ op : Int, 1 ≤ op ∧ op ≤ 8 ∧ i = .int .i64 op ∧ Blk wr w.heap.size 77 [.int .i64 0, .int .i64 0, .int .i64 0, .slice none 0 0] ∧ Blk wr B 9 [.string (mkB r)] ∧ Hid (Ext w wr)) (fun i _ => (14 - intOf i).toNat)
  case atStart => exact ⟨1, by omega, by omega, rfl, kR, kB, Lib.hid E0⟩
  case round =>
    clear E0 kR kB
    obtain ⟨op, h1, h2, rfl, kR, kB, EW⟩ := hrel
    by_cases hlt : op < 8
    · obtain ⟨nm, va, vb, few, all, ok, hv⟩ : ∃ nm va vb few all ok, verbS op = (⟨nm, va, vb, few, all⟩, ok) := ⟨_, _, _, _, _, _, rfl⟩
      have hne : (mkB nm) ≠ (mkB [83, 69, 78, 68]) := fun e => by
        have e2 : nm = [83, 69, 78, 68] := by have := congrArg (fun b => b.data.toList) e; simpa [mkB_toList] using this
        subst e2
        rcases (by omega : op = 1 ∨ op = 2 ∨ op = 3 ∨ op = 4 ∨ op = 5 ∨ op = 6 ∨ op = 7) with rfl | rfl | rfl | rfl | rfl | rfl | rfl <;> (simp [verbS] at hv)
      have hne2 := str_ne hne
      go_wp2_with fail
      refine (verbs93' op nm va vb few all ok hv _).mono ?_
      rintro e w2 ⟨rfl, he2⟩
      have kR2 := kR.ext he2
      have kB2 := kB.ext he2
      have EW2 := Lib.hid (Ext.trans EW.out he2)
      clear he2 kR kB
      go_wp2_with fail
      go_roundw
      case rel => exact ⟨op + 1, by omega, by omega, rfl, kR2.ext (Ext.new _ _), kB2.ext (Ext.new _ _), Lib.hid (Ext.trans EW2.out (Ext.new _ _))⟩
      case measure => simp [intOf]; omega
    · obtain rfl : op = 8 := by omega
      clear hlt h1 h2
      go_wp2_with fail
      refine (verbs93' 8 [83, 69, 78, 68] 0 0 1 1 true rfl _).mono ?_
      rintro e w2 ⟨rfl, he2⟩
      have kR2 := (kR.ext he2).ext (Ext.new w2 (.cells #[.string (mkB [83, 69, 78, 68]), .int .u8 0, .int .u8 0, .int .i64 1, .int .i64 1] 126))
      have kB2 := (kB.ext he2).ext (Ext.new w2 (.cells #[.string (mkB [83, 69, 78, 68]), .int .u8 0, .int .u8 0, .int .i64 1, .int .i64 1] 126))
      have EW2 := Ext.trans (Ext.trans EW.out he2) (Ext.new w2 (.cells #[.string (mkB [83, 69, 78, 68]), .int .u8 0, .int .u8 0, .int .i64 1, .int .i64 1] 126))
      have kV2 := Blk.new w2 [.string (mkB [83, 69, 78, 68]), .int .u8 0, .int .u8 0, .int .i64 1, .int .i64 1] 126
      have hBV : B < w2.heap.size := (kB.ext he2).lt
      clear he2 kR kB EW
      go_upto_region 7 with (fail)
      obtain ⟨V, hV⟩ : ∃ V, w2.heap.size = V := ⟨_, rfl⟩
      rw [hV] at kV2 hBV
      simp only [hV]
      have hVs : V < (w2.alloc (.cells #[.string (mkB [83, 69, 78, 68]), .int .u8 0, .int .u8 0, .int .i64 1, .int .i64 1] 126)).heap.size := kV2.lt
      generalize World.alloc _ _ = w3 at kR2 kB2 kV2 EW2 hVs
      clear hV
      go_upto_region 9 with (fail)
      have kR3 := kR2.ext (Ext.new w3 (.cells #[.int .i64 8, .int .i64 0, .int .i64 0, .slice none 0 0] 77))
      have kB3 := kB2.ext (Ext.new w3 (.cells #[.int .i64 8, .int .i64 0, .int .i64 0, .slice none 0 0] 77))
      have kV3 := kV2.ext (Ext.new w3 (.cells #[.int .i64 8, .int .i64 0, .int .i64 0, .slice none 0 0] 77))
      have kS3 := Blk.new w3 [.int .i64 8, .int .i64 0, .int .i64 0, .slice none 0 0] 77
      have EW3 := Ext.trans EW2 (Ext.new w3 (.cells #[.int .i64 8, .int .i64 0, .int .i64 0, .slice none 0 0] 77))
      clear kR2 kB2 kV2 EW2
      obtain ⟨S, hS⟩ : ∃ S, w3.heap.size = S := ⟨_, rfl⟩
      rw [hS] at kS3 hVs
      simp only [hS]
      generalize World.alloc _ _ = W at kR3 kB3 kV3 kS3 EW3
      clear hS
      replace EW3 := Lib.hid EW3
      have xB0 := kB3.c0
      have xV1 := kV3.c1
      have xV2 := kV3.c2
      have xV4 := kV3.c4
      have xS0 := kS3.c0
      have xS1 := kS3.c1
      have xS2 := kS3.c2
      have xS3 := kS3.c3
      have xR0 := kR3.c0
      have xR1 := kR3.c1
      have xR2 := kR3.c2
      have xR3 := kR3.c3
      have yB0 := kB3.fz 0
      have yS0 := kS3.fz 0
      have yS1 := kS3.fz 1
      have yS2 := kS3.fz 2
      have yS3 := kS3.fz 3
      have yR0 := kR3.fz 0
      have yR1 := kR3.fz 1
      have yR2 := kR3.fz 2
      have yR3 := kR3.fz 3
      have zR := kR3.lt
      have zB := kB3.lt
      have zV := kV3.lt
      have zS := kS3.lt
      go_upto_region 28 with (fail)
      have hg0 : S < W.heap.size := zS
      go_upto_region 29 with (fail)
      clear xB0 xV1 xV2 xV4 xS0 xS1 xS2 xS3 xR0 xR1 xR2 xR3 yB0 yS0 yS1 yS2 yS3 yR0 yR1 yR2 yR3 zR zB zV zS
      replace kR3 := kR3.other (show w.heap.size ≠ S by omega) 3 (.slice (some ⟨W.heap.size, 0, none⟩) 1 1)
      replace kB3 := kB3.other (show B ≠ S by omega) 3 (.slice (some ⟨W.heap.size, 0, none⟩) 1 1)
      replace kV3 := kV3.other (show V ≠ S by omega) 3 (.slice (some ⟨W.heap.size, 0, none⟩) 1 1)
      replace kS3 := (show Blk _ S 77 [.int .i64 8, .int .i64 0, .int .i64 0, .slice (some ⟨W.heap.size, 0, none⟩) 1 1] from kS3.set 3 (.slice (some ⟨W.heap.size, 0, none⟩) 1 1))
      replace EW3 := Lib.hid (Ext.set EW3.out (show w.heap.size ≤ S by omega) 3 (.slice (some ⟨W.heap.size, 0, none⟩) 1 1))
      have hg : S < W.heap.size := hg0
      have HO : Own (World.alloc (W.setCell ⟨S, 3, none⟩ (.slice (some ⟨W.heap.size, 0, none⟩) 1 1)) (.cells #[.string (mkB r)] 9)) (World.heap (W.setCell ⟨S, 3, none⟩ (.slice (some ⟨W.heap.size, 0, none⟩) 1 1))).size (.slice (some ⟨(World.heap (W.setCell ⟨S, 3, none⟩ (.slice (some ⟨W.heap.size, 0, none⟩) 1 1))).size, 0, none⟩) 1 1) [mkB r] := Own.fresh (W.setCell ⟨S, 3, none⟩ (.slice (some ⟨W.heap.size, 0, none⟩) 1 1)) [mkB r] (by simp) (by simp)
      rw [Blk.size_set] at HO
      replace HO := Lib.hid (HO.base (b := w.heap.size) (by omega))
      replace kR3 := kR3.ext (Ext.new _ (.cells #[.string (mkB r)] 9))
      replace kB3 := kB3.ext (Ext.new _ (.cells #[.string (mkB r)] 9))
      replace kV3 := kV3.ext (Ext.new _ (.cells #[.string (mkB r)] 9))
      replace kS3 := kS3.ext (Ext.new _ (.cells #[.string (mkB r)] 9))
      replace EW3 := Lib.hid (Ext.trans EW3.out (Ext.new _ (.cells #[.string (mkB r)] 9)))
      generalize World.alloc _ _ = W1 at kR3 kB3 kV3 kS3 EW3 HO
      have xB0 := kB3.c0
      have xV1 := kV3.c1
      have xV2 := kV3.c2
      have xV4 := kV3.c4
      have xS0 := kS3.c0
      have xS1 := kS3.c1
      have xS2 := kS3.c2
      have xS3 := kS3.c3
      have xR0 := kR3.c0
      have xR1 := kR3.c1
      have xR2 := kR3.c2
      have xR3 := kR3.c3
      have yB0 := kB3.fz 0
      have yS0 := kS3.fz 0
      have yS1 := kS3.fz 1
      have yS2 := kS3.fz 2
      have yS3 := kS3.fz 3
      have yR0 := kR3.fz 0
      have yR1 := kR3.fz 1
      have yR2 := kR3.fz 2
      have yR3 := kR3.fz 3
      have zR := kR3.lt
      have zB := kB3.lt
      have zV := kV3.lt
      have zS := kS3.lt
      go_wp2_with fail
      have kR4 := (show Blk _ w.heap.size 77 [.int .i64 8, .int .i64 0, .int .i64 0, .slice (some ⟨W.heap.size, 0, none⟩) 1 1] from ((((kR3.set 0 (.int .i64 8)).set 1 (.int .i64 0)).set 2 (.int .i64 0)).set 3 (.slice (some ⟨W.heap.size, 0, none⟩) 1 1)))
      have EW4 := Lib.hid (Ext.set (Ext.set (Ext.set (Ext.set EW3.out (Nat.le_refl _) 0 (.int .i64 8)) (Nat.le_refl _) 1 (.int .i64 0)) (Nat.le_refl _) 2 (.int .i64 0)) (Nat.le_refl _) 3 (.slice (some ⟨W.heap.size, 0, none⟩) 1 1))
      have HO4 := Lib.hid ((((HO.out.set (b := w.heap.size) (by simp [Value.ownBlock]; omega) 0 (.int .i64 8)).set (b := w.heap.size) (by simp [Value.ownBlock]; omega) 1 (.int .i64 0)).set (b := w.heap.size) (by simp [Value.ownBlock]; omega) 2 (.int .i64 0)).set (b := w.heap.size) (by simp [Value.ownBlock]; omega) 3 (.slice (some ⟨W.heap.size, 0, none⟩) 1 1))
      clear HO
      clear xB0 xV1 xV2 xV4 xS0 xS1 xS2 xS3 xR0 xR1 xR2 xR3 yB0 yS0 yS1 yS2 yS3 yR0 yR1 yR2 yR3 zR zB zV zS kR3 kB3 kV3 kS3 EW3
      generalize World.setCell _ _ _ = Z at kR4 EW4 HO4
      have xR0 := kR4.c0
      have xR1 := kR4.c1
      have xR2 := kR4.c2
      have xR3 := kR4.c3
      refine bodyPost_ret (v := .agg #[.int .i64 8, .int .i64 0, .int .i64 0, .slice (some ⟨W.heap.size, 0, none⟩) 1 1]) (by simp [results, Tryz.results62, go_sem, xR0, xR1, xR2, xR3]) rfl ?_
      have hst : stepP 8 r = ⟨8, 0, 0, [mkB r]⟩ := by simp [stepP, verbS]
      rw [hst]
      refine ⟨some ⟨W.heap.size, 0, none⟩, 1, rfl, Nat.le_refl _, ?_, EW4.out⟩
      exact HO4.out

set_option maxRecDepth 100000 in
set_option maxHeartbeats 4000000 in
theorem readStep62_9 (s : ByteArray) (r : List UInt8) (fd : Bool) (hc : cutB 32 s.data.toList = ([80, 65, 83, 83], r, fd)) (w : World) (hg : Gl w) (hs : (s.size : Int) ≤ 100000) :
    Calls Tryz.prog 62 #[.string s] w fun e w' => ∃ T c, e = .returned (.agg #[.int .i64 (stepP 9 r).op, .int .i64 (stepP 9 r).a, .int .i64 (stepP 9 r).b, .slice T (stepP 9 r).texts.length c]) ∧ (stepP 9 r).texts.length ≤ c ∧ Own w' w.heap.size (.slice T (stepP 9 r).texts.length c) (stepP 9 r).texts ∧ Ext w w' := by
  have hrl : r.length ≤ s.size := by have := (cutB_len 32 s.data.toList).2; rw [hc] at this; simpa using this
  have hc92 : ∀ w, Gl w → Calls Tryz.prog 92 #[.string s, .string ⟨#[32]⟩] w fun e w' => e = .returned (.tuple #[.string (mkB [80, 65, 83, 83]), .string (mkB r), .bool fd]) ∧ ∃ n, w' = w.drewN n := fun w hg => by
    have := cut92 s w hg (by omega)
    rwa [hc] at this
  have HG := Lib.hid hg
  clear hc hg
  go_enter Tryz.func62, Tryz.ntmps62
  go_wp2_with fail
  refine (hc92 _ (HG.out.ext (Ext.new w _))).mono ?_
  rintro e w1 ⟨rfl, n, rfl⟩
  go_upto_region 2 with (fail)
  have E0 := Ext.al (Ext.drewN (Ext.new w (.cells #[.int .i64 0, .int .i64 0, .int .i64 0, .slice none 0 0] 77)) n) (.cells #[.string (mkB r)] 9)
  have kR : Blk _ w.heap.size 77 [.int .i64 0, .int .i64 0, .int .i64 0, .slice none 0 0] := ((Blk.new w [.int .i64 0, .int .i64 0, .int .i64 0, .slice none 0 0] 77).drewN n).ext (Ext.new _ (.cells #[.string (mkB r)] 9))
  have kB := Blk.new ((w.alloc (.cells #[.int .i64 0, .int .i64 0, .int .i64 0, .slice none 0 0] 77)).drewN n) [.string (mkB r)] 9
  rw [show ((w.alloc (.cells #[.int .i64 0, .int .i64 0, .int .i64 0, .slice none 0 0] 77)).drewN n).heap.size = w.heap.size + 1 by simp] at kB
  obtain ⟨B, hB⟩ : ∃ B, w.heap.size + 1 = B := ⟨_, rfl⟩
  rw [hB] at kB
  simp only [hB]
  replace hB : w.heap.size < B := by omega
  generalize World.alloc _ _ = W0 at E0 kR kB
  go_wp2_with fail
  go_loopw [6] (fun i wr => ∃ op : Int, 1 ≤ op ∧ op ≤ 9 ∧ i = .int .i64 op ∧ Blk wr w.heap.size 77 [.int .i64 0, .int .i64 0, .int .i64 0, .slice none 0 0] ∧ Blk wr B 9 [.string (mkB r)] ∧ Hid (Ext w wr)) (fun i _ => (14 - intOf i).toNat)
  case atStart => exact ⟨1, by omega, by omega, rfl, kR, kB, Lib.hid E0⟩
  case round =>
    clear E0 kR kB
    obtain ⟨op, h1, h2, rfl, kR, kB, EW⟩ := hrel
    by_cases hlt : op < 9
    · obtain ⟨nm, va, vb, few, all, ok, hv⟩ : ∃ nm va vb few all ok, verbS op = (⟨nm, va, vb, few, all⟩, ok) := ⟨_, _, _, _, _, _, rfl⟩
      have hne : (mkB nm) ≠ (mkB [80, 65, 83, 83]) := fun e => by
        have e2 : nm = [80, 65, 83, 83] := by have := congrArg (fun b => b.data.toList) e; simpa [mkB_toList] using this
        subst e2
        rcases (by omega : op = 1 ∨ op = 2 ∨ op = 3 ∨ op = 4 ∨ op = 5 ∨ op = 6 ∨ op = 7 ∨ op = 8) with rfl | rfl | rfl | rfl | rfl | rfl | rfl | rfl <;> (simp [verbS] at hv)
      have hne2 := str_ne hne
      go_wp2_with fail
      refine (verbs93' op nm va vb few all ok hv _).mono ?_
      rintro e w2 ⟨rfl, he2⟩
      have kR2 := kR.ext he2
      have kB2 := kB.ext he2
      have EW2 := Lib.hid (Ext.trans EW.out he2)
      clear he2 kR kB
      go_wp2_with fail
      go_roundw
      case rel => exact ⟨op + 1, by omega, by omega, rfl, kR2.ext (Ext.new _ _), kB2.ext (Ext.new _ _), Lib.hid (Ext.trans EW2.out (Ext.new _ _))⟩
      case measure => simp [intOf]; omega
    · obtain rfl : op = 9 := by omega
      clear hlt h1 h2
      go_wp2_with fail
      refine (verbs93' 9 [80, 65, 83, 83] 0 0 2 2 true rfl _).mono ?_
      rintro e w2 ⟨rfl, he2⟩
      have kR2 := (kR.ext he2).ext (Ext.new w2 (.cells #[.string (mkB [80, 65, 83, 83]), .int .u8 0, .int .u8 0, .int .i64 2, .int .i64 2] 126))
      have kB2 := (kB.ext he2).ext (Ext.new w2 (.cells #[.string (mkB [80, 65, 83, 83]), .int .u8 0, .int .u8 0, .int .i64 2, .int .i64 2] 126))
      have EW2 := Ext.trans (Ext.trans EW.out he2) (Ext.new w2 (.cells #[.string (mkB [80, 65, 83, 83]), .int .u8 0, .int .u8 0, .int .i64 2, .int .i64 2] 126))
      have kV2 := Blk.new w2 [.string (mkB [80, 65, 83, 83]), .int .u8 0, .int .u8 0, .int .i64 2, .int .i64 2] 126
      have hBV : B < w2.heap.size := (kB.ext he2).lt
      clear he2 kR kB EW
      go_upto_region 7 with (fail)
      obtain ⟨V, hV⟩ : ∃ V, w2.heap.size = V := ⟨_, rfl⟩
      rw [hV] at kV2 hBV
      simp only [hV]
      have hVs : V < (w2.alloc (.cells #[.string (mkB [80, 65, 83, 83]), .int .u8 0, .int .u8 0, .int .i64 2, .int .i64 2] 126)).heap.size := kV2.lt
      generalize World.alloc _ _ = w3 at kR2 kB2 kV2 EW2 hVs
      clear hV
      go_upto_region 9 with (fail)
      have kR3 := kR2.ext (Ext.new w3 (.cells #[.int .i64 9, .int .i64 0, .int .i64 0, .slice none 0 0] 77))
      have kB3 := kB2.ext (Ext.new w3 (.cells #[.int .i64 9, .int .i64 0, .int .i64 0, .slice none 0 0] 77))
      have kV3 := kV2.ext (Ext.new w3 (.cells #[.int .i64 9, .int .i64 0, .int .i64 0, .slice none 0 0] 77))
      have kS3 := Blk.new w3 [.int .i64 9, .int .i64 0, .int .i64 0, .slice none 0 0] 77
      have EW3 := Ext.trans EW2 (Ext.new w3 (.cells #[.int .i64 9, .int .i64 0, .int .i64 0, .slice none 0 0] 77))
      clear kR2 kB2 kV2 EW2
      obtain ⟨S, hS⟩ : ∃ S, w3.heap.size = S := ⟨_, rfl⟩
      rw [hS] at kS3 hVs
      simp only [hS]
      generalize World.alloc _ _ = W at kR3 kB3 kV3 kS3 EW3
      clear hS
      replace EW3 := Lib.hid EW3
      have xB0 := kB3.c0
      have xV1 := kV3.c1
      have xV2 := kV3.c2
      have xV4 := kV3.c4
      have xS0 := kS3.c0
      have xS1 := kS3.c1
      have xS2 := kS3.c2
      have xS3 := kS3.c3
      have xR0 := kR3.c0
      have xR1 := kR3.c1
      have xR2 := kR3.c2
      have xR3 := kR3.c3
      have yB0 := kB3.fz 0
      have yS0 := kS3.fz 0
      have yS1 := kS3.fz 1
      have yS2 := kS3.fz 2
      have yS3 := kS3.fz 3
      have yR0 := kR3.fz 0
      have yR1 := kR3.fz 1
      have yR2 := kR3.fz 2
      have yR3 := kR3.fz 3
      have zR := kR3.lt
      have zB := kB3.lt
      have zV := kV3.lt
      have zS := kS3.lt
      go_wp2_with fail
      have hl1 : ((r).length : Int) ≤ 100000 := by omega
      refine (next94l B r _ (HG.out.ext EW3.out) xB0 yB0 hl1).mono ?_
      rintro e x1 ⟨rfl, n1, rfl⟩
      clear xB0 xV1 xV2 xV4 xS0 xS1 xS2 xS3 xR0 xR1 xR2 xR3 yB0 yS0 yS1 yS2 yS3 yR0 yR1 yR2 yR3 zR zB zV zS
      replace kR3 := (kR3.drewN n1).other (show w.heap.size ≠ B by omega) 0 (.string (mkB (cutB 32 r).2.1))
      replace kB3 := (show Blk _ B 9 [.string (mkB (cutB 32 r).2.1)] from (kB3.drewN n1).set 0 (.string (mkB (cutB 32 r).2.1)))
      replace kV3 := (kV3.drewN n1).other (show V ≠ B by omega) 0 (.string (mkB (cutB 32 r).2.1))
      replace kS3 := (kS3.drewN n1).other (show S ≠ B by omega) 0 (.string (mkB (cutB 32 r).2.1))
      replace EW3 := Lib.hid (Ext.set (Ext.drewN EW3.out n1) (show w.heap.size ≤ B by omega) 0 (.string (mkB (cutB 32 r).2.1)))
      generalize World.setCell _ _ _ = W2 at kR3 kB3 kV3 kS3 EW3
      have xB0 := kB3.c0
      have xV1 := kV3.c1
      have xV2 := kV3.c2
      have xV4 := kV3.c4
      have xS0 := kS3.c0
      have xS1 := kS3.c1
      have xS2 := kS3.c2
      have xS3 := kS3.c3
      have xR0 := kR3.c0
      have xR1 := kR3.c1
      have xR2 := kR3.c2
      have xR3 := kR3.c3
      have yB0 := kB3.fz 0
      have yS0 := kS3.fz 0
      have yS1 := kS3.fz 1
      have yS2 := kS3.fz 2
      have yS3 := kS3.fz 3
      have yR0 := kR3.fz 0
      have yR1 := kR3.fz 1
      have yR2 := kR3.fz 2
      have yR3 := kR3.fz 3
      have zR := kR3.lt
      have zB := kB3.lt
      have zV := kV3.lt
      have zS := kS3.lt
      have hg0 : S < W2.heap.size := zS
      go_upto_region 22 with (fail)
      clear xB0 xV1 xV2 xV4 xS0 xS1 xS2 xS3 xR0 xR1 xR2 xR3 yB0 yS0 yS1 yS2 yS3 yR0 yR1 yR2 yR3 zR zB zV zS
      replace kR3 := kR3.other (show w.heap.size ≠ S by omega) 3 (.slice (some ⟨W2.heap.size, 0, none⟩) 2 2)
      replace kB3 := kB3.other (show B ≠ S by omega) 3 (.slice (some ⟨W2.heap.size, 0, none⟩) 2 2)
      replace kV3 := kV3.other (show V ≠ S by omega) 3 (.slice (some ⟨W2.heap.size, 0, none⟩) 2 2)
      replace kS3 := (show Blk _ S 77 [.int .i64 9, .int .i64 0, .int .i64 0, .slice (some ⟨W2.heap.size, 0, none⟩) 2 2] from kS3.set 3 (.slice (some ⟨W2.heap.size, 0, none⟩) 2 2))
      replace EW3 := Lib.hid (Ext.set EW3.out (show w.heap.size ≤ S by omega) 3 (.slice (some ⟨W2.heap.size, 0, none⟩) 2 2))
      have hg : S < W2.heap.size := hg0
      have HO : Own (World.alloc (W2.setCell ⟨S, 3, none⟩ (.slice (some ⟨W2.heap.size, 0, none⟩) 2 2)) (.cells #[.string (mkB (cutB 32 r).1), .string (mkB (cutB 32 r).2.1)] 9)) (World.heap (W2.setCell ⟨S, 3, none⟩ (.slice (some ⟨W2.heap.size, 0, none⟩) 2 2))).size (.slice (some ⟨(World.heap (W2.setCell ⟨S, 3, none⟩ (.slice (some ⟨W2.heap.size, 0, none⟩) 2 2))).size, 0, none⟩) 2 2) [mkB (cutB 32 r).1, mkB (cutB 32 r).2.1] := Own.fresh (W2.setCell ⟨S, 3, none⟩ (.slice (some ⟨W2.heap.size, 0, none⟩) 2 2)) [mkB (cutB 32 r).1, mkB (cutB 32 r).2.1] (by simp) (by simp)
      rw [Blk.size_set] at HO
      replace HO := Lib.hid (HO.base (b := w.heap.size) (by omega))
      replace kR3 := kR3.ext (Ext.new _ (.cells #[.string (mkB (cutB 32 r).1), .string (mkB (cutB 32 r).2.1)] 9))
      replace kB3 := kB3.ext (Ext.new _ (.cells #[.string (mkB (cutB 32 r).1), .string (mkB (cutB 32 r).2.1)] 9))
      replace kV3 := kV3.ext (Ext.new _ (.cells #[.string (mkB (cutB 32 r).1), .string (mkB (cutB 32 r).2.1)] 9))
      replace kS3 := kS3.ext (Ext.new _ (.cells #[.string (mkB (cutB 32 r).1), .string (mkB (cutB 32 r).2.1)] 9))
      replace EW3 := Lib.hid (Ext.trans EW3.out (Ext.new _ (.cells #[.string (mkB (cutB 32 r).1), .string (mkB (cutB 32 r).2.1)] 9)))
      generalize World.alloc _ _ = W3 at kR3 kB3 kV3 kS3 EW3 HO
      have xB0 := kB3.c0
      have xV1 := kV3.c1
      have xV2 := kV3.c2
      have xV4 := kV3.c4
      have xS0 := kS3.c0
      have xS1 := kS3.c1
      have xS2 := kS3.c2
      have xS3 := kS3.c3
      have xR0 := kR3.c0
      have xR1 := kR3.c1
      have xR2 := kR3.c2
      have xR3 := kR3.c3
      have yB0 := kB3.fz 0
      have yS0 := kS3.fz 0
      have yS1 := kS3.fz 1
      have yS2 := kS3.fz 2
      have yS3 := kS3.fz 3
      have yR0 := kR3.fz 0
      have yR1 := kR3.fz 1
      have yR2 := kR3.fz 2
      have yR3 := kR3.fz 3
      have zR := kR3.lt
      have zB := kB3.lt
      have zV := kV3.lt
      have zS := kS3.lt
      go_wp2_with fail
      have kR4 := (show Blk _ w.heap.size 77 [.int .i64 9, .int .i64 0, .int .i64 0, .slice (some ⟨W2.heap.size, 0, none⟩) 2 2] from ((((kR3.set 0 (.int .i64 9)).set 1 (.int .i64 0)).set 2 (.int .i64 0)).set 3 (.slice (some ⟨W2.heap.size, 0, none⟩) 2 2)))
      have EW4 := Lib.hid (Ext.set (Ext.set (Ext.set (Ext.set EW3.out (Nat.le_refl _) 0 (.int .i64 9)) (Nat.le_refl _) 1 (.int .i64 0)) (Nat.le_refl _) 2 (.int .i64 0)) (Nat.le_refl _) 3 (.slice (some ⟨W2.heap.size, 0, none⟩) 2 2))
      have HO4 := Lib.hid ((((HO.out.set (b := w.heap.size) (by simp [Value.ownBlock]; omega) 0 (.int .i64 9)).set (b := w.heap.size) (by simp [Value.ownBlock]; omega) 1 (.int .i64 0)).set (b := w.heap.size) (by simp [Value.ownBlock]; omega) 2 (.int .i64 0)).set (b := w.heap.size) (by simp [Value.ownBlock]; omega) 3 (.slice (some ⟨W2.heap.size, 0, none⟩) 2 2))
      clear HO
      clear xB0 xV1 xV2 xV4 xS0 xS1 xS2 xS3 xR0 xR1 xR2 xR3 yB0 yS0 yS1 yS2 yS3 yR0 yR1 yR2 yR3 zR zB zV zS kR3 kB3 kV3 kS3 EW3
      generalize World.setCell _ _ _ = Z at kR4 EW4 HO4
      have xR0 := kR4.c0
      have xR1 := kR4.c1
      have xR2 := kR4.c2
      have xR3 := kR4.c3
      refine bodyPost_ret (v := .agg #[.int .i64 9, .int .i64 0, .int .i64 0, .slice (some ⟨W2.heap.size, 0, none⟩) 2 2]) (by simp [results, Tryz.results62, go_sem, xR0, xR1, xR2, xR3]) rfl ?_
      have hst : stepP 9 r = ⟨9, 0, 0, [mkB (cutB 32 r).1, mkB (cutB 32 r).2.1]⟩ := by simp [stepP]
      rw [hst]
      refine ⟨some ⟨W2.heap.size, 0, none⟩, 2, rfl, Nat.le_refl _, ?_, EW4.out⟩
      exact HO4.out

set_option maxRecDepth 100000 in
set_option maxHeartbeats 4000000 in
theorem readStep62_10 (s : ByteArray) (r : List UInt8) (fd : Bool) (hc : cutB 32 s.data.toList = ([75, 69, 69, 80], r, fd)) (w : World) (hg : Gl w) (hs : (s.size : Int) ≤ 100000) :
    Calls Tryz.prog 62 #[.string s] w fun e w' => ∃ T c, e = .returned (.agg #[.int .i64 (stepP 10 r).op, .int .i64 (stepP 10 r).a, .int .i64 (stepP 10 r).b, .slice T (stepP 10 r).texts.length c]) ∧ (stepP 10 r).texts.length ≤ c ∧ Own w' w.heap.size (.slice T (stepP 10 r).texts.length c) (stepP 10 r).texts ∧ Ext w w' := by
  have hrl : r.length ≤ s.size := by have := (cutB_len 32 s.data.toList).2; rw [hc] at this; simpa using this
  have hc92 : ∀ w, Gl w → Calls Tryz.prog 92 #[.string s, .string ⟨#[32]⟩] w fun e w' => e = .returned (.tuple #[.string (mkB [75, 69, 69, 80]), .string (mkB r), .bool fd]) ∧ ∃ n, w' = w.drewN n := fun w hg => by
    have := cut92 s w hg (by omega)
    rwa [hc] at this
  have HG := Lib.hid hg
  clear hc hg
  go_enter Tryz.func62, Tryz.ntmps62
  go_wp2_with fail
  refine (hc92 _ (HG.out.ext (Ext.new w _))).mono ?_
  rintro e w1 ⟨rfl, n, rfl⟩
  go_upto_region 2 with (fail)
  have E0 := Ext.al (Ext.drewN (Ext.new w (.cells #[.int .i64 0, .int .i64 0, .int .i64 0, .slice none 0 0] 77)) n) (.cells #[.string (mkB r)] 9)
  have kR : Blk _ w.heap.size 77 [.int .i64 0, .int .i64 0, .int .i64 0, .slice none 0 0] := ((Blk.new w [.int .i64 0, .int .i64 0, .int .i64 0, .slice none 0 0] 77).drewN n).ext (Ext.new _ (.cells #[.string (mkB r)] 9))
  have kB := Blk.new ((w.alloc (.cells #[.int .i64 0, .int .i64 0, .int .i64 0, .slice none 0 0] 77)).drewN n) [.string (mkB r)] 9
  rw [show ((w.alloc (.cells #[.int .i64 0, .int .i64 0, .int .i64 0, .slice none 0 0] 77)).drewN n).heap.size = w.heap.size + 1 by simp] at kB
  obtain ⟨B, hB⟩ : ∃ B, w.heap.size + 1 = B := ⟨_, rfl⟩
  rw [hB] at kB
  simp only [hB]
  replace hB : w.heap.size < B := by omega
  generalize World.alloc _ _ = W0 at E0 kR kB
  go_wp2_with fail
  go_loopw [6] (fun i wr => ∃ op : Int, 1 ≤ op ∧ op ≤ 10 ∧ i = .int .i64 op ∧ Blk wr w.heap.size 77 [.int .i64 0, .int .i64 0, .int .i64 0, .slice none 0 0] ∧ Blk wr B 9 [.string (mkB r)] ∧ Hid (Ext w wr)) (fun i _ => (14 - intOf i).toNat)
  case atStart => exact ⟨1, by omega, by omega, rfl, kR, kB, Lib.hid E0⟩
  case round =>
    clear E0 kR kB
    obtain ⟨op, h1, h2, rfl, kR, kB, EW⟩ := hrel
    by_cases hlt : op < 10
    · obtain ⟨nm, va, vb, few, all, ok, hv⟩ : ∃ nm va vb few all ok, verbS op = (⟨nm, va, vb, few, all⟩, ok) := ⟨_, _, _, _, _, _, rfl⟩
      have hne : (mkB nm) ≠ (mkB [75, 69, 69, 80]) := fun e => by
        have e2 : nm = [75, 69, 69, 80] := by have := congrArg (fun b => b.data.toList) e; simpa [mkB_toList] using this
        subst e2
        rcases (by omega : op = 1 ∨ op = 2 ∨ op = 3 ∨ op = 4 ∨ op = 5 ∨ op = 6 ∨ op = 7 ∨ op = 8 ∨ op = 9) with rfl | rfl | rfl | rfl | rfl | rfl | rfl | rfl | rfl <;> (simp [verbS] at hv)
      have hne2 := str_ne hne
      go_wp2_with fail
      refine (verbs93' op nm va vb few all ok hv _).mono ?_
      rintro e w2 ⟨rfl, he2⟩
      have kR2 := kR.ext he2
      have kB2 := kB.ext he2
      have EW2 := Lib.hid (Ext.trans EW.out he2)
      clear he2 kR kB
      go_wp2_with fail
      go_roundw
      case rel => exact ⟨op + 1, by omega, by omega, rfl, kR2.ext (Ext.new _ _), kB2.ext (Ext.new _ _), Lib.hid (Ext.trans EW2.out (Ext.new _ _))⟩
      case measure => simp [intOf]; omega
    · obtain rfl : op = 10 := by omega
      clear hlt h1 h2
      go_wp2_with fail
      refine (verbs93' 10 [75, 69, 69, 80] 0 0 1 1 true rfl _).mono ?_
      rintro e w2 ⟨rfl, he2⟩
      have kR2 := (kR.ext he2).ext (Ext.new w2 (.cells #[.string (mkB [75, 69, 69, 80]), .int .u8 0, .int .u8 0, .int .i64 1, .int .i64 1] 126))
      have kB2 := (kB.ext he2).ext (Ext.new w2 (.cells #[.string (mkB [75, 69, 69, 80]), .int .u8 0, .int .u8 0, .int .i64 1, .int .i64 1] 126))
      have EW2 := Ext.trans (Ext.trans EW.out he2) (Ext.new w2 (.cells #[.string (mkB [75, 69, 69, 80]), .int .u8 0, .int .u8 0, .int .i64 1, .int .i64 1] 126))
      have kV2 := Blk.new w2 [.string (mkB [75, 69, 69, 80]), .int .u8 0, .int .u8 0, .int .i64 1, .int .i64 1] 126
      have hBV : B < w2.heap.size := (kB.ext he2).lt
      clear he2 kR kB EW
      go_upto_region 7 with (fail)
      obtain ⟨V, hV⟩ : ∃ V, w2.heap.size = V := ⟨_, rfl⟩
      rw [hV] at kV2 hBV
      simp only [hV]
      have hVs : V < (w2.alloc (.cells #[.string (mkB [75, 69, 69, 80]), .int .u8 0, .int .u8 0, .int .i64 1, .int .i64 1] 126)).heap.size := kV2.lt
      generalize World.alloc _ _ = w3 at kR2 kB2 kV2 EW2 hVs
      clear hV
      go_upto_region 9 with (fail)
      have kR3 := kR2.ext (Ext.new w3 (.cells #[.int .i64 10, .int .i64 0, .int .i64 0, .slice none 0 0] 77))
      have kB3 := kB2.ext (Ext.new w3 (.cells #[.int .i64 10, .int .i64 0, .int .i64 0, .slice none 0 0] 77))
      have kV3 := kV2.ext (Ext.new w3 (.cells #[.int .i64 10, .int .i64 0, .int .i64 0, .slice none 0 0] 77))
      have kS3 := Blk.new w3 [.int .i64 10, .int .i64 0, .int .i64 0, .slice none 0 0] 77
      have EW3 := Ext.trans EW2 (Ext.new w3 (.cells #[.int .i64 10, .int .i64 0, .int .i64 0, .slice none 0 0] 77))
      clear kR2 kB2 kV2 EW2
      obtain ⟨S, hS⟩ : ∃ S, w3.heap.size = S := ⟨_, rfl⟩
      rw [hS] at kS3 hVs
      simp only [hS]
      generalize World.alloc _ _ = W at kR3 kB3 kV3 kS3 EW3
      clear hS
      replace EW3 := Lib.hid EW3
      have xB0 := kB3.c0
      have xV1 := kV3.c1
      have xV2 := kV3.c2
      have xV4 := kV3.c4
      have xS0 := kS3.c0
      have xS1 := kS3.c1
      have xS2 := kS3.c2
      have xS3 := kS3.c3
      have xR0 := kR3.c0
      have xR1 := kR3.c1
      have xR2 := kR3.c2
      have xR3 := kR3.c3
      have yB0 := kB3.fz 0
      have yS0 := kS3.fz 0
      have yS1 := kS3.fz 1
      have yS2 := kS3.fz 2
      have yS3 := kS3.fz 3
      have yR0 := kR3.fz 0
      have yR1 := kR3.fz 1
      have yR2 := kR3.fz 2
      have yR3 := kR3.fz 3
      have zR := kR3.lt
      have zB := kB3.lt
      have zV := kV3.lt
      have zS := kS3.lt
      go_upto_region 28 with (fail)
      have hg0 : S < W.heap.size := zS
      go_upto_region 29 with (fail)
      clear xB0 xV1 xV2 xV4 xS0 xS1 xS2 xS3 xR0 xR1 xR2 xR3 yB0 yS0 yS1 yS2 yS3 yR0 yR1 yR2 yR3 zR zB zV zS
      replace kR3 := kR3.other (show w.heap.size ≠ S by omega) 3 (.slice (some ⟨W.heap.size, 0, none⟩) 1 1)
      replace kB3 := kB3.other (show B ≠ S by omega) 3 (.slice (some ⟨W.heap.size, 0, none⟩) 1 1)
      replace kV3 := kV3.other (show V ≠ S by omega) 3 (.slice (some ⟨W.heap.size, 0, none⟩) 1 1)
      replace kS3 := (show Blk _ S 77 [.int .i64 10, .int .i64 0, .int .i64 0, .slice (some ⟨W.heap.size, 0, none⟩) 1 1] from kS3.set 3 (.slice (some ⟨W.heap.size, 0, none⟩) 1 1))
      replace EW3 := Lib.hid (Ext.set EW3.out (show w.heap.size ≤ S by omega) 3 (.slice (some ⟨W.heap.size, 0, none⟩) 1 1))
      have hg : S < W.heap.size := hg0
      have HO : Own (World.alloc (W.setCell ⟨S, 3, none⟩ (.slice (some ⟨W.heap.size, 0, none⟩) 1 1)) (.cells #[.string (mkB r)] 9)) (World.heap (W.setCell ⟨S, 3, none⟩ (.slice (some ⟨W.heap.size, 0, none⟩) 1 1))).size (.slice (some ⟨(World.heap (W.setCell ⟨S, 3, none⟩ (.slice (some ⟨W.heap.size, 0, none⟩) 1 1))).size, 0, none⟩) 1 1) [mkB r] := Own.fresh (W.setCell ⟨S, 3, none⟩ (.slice (some ⟨W.heap.size, 0, none⟩) 1 1)) [mkB r] (by simp) (by simp)
      rw [Blk.size_set] at HO
      replace HO := Lib.hid (HO.base (b := w.heap.size) (by omega))
      replace kR3 := kR3.ext (Ext.new _ (.cells #[.string (mkB r)] 9))
      replace kB3 := kB3.ext (Ext.new _ (.cells #[.string (mkB r)] 9))
      replace kV3 := kV3.ext (Ext.new _ (.cells #[.string (mkB r)] 9))
      replace kS3 := kS3.ext (Ext.new _ (.cells #[.string (mkB r)] 9))
      replace EW3 := Lib.hid (Ext.trans EW3.out (Ext.new _ (.cells #[.string (mkB r)] 9)))
      generalize World.alloc _ _ = W1 at kR3 kB3 kV3 kS3 EW3 HO
      have xB0 := kB3.c0
      have xV1 := kV3.c1
      have xV2 := kV3.c2
      have xV4 := kV3.c4
      have xS0 := kS3.c0
      have xS1 := kS3.c1
      have xS2 := kS3.c2
      have xS3 := kS3.c3
      have xR0 := kR3.c0
      have xR1 := kR3.c1
      have xR2 := kR3.c2
      have xR3 := kR3.c3
      have yB0 := kB3.fz 0
      have yS0 := kS3.fz 0
      have yS1 := kS3.fz 1
      have yS2 := kS3.fz 2
      have yS3 := kS3.fz 3
      have yR0 := kR3.fz 0
      have yR1 := kR3.fz 1
      have yR2 := kR3.fz 2
      have yR3 := kR3.fz 3
      have zR := kR3.lt
      have zB := kB3.lt
      have zV := kV3.lt
      have zS := kS3.lt
      go_wp2_with fail
      have kR4 := (show Blk _ w.heap.size 77 [.int .i64 10, .int .i64 0, .int .i64 0, .slice (some ⟨W.heap.size, 0, none⟩) 1 1] from ((((kR3.set 0 (.int .i64 10)).set 1 (.int .i64 0)).set 2 (.int .i64 0)).set 3 (.slice (some ⟨W.heap.size, 0, none⟩) 1 1)))
      have EW4 := Lib.hid (Ext.set (Ext.set (Ext.set (Ext.set EW3.out (Nat.le_refl _) 0 (.int .i64 10)) (Nat.le_refl _) 1 (.int .i64 0)) (Nat.le_refl _) 2 (.int .i64 0)) (Nat.le_refl _) 3 (.slice (some ⟨W.heap.size, 0, none⟩) 1 1))
      have HO4 := Lib.hid ((((HO.out.set (b := w.heap.size) (by simp [Value.ownBlock]; omega) 0 (.int .i64 10)).set (b := w.heap.size) (by simp [Value.ownBlock]; omega) 1 (.int .i64 0)).set (b := w.heap.size) (by simp [Value.ownBlock]; omega) 2 (.int .i64 0)).set (b := w.heap.size) (by simp [Value.ownBlock]; omega) 3 (.slice (some ⟨W.heap.size, 0, none⟩) 1 1))
      clear HO
      clear xB0 xV1 xV2 xV4 xS0 xS1 xS2 xS3 xR0 xR1 xR2 xR3 yB0 yS0 yS1 yS2 yS3 yR0 yR1 yR2 yR3 zR zB zV zS kR3 kB3 kV3 kS3 EW3
      generalize World.setCell _ _ _ = Z at kR4 EW4 HO4
      have xR0 := kR4.c0
      have xR1 := kR4.c1
      have xR2 := kR4.c2
      have xR3 := kR4.c3
      refine bodyPost_ret (v := .agg #[.int .i64 10, .int .i64 0, .int .i64 0, .slice (some ⟨W.heap.size, 0, none⟩) 1 1]) (by simp [results, Tryz.results62, go_sem, xR0, xR1, xR2, xR3]) rfl ?_
      have hst : stepP 10 r = ⟨10, 0, 0, [mkB r]⟩ := by simp [stepP, verbS]
      rw [hst]
      refine ⟨some ⟨W.heap.size, 0, none⟩, 1, rfl, Nat.le_refl _, ?_, EW4.out⟩
      exact HO4.out

set_option maxRecDepth 100000 in
set_option maxHeartbeats 4000000 in
theorem readStep62_11 (s : ByteArray) (r : List UInt8) (fd : Bool) (hc : cutB 32 s.data.toList = ([66, 65, 67, 75], r, fd)) (w : World) (hg : Gl w) (hs : (s.size : Int) ≤ 100000) :
    Calls Tryz.prog 62 #[.string s] w fun e w' => ∃ T c, e = .returned (.agg #[.int .i64 (stepP 11 r).op, .int .i64 (stepP 11 r).a, .int .i64 (stepP 11 r).b, .slice T (stepP 11 r).texts.length c]) ∧ (stepP 11 r).texts.length ≤ c ∧ Own w' w.heap.size (.slice T (stepP 11 r).texts.length c) (stepP 11 r).texts ∧ Ext w w' := by
  have hrl : r.length ≤ s.size := by have := (cutB_len 32 s.data.toList).2; rw [hc] at this; simpa using this
  have hc92 : ∀ w, Gl w → Calls Tryz.prog 92 #[.string s, .string ⟨#[32]⟩] w fun e w' => e = .returned (.tuple #[.string (mkB [66, 65, 67, 75]), .string (mkB r), .bool fd]) ∧ ∃ n, w' = w.drewN n := fun w hg => by
    have := cut92 s w hg (by omega)
    rwa [hc] at this
  have HG := Lib.hid hg
  clear hc hg
  go_enter Tryz.func62, Tryz.ntmps62
  go_wp2_with fail
  refine (hc92 _ (HG.out.ext (Ext.new w _))).mono ?_
  rintro e w1 ⟨rfl, n, rfl⟩
  go_upto_region 2 with (fail)
  have E0 := Ext.al (Ext.drewN (Ext.new w (.cells #[.int .i64 0, .int .i64 0, .int .i64 0, .slice none 0 0] 77)) n) (.cells #[.string (mkB r)] 9)
  have kR : Blk _ w.heap.size 77 [.int .i64 0, .int .i64 0, .int .i64 0, .slice none 0 0] := ((Blk.new w [.int .i64 0, .int .i64 0, .int .i64 0, .slice none 0 0] 77).drewN n).ext (Ext.new _ (.cells #[.string (mkB r)] 9))
  have kB := Blk.new ((w.alloc (.cells #[.int .i64 0, .int .i64 0, .int .i64 0, .slice none 0 0] 77)).drewN n) [.string (mkB r)] 9
  rw [show ((w.alloc (.cells #[.int .i64 0, .int .i64 0, .int .i64 0, .slice none 0 0] 77)).drewN n).heap.size = w.heap.size + 1 by simp] at kB
  obtain ⟨B, hB⟩ : ∃ B, w.heap.size + 1 = B := ⟨_, rfl⟩
  rw [hB] at kB
  simp only [hB]
  replace hB : w.heap.size < B := by omega
  generalize World.alloc _ _ = W0 at E0 kR kB
  go_wp2_with fail
  go_loopw [6] (fun i wr => ∃ op : Int, 1 ≤ op ∧ op ≤ 11 ∧ i = .int .i64 op ∧ Blk wr w.heap.size 77 [.int .i64 0, .int .i64 0, .int .i64 0, .slice none 0 0] ∧ Blk wr B 9 [.string (mkB r)] ∧ Hid (Ext w wr)) (fun i _ => (14 - intOf i).toNat)
  case atStart => exact ⟨1, by omega, by omega, rfl, kR, kB, Lib.hid E0⟩
  case round =>
    clear E0 kR kB
    obtain ⟨op, h1, h2, rfl, kR, kB, EW⟩ := hrel
    by_cases hlt : op < 11
    · obtain ⟨nm, va, vb, few, all, ok, hv⟩ : ∃ nm va vb few all ok, verbS op = (⟨nm, va, vb, few, all⟩, ok) := ⟨_, _, _, _, _, _, rfl⟩
      have hne : (mkB nm) ≠ (mkB [66, 65, 67, 75]) := fun e => by
        have e2 : nm = [66, 65, 67, 75] := by have := congrArg (fun b => b.data.toList) e; simpa [mkB_toList] using this
        subst e2
        rcases (by omega : op = 1 ∨ op = 2 ∨ op = 3 ∨ op = 4 ∨ op = 5 ∨ op = 6 ∨ op = 7 ∨ op = 8 ∨ op = 9 ∨ op = 10) with rfl | rfl | rfl | rfl | rfl | rfl | rfl | rfl | rfl | rfl <;> (simp [verbS] at hv)
      have hne2 := str_ne hne
      go_wp2_with fail
      refine (verbs93' op nm va vb few all ok hv _).mono ?_
      rintro e w2 ⟨rfl, he2⟩
      have kR2 := kR.ext he2
      have kB2 := kB.ext he2
      have EW2 := Lib.hid (Ext.trans EW.out he2)
      clear he2 kR kB
      go_wp2_with fail
      go_roundw
      case rel => exact ⟨op + 1, by omega, by omega, rfl, kR2.ext (Ext.new _ _), kB2.ext (Ext.new _ _), Lib.hid (Ext.trans EW2.out (Ext.new _ _))⟩
      case measure => simp [intOf]; omega
    · obtain rfl : op = 11 := by omega
      clear hlt h1 h2
      go_wp2_with fail
      refine (verbs93' 11 [66, 65, 67, 75] 0 0 0 0 true rfl _).mono ?_
      rintro e w2 ⟨rfl, he2⟩
      have kR2 := (kR.ext he2).ext (Ext.new w2 (.cells #[.string (mkB [66, 65, 67, 75]), .int .u8 0, .int .u8 0, .int .i64 0, .int .i64 0] 126))
      have kB2 := (kB.ext he2).ext (Ext.new w2 (.cells #[.string (mkB [66, 65, 67, 75]), .int .u8 0, .int .u8 0, .int .i64 0, .int .i64 0] 126))
      have EW2 := Ext.trans (Ext.trans EW.out he2) (Ext.new w2 (.cells #[.string (mkB [66, 65, 67, 75]), .int .u8 0, .int .u8 0, .int .i64 0, .int .i64 0] 126))
      have kV2 := Blk.new w2 [.string (mkB [66, 65, 67, 75]), .int .u8 0, .int .u8 0, .int .i64 0, .int .i64 0] 126
      have hBV : B < w2.heap.size := (kB.ext he2).lt
      clear he2 kR kB EW
      go_upto_region 7 with (fail)
      obtain ⟨V, hV⟩ : ∃ V, w2.heap.size = V := ⟨_, rfl⟩
      rw [hV] at kV2 hBV
      simp only [hV]
      have hVs : V < (w2.alloc (.cells #[.string (mkB [66, 65, 67, 75]), .int .u8 0, .int .u8 0, .int .i64 0, .int .i64 0] 126)).heap.size := kV2.lt
      generalize World.alloc _ _ = w3 at kR2 kB2 kV2 EW2 hVs
      clear hV
      go_upto_region 9 with (fail)
      have kR3 := kR2.ext (Ext.new w3 (.cells #[.int .i64 11, .int .i64 0, .int .i64 0, .slice none 0 0] 77))
      have kB3 := kB2.ext (Ext.new w3 (.cells #[.int .i64 11, .int .i64 0, .int .i64 0, .slice none 0 0] 77))
      have kV3 := kV2.ext (Ext.new w3 (.cells #[.int .i64 11, .int .i64 0, .int .i64 0, .slice none 0 0] 77))
      have kS3 := Blk.new w3 [.int .i64 11, .int .i64 0, .int .i64 0, .slice none 0 0] 77
      have EW3 := Ext.trans EW2 (Ext.new w3 (.cells #[.int .i64 11, .int .i64 0, .int .i64 0, .slice none 0 0] 77))
      clear kR2 kB2 kV2 EW2
      obtain ⟨S, hS⟩ : ∃ S, w3.heap.size = S := ⟨_, rfl⟩
      rw [hS] at kS3 hVs
      simp only [hS]
      generalize World.alloc _ _ = W at kR3 kB3 kV3 kS3 EW3
      clear hS
      replace EW3 := Lib.hid EW3
      have xB0 := kB3.c0
      have xV1 := kV3.c1
      have xV2 := kV3.c2
      have xV4 := kV3.c4
      have xS0 := kS3.c0
      have xS1 := kS3.c1
      have xS2 := kS3.c2
      have xS3 := kS3.c3
      have xR0 := kR3.c0
      have xR1 := kR3.c1
      have xR2 := kR3.c2
      have xR3 := kR3.c3
      have yB0 := kB3.fz 0
      have yS0 := kS3.fz 0
      have yS1 := kS3.fz 1
      have yS2 := kS3.fz 2
      have yS3 := kS3.fz 3
      have yR0 := kR3.fz 0
      have yR1 := kR3.fz 1
      have yR2 := kR3.fz 2
      have yR3 := kR3.fz 3
      have zR := kR3.lt
      have zB := kB3.lt
      have zV := kV3.lt
      have zS := kS3.lt
      go_wp2_with fail
      have kR4 := (show Blk _ w.heap.size 77 [.int .i64 11, .int .i64 0, .int .i64 0, .slice none 0 0] from ((((kR3.set 0 (.int .i64 11)).set 1 (.int .i64 0)).set 2 (.int .i64 0)).set 3 (.slice none 0 0)))
      have EW4 := Lib.hid (Ext.set (Ext.set (Ext.set (Ext.set EW3.out (Nat.le_refl _) 0 (.int .i64 11)) (Nat.le_refl _) 1 (.int .i64 0)) (Nat.le_refl _) 2 (.int .i64 0)) (Nat.le_refl _) 3 (.slice none 0 0))
      clear xB0 xV1 xV2 xV4 xS0 xS1 xS2 xS3 xR0 xR1 xR2 xR3 yB0 yS0 yS1 yS2 yS3 yR0 yR1 yR2 yR3 zR zB zV zS kR3 kB3 kV3 kS3 EW3
      generalize World.setCell _ _ _ = Z at kR4 EW4
      have xR0 := kR4.c0
      have xR1 := kR4.c1
      have xR2 := kR4.c2
      have xR3 := kR4.c3
      refine bodyPost_ret (v := .agg #[.int .i64 11, .int .i64 0, .int .i64 0, .slice none 0 0]) (by simp [results, Tryz.results62, go_sem, xR0, xR1, xR2, xR3]) rfl ?_
      have hst : stepP 11 r = ⟨11, 0, 0, []⟩ := by simp [stepP, verbS]
      rw [hst]
      exact ⟨none, 0, rfl, Nat.le_refl _, Own.none_ _ _, EW4.out⟩

set_option maxRecDepth 100000 in
set_option maxHeartbeats 4000000 in
theorem readStep62_12 (s : ByteArray) (r : List UInt8) (fd : Bool) (hc : cutB 32 s.data.toList = ([70, 65, 73, 76], r, fd)) (w : World) (hg : Gl w) (hs : (s.size : Int) ≤ 100000) :
    Calls Tryz.prog 62 #[.string s] w fun e w' => ∃ T c, e = .returned (.agg #[.int .i64 (stepP 12 r).op, .int .i64 (stepP 12 r).a, .int .i64 (stepP 12 r).b, .slice T (stepP 12 r).texts.length c]) ∧ (stepP 12 r).texts.length ≤ c ∧ Own w' w.heap.size (.slice T (stepP 12 r).texts.length c) (stepP 12 r).texts ∧ Ext w w' := by
  have hrl : r.length ≤ s.size := by have := (cutB_len 32 s.data.toList).2; rw [hc] at this; simpa using this
  have hc92 : ∀ w, Gl w → Calls Tryz.prog 92 #[.string s, .string ⟨#[32]⟩] w fun e w' => e = .returned (.tuple #[.string (mkB [70, 65, 73, 76]), .string (mkB r), .bool fd]) ∧ ∃ n, w' = w.drewN n := fun w hg => by
    have := cut92 s w hg (by omega)
    rwa [hc] at this
  have HG := Lib.hid hg
  clear hc hg
  go_enter Tryz.func62, Tryz.ntmps62
  go_wp2_with fail
  refine (hc92 _ (HG.out.ext (Ext.new w _))).mono ?_
  rintro e w1 ⟨rfl, n, rfl⟩
  go_upto_region 2 with (fail)
  have E0 := Ext.al (Ext.drewN (Ext.new w (.cells #[.int .i64 0, .int .i64 0, .int .i64 0, .slice none 0 0] 77)) n) (.cells #[.string (mkB r)] 9)
  have kR : Blk _ w.heap.size 77 [.int .i64 0, .int .i64 0, .int .i64 0, .slice none 0 0] := ((Blk.new w [.int .i64 0, .int .i64 0, .int .i64 0, .slice none 0 0] 77).drewN n).ext (Ext.new _ (.cells #[.string (mkB r)] 9))
  have kB := Blk.new ((w.alloc (.cells #[.int .i64 0, .int .i64 0, .int .i64 0, .slice none 0 0] 77)).drewN n) [.string (mkB r)] 9
  rw [show ((w.alloc (.cells #[.int .i64 0, .int .i64 0, .int .i64 0, .slice none 0 0] 77)).drewN n).heap.size = w.heap.size + 1 by simp] at kB
  obtain ⟨B, hB⟩ : ∃ B, w.heap.size + 1 = B := ⟨_, rfl⟩
  rw [hB] at kB
  simp only [hB]
  replace hB : w.heap.size < B := by omega
  generalize World.alloc _ _ = W0 at E0 kR kB
  go_wp2_with fail
  go_loopw [6] (fun i wr => ∃ op : Int, 1 ≤ op ∧ op ≤ 12 ∧ i = .int .i64 op ∧ Blk wr w.heap.size 77 [.int .i64 0, .int .i64 0, .int .i64 0, .slice none 0 0] ∧ Blk wr B 9 [.string (mkB r)] ∧ Hid (Ext w wr)) (fun i _ => (14 - intOf i).toNat)
  case atStart => exact ⟨1, by omega, by omega, rfl, kR, kB, Lib.hid E0⟩
  case round =>
    clear E0 kR kB
    obtain ⟨op, h1, h2, rfl, kR, kB, EW⟩ := hrel
    by_cases hlt : op < 12
    · obtain ⟨nm, va, vb, few, all, ok, hv⟩ : ∃ nm va vb few all ok, verbS op = (⟨nm, va, vb, few, all⟩, ok) := ⟨_, _, _, _, _, _, rfl⟩
      have hne : (mkB nm) ≠ (mkB [70, 65, 73, 76]) := fun e => by
        have e2 : nm = [70, 65, 73, 76] := by have := congrArg (fun b => b.data.toList) e; simpa [mkB_toList] using this
        subst e2
        rcases (by omega : op = 1 ∨ op = 2 ∨ op = 3 ∨ op = 4 ∨ op = 5 ∨ op = 6 ∨ op = 7 ∨ op = 8 ∨ op = 9 ∨ op = 10 ∨ op = 11) with rfl | rfl | rfl | rfl | rfl | rfl | rfl | rfl | rfl | rfl | rfl <;> (simp [verbS] at hv)
      have hne2 := str_ne hne
      go_wp2_with fail
      refine (verbs93' op nm va vb few all ok hv _).mono ?_
      rintro e w2 ⟨rfl, he2⟩
      have kR2 := kR.ext he2
      have kB2 := kB.ext he2
      have EW2 := Lib.hid (Ext.trans EW.out he2)
      clear he2 kR kB
      go_wp2_with fail
      go_roundw
      case rel => exact ⟨op + 1, by omega, by omega, rfl, kR2.ext (Ext.new _ _), kB2.ext (Ext.new _ _), Lib.hid (Ext.trans EW2.out (Ext.new _ _))⟩
      case measure => simp [intOf]; omega
    · obtain rfl : op = 12 := by omega
      clear hlt h1 h2
      go_wp2_with fail
      refine (verbs93' 12 [70, 65, 73, 76] 0 0 0 0 true rfl _).mono ?_
      rintro e w2 ⟨rfl, he2⟩
      have kR2 := (kR.ext he2).ext (Ext.new w2 (.cells #[.string (mkB [70, 65, 73, 76]), .int .u8 0, .int .u8 0, .int .i64 0, .int .i64 0] 126))
      have kB2 := (kB.ext he2).ext (Ext.new w2 (.cells #[.string (mkB [70, 65, 73, 76]), .int .u8 0, .int .u8 0, .int .i64 0, .int .i64 0] 126))
      have EW2 := Ext.trans (Ext.trans EW.out he2) (Ext.new w2 (.cells #[.string (mkB [70, 65, 73, 76]), .int .u8 0, .int .u8 0, .int .i64 0, .int .i64 0] 126))
      have kV2 := Blk.new w2 [.string (mkB [70, 65, 73, 76]), .int .u8 0, .int .u8 0, .int .i64 0, .int .i64 0] 126
      have hBV : B < w2.heap.size := (kB.ext he2).lt
      clear he2 kR kB EW
      go_upto_region 7 with (fail)
      obtain ⟨V, hV⟩ : ∃ V, w2.heap.size = V := ⟨_, rfl⟩
      rw [hV] at kV2 hBV
      simp only [hV]
      have hVs : V < (w2.alloc (.cells #[.string (mkB [70, 65, 73, 76]), .int .u8 0, .int .u8 0, .int .i64 0, .int .i64 0] 126)).heap.size := kV2.lt
      generalize World.alloc _ _ = w3 at kR2 kB2 kV2 EW2 hVs
      clear hV
      go_upto_region 9 with (fail)
      have kR3 := kR2.ext (Ext.new w3 (.cells #[.int .i64 12, .int .i64 0, .int .i64 0, .slice none 0 0] 77))
      have kB3 := kB2.ext (Ext.new w3 (.cells #[.int .i64 12, .int .i64 0, .int .i64 0, .slice none 0 0] 77))
      have kV3 := kV2.ext (Ext.new w3 (.cells #[.int .i64 12, .int .i64 0, .int .i64 0, .slice none 0 0] 77))
      have kS3 := Blk.new w3 [.int .i64 12, .int .i64 0, .int .i64 0, .slice none 0 0] 77
      have EW3 := Ext.trans EW2 (Ext.new w3 (.cells #[.int .i64 12, .int .i64 0, .int .i64 0, .slice none 0 0] 77))
      clear kR2 kB2 kV2 EW2
      obtain ⟨S, hS⟩ : ∃ S, w3.heap.size = S := ⟨_, rfl⟩
      rw [hS] at kS3 hVs
      simp only [hS]
      generalize World.alloc _ _ = W at kR3 kB3 kV3 kS3 EW3
      clear hS
      replace EW3 := Lib.hid EW3
      have xB0 := kB3.c0
      have xV1 := kV3.c1
      have xV2 := kV3.c2
      have xV4 := kV3.c4
      have xS0 := kS3.c0
      have xS1 := kS3.c1
      have xS2 := kS3.c2
      have xS3 := kS3.c3
      have xR0 := kR3.c0
      have xR1 := kR3.c1
      have xR2 := kR3.c2
      have xR3 := kR3.c3
      have yB0 := kB3.fz 0
      have yS0 := kS3.fz 0
      have yS1 := kS3.fz 1
      have yS2 := kS3.fz 2
      have yS3 := kS3.fz 3
      have yR0 := kR3.fz 0
      have yR1 := kR3.fz 1
      have yR2 := kR3.fz 2
      have yR3 := kR3.fz 3
      have zR := kR3.lt
      have zB := kB3.lt
      have zV := kV3.lt
      have zS := kS3.lt
      go_wp2_with fail
      have kR4 := (show Blk _ w.heap.size 77 [.int .i64 12, .int .i64 0, .int .i64 0, .slice none 0 0] from ((((kR3.set 0 (.int .i64 12)).set 1 (.int .i64 0)).set 2 (.int .i64 0)).set 3 (.slice none 0 0)))
      have EW4 := Lib.hid (Ext.set (Ext.set (Ext.set (Ext.set EW3.out (Nat.le_refl _) 0 (.int .i64 12)) (Nat.le_refl _) 1 (.int .i64 0)) (Nat.le_refl _) 2 (.int .i64 0)) (Nat.le_refl _) 3 (.slice none 0 0))
      clear xB0 xV1 xV2 xV4 xS0 xS1 xS2 xS3 xR0 xR1 xR2 xR3 yB0 yS0 yS1 yS2 yS3 yR0 yR1 yR2 yR3 zR zB zV zS kR3 kB3 kV3 kS3 EW3
      generalize World.setCell _ _ _ = Z at kR4 EW4
      have xR0 := kR4.c0
      have xR1 := kR4.c1
      have xR2 := kR4.c2
      have xR3 := kR4.c3
      refine bodyPost_ret (v := .agg #[.int .i64 12, .int .i64 0, .int .i64 0, .slice none 0 0]) (by simp [results, Tryz.results62, go_sem, xR0, xR1, xR2, xR3]) rfl ?_
      have hst : stepP 12 r = ⟨12, 0, 0, []⟩ := by simp [stepP, verbS]
      rw [hst]
      exact ⟨none, 0, rfl, Nat.le_refl _, Own.none_ _ _, EW4.out⟩

set_option maxRecDepth 100000 in
set_option maxHeartbeats 4000000 in
theorem readStep62_13 (s : ByteArray) (r : List UInt8) (fd : Bool) (hc : cutB 32 s.data.toList = ([69, 78, 68], r, fd)) (w : World) (hg : Gl w) (hs : (s.size : Int) ≤ 100000) :
    Calls Tryz.prog 62 #[.string s] w fun e w' => ∃ T c, e = .returned (.agg #[.int .i64 (stepP 13 r).op, .int .i64 (stepP 13 r).a, .int .i64 (stepP 13 r).b, .slice T (stepP 13 r).texts.length c]) ∧ (stepP 13 r).texts.length ≤ c ∧ Own w' w.heap.size (.slice T (stepP 13 r).texts.length c) (stepP 13 r).texts ∧ Ext w w' := by
  have hrl : r.length ≤ s.size := by have := (cutB_len 32 s.data.toList).2; rw [hc] at this; simpa using this
  have hc92 : ∀ w, Gl w → Calls Tryz.prog 92 #[.string s, .string ⟨#[32]⟩] w fun e w' => e = .returned (.tuple #[.string (mkB [69, 78, 68]), .string (mkB r), .bool fd]) ∧ ∃ n, w' = w.drewN n := fun w hg => by
    have := cut92 s w hg (by omega)
    rwa [hc] at this
  have HG := Lib.hid hg
  clear hc hg
  go_enter Tryz.func62, Tryz.ntmps62
  go_wp2_with fail
  refine (hc92 _ (HG.out.ext (Ext.new w _))).mono ?_
  rintro e w1 ⟨rfl, n, rfl⟩
  go_upto_region 2 with (fail)
  have E0 := Ext.al (Ext.drewN (Ext.new w (.cells #[.int .i64 0, .int .i64 0, .int .i64 0, .slice none 0 0] 77)) n) (.cells #[.string (mkB r)] 9)
  have kR : Blk _ w.heap.size 77 [.int .i64 0, .int .i64 0, .int .i64 0, .slice none 0 0] := ((Blk.new w [.int .i64 0, .int .i64 0, .int .i64 0, .slice none 0 0] 77).drewN n).ext (Ext.new _ (.cells #[.string (mkB r)] 9))
  have kB := Blk.new ((w.alloc (.cells #[.int .i64 0, .int .i64 0, .int .i64 0, .slice none 0 0] 77)).drewN n) [.string (mkB r)] 9
  rw [show ((w.alloc (.cells #[.int .i64 0, .int .i64 0, .int .i64 0, .slice none 0 0] 77)).drewN n).heap.size = w.heap.size + 1 by simp] at kB
  obtain ⟨B, hB⟩ : ∃ B, w.heap.size + 1 = B := ⟨_, rfl⟩
  rw [hB] at kB
  simp only [hB]
  replace hB : w.heap.size < B := by omega
  generalize World.alloc _ _ = W0 at E0 kR kB
  go_wp2_with fail
  go_loopw [6] (fun i wr => ∃ op : Int, 1 ≤ op ∧ op ≤ 13 ∧ i = .int .i64 op ∧ Blk wr w.heap.size 77 [.int .i64 0, .int .i64 0, .int .i64 0, .slice none 0 0] ∧ Blk wr B 9 [.string (mkB r)] ∧ Hid (Ext w wr)) (fun i _ => (14 - intOf i).toNat)
  case atStart => exact ⟨1, by omega, by omega, rfl, kR, kB, Lib.hid E0⟩
  case round =>
    clear E0 kR kB
    obtain ⟨op, h1, h2, rfl, kR, kB, EW⟩ := hrel
    by_cases hlt : op < 13
    · obtain ⟨nm, va, vb, few, all, ok, hv⟩ : ∃ nm va vb few all ok, verbS op = (⟨nm, va, vb, few, all⟩, ok) := ⟨_, _, _, _, _, _, rfl⟩
      have hne : (mkB nm) ≠ (mkB [69, 78, 68]) := fun e => by
        have e2 : nm = [69, 78, 68] := by have := congrArg (fun b => b.data.toList) e; simpa [mkB_toList] using this
        subst e2
        rcases (by omega : op = 1 ∨ op = 2 ∨ op = 3 ∨ op = 4 ∨ op = 5 ∨ op = 6 ∨ op = 7 ∨ op = 8 ∨ op = 9 ∨ op = 10 ∨ op = 11 ∨ op = 12) with rfl | rfl | rfl | rfl | rfl | rfl | rfl | rfl | rfl | rfl | rfl | rfl <;> (simp [verbS] at hv)
      have hne2 := str_ne hne
      go_wp2_with fail
      refine (verbs93' op nm va vb few all ok hv _).mono ?_
      rintro e w2 ⟨rfl, he2⟩
      have kR2 := kR.ext he2
      have kB2 := kB.ext he2
      have EW2 := Lib.hid (Ext.trans EW.out he2)
      clear he2 kR kB
      go_wp2_with fail
      go_roundw
      case rel => exact ⟨op + 1, by omega, by omega, rfl, kR2.ext (Ext.new _ _), kB2.ext (Ext.new _ _), Lib.hid (Ext.trans EW2.out (Ext.new _ _))⟩
      case measure => simp [intOf]; omega
    · obtain rfl : op = 13 := by omega
      clear hlt h1 h2
      go_wp2_with fail
      refine (verbs93' 13 [69, 78, 68] 0 0 0 0 true rfl _).mono ?_
      rintro e w2 ⟨rfl, he2⟩
      have kR2 := (kR.ext he2).ext (Ext.new w2 (.cells #[.string (mkB [69, 78, 68]), .int .u8 0, .int .u8 0, .int .i64 0, .int .i64 0] 126))
      have kB2 := (kB.ext he2).ext (Ext.new w2 (.cells #[.string (mkB [69, 78, 68]), .int .u8 0, .int .u8 0, .int .i64 0, .int .i64 0] 126))
      have EW2 := Ext.trans (Ext.trans EW.out he2) (Ext.new w2 (.cells #[.string (mkB [69, 78, 68]), .int .u8 0, .int .u8 0, .int .i64 0, .int .i64 0] 126))
      have kV2 := Blk.new w2 [.string (mkB [69, 78, 68]), .int .u8 0, .int .u8 0, .int .i64 0, .int .i64 0] 126
      have hBV : B < w2.heap.size := (kB.ext he2).lt
      clear he2 kR kB EW
      go_upto_region 7 with (fail)
      obtain ⟨V, hV⟩ : ∃ V, w2.heap.size = V := ⟨_, rfl⟩
      rw [hV] at kV2 hBV
      simp only [hV]
      have hVs : V < (w2.alloc (.cells #[.string (mkB [69, 78, 68]), .int .u8 0, .int .u8 0, .int .i64 0, .int .i64 0] 126)).heap.size := kV2.lt
      generalize World.alloc _ _ = w3 at kR2 kB2 kV2 EW2 hVs
      clear hV
      go_upto_region 9 with (fail)
      have kR3 := kR2.ext (Ext.new w3 (.cells #[.int .i64 13, .int .i64 0, .int .i64 0, .slice none 0 0] 77))
      have kB3 := kB2.ext (Ext.new w3 (.cells #[.int .i64 13, .int .i64 0, .int .i64 0, .slice none 0 0] 77))
      have kV3 := kV2.ext (Ext.new w3 (.cells #[.int .i64 13, .int .i64 0, .int .i64 0, .slice none 0 0] 77))
      have kS3 := Blk.new w3 [.int .i64 13, .int .i64 0, .int .i64 0, .slice none 0 0] 77
      have EW3 := Ext.trans EW2 (Ext.new w3 (.cells #[.int .i64 13, .int .i64 0, .int .i64 0, .slice none 0 0] 77))
      clear kR2 kB2 kV2 EW2
      obtain ⟨S, hS⟩ : ∃ S, w3.heap.size = S := ⟨_, rfl⟩
      rw [hS] at kS3 hVs
      simp only [hS]
      generalize World.alloc _ _ = W at kR3 kB3 kV3 kS3 EW3
      clear hS
      replace EW3 := Lib.hid EW3
      have xB0 := kB3.c0
      have xV1 := kV3.c1
      have xV2 := kV3.c2
      have xV4 := kV3.c4
      have xS0 := kS3.c0
      have xS1 := kS3.c1
      have xS2 := kS3.c2
      have xS3 := kS3.c3
      have xR0 := kR3.c0
      have xR1 := kR3.c1
      have xR2 := kR3.c2
      have xR3 := kR3.c3
      have yB0 := kB3.fz 0
      have yS0 := kS3.fz 0
      have yS1 := kS3.fz 1
      have yS2 := kS3.fz 2
      have yS3 := kS3.fz 3
      have yR0 := kR3.fz 0
      have yR1 := kR3.fz 1
      have yR2 := kR3.fz 2
      have yR3 := kR3.fz 3
      have zR := kR3.lt
      have zB := kB3.lt
      have zV := kV3.lt
      have zS := kS3.lt
      go_wp2_with fail
      have kR4 := (show Blk _ w.heap.size 77 [.int .i64 13, .int .i64 0, .int .i64 0, .slice none 0 0] from ((((kR3.set 0 (.int .i64 13)).set 1 (.int .i64 0)).set 2 (.int .i64 0)).set 3 (.slice none 0 0)))
      have EW4 := Lib.hid (Ext.set (Ext.set (Ext.set (Ext.set EW3.out (Nat.le_refl _) 0 (.int .i64 13)) (Nat.le_refl _) 1 (.int .i64 0)) (Nat.le_refl _) 2 (.int .i64 0)) (Nat.le_refl _) 3 (.slice none 0 0))
      clear xB0 xV1 xV2 xV4 xS0 xS1 xS2 xS3 xR0 xR1 xR2 xR3 yB0 yS0 yS1 yS2 yS3 yR0 yR1 yR2 yR3 zR zB zV zS kR3 kB3 kV3 kS3 EW3
      generalize World.setCell _ _ _ = Z at kR4 EW4
      have xR0 := kR4.c0
      have xR1 := kR4.c1
      have xR2 := kR4.c2
      have xR3 := kR4.c3
      refine bodyPost_ret (v := .agg #[.int .i64 13, .int .i64 0, .int .i64 0, .slice none 0 0]) (by simp [results, Tryz.results62, go_sem, xR0, xR1, xR2, xR3]) rfl ?_
      have hst : stepP 13 r = ⟨13, 0, 0, []⟩ := by simp [stepP, verbS]
      rw [hst]
      exact ⟨none, 0, rfl, Nat.le_refl _, Own.none_ _ _, EW4.out⟩

set_option maxRecDepth 100000 in
set_option maxHeartbeats 4000000 in
theorem readStep62_none (s : ByteArray) (wd r : List UInt8) (fd : Bool) (hc : cutB 32 s.data.toList = (wd, r, fd)) (hno : ∀ op : Int, 1 ≤ op → op < 14 → (verbS op).1.name ≠ wd) (w : World) (hg : Gl w) (hs : (s.size : Int) ≤ 100000) :
    Calls Tryz.prog 62 #[.string s] w fun e w' => e = .returned (.agg #[.int .i64 0, .int .i64 0, .int .i64 0, .slice none 0 0]) ∧ Ext w w' := by
  have hc92 : ∀ w, Gl w → Calls Tryz.prog 92 #[.string s, .string ⟨#[32]⟩] w fun e w' => e = .returned (.tuple #[.string (mkB wd), .string (mkB r), .bool fd]) ∧ ∃ n, w' = w.drewN n := fun w hg => by
    have := cut92 s w hg (by omega)
    rwa [hc] at this
  have HG := Lib.hid hg
  have HNO := Lib.hid hno
  clear hc hg hno
  go_enter Tryz.func62, Tryz.ntmps62
  go_wp2_with fail
  refine (hc92 _ (HG.out.ext (Ext.new w _))).mono ?_
  rintro e w1 ⟨rfl, n, rfl⟩
  go_upto_region 2 with (fail)
  have E0 := Ext.al (Ext.drewN (Ext.new w (.cells #[.int .i64 0, .int .i64 0, .int .i64 0, .slice none 0 0] 77)) n) (.cells #[.string (mkB r)] 9)
  have kR : Blk _ w.heap.size 77 [.int .i64 0, .int .i64 0, .int .i64 0, .slice none 0 0] := ((Blk.new w [.int .i64 0, .int .i64 0, .int .i64 0, .slice none 0 0] 77).drewN n).ext (Ext.new _ (.cells #[.string (mkB r)] 9))
  obtain ⟨B, hB⟩ : ∃ B, w.heap.size + 1 = B := ⟨_, rfl⟩
  simp only [hB]
  replace hB : w.heap.size < B := by omega
  generalize World.alloc _ _ = W0 at E0 kR
  go_wp2_with fail
  go_loopw [6] (fun i wr => ∃ op : Int, 1 ≤ op ∧ op ≤ 14 ∧ i = .int .i64 op ∧ Blk wr w.heap.size 77 [.int .i64 0, .int .i64 0, .int .i64 0, .slice none 0 0] ∧ Hid (Ext w wr)) (fun i _ => (14 - intOf i).toNat)
  case atStart => exact ⟨1, by omega, by omega, rfl, kR, Lib.hid E0⟩
  case round =>
    clear E0 kR
    obtain ⟨op, h1, h2, rfl, kR, EW⟩ := hrel
    by_cases hlt : op < 14
    · have hnn := HNO.out op h1 hlt
      obtain ⟨nm, va, vb, few, all, ok, hv⟩ : ∃ nm va vb few all ok, verbS op = (⟨nm, va, vb, few, all⟩, ok) := ⟨_, _, _, _, _, _, rfl⟩
      have hne : (mkB nm) ≠ (mkB wd) := fun e => by
        have e2 : nm = wd := by have := congrArg (fun b => b.data.toList) e; simpa [mkB_toList] using this
        rw [hv] at hnn
        exact hnn e2
      have hne2 := str_ne hne
      clear hnn
      go_wp2_with fail
      refine (verbs93' op nm va vb few all ok hv _).mono ?_
      rintro e w2 ⟨rfl, he2⟩
      have kR2 := kR.ext he2
      have EW2 := Lib.hid (Ext.trans EW.out he2)
      clear he2 kR
      go_wp2_with fail
      go_roundw
      case rel => exact ⟨op + 1, by omega, by omega, rfl, kR2.ext (Ext.new _ _), Lib.hid (Ext.trans EW2.out (Ext.new _ _))⟩
      case measure => simp [intOf]; omega
    · obtain rfl : op = 14 := by omega
      clear hlt h1 h2
      have xR0 := kR.c0
      have xR1 := kR.c1
      have xR2 := kR.c2
      have xR3 := kR.c3
      have yR0 := kR.fz 0
      have yR1 := kR.fz 1
      have yR2 := kR.fz 2
      have yR3 := kR.fz 3
      have zR := kR.lt
      go_wp2_with fail
      have kR4 := (show Blk _ w.heap.size 77 [.int .i64 0, .int .i64 0, .int .i64 0, .slice none 0 0] from (((kR.set 0 (.int .i64 0)).set 1 (.int .i64 0)).set 2 (.int .i64 0)).set 3 (.slice none 0 0))
      have EW4 := Lib.hid (Ext.set (Ext.set (Ext.set (Ext.set EW.out (Nat.le_refl _) 0 (.int .i64 0)) (Nat.le_refl _) 1 (.int .i64 0)) (Nat.le_refl _) 2 (.int .i64 0)) (Nat.le_refl _) 3 (.slice none 0 0))
      clear xR0 xR1 xR2 xR3 yR0 yR1 yR2 yR3 zR kR EW
      generalize World.setCell _ _ _ = Z at kR4 EW4
      have xR0 := kR4.c0
      have xR1 := kR4.c1
      have xR2 := kR4.c2
      have xR3 := kR4.c3
      refine bodyPost_ret (v := .agg #[.int .i64 0, .int .i64 0, .int .i64 0, .slice none 0 0]) (by simp [results, Tryz.results62, go_sem, xR0, xR1, xR2, xR3]) rfl ?_
      exact ⟨rfl, EW4.out⟩

/-- The kind that a word names; 0: none. -/
def opOf (wd : List UInt8) : Int :=
  if wd = [82, 69, 65, 68] then 1 else if wd = [67, 65, 76, 76] then 2 else if wd = [83, 69, 84] then 3 else if wd = [65, 68, 68] then 4 else if wd = [87, 72, 69, 78] then 5 else if wd = [83, 65, 77, 69] then 6 else if wd = [71, 79] then 7 else if wd = [83, 69, 78, 68] then 8 else if wd = [80, 65, 83, 83] then 9 else if wd = [75, 69, 69, 80] then 10 else if wd = [66, 65, 67, 75] then 11 else if wd = [70, 65, 73, 76] then 12 else if wd = [69, 78, 68] then 13 else 0
/-- What readStep reads. -/
def readS (l : List UInt8) : Step := if opOf (cutB 32 l).1 = 0 then ⟨0, 0, 0, []⟩ else stepP (opOf (cutB 32 l).1) (cutB 32 l).2.1
theorem readStep62 (s : ByteArray) (w : World) (hg : Gl w) (hs : (s.size : Int) ≤ 100000) :
    Calls Tryz.prog 62 #[.string s] w fun e w' => ∃ T c, e = .returned (.agg #[.int .i64 (readS s.data.toList).op, .int .i64 (readS s.data.toList).a, .int .i64 (readS s.data.toList).b, .slice T (readS s.data.toList).texts.length c]) ∧ (readS s.data.toList).texts.length ≤ c ∧ Own w' w.heap.size (.slice T (readS s.data.toList).texts.length c) (readS s.data.toList).texts ∧ Ext w w' := by
  obtain ⟨wd, r, fd, hc⟩ : ∃ wd r fd, cutB 32 s.data.toList = (wd, r, fd) := ⟨_, _, _, rfl⟩
  by_cases h1 : wd = [82, 69, 65, 68]
  · subst h1
    have e1 : readS s.data.toList = stepP 1 r := by unfold readS; rw [hc]; rfl
    rw [e1]
    exact readStep62_1 s r fd hc w hg hs
  by_cases h2 : wd = [67, 65, 76, 76]
  · subst h2
    have e1 : readS s.data.toList = stepP 2 r := by unfold readS; rw [hc]; rfl
    rw [e1]
    exact readStep62_2 s r fd hc w hg hs
  by_cases h3 : wd = [83, 69, 84]
  · subst h3
    have e1 : readS s.data.toList = stepP 3 r := by unfold readS; rw [hc]; rfl
    rw [e1]
    exact readStep62_3 s r fd hc w hg hs
  by_cases h4 : wd = [65, 68, 68]
  · subst h4
    have e1 : readS s.data.toList = stepP 4 r := by unfold readS; rw [hc]; rfl
    rw [e1]
    exact readStep62_4 s r fd hc w hg hs
  by_cases h5 : wd = [87, 72, 69, 78]
  · subst h5
    have e1 : readS s.data.toList = stepP 5 r := by unfold readS; rw [hc]; rfl
    rw [e1]
    exact readStep62_5 s r fd hc w hg hs
  by_cases h6 : wd = [83, 65, 77, 69]
  · subst h6
    have e1 : readS s.data.toList = stepP 6 r := by unfold readS; rw [hc]; rfl
    rw [e1]
    exact readStep62_6 s r fd hc w hg hs
  by_cases h7 : wd = [71, 79]
  · subst h7
    have e1 : readS s.data.toList = stepP 7 r := by unfold readS; rw [hc]; rfl
    rw [e1]
    exact readStep62_7 s r fd hc w hg hs
  by_cases h8 : wd = [83, 69, 78, 68]
  · subst h8
    have e1 : readS s.data.toList = stepP 8 r := by unfold readS; rw [hc]; rfl
    rw [e1]
    exact readStep62_8 s r fd hc w hg hs
  by_cases h9 : wd = [80, 65, 83, 83]
  · subst h9
    have e1 : readS s.data.toList = stepP 9 r := by unfold readS; rw [hc]; rfl
    rw [e1]
    exact readStep62_9 s r fd hc w hg hs
  by_cases h10 : wd = [75, 69, 69, 80]
  · subst h10
    have e1 : readS s.data.toList = stepP 10 r := by unfold readS; rw [hc]; rfl
    rw [e1]
    exact readStep62_10 s r fd hc w hg hs
  by_cases h11 : wd = [66, 65, 67, 75]
  · subst h11
    have e1 : readS s.data.toList = stepP 11 r := by unfold readS; rw [hc]; rfl
    rw [e1]
    exact readStep62_11 s r fd hc w hg hs
  by_cases h12 : wd = [70, 65, 73, 76]
  · subst h12
    have e1 : readS s.data.toList = stepP 12 r := by unfold readS; rw [hc]; rfl
    rw [e1]
    exact readStep62_12 s r fd hc w hg hs
  by_cases h13 : wd = [69, 78, 68]
  · subst h13
    have e1 : readS s.data.toList = stepP 13 r := by unfold readS; rw [hc]; rfl
    rw [e1]
    exact readStep62_13 s r fd hc w hg hs
  have e0 : opOf wd = 0 := by unfold opOf; rw [if_neg h1, if_neg h2, if_neg h3, if_neg h4, if_neg h5, if_neg h6, if_neg h7, if_neg h8, if_neg h9, if_neg h10, if_neg h11, if_neg h12, if_neg h13]
  have e1 : readS s.data.toList = ⟨0, 0, 0, []⟩ := by unfold readS; rw [hc]; exact if_pos e0
  rw [e1]
  refine (readStep62_none s wd r fd hc (fun op o1 o2 e => ?_) w hg hs).mono ?_
  · rcases (by omega : op = 1 ∨ op = 2 ∨ op = 3 ∨ op = 4 ∨ op = 5 ∨ op = 6 ∨ op = 7 ∨ op = 8 ∨ op = 9 ∨ op = 10 ∨ op = 11 ∨ op = 12 ∨ op = 13) with rfl | rfl | rfl | rfl | rfl | rfl | rfl | rfl | rfl | rfl | rfl | rfl | rfl
    · exact h1 e.symm
    · exact h2 e.symm
    · exact h3 e.symm
    · exact h4 e.symm
    · exact h5 e.symm
    · exact h6 e.symm
    · exact h7 e.symm
    · exact h8 e.symm
    · exact h9 e.symm
    · exact h10 e.symm
    · exact h11 e.symm
    · exact h12 e.symm
    · exact h13 e.symm
  · rintro e w' ⟨rfl, he⟩
    exact ⟨none, 0, rfl, Nat.le_refl _, Own.none_ _ _, he⟩
end Go.Proofs.YtkdbajpdcadliaaGreatDoor.Pg
