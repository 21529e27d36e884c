/- Walks: Same of both sides, of two programs that are alike. -/
import Derived.Test.YtkdbajpdcadliaaGreatDoorXg
import Derived.Test.YtkdbajpdcadliaaGreatDoorWm
set_option linter.unusedVariables false
namespace Go.Proofs.YtkdbajpdcadliaaGreatDoor.Pg
open Go.RowKit

set_option maxRecDepth 100000 in
theorem same75 (op a b : Int) (T U : Option Addr) (n c d : Nat) (xs : List ByteArray) (w : World) (hx : Strs w T xs) (hy : Strs w U xs) (hl : xs.length = n) (hb : (n : Int) ≤ 9223372036854775807) :
    Calls Tryz.prog 75 #[.agg #[.int .i64 op, .int .i64 a, .int .i64 b, .slice T n c], .agg #[.int .i64 op, .int .i64 a, .int .i64 b, .slice U n d]] w fun e w' => e = .returned (.bool true) ∧ Ext w w' := by
  have E0 := Ext.al (Ext.new w (.cells #[.int .i64 op, .int .i64 a, .int .i64 b, .slice T n c] 77)) (.cells #[.int .i64 op, .int .i64 a, .int .i64 b, .slice U n d] 77)
  have kA := (Blk.new w [.int .i64 op, .int .i64 a, .int .i64 b, .slice T n c] 77).ext (Ext.new _ (.cells #[.int .i64 op, .int .i64 a, .int .i64 b, .slice U n d] 77))
  have kB := Blk.new (w.alloc (.cells #[.int .i64 op, .int .i64 a, .int .i64 b, .slice T n c] 77)) [.int .i64 op, .int .i64 a, .int .i64 b, .slice U n d] 77
  simp only [World.size_alloc] at kB
  obtain ⟨R, hR⟩ : ∃ R, w.heap.size = R := ⟨_, rfl⟩
  have HX := Lib.hid hx
  have HY := Lib.hid hy
  have HL := Lib.hid hl
  clear hx hy hl
  go_enter Tryz.func75, Tryz.ntmps75
  go_upto_region 1 with (fail)
  rw [hR] at kA kB
  try simp only [hR]
  generalize World.alloc _ _ = W0 at E0 kA kB
  have HE0 := Lib.hid E0
  clear E0
  have a0 := kA.c0
  have a1 := kA.c1
  have a2 := kA.c2
  have a3 := kA.c3
  have b0 := kB.c0
  have b1 := kB.c1
  have b2 := kB.c2
  have b3 := kB.c3
  go_wp2_with fail
  refine (equal68 T U n n c d xs xs _ (HX.out.ext HE0.out) (HY.out.ext HE0.out) HL.out HL.out (by omega) (by omega)).mono ?_
  rintro e w1 ⟨rfl, he⟩
  have HE1 := Lib.hid (Ext.trans HE0.out he)
  rw [decide_eq_true (rfl : xs = xs)]
  clear he a0 a1 a2 a3 b0 b1 b2 b3
  go_wp2_with fail
  go_ret
  exact ⟨ret_bool rfl, HE1.out⟩

set_option maxRecDepth 100000 in
theorem equalFunc74 (A B : Option Addr) (n c d : Nat) (ss : List Step) (w : World) (hx : StepsAt w A ss) (hy : StepsAt w B ss) (hl : ss.length = n) (hb : BdS ss) :
    Calls Tryz.prog 74 #[.slice A n c, .slice B n d, .func (.func 75) #[] #[]] w fun e w' => e = .returned (.bool true) ∧ Ext w w' := by
  have HX := Lib.hid hx
  have HY := Lib.hid hy
  have HL := Lib.hid hl
  have HB := Lib.hid hb
  have hn : (n : Int) ≤ 1000000000 := by rw [← hl]; exact hb.len
  clear hx hy hl hb
  go_enter Tryz.func74, Tryz.ntmps74
  go_wp2_with fail
  go_loopw [17] (fun i wr => ∃ k : Nat, k ≤ n ∧ i = .int .i64 k ∧ Hid (Ext w wr)) (fun i _ => n - (intOf i).toNat)
  case atStart => exact ⟨0, Nat.zero_le _, rfl, Lib.hid (Ext.refl w)⟩
  case round =>
    obtain ⟨k, hk, rfl, he⟩ := hrel
    by_cases hlt : k < n
    · have lx : k < ss.length := by have := HL.out; omega
      obtain ⟨ad, T, c', hA, hc0, hc1, hc2, hc3, hcc, hT⟩ := (HX.out.ext he.out) k lx
      subst hA
      obtain ⟨bd, U, d', hB, hd0, hd1, hd2, hd3, hdd, hU⟩ := (HY.out.ext he.out) k lx
      subst hB
      have hlen : (ss[k].texts.length : Int) ≤ 9223372036854775807 := by have := (HB.out.at_ k lx).len; omega
      have HT := Lib.hid hT
      have HU := Lib.hid hU
      have eN := Ext.new wr (.cells #[.int .i64 ss[k].op, .int .i64 ss[k].a, .int .i64 ss[k].b, .slice T ss[k].texts.length c'] 77)
      replace hd0 := eN.cell hd0
      replace hd1 := eN.cell hd1
      replace hd2 := eN.cell hd2
      replace hd3 := eN.cell hd3
      clear hT hU eN
      go_wp2_with fail
      refine (same75 _ _ _ T U _ _ _ ss[k].texts _ (HT.out.ext (Ext.al (Ext.new _ _) _)) (HU.out.ext (Ext.al (Ext.new _ _) _)) rfl hlen).mono ?_
      rintro e w1 ⟨rfl, he1⟩
      have HE1 := Lib.hid (Ext.trans (Ext.al (Ext.al he.out _) _) he1)
      clear he1
      go_wp2_with fail
      go_roundw
      case rel => exact ⟨k + 1, by omega, by go_num, HE1⟩
      case measure => simp [intOf]; omega
    · go_wp2_with fail
      go_ret
      exact ⟨ret_bool rfl, he.out⟩

set_option maxRecDepth 100000 in
theorem same36 (nm : ByteArray) (A B : Option Addr) (n c d : Nat) (ss : List Step) (w : World) (hx : StepsAt w A ss) (hy : StepsAt w B ss) (hl : ss.length = n) (hb : BdS ss) :
    Calls Tryz.prog 36 #[.agg #[.string nm, .slice A n c], .agg #[.string nm, .slice B n d]] w fun e w' => e = .returned (.bool true) ∧ Ext w w' := by
  have HX := Lib.hid hx
  have HY := Lib.hid hy
  have HL := Lib.hid hl
  have HB := Lib.hid hb
  have hn : (n : Int) ≤ 1000000000 := by rw [← hl]; exact hb.len
  clear hx hy hl hb
  have qs : (nm.toList == nm.toList) = true := str_eq rfl
  go_enter Tryz.func36, Tryz.ntmps36
  go_wp2_with fail
  refine (equalFunc74 A B n c d ss _ (HX.out.ext (Ext.al (Ext.new _ _) _)) (HY.out.ext (Ext.al (Ext.new _ _) _)) HL.out HB.out).mono ?_
  rintro e w1 ⟨rfl, he⟩
  go_wp2_with fail
  go_ret
  exact ⟨ret_bool rfl, Ext.trans (Ext.al (Ext.new _ _) _) he⟩

set_option maxRecDepth 100000 in
set_option maxHeartbeats 2000000 in
theorem same25 (nm : ByteArray) (A B : Option Addr) (n c d : Nat) (ss : List Step) (w : World) (hx : StepsAt w A ss) (hy : StepsAt w B ss) (hl : ss.length = n) (hb : BdS ss) :
    Calls Tryz.prog 25 #[.agg #[.string nm, .slice A n c], .agg #[.string nm, .slice B n d]] w fun e w' => e = .returned (.bool true) ∧ Ext w w' := by
  have E0 := Ext.al (Ext.new w (.cells #[.string nm, .slice A n c] 24)) (.cells #[.string nm, .slice B n d] 24)
  have kA := (Blk.new w [.string nm, .slice A n c] 24).ext (Ext.new _ (.cells #[.string nm, .slice B n d] 24))
  have kB := Blk.new (w.alloc (.cells #[.string nm, .slice A n c] 24)) [.string nm, .slice B n d] 24
  simp only [World.size_alloc] at kB
  obtain ⟨R, hR⟩ : ∃ R, w.heap.size = R := ⟨_, rfl⟩
  have HX := Lib.hid hx
  have HY := Lib.hid hy
  have HL := Lib.hid hl
  have HB := Lib.hid hb
  have hn : (n : Int) ≤ 1000000000 := by rw [← hl]; exact hb.len
  clear hx hy hl hb
  have qs : (nm.toList == nm.toList) = true := str_eq rfl
  go_enter Tryz.func25, Tryz.ntmps25
  go_upto_region 1 with (fail)
  rw [hR] at kA kB
  try simp only [hR]
  generalize World.alloc _ _ = W0 at E0 kA kB
  have HE0 := Lib.hid E0
  clear E0
  have KA := Lib.hid kA
  have KB := Lib.hid kB
  have a0 := kA.c0
  have a1 := kA.c1
  have b0 := kB.c0
  have b1 := kB.c1
  clear kA kB
  go_wp2_with fail
  clear a0 a1 b0 b1
  go_loopw [5] (fun i wr => ∃ k : Nat, k ≤ n ∧ i = .int .i64 k ∧ Hid (Ext W0 wr)) (fun i _ => n - (intOf i).toNat)
  case atStart => exact ⟨0, Nat.zero_le _, rfl, Lib.hid (Ext.refl W0)⟩
  case round =>
    obtain ⟨k, hk, rfl, he⟩ := hrel
    have a1 := (KA.out.ext he.out).c1
    have b1 := (KB.out.ext he.out).c1
    by_cases hlt : k < n
    · have lx : k < ss.length := by have := HL.out; omega
      obtain ⟨ad, T, c', hA, hc0, hc1, hc2, hc3, hcc, hT⟩ := (HX.out.ext (Ext.trans HE0.out he.out)) k lx
      subst hA
      obtain ⟨bd, U, d', hB, hd0, hd1, hd2, hd3, hdd, hU⟩ := (HY.out.ext (Ext.trans HE0.out he.out)) k lx
      subst hB
      have hlen : ss[k].texts.length ≤ 9223372036854775807 := by have := (HB.out.at_ k lx).len; omega
      have HT := Lib.hid hT
      have HU := Lib.hid hU
      have a1Y := fun o => (Ext.new wr o).cell a1
      have a1Z := fun o1 o2 => (Ext.al (Ext.new wr o1) o2).cell a1
      have hc0Y := fun o => (Ext.new wr o).cell hc0
      have hc0Z := fun o1 o2 => (Ext.al (Ext.new wr o1) o2).cell hc0
      have hc1Y := fun o => (Ext.new wr o).cell hc1
      have hc1Z := fun o1 o2 => (Ext.al (Ext.new wr o1) o2).cell hc1
      have hc2Y := fun o => (Ext.new wr o).cell hc2
      have hc2Z := fun o1 o2 => (Ext.al (Ext.new wr o1) o2).cell hc2
      have hc3Y := fun o => (Ext.new wr o).cell hc3
      have hc3Z := fun o1 o2 => (Ext.al (Ext.new wr o1) o2).cell hc3
      have b1Y := fun o => (Ext.new wr o).cell b1
      have b1Z := fun o1 o2 => (Ext.al (Ext.new wr o1) o2).cell b1
      have hd0Y := fun o => (Ext.new wr o).cell hd0
      have hd0Z := fun o1 o2 => (Ext.al (Ext.new wr o1) o2).cell hd0
      have hd1Y := fun o => (Ext.new wr o).cell hd1
      have hd1Z := fun o1 o2 => (Ext.al (Ext.new wr o1) o2).cell hd1
      have hd2Y := fun o => (Ext.new wr o).cell hd2
      have hd2Z := fun o1 o2 => (Ext.al (Ext.new wr o1) o2).cell hd2
      have hd3Y := fun o => (Ext.new wr o).cell hd3
      have hd3Z := fun o1 o2 => (Ext.al (Ext.new wr o1) o2).cell hd3
      clear hT hU
      go_upto_region 6 with (fail)
      go_region
      all_goals
        clear hc0 hc1 hc2 hc3 hd0 hd1 hd2 hd3 hc0Y hc1Y hc2Y hc3Y hd0Y hd1Y hd2Y hd3Y a1Y b1Y
        go_wp2_with fail
        refine (sameTexts55 T U _ _ _ _ ss[k].texts ss[k].texts _ (HT.out.ext (Below.drew (Ext.al (Ext.new _ _) _))) (HU.out.ext (Below.drew (Ext.al (Ext.new _ _) _))) rfl rfl hlen hlen).mono ?_
        rintro e w1 ⟨rfl, he1⟩
        rw [decide_eq_true (rfl : ss[k].texts = ss[k].texts)]
        have HE1 := Lib.hid (Ext.trans (Below.drew (Ext.al (Ext.al he.out _) _)) he1)
        clear he1
        go_wp2_with fail
        go_roundw
        case rel => exact ⟨k + 1, by omega, by go_num, HE1⟩
        case measure => simp [intOf]; omega
    · go_wp2_with fail
      go_ret
      exact ⟨ret_bool rfl, Ext.trans HE0.out he.out⟩
end Go.Proofs.YtkdbajpdcadliaaGreatDoor.Pg
