/- Plain: the program of the law's own example. · Walks: First of the law: the chapter's own example. -/
import Derived.Test.YtkdbajpdcadliaaGreatDoorPb
import Derived.Test.YtkdbajpdcadliaaGreatDoorPs
import Derived.Test.YtkdbajpdcadliaaGreatDoorYh
import Derived.Test.YtkdbajpdcadliaaGreatDoorYd
import Derived.Test.YtkdbajpdcadliaaGreatDoorWv
set_option linter.unusedVariables false
namespace Go.Proofs.YtkdbajpdcadliaaGreatDoor.Pg

def nm0 : ByteArray := ⟨#[80]⟩
def got0 : ByteArray := ⟨#[103, 111, 116, 32, 36, 48]⟩
def gotx : ByteArray := ⟨#[103, 111, 116, 32, 120]⟩
def ss0 : List Step := [⟨1, 0, 0, []⟩, ⟨8, 0, 0, [got0]⟩, ⟨13, 0, 0, []⟩]
def lit0 : ByteArray := ⟨#[80, 82, 79, 71, 82, 65, 77, 32, 80, 10, 82, 69, 65, 68, 32, 48, 10, 83, 69, 78, 68, 32, 103, 111, 116, 32, 36, 48, 10, 69, 78, 68, 10]⟩
theorem dl0 : dl 0 = [48] := by
  unfold dl Lib.itoa
  rw [if_neg (by decide), show (0 : Int).toNat = 0 from rfl, decDigits_small 0 (by decide)]
  rfl
theorem text0 : formatS ⟨nm0, ss0⟩ = lit0 := by
  unfold formatS formatL ss0
  simp only [List.flatMap_cons, List.flatMap_nil, lineL, dl0]
  rfl
theorem valid0 : validS ⟨nm0, ss0⟩ = true := by decide +kernel
theorem parse0 : parseS lit0 = (⟨nm0, ss0⟩, 0) := by rw [← text0]; exact parseS_format valid0
def six0 : List ByteArray := [⟨#[]⟩, ⟨#[]⟩, ⟨#[]⟩, ⟨#[]⟩, ⟨#[]⟩, ⟨#[]⟩]
def sixx : List ByteArray := [⟨#[120]⟩, ⟨#[]⟩, ⟨#[]⟩, ⟨#[]⟩, ⟨#[]⟩, ⟨#[]⟩]
def r00 : RunS := ⟨0, six0, ⟨#[32, 32]⟩, 0, 0⟩
def r01 : RunS := ⟨1, sixx, ⟨#[32, 32]⟩, 1, 0⟩
theorem ok00 : RunOk (⟨nm0, ss0⟩ : Prog).steps.length r00 := runOk_iff.1 (by decide +kernel)
theorem ok01 : RunOk (⟨nm0, ss0⟩ : Prog).steps.length r01 := runOk_iff.1 (by decide +kernel)
theorem ask00 : askedR ⟨nm0, ss0⟩ r00 = 0 := asked_zero valid0 ok00
theorem ask01 : askedR ⟨nm0, ss0⟩ r01 = 0 := asked_zero valid0 ok01
theorem want00 : wantS ⟨nm0, ss0⟩ r00 = (r00, ⟨1, 0, 0, []⟩) := rfl
theorem fill0 : fillS sixx got0 = gotx := rfl
theorem want01 : wantS ⟨nm0, ss0⟩ r01 = (r01, ⟨8, 0, 0, [gotx]⟩) := rfl
theorem give00 : giveS ⟨nm0, ss0⟩ r00 ⟨#[32, 32]⟩ ⟨#[120]⟩ = (r01, 0) := by
  unfold giveS
  rw [if_neg (by rw [ask00]; simp), if_neg (by decide +kernel)]
  rfl
end Go.Proofs.YtkdbajpdcadliaaGreatDoor.Pg

set_option linter.unusedVariables false
namespace Go.Proofs.YtkdbajpdcadliaaGreatDoor.Pg
open Go.RowKit

theorem first_parse (w : World) (hg : Gl w) : Calls Tryz.prog 23 #[.string ⟨#[80, 82, 79, 71, 82, 65, 77, 32, 80, 10, 82, 69, 65, 68, 32, 48, 10, 83, 69, 78, 68, 32, 103, 111, 116, 32, 36, 48, 10, 69, 78, 68, 10]⟩] w fun e w' =>
    ∃ A c, e = .returned (.tuple #[.agg #[.string nm0, .slice A 3 c], .int .i64 0]) ∧ StepsAt w' A ss0 ∧ Ext w w' := by
  have h := parse23 lit0 w hg (by decide)
  rw [parse0] at h
  refine h.mono ?_
  rintro e w' ⟨A, c, he, hs, _, hx⟩
  exact ⟨A, c, he, hs, hx⟩
theorem bd0 : BdS ss0 := ⟨by decide, fun s hs => ⟨by
  simp only [ss0, List.mem_cons, List.not_mem_nil, or_false] at hs
  rcases hs with rfl | rfl | rfl <;> decide, fun x hx => by
  simp only [ss0, List.mem_cons, List.not_mem_nil, or_false] at hs
  rcases hs with rfl | rfl | rfl
  · cases hx
  · rcases List.mem_singleton.1 hx with rfl; decide
  · cases hx⟩⟩
theorem first_begin (A : Option Addr) (c : Nat) (w : World) (hs : StepsAt w A ss0) : Calls Tryz.prog 22 #[.agg #[.string nm0, .slice A 3 c]] w fun e w' =>
    ∃ T, e = .returned (.tuple #[runV 0 T 6 6 ⟨#[32, 32]⟩ 0 0, .int .i64 0]) ∧ Strs w' T six0 ∧ Ext w w' := by
  refine (begin22 nm0 A 3 c ss0 w hs rfl bd0 (by decide) valid0).mono ?_
  rintro e w' ⟨T, he, ho, hx⟩
  exact ⟨T, he, ho.strs.1, hx⟩
theorem bdsix : Bd six0 := ⟨by decide, fun x hx => by
  simp only [six0, List.mem_cons, List.not_mem_nil, or_false] at hx
  rcases hx with rfl | rfl | rfl | rfl | rfl | rfl <;> decide⟩
theorem bdsixx : Bd sixx := ⟨by decide, fun x hx => by
  simp only [sixx, List.mem_cons, List.not_mem_nil, or_false] at hx
  rcases hx with rfl | rfl | rfl | rfl | rfl | rfl <;> decide⟩
theorem wantR00 : wantR ⟨nm0, ss0⟩ r00 = (r00, ⟨1, 0, 0, []⟩, 0) := by unfold wantR; rw [if_pos ask00, want00]
theorem wantR01 : wantR ⟨nm0, ss0⟩ r01 = (r01, ⟨8, 0, 0, [gotx]⟩, 0) := by unfold wantR; rw [if_pos ask01, want01]
theorem first_want (A : Option Addr) (c : Nat) (T : Option Addr) (d : Nat) (w : World) (hs : StepsAt w A ss0) (hx : Strs w T six0) (hg : Gl w) (hgw : GlB w.heap.size) :
    Calls Tryz.prog 15 #[.agg #[.string nm0, .slice A 3 c], runV 0 T 6 d ⟨#[32, 32]⟩ 0 0] w fun e w' =>
      ∃ T' d' Tw cw, e = .returned (.tuple #[runV 0 T' 6 d' ⟨#[32, 32]⟩ 0 0, .agg #[.int .i64 1, .int .i64 0, .int .i64 0, .slice Tw 0 cw], .int .i64 0]) ∧ Strs w' T' six0 ∧ Ext w w' := by
  have h := want15 nm0 A 3 c ss0 0 0 0 T 6 d six0 ⟨#[32, 32]⟩ w hs rfl bd0 (by decide) hx rfl bdsix hg hgw
  rw [show wantR ⟨nm0, ss0⟩ ⟨0, six0, ⟨#[32, 32]⟩, 0, 0⟩ = (r00, ⟨1, 0, 0, []⟩, 0) from wantR00] at h
  refine h.mono ?_
  rintro e w' ⟨T', k', d', Tw, nw, cw, he, h1, h2, h3, h4, h5⟩
  obtain rfl : 6 = k' := h2
  obtain rfl : 0 = nw := h4
  exact ⟨T', d', Tw, cw, he, h1, h5⟩
theorem bad00 : giveBad ⟨nm0, ss0⟩ ⟨0, six0, ⟨#[32, 32]⟩, 0, 0⟩ ⟨#[32, 32]⟩ ⟨#[120]⟩ = false := by decide +kernel
theorem first_give (A : Option Addr) (c : Nat) (T : Option Addr) (d : Nat) (w : World) (hs : StepsAt w A ss0) (hx : Strs w T six0) :
    Calls Tryz.prog 19 #[.agg #[.string nm0, .slice A 3 c], runV 0 T 6 d ⟨#[32, 32]⟩ 0 0, .string ⟨#[32, 32]⟩, .string ⟨#[120]⟩] w fun e w' =>
      ∃ T' d', e = .returned (.tuple #[runV 1 T' 6 d' ⟨#[32, 32]⟩ 1 0, .int .i64 0]) ∧ Strs w' T' sixx ∧ Ext w w' := by
  have h := give19_rd0 nm0 A 3 c ss0 0 0 0 T 6 d six0 ⟨#[32, 32]⟩ ⟨#[32, 32]⟩ ⟨#[120]⟩ w hs rfl bd0 (by decide) hx rfl bdsix (by decide) (by decide) ask00 bad00 rfl rfl
  rw [show giveS ⟨nm0, ss0⟩ ⟨0, six0, ⟨#[32, 32]⟩, 0, 0⟩ ⟨#[32, 32]⟩ ⟨#[120]⟩ = (r01, 0) from give00] at h
  refine h.mono ?_
  rintro e w' ⟨T', k', d', he, h1, h2, h5⟩
  obtain rfl : 6 = k' := h2
  exact ⟨T', d', he, h1, h5⟩
theorem first_want2 (A : Option Addr) (c : Nat) (T : Option Addr) (d : Nat) (w : World) (hs : StepsAt w A ss0) (hx : Strs w T sixx) (hg : Gl w) (hgw : GlB w.heap.size) :
    Calls Tryz.prog 15 #[.agg #[.string nm0, .slice A 3 c], runV 1 T 6 d ⟨#[32, 32]⟩ 1 0] w fun e w' =>
      ∃ T' d' ad cw, e = .returned (.tuple #[runV 1 T' 6 d' ⟨#[32, 32]⟩ 1 0, .agg #[.int .i64 8, .int .i64 0, .int .i64 0, .slice (some ad) 1 cw], .int .i64 0]) ∧ w'.cell? ad = some (.string gotx) ∧ Ext w w' := by
  have h := want15 nm0 A 3 c ss0 1 1 0 T 6 d sixx ⟨#[32, 32]⟩ w hs rfl bd0 (by decide) hx rfl bdsixx hg hgw
  rw [show wantR ⟨nm0, ss0⟩ ⟨1, sixx, ⟨#[32, 32]⟩, 1, 0⟩ = (r01, ⟨8, 0, 0, [gotx]⟩, 0) from wantR01] at h
  refine h.mono ?_
  rintro e w' ⟨T', k', d', Tw, nw, cw, he, h1, h2, h3, h4, h5⟩
  obtain rfl : 6 = k' := h2
  obtain rfl : 1 = nw := h4
  obtain ⟨ad, rfl, hc⟩ := h3 0 (by decide)
  exact ⟨T', d', ad, cw, he, hc, h5⟩
theorem six_ne {w : World} {T : Option Addr} {xs : List ByteArray} {b : Nat} {Ty : TypeId} {v0 v1 v2 v3 v4 : Value} (hs : Strs w T xs) (hl : xs.length = 6) (hb : Blk w b Ty [v0, v1, v2, v3, v4]) : ∀ ad, T = some ad → ad.block ≠ b := by
  intro ad e hbk
  obtain ⟨ad2, e2, hc⟩ := hs 5 (by omega)
  rw [e] at e2
  cases e2
  have ha : ad.add 5 = ⟨b, ad.off + 5, none⟩ := by unfold Addr.add; rw [if_neg (by decide), hbk]
  rw [ha, hb.at_ (ad.off + 5)] at hc
  simp at hc
theorem Strs.kept {w w' : World} {T : Option Addr} {xs : List ByteArray} {b : Nat} (hs : Strs w T xs) (hg : w.grownBy w' (some b)) (hA : ∀ ad, T = some ad → ad.block ≠ b) : Strs w' T xs := by
  intro i hi
  obtain ⟨ad, e, hc⟩ := hs i hi
  refine ⟨ad, e, hg.cell hc ?_⟩
  have hab : (ad.add i).block = ad.block := by unfold Addr.add; split <;> rfl
  rw [hab]
  intro h
  exact hA ad e (Option.some.inj h)
theorem GlB.ext {w w' : World} (h : GlB w.heap.size) (he : Ext w w') : GlB w'.heap.size := ⟨Nat.le_trans h.ge he.size⟩

set_option maxRecDepth 100000 in
set_option maxHeartbeats 4000000 in
theorem first14 (w : World) (hg : Gl w) (hgw : GlB w.heap.size) : Calls Tryz.prog 14 #[] w fun e w' => e = .returned (.bool true) ∧ Ext w w' := by
  have HG := Lib.hid hg
  have HGW := Lib.hid hgw
  clear hg hgw
  go_enter Tryz.func14, Tryz.ntmps14
  go_wp2_with fail
  refine (first_parse w HG.out).mono ?_
  rintro e w1 ⟨A, c, rfl, hs, E1⟩
  go_upto_region 2 with (fail)
  have kP := Blk.new w1 [.string nm0, .slice A 3 c] 24
  have HS1 := Lib.hid hs
  have HE1 := Lib.hid E1
  replace hs := hs.ext (Ext.new w1 (.cells #[.string nm0, .slice A 3 c] 24))
  replace E1 := Ext.al E1 (.cells #[.string nm0, .slice A 3 c] 24)
  obtain ⟨B1, hB1⟩ : ∃ B1, w1.heap.size = B1 := ⟨_, rfl⟩
  rw [hB1] at kP
  try simp only [hB1]
  have hEw1 := Ext.new w1 (.cells #[.string nm0, .slice A 3 c] 24)
  generalize World.alloc _ _ = W1 at kP hs E1 hEw1
  have p0 := kP.c0
  have p1 := kP.c1
  have HS := Lib.hid hs
  have HE := Lib.hid E1
  clear hs E1
  go_wp2_with fail
  refine (first_begin A c W1 HS.out).mono ?_
  rintro e w2 ⟨T, rfl, hx, E2⟩
  unfold runV
  go_upto_region 3 with (fail)
  have kB := Blk.new w2 [.int .i64 0, .slice T 6 6, .string ⟨#[32, 32]⟩, .int .i64 0, .int .i64 0] 27
  have eN := Ext.new w2 (.cells #[.int .i64 0, .slice T 6 6, .string ⟨#[32, 32]⟩, .int .i64 0, .int .i64 0] 27)
  obtain ⟨B2, hB2⟩ : ∃ B2, w2.heap.size = B2 := ⟨_, rfl⟩
  rw [hB2] at kB
  try simp only [hB2]
  have kP2 := (kP.ext E2).ext eN
  have hx2 := hx.ext eN
  have E3 := Ext.trans (Ext.trans HE.out E2) eN
  have hlt : B1 < B2 := by have := (kP.ext E2).lt; omega
  have hs2 := HS.out.ext (Ext.trans E2 eN)
  have hE1W := Ext.trans (Ext.trans hEw1 E2) eN
  generalize World.alloc _ _ = W2 at kB kP2 hx2 E3 hs2 hE1W
  clear p0 p1 kP hx E2 eN
  have HS2 : Hid (StepsAt W2 A ss0) := Lib.hid hs2
  have p0 := kP2.c0
  have p1 := kP2.c1
  have b0 := kB.c0
  have b1 := kB.c1
  have b2 := kB.c2
  have b3 := kB.c3
  have b4 := kB.c4
  have E1W : Ext w1 W2 := hE1W
  go_wp2_with fail
  refine (first_want A c T 6 W2 HS2.out hx2 (HG.out.ext E3) (HGW.out.ext E3)).mono ?_
  rintro e w3 ⟨T', d', Tw, cw, rfl, hx3, E4⟩
  unfold runV
  have kB3 := kB.ext E4
  have kP3 := kP2.ext E4
  have hlt3 : B2 < w3.heap.size := kB3.lt
  have hne3 : B2 ≠ w3.heap.size := by omega
  have hne31 : B1 ≠ w3.heap.size := by omega
  clear p0 p1 b0 b1 b2 b3 b4
  have b0 := kB3.c0
  have b1 := kB3.c1
  have b2 := kB3.c2
  have b3 := kB3.c3
  have b4 := kB3.c4
  have bz0 := kB3.fz 0
  have bz1 := kB3.fz 1
  have bz2 := kB3.fz 2
  have bz3 := kB3.fz 3
  have bz4 := kB3.fz 4
  go_upto_region 4 with (fail)
  clear b0 b1 b2 b3 b4 bz0 bz1 bz2 bz3 bz4
  have hB12 : B1 ≠ B2 := by omega
  have hg5 := grown_put5 w3 B2 (.int .i64 0) (.slice T' 6 d') (.string ⟨#[32, 32]⟩) (.int .i64 0) (.int .i64 0)
  have eA := Ext.new (put5 w3 B2 (.int .i64 0) (.slice T' 6 d') (.string ⟨#[32, 32]⟩) (.int .i64 0) (.int .i64 0)) (.cells #[.int .i64 1, .int .i64 0, .int .i64 0, .slice Tw 0 cw] 34)
  have kW4 := Blk.new (put5 w3 B2 (.int .i64 0) (.slice T' 6 d') (.string ⟨#[32, 32]⟩) (.int .i64 0) (.int .i64 0)) [.int .i64 1, .int .i64 0, .int .i64 0, .slice Tw 0 cw] 34
  have kB4 := (kB3.put5 (.int .i64 0) (.slice T' 6 d') (.string ⟨#[32, 32]⟩) (.int .i64 0) (.int .i64 0)).ext eA
  have kP4 := (kP3.kept hg5 hB12).ext eA
  have hx4 := ((hx3.kept hg5 (six_ne hx3 rfl kB3))).ext eA
  have e14 : Ext w1 (put5 w3 B2 (.int .i64 0) (.slice T' 6 d') (.string ⟨#[32, 32]⟩) (.int .i64 0) (.int .i64 0)) := (Ext.trans E1W E4).grown hg5 (by omega)
  have hs4 := (HS1.out.ext e14).ext eA
  have e04 : Ext w _ := Ext.trans (Ext.trans HE1.out e14) eA
  simp only [put5] at kW4 kB4 kP4 hx4 hs4 e04
  obtain ⟨B3, hB3⟩ : ∃ B3, (put5 w3 B2 (.int .i64 0) (.slice T' 6 d') (.string ⟨#[32, 32]⟩) (.int .i64 0) (.int .i64 0)).heap.size = B3 := ⟨_, rfl⟩
  have hB3' : w3.heap.size = B3 := by rw [← hB3]; simp [World.setCell]
  simp only [put5] at hB3
  rw [hB3] at kW4
  have e14x := Ext.trans e14 eA
  simp only [put5] at e14x
  try simp only [hB3']
  generalize World.alloc _ _ = W4 at kW4 kB4 kP4 hx4 hs4 e04 e14x
  clear e14 eA hg5 kB3 kP3 hx3 hx2 hs2 hne3 hne31
  have h23 : B2 < B3 := by omega
  have p0 := kP4.c0
  have p1 := kP4.c1
  have b0 := kB4.c0
  have b1 := kB4.c1
  have b2 := kB4.c2
  have b3 := kB4.c3
  have b4 := kB4.c4
  have HS4 := Lib.hid hs4
  have HX4 := Lib.hid hx4
  have HE4 := Lib.hid e04
  have HE14 := Lib.hid e14x
  clear hs4 hx4 e04 e14x
  go_wp2_with fail
  refine (first_give A c T' d' W4 HS4.out HX4.out).mono ?_
  rintro e w5 ⟨T2, d2, rfl, hx5, E5⟩
  unfold runV
  clear p0 p1 b0 b1 b2 b3 b4
  have kB5 := kB4.ext E5
  have kP5 := kP4.ext E5
  have kW5 := kW4.ext E5
  have b0 := kB5.c0
  have b1 := kB5.c1
  have b2 := kB5.c2
  have b3 := kB5.c3
  have b4 := kB5.c4
  have bz0 := kB5.fz 0
  have bz1 := kB5.fz 1
  have bz2 := kB5.fz 2
  have bz3 := kB5.fz 3
  have bz4 := kB5.fz 4
  go_upto_region 5 with (fail)
  clear b0 b1 b2 b3 b4 bz0 bz1 bz2 bz3 bz4
  have hg6 := grown_put5 w5 B2 (.int .i64 1) (.slice T2 6 d2) (.string ⟨#[32, 32]⟩) (.int .i64 1) (.int .i64 0)
  have kB6 := kB5.put5 (.int .i64 1) (.slice T2 6 d2) (.string ⟨#[32, 32]⟩) (.int .i64 1) (.int .i64 0)
  have kP6 := kP5.kept hg6 hB12
  have kW6 := kW5.kept hg6 (by omega : B3 ≠ B2)
  have hx6 := hx5.kept hg6 (six_ne hx5 rfl kB5)
  have e16 := (Ext.trans HE14.out E5).grown hg6 (by omega)
  have e06 := (Ext.trans HE4.out E5).grown hg6 (by have := HE1.out.size; omega)
  have hs6 := HS1.out.ext e16
  simp only [put5] at kB6 kP6 kW6 hx6 e16 e06 hs6
  generalize World.setCell _ _ _ = W6 at kB6 kP6 kW6 hx6 e16 e06 hs6
  have p0 := kP6.c0
  have p1 := kP6.c1
  have b0 := kB6.c0
  have b1 := kB6.c1
  have b2 := kB6.c2
  have b3 := kB6.c3
  have b4 := kB6.c4
  go_wp2_with fail
  refine (first_want2 A c T2 d2 W6 hs6 hx6 (HG.out.ext e06) (HGW.out.ext e06)).mono ?_
  rintro e w7 ⟨T3, d3, ad, c3, rfl, hc7, E7⟩
  unfold runV
  have kW7 := kW6.ext E7
  have f0 := kW7.c0
  have lt7 := kW7.lt
  have ne7 : B3 ≠ w7.heap.size := by omega
  have ne8 : B3 ≠ w7.heap.size + 1 := by omega
  have hab := World.block_lt_of_cell? w7 _ hc7
  have ne9 : ad.block ≠ w7.heap.size := by omega
  have ne10 : ad.block ≠ w7.heap.size + 1 := by omega
  have E8 := Lib.hid (Ext.trans e06 E7)
  go_upto_region 6 with (fail)
  have y : (gotx.toList == [103, 111, 116, 32, 120]) = true := st_yes (b := gotx) rfl rfl
  go_wp2_with fail
  go_ret
  exact ⟨rfl, Ext.al (Ext.al E8.out _) _⟩
end Go.Proofs.YtkdbajpdcadliaaGreatDoor.Pg
