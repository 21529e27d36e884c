/- Walks: the law ProgramParses. -/
import Derived.Test.YtkdbajpdcadliaaGreatDoorYi
import Derived.Test.YtkdbajpdcadliaaGreatDoorXh
import Derived.Test.YtkdbajpdcadliaaGreatDoorYx
set_option linter.unusedVariables false
namespace Go.Proofs.YtkdbajpdcadliaaGreatDoor.Pg
open Go.RowKit

theorem valid_bd {p : Prog} (h : validS p = true) : BdS p.steps ∧ (p.name.size : Int) ≤ 1000 := by
  have hk := validOk h
  have hn := hk.name
  refine ⟨⟨by have := hk.len; omega, fun s hs => ?_⟩, ?_⟩
  · have hs := hk.each s hs
    have h1 := hs.all
    have h2 : (verbS s.op).1.all ≤ 7 := by
      rcases verb_cases hs.verb with e | e | e | e | e | e | e | e | e | e | e | e | e <;> rw [e] <;> decide
    exact ⟨by omega, fun x hx => by have := hs.size x hx; omega⟩
  · unfold isNameS at hn
    simp only [Bool.and_eq_true, decide_eq_true_eq] at hn
    omega
theorem parseS_bd (s : ByteArray) : BdS (parseS s).1.steps ∧ ((parseS s).1.name.size : Int) ≤ 1000 ∧ ((parseS s).2 = 0 ∧ validS (parseS s).1 = true ∧ formatS (parseS s).1 = s ∨ (parseS s).2 = 3) := by
  unfold parseS
  split
  · rename_i h
    exact ⟨(valid_bd h.1).1, (valid_bd h.1).2, .inl ⟨rfl, h.1, h.2⟩⟩
  · exact ⟨⟨by simp, fun s hs => by cases hs⟩, by show ((0 : Nat) : Int) ≤ 1000; decide, .inr rfl⟩

set_option maxRecDepth 100000 in
set_option maxHeartbeats 4000000 in
theorem law5 (s : ByteArray) (w : World) (hsz : (s.size : Int) ≤ 9223372036854775807) (hg : Gl w) (hgw : GlB w.heap.size) :
    Calls Tryz.prog 5 #[.string s] w fun e w' => e = .returned (.bool true) ∧ Ext w w' := by
  have HG := Lib.hid hg
  have HF := Lib.hid (fun w' (h : Ext w w') => first14 w' (hg.ext h) (hgw.ext h))
  clear hg hgw
  have HE0 := Lib.hid (Ext.refl w)
  by_cases h5 : (5000 : Int) < (s.size : Int)
  · go_enter Tryz.func5, Tryz.ntmps5
    go_wp2_with fail
    refine (HF.out _ HE0.out).mono ?_
    rintro e wz ⟨rfl, he⟩
    have HEZ := Lib.hid (Ext.trans HE0.out he)
    clear he
    go_wp2
    go_ret
    exact ⟨rfl, HEZ.out⟩
  have H23 := Lib.hid (parse23 s w HG.out (by omega))
  have H24 := Lib.hid (fun w' => parse24 s w' (by omega))
  obtain ⟨hb1, hb2, hb3⟩ := parseS_bd s
  simp only [parseR_eq] at H24
  obtain ⟨⟨⟨nm, ss⟩, pe⟩, hP⟩ : ∃ x, parseS s = x := ⟨_, rfl⟩
  simp only [hP] at H23 H24 hb1 hb2 hb3
  have HB := Lib.hid hb1
  have HB3 := Lib.hid hb3
  clear hP hb1 hb3
  go_enter Tryz.func5, Tryz.ntmps5
  go_wp2_with fail
  refine H23.out.mono ?_
  rintro e w1 ⟨A, c, rfl, hS, hc, he⟩
  go_upto_region 4 with (fail)
  have eN := Ext.new w1 (.cells #[.string nm, .slice A ss.length c] 24)
  have kP := Blk.new w1 [.string nm, .slice A ss.length c] 24
  obtain ⟨R, hR⟩ : ∃ R, w1.heap.size = R := ⟨_, rfl⟩
  rw [hR] at kP
  try simp only [hR]
  have E0 := Ext.trans he eN
  replace hS := hS.ext eN
  generalize World.alloc _ _ = w2 at kP E0 hS
  clear eN hR hc he H23
  have HS := Lib.hid hS
  have HE := Lib.hid E0
  clear hS E0
  go_wp2_with fail
  refine (H24.out _).mono ?_
  rintro e w3 ⟨B, d, rfl, hS2, he⟩
  go_upto_region 5 with (fail)
  have eN := Ext.new w3 (.cells #[.string nm, .slice B ss.length d] 24)
  have kQ := Blk.new w3 [.string nm, .slice B ss.length d] 24
  obtain ⟨Q, hQ⟩ : ∃ Q, w3.heap.size = Q := ⟨_, rfl⟩
  rw [hQ] at kQ
  try simp only [hQ]
  have E1 := Ext.trans he eN
  replace hS2 := hS2.ext eN
  replace kP := kP.ext E1
  generalize World.alloc _ _ = w4 at kP kQ E1 hS2
  clear eN hQ he H24
  have HS1 := Lib.hid (HS.out.ext E1)
  have HS2 := Lib.hid hS2
  have HE1 := Lib.hid (Ext.trans HE.out E1)
  clear hS2 E1
  have p0 := kP.c0
  have p1 := kP.c1
  have q0 := kQ.c0
  have q1 := kQ.c1
  go_wp2_with fail
  refine (same25 nm A B ss.length c d ss _ HS1.out HS2.out rfl HB.out).mono ?_
  rintro e w5 ⟨rfl, he⟩
  have HE5 := Lib.hid (Ext.trans HE1.out he)
  have HS5 := Lib.hid (HS1.out.ext he)
  replace kP := kP.ext he
  clear p0 p1 q0 q1 kQ he
  have qe : (pe == pe) = true := beq_self_eq_true pe
  rcases HB3.out with ⟨h0, hv, hf⟩ | h3
  · subst h0
    have p0 := kP.c0
    have p1 := kP.c1
    have HV := Lib.hid hv
    have hfq := str_eq hf
    have HFE := Lib.hid hf
    clear hf hv
    go_wp2_with fail
    refine (format26 nm A ss.length c ss _ HS5.out rfl HB.out (by omega) (HG.out.ext HE5.out)).mono ?_
    rintro e w6 ⟨rfl, he⟩
    have HE6 := Lib.hid (Ext.trans HE5.out he)
    clear he p0 p1
    simp only [HV.out, if_true]
    go_wp2_with fail
    refine (HF.out _ HE6.out).mono ?_
    rintro e wz ⟨rfl, he⟩
    have HEZ := Lib.hid (Ext.trans HE6.out he)
    clear he
    go_wp2
    go_ret
    exact ⟨rfl, HEZ.out⟩
  · subst h3
    go_wp2_with fail
    refine (HF.out _ HE5.out).mono ?_
    rintro e wz ⟨rfl, he⟩
    have HEZ := Lib.hid (Ext.trans HE5.out he)
    clear he
    go_wp2
    go_ret
    exact ⟨rfl, HEZ.out⟩
end Go.Proofs.YtkdbajpdcadliaaGreatDoor.Pg
