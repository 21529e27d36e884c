/- Walks: the law ProgramVariables. -/
import Derived.Test.YtkdbajpdcadliaaGreatDoorYi
import Derived.Test.YtkdbajpdcadliaaGreatDoorXb
set_option linter.unusedVariables false
namespace Go.Proofs.YtkdbajpdcadliaaGreatDoor.Pg
open Go.RowKit

set_option maxRecDepth 100000 in
set_option maxHeartbeats 4000000 in
theorem law6 (T : Option Addr) (n d : Nat) (vs : List ByteArray) (s : ByteArray) (w : World) (hx : Strs w T vs) (hl : vs.length = n) (hb : BdL vs) (hs : (s.size : Int) ≤ 9223372036854775807) (hg : Gl w) (hgw : GlB w.heap.size) :
    Calls Tryz.prog 6 #[.slice T n d, .string s] w fun e w' => e = .returned (.bool true) ∧ Ext w w' := by
  have HX := Lib.hid hx
  have HL := Lib.hid hl
  have HB := Lib.hid hb
  have HF := Lib.hid (fun w' (h : Ext w w') => first14 w' (hg.ext h) (hgw.ext h))
  have hn : (n : Int) ≤ 9223372036854775807 := by rw [← hl]; exact hb.len
  clear hx hl hb hg hgw
  go_enter Tryz.func6, Tryz.ntmps6
  go_wp2_with fail
  go_loop [5] (fun i => ∃ j : Nat, j ≤ n ∧ i = .int .i64 j ∧ Hid (∀ q (h : q < vs.length), q < j → ¬ (300 : Int) < (vs[q].size : Int))) (fun i => n - (intOf i).toNat)
  case atStart => exact ⟨0, Nat.zero_le _, rfl, fun q h hq => absurd hq (by omega)⟩
  case round =>
    obtain ⟨j, hj, rfl, hall⟩ := hrel
    by_cases hlt : j < n
    · have lx : j < vs.length := by have := HL.out; omega
      obtain ⟨ad, hA, hc⟩ := HX.out j lx
      subst hA
      have sx := HB.out.at_ j lx
      by_cases hbig : (300 : Int) < (vs[j].size : Int)
      · go_wp2_with fail
        refine (HF.out w (Ext.refl w)).mono ?_
        rintro e w1 ⟨rfl, he⟩
        have HE := Lib.hid he
        clear he
        go_wp2
        go_ret
        exact ⟨rfl, HE.out⟩
      · have HBG := Lib.hid hbig
        go_wp2_with fail
        go_round
        case rel =>
          refine ⟨j + 1, by omega, by go_num, fun q h hq => ?_⟩
          by_cases e : q < j
          · exact hall.out q h e
          · obtain rfl : q = j := by omega
            exact HBG.out
        case measure => simp [intOf]; omega
    · by_cases h20 : (20 : Int) < (n : Int)
      · go_wp2_with fail
        refine (HF.out w (Ext.refl w)).mono ?_
        rintro e w1 ⟨rfl, he⟩
        have HE := Lib.hid he
        clear he
        go_wp2
        go_ret
        exact ⟨rfl, HE.out⟩
      · by_cases h300 : (300 : Int) < (s.size : Int)
        · go_wp2_with fail
          refine (HF.out w (Ext.refl w)).mono ?_
          rintro e w1 ⟨rfl, he⟩
          have HE := Lib.hid he
          clear he
          go_wp2
          go_ret
          exact ⟨rfl, HE.out⟩
        · have hbd : ∀ x ∈ vs, (x.size : Int) ≤ 1000 := by
            intro x hx
            obtain ⟨q, hq, rfl⟩ := List.getElem_of_mem hx
            have := hall.out q hq (by have := HL.out; omega)
            omega
          have HBD := Lib.hid hbd
          have hsz : (s.size : Int) ≤ 1000 := by omega
          obtain ⟨t, ht⟩ : ∃ t, (if n = 6 then fillS vs s else ⟨#[]⟩) = t := ⟨_, rfl⟩
          obtain ⟨er, her⟩ : ∃ er : Int, (if n = 6 then (0 : Int) else 2) = er := ⟨_, rfl⟩
          have k27 := text27 T n d vs s w HX.out HL.out HBD.out hsz
          rw [ht, her] at k27
          have K27 := Lib.hid k27
          have K28 : Hid (∀ w', Ext w w' → Calls Tryz.prog 28 #[.slice T n d, .string s] w' fun e w'' => e = .returned (.tuple #[.string t, .int .i64 er]) ∧ Ext w' w'') := Lib.hid (fun w' h => by
            have := text28 T n d vs s w' (HX.out.ext h) HL.out HBD.out hsz
            rwa [ht, her] at this)
          have yq : (t.toList == t.toList) = true := str_eq rfl
          clear k27 hbd ht her hall
          go_wp2_with fail
          refine K27.out.mono ?_
          rintro e w1 ⟨rfl, he1⟩
          have HE1 := Lib.hid he1
          clear he1
          go_wp2_with fail
          refine (K28.out w1 HE1.out).mono ?_
          rintro e w2 ⟨rfl, he2⟩
          have HE2 := Lib.hid (Ext.trans HE1.out he2)
          clear he2
          go_wp2_with fail
          refine (HF.out w2 HE2.out).mono ?_
          rintro e w3 ⟨rfl, he3⟩
          have HE3 := Lib.hid (Ext.trans HE2.out he3)
          clear he3
          go_wp2
          go_ret
          exact ⟨rfl, HE3.out⟩
end Go.Proofs.YtkdbajpdcadliaaGreatDoor.Pg
