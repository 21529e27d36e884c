/- Walks: smallRun of the law. -/
import Derived.Test.YtkdbajpdcadliaaGreatDoorWx
set_option linter.unusedVariables false
namespace Go.Proofs.YtkdbajpdcadliaaGreatDoor.Pg
open Go.RowKit

/-- Texts as long as they may be. -/
structure BdL (xs : List ByteArray) : Prop where
  len : (xs.length : Int) ≤ 9223372036854775807
  each : ∀ x ∈ xs, (x.size : Int) ≤ 9223372036854775807
theorem BdL.at_ {xs : List ByteArray} (h : BdL xs) (i : Nat) (hi : i < xs.length) : (xs[i].size : Int) ≤ 9223372036854775807 := h.each _ (List.getElem_mem hi)
def smallRunS (xs : List ByteArray) : Bool := decide ((xs.length : Int) ≤ 20) && !(xs.any fun x => decide ((200 : Int) < (x.size : Int)))

set_option maxRecDepth 100000 in
set_option maxHeartbeats 2000000 in
theorem smallRun13 (place count over : Int) (T : Option Addr) (k d : Nat) (xs : List ByteArray) (st : ByteArray) (w : World) (hx : Strs w T xs) (hl : xs.length = k) (hb : BdL xs) :
    Calls Tryz.prog 13 #[runV place T k d st count over] w fun e w' => e = .returned (.bool (smallRunS xs)) ∧ Ext w w' := by
  have HX := Lib.hid hx
  have HL := Lib.hid hl
  have HB := Lib.hid hb
  have hk : (k : Int) ≤ 9223372036854775807 := by have := hb.len; omega
  have EA := Lib.hid (Ext.new w (.cells #[.int .i64 place, .slice T k d, .string st, .int .i64 count, .int .i64 over] 27))
  have hS : smallRunS xs = (decide ((k : Int) ≤ 20) && !(xs.any fun x => decide ((200 : Int) < (x.size : Int)))) := by unfold smallRunS; rw [hl]
  unfold runV
  rw [hS]
  clear hx hl hb hS
  go_enter Tryz.func13, Tryz.ntmps13
  go_wp2_with fail
  have KR := Lib.hid (Blk.new w [.int .i64 place, .slice T k d, .string st, .int .i64 count, .int .i64 over] 27)
  go_loop [3] (fun i => ∃ j : Nat, j ≤ k ∧ i = .int .i64 j ∧ Hid (∀ q (h : q < xs.length), q < j → ¬ (200 : Int) < (xs[q].size : Int))) (fun i => k - (intOf i).toNat)
  case atStart => exact ⟨0, Nat.zero_le _, rfl, fun q h hq => absurd hq (by omega)⟩
  case round =>
    obtain ⟨j, hj, rfl, hall⟩ := hrel
    by_cases hlt : j < k
    · have lx : j < xs.length := by have := HL.out; omega
      obtain ⟨ad, hA, hc⟩ := (HX.out.ext EA.out) j lx
      subst hA
      have sx := HB.out.at_ j lx
      by_cases hbig : (200 : Int) < (xs[j].size : Int)
      · have hany : (xs.any fun x => decide ((200 : Int) < (x.size : Int))) = true := List.any_eq_true.2 ⟨_, List.getElem_mem lx, decide_eq_true hbig⟩
        have HN := Lib.hid hany
        clear hany
        go_wp2
        go_ret
        exact ⟨ret_bool (by rw [HN.out, Bool.not_true, Bool.and_false]), EA.out⟩
      · have HBG := Lib.hid hbig
        go_wp2
        go_round
        case rel =>
          refine ⟨j + 1, by omega, by go_num, fun q h hq => ?_⟩
          by_cases e : q < j
          · exact hall.out q h e
          · obtain rfl : q = j := by omega
            exact HBG.out
        case measure => simp [intOf]; omega
    · have hany : (xs.any fun x => decide ((200 : Int) < (x.size : Int))) = false := by
        rw [List.any_eq_false]
        intro x hx
        obtain ⟨q, hq, rfl⟩ := List.getElem_of_mem hx
        simpa using hall.out q hq (by have := HL.out; omega)
      have HN := Lib.hid hany
      clear hany
      by_cases h20 : (k : Int) ≤ 20
      · have B20 : decide ((k : Int) ≤ 20) = true := decide_eq_true h20
        go_wp2
        go_ret
        exact ⟨ret_bool (by simp [HN.out]), EA.out⟩
      · have B20 : decide ((k : Int) ≤ 20) = false := decide_eq_false h20
        go_wp2
        go_ret
        exact ⟨ret_bool (by simp []), EA.out⟩
end Go.Proofs.YtkdbajpdcadliaaGreatDoor.Pg
