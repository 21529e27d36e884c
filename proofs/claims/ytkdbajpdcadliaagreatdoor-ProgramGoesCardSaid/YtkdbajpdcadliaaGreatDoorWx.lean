/- Walks: isRun and asked of both sides. -/
import Derived.Test.YtkdbajpdcadliaaGreatDoorBb
import Derived.Test.YtkdbajpdcadliaaGreatDoorWi
import Derived.Test.YtkdbajpdcadliaaGreatDoorWm
import Derived.Test.YtkdbajpdcadliaaGreatDoorWv
set_option linter.unusedVariables false
namespace Go.Proofs.YtkdbajpdcadliaaGreatDoor.Pg
open Go.RowKit

/-- A run that is one. -/
def isRunS (many place : Int) (xs : List ByteArray) (st : ByteArray) (count over : Int) : Bool :=
  decide (0 ≤ place) && decide (place ≤ many) && decide (0 ≤ count) && decide (count ≤ 200) && ((xs.length : Int) == 6) && ((st.size : Int) == 2) && decide (0 ≤ over) && decide (over ≤ 2) && !(xs.any fun x => decide ((100 : Int) < (x.size : Int)))

set_option maxRecDepth 100000 in
set_option maxHeartbeats 2000000 in
theorem isRun66 (nm : ByteArray) (A : Option Addr) (n c : Nat) (place count over : Int) (T : Option Addr) (k d : Nat) (xs : List ByteArray) (st : ByteArray) (w : World) (hx : Strs w T xs) (hl : xs.length = k) (hb : Bd xs) :
    Calls Tryz.prog 66 #[.agg #[.string nm, .slice A n c], runV place T k d st count over] w fun e w' => e = .returned (.bool (isRunS n place xs st count over)) ∧ Ext w w' := by
  have HX := Lib.hid hx
  have HL := Lib.hid hl
  have hk : (k : Int) ≤ 1000000000 := by have := hb.len; omega
  have EA := Lib.hid (Ext.al (Ext.new w (.cells #[.string nm, .slice A n c] 24)) (.cells #[.int .i64 place, .slice T k d, .string st, .int .i64 count, .int .i64 over] 27))
  have hS : isRunS n place xs st count over = (decide (0 ≤ place) && decide (place ≤ n) && decide (0 ≤ count) && decide (count ≤ 200) && ((k : Int) == 6) && ((st.size : Int) == 2) && decide (0 ≤ over) && decide (over ≤ 2) && !(xs.any fun x => decide ((100 : Int) < (x.size : Int)))) := by unfold isRunS; rw [hl]
  unfold runV
  rw [hS]
  clear hx hl hb hS
  by_cases hp1 : 0 ≤ place
  · have Bp1 : decide (0 ≤ place) = true := decide_eq_true hp1
    by_cases hp2 : place ≤ n
    · have Bp2 : decide (place ≤ n) = true := decide_eq_true hp2
      by_cases hc1 : 0 ≤ count
      · have Bc1 : decide (0 ≤ count) = true := decide_eq_true hc1
        by_cases hc2 : count ≤ 200
        · have Bc2 : decide (count ≤ 200) = true := decide_eq_true hc2
          by_cases hl : (k : Int) = 6
          · have Bl : (((k : Int)) == 6) = true := by rw [hl]; rfl
            clear hl
            by_cases hs : (st.size : Int) = 2
            · have Bs : (((st.size : Int)) == 2) = true := by rw [hs]; rfl
              clear hs
              by_cases ho1 : 0 ≤ over
              · have Bo1 : decide (0 ≤ over) = true := decide_eq_true ho1
                by_cases ho2 : over ≤ 2
                · have Bo2 : decide (over ≤ 2) = true := decide_eq_true ho2
                  go_enter Tryz.func66, Tryz.ntmps66
                  go_wp2_with fail
                  refine (containsFunc101_102 T k d xs _ (tooLong102 xs) (HX.out.ext EA.out) HL.out hk).mono ?_
                  rintro e w1 ⟨rfl, he⟩
                  have HE := Lib.hid (Ext.trans EA.out he)
                  clear he
                  go_wp2
                  go_ret
                  refine ⟨ret_bool ?_, HE.out⟩
                  simp only [Bool.true_and, Bp1, Bp2, Bc1, Bc2, Bl, Bs, Bo1, Bo2]
                · have Bo2 : decide (over ≤ 2) = false := decide_eq_false ho2
                  go_enter Tryz.func66, Tryz.ntmps66
                  go_wp2
                  go_ret
                  exact ⟨ret_bool (by first | rfl | simp only []), EA.out⟩
              · have Bo1 : decide (0 ≤ over) = false := decide_eq_false ho1
                go_enter Tryz.func66, Tryz.ntmps66
                go_wp2
                go_ret
                exact ⟨ret_bool (by first | rfl | simp only []), EA.out⟩
            · have Bs : (((st.size : Int)) == 2) = false := beq_no hs
              clear hs
              go_enter Tryz.func66, Tryz.ntmps66
              go_wp2
              go_ret
              exact ⟨ret_bool (by simp only [Bool.true_and, Bool.false_and, Bp1, Bp2, Bc1, Bc2, Bl, Bs]), EA.out⟩
          · have Bl : (((k : Int)) == 6) = false := beq_no hl
            clear hl
            go_enter Tryz.func66, Tryz.ntmps66
            go_wp2
            go_ret
            exact ⟨ret_bool (by simp only [Bool.true_and, Bool.false_and, Bp1, Bp2, Bc1, Bc2, Bl]), EA.out⟩
        · have Bc2 : decide (count ≤ 200) = false := decide_eq_false hc2
          go_enter Tryz.func66, Tryz.ntmps66
          go_wp2
          go_ret
          exact ⟨ret_bool (by first | rfl | simp only []), EA.out⟩
      · have Bc1 : decide (0 ≤ count) = false := decide_eq_false hc1
        go_enter Tryz.func66, Tryz.ntmps66
        go_wp2
        go_ret
        exact ⟨ret_bool (by first | rfl | simp only []), EA.out⟩
    · have Bp2 : decide (place ≤ n) = false := decide_eq_false hp2
      go_enter Tryz.func66, Tryz.ntmps66
      go_wp2
      go_ret
      exact ⟨ret_bool (by first | rfl | simp only []), EA.out⟩
  · have Bp1 : decide (0 ≤ place) = false := decide_eq_false hp1
    go_enter Tryz.func66, Tryz.ntmps66
    go_wp2
    go_ret
    exact ⟨ret_bool (by first | rfl | simp only []), EA.out⟩

set_option maxRecDepth 100000 in
set_option maxHeartbeats 4000000 in
theorem isRun67 (nm : ByteArray) (A : Option Addr) (n c : Nat) (place count over : Int) (T : Option Addr) (k d : Nat) (xs : List ByteArray) (st : ByteArray) (w : World) (hx : Strs w T xs) (hl : xs.length = k) (hb : Bd xs) :
    Calls Tryz.prog 67 #[.agg #[.string nm, .slice A n c], runV place T k d st count over] w fun e w' => e = .returned (.bool (isRunS n place xs st count over)) ∧ Ext w w' := by
  have HX := Lib.hid hx
  have HL := Lib.hid hl
  have HB := Lib.hid hb
  have hk : (k : Int) ≤ 1000000000 := by have := hb.len; omega
  have EA := Lib.hid (Ext.al (Ext.new w (.cells #[.string nm, .slice A n c] 24)) (.cells #[.int .i64 place, .slice T k d, .string st, .int .i64 count, .int .i64 over] 27))
  have hS : isRunS n place xs st count over = (decide (0 ≤ place) && decide (place ≤ n) && decide (0 ≤ count) && decide (count ≤ 200) && ((k : Int) == 6) && ((st.size : Int) == 2) && decide (0 ≤ over) && decide (over ≤ 2) && !(xs.any fun x => decide ((100 : Int) < (x.size : Int)))) := by unfold isRunS; rw [hl]
  unfold runV
  rw [hS]
  clear hx hl hb hS
  go_enter Tryz.func67, Tryz.ntmps67
  go_wp2_with fail
  have KP := Blk.new w [.string nm, .slice A n c] 24
  have KR := Lib.hid (Blk.new (w.alloc (.cells #[.string nm, .slice A n c] 24)) [.int .i64 place, .slice T k d, .string st, .int .i64 count, .int .i64 over] 27)
  go_loop [5] (fun i => ∃ j : Nat, j ≤ k ∧ i = .int .i64 j ∧ Hid (∀ q (h : q < xs.length), q < j → ¬ (100 : Int) < (xs[q].size : Int))) (fun i => k - (intOf i).toNat)
  case atStart => exact ⟨0, Nat.zero_le _, rfl, fun q h hq => absurd hq (by omega)⟩
  case round =>
    obtain ⟨j, hj, rfl, hall⟩ := hrel
    by_cases hlt : j < k
    · have lx : j < xs.length := by have := HL.out; omega
      obtain ⟨ad, hA, hc⟩ := (HX.out.ext EA.out) j lx
      subst hA
      have sx := HB.out.at_ j lx
      by_cases hbig : (100 : Int) < (xs[j].size : Int)
      · have hany : (xs.any fun x => decide ((100 : Int) < (x.size : Int))) = true := List.any_eq_true.2 ⟨_, List.getElem_mem lx, decide_eq_true hbig⟩
        have HN := Lib.hid hany
        clear hany
        go_wp2
        go_ret
        exact ⟨ret_bool (by rw [HN.out, Bool.not_true, Bool.and_false]), EA.out⟩
      · have HBG := Lib.hid hbig
        go_wp2
        go_round
        case rel =>
          refine ⟨j + 1, by omega, by go_num, fun q h hq => ?_⟩
          by_cases e : q < j
          · exact hall.out q h e
          · obtain rfl : q = j := by omega
            exact HBG.out
        case measure => simp [intOf]; omega
    · have hany : (xs.any fun x => decide ((100 : Int) < (x.size : Int))) = false := by
        rw [List.any_eq_false]
        intro x hx
        obtain ⟨q, hq, rfl⟩ := List.getElem_of_mem hx
        simpa using hall.out q hq (by have := HL.out; omega)
      have HN := Lib.hid hany
      clear hany
      by_cases hp1 : 0 ≤ place
      · have Bp1 : decide (0 ≤ place) = true := decide_eq_true hp1
        by_cases hp2 : place ≤ n
        · have Bp2 : decide (place ≤ n) = true := decide_eq_true hp2
          by_cases hc1 : 0 ≤ count
          · have Bc1 : decide (0 ≤ count) = true := decide_eq_true hc1
            by_cases hc2 : count ≤ 200
            · have Bc2 : decide (count ≤ 200) = true := decide_eq_true hc2
              by_cases hl : (k : Int) = 6
              · have Bl : (((k : Int)) == 6) = true := by rw [hl]; rfl
                clear hl
                by_cases hs : (st.size : Int) = 2
                · have Bs : (((st.size : Int)) == 2) = true := by rw [hs]; rfl
                  clear hs
                  by_cases ho1 : 0 ≤ over
                  · have Bo1 : decide (0 ≤ over) = true := decide_eq_true ho1
                    by_cases ho2 : over ≤ 2
                    · have Bo2 : decide (over ≤ 2) = true := decide_eq_true ho2
                      go_wp2
                      go_ret
                      exact ⟨ret_bool (by rw [HN.out]; simp only [Bool.not_false]), EA.out⟩
                    · have Bo2 : decide (over ≤ 2) = false := decide_eq_false ho2
                      go_wp2
                      go_ret
                      exact ⟨ret_bool (by first | rfl | simp only []), EA.out⟩
                  · have Bo1 : decide (0 ≤ over) = false := decide_eq_false ho1
                    go_wp2
                    go_ret
                    exact ⟨ret_bool (by first | rfl | simp only []), EA.out⟩
                · have Bs : (((st.size : Int)) == 2) = false := beq_no hs
                  clear hs
                  go_wp2
                  go_ret
                  exact ⟨ret_bool (by first | rfl | simp only []), EA.out⟩
              · have Bl : (((k : Int)) == 6) = false := beq_no hl
                clear hl
                go_wp2
                go_ret
                exact ⟨ret_bool (by first | rfl | simp only []), EA.out⟩
            · have Bc2 : decide (count ≤ 200) = false := decide_eq_false hc2
              go_wp2
              go_ret
              exact ⟨ret_bool (by first | rfl | simp only []), EA.out⟩
          · have Bc1 : decide (0 ≤ count) = false := decide_eq_false hc1
            go_wp2
            go_ret
            exact ⟨ret_bool (by first | rfl | simp only []), EA.out⟩
        · have Bp2 : decide (place ≤ n) = false := decide_eq_false hp2
          go_wp2
          go_ret
          exact ⟨ret_bool (by first | rfl | simp only []), EA.out⟩
      · have Bp1 : decide (0 ≤ place) = false := decide_eq_false hp1
        go_wp2
        go_ret
        exact ⟨ret_bool (by first | rfl | simp only []), EA.out⟩

end Go.Proofs.YtkdbajpdcadliaaGreatDoor.Pg
