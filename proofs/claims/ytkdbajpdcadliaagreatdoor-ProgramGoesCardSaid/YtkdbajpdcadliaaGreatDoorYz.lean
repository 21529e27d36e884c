/- Walks: what two sides say of a want is the same. -/
import Derived.Test.YtkdbajpdcadliaaGreatDoorYi
import Derived.Test.YtkdbajpdcadliaaGreatDoorXg
import Derived.Test.YtkdbajpdcadliaaGreatDoorYr
import Derived.Test.YtkdbajpdcadliaaGreatDoorYs
import Derived.Test.YtkdbajpdcadliaaGreatDoorYt
set_option linter.unusedVariables false
namespace Go.Proofs.YtkdbajpdcadliaaGreatDoor.Pg
open Go.RowKit

theorem sameRunS_same (p c o : Int) (st : ByteArray) (xs : List ByteArray) : sameRunS p c o st xs p c o st xs = true := by unfold sameRunS; simp
theorem wantR_vars (P : Prog) (r : RunS) : ((wantR P r).1.vars = [] ∨ (wantR P r).1.vars.length = 6) ∧ ∀ x ∈ (wantR P r).1.vars, (x.size : Int) ≤ 100 := by
  unfold wantR
  split
  · rename_i h
    obtain ⟨hv, hr⟩ := asked_ok h
    have hw := (wantS_ok hv hr).run
    exact ⟨.inr hw.six, hw.each⟩
  · exact ⟨.inl rfl, fun x hx => by cases hx⟩
theorem wantR_again {P : Prog} {r : RunS} (h : (wantR P r).2.2 = 0) : wantR P (wantR P r).1 = wantR P r := by
  unfold wantR at h ⊢
  by_cases ha : askedR P r = 0
  · rw [if_pos ha] at h ⊢
    obtain ⟨hv, hr⟩ := asked_ok ha
    have hw := wantS_ok hv hr
    rw [if_pos (asked_zero hv hw.run)]
    have e : wantS P (wantS P r).1 = wantS P r := by
      have hc := hw.run.c1
      by_cases ho : (wantS P r).1.over = 0
      · obtain ⟨g1, g2, g3⟩ := hw.goes ho
        have e1 : wantS P (wantS P r).1 = wantF ((200 - (wantS P r).1.count).toNat + 1) P (wantS P r).1 := by
          show wantF _ _ _ = _
          congr 1
          omega
        rw [e1, wantF_none g1 g2, ← g3]
      · have h0 := hw.run.o0
        have hov : overN P.steps.length (wantS P r).1 = (wantS P r).1.over := by unfold overN; rw [if_pos (by omega)]
        have e1 : wantS P (wantS P r).1 = wantF ((200 - (wantS P r).1.count).toNat + 1) P (wantS P r).1 := by
          show wantF _ _ _ = _
          congr 1
          omega
        rw [e1, wantF_over (by rw [hov]; exact ho), hov, ← hw.done ho]
        rfl
    rw [e]
  · rw [if_neg ha] at h
    exact absurd h ha

theorem give_bd {P : Prog} {r gr : RunS} {stt txt : ByteArray} {ge : Int} (h : giveS P r stt txt = (gr, ge)) (hb : Bd r.vars) (h1 : True) : (gr.vars.length : Int) ≤ 9223372036854775807 := by
  have hl := hb.len
  unfold giveS at h
  split at h
  · cases h; show ((zeroRun.vars.length : Nat) : Int) ≤ _; decide
  · split at h
    · cases h; show ((zeroRun.vars.length : Nat) : Int) ≤ _; decide
    · cases h
      show ((giveVars _ _ _ _).length : Int) ≤ _
      unfold giveVars
      split
      · split
        · simp; omega
        · split
          · simp; omega
          · omega
      · omega
theorem wantR_texts {P : Prog} {r : RunS} : (wantR P r).2.1.texts.length ≤ 9223372036854775807 := by
  unfold wantR
  split
  · rename_i h
    obtain ⟨hv, hr⟩ := asked_ok h
    have hw := wantS_ok hv hr
    by_cases ho : (wantS P r).1.over = 0
    · obtain ⟨g1, g2, g3⟩ := hw.goes ho
      show (wantS P r).2.texts.length ≤ _
      rw [g3]
      show (wantT _ _ _).length ≤ _
      rw [wantT_len]
      obtain ⟨o1, o2, o3⟩ := over0 g1 hw.run
      have hs := stepAt_ok (validOk hv).each hw.run.p0 o2
      have h1 := hs.all
      have h2 : (verbS (stepAt P (wantS P r).1.place).op).1.all ≤ 7 := by
        rcases verb_cases hs.verb with e | e | e | e | e | e | e | e | e | e | e | e | e <;> rw [e] <;> decide
      omega
    · show (wantS P r).2.texts.length ≤ _
      rw [hw.done ho]
      exact Nat.zero_le _
  · exact Nat.zero_le _

set_option maxRecDepth 100000 in
theorem sameWant18 (op a b : Int) (T U : Option Addr) (n c d : Nat) (xs : List ByteArray) (w : World) (hx : Strs w T xs) (hy : Strs w U xs) (hl : xs.length = n) (hb : n ≤ 9223372036854775807) :
    Calls Tryz.prog 18 #[.agg #[.int .i64 op, .int .i64 a, .int .i64 b, .slice T n c], .agg #[.int .i64 op, .int .i64 a, .int .i64 b, .slice U n d]] w fun e w' => e = .returned (.bool true) ∧ Ext w w' := by
  have E0 := Ext.al (Ext.new w (.cells #[.int .i64 op, .int .i64 a, .int .i64 b, .slice T n c] 34)) (.cells #[.int .i64 op, .int .i64 a, .int .i64 b, .slice U n d] 34)
  have kA := (Blk.new w [.int .i64 op, .int .i64 a, .int .i64 b, .slice T n c] 34).ext (Ext.new _ (.cells #[.int .i64 op, .int .i64 a, .int .i64 b, .slice U n d] 34))
  have kB := Blk.new (w.alloc (.cells #[.int .i64 op, .int .i64 a, .int .i64 b, .slice T n c] 34)) [.int .i64 op, .int .i64 a, .int .i64 b, .slice U n d] 34
  simp only [World.size_alloc] at kB
  obtain ⟨R, hR⟩ : ∃ R, w.heap.size = R := ⟨_, rfl⟩
  have HX := Lib.hid hx
  have HY := Lib.hid hy
  have HL := Lib.hid hl
  clear hx hy hl
  go_enter Tryz.func18, Tryz.ntmps18
  go_upto_region 1 with (fail)
  rw [hR] at kA kB
  try simp only [hR]
  generalize World.alloc _ _ = W0 at E0 kA kB
  have HE0 := Lib.hid E0
  clear E0
  have a0 := kA.c0
  have a1 := kA.c1
  have a2 := kA.c2
  have a3 := kA.c3
  have b0 := kB.c0
  have b1 := kB.c1
  have b2 := kB.c2
  have b3 := kB.c3
  go_wp2_with fail
  refine (sameTexts55 T U n n c d xs xs _ (HX.out.ext HE0.out) (HY.out.ext HE0.out) HL.out HL.out hb hb).mono ?_
  rintro e w1 ⟨rfl, he⟩
  have HE1 := Lib.hid (Ext.trans HE0.out he)
  rw [decide_eq_true (rfl : xs = xs)]
  clear he a0 a1 a2 a3 b0 b1 b2 b3
  go_wp2_with fail
  go_ret
  exact ⟨ret_bool rfl, HE1.out⟩

end Go.Proofs.YtkdbajpdcadliaaGreatDoor.Pg
