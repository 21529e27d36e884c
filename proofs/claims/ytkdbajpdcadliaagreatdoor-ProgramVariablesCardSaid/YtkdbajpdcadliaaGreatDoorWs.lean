/- Walks: program.number, strings.Cut at a space, readStep's next. -/
import Derived.Test.YtkdbajpdcadliaaGreatDoorBb
import Derived.Test.YtkdbajpdcadliaaGreatDoorWh
import Derived.Test.YtkdbajpdcadliaaGreatDoorShelf
set_option linter.unusedVariables false
namespace Go.Proofs.YtkdbajpdcadliaaGreatDoor.Pg
open Go.RowKit

/-- What program.number reads. -/
def numL (l : List UInt8) : Int := match Lib.atoiAll l with
  | .ok v => if v < -9999 ∨ 9999 < v then 10000 else v
  | _ => 10000

theorem number95 (s : ByteArray) (w : World) (hg : Gl w) (hs : (s.size : Int) ≤ 1000000) :
    Calls Tryz.prog 95 #[.string s] w fun e w' => e = .returned (.int .i64 (numL s.data.toList)) ∧ Ext w w' := by
  obtain ⟨t1, p1, h1⟩ := hg.syn
  obtain ⟨t2, p2, h2⟩ := hg.rng
  cases h : Lib.atoiAll s.data.toList with
  | ok v =>
    have hb := Lib.atoiAll_bounds h
    obtain ⟨m, hm, hn⟩ : ∃ m, numL s.data.toList = m ∧ (v < -9999 ∧ m = 10000 ∨ -9999 ≤ v ∧ 9999 < v ∧ m = 10000 ∨ -9999 ≤ v ∧ v ≤ 9999 ∧ m = v) := by
      refine ⟨_, rfl, ?_⟩
      unfold numL
      rw [h]
      by_cases hlo : v < -9999
      · left; exact ⟨hlo, if_pos (Or.inl hlo)⟩
      · by_cases hhi : 9999 < v
        · right; left; exact ⟨by omega, hhi, if_pos (Or.inr hhi)⟩
        · right; right; exact ⟨by omega, by omega, if_neg (by omega)⟩
    rw [hm]
    have hA := Lib.hid h
    clear hm h
    go_enter Tryz.func95, Tryz.ntmps95
    go_wp2_with (go_at_call 125; refine (Tryz.strconv_Atoi_ok s (by omega) v hA.out _).mono ?_)
    rintro e w1 ⟨rfl, hw⟩
    have hE : Ext w w1 := by
      rcases hw with rfl | ⟨t, rfl⟩
      · exact Ext.refl _
      · exact Lib.bytesWorld_below w 5 t
    have HE := Lib.hid hE
    clear hE hw
    rcases hn with ⟨h3, h4⟩ | ⟨h3, h5, h4⟩ | ⟨h3, h5, h4⟩ <;> subst h4
    · go_wp2
      go_ret
      exact ⟨rfl, HE.out⟩
    · go_wp2
      go_ret
      exact ⟨rfl, HE.out⟩
    · go_wp2
      go_ret
      exact ⟨rfl, HE.out⟩
  | «syntax» =>
    have hn : numL s.data.toList = 10000 := by unfold numL; rw [h]
    rw [hn]
    go_enter Tryz.func95, Tryz.ntmps95
    go_wp2_with (go_at_call 125; refine (Tryz.strconv_Atoi_syntax_var s (by omega) h t1 p1 _ h1).mono ?_)
    rintro e w1 ⟨N, rfl, hN, hw, hb⟩
    have HB := Lib.hid hb
    clear hb
    go_wp2
    go_ret
    exact ⟨ret_int rfl, HB.out⟩
  | range =>
    have hn : numL s.data.toList = 10000 := by unfold numL; rw [h]
    rw [hn]
    go_enter Tryz.func95, Tryz.ntmps95
    go_wp2_with (go_at_call 125; refine (Tryz.strconv_Atoi_range_var s (by omega) h t2 p2 _ h2).mono ?_)
    rintro e w1 ⟨N, rfl, hN, hw, hb⟩
    have HB := Lib.hid hb
    clear hb
    go_wp2
    go_ret
    exact ⟨ret_int rfl, HB.out⟩

theorem cut92 (s : ByteArray) (w : World) (hg : Gl w) (hs : (s.size : Int) ≤ 1000000) :
    Calls Tryz.prog 92 #[.string s, .string ⟨#[32]⟩] w fun e w' => e = .returned (.tuple #[.string (mkB (cutB 32 s.data.toList).1), .string (mkB (cutB 32 s.data.toList).2.1), .bool (cutB 32 s.data.toList).2.2]) ∧ ∃ n, w' = w.drewN n := by
  obtain ⟨m, hm⟩ := hg.len
  have := Tryz.strings_Cut s ⟨#[32]⟩ m w (by omega) hm
  rw [show (ByteArray.mk #[32]).data.toList = [32] from rfl, lib_cut_one] at this
  exact this

theorem cutB_len (c : UInt8) : ∀ l : List UInt8, (cutB c l).1.length ≤ l.length ∧ (cutB c l).2.1.length ≤ l.length
  | [] => by simp [cutB]
  | b :: l => by
    have := cutB_len c l
    unfold cutB
    split <;> simp <;> omega

theorem next94 (B : Nat) (s : ByteArray) (w : World) (hg : Gl w) (hc : w.cell? ⟨B, 0, none⟩ = some (.string s)) (hf : w.frozen? ⟨B, 0, none⟩ = false) (hs : (s.size : Int) ≤ 1000000) :
    Calls Tryz.prog 94 #[.pointer (some ⟨B, 0, none⟩)] w fun e w' => e = .returned (.string (mkB (cutB 32 s.data.toList).1)) ∧ ∃ n, w' = (w.drewN n).setCell ⟨B, 0, none⟩ (.string (mkB (cutB 32 s.data.toList).2.1)) := by
  go_enter Tryz.func94, Tryz.ntmps94
  go_wp2_with (go_at_call 92; refine (cut92 s _ hg hs).mono ?_)
  rintro e w1 ⟨rfl, n, rfl⟩
  have hc1 : (w.drewN n).cell? ⟨B, 0, none⟩ = some (.string s) := hc
  have hf1 : (w.drewN n).frozen? ⟨B, 0, none⟩ = false := hf
  go_wp2
  go_ret
  exact ⟨rfl, n, rfl⟩
end Go.Proofs.YtkdbajpdcadliaaGreatDoor.Pg
