/- Walks: a strings.Builder's WriteString, and its copyCheck (lines of the shelf's proof, turned to this program). · Walks: program.number, strings.Cut at a space, readStep's next. -/
import Derived.Test.YtkdbajpdcadliaaGreatDoorBb
import Derived.Test.YtkdbajpdcadliaaGreatDoorShelf
import Derived.Test.YtkdbajpdcadliaaGreatDoorWa
set_option linter.unusedVariables false
namespace Go.Proofs.YtkdbajpdcadliaaGreatDoor.Pg
open Go.RowKit

set_option maxRecDepth 100000 in
theorem copyCheck126_used (b : Nat) (w : World) (h0 : w.cell? ⟨b, 0, none⟩ = some (.pointer (some ⟨b, 0, none⟩))) :
    Calls Tryz.prog 126 #[.pointer (some ⟨b, 0, none⟩)] w fun e w' => e = .returned (.tuple #[]) ∧ w' = w := by
  obtain ⟨j, hj, _⟩ := Option.map_eq_some_iff.1 Tryz.Builder_Extra_241.sizeBuilder
  go_enter Tryz.func126, Tryz.ntmps126
  go_wp2
  rw [Lib.run_neq_ptr_same w _ Tryz.underlying131 hj]
  go_wp2
  go_end0
  exact ⟨rfl, rfl⟩

set_option maxRecDepth 100000 in
theorem copyCheck126_fresh (b : Nat) (w : World) (h0 : w.cell? ⟨b, 0, none⟩ = some (.pointer none)) (hsh : w.shape? b = some (133, 2)) (hfz : w.frozen? ⟨b, 0, none⟩ = false) :
    Calls Tryz.prog 126 #[.pointer (some ⟨b, 0, none⟩)] w fun e w' => e = .returned (.tuple #[]) ∧ w' = w.setCell ⟨b, 0, none⟩ (.pointer (some ⟨b, 0, none⟩)) := by
  obtain ⟨j, hj, hjs⟩ := Option.map_eq_some_iff.1 Tryz.Builder_Extra_241.sizeBuilder
  go_enter Tryz.func126, Tryz.ntmps126
  go_wp2
  rw [Lib.run_to_unsafe w ⟨b, 0, none⟩ Tryz.underlying131 Tryz.underlying183 hj (by rw [hjs]; decide) hsh (Nat.zero_lt_succ 1)]
  simp only [Result.andThen]
  rw [Oper.upon_value]
  go_wp2
  rw [run_callFunc_extern Tryz.func151 (by kernel_rfl) (by kernel_rfl) (by kernel_rfl) (e := Extern.AbiNoEscape.same) (by kernel_rfl)]
  rw [Lib.run_noEscape]
  simp only [Result.andThen]
  rw [Oper.upon_value]
  go_wp2
  rw [Lib.run_from_unsafe w ⟨b, 0, none⟩ Tryz.underlying183 Tryz.underlying131 hj hsh Tryz.Builder_Extra_241.liesBuilder]
  simp only [Result.andThen]
  rw [Oper.upon_value]
  go_wp2
  go_end0
  exact ⟨rfl, rfl⟩

theorem copyCheck126 (B b : Nat) (bs : List Value) (w : World) (h : Lib.IsBuilder 133 5 B b bs w) :
    Calls Tryz.prog 126 #[.pointer (some ⟨b, 0, none⟩)] w fun e w' => e = .returned (.tuple #[]) ∧ (Lib.BuilderAt 133 5 B b (.pointer (some ⟨b, 0, none⟩)) bs w' ∧ Below B w w') := by
  rcases h with h | h
  · refine (copyCheck126_fresh b w h.cell0 h.shape h.frozen0).mono ?_
    rintro e w' ⟨rfl, rfl⟩
    exact ⟨rfl, h.used _, (Below.refl B w).setCell (p := ⟨b, 0, none⟩) h.1 _⟩
  · refine (copyCheck126_used b w h.cell0).mono ?_
    rintro e w' ⟨rfl, rfl⟩
    exact ⟨rfl, h, Below.refl B _⟩

set_option maxHeartbeats 2000000 in
set_option maxRecDepth 100000 in
theorem writeString96 (B b : Nat) (bs : List Value) (s : ByteArray) (w : World) (h : Lib.IsBuilder 133 5 B b bs w) (hlen : bs.length + s.size ≤ 140737488355328) (hBw : B ≤ w.heap.size) :
    Calls Tryz.prog 96 #[.pointer (some ⟨b, 0, none⟩), .string s] w fun e w' => e = .returned (.tuple #[.int .i64 s.size, .nilIface]) ∧ (Lib.BuilderAt 133 5 B b (.pointer (some ⟨b, 0, none⟩)) (bs ++ Lib.strCells s) w' ∧ Below B w w') := by
  obtain ⟨i0, hi, hz0, hz1, hz2⟩ := info_parts Tryz.Builder_Extra_241.infoByte
  go_enter Tryz.func96, Tryz.ntmps96
  go_wp2_with (go_at_call 126; refine (copyCheck126 B b bs _ h).mono ?_)
  rintro e w1 ⟨rfl, h1, hb1⟩
  obtain ⟨hB, v, hbk, hown, hne⟩ := h1
  have c0 : w1.cell? ⟨b, 0, none⟩ = some (.pointer (some ⟨b, 0, none⟩)) := by rw [Lib.cell_of_heap hbk]; rfl
  have c1 : w1.cell? ⟨b, 1, none⟩ = some v := by rw [Lib.cell_of_heap hbk]; rfl
  go_wp2_with (at_builtin; refine Lib.wpList_append_own_string _ rfl _ _ 118 9 rfl B 5 i0 Tryz.underlying118 Tryz.underlying9 hi hz0 hz1 hz2 _ _ _ rfl hown s rfl ?c3 ?c4 ?c5 ?_)
  case c3 => unfold maxLen; omega
  case c4 => omega
  case c5 => have := hb1.size; omega
  intro v' w2 hown' hgrow _
  have hlt : b < w1.heap.size := by
    rcases Nat.lt_or_ge b w1.heap.size with h' | h'
    · exact h'
    · simp [Array.getElem?_eq_none h'] at hbk
  have hb2 : w2.heap[b]? = some (.cells #[.pointer (some ⟨b, 0, none⟩), v] 133 (0, 0)) := by
    rw [hgrow.block b hlt (fun e => hne e.symm)]
    exact hbk
  have d0 : w2.cell? ⟨b, 0, none⟩ = some (.pointer (some ⟨b, 0, none⟩)) := by rw [Lib.cell_of_heap hb2]; rfl
  have d1 : w2.cell? ⟨b, 1, none⟩ = some v := by rw [Lib.cell_of_heap hb2]; rfl
  have f1 : w2.frozen? ⟨b, 1, none⟩ = false := Lib.frozen_of_heap hb2 1
  obtain ⟨ao, n', cap, rfl⟩ : ∃ ao n' cap, v' = .slice ao n' cap := by
    rcases hown'.2 with ⟨hv, _⟩ | ⟨g, cap, cur, hv, _⟩
    · exact ⟨_, _, _, hv⟩
    · exact ⟨_, _, _, hv⟩
  go_wp2
  go_ret2
  refine ⟨rfl, ?_, ?_⟩
  · exact Lib.BuilderAt.put (T := 133) (e := 5) hB hb2 (bs' := bs ++ Lib.strCells s) (by simpa [Lib.strCells_length] using hown') (by decide)
  · exact (hb1.grown hgrow (by have := hb1.size; omega) (fun k hk => (hown.lt k hk).1)).setCell (p := ⟨b, 1, none⟩) hB _

end Go.Proofs.YtkdbajpdcadliaaGreatDoor.Pg

set_option linter.unusedVariables false
namespace Go.Proofs.YtkdbajpdcadliaaGreatDoor.Pg
open Go.RowKit

/-- What program.number reads. -/
def numL (l : List UInt8) : Int := match Lib.atoiAll l with
  | .ok v => if v < -9999 ∨ 9999 < v then 10000 else v
  | _ => 10000

theorem number95 (s : ByteArray) (w : World) (hg : Gl w) (hs : (s.size : Int) ≤ 1000000) :
    Calls Tryz.prog 95 #[.string s] w fun e w' => e = .returned (.int .i64 (numL s.data.toList)) ∧ Ext w w' := by
  obtain ⟨t1, p1, h1⟩ := hg.syn
  obtain ⟨t2, p2, h2⟩ := hg.rng
  cases h : Lib.atoiAll s.data.toList with
  | ok v =>
    have hb := Lib.atoiAll_bounds h
    obtain ⟨m, hm, hn⟩ : ∃ m, numL s.data.toList = m ∧ (v < -9999 ∧ m = 10000 ∨ -9999 ≤ v ∧ 9999 < v ∧ m = 10000 ∨ -9999 ≤ v ∧ v ≤ 9999 ∧ m = v) := by
      refine ⟨_, rfl, ?_⟩
      unfold numL
      rw [h]
      by_cases hlo : v < -9999
      · left; exact ⟨hlo, if_pos (Or.inl hlo)⟩
      · by_cases hhi : 9999 < v
        · right; left; exact ⟨by omega, hhi, if_pos (Or.inr hhi)⟩
        · right; right; exact ⟨by omega, by omega, if_neg (by omega)⟩
    rw [hm]
    have hA := Lib.hid h
    clear hm h
    go_enter Tryz.func95, Tryz.ntmps95
    go_wp2_with (go_at_call 125; refine (Tryz.strconv_Atoi_ok s (by omega) v hA.out _).mono ?_)
    rintro e w1 ⟨rfl, hw⟩
    have hE : Ext w w1 := by
      rcases hw with rfl | ⟨t, rfl⟩
      · exact Ext.refl _
      · exact Lib.bytesWorld_below w 5 t
    have HE := Lib.hid hE
    clear hE hw
    rcases hn with ⟨h3, h4⟩ | ⟨h3, h5, h4⟩ | ⟨h3, h5, h4⟩ <;> subst h4
    · go_wp2
      go_ret
      exact ⟨rfl, HE.out⟩
    · go_wp2
      go_ret
      exact ⟨rfl, HE.out⟩
    · go_wp2
      go_ret
      exact ⟨rfl, HE.out⟩
  | range =>
    have hn : numL s.data.toList = 10000 := by unfold numL; rw [h]
    rw [hn]
    go_enter Tryz.func95, Tryz.ntmps95
    go_wp2_with (go_at_call 125; refine (Tryz.strconv_Atoi_range_var s (by omega) h t2 p2 _ h2).mono ?_)
    rintro e w1 ⟨N, rfl, hN, hw, hb⟩
    have HB := Lib.hid hb
    clear hb
    go_wp2
    go_ret
    exact ⟨ret_int rfl, HB.out⟩
  | _ =>
    have hn : numL s.data.toList = 10000 := by unfold numL; rw [h]
    rw [hn]
    go_enter Tryz.func95, Tryz.ntmps95
    go_wp2_with (go_at_call 125; refine (Tryz.strconv_Atoi_syntax_var s (by omega) (by rw [h]; simp) (by rw [h]; simp) t1 p1 _ h1).mono ?_)
    rintro e w1 ⟨N, rfl, hN, hw, hb⟩
    have HB := Lib.hid hb
    clear hb
    go_wp2
    go_ret
    exact ⟨ret_int rfl, HB.out⟩

theorem cut92 (s : ByteArray) (w : World) (hg : Gl w) (hs : (s.size : Int) ≤ 1000000) :
    Calls Tryz.prog 92 #[.string s, .string ⟨#[32]⟩] w fun e w' => e = .returned (.tuple #[.string (mkB (cutB 32 s.data.toList).1), .string (mkB (cutB 32 s.data.toList).2.1), .bool (cutB 32 s.data.toList).2.2]) ∧ ∃ n, w' = w.drewN n := by
  obtain ⟨m, hm⟩ := hg.len
  have := Tryz.strings_Cut s ⟨#[32]⟩ m w (by omega) hm
  rw [show (ByteArray.mk #[32]).data.toList = [32] from rfl, lib_cut_one] at this
  exact this

theorem cutB_len (c : UInt8) : ∀ l : List UInt8, (cutB c l).1.length ≤ l.length ∧ (cutB c l).2.1.length ≤ l.length
  | [] => by simp [cutB]
  | b :: l => by
    have := cutB_len c l
    unfold cutB
    split <;> simp <;> omega

theorem next94 (B : Nat) (s : ByteArray) (w : World) (hg : Gl w) (hc : w.cell? ⟨B, 0, none⟩ = some (.string s)) (hf : w.frozen? ⟨B, 0, none⟩ = false) (hs : (s.size : Int) ≤ 1000000) :
    Calls Tryz.prog 94 #[.pointer (some ⟨B, 0, none⟩)] w fun e w' => e = .returned (.string (mkB (cutB 32 s.data.toList).1)) ∧ ∃ n, w' = (w.drewN n).setCell ⟨B, 0, none⟩ (.string (mkB (cutB 32 s.data.toList).2.1)) := by
  go_enter Tryz.func94, Tryz.ntmps94
  go_wp2_with (go_at_call 92; refine (cut92 s _ hg hs).mono ?_)
  rintro e w1 ⟨rfl, n, rfl⟩
  have hc1 : (w.drewN n).cell? ⟨B, 0, none⟩ = some (.string s) := hc
  have hf1 : (w.drewN n).frozen? ⟨B, 0, none⟩ = false := hf
  go_wp2
  go_ret
  exact ⟨rfl, n, rfl⟩
end Go.Proofs.YtkdbajpdcadliaaGreatDoor.Pg
