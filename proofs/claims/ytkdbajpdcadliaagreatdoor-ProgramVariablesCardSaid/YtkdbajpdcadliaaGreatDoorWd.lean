/- Walks: isDo, isCall. -/
import Derived.Test.YtkdbajpdcadliaaGreatDoorBas
import Derived.Test.YtkdbajpdcadliaaGreatDoorShelf
set_option linter.unusedVariables false
namespace Go.Proofs.YtkdbajpdcadliaaGreatDoor.Pg
open Go.RowKit

set_option maxHeartbeats 1000000 in
theorem isDo86 (s : ByteArray) (w : World) :
    Calls Tryz.prog 86 #[.string s] w fun e w' => e = .returned (.bool (isDoS s)) ∧ Ext w w' := by
  go_enter Tryz.func86, Tryz.ntmps86
  go_wp2
  go_rounds 10
  all_goals
    first
      | (have hf : isDoS s = true := by simp [isDoS, dosL, *])
      | (have hf : isDoS s = false := by simp [isDoS, dosL, *])
    go_ret
    exact ⟨ret_bool hf.symm, (Ext.refl w).alloc (Nat.le_refl _) _⟩

theorem contains_dos (s : ByteArray) : Lib.containsS (dosL.map mkB) s = isDoS s := by
  rw [Bool.eq_iff_iff, Lib.containsS_iff]
  unfold isDoS
  rw [List.any_eq_true, List.mem_map]
  constructor
  · rintro ⟨l, hl, rfl⟩
    exact ⟨l, hl, by rw [ByteArray.toList_eq]; simp [mkB]⟩
  · rintro ⟨l, hl, he⟩
    refine ⟨l, hl, ext_list ?_⟩
    rw [mkB_toList, ← ByteArray.toList_eq]
    exact beq_iff_eq.1 he

set_option maxHeartbeats 1000000 in
theorem isCall108 (s : ByteArray) (w : World) :
    Calls Tryz.prog 108 #[.string s] w fun e w' => e = .returned (.bool (isDoS s)) ∧ Ext w w' := by
  have hcd := contains_dos s
  have H := Lib.hid hcd
  clear hcd
  go_enter Tryz.func108, Tryz.ntmps108
  go_wp2_with fail
  refine (Tryz.slices_Contains_string w.heap.size 0 9 9 (dosL.map mkB) s _ (by decide) (by omega) ?_).mono ?_
  · intro j hj
    have hj : j < 9 := hj
    rw [Nat.zero_add, cell_of_row _ _ _ _ _ _ (heap_alloc_new w _)]
    have : j = 0 ∨ j = 1 ∨ j = 2 ∨ j = 3 ∨ j = 4 ∨ j = 5 ∨ j = 6 ∨ j = 7 ∨ j = 8 := by omega
    rcases this with rfl | rfl | rfl | rfl | rfl | rfl | rfl | rfl | rfl <;> rfl
  · rintro e w1 ⟨rfl, rfl⟩
    go_wp2_with fail
    go_ret
    exact ⟨ret_bool H.out, (Ext.refl w).alloc (Nat.le_refl _) _⟩
end Go.Proofs.YtkdbajpdcadliaaGreatDoor.Pg
