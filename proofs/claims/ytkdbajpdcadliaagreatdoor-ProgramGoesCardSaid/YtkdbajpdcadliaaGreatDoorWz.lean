/- Walks: expanded of the reference (a text with its variables filled in). -/
import Derived.Test.YtkdbajpdcadliaaGreatDoorBb
import Derived.Test.YtkdbajpdcadliaaGreatDoorWa
import Derived.Test.YtkdbajpdcadliaaGreatDoorWe
set_option linter.unusedVariables false
namespace Go.Proofs.YtkdbajpdcadliaaGreatDoor.Pg
open Go.RowKit

/-- A text with its variables filled in, ahead of the cut. -/
def fillL (vs : List ByteArray) : List UInt8 → List UInt8
  | [] => []
  | [c] => [c]
  | c :: d :: l =>
    if c ≠ 36 then c :: fillL vs (d :: l)
    else if d = 36 then 36 :: fillL vs l
    else if 48 ≤ d.toNat ∧ d.toNat < 54 then (vs.getD (d.toNat - 48) ⟨#[]⟩).data.toList ++ fillL vs l
    else 36 :: fillL vs (d :: l)
def fillS (vs : List ByteArray) (s : ByteArray) : ByteArray := mkB ((fillL vs s.data.toList).take 100)

theorem drop_cons2 {l : List UInt8} (k : Nat) (h : k < l.length) : l.drop k = l[k] :: l.drop (k + 1) := List.drop_eq_getElem_cons h
/-- One byte that is no '$', or the last one. -/
theorem fill_plain (vs : List ByteArray) (l : List UInt8) (k : Nat) (h : k < l.length) (hc : l[k] ≠ 36 ∨ k + 1 = l.length) : fillL vs (l.drop k) = l[k] :: fillL vs (l.drop (k + 1)) := by
  rw [drop_cons2 k h]
  rcases Nat.lt_or_ge (k + 1) l.length with h2 | h2
  · rw [drop_cons2 (k + 1) h2]
    have hc2 : l[k] ≠ 36 := hc.resolve_right (by omega)
    rw [fillL, if_pos hc2]
  · rw [List.drop_eq_nil_of_le h2]
    simp [fillL]
theorem fill_dd (vs : List ByteArray) (l : List UInt8) (k : Nat) (h : k + 1 < l.length) (hc : l[k] = 36) (hd : l[k + 1] = 36) : fillL vs (l.drop k) = 36 :: fillL vs (l.drop (k + 2)) := by
  rw [drop_cons2 k (by omega), drop_cons2 (k + 1) h, fillL, if_neg (by simp [hc]), if_pos hd]
theorem fill_var (vs : List ByteArray) (l : List UInt8) (k : Nat) (h : k + 1 < l.length) (hc : l[k] = 36) (h1 : 48 ≤ l[k + 1].toNat) (h2 : l[k + 1].toNat < 54) :
    fillL vs (l.drop k) = (vs.getD (l[k + 1].toNat - 48) ⟨#[]⟩).data.toList ++ fillL vs (l.drop (k + 2)) := by
  have hd : l[k + 1] ≠ 36 := fun e => by rw [e] at h1; revert h1; decide
  rw [drop_cons2 k (by omega), drop_cons2 (k + 1) h, fillL, if_neg (by simp [hc]), if_neg hd, if_pos ⟨h1, h2⟩]
theorem fill_else (vs : List ByteArray) (l : List UInt8) (k : Nat) (h : k + 1 < l.length) (hc : l[k] = 36) (hd : l[k + 1] ≠ 36) (hn : ¬ (48 ≤ l[k + 1].toNat ∧ l[k + 1].toNat < 54)) :
    fillL vs (l.drop k) = 36 :: fillL vs (l.drop (k + 1)) := by
  rw [drop_cons2 k (by omega), drop_cons2 (k + 1) h, fillL, if_neg (by simp [hc]), if_neg hd, if_neg hn]
theorem u8_eq {a b : UInt8} : ((a.toNat : Int) = (b.toNat : Int)) ↔ a = b := ⟨fun e => UInt8.toNat_inj.1 (by exact_mod_cast e), fun e => by rw [e]⟩
theorem len_list (s : ByteArray) : s.data.toList.length = s.size := Array.length_toList
theorem bq_no {a b : Int} (h : ¬ a = b) : (a == b) = false := by rw [beq_eq_false_iff_ne]; exact h
theorem extract_one (s : ByteArray) (k : Nat) (h : k < s.size) : (s.extract k (k + 1)).data.toList = [s[k]] := by
  rw [extract_list]
  have hk : k < s.data.toList.length := by rw [Array.length_toList]; exact h
  rw [List.take_succ_eq_append_getElem hk, List.drop_append_of_le_length (by rw [List.length_take]; omega), List.drop_eq_nil_of_le (by rw [List.length_take]; omega)]
  rfl

theorem fillB_plain (vs : List ByteArray) (s : ByteArray) (k : Nat) (h : k < s.size) (hc : s[k] ≠ 36 ∨ k + 1 = s.size) : fillL vs (s.data.toList.drop k) = s[k] :: fillL vs (s.data.toList.drop (k + 1)) :=
  fill_plain vs s.data.toList k (by rw [len_list]; exact h) (hc.imp id (fun e => by rw [len_list]; exact e))
theorem fillB_dd (vs : List ByteArray) (s : ByteArray) (k : Nat) (h : k + 1 < s.size) (hc : s[k] = 36) (hd : s[k + 1] = 36) : fillL vs (s.data.toList.drop k) = 36 :: fillL vs (s.data.toList.drop (k + 2)) :=
  fill_dd vs s.data.toList k (by rw [len_list]; exact h) hc hd
theorem fillB_var (vs : List ByteArray) (s : ByteArray) (k : Nat) (h : k + 1 < s.size) (hc : s[k] = 36) (h1 : 48 ≤ s[k + 1].toNat) (h2 : s[k + 1].toNat < 54) :
    fillL vs (s.data.toList.drop k) = (vs.getD (s[k + 1].toNat - 48) ⟨#[]⟩).data.toList ++ fillL vs (s.data.toList.drop (k + 2)) :=
  fill_var vs s.data.toList k (by rw [len_list]; exact h) hc h1 h2
theorem fillB_else (vs : List ByteArray) (s : ByteArray) (k : Nat) (h : k + 1 < s.size) (hc : s[k] = 36) (hd : s[k + 1] ≠ 36) (hn : ¬ (48 ≤ s[k + 1].toNat ∧ s[k + 1].toNat < 54)) :
    fillL vs (s.data.toList.drop k) = 36 :: fillL vs (s.data.toList.drop (k + 1)) :=
  fill_else vs s.data.toList k (by rw [len_list]; exact h) hc hd hn

set_option maxRecDepth 100000 in
set_option maxHeartbeats 4000000 in
theorem expanded54 (T : Option Addr) (d : Nat) (vs : List ByteArray) (s : ByteArray) (w : World) (hx : Strs w T vs) (hl : vs.length = 6) (hb : ∀ x ∈ vs, (x.size : Int) ≤ 1000) (hs : (s.size : Int) ≤ 1000) :
    Calls Tryz.prog 54 #[.slice T 6 d, .string s] w fun e w' => e = .returned (.string (fillS vs s)) ∧ Ext w w' := by
  have HX := Lib.hid hx
  have HL := Lib.hid hl
  have HB := Lib.hid hb
  clear hx hl hb
  go_enter Tryz.func54, Tryz.ntmps54
  go_wp2_with fail
  go_loop [5, 6] (fun o i => ∃ (k : Nat) (t : ByteArray), k ≤ s.size ∧ i = .int .i64 k ∧ o = .string t ∧ (t.size : Int) ≤ 1001 * k ∧ Hid (t.data.toList ++ fillL vs (s.data.toList.drop k) = fillL vs s.data.toList)) (fun _ i => s.size - (intOf i).toNat)
  case atStart => exact ⟨0, ⟨#[]⟩, Nat.zero_le _, rfl, rfl, by simp [ByteArray.size], by unfold Hid; simp⟩
  case round =>
    obtain ⟨k, t, hk, rfl, rfl, hts, hf⟩ := hrel
    by_cases hlt : k < s.size
    · by_cases hc : s[k] = 36
      · have hq : (s[k].toNat : Int) = 36 := by rw [hc]; rfl
        by_cases hlast : k + 1 = s.size
        · have hq2 : ((k : Int) + 1 == (s.size : Int)) = true := by rw [beq_iff_eq]; omega
          have hf2 := fillB_plain vs s k hlt (.inr hlast)
          have HF := Lib.hid hf2
          have hts2 : (t.size : Int) ≤ 1100000 := by omega
          have hE : (s.extract k s.size).data.toList = [s[k]] := by
            have e1 : s.extract k s.size = s.extract k (k + 1) := by rw [hlast]
            rw [e1]
            exact extract_one s k hlt
          have HE := Lib.hid hE
          clear hf2 hc hE
          go_wp2_with fail
          go_round
          case rel =>
            refine ⟨k + 1, _, by omega, by go_num, rfl, by rw [ByteArray.size_append, ByteArray.size_extract]; omega, ?_⟩
            unfold Hid
            rw [ByteArray.data_append, Array.toList_append, HE.out, List.append_assoc, ← hf.out, HF.out]
            rfl
          case measure => simp [intOf]; omega
        · have hq2 : ((k : Int) + 1 == (s.size : Int)) = false := bq_no (by omega)
          have hk2 : k + 1 < s.size := by omega
          have hts2 : (t.size : Int) ≤ 1100000 := by omega
          have hone : (ByteArray.mk #[36]).size = 1 := rfl
          have HC := Lib.hid hc
          clear hlast hc
          by_cases hv : 48 ≤ s[k + 1].toNat ∧ s[k + 1].toNat < 54
          · have hf2 := fillB_var vs s k hk2 HC.out hv.1 hv.2
            have HF := Lib.hid hf2
            clear hf2
            obtain ⟨m, hm6, hm⟩ : ∃ m : Nat, m < 6 ∧ s[k + 1] = UInt8.ofNat (48 + m) := ⟨s[k + 1].toNat - 48, by omega, UInt8.toNat_inj.1 (by rw [UInt8.toNat_ofNat']; omega)⟩
            have hmv : m < vs.length := by have := HL.out; omega
            obtain ⟨ad, hA, hcx⟩ := HX.out m hmv
            subst hA
            have hsx : (vs[m].size : Int) ≤ 1000 := HB.out _ (List.getElem_mem _)
            have hg : vs.getD (s[k + 1].toNat - 48) ⟨#[]⟩ = vs[m] := by
              have e1 : s[k + 1].toNat - 48 = m := by rw [hm, UInt8.toNat_ofNat']; omega
              rw [e1, List.getD_eq_getElem?_getD, List.getElem?_eq_getElem hmv]
              rfl
            have HGD := Lib.hid hg
            clear hg hv
            have hb1 : (s[k + 1].toNat : Int) = 48 + m := by rw [hm, UInt8.toNat_ofNat']; omega
            clear hm
            go_wp2_with fail
            go_round
            case rel =>
              refine ⟨k + 2, _, by omega, by go_num, rfl, by rw [ByteArray.size_append]; omega, ?_⟩
              unfold Hid
              rw [ByteArray.data_append, Array.toList_append, List.append_assoc, ← hf.out, HF.out, HGD.out]
            case measure => simp [intOf]; omega
          · by_cases hd : s[k + 1] = 36
            · have hf2 := fillB_dd vs s k hk2 HC.out hd
              have HF := Lib.hid hf2
              have hb1 : (s[k + 1].toNat : Int) = 36 := by rw [hd]; rfl
              clear hf2 hd hv
              go_wp2_with fail
              go_round
              case rel =>
                refine ⟨k + 2, _, by omega, by go_num, rfl, by rw [ByteArray.size_append, hone]; omega, ?_⟩
                unfold Hid
                rw [ByteArray.data_append, Array.toList_append, List.append_assoc, ← hf.out, HF.out]
                rfl
              case measure => simp [intOf]; omega
            · have hf2 := fillB_else vs s k hk2 HC.out hd hv
              have HF := Lib.hid hf2
              have hb1 : ((s[k + 1].toNat : Int) == 36) = false := bq_no (fun e => hd (UInt8.toNat_inj.1 (by exact_mod_cast e)))
              clear hf2 hd
              by_cases h48 : 48 ≤ (s[k + 1].toNat : Int)
              · have h53 : ¬ (s[k + 1].toNat : Int) ≤ 53 := by omega
                clear hv
                go_wp2_with fail
                go_round
                case rel =>
                  refine ⟨k + 1, _, by omega, by go_num, rfl, by rw [ByteArray.size_append, hone]; omega, ?_⟩
                  unfold Hid
                  rw [ByteArray.data_append, Array.toList_append, List.append_assoc, ← hf.out, HF.out]
                  rfl
                case measure => simp [intOf]; omega
              · clear hv
                go_wp2_with fail
                go_round
                case rel =>
                  refine ⟨k + 1, _, by omega, by go_num, rfl, by rw [ByteArray.size_append, hone]; omega, ?_⟩
                  unfold Hid
                  rw [ByteArray.data_append, Array.toList_append, List.append_assoc, ← hf.out, HF.out]
                  rfl
                case measure => simp [intOf]; omega
      · have hq : ((s[k].toNat : Int) == 36) = false := bq_no (fun e => hc (UInt8.toNat_inj.1 (by exact_mod_cast e)))
        have hf2 := fillB_plain vs s k hlt (.inl hc)
        have HF := Lib.hid hf2
        have hts2 : (t.size : Int) ≤ 1100000 := by omega
        clear hf2 hc
        go_wp2_with fail
        go_round
        case rel =>
          refine ⟨k + 1, _, by omega, by go_num, rfl, by rw [ByteArray.size_append, ByteArray.size_extract]; omega, ?_⟩
          unfold Hid
          rw [ByteArray.data_append, Array.toList_append, extract_one s k hlt, List.append_assoc, ← hf.out, HF.out]
          rfl
        case measure => simp [intOf]; omega
    · have ke : k = s.size := by omega
      have KE := Lib.hid ke
      have hts2 : (t.size : Int) ≤ 1100000 := by omega
      clear ke
      go_wp2_with fail
      refine (cut84 t 100 _ (by unfold maxLen; omega) (by omega) (by omega)).mono ?_
      rintro e w' ⟨rfl, rfl⟩
      go_wp2
      go_ret
      refine ⟨ret_str ?_, Ext.refl _⟩
      have h2 := hf.out
      rw [KE.out, List.drop_eq_nil_of_le (by rw [len_list]; omega)] at h2
      apply ext_list
      rw [extract_upto]
      unfold fillS
      rw [mkB_toList, ← h2]
      simp [fillL]
theorem text28 (T : Option Addr) (n d : Nat) (vs : List ByteArray) (s : ByteArray) (w : World) (hx : Strs w T vs) (hl : vs.length = n) (hb : ∀ x ∈ vs, (x.size : Int) ≤ 1000) (hs : (s.size : Int) ≤ 1000) :
    Calls Tryz.prog 28 #[.slice T n d, .string s] w fun e w' => e = .returned (.tuple #[.string (if n = 6 then fillS vs s else ⟨#[]⟩), .int .i64 (if n = 6 then 0 else 2)]) ∧ Ext w w' := by
  by_cases h6 : n = 6
  · subst h6
    have HX := Lib.hid hx
    have HL := Lib.hid hl
    have HB := Lib.hid hb
    clear hx hl hb
    go_enter Tryz.func28, Tryz.ntmps28
    go_wp2_with fail
    refine (expanded54 T d vs s w HX.out HL.out HB.out hs).mono ?_
    rintro e w1 ⟨rfl, he⟩
    have HE := Lib.hid he
    clear he
    go_wp2
    go_ret2
    exact ⟨rfl, HE.out⟩
  · have h7 : ((n : Int) == 6) = false := bq_no (by omega)
    rw [if_neg h6, if_neg h6]
    clear h6 hx hl hb
    go_enter Tryz.func28, Tryz.ntmps28
    go_wp2
    go_ret2
    exact ⟨rfl, Ext.refl _⟩
end Go.Proofs.YtkdbajpdcadliaaGreatDoor.Pg
