/- Walks: fill of the program (a text with its variables filled in), Text. -/
import Derived.Test.YtkdbajpdcadliaaGreatDoorWz
import Derived.Test.YtkdbajpdcadliaaGreatDoorShelf
import Derived.Laws.BytesString
set_option linter.unusedVariables false
namespace Go.Proofs.YtkdbajpdcadliaaGreatDoor.Pg
open Go.RowKit

/-- The slice value v owns the bytes l, in a block from base on. -/
def OwnB (w : World) (base : Nat) (v : Value) (l : List UInt8) : Prop := w.ownsRow base 5 1 v l.length (Lib.byteCells l)
theorem byteCells_len (l : List UInt8) : (Lib.byteCells l).length = l.length := by unfold Lib.byteCells; rw [List.length_map]
theorem infoByte5 : (Tryz.prog.info? 5).map (fun i => (i.zero, i.size, i.bytes)) = some (some (.int .u8 0), 1, 1) := by kernel_rfl

/-- append(v, b): behind 'at_builtin'; the goal's world bears the variadic's box. -/
theorem app_byte {ops : Array Oper} {rest : List Oper} {o : Oper} {a : Act} {Q : Exit → Act → World → Prop} {W : World} (base : Nat) (hgd : o.guard = none) (s x : Operand)
    (ho : o.op = .call { callee := .builtin .append, args := #[s, x], argTypes := #[118, 118] }) (v : Value) (l : List UInt8) (b : UInt8) (y : Int) (hy : y = b.toNat) (hs : a.eval s = v)
    (hx : a.eval x = .slice (some ⟨W.heap.size, 0, none⟩) 1 1) (HO : OwnB W base v l) (hbase : base ≤ W.heap.size) (hl : (l.length : Int) ≤ 1000000000000)
    (h : ∀ v1 w1, OwnB w1 base v1 (l ++ [b]) → Below base W w1 → base ≤ w1.heap.size → wpList Tryz.prog ops Q rest (a.put o.dst v1) w1) :
    wpList Tryz.prog ops Q (o :: rest) a (W.alloc (.cells #[.int .u8 y] 5)) := by
  subst hy
  obtain ⟨i0, hi, hzz⟩ := Option.map_eq_some_iff.1 infoByte5
  simp only [Prod.mk.injEq] at hzz
  obtain ⟨hz0, hz1, hz2⟩ := hzz
  refine wpList_append_own_at (W.alloc (.cells #[.int .u8 b.toNat] 5)) hgd s x 118 ho base 5 i0 _ 1 1 Tryz.underlying118 hi hz0 hz1 hz2 rfl (by omega) v l.length (Lib.byteCells l) hs
    (World.ownsRow.alloc HO _) ⟨W.heap.size, 0, none⟩ 1 1 [.int .u8 b.toNat] hx rfl (cell_one_new _ _ _) (by simp [Value.oneCell']) (by simp only [maxLen]; omega) (by omega) (by simp; omega) ?_
  intro v1 w1 hown hg _ hat
  have hb : Below base W w1 := by
    refine ((Below.refl base W).alloc hbase _).grown hg (by simp; omega) (fun k hk => ?_)
    exact (World.ownsRow.lt HO k hk).1
  refine h v1 w1 ?_ hb (Nat.le_trans hbase hb.size)
  unfold OwnB
  simpa [Lib.byteCells] using hown
/-- append(v, s...) with a string s. -/
theorem app_bstr {ops : Array Oper} {rest : List Oper} {o : Oper} {a : Act} {Q : Exit → Act → World → Prop} {W : World} (base : Nat) (hgd : o.guard = none) (sl x : Operand)
    (ho : o.op = .call { callee := .builtin .append, args := #[sl, x], argTypes := #[118, 9] }) (v : Value) (l : List UInt8) (s : ByteArray) (hs : a.eval sl = v)
    (hx : a.eval x = .string s) (HO : OwnB W base v l) (hbase : base ≤ W.heap.size) (hl : (l.length : Int) + s.size ≤ 1000000000000)
    (h : ∀ v1 w1, OwnB w1 base v1 (l ++ s.data.toList) → Below base W w1 → base ≤ w1.heap.size → wpList Tryz.prog ops Q rest (a.put o.dst v1) w1) :
    wpList Tryz.prog ops Q (o :: rest) a W := by
  obtain ⟨i0, hi, hzz⟩ := Option.map_eq_some_iff.1 infoByte5
  simp only [Prod.mk.injEq] at hzz
  obtain ⟨hz0, hz1, hz2⟩ := hzz
  refine Lib.wpList_append_own_string W hgd sl x 118 9 ho base 5 i0 Tryz.underlying118 Tryz.underlying9 hi hz0 hz1 hz2 v l.length (Lib.byteCells l) hs HO s hx (by unfold maxLen; omega) (by omega) hbase ?_
  intro v1 w1 hown hg _
  have hb : Below base W w1 := (Below.refl base W).grown hg hbase (fun k hk => (World.ownsRow.lt HO k hk).1)
  refine h v1 w1 ?_ hb (Nat.le_trans hbase hb.size)
  unfold OwnB
  rw [List.length_append, len_list, show Lib.byteCells (l ++ s.data.toList) = Lib.byteCells l ++ Lib.strCells s by unfold Lib.byteCells Lib.strCells; rw [List.map_append]]
  exact hown
theorem push_all : ∀ (l : List UInt8) (s : ByteArray), (l.map fun b => (b.toNat : Int)).foldl (fun r n => r.push (UInt8.ofNat n.toNat)) s = mkB (s.data.toList ++ l)
  | [], s => by simp [mkB_of]
  | b :: l, s => by
    rw [List.map_cons, List.foldl_cons, push_all l]
    congr 1
    simp [ByteArray.push]
theorem bytes_str (W : World) (a : Addr) (l : List UInt8) (c : Nat) (h : ∀ j v, (Lib.byteCells l)[j]? = some v → W.cell? (a.add j) = some v) :
    (convert 118 9 (.slice (some a) l.length c)).run Tryz.prog W = .ok (.string (mkB l)) W := by
  rw [run_convert_bytes_string W 118 9 5 _ _ _ Tryz.underlying118 Tryz.underlying5 Tryz.underlying9]
  rw [run_bytesToString W a l.length c (l.map fun b => (b.toNat : Int)) ?_]
  · rw [push_all]; rfl
  · have := run_loadCells_list (P := Tryz.prog) (w := W) a (Lib.byteCells l) h
    rw [byteCells_len] at this
    rw [this]
    congr 1
    unfold Lib.byteCells
    rw [List.map_map]
    rfl
theorem bytes_nil (W : World) : (convert 118 9 (.slice none 0 0)).run Tryz.prog W = .ok (.string ⟨#[]⟩) W := by
  rw [run_convert_bytes_string W 118 9 5 _ _ _ Tryz.underlying118 Tryz.underlying5 Tryz.underlying9]
  first | rfl | (simp [Conv.bytesToString, Sem.run_pure]; done) | (simp [Conv.bytesToString]; rfl)
theorem bytes_upto (W : World) (a : Addr) (l : List UInt8) (c n : Nat) (hn : n ≤ l.length) (h : ∀ j v, (Lib.byteCells l)[j]? = some v → W.cell? (a.add j) = some v) :
    (convert 118 9 (.slice (some a) n c)).run Tryz.prog W = .ok (.string (mkB (l.take n))) W := by
  have e1 : (l.take n).length = n := by rw [List.length_take]; omega
  have := bytes_str W a (l.take n) c (fun j v hj => h j v (by
    unfold Lib.byteCells at hj ⊢
    rw [List.map_take] at hj
    rw [List.getElem?_take] at hj
    split at hj
    · exact hj
    · cases hj))
  rwa [e1] at this

set_option maxRecDepth 100000 in
set_option maxHeartbeats 4000000 in
theorem fill49 (T : Option Addr) (d : Nat) (vs : List ByteArray) (s : ByteArray) (w : World) (hx : Strs w T vs) (hl : vs.length = 6) (hb : ∀ x ∈ vs, (x.size : Int) ≤ 1000) (hs : (s.size : Int) ≤ 1000) :
    Calls Tryz.prog 49 #[.slice T 6 d, .string s] w fun e w' => e = .returned (.string (fillS vs s)) ∧ Ext w w' := by
  have HX := Lib.hid hx
  have HL := Lib.hid hl
  have HB := Lib.hid hb
  clear hx hl hb
  go_enter Tryz.func49, Tryz.ntmps49
  go_wp2_with fail
  go_loopw [5, 6] (fun v i wr => ∃ (k : Nat) (l : List UInt8), k ≤ s.size ∧ i = .int .i64 k ∧ OwnB wr w.heap.size v l ∧ (l.length : Int) ≤ 1001 * k ∧ Hid (l ++ fillL vs (s.data.toList.drop k) = fillL vs s.data.toList) ∧ Hid (Ext w wr) ∧ w.heap.size ≤ wr.heap.size) (fun _ i _ => s.size - (intOf i).toNat)
  case atStart => exact ⟨0, [], Nat.zero_le _, rfl, ⟨by simp [Lib.byteCells], .inl ⟨rfl, rfl⟩⟩, by simp, by unfold Hid; simp, Ext.refl _, Nat.le_refl _⟩
  case round =>
    obtain ⟨k, l, hk, rfl, hO, hts, hf, HE, hz⟩ := hrel
    have HO := Lib.hid hO
    clear hO
    by_cases hlt : k < s.size
    · have hts2 : (l.length : Int) ≤ 1100000 := by omega
      by_cases hc : s[k] = 36
      · have hq : (s[k].toNat : Int) = 36 := by rw [hc]; rfl
        by_cases hlast : k + 1 = s.size
        · have hq2 : ((k : Int) + 1 == (s.size : Int)) = true := by rw [beq_iff_eq]; omega
          have hf2 := fillB_plain vs s k hlt (.inr hlast)
          rw [hc] at hf2
          have HF := Lib.hid hf2
          clear hf2 hc
          go_wp2_with (at_builtin; refine app_byte w.heap.size rfl (.tmp 25) (.tmp 29) rfl _ _ 36 _ rfl rfl rfl HO.out hz (by omega) ?_; intro v1 w1 hown hb1 hz1; have HO1 := Lib.hid hown; have HE1 := Lib.hid (Below.trans HE.out hb1); clear hown hb1)
          go_roundw
          case rel =>
            refine ⟨k + 1, _, by omega, by go_num, HO1.out, ?_, ?_, HE1, hz1⟩
            · rw [List.length_append]; simp; omega
            · unfold Hid
              rw [List.append_assoc, ← hf.out, HF.out]
              rfl
          case measure => simp [intOf]; omega
        · have hq2 : ((k : Int) + 1 == (s.size : Int)) = false := bq_no (by omega)
          have hk2 : k + 1 < s.size := by omega
          have HC := Lib.hid hc
          clear hlast hc
          by_cases hv : 48 ≤ s[k + 1].toNat ∧ s[k + 1].toNat < 54
          · have hf2 := fillB_var vs s k hk2 HC.out hv.1 hv.2
            have HF := Lib.hid hf2
            clear hf2
            obtain ⟨m, hm6, hm⟩ : ∃ m : Nat, m < 6 ∧ s[k + 1].toNat = 48 + m := ⟨s[k + 1].toNat - 48, by omega, by omega⟩
            have hmv : m < vs.length := by have := HL.out; omega
            obtain ⟨ad, hA, hcx⟩ := (HX.out.ext HE.out) m hmv
            subst hA
            have hsx : (vs[m].size : Int) ≤ 1000 := HB.out _ (List.getElem_mem _)
            have hg : vs.getD (s[k + 1].toNat - 48) ⟨#[]⟩ = vs[m] := by
              have e1 : s[k + 1].toNat - 48 = m := by omega
              rw [e1, List.getD_eq_getElem?_getD, List.getElem?_eq_getElem hmv]
              rfl
            have HGD := Lib.hid hg
            clear hg hv
            have hb1 : (s[k + 1].toNat : Int) = 48 + m := by omega
            clear hm
            go_wp2_with (at_builtin; refine app_bstr w.heap.size rfl (.tmp 53) (.tmp 58) rfl _ _ vs[m] rfl rfl HO.out hz (by omega) ?_; intro v1 w1 hown hb2 hz1; have HO1 := Lib.hid hown; have HE1 := Lib.hid (Below.trans HE.out hb2); clear hown hb2)
            go_roundw
            case rel =>
              refine ⟨k + 2, _, by omega, by go_num, HO1.out, ?_, ?_, HE1, hz1⟩
              · rw [List.length_append]; have := len_list vs[m]; omega
              · unfold Hid
                rw [List.append_assoc, ← hf.out, HF.out]
                rw [HGD.out]
            case measure => simp [intOf]; omega
          · by_cases hd : s[k + 1] = 36
            · have hf2 := fillB_dd vs s k hk2 HC.out hd
              have HF := Lib.hid hf2
              have hb1 : (s[k + 1].toNat : Int) = 36 := by rw [hd]; rfl
              clear hf2 hd hv
              go_wp2_with (at_builtin; refine app_byte w.heap.size rfl (.tmp 41) (.tmp 42) rfl _ _ 36 _ rfl rfl rfl HO.out hz (by omega) ?_; intro v1 w1 hown hb1 hz1; have HO1 := Lib.hid hown; have HE1 := Lib.hid (Below.trans HE.out hb1); clear hown hb1)
              go_roundw
              case rel =>
                refine ⟨k + 2, _, by omega, by go_num, HO1.out, ?_, ?_, HE1, hz1⟩
                · rw [List.length_append]; simp; omega
                · unfold Hid
                  rw [List.append_assoc, ← hf.out, HF.out]
                  rfl
              case measure => simp [intOf]; omega
            · have hf2 := fillB_else vs s k hk2 HC.out hd hv
              have HF := Lib.hid hf2
              have hb1 : ((s[k + 1].toNat : Int) == 36) = false := bq_no (fun e => hd (UInt8.toNat_inj.1 (by exact_mod_cast e)))
              clear hf2 hd
              by_cases h48 : 48 ≤ (s[k + 1].toNat : Int)
              · have h53 : ¬ (s[k + 1].toNat : Int) < 54 := by omega
                clear hv
                go_wp2_with (at_builtin; refine app_byte w.heap.size rfl (.tmp 35) (.tmp 36) rfl _ _ 36 _ rfl rfl rfl HO.out hz (by omega) ?_; intro v1 w1 hown hb1 hz1; have HO1 := Lib.hid hown; have HE1 := Lib.hid (Below.trans HE.out hb1); clear hown hb1)
                go_roundw
                case rel =>
                  refine ⟨k + 1, _, by omega, by go_num, HO1.out, ?_, ?_, HE1, hz1⟩
                  · rw [List.length_append]; simp; omega
                  · unfold Hid
                    rw [List.append_assoc, ← hf.out, HF.out]
                    rfl
                case measure => simp [intOf]; omega
              · clear hv
                go_wp2_with (at_builtin; refine app_byte w.heap.size rfl (.tmp 35) (.tmp 36) rfl _ _ 36 _ rfl rfl rfl HO.out hz (by omega) ?_; intro v1 w1 hown hb1 hz1; have HO1 := Lib.hid hown; have HE1 := Lib.hid (Below.trans HE.out hb1); clear hown hb1)
                go_roundw
                case rel =>
                  refine ⟨k + 1, _, by omega, by go_num, HO1.out, ?_, ?_, HE1, hz1⟩
                  · rw [List.length_append]; simp; omega
                  · unfold Hid
                    rw [List.append_assoc, ← hf.out, HF.out]
                    rfl
                case measure => simp [intOf]; omega
      · have hq : ((s[k].toNat : Int) == 36) = false := bq_no (fun e => hc (UInt8.toNat_inj.1 (by exact_mod_cast e)))
        have hf2 := fillB_plain vs s k hlt (.inl hc)
        have HF := Lib.hid hf2
        clear hf2 hc
        go_wp2_with (at_builtin; refine app_byte w.heap.size rfl (.tmp 25) (.tmp 29) rfl _ _ s[k] _ rfl rfl rfl HO.out hz (by omega) ?_; intro v1 w1 hown hb1 hz1; have HO1 := Lib.hid hown; have HE1 := Lib.hid (Below.trans HE.out hb1); clear hown hb1)
        go_roundw
        case rel =>
          refine ⟨k + 1, _, by omega, by go_num, HO1.out, ?_, ?_, HE1, hz1⟩
          · rw [List.length_append]; simp; omega
          · unfold Hid
            rw [List.append_assoc, ← hf.out, HF.out]
            rfl
        case measure => simp [intOf]; omega
    · have ke : k = s.size := by omega
      have KE := Lib.hid ke
      have hts2 : (l.length : Int) ≤ 1100000 := by omega
      clear ke
      have hfin : fillS vs s = mkB (l.take 100) := by
        have h2 := hf.out
        rw [KE.out, List.drop_eq_nil_of_le (by rw [len_list]; omega)] at h2
        unfold fillS
        rw [← h2]
        simp [fillL]
      have HFN := Lib.hid hfin
      clear hfin
      rcases HO.out.2 with ⟨rfl, h0⟩ | ⟨g, cap, cur, rfl, hgb, hgh, hgc, hrest⟩
      · have hl0 : l = [] := List.eq_nil_of_length_eq_zero h0
        subst hl0
        go_wp2_with fail
        rw [show ((min 0 100 : Int)).toNat = 0 from rfl, bytes_nil]
        simp only [Result.andThen]
        rw [Oper.upon_value]
        go_wp2
        go_ret
        refine ⟨ret_str ?_, HE.out⟩
        rw [HFN.out]
        rfl
      · have HB2 := Lib.hid (World.ownsRow.cells HO.out (g := g) rfl)
        clear hrest hgh
        by_cases h100 : l.length ≤ 100
        · go_wp2_with fail
          rw [bytes_upto wr _ l _ _ (by omega) HB2.out]
          simp only [Result.andThen]
          rw [Oper.upon_value]
          go_wp2
          go_ret
          refine ⟨ret_str ?_, HE.out⟩
          rw [HFN.out, show (min (l.length : Int) 100).toNat = l.length by omega, List.take_of_length_le h100, List.take_of_length_le (Nat.le_refl _)]
        · go_wp2_with fail
          rw [bytes_upto wr _ l _ _ (by omega) HB2.out]
          simp only [Result.andThen]
          rw [Oper.upon_value]
          go_wp2
          go_ret
          refine ⟨ret_str ?_, HE.out⟩
          rw [HFN.out, show (min (l.length : Int) 100).toNat = 100 by omega]

theorem text27 (T : Option Addr) (n d : Nat) (vs : List ByteArray) (s : ByteArray) (w : World) (hx : Strs w T vs) (hl : vs.length = n) (hb : ∀ x ∈ vs, (x.size : Int) ≤ 1000) (hs : (s.size : Int) ≤ 1000) :
    Calls Tryz.prog 27 #[.slice T n d, .string s] w fun e w' => e = .returned (.tuple #[.string (if n = 6 then fillS vs s else ⟨#[]⟩), .int .i64 (if n = 6 then 0 else 2)]) ∧ Ext w w' := by
  by_cases h6 : n = 6
  · subst h6
    have HX := Lib.hid hx
    have HL := Lib.hid hl
    have HB := Lib.hid hb
    clear hx hl hb
    go_enter Tryz.func27, Tryz.ntmps27
    go_wp2_with fail
    refine (fill49 T d vs s w HX.out HL.out HB.out hs).mono ?_
    rintro e w1 ⟨rfl, he⟩
    have HE := Lib.hid he
    clear he
    go_wp2
    go_ret2
    exact ⟨rfl, HE.out⟩
  · have h7 : ((n : Int) == 6) = false := bq_no (by omega)
    rw [if_neg h6, if_neg h6]
    clear h6 hx hl hb
    go_enter Tryz.func27, Tryz.ntmps27
    go_wp2
    go_ret2
    exact ⟨rfl, Ext.refl _⟩
end Go.Proofs.YtkdbajpdcadliaaGreatDoor.Pg
