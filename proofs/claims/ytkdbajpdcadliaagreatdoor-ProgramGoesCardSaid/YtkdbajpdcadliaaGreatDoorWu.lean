/- Walks: Format of both sides. -/
import Derived.Test.YtkdbajpdcadliaaGreatDoorBb
import Derived.Test.YtkdbajpdcadliaaGreatDoorWn
import Derived.Test.YtkdbajpdcadliaaGreatDoorWo
import Derived.Test.YtkdbajpdcadliaaGreatDoorWq
import Derived.Test.YtkdbajpdcadliaaGreatDoorWm
set_option linter.unusedVariables false
namespace Go.Proofs.YtkdbajpdcadliaaGreatDoor.Pg
open Go.RowKit

/-- The lines of the first k steps. -/
def upL (ss : List Step) (k : Nat) : List UInt8 := (ss.take k).flatMap lineL
theorem upL_succ (ss : List Step) (k : Nat) (h : k < ss.length) : upL ss (k + 1) = upL ss k ++ lineL ss[k] := by
  unfold upL
  rw [List.take_succ_eq_append_getElem h, List.flatMap_append]
  simp
/-- What a valid program is known by. -/
structure ValidOk (p : Prog) : Prop where
  name : isNameS p.name = true
  pos : 1 ≤ p.steps.length
  len : p.steps.length ≤ 40
  each : ∀ s ∈ p.steps, StepOk s p.steps.length
theorem validOk {p : Prog} (h : validS p = true) : ValidOk p := by
  unfold validS at h
  simp only [Bool.and_eq_true, decide_eq_true_eq, List.all_eq_true] at h
  exact ⟨h.1.1.1, h.1.1.2, h.1.2, fun s hs => stepOk (h.2 s hs)⟩

theorem midL_len : ∀ (xs : List ByteArray), (∀ x ∈ xs, (x.size : Int) ≤ 100) → ((midL xs).length : Int) ≤ 103 * xs.length
  | [], _ => by simp [midL]
  | x :: xs, h => by
    have h1 := midL_len xs (fun y hy => h y (by simp [hy]))
    have h2 : (x.size : Int) ≤ 100 := h x (by simp)
    have h3 : x.data.toList.length = x.size := Array.length_toList
    unfold midL at h1 ⊢
    simp only [List.flatMap_cons, List.length_append, List.length_cons, List.length_nil, h3]
    omega
theorem tx_len {s : Step} {many : Int} (h : StepOk s many) (i : Nat) : ((tx s.texts i).length : Int) ≤ 100 := by
  unfold tx
  rw [List.getD_eq_getElem?_getD]
  rcases Nat.lt_or_ge i s.texts.length with hi | hi
  · rw [List.getElem?_eq_getElem hi]
    have := h.size _ (List.getElem_mem hi)
    have h3 : (s.texts[i]).data.toList.length = (s.texts[i]).size := Array.length_toList
    simp only [Option.getD_some, h3]
    omega
  · rw [List.getElem?_eq_none hi]
    simp
theorem dl_len {n : Int} (h1 : -9999 ≤ n) (h2 : n ≤ 9999) : ((dl n).length : Int) ≤ 20000 := by
  have := decS_sz n h1 h2
  have h3 : (decS n).size = (dl n).length := mkB_size _
  omega
theorem lineL_len {s : Step} {many : Int} (h : StepOk s many) (hm : many ≤ 9999) : ((lineL s).length : Int) ≤ 42000 := by
  obtain ⟨a1, a2⟩ := isM_bd h.a hm
  obtain ⟨b1, b2⟩ := isM_bd h.b hm
  have la := dl_len a1 a2
  have lb := dl_len b1 b2
  have t0 := tx_len h 0
  have t1 := tx_len h 1
  have t2 := tx_len h (s.texts.length - 1)
  have ha : (s.texts.length : Int) ≤ 7 := by
    have h1 := h.all
    have h2 : (verbS s.op).1.all ≤ 7 := by
      rcases verb_cases h.verb with e | e | e | e | e | e | e | e | e | e | e | e | e <;> rw [e] <;> decide
    omega
  have hm2 := midL_len ((s.texts.take (s.texts.length - 1)).drop 1) (fun x hx => h.size x (List.mem_of_mem_take (List.mem_of_mem_drop hx)))
  have hl : (((s.texts.take (s.texts.length - 1)).drop 1).length : Int) ≤ 7 := by simp; omega
  rcases verb_cases h.verb with e | e | e | e | e | e | e | e | e | e | e | e | e <;> simp only [lineL, e] <;> simp [-List.drop_one] <;> omega
theorem upL_len {ss : List Step} {many : Int} (h : ∀ s ∈ ss, StepOk s many) (hm : many ≤ 9999) : ∀ k, k ≤ ss.length → ((upL ss k).length : Int) ≤ 42000 * k
  | 0, _ => by simp [upL]
  | k + 1, hk => by
    have h1 := upL_len h hm k (by omega)
    have h2 := lineL_len (h _ (List.getElem_mem (by omega : k < ss.length))) hm
    rw [upL_succ ss k (by omega), List.length_append]
    omega
theorem upL_all (nm : ByteArray) (ss : List Step) : formatS ⟨nm, ss⟩ = mkB ([80, 82, 79, 71, 82, 65, 77, 32] ++ nm.data.toList ++ [10] ++ upL ss ss.length) := by
  unfold formatS formatL upL
  rw [List.take_length]

set_option maxRecDepth 100000 in
theorem format34 (nm : ByteArray) (A : Option Addr) (n c : Nat) (ss : List Step) (w : World) (hx : StepsAt w A ss) (hl : ss.length = n) (hb : BdS ss) (hnm : (nm.size : Int) ≤ 1000000) :
    Calls Tryz.prog 34 #[.agg #[.string nm, .slice A n c]] w fun e w' => e = .returned (.tuple #[.string (if validS ⟨nm, ss⟩ then formatS ⟨nm, ss⟩ else ⟨#[]⟩), .int .i64 (if validS ⟨nm, ss⟩ then 0 else 230)]) ∧ Ext w w' := by
  have HX := Lib.hid hx
  have HL := Lib.hid hl
  cases hv : validS ⟨nm, ss⟩ with
  | false =>
    go_enter Tryz.func34, Tryz.ntmps34
    go_wp2_with fail
    refine (valid21 nm A n c ss _ (hx.ext (Ext.new _ _)) hl hb (by omega)).mono ?_
    rintro e w1 ⟨rfl, he⟩
    rw [hv]
    have HE := Lib.hid (Ext.trans (Ext.new w _) he)
    clear he hx hl
    go_wp2
    go_ret2
    exact ⟨rfl, HE.out⟩
  | true =>
    have hk := validOk hv
    go_enter Tryz.func34, Tryz.ntmps34
    go_wp2_with fail
    refine (valid21 nm A n c ss _ (hx.ext (Ext.new _ _)) hl hb (by omega)).mono ?_
    rintro e w1 ⟨rfl, he⟩
    rw [hv]
    have KC := (Blk.new w [.string nm, .slice A n c] 24).ext he
    have c0 := KC.c0
    have c1 := KC.c1
    have HE := Lib.hid (Ext.trans (Ext.new w _) he)
    have HK := Lib.hid hk
    have HKC := Lib.hid KC
    clear he hx hl hk KC
    go_wp2_with fail
    have hL40 : n ≤ 40 := by have := HK.out.len; have := HL.out; simp at *; omega
    go_loopw [4, 5] (fun o i wr => ∃ (k : Nat) (s : ByteArray), k ≤ n ∧ i = .int .i64 k ∧ o = .string s ∧ Hid (s.data.toList = [80, 82, 79, 71, 82, 65, 77, 32] ++ nm.data.toList ++ [10] ++ upL ss k) ∧ Hid (Ext w1 wr)) (fun _ i _ => n - (intOf i).toNat)
    case atStart => exact ⟨0, _, Nat.zero_le _, rfl, rfl, by unfold Hid; simp [upL, ByteArray.data_append], Ext.refl _⟩
    case round =>
      obtain ⟨k, s, hk, rfl, rfl, hs, he⟩ := hrel
      have k0 := (HKC.out.ext he.out).c0
      have k1 := (HKC.out.ext he.out).c1
      by_cases hlt : k < n
      · have lx : k < ss.length := by have := HL.out; omega
        obtain ⟨ad, T, c', hA, hc0, hc1, hc2, hc3, hcc, hT⟩ := (HX.out.ext (Ext.trans HE.out he.out)) k lx
        subst hA
        have HT := Lib.hid hT
        clear hT
        have hok := HK.out.each _ (List.getElem_mem lx)
        have HO := Lib.hid (show StepOk ss[k] (ss.length : Int) from hok)
        have hs40 : (ss.length : Int) ≤ 40 := by have : ss.length ≤ 40 := HK.out.len; omega
        have hsz : (s.size : Int) ≤ 4000000 := by
          have h1 := upL_len (ss := ss) HK.out.each (by have := HK.out.len; omega) k (by omega)
          have h2 := congrArg List.length hs.out
          simp only [List.length_append, Array.length_toList, List.length_cons, List.length_nil] at h2
          have h3 : s.data.size = s.size := rfl
          have h4 : nm.data.size = nm.size := rfl
          omega
        have hls : ((lineS ss[k]).size : Int) ≤ 42000 := by
          have := lineL_len hok (by have := HK.out.len; omega)
          unfold lineS
          rw [mkB_size]
          exact this
        have hls2 : ((lineS ⟨ss[k].op, ss[k].a, ss[k].b, ss[k].texts⟩).size : Int) ≤ 42000 := hls
        clear hok hls
        go_wp2_with fail
        refine (lines69 _ _ _ _ _ _ _ _ _ HT.out rfl HO.out (by omega)).mono ?_
        rintro e w2 ⟨rfl, he2⟩
        have HE2 := Lib.hid (Ext.trans he.out he2)
        clear he2 he
        go_wp2_with fail
        go_roundw
        case rel =>
          refine ⟨k + 1, _, by omega, by go_num, rfl, ?_, HE2.out⟩
          unfold Hid
          rw [upL_succ ss k lx, ByteArray.data_append, Array.toList_append, hs.out, show (lineS ⟨ss[k].op, ss[k].a, ss[k].b, ss[k].texts⟩).data.toList = lineL ss[k] from mkB_toList _]
          simp only [List.append_assoc]
        case measure => simp [intOf]; omega
      · have ke : k = ss.length := by have := HL.out; omega
        have KE := Lib.hid ke
        clear ke
        go_wp2_with fail
        go_ret2
        refine ⟨?_, Ext.trans HE.out he.out⟩
        have hs2 := hs.out
        rw [KE.out] at hs2
        have hfin : formatS ⟨nm, ss⟩ = s := by rw [upL_all, ← hs2, mkB_of]
        rw [hfin]
        rfl
theorem builder_ext {B b : Nat} {bs : List Value} {w w' : World} (h : Lib.IsBuilder 133 5 B b bs w) (he : Ext w w') : Lib.IsBuilder 133 5 B b bs w' := by
  have key : ∀ p, Lib.BuilderAt 133 5 B b p bs w → Lib.BuilderAt 133 5 B b p bs w' := fun p hp => by
    have hlt := hp.lt
    obtain ⟨h1, v, h2, h3, h4⟩ := hp
    exact ⟨h1, v, (he.block b hlt).trans h2, World.ownsRow.kept (row := none) h3 ⟨he.os, he.tape, he.output, he.size, fun i hi _ => he.block i hi⟩ (by cases v.ownBlock <;> simp), h4⟩
  rcases h with h | h
  · exact .inl (key _ h)
  · exact .inr (key _ h)
theorem strCells_list (l : List UInt8) (s : ByteArray) : Lib.byteCells l ++ Lib.strCells s = Lib.byteCells (l ++ s.data.toList) := by
  unfold Lib.byteCells Lib.strCells
  rw [List.map_append]

set_option maxRecDepth 100000 in
theorem format63 (nm : ByteArray) (A : Option Addr) (n c : Nat) (ss : List Step) (w : World) (hx : StepsAt w A ss) (hl : ss.length = n) (hv : validS ⟨nm, ss⟩ = true) (hnm : (nm.size : Int) ≤ 1000000) (hg : Gl w) :
    Calls Tryz.prog 63 #[.agg #[.string nm, .slice A n c]] w fun e w' => e = .returned (.string (formatS ⟨nm, ss⟩)) ∧ Ext w w' := by
  have hk := validOk hv
  have HX := Lib.hid hx
  have HL := Lib.hid hl
  have HK := Lib.hid hk
  have HG := Lib.hid hg
  have hL40 : n ≤ 40 := by have : ss.length ≤ 40 := hk.len; omega
  clear hx hl hk hg
  go_enter Tryz.func63, Tryz.ntmps63
  go_upto_region 2 with (fail)
  have kP := (Blk.new w [.string nm, .slice A n c] 24).ext (Ext.new _ (.cells #[.pointer none, .slice none 0 0] 133))
  have hB0 := Lib.fresh_isBuilder 133 5 (w.alloc (.cells #[.string nm, .slice A n c] 24))
  have hE0 := Ext.trans (Ext.new w (.cells #[.string nm, .slice A n c] 24)) (Ext.new _ (.cells #[.pointer none, .slice none 0 0] 133))
  have hlt0 : (w.alloc (.cells #[.string nm, .slice A n c] 24)).heap.size < ((w.alloc (.cells #[.string nm, .slice A n c] 24)).alloc (.cells #[.pointer none, .slice none 0 0] 133)).heap.size := by simp
  obtain ⟨b, hb⟩ : ∃ b, (w.alloc (.cells #[.string nm, .slice A n c] 24)).heap.size = b := ⟨_, rfl⟩
  have hwb : w.heap.size < b := by rw [← hb]; simp
  rw [hb] at hB0
  have hb2 : w.heap.size + 1 = b := by rw [← hb]; simp
  simp only [hb2]
  rw [hb] at hlt0
  clear hb hb2
  generalize World.alloc (w.alloc _) _ = W0 at kP hB0 hE0 hlt0
  have c0 := kP.c0
  have c1 := kP.c1
  go_wp2_with fail
  refine (writeString96 b b [] _ W0 hB0 (by have h1 : (ByteArray.mk #[80, 82, 79, 71, 82, 65, 77, 32]).size = 8 := rfl; have h2 : (ByteArray.mk #[10]).size = 1 := rfl; simp only [ByteArray.size_append, h1, h2, List.length_nil]; omega) (by omega)).mono ?_
  rintro e W1 ⟨rfl, hB1, hL1⟩
  have E1 : Ext w W1 := Below.trans hE0 (hL1.mono (show w.heap.size ≤ b by omega))
  have k1 := (show Blk W1 w.heap.size 24 [.string nm, .slice A n c] from (hL1.block _ hwb).trans kP)
  have hB2 : Lib.IsBuilder 133 5 b b (Lib.byteCells ([80, 82, 79, 71, 82, 65, 77, 32] ++ nm.data.toList ++ [10] ++ upL ss 0)) W1 := by
    have e1 : ([] : List Value) ++ Lib.strCells (ByteArray.mk #[80, 82, 79, 71, 82, 65, 77, 32] ++ nm ++ ByteArray.mk #[10]) = Lib.byteCells ([80, 82, 79, 71, 82, 65, 77, 32] ++ nm.data.toList ++ [10] ++ upL ss 0) := by
      have := strCells_list [] (ByteArray.mk #[80, 82, 79, 71, 82, 65, 77, 32] ++ nm ++ ByteArray.mk #[10])
      rw [show Lib.byteCells [] = [] from rfl] at this
      rw [this]
      simp [upL, ByteArray.data_append]
    rw [← e1]
    exact .inr hB1
  have HB1 := Lib.hid hB2
  have hz1 := hL1.size
  have HL1 := Lib.hid E1
  have HK1 := Lib.hid k1
  clear hB1 hL1 E1 hE0 kP hB0 c0 c1 hB2
  have c0 := k1.c0
  have c1 := k1.c1
  clear k1
  go_wp2_with fail
  go_loopw [14] (fun i wr => ∃ k : Nat, k ≤ n ∧ i = .int .i64 k ∧ Hid (Lib.IsBuilder 133 5 b b (Lib.byteCells ([80, 82, 79, 71, 82, 65, 77, 32] ++ nm.data.toList ++ [10] ++ upL ss k)) wr) ∧ Hid (Ext w wr) ∧ b < wr.heap.size) (fun i _ => n - (intOf i).toNat)
  case atStart => exact ⟨0, Nat.zero_le _, rfl, HB1, HL1, by omega⟩
  case round =>
    obtain ⟨k, hk, rfl, hbl, he, hbw⟩ := hrel
    by_cases hlt : k < n
    · have lx : k < ss.length := by have := HL.out; omega
      obtain ⟨ad, T, c', hA, hc0, hc1, hc2, hc3, hcc, hT⟩ := (HX.out.ext he.out) k lx
      subst hA
      have HT := Lib.hid hT
      clear hT
      have hs40 : (ss.length : Int) ≤ 40 := by have : ss.length ≤ 40 := HK.out.len; omega
      have hok : StepOk ss[k] (ss.length : Int) := HK.out.each _ (List.getElem_mem lx)
      have HO := Lib.hid (show StepOk ss[k] (ss.length : Int) from hok)
      have hls2 : ((lineS ⟨ss[k].op, ss[k].a, ss[k].b, ss[k].texts⟩).size : Int) ≤ 42000 := by
        have := lineL_len hok (by omega)
        unfold lineS
        rw [mkB_size]
        exact this
      have hlk : (ss.length : Int) ≤ 9999 := by omega
      have hup : ((Lib.byteCells ([80, 82, 79, 71, 82, 65, 77, 32] ++ nm.data.toList ++ [10] ++ upL ss k)).length : Int) ≤ 4000000 := by
        have h1 := upL_len (ss := ss) (many := (ss.length : Int)) HK.out.each hlk k (by omega)
        have h4 : nm.data.size = nm.size := rfl
        simp only [Lib.byteCells, List.length_map, List.length_append, Array.length_toList, List.length_cons, List.length_nil]
        omega
      clear hok
      go_wp2_with fail
      refine (line97 _ _ _ _ _ _ _ _ _ (HT.out.ext (Ext.new _ _)) rfl hcc HO.out (by omega) (HG.out.ext (Ext.trans he.out (Ext.new _ _)))).mono ?_
      rintro e w2 ⟨rfl, he2⟩
      have HE2 := Ext.trans (Ext.new wr (.cells #[.int .i64 ss[k].op, .int .i64 ss[k].a, .int .i64 ss[k].b, .slice T ss[k].texts.length c'] 77)) he2
      have hz2 : wr.heap.size ≤ w2.heap.size := HE2.size
      have HB2 := builder_ext hbl.out HE2
      replace HE2 := Lib.hid (Ext.trans he.out HE2)
      clear he2
      go_wp2_with fail
      refine (writeString96 b b _ _ w2 HB2 (by omega) (by omega)).mono ?_
      rintro e w3 ⟨rfl, hB3, hL3⟩
      have hz3 := hL3.size
      have HE3 := Lib.hid (Below.trans HE2.out (hL3.mono (show w.heap.size ≤ b by omega)))
      rw [strCells_list, show (lineS ⟨ss[k].op, ss[k].a, ss[k].b, ss[k].texts⟩).data.toList = lineL ss[k] from mkB_toList _, List.append_assoc, ← upL_succ ss k lx] at hB3
      have HB3 := Lib.hid hB3
      clear hB3 hL3 HB2
      go_wp2_with fail
      go_roundw
      case rel => exact ⟨k + 1, by omega, by go_num, .inr HB3.out, HE3, by omega⟩
      case measure => simp [intOf]; omega
    · have ke : k = ss.length := by have := HL.out; omega
      have KE := Lib.hid ke
      clear ke
      go_wp2_with fail
      refine (Tryz.Builder_String_any b b _ wr hbl.out (by omega)).mono ?_
      rintro e w2 ⟨rfl, hL2⟩
      have HE2 := Lib.hid (Below.trans he.out (hL2.mono (show w.heap.size ≤ b by omega)))
      clear hL2
      go_wp2
      go_ret
      refine ⟨ret_str ?_, HE2.out⟩
      rw [KE.out, upL_all]
      unfold mkB
      simp
theorem format26 (nm : ByteArray) (A : Option Addr) (n c : Nat) (ss : List Step) (w : World) (hx : StepsAt w A ss) (hl : ss.length = n) (hb : BdS ss) (hnm : (nm.size : Int) ≤ 1000000) (hg : Gl w) :
    Calls Tryz.prog 26 #[.agg #[.string nm, .slice A n c]] w fun e w' => e = .returned (.tuple #[.string (if validS ⟨nm, ss⟩ then formatS ⟨nm, ss⟩ else ⟨#[]⟩), .int .i64 (if validS ⟨nm, ss⟩ then 0 else 230)]) ∧ Ext w w' := by
  have HX := Lib.hid hx
  have HL := Lib.hid hl
  have HG := Lib.hid hg
  cases hv : validS ⟨nm, ss⟩ with
  | false =>
    have HV := Lib.hid hv
    go_enter Tryz.func26, Tryz.ntmps26
    go_wp2_with fail
    refine (valid35 nm A n c ss _ (hx.ext (Ext.new _ _)) hl hb (by omega)).mono ?_
    rintro e w1 ⟨rfl, he⟩
    rw [hv]
    have KC := (Blk.new w [.string nm, .slice A n c] 24).ext he
    have c0 := KC.c0
    have c1 := KC.c1
    have HE := Lib.hid (Ext.trans (Ext.new w _) he)
    clear he hx hl hg KC hv
    go_wp2
    go_ret2
    exact ⟨rfl, HE.out⟩
  | true =>
    have HV := Lib.hid hv
    go_enter Tryz.func26, Tryz.ntmps26
    go_wp2_with fail
    refine (valid35 nm A n c ss _ (hx.ext (Ext.new _ _)) hl hb (by omega)).mono ?_
    rintro e w1 ⟨rfl, he⟩
    rw [hv]
    have KC := (Blk.new w [.string nm, .slice A n c] 24).ext he
    have c0 := KC.c0
    have c1 := KC.c1
    have HE := Lib.hid (Ext.trans (Ext.new w _) he)
    clear he hx hl hg KC hv
    go_wp2_with fail
    refine (format63 nm A n c ss w1 (HX.out.ext HE.out) HL.out HV.out hnm (HG.out.ext HE.out)).mono ?_
    rintro e w2 ⟨rfl, he2⟩
    have HE2 := Lib.hid (Ext.trans HE.out he2)
    clear he2
    go_wp2
    go_ret2
    exact ⟨rfl, HE2.out⟩
end Go.Proofs.YtkdbajpdcadliaaGreatDoor.Pg
