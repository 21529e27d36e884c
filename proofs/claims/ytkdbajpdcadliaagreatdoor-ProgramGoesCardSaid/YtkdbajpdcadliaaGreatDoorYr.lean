/- Walks: Want of the reference. -/
import Derived.Test.YtkdbajpdcadliaaGreatDoorYq
set_option linter.unusedVariables false
namespace Go.Proofs.YtkdbajpdcadliaaGreatDoor.Pg
open Go.RowKit

theorem overI_eq {n : Nat} {q : RunS} (h : RunOk n q) : overI n q.place q.count q.over = overN n q := by
  have h1 := h.p1
  have h2 := h.c1
  have h3 := h.o0
  have e1 : (q.over ≠ 0) = (0 < q.over) := propext ⟨fun _ => by omega, fun _ => by omega⟩
  have e2 : ((n : Int) ≤ q.place) = (q.place = n) := propext ⟨fun _ => by omega, fun _ => by omega⟩
  have e3 : (200 ≤ q.count) = (q.count = 200) := propext ⟨fun _ => by omega, fun _ => by omega⟩
  unfold overI overN
  simp only [e1, e2, e3]
theorem alone_some {s : Step} {r q : RunS} (h : aloneS s r = some q) : 3 ≤ s.op ∧ s.op ≤ 7 := by
  unfold aloneS at h
  split at h
  · omega
  split at h
  · omega
  split at h
  · omega
  split at h
  · omega
  split at h
  · omega
  · cases h
theorem blk_add (a : Addr) (i : Nat) : (a.add i).block = a.block := by unfold Addr.add; split <;> rfl
theorem Keep.bel {bp B : Nat} {w W w5 : World} (h : Keep bp w W) (hb : Below B W w5) (hB : w.heap.size ≤ B) : Keep bp w w5 :=
  ⟨hb.os.trans h.os, hb.tape.trans h.tape, hb.output.trans h.output, Nat.le_trans h.size hb.size, fun k hk hne => (hb.block k (Nat.lt_of_lt_of_le hk hB)).trans (h.block k hk hne)⟩
set_option maxRecDepth 100000 in
set_option maxHeartbeats 4000000 in
theorem expanded54q (T : Option Addr) (d : Nat) (vs : List ByteArray) (s : ByteArray) (w : World) (hx : Strs w T vs) (hl : vs.length = 6) (hb : ∀ x ∈ vs, (x.size : Int) ≤ 1000) (hs : (s.size : Int) ≤ 1000) :
    Calls Tryz.prog 54 #[.slice T 6 d, .string s] w fun e w' => e = .returned (.string (fillS vs s)) ∧ w' = w := by
  have HX := Lib.hid hx
  have HL := Lib.hid hl
  have HB := Lib.hid hb
  clear hx hl hb
  go_enter Tryz.func54, Tryz.ntmps54
  go_wp2_with fail
  go_loop [5, 6] (fun o i => ∃ (k : Nat) (t : ByteArray), k ≤ s.size ∧ i = .int .i64 k ∧ o = .string t ∧ (t.size : Int) ≤ 1001 * k ∧ Hid (t.data.toList ++ fillL vs (s.data.toList.drop k) = fillL vs s.data.toList)) (fun _ i => s.size - (intOf i).toNat)
  case atStart => exact ⟨0, ⟨#[]⟩, Nat.zero_le _, rfl, rfl, by simp [ByteArray.size], by unfold Hid; simp⟩
  case round =>
    obtain ⟨k, t, hk, rfl, rfl, hts, hf⟩ := hrel
    by_cases hlt : k < s.size
    · by_cases hc : s[k] = 36
      · have hq : (s[k].toNat : Int) = 36 := by rw [hc]; rfl
        by_cases hlast : k + 1 = s.size
        · have hq2 : ((k : Int) + 1 == (s.size : Int)) = true := by rw [beq_iff_eq]; omega
          have hf2 := fillB_plain vs s k hlt (.inr hlast)
          have HF := Lib.hid hf2
          have hts2 : (t.size : Int) ≤ 1100000 := by omega
          have hE : (s.extract k s.size).data.toList = [s[k]] := by
            have e1 : s.extract k s.size = s.extract k (k + 1) := by rw [hlast]
            rw [e1]
            exact extract_one s k hlt
          have HE := Lib.hid hE
          clear hf2 hc hE
          go_wp2_with fail
          go_round
          case rel =>
            refine ⟨k + 1, _, by omega, by go_num, rfl, by rw [ByteArray.size_append, ByteArray.size_extract]; omega, ?_⟩
            unfold Hid
            rw [ByteArray.data_append, Array.toList_append, HE.out, List.append_assoc, ← hf.out, HF.out]
            rfl
          case measure => simp [intOf]; omega
        · have hq2 : ((k : Int) + 1 == (s.size : Int)) = false := bq_no (by omega)
          have hk2 : k + 1 < s.size := by omega
          have hts2 : (t.size : Int) ≤ 1100000 := by omega
          have hone : (ByteArray.mk #[36]).size = 1 := rfl
          have HC := Lib.hid hc
          clear hlast hc
          by_cases hv : 48 ≤ s[k + 1].toNat ∧ s[k + 1].toNat < 54
          · have hf2 := fillB_var vs s k hk2 HC.out hv.1 hv.2
            have HF := Lib.hid hf2
            clear hf2
            obtain ⟨m, hm6, hm⟩ : ∃ m : Nat, m < 6 ∧ s[k + 1] = UInt8.ofNat (48 + m) := ⟨s[k + 1].toNat - 48, by omega, UInt8.toNat_inj.1 (by rw [UInt8.toNat_ofNat']; omega)⟩
            have hmv : m < vs.length := by have := HL.out; omega
            obtain ⟨ad, hA, hcx⟩ := HX.out m hmv
            subst hA
            have hsx : (vs[m].size : Int) ≤ 1000 := HB.out _ (List.getElem_mem _)
            have hg : vs.getD (s[k + 1].toNat - 48) ⟨#[]⟩ = vs[m] := by
              have e1 : s[k + 1].toNat - 48 = m := by rw [hm, UInt8.toNat_ofNat']; omega
              rw [e1, List.getD_eq_getElem?_getD, List.getElem?_eq_getElem hmv]
              rfl
            have HGD := Lib.hid hg
            clear hg hv
            have hb1 : (s[k + 1].toNat : Int) = 48 + m := by rw [hm, UInt8.toNat_ofNat']; omega
            clear hm
            go_wp2_with fail
            go_round
            case rel =>
              refine ⟨k + 2, _, by omega, by go_num, rfl, by rw [ByteArray.size_append]; omega, ?_⟩
              unfold Hid
              rw [ByteArray.data_append, Array.toList_append, List.append_assoc, ← hf.out, HF.out, HGD.out]
            case measure => simp [intOf]; omega
          · by_cases hd : s[k + 1] = 36
            · have hf2 := fillB_dd vs s k hk2 HC.out hd
              have HF := Lib.hid hf2
              have hb1 : (s[k + 1].toNat : Int) = 36 := by rw [hd]; rfl
              clear hf2 hd hv
              go_wp2_with fail
              go_round
              case rel =>
                refine ⟨k + 2, _, by omega, by go_num, rfl, by rw [ByteArray.size_append, hone]; omega, ?_⟩
                unfold Hid
                rw [ByteArray.data_append, Array.toList_append, List.append_assoc, ← hf.out, HF.out]
                rfl
              case measure => simp [intOf]; omega
            · have hf2 := fillB_else vs s k hk2 HC.out hd hv
              have HF := Lib.hid hf2
              have hb1 : ((s[k + 1].toNat : Int) == 36) = false := bq_no (fun e => hd (UInt8.toNat_inj.1 (by exact_mod_cast e)))
              clear hf2 hd
              by_cases h48 : 48 ≤ (s[k + 1].toNat : Int)
              · have h53 : ¬ (s[k + 1].toNat : Int) ≤ 53 := by omega
                clear hv
                go_wp2_with fail
                go_round
                case rel =>
                  refine ⟨k + 1, _, by omega, by go_num, rfl, by rw [ByteArray.size_append, hone]; omega, ?_⟩
                  unfold Hid
                  rw [ByteArray.data_append, Array.toList_append, List.append_assoc, ← hf.out, HF.out]
                  rfl
                case measure => simp [intOf]; omega
              · clear hv
                go_wp2_with fail
                go_round
                case rel =>
                  refine ⟨k + 1, _, by omega, by go_num, rfl, by rw [ByteArray.size_append, hone]; omega, ?_⟩
                  unfold Hid
                  rw [ByteArray.data_append, Array.toList_append, List.append_assoc, ← hf.out, HF.out]
                  rfl
                case measure => simp [intOf]; omega
      · have hq : ((s[k].toNat : Int) == 36) = false := bq_no (fun e => hc (UInt8.toNat_inj.1 (by exact_mod_cast e)))
        have hf2 := fillB_plain vs s k hlt (.inl hc)
        have HF := Lib.hid hf2
        have hts2 : (t.size : Int) ≤ 1100000 := by omega
        clear hf2 hc
        go_wp2_with fail
        go_round
        case rel =>
          refine ⟨k + 1, _, by omega, by go_num, rfl, by rw [ByteArray.size_append, ByteArray.size_extract]; omega, ?_⟩
          unfold Hid
          rw [ByteArray.data_append, Array.toList_append, extract_one s k hlt, List.append_assoc, ← hf.out, HF.out]
          rfl
        case measure => simp [intOf]; omega
    · have ke : k = s.size := by omega
      have KE := Lib.hid ke
      have hts2 : (t.size : Int) ≤ 1100000 := by omega
      clear ke
      go_wp2_with fail
      refine (cut84 t 100 _ (by unfold maxLen; omega) (by omega) (by omega)).mono ?_
      rintro e w' ⟨rfl, rfl⟩
      go_wp2
      go_ret
      refine ⟨ret_str ?_, rfl⟩
      have h2 := hf.out
      rw [KE.out, List.drop_eq_nil_of_le (by rw [len_list]; omega)] at h2
      apply ext_list
      rw [extract_upto]
      unfold fillS
      rw [mkB_toList, ← h2]
      simp [fillL]

set_option maxRecDepth 100000 in
set_option maxHeartbeats 40000000 in
theorem want16 (nm : ByteArray) (A : Option Addr) (n c : Nat) (ss : List Step) (place count over : Int) (T : Option Addr) (k d : Nat) (xs : List ByteArray) (st : ByteArray) (w : World) (hp : StepsAt w A ss) (hpl : ss.length = n) (hpb : BdS ss) (hnm : (nm.size : Int) ≤ 1000000) (hx : Strs w T xs) (hl : xs.length = k) (hb : Bd xs) (hg : Gl w) (hgw : GlB w.heap.size) :
    Calls Tryz.prog 16 #[.agg #[.string nm, .slice A n c], runV place T k d st count over] w fun e w' => ∃ T' k' d' Tw nw cw, e = .returned (.tuple #[runV (wantR ⟨nm, ss⟩ ⟨place, xs, st, count, over⟩).1.place T' k' d' (wantR ⟨nm, ss⟩ ⟨place, xs, st, count, over⟩).1.status (wantR ⟨nm, ss⟩ ⟨place, xs, st, count, over⟩).1.count (wantR ⟨nm, ss⟩ ⟨place, xs, st, count, over⟩).1.over,
        .agg #[.int .i64 (wantR ⟨nm, ss⟩ ⟨place, xs, st, count, over⟩).2.1.op, .int .i64 (wantR ⟨nm, ss⟩ ⟨place, xs, st, count, over⟩).2.1.a, .int .i64 (wantR ⟨nm, ss⟩ ⟨place, xs, st, count, over⟩).2.1.b, .slice Tw nw cw], .int .i64 (wantR ⟨nm, ss⟩ ⟨place, xs, st, count, over⟩).2.2]) ∧
      Strs w' T' (wantR ⟨nm, ss⟩ ⟨place, xs, st, count, over⟩).1.vars ∧ (wantR ⟨nm, ss⟩ ⟨place, xs, st, count, over⟩).1.vars.length = k' ∧ Strs w' Tw (wantR ⟨nm, ss⟩ ⟨place, xs, st, count, over⟩).2.1.texts ∧ (wantR ⟨nm, ss⟩ ⟨place, xs, st, count, over⟩).2.1.texts.length = nw ∧ Ext w w' := by
  obtain ⟨r, hr⟩ : ∃ r : RunS, (⟨place, xs, st, count, over⟩ : RunS) = r := ⟨_, rfl⟩
  obtain ⟨P, hP⟩ : ∃ P : Prog, (⟨nm, ss⟩ : Prog) = P := ⟨_, rfl⟩
  rw [hr, hP]
  have hask : askedS ⟨nm, ss⟩ place xs st count over = askedR P r := by rw [← hr, ← hP]; rfl
  have E0 := Ext.al (Ext.al (Ext.al (Ext.new w (.cells #[.string nm, .slice A n c] 24)) (.cells #[.int .i64 place, .slice T k d, .string st, .int .i64 count, .int .i64 over] 27)) (.cells #[.int .i64 0, .slice none 0 0, .string ⟨#[]⟩, .int .i64 0, .int .i64 0] 27)) (.cells #[.int .i64 0, .int .i64 0, .int .i64 0, .slice none 0 0] 34)
  have kP := ((Blk.new w [.string nm, .slice A n c] 24).ext (Ext.new _ (.cells #[.int .i64 place, .slice T k d, .string st, .int .i64 count, .int .i64 over] 27))).ext (Ext.al (Ext.new _ (.cells #[.int .i64 0, .slice none 0 0, .string ⟨#[]⟩, .int .i64 0, .int .i64 0] 27)) (.cells #[.int .i64 0, .int .i64 0, .int .i64 0, .slice none 0 0] 34))
  have kB := (Blk.new (w.alloc (.cells #[.string nm, .slice A n c] 24)) [.int .i64 place, .slice T k d, .string st, .int .i64 count, .int .i64 over] 27).ext (Ext.al (Ext.new _ (.cells #[.int .i64 0, .slice none 0 0, .string ⟨#[]⟩, .int .i64 0, .int .i64 0] 27)) (.cells #[.int .i64 0, .int .i64 0, .int .i64 0, .slice none 0 0] 34))
  have kR := (Blk.new ((w.alloc (.cells #[.string nm, .slice A n c] 24)).alloc (.cells #[.int .i64 place, .slice T k d, .string st, .int .i64 count, .int .i64 over] 27)) [.int .i64 0, .slice none 0 0, .string ⟨#[]⟩, .int .i64 0, .int .i64 0] 27).ext (Ext.new _ (.cells #[.int .i64 0, .int .i64 0, .int .i64 0, .slice none 0 0] 34))
  have kW := Blk.new (((w.alloc (.cells #[.string nm, .slice A n c] 24)).alloc (.cells #[.int .i64 place, .slice T k d, .string st, .int .i64 count, .int .i64 over] 27)).alloc (.cells #[.int .i64 0, .slice none 0 0, .string ⟨#[]⟩, .int .i64 0, .int .i64 0] 27)) [.int .i64 0, .int .i64 0, .int .i64 0, .slice none 0 0] 34
  simp only [World.size_alloc] at kB kR kW
  obtain ⟨R, hR⟩ : ∃ R, w.heap.size = R := ⟨_, rfl⟩
  have HP0 := Lib.hid hp
  have HPL := Lib.hid hpl
  have HPB := Lib.hid hpb
  have HX := Lib.hid hx
  have HLX := Lib.hid hl
  have HB := Lib.hid hb
  have HG := Lib.hid hg
  have HGW := Lib.hid hgw
  have HASK := Lib.hid hask
  have HR := Lib.hid hr
  have HPP := Lib.hid hP
  clear hp hpl hpb hx hl hb hg hgw hask hr hP
  unfold runV
  go_enter Tryz.func16, Tryz.ntmps16
  go_upto_region 1 with (fail)
  rw [hR] at kP kB kR kW
  try simp only [hR]
  generalize World.alloc _ _ = W0 at E0 kP kB kR kW
  have p0 := kP.c0
  have p1 := kP.c1
  have b0 := kB.c0
  have b1 := kB.c1
  have b2 := kB.c2
  have b3 := kB.c3
  have b4 := kB.c4
  go_wp2_with fail
  refine (asked50 nm A n c ss place count over T k d xs st W0 (HP0.out.ext E0) HPL.out HPB.out hnm (HX.out.ext E0) HLX.out HB.out).mono ?_
  rintro e W1 ⟨rfl, he⟩
  rw [HASK.out]
  clear p0 p1 b0 b1 b2 b3 b4
  replace kP := kP.ext he
  replace kB := kB.ext he
  replace kR := kR.ext he
  replace kW := kW.ext he
  replace E0 := Ext.trans E0 he
  clear he
  by_cases ha : askedR P r = 0
  · obtain ⟨hv, hok⟩ := asked_ok ha
    have hrv : r.vars = xs := by rw [← HR.out]
    obtain rfl : k = 6 := by have := hok.six; rw [hrv, HLX.out] at this; exact this
    have haB : (askedR P r == 0) = true := by rw [ha]; rfl
    rw [ha]
    have b0 := kB.c0
    have b1 := kB.c1
    have b2 := kB.c2
    have b3 := kB.c3
    have b4 := kB.c4
    have HA := Lib.hid ha
    have HV := Lib.hid hv
    have HOK := Lib.hid hok
    have HRV := Lib.hid hrv
    clear ha hv hok hrv haB
    go_wp2_with fail
    refine (own51 place count over T 6 d xs st W1 (HX.out.ext E0) HLX.out (by omega) (by omega)).mono ?_
    rintro e W2 ⟨g, cg, rfl, ho, he⟩
    clear b0 b1 b2 b3 b4
    have hB1 : R + 1 + 1 + 1 < W1.heap.size := kW.lt
    replace kP := kP.ext he
    replace kB := kB.ext he
    replace kR := kR.ext he
    replace kW := kW.ext he
    replace E0 := Ext.trans E0 he
    have hBg : W1.heap.size ≤ g := (World.ownsRow.lt ho g rfl).1
    have hW12 := he.size
    clear he
    unfold runV
    go_wp2_with fail
    have eN := Ext.new W2 (.cells #[.int .i64 place, .slice (some ⟨g, 0, none⟩) 6 cg, .string st, .int .i64 count, .int .i64 over] 27)
    have kN := Blk.new W2 [.int .i64 place, .slice (some ⟨g, 0, none⟩) 6 cg, .string st, .int .i64 count, .int .i64 over] 27
    have hgN : g < W2.heap.size := (World.ownsRow.lt ho g rfl).2
    obtain ⟨NB, hNB⟩ : ∃ NB, W2.heap.size = NB := ⟨_, rfl⟩
    rw [hNB] at kN hgN
    try simp only [hNB]
    have hNR : R + 1 + 1 + 1 < NB := by omega
    have hNW : W1.heap.size ≤ NB := by omega
    have kB' : Blk (W2.alloc (.cells #[.int .i64 place, .slice (some ⟨g, 0, none⟩) 6 cg, .string st, .int .i64 count, .int .i64 over] 27)) NB 27 (runL r.place g cg r.status r.count r.over) := by rw [← HR.out]; exact kN
    have kP' := kP.ext eN
    have kR' := kR.ext eN
    have kW' := kW.ext eN
    have hO' : Own (W2.alloc (.cells #[.int .i64 place, .slice (some ⟨g, 0, none⟩) 6 cg, .string st, .int .i64 count, .int .i64 over] 27)) W1.heap.size (.slice (some ⟨g, 0, none⟩) 6 cg) r.vars := by rw [HRV.out]; exact ho.ext eN
    have E' := Ext.trans E0 eN
    generalize World.alloc _ _ = wc at kB' kP' kR' kW' hO' E'
    clear kB kP kR kW ho E0 kN eN
    have HW0 := Lib.hid (show Wn P r NB g cg W1.heap.size wc wc r from ⟨kB', hO', HOK.out, ⟨(201 - r.count).toNat, rfl, by have := HOK.out.c1; omega⟩, Keep2.refl _ _ _⟩)
    have KP := Lib.hid kP'
    have KR := Lib.hid kR'
    have KW := Lib.hid kW'
    have HE := Lib.hid E'
    clear kB' kP' kR' kW' hO' E'
    have E0sz : w.heap.size ≤ W1.heap.size := by omega
    have hnP : P.steps.length = n := by rw [← HPP.out]; exact HPL.out
    go_loopw [] (fun wr => ∃ q : RunS, Hid (Wn P r NB g cg W1.heap.size wc wr q)) (fun wr => (201 - cellCount NB wr).toNat)
    case atStart => exact ⟨r, HW0⟩
    case round =>
      clear HW0
      obtain ⟨q, hW⟩ := hrel
      have hq := hW.out.ok
      rw [hnP] at hq
      have hkp := hW.out.keep.blk KP.out (by omega) (by omega)
      have hn40 : n ≤ 40 := by rw [← hnP]; exact (validOk HV.out).len
      have kQ := hW.out.blk
      have p0 := hkp.c0
      have p1 := hkp.c1
      have nb0 := kQ.c0
      have nb1 := kQ.c1
      have nb2 := kQ.c2
      have nb3 := kQ.c3
      have nb4 := kQ.c4
      go_wp2_with fail
      refine (over52 nm A n c q.place q.count q.over (some ⟨g, 0, none⟩) 6 cg q.status wr).mono ?_
      rintro e wo ⟨rfl, heo⟩
      clear nb0 nb1 nb2 nb3 nb4
      have kO := kQ.ext heo
      have hk47 : Keep2 NB g wr wo := Keep2.of heo
      rw [overI_eq hq]
      by_cases ho : overN n q = 0
      · obtain ⟨o1, o2, o3⟩ := over0 ho hq
        rw [ho]
        have hk2 : Keep2 NB g wc wo := hW.out.keep.trans hk47
        have hkp2 := hk2.blk KP.out (by omega) (by omega)
        have p0 := hkp2.c0
        have p1 := hkp2.c1
        have b0 := kO.c0
        have hE2 : Ext w wo := hk2.out HE.out (by omega) (by omega)
        obtain ⟨pl, hpl⟩ : ∃ pl : Nat, q.place = pl := ⟨q.place.toNat, by have := hq.p0; omega⟩
        have hpn : pl < ss.length := by have := HPL.out; omega
        obtain ⟨ad, Ts, cs, hA, s0, s1, s2, s3, hcs, hsx⟩ := HP0.out pl hpn
        subst hA
        replace s0 := hE2.cell s0
        replace s1 := hE2.cell s1
        replace s2 := hE2.cell s2
        replace s3 := hE2.cell s3
        obtain ⟨s, hs⟩ : ∃ s, ss[pl] = s := ⟨_, rfl⟩
        rw [hs] at s0 s1 s2 s3 hcs hsx
        have hTw : 0 < s.texts.length → ∀ ad, Ts = some ad → ad.block < w.heap.size := by
          intro h0 ad' e
          obtain ⟨ad2, e2, h2⟩ := hsx 0 h0
          rw [e] at e2
          cases e2
          exact block_of_cell h2
        have hsP : s ∈ P.steps := by rw [← HPP.out, ← hs]; exact List.getElem_mem _
        have hat : stepAt P q.place = s := by
          unfold stepAt
          rw [hpl, ← HPP.out, Int.toNat_natCast]
          show ss.getD pl zeroStep = s
          rw [List.getD_eq_getElem?_getD, List.getElem?_eq_getElem hpn, hs]
          rfl
        have hsok := (validOk HV.out).each s hsP
        have hown : Own wo W1.heap.size (.slice (some ⟨g, 0, none⟩) 6 cg) q.vars := hW.out.own.ext heo
        obtain ⟨f0, hf1, hf2⟩ := hW.out.eq
        obtain ⟨f, rfl⟩ : ∃ f, f0 = f + 1 := ⟨f0 - 1, by omega⟩
        have hkeep := hW.out.keep
        have HOWN := Lib.hid hown
        have HSX := Lib.hid hsx
        have HTW := Lib.hid hTw
        have HAT := Lib.hid hat
        have HSOK := Lib.hid hsok
        have HK2 := Lib.hid hk2
        have HE2 := Lib.hid hE2
        have HQ := Lib.hid hW.out.ok
        have HF := Lib.hid hf1
        have HHO := Lib.hid ho
        clear hW hown hsx hTw hat hsP hsok hkeep hk47 hk2 hE2 hf1 hs ho heo
        rw [hpl] at b0
        have hpnI : (pl : Int) < (n : Int) := by have := HPL.out; omega
        have eN := Ext.new wo (.cells #[.int .i64 s.op, .int .i64 s.a, .int .i64 s.b, .slice Ts s.texts.length cs] 77)
        have kZ := Blk.new wo [.int .i64 s.op, .int .i64 s.a, .int .i64 s.b, .slice Ts s.texts.length cs] 77
        have hRo : R + 1 + 1 + 1 < wo.heap.size := by have := KW.out.lt; have := HK2.out.size; omega
        have hgo : g < wo.heap.size := (World.ownsRow.lt HOWN.out g rfl).2
        have hNo : NB < wo.heap.size := kO.lt
        cases hal : aloneS s q with
        | some q' =>
          obtain ⟨hop3, hop7⟩ := alone_some hal
          have HAL := Lib.hid hal
          have EN := Lib.hid eN
          have KZ := Lib.hid kZ
          clear hal eN kZ
          go_wp2_with fail
          refine (alone53 s P.steps.length HSOK.out (by rw [hnP]; omega) Ts s.texts.length cs NB g cg W1.heap.size q q' _ (HSX.out.ext (Ext.trans HE2.out EN.out)) rfl (fun h ad' e => by have := HTW.out h ad' e; have := E0sz; omega) (kO.ext EN.out) (HOWN.out.ext EN.out) HQ.out (by rw [hnP]; exact o2) o3 HAL.out).mono ?_
          rintro e w3 ⟨rfl, kB3, ho3, hk3⟩
          have hk4 : Keep2 NB g wc w3 := (HK2.out.ext EN.out).trans hk3
          obtain ⟨hq1, hq2, hq3⟩ := aloneS_ok HQ.out HSOK.out (by rw [hnP]; exact o2) o3 HAL.out
          have HW2 := Lib.hid (show Wn P r NB g cg W1.heap.size wc w3 q' from ⟨kB3, ho3, hq1, ⟨f, (wantF_some (by rw [hnP]; exact HHO.out) (by rw [HAT.out]; exact HAL.out)).symm.trans HF.out, by omega⟩, hk4⟩)
          have hm1 : (201 - cellCount NB w3).toNat < (201 - cellCount NB wr).toNat := by
            rw [cellCount_eq kB3, cellCount_eq kQ, hq2]
            omega
          clear hk4 hk3 hq1 hq2 hq3
          go_wp2_with fail
          go_roundw
          case rel => exact ⟨q', HW2⟩
          case measure => exact hm1
        | none =>
          have hno := alone_none hal
          go_upto_region 10 with (fail)
          have kB3 := kO.ext eN
          have ho3 := HOWN.out.ext eN
          have hk4 := HK2.out.ext eN
          have kZ3 := kZ
          have hzw : wo.heap.size < (wo.alloc (.cells #[.int .i64 s.op, .int .i64 s.a, .int .i64 s.b, .slice Ts s.texts.length cs] 77)).heap.size := kZ.lt
          generalize World.alloc _ _ = w3 at kB3 ho3 hk4 kZ3 hzw
          clear kZ eN
          have hwant : wantS P r = (q, wantOf s q) := by
            rw [← HF.out, wantF_none (by rw [hnP]; exact HHO.out) (by rw [HAT.out]; exact hal), HAT.out]
          have HWANT := Lib.hid hwant
          have z0 := kZ3.c0
          have z1 := kZ3.c1
          have z2 := kZ3.c2
          have z3 := kZ3.c3
          have HK4 := Lib.hid hk4
          have HO3 := Lib.hid ho3
          clear hk4 hal hwant ho3
          have zlt := kZ3.lt
          have hno37 : 3 ≤ s.op → ¬ s.op ≤ 7 := fun a b => hno ⟨a, b⟩
          have HNO := Lib.hid hno37
          clear hno hno37
          have zne : wo.heap.size ≠ w3.heap.size := by omega
          go_cut [45] from 23 to 98 (fun s45 wx => s45 = .bool false ∧ wx = w3)
          case first =>
            by_cases h3 : 3 ≤ s.op
            · have h7 := HNO.out h3
              go_wp2_with fail
              go_meet
              exact ⟨rfl, rfl⟩
            · go_wp2_with fail
              go_meet
              exact ⟨rfl, rfl⟩
          case rest =>
          obtain ⟨rfl, hw3⟩ := hcut
          rw [hw3]
          clear hw3
          go_wp2_with fail
          have eD := Ext.new w3 (.cells #[.int .i64 s.op, .int .i64 s.a, .int .i64 s.b, .slice none 0 0] 34)
          have kD := Blk.new w3 [.int .i64 s.op, .int .i64 s.a, .int .i64 s.b, .slice none 0 0] 34
          obtain ⟨D, hD⟩ : ∃ D, w3.heap.size = D := ⟨_, rfl⟩
          obtain ⟨Z, hZ⟩ : ∃ Z, wo.heap.size = Z := ⟨_, rfl⟩
          have kZ4 := kZ3.ext eD
          have kB4 := kB3.ext eD
          have hO4 := HO3.out.ext eD
          have hK4 := HK4.out.ext eD
          have hDW : D < (w3.alloc (.cells #[.int .i64 s.op, .int .i64 s.a, .int .i64 s.b, .slice none 0 0] 34)).heap.size := by rw [World.size_alloc]; omega
          rw [hD] at kD zlt zne
          rw [hZ] at kZ4 zlt zne
          try simp only [hD, hZ]
          generalize World.alloc _ _ = W4 at eD kD kZ4 kB4 hO4 hK4 hDW
          have hgD : g < D := by have := (World.ownsRow.lt HO3.out g rfl).2; omega
          have hRD : R + 1 + 1 + 1 < D := by omega
          have hND : NB < D := by omega
          have hEW4 := hK4.out HE.out (by omega) (by omega)
          have hkR4 := hK4.blk KR.out (by omega) (by omega)
          have hkW4 := hK4.blk KW.out (by omega) (by omega)
          have KR4 := Lib.hid hkR4
          have KW4 := Lib.hid hkW4
          clear hkR4 hkW4
          have HDW := Lib.hid hDW
          have KZ4 := Lib.hid kZ4
          have KB4 := Lib.hid kB4
          have HO4 := Lib.hid hO4
          have HK44 := Lib.hid hK4
          have HEW4 := Lib.hid hEW4
          have htl7 : (s.texts.length : Int) ≤ 1000 := by
            have h1 := HSOK.out.all
            have h2 : (verbS s.op).1.all ≤ 7 := by
              rcases verb_cases HSOK.out.verb with e | e | e | e | e | e | e | e | e | e | e | e | e <;> rw [e] <;> decide
            omega
          have HTL := Lib.hid htl7
          clear z0 z1 z2 z3 eD kZ4 kB4 hO4 hK4 hDW hEW4 hD hZ kB3 kZ3 kO kQ hkp hkp2
          go_loopw [12] (fun i wr => ∃ j wv, j ≤ s.texts.length ∧ i = .int .i64 j ∧ Hid (Blk wr D 34 [.int .i64 s.op, .int .i64 s.a, .int .i64 s.b, wv] ∧ Own wr W4.heap.size wv (wantT q.vars s.op (s.texts.take j)) ∧ Keep D W4 wr)) (fun i _ => s.texts.length - (intOf i).toNat)
          case atStart => exact ⟨0, .slice none 0 0, Nat.zero_le _, rfl, Lib.hid ⟨kD, Own.none_ _ _, Keep.refl _ _⟩⟩
          case round =>
            clear kD
            obtain ⟨j, wv, hj, rfl, hJ⟩ := hrel
            obtain ⟨kDi, hoi, hki⟩ := hJ.out
            obtain ⟨A3, c3, rfl, -⟩ := hoi.open_
            have kZi := hki.blk KZ4.out (by omega)
            have kBi := hki.blk KB4.out (by omega)
            have hoq : Own wr W1.heap.size (.slice (some ⟨g, 0, none⟩) 6 cg) q.vars := HO4.out.kept2 hki.grown (by simp [Value.ownBlock]; omega)
            have E4 : Ext w wr := hki.below HEW4.out (by omega)
            have z0 := kZi.c0
            have z3i := kZi.c3
            have d3 := kDi.c3
            have dz3 := kDi.fz 3
            have b1 := kBi.c1
            have KDI := Lib.hid kDi
            have HOI := Lib.hid hoi
            have HKI := Lib.hid hki
            have KBI := Lib.hid kBi
            have HOQ := Lib.hid hoq
            have HE4 := Lib.hid E4
            clear hJ kDi hoi hki kZi kBi hoq E4
            by_cases hlt : j < s.texts.length
            · obtain ⟨adx, hAx, hcx⟩ := (HSX.out.ext HE4.out) j hlt
              subst hAx
              have hjI : (j : Int) < (s.texts.length : Int) := by omega
              have HFILL : Hid (∀ W', Ext wr W' → Calls Tryz.prog 54 #[.slice (some ⟨g, 0, none⟩) 6 cg, .string s.texts[j]] W' fun e w' => e = .returned (.string (fillS q.vars s.texts[j])) ∧ w' = W') := Lib.hid (fun W' h => expanded54q _ cg q.vars s.texts[j] W' (HOQ.out.ext h).strs.1 HQ.out.six (fun x hx => by have := HQ.out.each x hx; omega) (by have := HSOK.out.size _ (List.getElem_mem hlt); omega))
              by_cases hj0 : j = 0
              · subst hj0
                replace d3 : wr.cell? ⟨D, 3, none⟩ = some (.slice A3 0 c3) := d3
                have hcx0 : wr.cell? adx = some (.string s.texts[0]) := hcx
                have HOI0 : Hid (Own wr W4.heap.size (.slice A3 0 c3) []) := HOI
                clear HOI hcx
                have HOI := HOI0
                clear HOI0
                have d3Y := fun o => (Ext.new wr o).cell d3
                have z3Y := fun o => (Ext.new wr o).cell z3i
                have hcxY := fun o => (Ext.new wr o).cell hcx0
                by_cases h2 : s.op = 2
                · rw [h2] at z0
                  have H2 := Lib.hid h2
                  clear h2
                  have hwx : wantX q.vars s.op 0 s.texts[0] = s.texts[0] := by
                    unfold wantX
                    rw [if_pos ⟨rfl, .inl H2.out⟩]
                  have HWX := Lib.hid hwx
                  clear hwx
                  go_upto_region 17 with (fail)
                  go_region_law (first | (go_loud (refine step_app_strs W4.heap.size rfl (.tmp 75) (.tmp 81) rfl rfl (.slice A3 0 c3) (([] : List ByteArray)) [s.texts[0]] (some ⟨wr.heap.size, 0, none⟩) 1 1 rfl rfl (HOI.out.ext (by first | exact Ext.new _ _ | exact Below.drew (Ext.new _ _))) (by first | exact Strs.box _ [_] | exact Strs.ext (Strs.box _ [_]) (Below.drew (Ext.refl _))) rfl (Nat.le_trans HKI.out.size (Below.size (by first | exact Ext.new _ _ | exact Below.drew (Ext.new _ _)))) (by simp) ?_; intro v1 w5 hown hbl hsz5; have kD5 : Blk w5 D 34 _ := (hbl.block D HDW.out).trans (KDI.out.ext (by first | exact Ext.new _ _ | exact Below.drew (Ext.new _ _))); have hK5 := (HKI.out.ext (by first | exact Ext.new _ _ | exact Below.drew (Ext.new _ _))).bel hbl (Nat.le_refl _); obtain ⟨A5, c5, rfl, -⟩ := hown.open_; have d3 := kD5.c3; have dz3 := kD5.fz 3; have KD5 := Lib.hid kD5; have HOW := Lib.hid hown; have HK5 := Lib.hid hK5; clear hown hbl kD5 hK5)))
                  all_goals
                    go_wp2
                    go_roundw
                    case rel =>
                      have hown2 : Own w5 W4.heap.size (.slice A5 (1) c5) (wantT q.vars s.op (s.texts.take 1)) := by
                        rw [wantT_take _ _ _ 0 hlt, HWX.out]
                        exact HOW.out
                      refine ⟨1, _, by omega, by go_num, Lib.hid ⟨KD5.out.set 3 _, hown2.set (b := D) (fun e => ?_) 3 _, HK5.out.set (.inr rfl) 3 _⟩⟩
                      have h1 := (World.ownsRow.lt hown2 D e.symm).1
                      have := HDW.out
                      omega
                    case measure => simp [intOf]; omega
                · by_cases h9 : s.op = 9
                  · rw [h9] at z0
                    have H9 := Lib.hid h9
                    clear h2 h9
                    have hwx : wantX q.vars s.op 0 s.texts[0] = s.texts[0] := by
                      unfold wantX
                      rw [if_pos ⟨rfl, .inr H9.out⟩]
                    have HWX := Lib.hid hwx
                    clear hwx
                    go_upto_region 17 with (fail)
                    go_region_law (first | (go_loud (refine step_app_strs W4.heap.size rfl (.tmp 75) (.tmp 81) rfl rfl (.slice A3 0 c3) (([] : List ByteArray)) [s.texts[0]] (some ⟨wr.heap.size, 0, none⟩) 1 1 rfl rfl (HOI.out.ext (by first | exact Ext.new _ _ | exact Below.drew (Ext.new _ _))) (by first | exact Strs.box _ [_] | exact Strs.ext (Strs.box _ [_]) (Below.drew (Ext.refl _))) rfl (Nat.le_trans HKI.out.size (Below.size (by first | exact Ext.new _ _ | exact Below.drew (Ext.new _ _)))) (by simp) ?_; intro v1 w5 hown hbl hsz5; have kD5 : Blk w5 D 34 _ := (hbl.block D HDW.out).trans (KDI.out.ext (by first | exact Ext.new _ _ | exact Below.drew (Ext.new _ _))); have hK5 := (HKI.out.ext (by first | exact Ext.new _ _ | exact Below.drew (Ext.new _ _))).bel hbl (Nat.le_refl _); obtain ⟨A5, c5, rfl, -⟩ := hown.open_; have d3 := kD5.c3; have dz3 := kD5.fz 3; have KD5 := Lib.hid kD5; have HOW := Lib.hid hown; have HK5 := Lib.hid hK5; clear hown hbl kD5 hK5)))
                    all_goals
                      go_wp2
                      go_roundw
                      case rel =>
                        have hown2 : Own w5 W4.heap.size (.slice A5 (1) c5) (wantT q.vars s.op (s.texts.take 1)) := by
                          rw [wantT_take _ _ _ 0 hlt, HWX.out]
                          exact HOW.out
                        refine ⟨1, _, by omega, by go_num, Lib.hid ⟨KD5.out.set 3 _, hown2.set (b := D) (fun e => ?_) 3 _, HK5.out.set (.inr rfl) 3 _⟩⟩
                        have h1 := (World.ownsRow.lt hown2 D e.symm).1
                        have := HDW.out
                        omega
                      case measure => simp [intOf]; omega
                  · have h2B := bq_no h2
                    have h9B := bq_no h9
                    have hwx : wantX q.vars s.op 0 s.texts[0] = fillS q.vars s.texts[0] := by
                      unfold wantX
                      rw [if_neg (fun h => h.2.elim h2 h9)]
                    have HWX := Lib.hid hwx
                    clear hwx
                    clear h2 h9
                    clear d3Y z3Y hcxY
                    go_upto_region 18 with (fail)
                    go_region_law (first | (go_simp; go_at_call 54; refine (HFILL.out _ (by first | exact Ext.refl _ | exact Below.drew (Ext.refl _))).mono ?_; rintro e Y ⟨rfl, he⟩; have hw : Ext wr Y := (by rw [he]; first | exact Ext.refl _ | exact Below.drew (Ext.refl _)); have m3 := (KDI.out.ext hw).c3; have mY := fun o => ((KDI.out.ext hw).ext (Ext.new Y o)).c3; have mz := (KDI.out.ext hw).fz 3; have HW := Lib.hid hw; clear hw he) | (go_loud (refine step_app_strs W4.heap.size rfl (.tmp 85) (.tmp 94) rfl rfl (.slice A3 0 c3) (([] : List ByteArray)) [fillS q.vars s.texts[0]] (some ⟨Y.heap.size, 0, none⟩) 1 1 rfl rfl (HOI.out.ext (Ext.trans HW.out (by first | exact Ext.new _ _ | exact Below.drew (Ext.new _ _)))) (by first | exact Strs.box _ [_] | exact Strs.ext (Strs.box _ [_]) (Below.drew (Ext.refl _))) rfl (Nat.le_trans HKI.out.size (Below.size (Ext.trans HW.out (by first | exact Ext.new _ _ | exact Below.drew (Ext.new _ _))))) (by simp) ?_; intro v1 w5 hown hbl hsz5; have kD5 : Blk w5 D 34 _ := (hbl.block D HDW.out).trans (KDI.out.ext (Ext.trans HW.out (by first | exact Ext.new _ _ | exact Below.drew (Ext.new _ _)))); have hK5 := (HKI.out.ext (Ext.trans HW.out (by first | exact Ext.new _ _ | exact Below.drew (Ext.new _ _)))).bel hbl (Nat.le_refl _); obtain ⟨A5, c5, rfl, -⟩ := hown.open_; have d3 := kD5.c3; have dz3 := kD5.fz 3; have KD5 := Lib.hid kD5; have HOW := Lib.hid hown; have HK5 := Lib.hid hK5; clear hown hbl kD5 hK5)))
                    all_goals
                      go_wp2
                      go_roundw
                      case rel =>
                        have hown2 : Own w5 W4.heap.size (.slice A5 (1) c5) (wantT q.vars s.op (s.texts.take 1)) := by
                          rw [wantT_take _ _ _ 0 hlt, HWX.out]
                          exact HOW.out
                        refine ⟨1, _, by omega, by go_num, Lib.hid ⟨KD5.out.set 3 _, hown2.set (b := D) (fun e => ?_) 3 _, HK5.out.set (.inr rfl) 3 _⟩⟩
                        have h1 := (World.ownsRow.lt hown2 D e.symm).1
                        have := HDW.out
                        omega
                      case measure => simp [intOf]; omega
              · have hjZ : ((j : Int) == 0) = false := bq_no (by omega)
                have hjP : ¬ (j : Int) = 0 := by omega
                have d3Y := fun o => (Ext.new wr o).cell d3
                have hwx : wantX q.vars s.op j s.texts[j] = fillS q.vars s.texts[j] := by
                  unfold wantX
                  rw [if_neg (fun h => hj0 h.1)]
                have HWX := Lib.hid hwx
                clear hwx
                clear hj0
                clear d3Y
                go_upto_region 18 with (fail)
                go_region_law (first | (go_simp; go_at_call 54; refine (HFILL.out _ (by first | exact Ext.refl _ | exact Below.drew (Ext.refl _))).mono ?_; rintro e Y ⟨rfl, he⟩; have hw : Ext wr Y := (by rw [he]; first | exact Ext.refl _ | exact Below.drew (Ext.refl _)); have m3 := (KDI.out.ext hw).c3; have mY := fun o => ((KDI.out.ext hw).ext (Ext.new Y o)).c3; have mz := (KDI.out.ext hw).fz 3; have HW := Lib.hid hw; clear hw he) | (go_loud (refine step_app_strs W4.heap.size rfl (.tmp 85) (.tmp 94) rfl rfl (.slice A3 (wantT q.vars s.op (s.texts.take j)).length c3) (wantT q.vars s.op (s.texts.take j)) [fillS q.vars s.texts[j]] (some ⟨Y.heap.size, 0, none⟩) 1 1 rfl rfl (HOI.out.ext (Ext.trans HW.out (by first | exact Ext.new _ _ | exact Below.drew (Ext.new _ _)))) (by first | exact Strs.box _ [_] | exact Strs.ext (Strs.box _ [_]) (Below.drew (Ext.refl _))) rfl (Nat.le_trans HKI.out.size (Below.size (Ext.trans HW.out (by first | exact Ext.new _ _ | exact Below.drew (Ext.new _ _))))) (by rw [wantT_len, List.length_take]; have := HTL.out; omega) ?_; intro v1 w5 hown hbl hsz5; have kD5 : Blk w5 D 34 _ := (hbl.block D HDW.out).trans (KDI.out.ext (Ext.trans HW.out (by first | exact Ext.new _ _ | exact Below.drew (Ext.new _ _)))); have hK5 := (HKI.out.ext (Ext.trans HW.out (by first | exact Ext.new _ _ | exact Below.drew (Ext.new _ _)))).bel hbl (Nat.le_refl _); obtain ⟨A5, c5, rfl, -⟩ := hown.open_; have d3 := kD5.c3; have dz3 := kD5.fz 3; have KD5 := Lib.hid kD5; have HOW := Lib.hid hown; have HK5 := Lib.hid hK5; clear hown hbl kD5 hK5)))
                all_goals
                  go_wp2
                  go_roundw
                  case rel =>
                    have hown2 : Own w5 W4.heap.size (.slice A5 ((wantT q.vars s.op (s.texts.take j)).length + 1) c5) (wantT q.vars s.op (s.texts.take (j + 1))) := by
                      rw [wantT_take _ _ _ _ hlt, HWX.out]
                      simpa using HOW.out
                    refine ⟨j + 1, _, by omega, by go_num, Lib.hid ⟨KD5.out.set 3 _, hown2.set (b := D) (fun e => ?_) 3 _, HK5.out.set (.inr rfl) 3 _⟩⟩
                    have h1 := (World.ownsRow.lt hown2 D e.symm).1
                    have := HDW.out
                    omega
                  case measure => simp [intOf]; omega
            · have hjn : j = s.texts.length := by omega
              have htk : s.texts.take j = s.texts := List.take_of_length_le (by omega)
              have HJN := Lib.hid hjn
              have HTK := Lib.hid htk
              clear hjn htk
              have kRi := HKI.out.blk KR4.out (by omega)
              have kWi := HKI.out.blk KW4.out (by omega)
              have kDi := KDI.out
              have kBi := KBI.out
              have b0 := kBi.c0
              have b2 := kBi.c2
              have b3 := kBi.c3
              have b4 := kBi.c4
              have d0 := kDi.c0
              have d1 := kDi.c1
              have d2 := kDi.c2
              have r0 := kRi.c0
              have r1 := kRi.c1
              have r2 := kRi.c2
              have r3 := kRi.c3
              have r4 := kRi.c4
              have w0 := kWi.c0
              have w1 := kWi.c1
              have w2 := kWi.c2
              have w3 := kWi.c3
              have rz0 := kRi.fz 0
              have rz1 := kRi.fz 1
              have rz2 := kRi.fz 2
              have rz3 := kRi.fz 3
              have rz4 := kRi.fz 4
              have wz0 := kWi.fz 0
              have wz1 := kWi.fz 1
              have wz2 := kWi.fz 2
              have wz3 := kWi.fz 3
              have nRD : R + 1 + 1 ≠ D := by omega
              have nWD : R + 1 + 1 + 1 ≠ D := by omega
              go_upto_region 19 with (fail)
              go_region
              have hoq9 := HOQ.out
              have hend := want_end (w0 := w) kRi kWi (by omega) hoq9 (by omega) (by omega) HE4.out (by omega) (by omega) (.int .i64 (pl : Int)) (.slice (some ⟨g, 0, none⟩) 6 cg) (.string q.status) (.int .i64 q.count) (.int .i64 0) (.int .i64 s.op) (.int .i64 s.a) (.int .i64 s.b) (.slice A3 (wantT q.vars s.op (List.take j s.texts)).length c3)
              have hend2 := own_end2 (R2 := R + 1 + 1) (R3 := R + 1 + 1 + 1) HOI.out (by have := HDW.out; omega) (by have := HDW.out; omega) (.int .i64 (pl : Int)) (.slice (some ⟨g, 0, none⟩) 6 cg) (.string q.status) (.int .i64 q.count) (.int .i64 0) (.int .i64 s.op) (.int .i64 s.a) (.int .i64 s.b) (.slice A3 (wantT q.vars s.op (List.take j s.texts)).length c3)
              obtain ⟨e1, e2, e3, e4⟩ := hend
              have f1 := e1.ext (Below.drew (Ext.refl _))
              have f2 := e2.ext (Below.drew (Ext.refl _))
              have f3 := e3.ext (Below.drew (Ext.refl _))
              have f4 := Ext.trans e4 (Below.drew (Ext.refl _))
              have f5 := hend2.ext (Below.drew (Ext.refl _))
              simp only [put4, put5] at f1 f2 f3 f4 f5
              clear e1 e2 e3 e4 hend2 hoq9
              generalize World.drew _ = W9 at f1 f2 f3 f4 f5
              clear b0 b2 b3 b4 z3i d0 d1 d2 r0 r1 r2 r3 r4 w0 w1 w2 w3 rz0 rz1 rz2 rz3 rz4 wz0 wz1 wz2 wz3 z0 d3 dz3 b1 kRi kWi kDi kBi
              have x0 := f1.c0
              have x1 := f1.c1
              have x2 := f1.c2
              have x3 := f1.c3
              have x4 := f1.c4
              have t0 := f2.c0
              have t1 := f2.c1
              have t2 := f2.c2
              have t3 := f2.c3
              have HF3 := Lib.hid f3
              have HF4 := Lib.hid f4
              have HF5 := Lib.hid f5
              clear f3 f4 f5
              iterate 40 (try go_step)
              refine bodyPost_ret (v := .tuple #[.agg #[.int .i64 (pl : Int), .slice (some ⟨g, 0, none⟩) 6 cg, .string q.status, .int .i64 q.count, .int .i64 0], .agg #[.int .i64 s.op, .int .i64 s.a, .int .i64 s.b, .slice A3 (wantT q.vars s.op (List.take j s.texts)).length c3], .int .i64 0]) (by simp [results, Tryz.results16, go_sem, x0, x1, x2, x3, x4, t0, t1, t2, t3]) rfl ?_
              have hR9 : wantR P r = (q, wantOf s q, 0) := by unfold wantR; rw [if_pos HA.out, HWANT.out]
              rw [hR9]
              have ho5 := HF5.out
              rw [HTK.out] at ho5 ⊢
              refine ⟨some ⟨g, 0, none⟩, 6, cg, A3, _, c3, ?_, HF3.out.strs.1, HQ.out.six, ho5.strs.1, rfl, HF4.out⟩
              rw [← hpl, ← o1]
              rfl
      · obtain ⟨f0, hf1, hf2⟩ := hW.out.eq
        obtain ⟨f, rfl⟩ : ∃ f, f0 = f + 1 := ⟨f0 - 1, by have := hq.c1; omega⟩
        have hwant : wantS P r = (q.ends (overN n q), zeroWant) := by rw [← hf1, wantF_over (by rw [hnP]; exact ho), hnP]
        have hk2 : Keep2 NB g wc wo := hW.out.keep.trans hk47
        have kRi := hk2.blk KR.out (by omega) (by omega)
        have kWi := hk2.blk KW.out (by omega) (by omega)
        have hown : Own wo W1.heap.size (.slice (some ⟨g, 0, none⟩) 6 cg) q.vars := hW.out.own.ext heo
        have hE2 : Ext w wo := hk2.out HE.out (by omega) (by omega)
        obtain ⟨ov, hov⟩ : ∃ ov, overN n q = ov := ⟨_, rfl⟩
        rw [hov] at ho hwant ⊢
        have hovB := bq_no ho
        have HWANT := Lib.hid hwant
        have HQ := Lib.hid hq
        have HOWN := Lib.hid hown
        have HE2 := Lib.hid hE2
        clear hwant hq hown hE2 hk2 hk47 hf1 hf2 hW ho hov kQ hkp p0 p1 heo
        have b4 := kO.c4
        have bz4 := kO.fz 4
        have hNo : NB < wo.heap.size := kO.lt
        go_upto_region 8 with (fail)
        have kO9 : Blk _ NB 27 (runL q.place g cg q.status q.count ov) := kO.set 4 (.int .i64 ov)
        have kR9 := kRi.other (show R + 1 + 1 ≠ NB by omega) 4 (.int .i64 ov)
        have kW9 := kWi.other (show R + 1 + 1 + 1 ≠ NB by omega) 4 (.int .i64 ov)
        have hO9 := HOWN.out.set (b := NB) (by simp only [Value.ownBlock]; intro e; have e2 : NB = g := Option.some.inj e; omega) 4 (.int .i64 ov)
        have hE9 := Ext.set HE2.out (show w.heap.size ≤ NB by omega) 4 (.int .i64 ov)
        generalize World.setCell _ _ _ = wv at kO9 kR9 kW9 hO9 hE9
        clear b4 bz4 kO kRi kWi HOWN HE2
        have kO := kO9
        have kRi := kR9
        have kWi := kW9
        have HOWN := Lib.hid hO9
        have HE2 := Lib.hid hE9
        clear kO9 kR9 kW9 hO9 hE9
        have b0 := kO.c0
        have b1 := kO.c1
        have b2 := kO.c2
        have b3 := kO.c3
        have b4 := kO.c4
        have r0 := kRi.c0
        have r1 := kRi.c1
        have r2 := kRi.c2
        have r3 := kRi.c3
        have r4 := kRi.c4
        have w0 := kWi.c0
        have w1 := kWi.c1
        have w2 := kWi.c2
        have w3 := kWi.c3
        have rz0 := kRi.fz 0
        have rz1 := kRi.fz 1
        have rz2 := kRi.fz 2
        have rz3 := kRi.fz 3
        have rz4 := kRi.fz 4
        have wz0 := kWi.fz 0
        have wz1 := kWi.fz 1
        have wz2 := kWi.fz 2
        have wz3 := kWi.fz 3
        iterate 40 (try go_step)
        have hend := want_end (w0 := w) kRi kWi (by omega) HOWN.out (by omega) (by omega) HE2.out (by omega) (by omega) (.int .i64 q.place) (.slice (some ⟨g, 0, none⟩) 6 cg) (.string q.status) (.int .i64 q.count) (.int .i64 ov) (.int .i64 0) (.int .i64 0) (.int .i64 0) (.slice none 0 0)
        obtain ⟨f1, f2, f3, f4⟩ := hend
        clear b0 b1 b2 b3 b4 r0 r1 r2 r3 r4 w0 w1 w2 w3 rz0 rz1 rz2 rz3 rz4 wz0 wz1 wz2 wz3 kRi kWi kO
        have x0 := f1.c0
        have x1 := f1.c1
        have x2 := f1.c2
        have x3 := f1.c3
        have x4 := f1.c4
        have t0 := f2.c0
        have t1 := f2.c1
        have t2 := f2.c2
        have t3 := f2.c3
        refine bodyPost_ret (v := .tuple #[.agg #[.int .i64 q.place, .slice (some ⟨g, 0, none⟩) 6 cg, .string q.status, .int .i64 q.count, .int .i64 ov], .agg #[.int .i64 0, .int .i64 0, .int .i64 0, .slice none 0 0], .int .i64 0]) (by simp [results, Tryz.results16, go_sem, x0, x1, x2, x3, x4, t0, t1, t2, t3]) rfl ?_
        have hR9 : wantR P r = (q.ends ov, zeroWant, 0) := by unfold wantR; rw [if_pos HA.out, HWANT.out]
        rw [hR9]
        exact ⟨some ⟨g, 0, none⟩, 6, cg, none, 0, 0, rfl, f3.strs.1, HQ.out.six, Strs.nil _ _, rfl, f4⟩
  · have haB := bq_no ha
    have r0 := kR.c0
    have r1 := kR.c1
    have r2 := kR.c2
    have r3 := kR.c3
    have r4 := kR.c4
    have w0 := kW.c0
    have w1 := kW.c1
    have w2 := kW.c2
    have w3 := kW.c3
    have rz0 := kR.fz 0
    have rz1 := kR.fz 1
    have rz2 := kR.fz 2
    have rz3 := kR.fz 3
    have rz4 := kR.fz 4
    have wz0 := kW.fz 0
    have wz1 := kW.fz 1
    have wz2 := kW.fz 2
    have wz3 := kW.fz 3
    have HA := Lib.hid ha
    go_upto_region 3 with (fail)
    iterate 40 (try go_step)
    have hg5 := grown_put5 W1 (R + 1 + 1) (.int .i64 0) (.slice none 0 0) (.string ⟨#[]⟩) (.int .i64 0) (.int .i64 0)
    have hg4 := grown_put4 (put5 W1 (R + 1 + 1) (.int .i64 0) (.slice none 0 0) (.string ⟨#[]⟩) (.int .i64 0) (.int .i64 0)) (R + 1 + 1 + 1) (.int .i64 0) (.int .i64 0) (.int .i64 0) (.slice none 0 0)
    have kR9 := (kR.put5 (.int .i64 0) (.slice none 0 0) (.string ⟨#[]⟩) (.int .i64 0) (.int .i64 0)).kept hg4 (by omega)
    have kW9 := (kW.kept hg5 (by omega)).put4 (.int .i64 0) (.int .i64 0) (.int .i64 0) (.slice none 0 0)
    have E9 := (E0.grown hg5 (by omega)).grown hg4 (by omega)
    have q0 := kR9.c0
    have q1 := kR9.c1
    have q2 := kR9.c2
    have q3 := kR9.c3
    have q4 := kR9.c4
    have t0 := kW9.c0
    have t1 := kW9.c1
    have t2 := kW9.c2
    have t3 := kW9.c3
    refine bodyPost_ret (v := .tuple #[.agg #[.int .i64 0, .slice none 0 0, .string ⟨#[]⟩, .int .i64 0, .int .i64 0], .agg #[.int .i64 0, .int .i64 0, .int .i64 0, .slice none 0 0], .int .i64 (askedR P r)]) (by simp [results, Tryz.results16, go_sem, q0, q1, q2, q3, q4, t0, t1, t2, t3]) rfl ?_
    have hw : wantR P r = (zeroRun, zeroWant, askedR P r) := by unfold wantR; rw [if_neg HA.out]
    rw [hw]
    exact ⟨none, 0, 0, none, 0, 0, rfl, Strs.nil _ _, rfl, Strs.nil _ _, rfl, E9⟩
end Go.Proofs.YtkdbajpdcadliaaGreatDoor.Pg
