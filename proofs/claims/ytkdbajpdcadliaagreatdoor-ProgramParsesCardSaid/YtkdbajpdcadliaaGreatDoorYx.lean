/- Walks: Parse of the reference. -/
import Derived.Test.YtkdbajpdcadliaaGreatDoorPt
import Derived.Test.YtkdbajpdcadliaaGreatDoorYv
import Derived.Test.YtkdbajpdcadliaaGreatDoorYd
set_option linter.unusedVariables false
namespace Go.Proofs.YtkdbajpdcadliaaGreatDoor.Pg
open Go.RowKit

structure In4 (w wr : World) (bp : Nat) (nm : ByteArray) (ss : List Step) (M k : Nat) : Prop where
  mem : ∃ sv l, Blk wr bp 24 [.string nm, sv] ∧ Mem wr w.heap.size sv l ∧ l.map (·.1) = ss
  keep : Keep bp w wr
  bd : BR ss M k
theorem box_str (W : World) (y : ByteArray) : (W.alloc (.cells #[.string y] 9)).cell? ⟨W.heap.size, 0, none⟩ = some (.string y) := by
  rw [cell_of_row _ _ _ _ _ _ (heap_alloc_new W _)]
  rfl
theorem grown_of {w W w1 : World} {row : Option Nat} (hgr : W.grownBy w1 row) (h : Ext w W) : w.grownBy w1 row :=
  ⟨hgr.os.trans h.os, hgr.tape.trans h.tape, hgr.output.trans h.output, Nat.le_trans h.size hgr.size, fun k hk hne => (hgr.block k (Nat.lt_of_lt_of_le hk h.size) hne).trans (h.block k hk)⟩
/-- append(texts, y), and what it leaves. -/
theorem step_app_sG {ops : Array Oper} {o : Oper} {a : Act} {K : Act → World → Prop} {Q : Exit → Act → World → Prop} {E : Prop} {W : World} (base : Nat) (hgd : o.guard = none) (s x : Operand)
    (ho : o.op = .call { callee := .builtin .append, args := #[s, x], argTypes := #[25, 25] }) (hty : o.type = 25) (v : Value) (ys : List ByteArray) (y : ByteArray) (ad : Addr) (c : Nat) (hs : a.eval s = v)
    (hx : a.eval x = .slice (some ad) 1 c) (hn : W.cell? ad = some (.string y)) (HO : Own W base v ys) (hbase : base ≤ W.heap.size) (hl : (ys.length : Int) ≤ 1000000000)
    (h : ∀ v1 w1, Own w1 base v1 (ys ++ [y]) → W.grownBy w1 v.ownBlock → (v1.ownBlock = v.ownBlock ∨ ∀ b, v1.ownBlock = some b → W.heap.size ≤ b) → K (a.put o.dst v1) w1) :
    if Region.wanted o (yielded ops a.tmps) = true then Oper.wp Tryz.prog o a W K Q else E := by
  have hw : Region.wanted o (yielded ops a.tmps) = true := by simp [Region.wanted, hgd]
  rw [if_pos hw]
  obtain ⟨i0, hi, hzz⟩ := Option.map_eq_some_iff.1 infoStr
  simp only [Prod.mk.injEq] at hzz
  obtain ⟨hz0, hz1, hz2⟩ := hzz
  obtain ⟨v1, w1, hr1, hown, hg, _, hat⟩ := run_append_own_at (P := Tryz.prog) W base 25 o.type 9 i0 _ 1 16 Tryz.underlying25 hi hz0 hz1 hz2 rfl (by omega) v ys.length (ys.map Value.string) HO ad 1 c [.string y] rfl
    (by
      intro j u hj
      match j with
      | 0 =>
        obtain rfl : Value.string y = u := by simpa using hj
        have e : ad.add 0 = ad := rfl
        rw [e]; exact hn
      | j + 1 => simp at hj)
    (by
      intro u hu
      obtain rfl : u = _ := by simpa using hu
      rfl) (by simp only [maxLen]; omega) (by omega) hbase
  unfold Oper.wp execOp
  simp only [ho, resolve, invoke, builtin, Sem.run_bind, Sem.run_pure, Result.andThen_ok, List.map_toArray, List.map_cons, List.map_nil, hs, hx, hr1]
  refine h v1 w1 (by unfold Own; simpa using hown) hg ?_
  rcases hat with k | k
  · exact .inl k
  · exact .inr fun b hb => by rw [k] at hb; simp only [Option.some.injEq] at hb; omega
theorem pre_yes {l q : List UInt8} (h : q.length ≤ l.length) : (((mkB l).extract 0 q.length).toList == q) = Lib.hasPrefix l q := by
  have := Lib.hasPrefix_raw (mkB l) (mkB q)
  have e : (mkB q).toList = q := by rw [ByteArray.toList_eq, mkB_toList]
  rw [e, mkB_toList, mkB_toList, mkB_size, mkB_size, decide_eq_true h, Bool.true_and] at this
  exact this
theorem pre_short {l : List UInt8} {q : List UInt8} (h : l.length < q.length) : Lib.hasPrefix l q = false := by
  cases e : Lib.hasPrefix l q
  · rfl
  · have := (List.isPrefixOf_iff_prefix.1 e).length_le; omega
theorem drop_mk (l : List UInt8) (k : Nat) : (mkB l).extract k (mkB l).size = mkB (l.drop k) := ext_list (by rw [extract_from, mkB_toList, mkB_toList])

set_option maxRecDepth 100000 in
set_option maxHeartbeats 8000000 in
theorem parse24 (s : ByteArray) (w : World) (hs : (s.size : Int) ≤ 100000) :
    Calls Tryz.prog 24 #[.string s] w fun e w' => ∃ A c, e = .returned (.tuple #[.agg #[.string (parseR s).1.name, .slice A (parseR s).1.steps.length c], .int .i64 (parseR s).2]) ∧ StepsAt w' A (parseR s).1.steps ∧ Ext w w' := by
  obtain ⟨R, hR⟩ : ∃ R, w.heap.size = R := ⟨_, rfl⟩
  have E0 := Ext.new w (.cells #[.string ⟨#[]⟩, .slice none 0 0] 24)
  have kR := Blk.new w [.string ⟨#[]⟩, .slice none 0 0] 24
  go_enter Tryz.func24, Tryz.ntmps24
  go_upto_region 1 with (fail)
  rw [hR] at kR
  try simp only [hR]
  generalize World.alloc _ _ = Wa at E0 kR
  go_wp2_with fail
  refine (cut64 s 10 _ (by omega)).mono ?_
  rintro e Wb ⟨v, rfl, ho, he⟩
  replace kR := kR.ext he
  replace E0 := Ext.trans E0 he
  obtain ⟨A, cA, rfl, hcA, hstr, hbase⟩ := ho.open_
  clear ho he hbase
  obtain ⟨LL, hLL⟩ : ∃ LL, splitL 10 s.data.toList = LL := ⟨_, rfl⟩
  have hsz0 : s.data.toList.length = s.size := Array.length_toList
  have hlens := splitL_len 10 s.data.toList
  rw [hLL] at hlens
  have hspl : splitS 10 s = LL.map mkB := by unfold splitS; rw [hLL]
  rw [hspl] at hstr hcA
  try simp only [hspl]
  rw [List.length_map] at hcA
  try simp only [List.length_map]
  obtain ⟨m, hm⟩ : ∃ m, LL.length = m := ⟨_, rfl⟩
  rw [hm] at hcA hlens
  try simp only [hm]
  have hmI : (m : Int) ≤ 100001 := by omega
  have hlin : ∀ x ∈ LL, x.length ≤ s.size := fun x hx => by have := hlens.2 x hx; omega
  have HLIN := Lib.hid hlin
  have HLL := Lib.hid hLL
  have HM := Lib.hid hm
  have HS := Lib.hid hstr
  clear hlens hspl hstr hlin hLL hsz0
  go_upto_region 3 with (fail)
  have eN := Ext.new Wb (.cells #[.string ⟨#[]⟩, .slice none 0 0] 24)
  have kB := Blk.new Wb [.string ⟨#[]⟩, .slice none 0 0] 24
  obtain ⟨B, hB⟩ : ∃ B, Wb.heap.size = B := ⟨_, rfl⟩
  rw [hB] at kB
  try simp only [hB]
  have hRB : R < B := by rw [← hB]; exact kR.lt
  replace kR := kR.ext eN
  replace E0 := Ext.trans E0 eN
  generalize World.alloc _ _ = W at E0 kR kB eN
  have HEB := Lib.hid eN
  have HE0 := Lib.hid E0
  have HKR := Lib.hid kR
  clear eN E0 kR
  by_cases h1 : 1 < m
  · obtain ⟨l0, hl0⟩ : ∃ l0, LL[0]'(by omega) = l0 := ⟨_, rfl⟩
    obtain ⟨a0, hA0, hc0⟩ := (HS.out.ext HEB.out) 0 (by rw [List.length_map]; omega)
    subst hA0
    rw [List.getElem_map, hl0] at hc0
    replace hc0 : W.cell? a0 = some (.string (mkB l0)) := hc0
    have h1I : (1 : Int) < (m : Int) := by omega
    have hl0s : l0.length ≤ s.size := HLIN.out l0 (by rw [← hl0]; exact List.getElem_mem _)
    have hz0 : ((mkB l0).size : Int) = l0.length := by rw [mkB_size]
    by_cases h2 : 8 < l0.length
    · have h2I : (8 : Int) < ((mkB l0).size : Int) := by omega
      have h2J : (8 : Int) ≤ ((mkB l0).size : Int) := by omega
      have h2K : 8 ≤ (mkB l0).size := by rw [mkB_size]; omega
      have hpe := pre_yes (l := l0) (q := [80, 82, 79, 71, 82, 65, 77, 32]) (by show 8 ≤ l0.length; omega)
      replace hpe : (((mkB l0).extract 0 8).toList == ([80, 82, 79, 71, 82, 65, 77, 32] : List UInt8)) = Lib.hasPrefix l0 pgmL := hpe
      cases hpre : Lib.hasPrefix l0 pgmL with
      | true =>
        rw [hpre] at hpe
        have hten := tentR_yes HLL.out (by rw [HM.out]; exact h1) (by rw [hl0]; exact h2) (by rw [hl0]; exact hpre)
        rw [hl0] at hten
        obtain ⟨nm, hnm⟩ : ∃ nm, (mkB l0).extract 8 (mkB l0).size = nm := ⟨_, rfl⟩
        rw [← drop_mk, hnm, HM.out] at hten
        have hnms : (nm.size : Int) ≤ 100000 := by rw [← hnm, drop_mk, mkB_size, List.length_drop]; omega
        obtain ⟨L1, hL1⟩ : ∃ L1, LL.drop 1 = L1 := ⟨_, rfl⟩
        rw [hL1] at hten
        have hL1l : L1.length = m - 1 := by rw [← hL1, List.length_drop, HM.out]
        have hL1g : ∀ k (h : k < L1.length), ∃ h2 : k + 1 < LL.length, L1[k] = LL[k + 1] := fun k h => by
          subst hL1
          refine ⟨by simp at h; omega, ?_⟩
          rw [List.getElem_drop]
          congr 1
          omega
        have HTEN := Lib.hid hten
        have HL1 := Lib.hid hL1g
        have kB0 := kB
        have y0 := kB.c0
        have z0 := kB.fz 0
        go_upto_region 6 with (fail)
        try simp only [hnm]
        have kB1 : Blk _ B 24 [.string nm, .slice none 0 0] := kB.set 0 (.string nm)
        have kR1 : Blk _ R 24 [.string ⟨#[]⟩, .slice none 0 0] := HKR.out.other (show R ≠ B by omega) 0 (.string nm)
        have hK1 := (Keep.refl B W).set (.inr rfl) 0 (.string nm)
        generalize World.setCell _ _ _ = W1 at kB1 kR1 hK1
        have HI1 := Lib.hid (show In4 W W1 B nm (linesR [] (L1.take (1 - 1))) s.size 1 from ⟨⟨_, [], kB1, Mem.nil _ _, rfl⟩, hK1, ⟨Nat.zero_le _, fun s hs => by cases hs⟩⟩)
        clear hten hpe hpre h2 h2I h2J h2K hz0 hl0s hl0 hc0 hL1g hL1 hnm y0 z0 kB1 hK1 kR1 kB0
        have hB24 := kB
        have hBW : B < W.heap.size := kB.lt
        clear kB hB24
        go_loopw [6] (fun i wr => ∃ k : Nat, 1 ≤ k ∧ k ≤ m - 1 ∧ i = .int .i64 k ∧ Hid (In4 W wr B nm (linesR [] (L1.take (k - 1))) s.size k)) (fun i _ => m - (intOf i).toNat)
        case atStart => exact ⟨1, by omega, by omega, rfl, HI1⟩
        case round =>
          clear HI1
          obtain ⟨k, hk1, hk, rfl, hI⟩ := hrel
          obtain ⟨ss, hss⟩ : ∃ ss, linesR [] (L1.take (k - 1)) = ss := ⟨_, rfl⟩
          rw [hss] at hI
          obtain ⟨sv, l, kP, hM, hl⟩ := hI.out.mem
          have hK := hI.out.keep
          have hBD := hI.out.bd
          obtain ⟨A2, c2, rfl, hc2, hA2⟩ := hM.form
          by_cases hlt : k < m - 1
          · have hltI : (k : Int) < (m : Int) - 1 := by omega
            obtain ⟨hkL, hg0⟩ := HL1.out (k - 1) (by omega)
            have hk11 : k - 1 + 1 = k := by omega
            have hkm : k < m := by omega
            obtain ⟨li, hli⟩ : ∃ li, L1[k - 1]'(by omega) = li := ⟨_, rfl⟩
            have hgLL : LL[k]'(by rw [HM.out]; omega) = li := by rw [← hli, hg0]; congr 1; omega
            have hss1 : linesR [] (L1.take (k + 1 - 1)) = lineR ss li := by
              have := linesR_take [] L1 (k - 1) (by omega)
              rw [hk11] at this
              rw [show k + 1 - 1 = k by omega, this, hss, hli]
            obtain ⟨ad, hA, hc⟩ := (HS.out.ext (hK.below HEB.out (by omega))) k (by rw [List.length_map, HM.out]; omega)
            simp only [Option.some.injEq] at hA
            subst hA
            rw [List.getElem_map, hgLL] at hc
            have hlil : li.length ≤ s.size := HLIN.out li (by rw [← hgLL]; exact List.getElem_mem _)
            have hll : l.length ≤ k := by have := hBD.len; rw [← hl, List.length_map] at this; exact this
            have hbd2 := lineR_bd (l := li) hBD hlil
            have HSS1 := Lib.hid hss1
            have HM2 := Lib.hid hM
            have HK := Lib.hid hK
            have HBD := Lib.hid hBD
            have HBD2 := Lib.hid hbd2
            have HL := Lib.hid hl
            have HA2 := Lib.hid hA2
            have HLIL := Lib.hid hlil
            clear hI hM hK hl hA2 hlil hgLL hli hss hss1 hg0 hkL hBD hbd2
            have y0 := kP.c0
            have y1 := kP.c1
            have z0 := kP.fz 0
            have z1 := kP.fz 1
            have hzI : ((mkB li).size : Int) = li.length := by rw [mkB_size]
            have hss0 : ss.length = l.length := by rw [← HL.out, List.length_map]
            by_cases hp2 : 2 ≤ li.length
            · have hp2I : (2 : Int) ≤ ((mkB li).size : Int) := by omega
              have hp2N : 2 ≤ (mkB li).size := by rw [mkB_size]; exact hp2
              have hpe := pre_yes (l := li) (q := [32, 32]) (by show 2 ≤ li.length; omega)
              replace hpe : (((mkB li).extract 0 2).toList == ([32, 32] : List UInt8)) = Lib.hasPrefix li [32, 32] := hpe
              cases hpre : Lib.hasPrefix li [32, 32] with
              | true =>
                rw [hpre] at hpe
                by_cases hpos : 0 < l.length
                · obtain ⟨g, hg⟩ := HA2.out hpos
                  subst hg
                  have hposI : (0 : Int) < (l.length : Int) := by omega
                  have hi : l.length - 1 < l.length := by omega
                  obtain ⟨q0, q1, q2, q3⟩ := HM2.out.cells (l.length - 1) hi
                  have hlast : lastOp ss = l[l.length - 1].1.op := by
                    rw [lastOp_get (by omega)]
                    simp only [← HL.out, List.getElem_map, List.length_map]
                  by_cases hop : l[l.length - 1].1.op = 2
                  · have HTT := Lib.hid (HM2.out.txt (l.length - 1) hi)
                    have HF := Lib.hid (fun b => own_ty2 HM2.out.row (HM2.out.txt (l.length - 1) hi) (by decide) b)
                    have HZ := Lib.hid (HM2.out.frozen ((l.length - 1) * 4 + 3))
                    have hline : lineR ss li = addText ss (mkB (li.drop 2)) := by unfold lineR; rw [if_pos ⟨hpre, by rw [hlast]; exact hop⟩]
                    have HLINE := Lib.hid hline
                    have hxl : (l[l.length - 1].1.texts.length : Int) ≤ 200000 := by
                      have h1 := (HBD.out.each l[l.length - 1].1 (by rw [← HL.out]; exact List.mem_map_of_mem (List.getElem_mem hi))).1
                      omega
                    have HX := Lib.hid hxl
                    have HDROP := Lib.hid (drop_mk li 2)
                    rw [hop] at q0
                    obtain ⟨v0, hv0⟩ : ∃ v0, l[l.length - 1].2 = v0 := ⟨_, rfl⟩
                    rw [hv0] at q3
                    have HV0 := Lib.hid hv0
                    obtain ⟨A3, c3, e3, -⟩ := HTT.out.open_
                    rw [HV0.out] at e3
                    subst e3
                    have HHOP := Lib.hid hop
                    clear hline hxl hv0 hlast hop q1 q2
                    have q3Y := fun o => (Ext.new wr o).cell q3
                    have HQ3 := Lib.hid q3
                    go_upto_region 10 with (fail)
                    go_region_law (first | (refine step_app_sG W.heap.size rfl (.tmp 87) (.tmp 93) rfl rfl (.slice A3 l[l.length - 1].1.texts.length c3) l[l.length - 1].1.texts ((mkB li).extract 2 (mkB li).size) ⟨wr.heap.size, 0, none⟩ 1 rfl rfl (by first | exact box_str _ _ | exact (Below.drew (Ext.refl _)).cell (box_str _ _)) (by rw [← HV0.out]; exact HTT.out.ext (by first | exact Ext.new _ _ | exact Below.drew (Ext.new _ _))) (Nat.le_trans HK.out.size (Below.size (by first | exact Ext.new _ _ | exact Below.drew (Ext.new _ _)))) (by have := HX.out; omega) ?_; intro v1 W5 hown hgr hvb; have hne : some g ≠ (Value.slice A3 l[l.length - 1].1.texts.length c3).ownBlock := (fun e => HF.out g (by rw [HV0.out]; exact e.symm) rfl); obtain ⟨A4, c4, rfl, -⟩ := hown.open_; have hw2 := grown_pre (w := wr) hgr (by first | exact Ext.new _ _ | exact Below.drew (Ext.new _ _)); have hgr2 := grown_of hgr hw2; have r3 := hgr2.cell (a := ⟨g, (l.length - 1) * 4 + 3, none⟩) HQ3.out hne; have rz : W5.frozen? ⟨g, (l.length - 1) * 4 + 3, none⟩ = false := (World.frozen?_of_block (hgr2.block g HM2.out.lt.2 hne)).trans HZ.out; have HOW := Lib.hid hown; have HGR := Lib.hid hgr2; have HVB := Lib.hid (show (Value.slice A4 _ c4).ownBlock = (Value.slice A3 l[l.length - 1].1.texts.length c3).ownBlock ∨ ∀ b, (Value.slice A4 _ c4).ownBlock = some b → wr.heap.size ≤ b from hvb.imp id (fun h b hb => Nat.le_trans hw2.size (h b hb))); clear hown hgr hvb hne hgr2 hw2))
                    all_goals
                      have HRW : ∀ b, (Value.slice A3 l[l.length - 1].1.texts.length c3).ownBlock = some b → W.heap.size ≤ b := fun b hb => (World.ownsRow.lt HTT.out b (by rw [HV0.out]; exact hb)).1
                      go_wp2
                      go_roundw
                      case rel =>
                        refine ⟨k + 1, by omega, by omega, by go_num, Lib.hid ?_⟩
                        rw [HSS1.out]
                        have hps : 0 < ss.length := by omega
                        have hbd := HBD2.out
                        rw [HLINE.out] at hbd ⊢
                        have hM3 := HM2.out.put (l.length - 1) hi _ _ (w1 := W5) (by rw [HV0.out]; exact HGR.out) HOW.out (by rw [HV0.out]; exact HVB.out)
                        have hgl := HM2.out.lt
                        have hkP : Blk W5 B 24 _ := (HGR.out.block B kP.lt (fun e => by have := HRW _ e.symm; omega)).trans kP
                        simp only [List.length_append, List.length_cons, List.length_nil, Nat.zero_add] at hM3
                        refine ⟨⟨_, _, hkP.other (by omega) _ _, hM3, ?_⟩, (HK.out.row HGR.out (fun b hb => .inl (HRW b hb))).set (.inl hgl.1) _ _, hbd⟩
                        rw [addText_set hps, List.map_set]
                        simp only [← HL.out, List.getElem_map, List.length_map, HDROP.out]
                      case measure => simp [intOf]; omega
                  · have hopB := bq_no hop
                    have hline : lineR ss li = ss ++ [stepR li] := by
                      unfold lineR
                      rw [if_neg]
                      rintro ⟨-, h⟩
                      rw [hlast] at h
                      exact hop h
                    have HLINE := Lib.hid hline
                    clear hline
                    go_upto_region 11 with (fail)
                    have hgl : ∀ W', Ext wr W' → Calls Tryz.prog 65 #[.string (mkB li)] W' (Post65 (stepR li) W') := fun W' h => by
                      have := step65 (mkB li) W' (by rw [mkB_size]; have := HLIL.out; omega)
                      rwa [mkB_toList] at this
                    have HR := Lib.hid hgl
                    clear hgl
                    go_region_law (first | (go_simp; go_at_call 65; refine (HR.out _ (by first | exact Ext.refl _ | exact Below.drew (Ext.refl _))).mono ?_; rintro e Y ⟨T, cT, rfl, hcT, hoT, he⟩; have hw : Ext wr Y := Ext.trans (by first | exact Ext.refl _ | exact Below.drew (Ext.refl _)) he; have m1 := (kP.ext hw).c1; have mz := (kP.ext hw).fz 1; have HOT := Lib.hid hoT; have m5 := ((kP.ext hw).ext (Ext.new Y (.cells #[.int .i64 (stepR li).op, .int .i64 (stepR li).a, .int .i64 (stepR li).b, .slice T (stepR li).texts.length cT] 77))).c1; have HW := Lib.hid hw; clear he hw hoT) | (refine step_app_step W.heap.size rfl (.tmp 98) (.tmp 104) rfl rfl (.slice (some ⟨g, 0, none⟩) l.length c2) l (stepR li, .slice T (stepR li).texts.length cT) rfl ⟨Y.heap.size, 0, none⟩ 1 rfl rfl (box_step Y (stepR li, .slice T (stepR li).texts.length cT)) (HM2.out.ext (Ext.trans HW.out (by first | exact Ext.new _ _ | exact Below.drew (Ext.new _ _)))).row (Nat.le_trans HK.out.size (Below.size (Ext.trans HW.out (by first | exact Ext.new _ _ | exact Below.drew (Ext.new _ _))))) (by omega) ?_; intro v1 W5 hown hgr hvb; have hne : some B ≠ (Value.slice (some ⟨g, 0, none⟩) l.length c2).ownBlock := (fun e => own_ty HM2.out.row kP (by decide) e.symm); have hw2 := grown_pre hgr (Ext.trans HW.out (by first | exact Ext.new _ _ | exact Below.drew (Ext.new _ _))); have kP3 : Blk W5 B 24 _ := (hgr.block B (kP.ext hw2).lt hne).trans (kP.ext hw2); obtain ⟨g1, cp1, rfl⟩ := ownsRow_succ hown; have m3 := kP3.c1; have mz3 := kP3.fz 1; have KP3 := Lib.hid kP3; have HOW := Lib.hid hown; have HGR := Lib.hid hgr; have HVB := Lib.hid hvb; have HW2 := Lib.hid hw2; have hx9 := grown_pre (w := Y) hgr (by first | exact Ext.new _ _ | exact Below.drew (Ext.new _ _)); have HX9 := Lib.hid hx9; clear hx9; clear hown hgr hvb hne kP3 hw2))
                    all_goals
                      have hown := (HOT.out.base (b := W.heap.size) (HK.out.size)).ext HX9.out
                      have hfar : ∀ i (hi : i < l.length) x, l[i].2.ownBlock = some x → (Value.slice T (stepR li).texts.length cT).ownBlock ≠ some x := by
                        intro i hi x h e
                        have h1 : wr.heap.size ≤ x := (World.ownsRow.lt HOT.out x e).1
                        have h2 := (World.ownsRow.lt (HM2.out.txt i hi) x h).2
                        omega
                      have hM3 := (HM2.out.ext HW2.out).more (stepR li) (.slice T (stepR li).texts.length cT) hown hfar HOW.out HGR.out
                      have HM3 := Lib.hid hM3
                      clear hown hfar hM3
                      go_wp2
                      go_roundw
                      case rel =>
                        refine ⟨k + 1, by omega, by omega, by go_num, Lib.hid ?_⟩
                        rw [HSS1.out]
                        have hbd := HBD2.out
                        rw [HLINE.out] at hbd ⊢
                        refine ⟨⟨_, l ++ [(stepR li, .slice T (stepR li).texts.length cT)], KP3.out.set 1 _, HM3.out.box KP3.out (by decide) (by decide) 1 _, ?_⟩, ((HK.out.ext HW2.out).row HGR.out (fun b hb => .inl (World.ownsRow.lt HM2.out.row b hb).1)).set (.inr rfl) 1 _, hbd⟩
                        rw [List.map_append, HL.out]
                        rfl
                      case measure => simp [intOf]; omega
                · have hposF : ¬ (0 : Int) < (l.length : Int) := by omega
                  have hline : lineR ss li = ss ++ [stepR li] := by
                    unfold lineR
                    rw [if_neg]
                    rintro ⟨-, h⟩
                    have h0 : ss = [] := List.eq_nil_of_length_eq_zero (by omega)
                    rw [h0] at h
                    revert h
                    decide
                  have HLINE := Lib.hid hline
                  clear hline
                  go_upto_region 11 with (fail)
                  have hgl : ∀ W', Ext wr W' → Calls Tryz.prog 65 #[.string (mkB li)] W' (Post65 (stepR li) W') := fun W' h => by
                    have := step65 (mkB li) W' (by rw [mkB_size]; have := HLIL.out; omega)
                    rwa [mkB_toList] at this
                  have HR := Lib.hid hgl
                  clear hgl
                  go_region_law (first | (go_simp; go_at_call 65; refine (HR.out _ (by first | exact Ext.refl _ | exact Below.drew (Ext.refl _))).mono ?_; rintro e Y ⟨T, cT, rfl, hcT, hoT, he⟩; have hw : Ext wr Y := Ext.trans (by first | exact Ext.refl _ | exact Below.drew (Ext.refl _)) he; have m1 := (kP.ext hw).c1; have mz := (kP.ext hw).fz 1; have HOT := Lib.hid hoT; have m5 := ((kP.ext hw).ext (Ext.new Y (.cells #[.int .i64 (stepR li).op, .int .i64 (stepR li).a, .int .i64 (stepR li).b, .slice T (stepR li).texts.length cT] 77))).c1; have HW := Lib.hid hw; clear he hw hoT) | (refine step_app_step W.heap.size rfl (.tmp 98) (.tmp 104) rfl rfl (.slice A2 l.length c2) l (stepR li, .slice T (stepR li).texts.length cT) rfl ⟨Y.heap.size, 0, none⟩ 1 rfl rfl (box_step Y (stepR li, .slice T (stepR li).texts.length cT)) (HM2.out.ext (Ext.trans HW.out (by first | exact Ext.new _ _ | exact Below.drew (Ext.new _ _)))).row (Nat.le_trans HK.out.size (Below.size (Ext.trans HW.out (by first | exact Ext.new _ _ | exact Below.drew (Ext.new _ _))))) (by omega) ?_; intro v1 W5 hown hgr hvb; have hne : some B ≠ (Value.slice A2 l.length c2).ownBlock := (fun e => own_ty HM2.out.row kP (by decide) e.symm); have hw2 := grown_pre hgr (Ext.trans HW.out (by first | exact Ext.new _ _ | exact Below.drew (Ext.new _ _))); have kP3 : Blk W5 B 24 _ := (hgr.block B (kP.ext hw2).lt hne).trans (kP.ext hw2); obtain ⟨g1, cp1, rfl⟩ := ownsRow_succ hown; have m3 := kP3.c1; have mz3 := kP3.fz 1; have KP3 := Lib.hid kP3; have HOW := Lib.hid hown; have HGR := Lib.hid hgr; have HVB := Lib.hid hvb; have HW2 := Lib.hid hw2; have hx9 := grown_pre (w := Y) hgr (by first | exact Ext.new _ _ | exact Below.drew (Ext.new _ _)); have HX9 := Lib.hid hx9; clear hx9; clear hown hgr hvb hne kP3 hw2))
                  all_goals
                    have hown := (HOT.out.base (b := W.heap.size) (HK.out.size)).ext HX9.out
                    have hfar : ∀ i (hi : i < l.length) x, l[i].2.ownBlock = some x → (Value.slice T (stepR li).texts.length cT).ownBlock ≠ some x := by
                      intro i hi x h e
                      have h1 : wr.heap.size ≤ x := (World.ownsRow.lt HOT.out x e).1
                      have h2 := (World.ownsRow.lt (HM2.out.txt i hi) x h).2
                      omega
                    have hM3 := (HM2.out.ext HW2.out).more (stepR li) (.slice T (stepR li).texts.length cT) hown hfar HOW.out HGR.out
                    have HM3 := Lib.hid hM3
                    clear hown hfar hM3
                    go_wp2
                    go_roundw
                    case rel =>
                      refine ⟨k + 1, by omega, by omega, by go_num, Lib.hid ?_⟩
                      rw [HSS1.out]
                      have hbd := HBD2.out
                      rw [HLINE.out] at hbd ⊢
                      refine ⟨⟨_, l ++ [(stepR li, .slice T (stepR li).texts.length cT)], KP3.out.set 1 _, HM3.out.box KP3.out (by decide) (by decide) 1 _, ?_⟩, ((HK.out.ext HW2.out).row HGR.out (fun b hb => .inl (World.ownsRow.lt HM2.out.row b hb).1)).set (.inr rfl) 1 _, hbd⟩
                      rw [List.map_append, HL.out]
                      rfl
                    case measure => simp [intOf]; omega
              | false =>
                rw [hpre] at hpe
                have hline : lineR ss li = ss ++ [stepR li] := by
                  unfold lineR
                  rw [if_neg]
                  rintro ⟨h, -⟩
                  rw [hpre] at h
                  cases h
                have HLINE := Lib.hid hline
                clear hline
                go_upto_region 11 with (fail)
                have hgl : ∀ W', Ext wr W' → Calls Tryz.prog 65 #[.string (mkB li)] W' (Post65 (stepR li) W') := fun W' h => by
                  have := step65 (mkB li) W' (by rw [mkB_size]; have := HLIL.out; omega)
                  rwa [mkB_toList] at this
                have HR := Lib.hid hgl
                clear hgl
                go_region_law (first | (go_simp; go_at_call 65; refine (HR.out _ (by first | exact Ext.refl _ | exact Below.drew (Ext.refl _))).mono ?_; rintro e Y ⟨T, cT, rfl, hcT, hoT, he⟩; have hw : Ext wr Y := Ext.trans (by first | exact Ext.refl _ | exact Below.drew (Ext.refl _)) he; have m1 := (kP.ext hw).c1; have mz := (kP.ext hw).fz 1; have HOT := Lib.hid hoT; have m5 := ((kP.ext hw).ext (Ext.new Y (.cells #[.int .i64 (stepR li).op, .int .i64 (stepR li).a, .int .i64 (stepR li).b, .slice T (stepR li).texts.length cT] 77))).c1; have HW := Lib.hid hw; clear he hw hoT) | (refine step_app_step W.heap.size rfl (.tmp 98) (.tmp 104) rfl rfl (.slice A2 l.length c2) l (stepR li, .slice T (stepR li).texts.length cT) rfl ⟨Y.heap.size, 0, none⟩ 1 rfl rfl (box_step Y (stepR li, .slice T (stepR li).texts.length cT)) (HM2.out.ext (Ext.trans HW.out (by first | exact Ext.new _ _ | exact Below.drew (Ext.new _ _)))).row (Nat.le_trans HK.out.size (Below.size (Ext.trans HW.out (by first | exact Ext.new _ _ | exact Below.drew (Ext.new _ _))))) (by omega) ?_; intro v1 W5 hown hgr hvb; have hne : some B ≠ (Value.slice A2 l.length c2).ownBlock := (fun e => own_ty HM2.out.row kP (by decide) e.symm); have hw2 := grown_pre hgr (Ext.trans HW.out (by first | exact Ext.new _ _ | exact Below.drew (Ext.new _ _))); have kP3 : Blk W5 B 24 _ := (hgr.block B (kP.ext hw2).lt hne).trans (kP.ext hw2); obtain ⟨g1, cp1, rfl⟩ := ownsRow_succ hown; have m3 := kP3.c1; have mz3 := kP3.fz 1; have KP3 := Lib.hid kP3; have HOW := Lib.hid hown; have HGR := Lib.hid hgr; have HVB := Lib.hid hvb; have HW2 := Lib.hid hw2; have hx9 := grown_pre (w := Y) hgr (by first | exact Ext.new _ _ | exact Below.drew (Ext.new _ _)); have HX9 := Lib.hid hx9; clear hx9; clear hown hgr hvb hne kP3 hw2))
                all_goals
                  have hown := (HOT.out.base (b := W.heap.size) (HK.out.size)).ext HX9.out
                  have hfar : ∀ i (hi : i < l.length) x, l[i].2.ownBlock = some x → (Value.slice T (stepR li).texts.length cT).ownBlock ≠ some x := by
                    intro i hi x h e
                    have h1 : wr.heap.size ≤ x := (World.ownsRow.lt HOT.out x e).1
                    have h2 := (World.ownsRow.lt (HM2.out.txt i hi) x h).2
                    omega
                  have hM3 := (HM2.out.ext HW2.out).more (stepR li) (.slice T (stepR li).texts.length cT) hown hfar HOW.out HGR.out
                  have HM3 := Lib.hid hM3
                  clear hown hfar hM3
                  go_wp2
                  go_roundw
                  case rel =>
                    refine ⟨k + 1, by omega, by omega, by go_num, Lib.hid ?_⟩
                    rw [HSS1.out]
                    have hbd := HBD2.out
                    rw [HLINE.out] at hbd ⊢
                    refine ⟨⟨_, l ++ [(stepR li, .slice T (stepR li).texts.length cT)], KP3.out.set 1 _, HM3.out.box KP3.out (by decide) (by decide) 1 _, ?_⟩, ((HK.out.ext HW2.out).row HGR.out (fun b hb => .inl (World.ownsRow.lt HM2.out.row b hb).1)).set (.inr rfl) 1 _, hbd⟩
                    rw [List.map_append, HL.out]
                    rfl
                  case measure => simp [intOf]; omega
            · have hp2F : ¬ (2 : Int) ≤ ((mkB li).size : Int) := by omega
              have hline : lineR ss li = ss ++ [stepR li] := by
                unfold lineR
                rw [if_neg]
                rintro ⟨h, -⟩
                rw [pre_short (by show li.length < 2; omega)] at h
                cases h
              have HLINE := Lib.hid hline
              clear hline
              go_upto_region 11 with (fail)
              have hgl : ∀ W', Ext wr W' → Calls Tryz.prog 65 #[.string (mkB li)] W' (Post65 (stepR li) W') := fun W' h => by
                have := step65 (mkB li) W' (by rw [mkB_size]; have := HLIL.out; omega)
                rwa [mkB_toList] at this
              have HR := Lib.hid hgl
              clear hgl
              go_region_law (first | (go_simp; go_at_call 65; refine (HR.out _ (by first | exact Ext.refl _ | exact Below.drew (Ext.refl _))).mono ?_; rintro e Y ⟨T, cT, rfl, hcT, hoT, he⟩; have hw : Ext wr Y := Ext.trans (by first | exact Ext.refl _ | exact Below.drew (Ext.refl _)) he; have m1 := (kP.ext hw).c1; have mz := (kP.ext hw).fz 1; have HOT := Lib.hid hoT; have m5 := ((kP.ext hw).ext (Ext.new Y (.cells #[.int .i64 (stepR li).op, .int .i64 (stepR li).a, .int .i64 (stepR li).b, .slice T (stepR li).texts.length cT] 77))).c1; have HW := Lib.hid hw; clear he hw hoT) | (refine step_app_step W.heap.size rfl (.tmp 98) (.tmp 104) rfl rfl (.slice A2 l.length c2) l (stepR li, .slice T (stepR li).texts.length cT) rfl ⟨Y.heap.size, 0, none⟩ 1 rfl rfl (box_step Y (stepR li, .slice T (stepR li).texts.length cT)) (HM2.out.ext (Ext.trans HW.out (by first | exact Ext.new _ _ | exact Below.drew (Ext.new _ _)))).row (Nat.le_trans HK.out.size (Below.size (Ext.trans HW.out (by first | exact Ext.new _ _ | exact Below.drew (Ext.new _ _))))) (by omega) ?_; intro v1 W5 hown hgr hvb; have hne : some B ≠ (Value.slice A2 l.length c2).ownBlock := (fun e => own_ty HM2.out.row kP (by decide) e.symm); have hw2 := grown_pre hgr (Ext.trans HW.out (by first | exact Ext.new _ _ | exact Below.drew (Ext.new _ _))); have kP3 : Blk W5 B 24 _ := (hgr.block B (kP.ext hw2).lt hne).trans (kP.ext hw2); obtain ⟨g1, cp1, rfl⟩ := ownsRow_succ hown; have m3 := kP3.c1; have mz3 := kP3.fz 1; have KP3 := Lib.hid kP3; have HOW := Lib.hid hown; have HGR := Lib.hid hgr; have HVB := Lib.hid hvb; have HW2 := Lib.hid hw2; have hx9 := grown_pre (w := Y) hgr (by first | exact Ext.new _ _ | exact Below.drew (Ext.new _ _)); have HX9 := Lib.hid hx9; clear hx9; clear hown hgr hvb hne kP3 hw2))
              all_goals
                have hown := (HOT.out.base (b := W.heap.size) (HK.out.size)).ext HX9.out
                have hfar : ∀ i (hi : i < l.length) x, l[i].2.ownBlock = some x → (Value.slice T (stepR li).texts.length cT).ownBlock ≠ some x := by
                  intro i hi x h e
                  have h1 : wr.heap.size ≤ x := (World.ownsRow.lt HOT.out x e).1
                  have h2 := (World.ownsRow.lt (HM2.out.txt i hi) x h).2
                  omega
                have hM3 := (HM2.out.ext HW2.out).more (stepR li) (.slice T (stepR li).texts.length cT) hown hfar HOW.out HGR.out
                have HM3 := Lib.hid hM3
                clear hown hfar hM3
                go_wp2
                go_roundw
                case rel =>
                  refine ⟨k + 1, by omega, by omega, by go_num, Lib.hid ?_⟩
                  rw [HSS1.out]
                  have hbd := HBD2.out
                  rw [HLINE.out] at hbd ⊢
                  refine ⟨⟨_, l ++ [(stepR li, .slice T (stepR li).texts.length cT)], KP3.out.set 1 _, HM3.out.box KP3.out (by decide) (by decide) 1 _, ?_⟩, ((HK.out.ext HW2.out).row HGR.out (fun b hb => .inl (World.ownsRow.lt HM2.out.row b hb).1)).set (.inr rfl) 1 _, hbd⟩
                  rw [List.map_append, HL.out]
                  rfl
                case measure => simp [intOf]; omega
          · obtain rfl : k = m - 1 := by omega
            have hkF : ¬ (((m - 1 : Nat) : Int) < (m : Int) - 1) := by omega
            have hten := HTEN.out
            rw [show m - 2 = m - 1 - 1 by omega, hss] at hten
            obtain ⟨n, hn⟩ : ∃ n, l.length = n := ⟨_, rfl⟩
            have hPn : ss.length = n := by rw [← hl, List.length_map, hn]
            rw [hn] at kP hM hc2 hA2
            have hnk : (n : Int) ≤ 100001 := by have := hBD.len; omega
            have hkR : Blk wr R 24 [.string ⟨#[]⟩, .slice none 0 0] := hK.blk HKR.out (by omega)
            have HI2 := Lib.hid (show ∃ l' : List SV, Blk wr B 24 [.string nm, .slice A2 n c2] ∧ Blk wr R 24 [.string ⟨#[]⟩, .slice none 0 0] ∧ Mem wr W.heap.size (.slice A2 n c2) l' ∧ l'.map (·.1) = fixUp ss 0 ∧ Keep B W wr from ⟨l, kP, hkR, hM, by rw [fixUp_zero]; exact hl, hK⟩)
            have HBD := Lib.hid hBD
            have HTENT := Lib.hid hten
            have HPN := Lib.hid hPn
            have HA2 := Lib.hid hA2
            have HC2 := Lib.hid hc2
            clear hI hM hl hK hBD hkR hA2 hc2 hPn hn hten hss
            clear kP
            go_wp2_with fail
            go_loopw [8] (fun i wr => ∃ j : Nat, j ≤ n ∧ i = .int .i64 j ∧ Hid (∃ l' : List SV, Blk wr B 24 [.string nm, .slice A2 n c2] ∧ Blk wr R 24 [.string ⟨#[]⟩, .slice none 0 0] ∧ Mem wr W.heap.size (.slice A2 n c2) l' ∧ l'.map (·.1) = fixUp ss j ∧ Keep B W wr)) (fun i _ => n - (intOf i).toNat)
            case atStart => exact ⟨0, Nat.zero_le _, rfl, HI2⟩
            case round =>
              clear HI2
              obtain ⟨j, hj, rfl, hI⟩ := hrel
              obtain ⟨l, kP, kR, hM, hl, hK⟩ := hI.out
              have y0 := kP.c0
              have y1 := kP.c1
              have hln : l.length = n := by have := congrArg List.length hl; rw [List.length_map, fixUp_len _ _ (by have := HPN.out; omega), HPN.out] at this; exact this
              by_cases hlt : j < n
              · obtain ⟨g, hg⟩ := HA2.out (by omega)
                subst hg
                have hjl : j < l.length := by omega
                have hs1 : l[j].1 = ss[j]'(by have := HPN.out; omega) := by
                  have h1 := fixUp_at ss j (by have := HPN.out; omega)
                  rw [← h1]
                  simp only [← hl, List.getElem_map]
                obtain ⟨q0, q1, q2, q3⟩ := hM.cells j hjl
                have hbt := (HBD.out.each _ (List.getElem_mem (by have := HPN.out; omega : j < ss.length)))
                obtain ⟨st, hst⟩ : ∃ st, ss[j]'(by have := HPN.out; omega) = st := ⟨_, rfl⟩
                rw [hst] at hs1 hbt
                rw [hs1] at q0 q1 q2
                have HT := Lib.hid (hM.txt j hjl)
                obtain ⟨A3, c3, e3, hc3, -⟩ := HT.out.open_
                rw [hs1] at e3 hc3
                have q3' := q3
                rw [e3] at q3'
                have htl : (st.texts.length : Int) ≤ 200000 := by have := hbt.1; omega
                have HKEEP := Lib.hid (fun (h : fixS st = st) => (show l.map (·.1) = fixUp ss (j + 1) from by
                  rw [fixUp_succ _ _ (by have := HPN.out; omega), hst, h, ← hl]
                  apply List.ext_getElem (by simp)
                  intro i h1 h2
                  by_cases hij : i = j
                  · subst hij; rw [List.getElem_set_self, List.getElem_map, hs1]
                  · rw [List.getElem_set_ne (fun e => hij e.symm)]))
                have HM2 := Lib.hid hM
                have HK := Lib.hid hK
                have HL := Lib.hid hl
                have HS1 := Lib.hid hs1
                have HE3 := Lib.hid e3
                have HBT := Lib.hid hbt
                have HST := Lib.hid hst
                have HLN := Lib.hid hln
                clear hI hM hl hK hs1 q3 e3 hbt hst
                by_cases ho : st.op = 2
                · rw [ho] at q0
                  by_cases h1 : 1 < st.texts.length
                  · have h1I : (1 : Int) < (st.texts.length : Int) := by omega
                    obtain ⟨b3, c4, e4, -⟩ := HT.out.form (by rw [HS1.out]; intro e; rw [e] at h1; simp at h1)
                    rw [HE3.out] at e4
                    simp only [Value.slice.injEq] at e4
                    obtain ⟨e5, -, -⟩ := e4
                    subst e5
                    have HO : Own wr W.heap.size (.slice (some ⟨b3, 0, none⟩) st.texts.length c3) st.texts := by have := HT.out; rw [HE3.out, HS1.out] at this; exact this
                    have hb3 : W.heap.size ≤ b3 := (World.ownsRow.lt HO b3 rfl).1
                    have z1 := HO.cellAt (st.texts.length - 1) (by omega)
                    have z2 := HO.fzAt (st.texts.length - 1)
                    obtain ⟨tl, htl2⟩ : ∃ tl, st.texts[st.texts.length - 1]'(by omega) = tl := ⟨_, rfl⟩
                    rw [htl2] at z1
                    have HTL := Lib.hid htl2
                    have HHO := Lib.hid HO
                    have HHOP := Lib.hid ho
                    clear htl2 HO
                    by_cases h2 : 2 ≤ tl.size
                    · have h2I : (2 : Int) ≤ (tl.size : Int) := by omega
                      have hpe := pre_yes (l := tl.data.toList) (q := [61, 32]) (by show 2 ≤ tl.data.toList.length; rw [Array.length_toList]; exact h2)
                      replace hpe : ((tl.extract 0 2).toList == ([61, 32] : List UInt8)) = Lib.hasPrefix tl.data.toList [61, 32] := hpe
                      cases hpre : Lib.hasPrefix tl.data.toList [61, 32] with
                      | true =>
                        rw [hpre] at hpe
                        have HFX := Lib.hid (fixS_yes ho h1)
                        have hdr : tl.extract 2 tl.size = mkB (Lib.trimPrefix tl.data.toList [61, 32]) := by
                          have e1 := drop_mk tl.data.toList 2
                          unfold Lib.trimPrefix
                          rw [hpre]
                          exact e1
                        have HDR := Lib.hid hdr
                        clear hdr
                        go_upto_region 18 with (fail)
                        go_region
                        have hM3 := (HM2.out.txtset j hjl HE3.out (st.texts.length - 1) (tl.extract 2 tl.size)).ext (Below.drew (Ext.refl _))
                        have HM3 := Lib.hid hM3
                        clear hM3
                        go_wp2
                        go_roundw
                        case rel =>
                          have kP3 := (kP.other (show B ≠ b3 by omega) (st.texts.length - 1) (.string (tl.extract 2 tl.size))).ext (Below.drew (Ext.refl _))
                          have kR3 := (kR.other (show R ≠ b3 by omega) (st.texts.length - 1) (.string (tl.extract 2 tl.size))).ext (Below.drew (Ext.refl _))
                          have hK3 := (HK.out.set (.inl hb3) (st.texts.length - 1) (.string (tl.extract 2 tl.size))).ext (Below.drew (Ext.refl _))
                          refine ⟨j + 1, by omega, by go_num, Lib.hid ⟨_, kP3, kR3, HM3.out, ?_, hK3⟩⟩
                          rw [fixUp_succ _ _ (by have := HPN.out; omega), HST.out, HFX.out, ← HL.out, List.map_set, HS1.out, HTL.out, HDR.out]
                        case measure => simp [intOf]; omega
                      | false =>
                        rw [hpre] at hpe
                        have HFX := Lib.hid (HKEEP.out (fixS_same ho h1 (by rw [HTL.out]; exact hpre)))
                        go_wp2_with fail
                        go_roundw
                        case rel => exact ⟨j + 1, by omega, by go_num, Lib.hid ⟨l, kP, kR, HM2.out, HFX.out, HK.out⟩⟩
                        case measure => simp [intOf]; omega
                    · have h2F : ¬ (2 : Int) ≤ (tl.size : Int) := by omega
                      have HFX := Lib.hid (HKEEP.out (fixS_same ho h1 (by rw [HTL.out]; exact pre_short (by rw [Array.length_toList]; show tl.size < 2; omega))))
                      go_wp2_with fail
                      go_roundw
                      case rel => exact ⟨j + 1, by omega, by go_num, Lib.hid ⟨l, kP, kR, HM2.out, HFX.out, HK.out⟩⟩
                      case measure => simp [intOf]; omega
                  · have h1I : ¬ (1 : Int) < (st.texts.length : Int) := by omega
                    have HFX := Lib.hid (HKEEP.out (fixS_no (by omega)))
                    go_wp2_with fail
                    go_roundw
                    case rel => exact ⟨j + 1, by omega, by go_num, Lib.hid ⟨l, kP, kR, HM2.out, HFX.out, HK.out⟩⟩
                    case measure => simp [intOf]; omega
                · have hoB := bq_no ho
                  have HFX := Lib.hid (HKEEP.out (fixS_no (by omega)))
                  go_wp2_with fail
                  go_roundw
                  case rel => exact ⟨j + 1, by omega, by go_num, Lib.hid ⟨l, kP, kR, HM2.out, HFX.out, HK.out⟩⟩
                  case measure => simp [intOf]; omega
              · have hjn : j = n := by omega
                subst hjn
                have hfin : l.map (·.1) = ss.map fixS := by rw [hl, ← HPN.out, fixUp_all]
                obtain ⟨tt, htt⟩ : ∃ tt, ss.map fixS = tt := ⟨_, rfl⟩
                have htent : tentR s = ⟨nm, tt⟩ := by rw [HTENT.out, htt]
                have hbds : BdS tt := by
                  rw [← htt]
                  refine ⟨by rw [List.length_map, HPN.out]; omega, fun t ht => ?_⟩
                  obtain ⟨u, hu, rfl⟩ := List.mem_map.1 ht
                  obtain ⟨h1, h2⟩ := fixS_bd u s.size _ (HBD.out.each u hu)
                  exact ⟨by omega, fun x hx => by have := h2 x hx; omega⟩
                have hlen : tt.length = j := by rw [← htt, List.length_map, HPN.out]
                rw [htt] at hfin
                have hst := hM.steps
                rw [hfin] at hst
                have HST := Lib.hid hst
                have HM2 := Lib.hid hM
                have HFIN := Lib.hid hfin
                have HBS := Lib.hid hbds
                have HLEN := Lib.hid hlen
                have HTENT2 := Lib.hid htent
                have EW0 : Ext w wr := hK.below HE0.out (by omega)
                have HEW := Lib.hid EW0
                clear hI hM hl hK hst hbds hlen htent EW0 hfin htt
                have r0 := kR.c0
                have r1 := kR.c1
                have rz0 := kR.fz 0
                have rz1 := kR.fz 1
                go_wp2_with fail
                refine (format34 nm A2 j c2 tt _ HST.out HLEN.out HBS.out (by omega)).mono ?_
                rintro e w2 ⟨rfl, he⟩
                have kR2 := kR.ext he
                have kP2 := kP.ext he
                have r0 := kR2.c0
                have r1 := kR2.c1
                have rz0 := kR2.fz 0
                have rz1 := kR2.fz 1
                have p0 := kP2.c0
                have p1 := kP2.c1
                have HE2 := Lib.hid he
                have HEW2 := Lib.hid (Ext.trans HEW.out he)
                clear he
                rcases Bool.eq_false_or_eq_true (validS ⟨nm, tt⟩) with hv | hv
                · rw [hv]
                  simp only [if_true]
                  have HV := Lib.hid hv
                  clear hv
                  by_cases hq : formatS ⟨nm, tt⟩ = s
                  · have hps : parseR s = (⟨nm, tt⟩, 0) := by unfold parseR; rw [HTENT2.out, if_pos ⟨HV.out, hq⟩]
                    have HPS := Lib.hid hps
                    replace hq := str_eq hq
                    clear hps
                    go_upto_region 21 with (fail)
                    iterate 40 (try go_step)
                    have k4 := (show Blk _ R 24 [.string nm, .slice A2 j c2] from (kR2.set 0 (.string nm)).set 1 (.slice A2 j c2))
                    have HE4 := Lib.hid (Ext.set (Ext.set HEW2.out (show w.heap.size ≤ R by omega) 0 (.string nm)) (show w.heap.size ≤ R by omega) 1 (.slice A2 j c2))
                    have hst5 := (((HM2.out.ext HE2.out).box kR2 (by decide) (by decide) 0 (.string nm)).box (kR2.set 0 (.string nm)) (by decide) (by decide) 1 (.slice A2 j c2)).steps
                    rw [HFIN.out] at hst5
                    have HST5 := Lib.hid hst5
                    clear hst5
                    have x0 := k4.c0
                    have x1 := k4.c1
                    refine bodyPost_ret (v := .tuple #[.agg #[.string nm, .slice A2 j c2], .int .i64 0]) (by simp [results, Tryz.results24, go_sem, x0, x1]) rfl ?_
                    rw [HPS.out]
                    exact ⟨A2, c2, by rw [HLEN.out], HST5.out, HE4.out⟩
                  · have hps : parseR s = (⟨⟨#[]⟩, []⟩, 3) := by unfold parseR; rw [HTENT2.out, if_neg (fun h => hq h.2)]
                    have HPS := Lib.hid hps
                    replace hq := str_ne hq
                    clear hps
                    go_upto_region 22 with (fail)
                    iterate 40 (try go_step)
                    have k4 := (show Blk _ R 24 [.string ⟨#[]⟩, .slice none 0 0] from (kR2.set 0 (.string ⟨#[]⟩)).set 1 (.slice none 0 0))
                    have HE4 := Lib.hid (Ext.set (Ext.set HEW2.out (show w.heap.size ≤ R by omega) 0 (.string ⟨#[]⟩)) (show w.heap.size ≤ R by omega) 1 (.slice none 0 0))
                    have x0 := k4.c0
                    have x1 := k4.c1
                    refine bodyPost_ret (v := .tuple #[.agg #[.string ⟨#[]⟩, .slice none 0 0], .int .i64 3]) (by simp [results, Tryz.results24, go_sem, x0, x1]) rfl ?_
                    rw [HPS.out]
                    exact ⟨none, 0, rfl, fun i hi => absurd hi (by simp), HE4.out⟩
                · rw [hv]
                  simp only [if_neg Bool.false_ne_true]
                  have hps : parseR s = (⟨⟨#[]⟩, []⟩, 3) := by unfold parseR; rw [HTENT2.out, if_neg (fun h => by rw [hv] at h; exact absurd h.1 (by simp))]
                  have HPS := Lib.hid hps
                  clear hv hps
                  go_upto_region 22 with (fail)
                  iterate 40 (try go_step)
                  have k4 := (show Blk _ R 24 [.string ⟨#[]⟩, .slice none 0 0] from (kR2.set 0 (.string ⟨#[]⟩)).set 1 (.slice none 0 0))
                  have HE4 := Lib.hid (Ext.set (Ext.set HEW2.out (show w.heap.size ≤ R by omega) 0 (.string ⟨#[]⟩)) (show w.heap.size ≤ R by omega) 1 (.slice none 0 0))
                  have x0 := k4.c0
                  have x1 := k4.c1
                  refine bodyPost_ret (v := .tuple #[.agg #[.string ⟨#[]⟩, .slice none 0 0], .int .i64 3]) (by simp [results, Tryz.results24, go_sem, x0, x1]) rfl ?_
                  rw [HPS.out]
                  exact ⟨none, 0, rfl, fun i hi => absurd hi (by simp), HE4.out⟩
      | false =>
        rw [hpre] at hpe
        have hps := parseR_no (tentR_no HLL.out (fun _ _ => by rw [hl0]; exact hpre))
        have HPS := Lib.hid hps
        clear hps
        have kR := HKR.out
        have y0 := kB.c0
        have y1 := kB.c1
        go_wp2_with fail
        go_loopw [8] (fun i wr => i = .int .i64 0 ∧ wr = W) (fun _ _ => 0)
        case atStart => exact ⟨rfl, rfl⟩
        case round =>
          obtain ⟨rfl, hwr⟩ := hrel
          subst hwr
          go_wp2_with fail
          refine (format34 ⟨#[]⟩ none 0 0 [] _ (fun i hi => absurd hi (by simp)) rfl ⟨by simp, fun s hs => by cases hs⟩ (by show ((0 : Nat) : Int) ≤ 1000000; decide)).mono ?_
          rintro e w2 ⟨rfl, he⟩
          have hv0 : validS ⟨⟨#[]⟩, []⟩ = false := by decide
          simp only [hv0, if_neg Bool.false_ne_true]
          have kR2 := kR.ext he
          have HEW2 := Lib.hid (Ext.trans HE0.out he)
          have r0 := kR2.c0
          have r1 := kR2.c1
          have rz0 := kR2.fz 0
          have rz1 := kR2.fz 1
          clear he
          go_upto_region 22 with (fail)
          iterate 40 (try go_step)
          have k4 := (show Blk _ R 24 [.string ⟨#[]⟩, .slice none 0 0] from (kR2.set 0 (.string ⟨#[]⟩)).set 1 (.slice none 0 0))
          have HE4 := Lib.hid (Ext.set (Ext.set HEW2.out (show w.heap.size ≤ R by omega) 0 (.string ⟨#[]⟩)) (show w.heap.size ≤ R by omega) 1 (.slice none 0 0))
          have x0 := k4.c0
          have x1 := k4.c1
          refine bodyPost_ret (v := .tuple #[.agg #[.string ⟨#[]⟩, .slice none 0 0], .int .i64 3]) (by simp [results, Tryz.results24, go_sem, x0, x1]) rfl ?_
          rw [HPS.out]
          exact ⟨none, 0, rfl, fun i hi => absurd hi (by simp), HE4.out⟩
    · have h2F : ¬ (8 : Int) < ((mkB l0).size : Int) := by omega
      have hps := parseR_no (tentR_no HLL.out (fun _ h => by rw [hl0] at h; exact absurd h h2))
      have HPS := Lib.hid hps
      clear hps
      have kR := HKR.out
      have y0 := kB.c0
      have y1 := kB.c1
      go_wp2_with fail
      go_loopw [8] (fun i wr => i = .int .i64 0 ∧ wr = W) (fun _ _ => 0)
      case atStart => exact ⟨rfl, rfl⟩
      case round =>
        obtain ⟨rfl, hwr⟩ := hrel
        subst hwr
        go_wp2_with fail
        refine (format34 ⟨#[]⟩ none 0 0 [] _ (fun i hi => absurd hi (by simp)) rfl ⟨by simp, fun s hs => by cases hs⟩ (by show ((0 : Nat) : Int) ≤ 1000000; decide)).mono ?_
        rintro e w2 ⟨rfl, he⟩
        have hv0 : validS ⟨⟨#[]⟩, []⟩ = false := by decide
        simp only [hv0, if_neg Bool.false_ne_true]
        have kR2 := kR.ext he
        have HEW2 := Lib.hid (Ext.trans HE0.out he)
        have r0 := kR2.c0
        have r1 := kR2.c1
        have rz0 := kR2.fz 0
        have rz1 := kR2.fz 1
        clear he
        go_upto_region 22 with (fail)
        iterate 40 (try go_step)
        have k4 := (show Blk _ R 24 [.string ⟨#[]⟩, .slice none 0 0] from (kR2.set 0 (.string ⟨#[]⟩)).set 1 (.slice none 0 0))
        have HE4 := Lib.hid (Ext.set (Ext.set HEW2.out (show w.heap.size ≤ R by omega) 0 (.string ⟨#[]⟩)) (show w.heap.size ≤ R by omega) 1 (.slice none 0 0))
        have x0 := k4.c0
        have x1 := k4.c1
        refine bodyPost_ret (v := .tuple #[.agg #[.string ⟨#[]⟩, .slice none 0 0], .int .i64 3]) (by simp [results, Tryz.results24, go_sem, x0, x1]) rfl ?_
        rw [HPS.out]
        exact ⟨none, 0, rfl, fun i hi => absurd hi (by simp), HE4.out⟩
  · have h1F : ¬ (1 : Int) < (m : Int) := by omega
    have hps := parseR_no (tentR_no HLL.out (fun h _ => by rw [HM.out] at h; exact absurd h h1))
    have HPS := Lib.hid hps
    clear hps
    have kR := HKR.out
    have y0 := kB.c0
    have y1 := kB.c1
    go_wp2_with fail
    go_loopw [8] (fun i wr => i = .int .i64 0 ∧ wr = W) (fun _ _ => 0)
    case atStart => exact ⟨rfl, rfl⟩
    case round =>
      obtain ⟨rfl, hwr⟩ := hrel
      subst hwr
      go_wp2_with fail
      refine (format34 ⟨#[]⟩ none 0 0 [] _ (fun i hi => absurd hi (by simp)) rfl ⟨by simp, fun s hs => by cases hs⟩ (by show ((0 : Nat) : Int) ≤ 1000000; decide)).mono ?_
      rintro e w2 ⟨rfl, he⟩
      have hv0 : validS ⟨⟨#[]⟩, []⟩ = false := by decide
      simp only [hv0, if_neg Bool.false_ne_true]
      have kR2 := kR.ext he
      have HEW2 := Lib.hid (Ext.trans HE0.out he)
      have r0 := kR2.c0
      have r1 := kR2.c1
      have rz0 := kR2.fz 0
      have rz1 := kR2.fz 1
      clear he
      go_upto_region 22 with (fail)
      iterate 40 (try go_step)
      have k4 := (show Blk _ R 24 [.string ⟨#[]⟩, .slice none 0 0] from (kR2.set 0 (.string ⟨#[]⟩)).set 1 (.slice none 0 0))
      have HE4 := Lib.hid (Ext.set (Ext.set HEW2.out (show w.heap.size ≤ R by omega) 0 (.string ⟨#[]⟩)) (show w.heap.size ≤ R by omega) 1 (.slice none 0 0))
      have x0 := k4.c0
      have x1 := k4.c1
      refine bodyPost_ret (v := .tuple #[.agg #[.string ⟨#[]⟩, .slice none 0 0], .int .i64 3]) (by simp [results, Tryz.results24, go_sem, x0, x1]) rfl ?_
      rw [HPS.out]
      exact ⟨none, 0, rfl, fun i hi => absurd hi (by simp), HE4.out⟩
end Go.Proofs.YtkdbajpdcadliaaGreatDoor.Pg
