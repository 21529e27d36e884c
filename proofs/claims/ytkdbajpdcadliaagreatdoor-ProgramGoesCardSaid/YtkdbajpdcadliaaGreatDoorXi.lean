/- Walks: Ends of both sides; words for Reached: a queue of numbers, a row of marks. -/
import Derived.Test.YtkdbajpdcadliaaGreatDoorXd
import Derived.Test.YtkdbajpdcadliaaGreatDoorWm
import Derived.Test.YtkdbajpdcadliaaGreatDoorPr
import Derived.ArgAppend
set_option linter.unusedVariables false
namespace Go.Proofs.YtkdbajpdcadliaaGreatDoor.Pg
open Go.RowKit

theorem OwnI.form {w : World} {base : Nat} {v : Value} {l : List Int} (h : OwnI w base v l) : ∃ T c, v = .slice T l.length c ∧ Ints w T l := by
  rcases h.2 with ⟨rfl, h0⟩ | ⟨g, cap, cur, rfl, hb, hh, hc, _⟩
  · exact ⟨none, 0, by rw [h0], fun i hi => absurd hi (by omega)⟩
  · refine ⟨some ⟨g, 0, none⟩, cap, rfl, fun i hi => ⟨_, rfl, ?_⟩⟩
    exact World.ownsRow.cells h (g := g) rfl i _ (by rw [List.getElem?_map, List.getElem?_eq_getElem hi]; rfl)
theorem OwnI.nil (w : World) (base : Nat) : OwnI w base (.slice none 0 0) [] := ⟨by simp, .inl ⟨rfl, rfl⟩⟩
theorem app_int2 {ops : Array Oper} {rest : List Oper} {o : Oper} {a : Act} {Q : Exit → Act → World → Prop} {W : World} (base : Nat) (hgd : o.guard = none) (s x : Operand)
    (ho : o.op = .call { callee := .builtin .append, args := #[s, x], argTypes := #[57, 57] }) (v : Value) (l : List Int) (y : Int) (N : Nat) (hs : a.eval s = v)
    (hx : a.eval x = .slice (some ⟨N, 0, none⟩) 1 1) (hN : W.heap.size = N) (HO : OwnI W base v l) (hbase : base ≤ W.heap.size) (hl : (l.length : Int) ≤ 1000000000000)
    (h : ∀ v1 w1, OwnI w1 base v1 (l ++ [y]) → Below base W w1 → base ≤ w1.heap.size → wpList Tryz.prog ops Q rest (a.put o.dst v1) w1) :
    wpList Tryz.prog ops Q (o :: rest) a (W.alloc (.cells #[.int .i64 y] 3)) := by
  subst hN
  exact app_int base hgd s x ho v l y hs hx HO hbase hl h
/-- The places that end a run, marked. -/
def endM (ss : List Step) : List Bool := ss.map fun s => decide (s.op = 12 ∨ s.op = 13)
theorem endM_at {ss : List Step} {k : Nat} (h : k < ss.length) : mk (endM ss) k = decide (ss[k].op = 12 ∨ ss[k].op = 13) := by
  rw [mk_get (by unfold endM; simpa using h)]
  simp [endM]
def endsOf (p : Prog) : List Int := if validS p = true then placesU (endM p.steps) p.steps.length else []

set_option maxRecDepth 100000 in
set_option maxHeartbeats 4000000 in
theorem ends37 (nm : ByteArray) (A : Option Addr) (n c : Nat) (ss : List Step) (w : World) (hx : StepsAt w A ss) (hl : ss.length = n) (hb : BdS ss) (hnm : (nm.size : Int) ≤ 1000000) :
    Calls Tryz.prog 37 #[.agg #[.string nm, .slice A n c]] w fun e w' => ∃ T d, e = .returned (.tuple #[.slice T (endsOf ⟨nm, ss⟩).length d, .int .i64 (if validS ⟨nm, ss⟩ then 0 else 230)]) ∧ Ints w' T (endsOf ⟨nm, ss⟩) ∧ Ext w w' := by
  have HX := Lib.hid hx
  have HL := Lib.hid hl
  have HB := Lib.hid hb
  have hn : (n : Int) ≤ 1000000000 := by rw [← hl]; exact hb.len
  clear hx hl hb
  rcases Bool.eq_false_or_eq_true (validS ⟨nm, ss⟩) with hv | hv
  · have he : endsOf ⟨nm, ss⟩ = placesU (endM ss) ss.length := by unfold endsOf; rw [if_pos hv]
    rw [he, hv]
    have HV := Lib.hid hv
    clear he hv
    go_enter Tryz.func37, Tryz.ntmps37
    go_wp2_with fail
    refine (valid35 nm A n c ss _ (HX.out.ext (Ext.new _ _)) HL.out HB.out (by omega)).mono ?_
    rintro e w1 ⟨rfl, he⟩
    rw [HV.out]
    have kP := (Blk.new w [.string nm, .slice A n c] 24).ext he
    have E1 := Ext.trans (Ext.new _ _) he
    have q1 := kP.c1
    have KP := Lib.hid kP
    have HE1 := Lib.hid E1
    clear kP E1 he
    go_wp2_with fail
    go_loopw [4, 13] (fun v i wr => ∃ k : Nat, k ≤ n ∧ i = .int .i64 k ∧ Hid (OwnI wr w.heap.size v (placesU (endM ss) k)) ∧ Hid (Ext w wr) ∧ w.heap.size ≤ wr.heap.size) (fun _ i _ => n - (intOf i).toNat)
    case atStart => exact ⟨0, Nat.zero_le _, rfl, Lib.hid (OwnI.nil _ _), HE1, HE1.out.size⟩
    case round =>
      obtain ⟨k, hk, rfl, HO, HE, hz⟩ := hrel
      by_cases hlt : k < n
      · have lx : k < ss.length := by have := HL.out; omega
        have hle : ((placesU (endM ss) k).length : Int) ≤ 1000000000 := by have := placesU_len (endM ss) k; omega
        have HM := Lib.hid (endM_at lx)
        obtain ⟨ad, T, c', hA, hc0, hc1, hc2, hc3, hcc, hT⟩ := (HX.out.ext HE.out) k lx
        subst hA
        clear hT
        by_cases h12 : ss[k].op = 12
        · have q12 : (ss[k].op == 12) = true := by rw [h12]; rfl
          have hm : mk (endM ss) k = true := by rw [HM.out]; simp [h12]
          have HMK := Lib.hid (placesU_yes hm)
          clear h12 hm
          go_wp2_with (at_builtin; refine app_int2 w.heap.size rfl (.tmp 26) (.tmp 28) rfl _ _ _ _ rfl rfl (by simp) (HO.out.ext (Ext.new _ _)) (Nat.le_trans hz (Ext.new _ _).size) (by omega) ?_; intro v1 w2 hown hb1 hz1; have HO1 := Lib.hid hown; have HE2 := Lib.hid (Below.trans (Ext.al HE.out _) hb1); clear hown hb1)
          go_roundw
          case rel => exact ⟨k + 1, by omega, by go_num, by rw [HMK.out]; exact HO1, HE2, hz1⟩
          case measure => simp [intOf]; omega
        · have q12 := bq_no h12
          by_cases h13 : ss[k].op = 13
          · have q13 : (ss[k].op == 13) = true := by rw [h13]; rfl
            have hm : mk (endM ss) k = true := by rw [HM.out]; simp [h13]
            have HMK := Lib.hid (placesU_yes hm)
            clear h12 h13 hm
            go_wp2_with (at_builtin; refine app_int2 w.heap.size rfl (.tmp 26) (.tmp 28) rfl _ _ _ _ rfl rfl (by simp) (HO.out.ext (Ext.new _ _)) (Nat.le_trans hz (Ext.new _ _).size) (by omega) ?_; intro v1 w2 hown hb1 hz1; have HO1 := Lib.hid hown; have HE2 := Lib.hid (Below.trans (Ext.al HE.out _) hb1); clear hown hb1)
            go_roundw
            case rel => exact ⟨k + 1, by omega, by go_num, by rw [HMK.out]; exact HO1, HE2, hz1⟩
            case measure => simp [intOf]; omega
          · have q13 := bq_no h13
            have hm : mk (endM ss) k = false := by rw [HM.out]; simp [h12, h13]
            have HMK := Lib.hid (placesU_no hm)
            clear h12 h13 hm
            go_wp2_with fail
            go_roundw
            case rel => exact ⟨k + 1, by omega, by go_num, by rw [HMK.out]; exact HO.out.ext (Ext.new _ _), Lib.hid (Ext.al HE.out _), Nat.le_trans hz (Ext.new _ _).size⟩
            case measure => simp [intOf]; omega
      · have ke : k = ss.length := by have := HL.out; omega
        obtain ⟨T, d, rfl, hI⟩ := HO.out.form
        rw [ke] at hI
        have HI := Lib.hid hI
        clear hI
        go_wp2_with fail
        go_ret2
        rw [← ke] at HI ⊢
        exact ⟨T, ⟨d, rfl⟩, HI.out, HE.out⟩
  · have he : endsOf ⟨nm, ss⟩ = [] := by unfold endsOf; rw [if_neg (by rw [hv]; simp)]
    rw [he, hv]
    have HV := Lib.hid hv
    clear he hv
    go_enter Tryz.func37, Tryz.ntmps37
    go_wp2_with fail
    refine (valid35 nm A n c ss _ (HX.out.ext (Ext.new _ _)) HL.out HB.out (by omega)).mono ?_
    rintro e w1 ⟨rfl, he⟩
    rw [HV.out]
    have HE1 := Lib.hid (Ext.trans (Ext.new _ _) he)
    clear he
    go_wp2_with fail
    go_ret2
    exact ⟨none, ⟨0, rfl⟩, fun i hi => absurd hi (by simp), HE1.out⟩
set_option maxRecDepth 100000 in
set_option maxHeartbeats 4000000 in
theorem ends38 (nm : ByteArray) (A : Option Addr) (n c : Nat) (ss : List Step) (w : World) (hx : StepsAt w A ss) (hl : ss.length = n) (hb : BdS ss) (hnm : (nm.size : Int) ≤ 1000000) :
    Calls Tryz.prog 38 #[.agg #[.string nm, .slice A n c]] w fun e w' => ∃ T d, e = .returned (.tuple #[.slice T (endsOf ⟨nm, ss⟩).length d, .int .i64 (if validS ⟨nm, ss⟩ then 0 else 230)]) ∧ Ints w' T (endsOf ⟨nm, ss⟩) ∧ Ext w w' := by
  have HX := Lib.hid hx
  have HL := Lib.hid hl
  have HB := Lib.hid hb
  have hn : (n : Int) ≤ 1000000000 := by rw [← hl]; exact hb.len
  clear hx hl hb
  rcases Bool.eq_false_or_eq_true (validS ⟨nm, ss⟩) with hv | hv
  · have he : endsOf ⟨nm, ss⟩ = placesU (endM ss) ss.length := by unfold endsOf; rw [if_pos hv]
    rw [he, hv]
    have HV := Lib.hid hv
    clear he hv
    go_enter Tryz.func38, Tryz.ntmps38
    go_wp2_with fail
    refine (valid21 nm A n c ss _ (HX.out.ext (Ext.new _ _)) HL.out HB.out (by omega)).mono ?_
    rintro e w1 ⟨rfl, he⟩
    rw [HV.out]
    have kP := (Blk.new w [.string nm, .slice A n c] 24).ext he
    have E1 := Ext.trans (Ext.new _ _) he
    have q1 := kP.c1
    have KP := Lib.hid kP
    have HE1 := Lib.hid E1
    clear kP E1 he
    go_wp2_with fail
    go_loopw [4, 5] (fun v i wr => ∃ k : Nat, k ≤ n ∧ i = .int .i64 k ∧ Hid (OwnI wr w1.heap.size v (placesU (endM ss) k)) ∧ Hid (Ext w1 wr) ∧ w1.heap.size ≤ wr.heap.size) (fun _ i _ => n - (intOf i).toNat)
    case atStart => exact ⟨0, Nat.zero_le _, rfl, Lib.hid (OwnI.nil _ _), Lib.hid (Ext.refl _), Nat.le_refl _⟩
    case round =>
      obtain ⟨k, hk, rfl, HO, HE, hz⟩ := hrel
      have q1 := (KP.out.ext HE.out).c1
      by_cases hlt : k < n
      · have lx : k < ss.length := by have := HL.out; omega
        have hle : ((placesU (endM ss) k).length : Int) ≤ 1000000000 := by have := placesU_len (endM ss) k; omega
        have HM := Lib.hid (endM_at lx)
        obtain ⟨ad, T, c', hA, hc0, hc1, hc2, hc3, hcc, hT⟩ := (HX.out.ext (Ext.trans HE1.out HE.out)) k lx
        subst hA
        clear hT
        by_cases h12 : ss[k].op = 12
        · have q12 : (ss[k].op == 12) = true := by rw [h12]; rfl
          have hm : mk (endM ss) k = true := by rw [HM.out]; simp [h12]
          have HMK := Lib.hid (placesU_yes hm)
          clear h12 hm
          go_wp2_with (at_builtin; refine app_int2 w1.heap.size rfl (.tmp 32) (.tmp 34) rfl _ _ _ _ rfl rfl rfl HO.out hz (by omega) ?_; intro v1 w2 hown hb1 hz1; have HO1 := Lib.hid hown; have HE2 := Lib.hid (Below.trans HE.out hb1); clear hown hb1)
          go_roundw
          case rel => exact ⟨k + 1, by omega, by go_num, by rw [HMK.out]; exact HO1, HE2, hz1⟩
          case measure => simp [intOf]; omega
        · have q12 := bq_no h12
          by_cases h13 : ss[k].op = 13
          · have q13 : (ss[k].op == 13) = true := by rw [h13]; rfl
            have hm : mk (endM ss) k = true := by rw [HM.out]; simp [h13]
            have HMK := Lib.hid (placesU_yes hm)
            clear h12 h13 hm
            go_wp2_with (at_builtin; refine app_int2 w1.heap.size rfl (.tmp 32) (.tmp 34) rfl _ _ _ _ rfl rfl rfl HO.out hz (by omega) ?_; intro v1 w2 hown hb1 hz1; have HO1 := Lib.hid hown; have HE2 := Lib.hid (Below.trans HE.out hb1); clear hown hb1)
            go_roundw
            case rel => exact ⟨k + 1, by omega, by go_num, by rw [HMK.out]; exact HO1, HE2, hz1⟩
            case measure => simp [intOf]; omega
          · have q13 := bq_no h13
            have hm : mk (endM ss) k = false := by rw [HM.out]; simp [h12, h13]
            have HMK := Lib.hid (placesU_no hm)
            clear h12 h13 hm
            go_wp2_with fail
            go_roundw
            case rel => exact ⟨k + 1, by omega, by go_num, by rw [HMK.out]; exact HO.out, HE, hz⟩
            case measure => simp [intOf]; omega
      · have ke : k = ss.length := by have := HL.out; omega
        obtain ⟨T, d, rfl, hI⟩ := HO.out.form
        rw [ke] at hI
        have HI := Lib.hid hI
        clear hI
        go_wp2_with fail
        go_ret2
        rw [← ke] at HI ⊢
        exact ⟨T, ⟨d, rfl⟩, HI.out, Ext.trans HE1.out HE.out⟩
  · have he : endsOf ⟨nm, ss⟩ = [] := by unfold endsOf; rw [if_neg (by rw [hv]; simp)]
    rw [he, hv]
    have HV := Lib.hid hv
    clear he hv
    go_enter Tryz.func38, Tryz.ntmps38
    go_wp2_with fail
    refine (valid21 nm A n c ss _ (HX.out.ext (Ext.new _ _)) HL.out HB.out (by omega)).mono ?_
    rintro e w1 ⟨rfl, he⟩
    rw [HV.out]
    have HE1 := Lib.hid (Ext.trans (Ext.new _ _) he)
    clear he
    go_wp2_with fail
    go_ret2
    exact ⟨none, ⟨0, rfl⟩, fun i hi => absurd hi (by simp), HE1.out⟩
end Go.Proofs.YtkdbajpdcadliaaGreatDoor.Pg
