/- Walks: own, over, Digits, add and alone of the reference. -/
import Derived.Test.YtkdbajpdcadliaaGreatDoorYg
set_option linter.unusedVariables false
namespace Go.Proofs.YtkdbajpdcadliaaGreatDoor.Pg
open Go.RowKit

set_option maxRecDepth 100000 in
theorem own51 (place count over : Int) (T : Option Addr) (k d : Nat) (xs : List ByteArray) (st : ByteArray) (w : World) (hx : Strs w T xs) (hl : xs.length = k) (hk : 0 < k) (hk2 : (k : Int) ≤ 1000000) :
    Calls Tryz.prog 51 #[runV place T k d st count over] w fun e w' => ∃ g c, e = .returned (runV place (some ⟨g, 0, none⟩) k c st count over) ∧ Own w' w.heap.size (.slice (some ⟨g, 0, none⟩) k c) xs ∧ Ext w w' := by
  subst hl
  have hl : xs.length = xs.length := rfl
  have E0 := Ext.al (Ext.new w (.cells #[.int .i64 place, .slice T xs.length d, .string st, .int .i64 count, .int .i64 over] 27)) (.cells #[.int .i64 0, .slice none 0 0, .string ⟨#[]⟩, .int .i64 0, .int .i64 0] 27)
  have kA := (Blk.new w [.int .i64 place, .slice T xs.length d, .string st, .int .i64 count, .int .i64 over] 27).ext (Ext.new _ (.cells #[.int .i64 0, .slice none 0 0, .string ⟨#[]⟩, .int .i64 0, .int .i64 0] 27))
  have kB := Blk.new (w.alloc (.cells #[.int .i64 place, .slice T xs.length d, .string st, .int .i64 count, .int .i64 over] 27)) [.int .i64 0, .slice none 0 0, .string ⟨#[]⟩, .int .i64 0, .int .i64 0] 27
  simp only [World.size_alloc] at kB
  obtain ⟨R, hR⟩ : ∃ R, w.heap.size = R := ⟨_, rfl⟩
  have HX := Lib.hid hx
  have HL := Lib.hid hl
  clear hx hl
  unfold runV
  go_enter Tryz.func51, Tryz.ntmps51
  go_upto_region 1 with (fail)
  rw [hR] at kA kB
  try simp only [hR]
  generalize World.alloc _ _ = W0 at E0 kA kB
  have HE0 := Lib.hid E0
  have hRz : R + 1 < W0.heap.size := kB.lt
  clear E0
  have a1 := (kA.ext (Ext.new W0 (.cells #[] 9))).c1
  have HO : Own (W0.alloc (.cells #[] 9)) W0.heap.size (.slice (some ⟨W0.heap.size, 0, none⟩) 0 0) [] := by
    have := World.ownsRow_lit (e := 9) (base := W0.heap.size) (size := 1) W0 #[] 0 (Nat.le_refl _) (by decide) rfl
    exact this
  go_wp2_with (at_builtin; go_loud (refine app_strs W0.heap.size rfl (.tmp 3) (.tmp 5) rfl rfl (.slice (some ⟨W0.heap.size, 0, none⟩) 0 0) [] xs T xs.length d rfl rfl HO ((HX.out.ext HE0.out).ext (Ext.new _ _)) HL.out (by simp) (by simp; omega) ?_; intro v1 w1 hown hb hbs; rw [List.nil_append] at hown; obtain ⟨g, c, rfl, -⟩ := hown.form (by intro e; rw [e] at hk; simp at hk); have hE : Ext W0 w1 := Below.trans (Ext.new W0 (.cells #[] 9)) hb; have HOW := Lib.hid hown; have HE := Lib.hid hE; have k1 := kA.ext hE; have k2 := kB.ext hE; have f1 := k1.fz 1; have z0 := k1.c0; have z1 := k1.c1; have z2 := k1.c2; have z3 := k1.c3; have z4 := k1.c4; have y0 := k2.c0; have y1 := k2.c1; have y2 := k2.c2; have y3 := k2.c3; have y4 := k2.c4; have g0 := k2.fz 0; have g1 := k2.fz 1; have g2 := k2.fz 2; have g3 := k2.fz 3; have g4 := k2.fz 4; clear hown hb hbs hE a1))
  have nR : (some R : Option Nat) ≠ (Value.slice (some ⟨g, 0, none⟩) xs.length c).ownBlock := by intro e; simp only [Value.ownBlock, Option.some.injEq] at e; have := (World.ownsRow.lt HOW.out g rfl).1; omega
  have nR1 : (Value.slice (some ⟨g, 0, none⟩) xs.length c).ownBlock ≠ some (R + 1) := by intro e; simp only [Value.ownBlock, Option.some.injEq] at e; have := (World.ownsRow.lt HOW.out g rfl).1; omega
  have kF := (k2.other (show R + 1 ≠ R by omega) 1 (.slice (some ⟨g, 0, none⟩) xs.length c)).put5 (.int .i64 place) (.slice (some ⟨g, 0, none⟩) xs.length c) (.string st) (.int .i64 count) (.int .i64 over)
  have HOF := Lib.hid (((HOW.out.set nR 1 (.slice (some ⟨g, 0, none⟩) xs.length c)).kept2 (grown_put5 _ (R + 1) (.int .i64 place) (.slice (some ⟨g, 0, none⟩) xs.length c) (.string st) (.int .i64 count) (.int .i64 over)) nR1).base (b := w.heap.size) (by have := HE0.out.size; omega))
  have HEF := Lib.hid ((Ext.set (Ext.trans HE0.out HE.out) (show w.heap.size ≤ R by omega) 1 (.slice (some ⟨g, 0, none⟩) xs.length c)).grown (grown_put5 _ (R + 1) (.int .i64 place) (.slice (some ⟨g, 0, none⟩) xs.length c) (.string st) (.int .i64 count) (.int .i64 over)) (by omega))
  clear z0 z1 z2 z3 z4 y0 y1 y2 y3 y4 g0 g1 g2 g3 g4 f1 k1 k2 HOW HE kA kB
  unfold put5 at kF HOF HEF
  generalize World.setCell _ _ _ = Z at kF HOF HEF
  have x0 := kF.c0
  have x1 := kF.c1
  have x2 := kF.c2
  have x3 := kF.c3
  have x4 := kF.c4
  refine bodyPost_ret (v := runV place (some ⟨g, 0, none⟩) xs.length c st count over) (by simp [results, Tryz.results51, go_sem, x0, x1, x2, x3, x4, runV]) rfl ?_
  exact ⟨g, c, rfl, by have := HOF.out; rwa [hR] at this, HEF.out⟩

def overI (n place count over : Int) : Int := if over ≠ 0 then over else if n ≤ place then 1 else if 200 ≤ count then 2 else 0
set_option maxRecDepth 100000 in
theorem over52 (nm : ByteArray) (A : Option Addr) (n c : Nat) (place count over : Int) (T : Option Addr) (k d : Nat) (st : ByteArray) (w : World) :
    Calls Tryz.prog 52 #[.agg #[.string nm, .slice A n c], runV place T k d st count over] w fun e w' => e = .returned (.int .i64 (overI n place count over)) ∧ Ext w w' := by
  obtain ⟨r, hr⟩ : ∃ r, overI n place count over = r := ⟨_, rfl⟩
  rw [hr]
  have HR := Lib.hid hr
  clear hr
  unfold runV
  by_cases h1 : over = 0
  · by_cases h2 : (n : Int) ≤ place
    · have h : r = 1 := by rw [← HR.out]; unfold overI; rw [if_neg (by omega), if_pos h2]
      have q1 : (over != 0) = false := by rw [h1]; rfl
      subst h1
      go_enter Tryz.func52, Tryz.ntmps52
      go_wp2_with fail
      go_ret
      exact ⟨by first | rfl | (rw [h]; rfl), Ext.al (Ext.new _ _) _⟩
    · by_cases h3 : 200 ≤ count
      · have h : r = 2 := by rw [← HR.out]; unfold overI; rw [if_neg (by omega), if_neg h2, if_pos h3]
        subst h1
        go_enter Tryz.func52, Tryz.ntmps52
        go_wp2_with fail
        go_ret
        exact ⟨by first | rfl | (rw [h]; rfl), Ext.al (Ext.new _ _) _⟩
      · have h : r = 0 := by rw [← HR.out]; unfold overI; rw [if_neg (by omega), if_neg h2, if_neg h3]
        subst h1
        go_enter Tryz.func52, Tryz.ntmps52
        go_wp2_with fail
        go_ret
        exact ⟨by first | rfl | (rw [h]; rfl), Ext.al (Ext.new _ _) _⟩
  · have h : r = over := by rw [← HR.out]; unfold overI; rw [if_pos h1]
    have q1 : (over == 0) = false := bq_no h1
    go_enter Tryz.func52, Tryz.ntmps52
    go_wp2_with fail
    go_ret
    exact ⟨by first | rfl | (rw [h]; rfl), Ext.al (Ext.new _ _) _⟩

theorem zeros_str (k : Nat) (s : ByteArray) : (⟨#[48]⟩ : ByteArray) ++ mkB (List.replicate k 48 ++ s.data.toList) = mkB (List.replicate (k + 1) 48 ++ s.data.toList) := by
  rw [List.replicate_succ, List.cons_append]
  exact ext_list (by simp [mkB_toList])
set_option maxRecDepth 100000 in
theorem digits120 (n wd : Int) (w : World) (h1 : -900000000000 ≤ n) (h2 : n ≤ 9000000000) (w1 : -1000000000000 ≤ wd) (w2 : wd ≤ 1000000000000) :
    Calls Tryz.prog 120 #[.int .i64 n, .int .i64 wd] w fun e w' => e = .returned (.tuple #[.string (digitsS n wd).1, .int .i64 (digitsS n wd).2]) ∧ Ext w w' := by
  by_cases a1 : n < 0
  · have e : digitsS n wd = (⟨#[]⟩, 2) := by unfold digitsS; rw [if_pos (by omega)]
    rw [e]
    clear e
    go_enter Tryz.func120, Tryz.ntmps120
    go_wp2_with fail
    go_ret2
    exact ⟨rfl, Ext.refl _⟩
  by_cases a2 : wd < 1
  · have e : digitsS n wd = (⟨#[]⟩, 2) := by unfold digitsS; rw [if_pos (by omega)]
    rw [e]
    clear e
    go_enter Tryz.func120, Tryz.ntmps120
    go_wp2_with fail
    go_ret2
    exact ⟨rfl, Ext.refl _⟩
  by_cases a3 : 9 < wd
  · have e : digitsS n wd = (⟨#[]⟩, 2) := by unfold digitsS; rw [if_pos (by omega)]
    rw [e]
    clear e
    go_enter Tryz.func120, Tryz.ntmps120
    go_wp2_with fail
    go_ret2
    exact ⟨rfl, Ext.refl _⟩
  by_cases a4 : wd < ((decS n).size : Int)
  · have e : digitsS n wd = (⟨#[]⟩, 2) := by unfold digitsS; rw [if_pos (by omega)]
    rw [e]
    clear e
    go_enter Tryz.func120, Tryz.ntmps120
    go_wp2_with fail
    refine (dec103 n _ (by omega) (by omega)).mono ?_
    rintro e W ⟨rfl, rfl⟩
    go_wp2_with fail
    go_ret2
    exact ⟨rfl, Ext.refl _⟩
  obtain ⟨c, hc⟩ : ∃ c : Nat, wd - ((decS n).size : Int) = c := ⟨(wd - ((decS n).size : Int)).toNat, by omega⟩
  have e : digitsS n wd = (mkB (List.replicate c 48 ++ (decS n).data.toList), 0) := by
    unfold digitsS
    rw [if_neg (by omega)]
    congr 4
    omega
  rw [e]
  have HC := Lib.hid hc
  clear e
  have hc9 : (c : Int) ≤ 9 := by omega
  go_enter Tryz.func120, Tryz.ntmps120
  go_wp2_with fail
  refine (dec103 n _ (by omega) (by omega)).mono ?_
  rintro e W ⟨rfl, rfl⟩
  go_wp2_with fail
  refine (dec103 n _ (by omega) (by omega)).mono ?_
  rintro e W ⟨rfl, rfl⟩
  go_wp2_with fail
  go_loopg [6] c (fun g v wr => ∃ k : Nat, k + g = c ∧ v = .string (mkB (List.replicate k 48 ++ (decS n).data.toList)) ∧ wr = w)
  case atStart => exact ⟨0, by omega, by simp [mkB_of], rfl⟩
  case round =>
    obtain ⟨k, hk, rfl, rfl⟩ := hrel
    have hsz : ((mkB (List.replicate k 48 ++ (decS n).data.toList)).size : Int) = k + (decS n).size := by
      rw [mkB_size, List.length_append, List.length_replicate]
      have : (decS n).data.toList.length = (decS n).size := Array.length_toList
      omega
    by_cases hlt : k < c
    · have hlt2 : ((mkB (List.replicate k 48 ++ (decS n).data.toList)).size : Int) < wd := by omega
      go_wp2_with fail
      go_roundg (gk - 1)
      case measure => omega
      case rel => exact ⟨k + 1, by omega, by rw [← zeros_str], rfl⟩
    · have hke : k = c := by omega
      have hlt2 : ¬ ((mkB (List.replicate k 48 ++ (decS n).data.toList)).size : Int) < wd := by omega
      subst hke
      go_wp2_with fail
      go_ret2
      exact ⟨rfl, Ext.refl _⟩

theorem Strs.set_ne {w : World} {A : Option Addr} {xs : List ByteArray} (hs : Strs w A xs) {p : Addr} {u : Value} (hp : w.cell? p = some u) (hu : ∀ s, u ≠ .string s) (v : Value) : Strs (w.setCell p v) A xs := fun i hi => by
  obtain ⟨ad, e, hc⟩ := hs i hi
  refine ⟨ad, e, ?_⟩
  rw [World.cell?_setCell_other]
  · exact hc
  · intro e2
    rw [e2, hc] at hp
    cases hp
    exact hu _ rfl

set_option maxRecDepth 100000 in
set_option maxHeartbeats 4000000 in
theorem add83_a (ai : Nat) (hai : ai < 6) (v er bb : Int) (b g d base : Nat) (place count over : Int) (st : ByteArray) (vs : List ByteArray) (w : World) (hb : Blk w b 27 (runL place g d st count over)) (ho : Own w base (.slice (some ⟨g, 0, none⟩) 6 d) vs) (h6 : vs.length = 6) (hvs : ∀ x ∈ vs, (x.size : Int) ≤ 1000) (hfd : fdS (varAt vs (ai : Int)) = (v, er)) (her : ¬ er = 0) :
    Calls Tryz.prog 83 #[.pointer (some ⟨b, 0, none⟩), .int .i64 (ai : Int), .int .i64 bb] w fun e w' => e = .returned (.tuple #[]) ∧ Blk w' b 27 (runL place g d (ndS) count over) ∧ Own w' base (.slice (some ⟨g, 0, none⟩) 6 d) (vs) ∧ Keep2 b g w w' := by
  have hbg := own_ne2 ho hb (by decide)
  obtain ⟨x, hx⟩ : ∃ x, vs[ai]'(by omega) = x := ⟨_, rfl⟩
  have hva : varAt vs (ai : Int) = x := by
    unfold varAt
    rw [List.getD_eq_getElem?_getD, Int.toNat_natCast, List.getElem?_eq_getElem (by omega), Option.getD_some]
    exact hx
  have hxs : (x.size : Int) ≤ 1000 := by rw [← hx]; exact hvs _ (List.getElem_mem _)
  have hai' : (ai : Int) < 6 := by omega
  have hai0 : (0 : Int) ≤ ai := by omega
  have hca := ho.cellAt ai (by omega)
  rw [hx] at hca
  have HO := Lib.hid ho
  have KB := Lib.hid hb
  have y1 := hb.c1
  rw [hva] at hfd
  have HFD := Lib.hid hfd
  clear hvs h6 hb ho hfd hva hx
  have herB := bq_no her
  go_enter Tryz.func83, Tryz.ntmps83
  go_wp2_with fail
  refine (fromDigits119 x _ (by unfold maxLen; omega)).mono ?_
  rintro e W1 ⟨rfl, he⟩
  rw [HFD.out]
  have HE1 := Lib.hid he
  clear he
  have k1 := KB.out.ext HE1.out
  have z1 := k1.c1
  have z2 := k1.c2
  have f2 := k1.fz 2
  have o1 := HO.out.ext HE1.out
  have c1 := HE1.out.cell hca
  clear c1 o1
  go_wp2_with fail
  go_end0
  exact ⟨rfl, k1.set 2 _, (HO.out.ext HE1.out).set (b := b) (by simp only [Value.ownBlock]; intro e; exact hbg (Option.some.inj e)) 2 _, (Keep2.of HE1.out).setb 2 _⟩

set_option maxRecDepth 100000 in
set_option maxHeartbeats 4000000 in
theorem add83_b (ai : Nat) (hai : ai < 6) (v e2 bb : Int) (yy : ByteArray) (b g d base : Nat) (place count over : Int) (st : ByteArray) (vs : List ByteArray) (w : World) (hb : Blk w b 27 (runL place g d st count over)) (ho : Own w base (.slice (some ⟨g, 0, none⟩) 6 d) vs) (h6 : vs.length = 6) (hvs : ∀ x ∈ vs, (x.size : Int) ≤ 1000) (hbb : -10000 ≤ bb) (hbb2 : bb ≤ 10000) (hfd : fdS (varAt vs (ai : Int)) = (v, 0)) (hdg : digitsS (v + bb) ((varAt vs (ai : Int)).size : Int) = (yy, e2)) (he2 : ¬ e2 = 0) :
    Calls Tryz.prog 83 #[.pointer (some ⟨b, 0, none⟩), .int .i64 (ai : Int), .int .i64 bb] w fun e w' => e = .returned (.tuple #[]) ∧ Blk w' b 27 (runL place g d (ndS) count over) ∧ Own w' base (.slice (some ⟨g, 0, none⟩) 6 d) (vs) ∧ Keep2 b g w w' := by
  have hbg := own_ne2 ho hb (by decide)
  obtain ⟨x, hx⟩ : ∃ x, vs[ai]'(by omega) = x := ⟨_, rfl⟩
  have hva : varAt vs (ai : Int) = x := by
    unfold varAt
    rw [List.getD_eq_getElem?_getD, Int.toNat_natCast, List.getElem?_eq_getElem (by omega), Option.getD_some]
    exact hx
  have hxs : (x.size : Int) ≤ 1000 := by rw [← hx]; exact hvs _ (List.getElem_mem _)
  have hai' : (ai : Int) < 6 := by omega
  have hai0 : (0 : Int) ≤ ai := by omega
  have hca := ho.cellAt ai (by omega)
  rw [hx] at hca
  have HO := Lib.hid ho
  have KB := Lib.hid hb
  have y1 := hb.c1
  have hvb0 : 0 ≤ v ∧ v ≤ 1000000000 := by
    have := natAbs_val x
    rw [← hva, hfd] at this
    exact this
  have HDG : Hid (digitsS (v + bb) (x.size : Int) = (yy, e2)) := Lib.hid (by rw [← hva]; exact hdg)
  rw [hva] at hfd
  have HFD := Lib.hid hfd
  have hsum : IntKind.i64.wrap (v + bb) = v + bb := IntWalk.i64_in _ (by omega)
  clear hvs h6 hb ho hfd hva hx hdg
  have he2B := bq_no he2
  go_enter Tryz.func83, Tryz.ntmps83
  go_wp2_with fail
  refine (fromDigits119 x _ (by unfold maxLen; omega)).mono ?_
  rintro e W1 ⟨rfl, he⟩
  rw [HFD.out]
  have HE1 := Lib.hid he
  clear he
  have k1 := KB.out.ext HE1.out
  have z1 := k1.c1
  have z2 := k1.c2
  have f2 := k1.fz 2
  have o1 := HO.out.ext HE1.out
  have c1 := HE1.out.cell hca
  go_wp2_with fail
  refine (digits120 (v + bb) (x.size : Int) _ (by omega) (by omega) (by omega) (by omega)).mono ?_
  rintro e W2 ⟨rfl, he⟩
  rw [HDG.out]
  have HE2 := Lib.hid (Ext.trans HE1.out he)
  clear he z1 z2 f2 c1 k1
  have k2 := KB.out.ext HE2.out
  have z1 := k2.c1
  have z2 := k2.c2
  have f2 := k2.fz 2
  have o2 := HO.out.ext HE2.out
  have c2 := HE2.out.cell hca
  have g2 := o2.fzAt ai
  have O2 := Lib.hid o2
  clear o2 o1 y1 hca
  clear c2 g2
  go_wp2_with fail
  go_end0
  exact ⟨rfl, k2.set 2 _, O2.out.set (b := b) (by simp only [Value.ownBlock]; intro e; exact hbg (Option.some.inj e)) 2 _, (Keep2.of HE2.out).setb 2 _⟩

set_option maxRecDepth 100000 in
set_option maxHeartbeats 4000000 in
theorem add83_c (ai : Nat) (hai : ai < 6) (v bb : Int) (yy : ByteArray) (b g d base : Nat) (place count over : Int) (st : ByteArray) (vs : List ByteArray) (w : World) (hb : Blk w b 27 (runL place g d st count over)) (ho : Own w base (.slice (some ⟨g, 0, none⟩) 6 d) vs) (h6 : vs.length = 6) (hvs : ∀ x ∈ vs, (x.size : Int) ≤ 1000) (hbb : -10000 ≤ bb) (hbb2 : bb ≤ 10000) (hfd : fdS (varAt vs (ai : Int)) = (v, 0)) (hdg : digitsS (v + bb) ((varAt vs (ai : Int)).size : Int) = (yy, 0)) :
    Calls Tryz.prog 83 #[.pointer (some ⟨b, 0, none⟩), .int .i64 (ai : Int), .int .i64 bb] w fun e w' => e = .returned (.tuple #[]) ∧ Blk w' b 27 (runL place g d (blankS) count over) ∧ Own w' base (.slice (some ⟨g, 0, none⟩) 6 d) (vs.set ai yy) ∧ Keep2 b g w w' := by
  have hbg := own_ne2 ho hb (by decide)
  obtain ⟨x, hx⟩ : ∃ x, vs[ai]'(by omega) = x := ⟨_, rfl⟩
  have hva : varAt vs (ai : Int) = x := by
    unfold varAt
    rw [List.getD_eq_getElem?_getD, Int.toNat_natCast, List.getElem?_eq_getElem (by omega), Option.getD_some]
    exact hx
  have hxs : (x.size : Int) ≤ 1000 := by rw [← hx]; exact hvs _ (List.getElem_mem _)
  have hai' : (ai : Int) < 6 := by omega
  have hai0 : (0 : Int) ≤ ai := by omega
  have hca := ho.cellAt ai (by omega)
  rw [hx] at hca
  have HO := Lib.hid ho
  have KB := Lib.hid hb
  have y1 := hb.c1
  have hvb0 : 0 ≤ v ∧ v ≤ 1000000000 := by
    have := natAbs_val x
    rw [← hva, hfd] at this
    exact this
  have HDG : Hid (digitsS (v + bb) (x.size : Int) = (yy, 0)) := Lib.hid (by rw [← hva]; exact hdg)
  rw [hva] at hfd
  have HFD := Lib.hid hfd
  have hsum : IntKind.i64.wrap (v + bb) = v + bb := IntWalk.i64_in _ (by omega)
  clear hvs h6 hb ho hfd hva hx hdg
  go_enter Tryz.func83, Tryz.ntmps83
  go_wp2_with fail
  refine (fromDigits119 x _ (by unfold maxLen; omega)).mono ?_
  rintro e W1 ⟨rfl, he⟩
  rw [HFD.out]
  have HE1 := Lib.hid he
  clear he
  have k1 := KB.out.ext HE1.out
  have z1 := k1.c1
  have z2 := k1.c2
  have f2 := k1.fz 2
  have o1 := HO.out.ext HE1.out
  have c1 := HE1.out.cell hca
  go_wp2_with fail
  refine (digits120 (v + bb) (x.size : Int) _ (by omega) (by omega) (by omega) (by omega)).mono ?_
  rintro e W2 ⟨rfl, he⟩
  rw [HDG.out]
  have HE2 := Lib.hid (Ext.trans HE1.out he)
  clear he z1 z2 f2 c1 k1
  have k2 := KB.out.ext HE2.out
  have z1 := k2.c1
  have z2 := k2.c2
  have f2 := k2.fz 2
  have o2 := HO.out.ext HE2.out
  have c2 := HE2.out.cell hca
  have g2 := o2.fzAt ai
  have O2 := Lib.hid o2
  clear o2 o1 y1 hca
  have nbg : b ≠ g := hbg
  have ngb : g ≠ b := fun e => hbg e.symm
  go_wp2_with fail
  refine bodyPost_ret (v := .tuple #[]) (by simp [results, Tryz.results83, go_sem]) rfl ?_
  exact ⟨rfl, (k2.other hbg ai _).set 2 _, (O2.out.stored ai yy).set (b := b) (by simp only [Value.ownBlock]; intro e; exact hbg (Option.some.inj e)) 2 _, ((Keep2.of HE2.out).setg ai _).setb 2 _⟩

set_option maxRecDepth 100000 in
set_option maxHeartbeats 4000000 in
theorem alone53_7 (a : Int) (bb : Int) (Tx : Option Addr) (nx cx : Nat) (ts : List ByteArray) (b g d base : Nat) (place count over : Int) (st : ByteArray) (vs : List ByteArray) (w : World) (hb : Blk w b 27 (runL place g d st count over)) (ho : Own w base (.slice (some ⟨g, 0, none⟩) 6 d) vs) (h6 : vs.length = 6) (hvs : ∀ x ∈ vs, (x.size : Int) ≤ 1000)
    (ht : Strs w Tx ts) (hl : ts.length = nx) (hnx : (nx : Int) ≤ 1000) (hts : ∀ x ∈ ts, (x.size : Int) ≤ 1000) (hp0 : 0 ≤ place) (hp1 : place ≤ 1000) (hc0 : 0 ≤ count) (hc1 : count ≤ 1000) (hbb : -10000 ≤ bb) (hbb2 : bb ≤ 10000) :
    Calls Tryz.prog 53 #[.pointer (some ⟨b, 0, none⟩), .agg #[.int .i64 7, .int .i64 a, .int .i64 bb, .slice Tx nx cx]] w fun e w' => e = .returned (.tuple #[]) ∧ Blk w' b 27 (runL (bb) g d (st) (count + 1) over) ∧ Own w' base (.slice (some ⟨g, 0, none⟩) 6 d) (vs) ∧ Keep2 b g w w' := by
  have E0 := Ext.new w (.cells #[.int .i64 7, .int .i64 a, .int .i64 bb, .slice Tx nx cx] 77)
  have kS := Blk.new w [.int .i64 7, .int .i64 a, .int .i64 bb, .slice Tx nx cx] 77
  have kB := hb.ext E0
  have hO := ho.ext E0
  have hT := ht.ext E0
  have hbg := own_ne2 ho hb (by decide)
  have hlt := hb.lt
  have hgl : g < w.heap.size := (World.ownsRow.lt ho g rfl).2
  obtain ⟨S, hS⟩ : ∃ S, w.heap.size = S := ⟨_, rfl⟩
  have hbS : b ≠ S := by omega
  have nSb : S ≠ b := by omega
  have HV := Lib.hid hvs
  have HTS := Lib.hid hts
  have HL := Lib.hid hl
  have H6 := Lib.hid h6
  clear hb ho ht hvs hts hl h6
  go_enter Tryz.func53, Tryz.ntmps53
  go_upto_region 1 with (fail)
  rw [hS] at kS
  try simp only [hS]
  generalize World.alloc _ _ = W0 at E0 kS kB hO hT
  have y0 := kB.c0
  have y3 := kB.c3
  have f0 := kB.fz 0
  have f3 := kB.fz 3
  have HO := Lib.hid hO
  have HT := Lib.hid hT
  clear hO hT
  go_upto_region 3 with (fail)
  have kB1 : Blk _ b 27 (runL (place + 1) g d st (count + 1) over) := (kB.set 3 (.int .i64 (count + 1))).set 0 (.int .i64 (place + 1))
  have kS1 := (kS.other nSb 3 (.int .i64 (count + 1))).other nSb 0 (.int .i64 (place + 1))
  have hO1 := (HO.out.set (b := b) (by simp only [Value.ownBlock]; intro e; exact hbg (Option.some.inj e)) 3 (.int .i64 (count + 1))).set (b := b) (by simp only [Value.ownBlock]; intro e; exact hbg (Option.some.inj e)) 0 (.int .i64 (place + 1))
  have hT1 := (HT.out.set_ne y3 (fun _ e => by cases e) (.int .i64 (count + 1))).set_ne (kB.set 3 (.int .i64 (count + 1))).c0 (fun _ e => by cases e) (.int .i64 (place + 1))
  have hK1 := ((Keep2.of E0 (b := b) (g := g)).setb 3 (.int .i64 (count + 1))).setb 0 (.int .i64 (place + 1))
  generalize World.setCell _ _ _ = W1 at kB1 kS1 hO1 hT1 hK1
  clear y0 y3 f0 f3 kB kS HO HT
  have HO := Lib.hid hO1
  have HT := Lib.hid hT1
  have HK := Lib.hid hK1
  clear hO1 hT1 hK1
  have x0 := kS1.c0
  have x1 := kS1.c1
  have x2 := kS1.c2
  have x3 := kS1.c3
  have y0 := kB1.c0
  have y1 := kB1.c1
  have y2 := kB1.c2
  have y3 := kB1.c3
  have f0 := kB1.fz 0
  go_wp2
  go_end0
  exact ⟨rfl, kB1.set 0 _, HO.out.set (b := b) (by simp only [Value.ownBlock]; intro e; exact hbg (Option.some.inj e)) 0 _, HK.out.setb 0 _⟩

set_option maxRecDepth 100000 in
set_option maxHeartbeats 4000000 in
theorem alone53_51 (a : Int) (bb : Int) (Tx : Option Addr) (nx cx : Nat) (ts : List ByteArray) (b g d base : Nat) (place count over : Int) (st : ByteArray) (vs : List ByteArray) (w : World) (hb : Blk w b 27 (runL place g d st count over)) (ho : Own w base (.slice (some ⟨g, 0, none⟩) 6 d) vs) (h6 : vs.length = 6) (hvs : ∀ x ∈ vs, (x.size : Int) ≤ 1000)
    (ht : Strs w Tx ts) (hl : ts.length = nx) (hnx : (nx : Int) ≤ 1000) (hts : ∀ x ∈ ts, (x.size : Int) ≤ 1000) (hp0 : 0 ≤ place) (hp1 : place ≤ 1000) (hc0 : 0 ≤ count) (hc1 : count ≤ 1000) (hbb : -10000 ≤ bb) (hbb2 : bb ≤ 10000) (hpos : 0 < nx) (hq : st = headT ts) :
    Calls Tryz.prog 53 #[.pointer (some ⟨b, 0, none⟩), .agg #[.int .i64 5, .int .i64 a, .int .i64 bb, .slice Tx nx cx]] w fun e w' => e = .returned (.tuple #[]) ∧ Blk w' b 27 (runL (bb) g d (st) (count + 1) over) ∧ Own w' base (.slice (some ⟨g, 0, none⟩) 6 d) (vs) ∧ Keep2 b g w w' := by
  have E0 := Ext.new w (.cells #[.int .i64 5, .int .i64 a, .int .i64 bb, .slice Tx nx cx] 77)
  have kS := Blk.new w [.int .i64 5, .int .i64 a, .int .i64 bb, .slice Tx nx cx] 77
  have kB := hb.ext E0
  have hO := ho.ext E0
  have hT := ht.ext E0
  have hbg := own_ne2 ho hb (by decide)
  have hlt := hb.lt
  have hgl : g < w.heap.size := (World.ownsRow.lt ho g rfl).2
  obtain ⟨S, hS⟩ : ∃ S, w.heap.size = S := ⟨_, rfl⟩
  have hbS : b ≠ S := by omega
  have nSb : S ≠ b := by omega
  have HV := Lib.hid hvs
  have HTS := Lib.hid hts
  have HL := Lib.hid hl
  have H6 := Lib.hid h6
  clear hb ho ht hvs hts hl h6
  obtain ⟨t0, rs, rfl⟩ : ∃ t0 rs, ts = t0 :: rs := by
    cases ts with
    | nil => have := HL.out; simp at this; omega
    | cons t l => exact ⟨t, l, rfl⟩
  replace hq := str_eq hq
  replace hq : (st.toList == t0.toList) = true := hq
  go_enter Tryz.func53, Tryz.ntmps53
  go_upto_region 1 with (fail)
  rw [hS] at kS
  try simp only [hS]
  generalize World.alloc _ _ = W0 at E0 kS kB hO hT
  have y0 := kB.c0
  have y3 := kB.c3
  have f0 := kB.fz 0
  have f3 := kB.fz 3
  have HO := Lib.hid hO
  have HT := Lib.hid hT
  clear hO hT
  go_upto_region 3 with (fail)
  have kB1 : Blk _ b 27 (runL (place + 1) g d st (count + 1) over) := (kB.set 3 (.int .i64 (count + 1))).set 0 (.int .i64 (place + 1))
  have kS1 := (kS.other nSb 3 (.int .i64 (count + 1))).other nSb 0 (.int .i64 (place + 1))
  have hO1 := (HO.out.set (b := b) (by simp only [Value.ownBlock]; intro e; exact hbg (Option.some.inj e)) 3 (.int .i64 (count + 1))).set (b := b) (by simp only [Value.ownBlock]; intro e; exact hbg (Option.some.inj e)) 0 (.int .i64 (place + 1))
  have hT1 := (HT.out.set_ne y3 (fun _ e => by cases e) (.int .i64 (count + 1))).set_ne (kB.set 3 (.int .i64 (count + 1))).c0 (fun _ e => by cases e) (.int .i64 (place + 1))
  have hK1 := ((Keep2.of E0 (b := b) (g := g)).setb 3 (.int .i64 (count + 1))).setb 0 (.int .i64 (place + 1))
  generalize World.setCell _ _ _ = W1 at kB1 kS1 hO1 hT1 hK1
  clear y0 y3 f0 f3 kB kS HO HT
  have HO := Lib.hid hO1
  have HT := Lib.hid hT1
  have HK := Lib.hid hK1
  clear hO1 hT1 hK1
  have x0 := kS1.c0
  have x1 := kS1.c1
  have x2 := kS1.c2
  have x3 := kS1.c3
  have y0 := kB1.c0
  have y1 := kB1.c1
  have y2 := kB1.c2
  have y3 := kB1.c3
  have f0 := kB1.fz 0
  obtain ⟨ad, hA, hc⟩ := HT.out 0 (by simp)
  subst hA
  have hc : W1.cell? ad = some (.string t0) := hc
  go_upto_region 9 with (fail)
  go_quiet (fail)
  go_wp2
  go_end0
  exact ⟨rfl, (kB1.drewN _).set 0 _, (HO.out.ext ((Ext.refl _).drewN _)).set (b := b) (by simp only [Value.ownBlock]; intro e; exact hbg (Option.some.inj e)) 0 _, (HK.out.ext ((Ext.refl _).drewN _)).setb 0 _⟩

set_option maxRecDepth 100000 in
set_option maxHeartbeats 4000000 in
theorem alone53_50 (a : Int) (bb : Int) (Tx : Option Addr) (nx cx : Nat) (ts : List ByteArray) (b g d base : Nat) (place count over : Int) (st : ByteArray) (vs : List ByteArray) (w : World) (hb : Blk w b 27 (runL place g d st count over)) (ho : Own w base (.slice (some ⟨g, 0, none⟩) 6 d) vs) (h6 : vs.length = 6) (hvs : ∀ x ∈ vs, (x.size : Int) ≤ 1000)
    (ht : Strs w Tx ts) (hl : ts.length = nx) (hnx : (nx : Int) ≤ 1000) (hts : ∀ x ∈ ts, (x.size : Int) ≤ 1000) (hp0 : 0 ≤ place) (hp1 : place ≤ 1000) (hc0 : 0 ≤ count) (hc1 : count ≤ 1000) (hbb : -10000 ≤ bb) (hbb2 : bb ≤ 10000) (hpos : 0 < nx) (hq : ¬ st = headT ts) :
    Calls Tryz.prog 53 #[.pointer (some ⟨b, 0, none⟩), .agg #[.int .i64 5, .int .i64 a, .int .i64 bb, .slice Tx nx cx]] w fun e w' => e = .returned (.tuple #[]) ∧ Blk w' b 27 (runL (place + 1) g d (st) (count + 1) over) ∧ Own w' base (.slice (some ⟨g, 0, none⟩) 6 d) (vs) ∧ Keep2 b g w w' := by
  have E0 := Ext.new w (.cells #[.int .i64 5, .int .i64 a, .int .i64 bb, .slice Tx nx cx] 77)
  have kS := Blk.new w [.int .i64 5, .int .i64 a, .int .i64 bb, .slice Tx nx cx] 77
  have kB := hb.ext E0
  have hO := ho.ext E0
  have hT := ht.ext E0
  have hbg := own_ne2 ho hb (by decide)
  have hlt := hb.lt
  have hgl : g < w.heap.size := (World.ownsRow.lt ho g rfl).2
  obtain ⟨S, hS⟩ : ∃ S, w.heap.size = S := ⟨_, rfl⟩
  have hbS : b ≠ S := by omega
  have nSb : S ≠ b := by omega
  have HV := Lib.hid hvs
  have HTS := Lib.hid hts
  have HL := Lib.hid hl
  have H6 := Lib.hid h6
  clear hb ho ht hvs hts hl h6
  obtain ⟨t0, rs, rfl⟩ : ∃ t0 rs, ts = t0 :: rs := by
    cases ts with
    | nil => have := HL.out; simp at this; omega
    | cons t l => exact ⟨t, l, rfl⟩
  replace hq := str_ne hq
  replace hq : (st.toList == t0.toList) = false := hq
  go_enter Tryz.func53, Tryz.ntmps53
  go_upto_region 1 with (fail)
  rw [hS] at kS
  try simp only [hS]
  generalize World.alloc _ _ = W0 at E0 kS kB hO hT
  have y0 := kB.c0
  have y3 := kB.c3
  have f0 := kB.fz 0
  have f3 := kB.fz 3
  have HO := Lib.hid hO
  have HT := Lib.hid hT
  clear hO hT
  go_upto_region 3 with (fail)
  have kB1 : Blk _ b 27 (runL (place + 1) g d st (count + 1) over) := (kB.set 3 (.int .i64 (count + 1))).set 0 (.int .i64 (place + 1))
  have kS1 := (kS.other nSb 3 (.int .i64 (count + 1))).other nSb 0 (.int .i64 (place + 1))
  have hO1 := (HO.out.set (b := b) (by simp only [Value.ownBlock]; intro e; exact hbg (Option.some.inj e)) 3 (.int .i64 (count + 1))).set (b := b) (by simp only [Value.ownBlock]; intro e; exact hbg (Option.some.inj e)) 0 (.int .i64 (place + 1))
  have hT1 := (HT.out.set_ne y3 (fun _ e => by cases e) (.int .i64 (count + 1))).set_ne (kB.set 3 (.int .i64 (count + 1))).c0 (fun _ e => by cases e) (.int .i64 (place + 1))
  have hK1 := ((Keep2.of E0 (b := b) (g := g)).setb 3 (.int .i64 (count + 1))).setb 0 (.int .i64 (place + 1))
  generalize World.setCell _ _ _ = W1 at kB1 kS1 hO1 hT1 hK1
  clear y0 y3 f0 f3 kB kS HO HT
  have HO := Lib.hid hO1
  have HT := Lib.hid hT1
  have HK := Lib.hid hK1
  clear hO1 hT1 hK1
  have x0 := kS1.c0
  have x1 := kS1.c1
  have x2 := kS1.c2
  have x3 := kS1.c3
  have y0 := kB1.c0
  have y1 := kB1.c1
  have y2 := kB1.c2
  have y3 := kB1.c3
  have f0 := kB1.fz 0
  obtain ⟨ad, hA, hc⟩ := HT.out 0 (by simp)
  subst hA
  have hc : W1.cell? ad = some (.string t0) := hc
  go_upto_region 9 with (fail)
  go_quiet (fail)
  go_wp2
  go_end0
  exact ⟨rfl, kB1.drewN _, HO.out.ext ((Ext.refl _).drewN _), HK.out.ext ((Ext.refl _).drewN _)⟩

set_option maxRecDepth 100000 in
set_option maxHeartbeats 4000000 in
theorem alone53_3 (ai : Nat) (hai : ai < 6) (bb : Int) (Tx : Option Addr) (nx cx : Nat) (ts : List ByteArray) (b g d base : Nat) (place count over : Int) (st : ByteArray) (vs : List ByteArray) (w : World) (hb : Blk w b 27 (runL place g d st count over)) (ho : Own w base (.slice (some ⟨g, 0, none⟩) 6 d) vs) (h6 : vs.length = 6) (hvs : ∀ x ∈ vs, (x.size : Int) ≤ 1000)
    (ht : Strs w Tx ts) (hl : ts.length = nx) (hnx : (nx : Int) ≤ 1000) (hts : ∀ x ∈ ts, (x.size : Int) ≤ 1000) (hp0 : 0 ≤ place) (hp1 : place ≤ 1000) (hc0 : 0 ≤ count) (hc1 : count ≤ 1000) (hbb : -10000 ≤ bb) (hbb2 : bb ≤ 10000) (hpos : 0 < nx) (hTg : ∀ ad, Tx = some ad → ad.block ≠ g) :
    Calls Tryz.prog 53 #[.pointer (some ⟨b, 0, none⟩), .agg #[.int .i64 3, .int .i64 (ai : Int), .int .i64 bb, .slice Tx nx cx]] w fun e w' => e = .returned (.tuple #[]) ∧ Blk w' b 27 (runL (place + 1) g d (st) (count + 1) over) ∧ Own w' base (.slice (some ⟨g, 0, none⟩) 6 d) (vs.set ai (fillS vs (headT ts))) ∧ Keep2 b g w w' := by
  have E0 := Ext.new w (.cells #[.int .i64 3, .int .i64 (ai : Int), .int .i64 bb, .slice Tx nx cx] 77)
  have kS := Blk.new w [.int .i64 3, .int .i64 (ai : Int), .int .i64 bb, .slice Tx nx cx] 77
  have kB := hb.ext E0
  have hO := ho.ext E0
  have hT := ht.ext E0
  have hbg := own_ne2 ho hb (by decide)
  have hlt := hb.lt
  have hgl : g < w.heap.size := (World.ownsRow.lt ho g rfl).2
  obtain ⟨S, hS⟩ : ∃ S, w.heap.size = S := ⟨_, rfl⟩
  have hbS : b ≠ S := by omega
  have nSb : S ≠ b := by omega
  have HV := Lib.hid hvs
  have HTS := Lib.hid hts
  have HL := Lib.hid hl
  have H6 := Lib.hid h6
  clear hb ho ht hvs hts hl h6
  obtain ⟨t0, rs, rfl⟩ : ∃ t0 rs, ts = t0 :: rs := by
    cases ts with
    | nil => have := HL.out; simp at this; omega
    | cons t l => exact ⟨t, l, rfl⟩
  go_enter Tryz.func53, Tryz.ntmps53
  go_upto_region 1 with (fail)
  rw [hS] at kS
  try simp only [hS]
  generalize World.alloc _ _ = W0 at E0 kS kB hO hT
  have y0 := kB.c0
  have y3 := kB.c3
  have f0 := kB.fz 0
  have f3 := kB.fz 3
  have HO := Lib.hid hO
  have HT := Lib.hid hT
  clear hO hT
  go_upto_region 3 with (fail)
  have kB1 : Blk _ b 27 (runL (place + 1) g d st (count + 1) over) := (kB.set 3 (.int .i64 (count + 1))).set 0 (.int .i64 (place + 1))
  have kS1 := (kS.other nSb 3 (.int .i64 (count + 1))).other nSb 0 (.int .i64 (place + 1))
  have hO1 := (HO.out.set (b := b) (by simp only [Value.ownBlock]; intro e; exact hbg (Option.some.inj e)) 3 (.int .i64 (count + 1))).set (b := b) (by simp only [Value.ownBlock]; intro e; exact hbg (Option.some.inj e)) 0 (.int .i64 (place + 1))
  have hT1 := (HT.out.set_ne y3 (fun _ e => by cases e) (.int .i64 (count + 1))).set_ne (kB.set 3 (.int .i64 (count + 1))).c0 (fun _ e => by cases e) (.int .i64 (place + 1))
  have hK1 := ((Keep2.of E0 (b := b) (g := g)).setb 3 (.int .i64 (count + 1))).setb 0 (.int .i64 (place + 1))
  generalize World.setCell _ _ _ = W1 at kB1 kS1 hO1 hT1 hK1
  clear y0 y3 f0 f3 kB kS HO HT
  have HO := Lib.hid hO1
  have HT := Lib.hid hT1
  have HK := Lib.hid hK1
  clear hO1 hT1 hK1
  have x0 := kS1.c0
  have x1 := kS1.c1
  have x2 := kS1.c2
  have x3 := kS1.c3
  have y0 := kB1.c0
  have y1 := kB1.c1
  have y2 := kB1.c2
  have y3 := kB1.c3
  have f0 := kB1.fz 0
  obtain ⟨ad, hA, hc⟩ := HT.out 0 (by simp)
  subst hA
  have hc : W1.cell? ad = some (.string t0) := hc
  have hf : ∀ W', Ext W1 W' → Calls Tryz.prog 54 #[.slice (some ⟨g, 0, none⟩) 6 d, .string t0] W' fun e Y => e = .returned (.string (fillS vs t0)) ∧ Ext W' Y := fun W' h => by
    obtain ⟨A, c, e, _, hs, _⟩ := (HO.out.ext h).open_
    simp only [Value.slice.injEq] at e
    rw [← e.1] at hs
    exact expanded54 _ d vs t0 W' hs H6.out HV.out (HTS.out t0 (by simp))
  have HF := Lib.hid hf
  clear hf
  have hai' : (ai : Int) < 6 := by omega
  have hai0 : (0 : Int) ≤ ai := by omega
  have nbg : b ≠ g := hbg
  have nSg : S ≠ g := by omega
  have ngb : g ≠ b := by omega
  have ngS : g ≠ S := by omega
  have nag := hTg ad rfl
  have nga : g ≠ ad.block := fun e => nag e.symm
  have h6a : ai < vs.length := by have := H6.out; omega
  have hca := HO.out.cellAt ai h6a
  go_upto_region 5 with (fail)
  go_region_held3 (fun w' => w'.cell? ⟨b, 1, none⟩ = some (.slice (some ⟨g, 0, none⟩) 6 d) ∧ w'.cell? ⟨S, 1, none⟩ = some (.int .i64 (ai : Int)) ∧ w'.cell? ⟨S, 3, none⟩ = some (.slice (some ad) nx cx) ∧ w'.cell? ad = some (.string t0)) (go_keep) (first | (go_at_call 54; refine (HF.out _ (by first | exact Ext.refl _ | exact Below.drew (Ext.refl _))).mono ?_; rintro e Y ⟨rfl, he⟩; have hw : Ext W1 Y := Ext.trans (by first | exact Ext.refl _ | exact Below.drew (Ext.refl _)) he; have KB4 := Lib.hid (kB1.ext hw); have m1 := (kB1.ext hw).c1; have HO4 := Lib.hid (HO.out.ext hw); have m2 := (kS1.ext hw).c1; have m3 := (kS1.ext hw).c3; have m4 := hw.cell hc; have m5 := hw.cell hca; have m0 := (kB1.ext hw).c0; have g0 := (kB1.ext hw).fz 0; have g5 := (HO.out.ext hw).fzAt ai; have m6 := (kS1.ext hw).c2; have HW := Lib.hid hw; clear he hw))
  have HBY := Lib.hid ((HK.out.ext HW.out).setg ai (.string (fillS vs t0)))
  go_wp2
  go_end0
  exact ⟨rfl, KB4.out.other hbg ai _, HO4.out.stored ai _, HBY.out⟩

set_option maxRecDepth 100000 in
set_option maxHeartbeats 4000000 in
theorem alone53_61 (ai : Nat) (hai : ai < 6) (bb : Int) (Tx : Option Addr) (nx cx : Nat) (ts : List ByteArray) (b g d base : Nat) (place count over : Int) (st : ByteArray) (vs : List ByteArray) (w : World) (hb : Blk w b 27 (runL place g d st count over)) (ho : Own w base (.slice (some ⟨g, 0, none⟩) 6 d) vs) (h6 : vs.length = 6) (hvs : ∀ x ∈ vs, (x.size : Int) ≤ 1000)
    (ht : Strs w Tx ts) (hl : ts.length = nx) (hnx : (nx : Int) ≤ 1000) (hts : ∀ x ∈ ts, (x.size : Int) ≤ 1000) (hp0 : 0 ≤ place) (hp1 : place ≤ 1000) (hc0 : 0 ≤ count) (hc1 : count ≤ 1000) (hbb : -10000 ≤ bb) (hbb2 : bb ≤ 10000) (hpos : 0 < nx) (hTg : ∀ ad, Tx = some ad → ad.block ≠ g) (hq : varAt vs (ai : Int) = fillS vs (headT ts)) :
    Calls Tryz.prog 53 #[.pointer (some ⟨b, 0, none⟩), .agg #[.int .i64 6, .int .i64 (ai : Int), .int .i64 bb, .slice Tx nx cx]] w fun e w' => e = .returned (.tuple #[]) ∧ Blk w' b 27 (runL (bb) g d (st) (count + 1) over) ∧ Own w' base (.slice (some ⟨g, 0, none⟩) 6 d) (vs) ∧ Keep2 b g w w' := by
  have E0 := Ext.new w (.cells #[.int .i64 6, .int .i64 (ai : Int), .int .i64 bb, .slice Tx nx cx] 77)
  have kS := Blk.new w [.int .i64 6, .int .i64 (ai : Int), .int .i64 bb, .slice Tx nx cx] 77
  have kB := hb.ext E0
  have hO := ho.ext E0
  have hT := ht.ext E0
  have hbg := own_ne2 ho hb (by decide)
  have hlt := hb.lt
  have hgl : g < w.heap.size := (World.ownsRow.lt ho g rfl).2
  obtain ⟨S, hS⟩ : ∃ S, w.heap.size = S := ⟨_, rfl⟩
  have hbS : b ≠ S := by omega
  have nSb : S ≠ b := by omega
  have HV := Lib.hid hvs
  have HTS := Lib.hid hts
  have HL := Lib.hid hl
  have H6 := Lib.hid h6
  clear hb ho ht hvs hts hl h6
  obtain ⟨t0, rs, rfl⟩ : ∃ t0 rs, ts = t0 :: rs := by
    cases ts with
    | nil => have := HL.out; simp at this; omega
    | cons t l => exact ⟨t, l, rfl⟩
  have hva : varAt vs (ai : Int) = vs[ai]'(by have := H6.out; omega) := by
    unfold varAt
    rw [List.getD_eq_getElem?_getD, Int.toNat_natCast, List.getElem?_eq_getElem (by have := H6.out; omega)]
    rfl
  rw [hva] at hq
  replace hq := str_eq hq
  replace hq : ((vs[ai]'(by have := H6.out; omega)).toList == (fillS vs t0).toList) = true := hq
  clear hva
  go_enter Tryz.func53, Tryz.ntmps53
  go_upto_region 1 with (fail)
  rw [hS] at kS
  try simp only [hS]
  generalize World.alloc _ _ = W0 at E0 kS kB hO hT
  have y0 := kB.c0
  have y3 := kB.c3
  have f0 := kB.fz 0
  have f3 := kB.fz 3
  have HO := Lib.hid hO
  have HT := Lib.hid hT
  clear hO hT
  go_upto_region 3 with (fail)
  have kB1 : Blk _ b 27 (runL (place + 1) g d st (count + 1) over) := (kB.set 3 (.int .i64 (count + 1))).set 0 (.int .i64 (place + 1))
  have kS1 := (kS.other nSb 3 (.int .i64 (count + 1))).other nSb 0 (.int .i64 (place + 1))
  have hO1 := (HO.out.set (b := b) (by simp only [Value.ownBlock]; intro e; exact hbg (Option.some.inj e)) 3 (.int .i64 (count + 1))).set (b := b) (by simp only [Value.ownBlock]; intro e; exact hbg (Option.some.inj e)) 0 (.int .i64 (place + 1))
  have hT1 := (HT.out.set_ne y3 (fun _ e => by cases e) (.int .i64 (count + 1))).set_ne (kB.set 3 (.int .i64 (count + 1))).c0 (fun _ e => by cases e) (.int .i64 (place + 1))
  have hK1 := ((Keep2.of E0 (b := b) (g := g)).setb 3 (.int .i64 (count + 1))).setb 0 (.int .i64 (place + 1))
  generalize World.setCell _ _ _ = W1 at kB1 kS1 hO1 hT1 hK1
  clear y0 y3 f0 f3 kB kS HO HT
  have HO := Lib.hid hO1
  have HT := Lib.hid hT1
  have HK := Lib.hid hK1
  clear hO1 hT1 hK1
  have x0 := kS1.c0
  have x1 := kS1.c1
  have x2 := kS1.c2
  have x3 := kS1.c3
  have y0 := kB1.c0
  have y1 := kB1.c1
  have y2 := kB1.c2
  have y3 := kB1.c3
  have f0 := kB1.fz 0
  obtain ⟨ad, hA, hc⟩ := HT.out 0 (by simp)
  subst hA
  have hc : W1.cell? ad = some (.string t0) := hc
  have hf : ∀ W', Ext W1 W' → Calls Tryz.prog 54 #[.slice (some ⟨g, 0, none⟩) 6 d, .string t0] W' fun e Y => e = .returned (.string (fillS vs t0)) ∧ Ext W' Y := fun W' h => by
    obtain ⟨A, c, e, _, hs, _⟩ := (HO.out.ext h).open_
    simp only [Value.slice.injEq] at e
    rw [← e.1] at hs
    exact expanded54 _ d vs t0 W' hs H6.out HV.out (HTS.out t0 (by simp))
  have HF := Lib.hid hf
  clear hf
  have hai' : (ai : Int) < 6 := by omega
  have hai0 : (0 : Int) ≤ ai := by omega
  have nbg : b ≠ g := hbg
  have nSg : S ≠ g := by omega
  have ngb : g ≠ b := by omega
  have ngS : g ≠ S := by omega
  have nag := hTg ad rfl
  have nga : g ≠ ad.block := fun e => nag e.symm
  have h6a : ai < vs.length := by have := H6.out; omega
  have hca := HO.out.cellAt ai h6a
  go_upto_region 12 with (fail)
  go_region_held3 (fun w' => w'.cell? ⟨b, 1, none⟩ = some (.slice (some ⟨g, 0, none⟩) 6 d) ∧ w'.cell? ⟨S, 1, none⟩ = some (.int .i64 (ai : Int)) ∧ w'.cell? ⟨S, 3, none⟩ = some (.slice (some ad) nx cx) ∧ w'.cell? ad = some (.string t0) ∧ w'.cell? ⟨g, ai, none⟩ = some (.string vs[ai])) (go_keep) (first | (go_at_call 54; refine (HF.out _ (by first | exact Ext.refl _ | exact Below.drew (Ext.refl _))).mono ?_; rintro e Y ⟨rfl, he⟩; have hw : Ext W1 Y := Ext.trans (by first | exact Ext.refl _ | exact Below.drew (Ext.refl _)) he; have KB4 := Lib.hid (kB1.ext hw); have m1 := (kB1.ext hw).c1; have HO4 := Lib.hid (HO.out.ext hw); have m2 := (kS1.ext hw).c1; have m3 := (kS1.ext hw).c3; have m4 := hw.cell hc; have m5 := hw.cell hca; have m8 := hw.cell hca; have m0 := (kB1.ext hw).c0; have g0 := (kB1.ext hw).fz 0; have g5 := (HO.out.ext hw).fzAt ai; have m6 := (kS1.ext hw).c2; have HW := Lib.hid hw; clear he hw))
  have HBY := Lib.hid (HK.out.ext HW.out)
  go_wp2
  go_end0
  exact ⟨rfl, KB4.out.set 0 _, HO4.out.set (b := b) (by simp only [Value.ownBlock]; intro e; exact hbg (Option.some.inj e)) 0 _, HBY.out.setb 0 _⟩

set_option maxRecDepth 100000 in
set_option maxHeartbeats 4000000 in
theorem alone53_60 (ai : Nat) (hai : ai < 6) (bb : Int) (Tx : Option Addr) (nx cx : Nat) (ts : List ByteArray) (b g d base : Nat) (place count over : Int) (st : ByteArray) (vs : List ByteArray) (w : World) (hb : Blk w b 27 (runL place g d st count over)) (ho : Own w base (.slice (some ⟨g, 0, none⟩) 6 d) vs) (h6 : vs.length = 6) (hvs : ∀ x ∈ vs, (x.size : Int) ≤ 1000)
    (ht : Strs w Tx ts) (hl : ts.length = nx) (hnx : (nx : Int) ≤ 1000) (hts : ∀ x ∈ ts, (x.size : Int) ≤ 1000) (hp0 : 0 ≤ place) (hp1 : place ≤ 1000) (hc0 : 0 ≤ count) (hc1 : count ≤ 1000) (hbb : -10000 ≤ bb) (hbb2 : bb ≤ 10000) (hpos : 0 < nx) (hTg : ∀ ad, Tx = some ad → ad.block ≠ g) (hq : ¬ varAt vs (ai : Int) = fillS vs (headT ts)) :
    Calls Tryz.prog 53 #[.pointer (some ⟨b, 0, none⟩), .agg #[.int .i64 6, .int .i64 (ai : Int), .int .i64 bb, .slice Tx nx cx]] w fun e w' => e = .returned (.tuple #[]) ∧ Blk w' b 27 (runL (place + 1) g d (st) (count + 1) over) ∧ Own w' base (.slice (some ⟨g, 0, none⟩) 6 d) (vs) ∧ Keep2 b g w w' := by
  have E0 := Ext.new w (.cells #[.int .i64 6, .int .i64 (ai : Int), .int .i64 bb, .slice Tx nx cx] 77)
  have kS := Blk.new w [.int .i64 6, .int .i64 (ai : Int), .int .i64 bb, .slice Tx nx cx] 77
  have kB := hb.ext E0
  have hO := ho.ext E0
  have hT := ht.ext E0
  have hbg := own_ne2 ho hb (by decide)
  have hlt := hb.lt
  have hgl : g < w.heap.size := (World.ownsRow.lt ho g rfl).2
  obtain ⟨S, hS⟩ : ∃ S, w.heap.size = S := ⟨_, rfl⟩
  have hbS : b ≠ S := by omega
  have nSb : S ≠ b := by omega
  have HV := Lib.hid hvs
  have HTS := Lib.hid hts
  have HL := Lib.hid hl
  have H6 := Lib.hid h6
  clear hb ho ht hvs hts hl h6
  obtain ⟨t0, rs, rfl⟩ : ∃ t0 rs, ts = t0 :: rs := by
    cases ts with
    | nil => have := HL.out; simp at this; omega
    | cons t l => exact ⟨t, l, rfl⟩
  have hva : varAt vs (ai : Int) = vs[ai]'(by have := H6.out; omega) := by
    unfold varAt
    rw [List.getD_eq_getElem?_getD, Int.toNat_natCast, List.getElem?_eq_getElem (by have := H6.out; omega)]
    rfl
  rw [hva] at hq
  replace hq := str_ne hq
  replace hq : ((vs[ai]'(by have := H6.out; omega)).toList == (fillS vs t0).toList) = false := hq
  clear hva
  go_enter Tryz.func53, Tryz.ntmps53
  go_upto_region 1 with (fail)
  rw [hS] at kS
  try simp only [hS]
  generalize World.alloc _ _ = W0 at E0 kS kB hO hT
  have y0 := kB.c0
  have y3 := kB.c3
  have f0 := kB.fz 0
  have f3 := kB.fz 3
  have HO := Lib.hid hO
  have HT := Lib.hid hT
  clear hO hT
  go_upto_region 3 with (fail)
  have kB1 : Blk _ b 27 (runL (place + 1) g d st (count + 1) over) := (kB.set 3 (.int .i64 (count + 1))).set 0 (.int .i64 (place + 1))
  have kS1 := (kS.other nSb 3 (.int .i64 (count + 1))).other nSb 0 (.int .i64 (place + 1))
  have hO1 := (HO.out.set (b := b) (by simp only [Value.ownBlock]; intro e; exact hbg (Option.some.inj e)) 3 (.int .i64 (count + 1))).set (b := b) (by simp only [Value.ownBlock]; intro e; exact hbg (Option.some.inj e)) 0 (.int .i64 (place + 1))
  have hT1 := (HT.out.set_ne y3 (fun _ e => by cases e) (.int .i64 (count + 1))).set_ne (kB.set 3 (.int .i64 (count + 1))).c0 (fun _ e => by cases e) (.int .i64 (place + 1))
  have hK1 := ((Keep2.of E0 (b := b) (g := g)).setb 3 (.int .i64 (count + 1))).setb 0 (.int .i64 (place + 1))
  generalize World.setCell _ _ _ = W1 at kB1 kS1 hO1 hT1 hK1
  clear y0 y3 f0 f3 kB kS HO HT
  have HO := Lib.hid hO1
  have HT := Lib.hid hT1
  have HK := Lib.hid hK1
  clear hO1 hT1 hK1
  have x0 := kS1.c0
  have x1 := kS1.c1
  have x2 := kS1.c2
  have x3 := kS1.c3
  have y0 := kB1.c0
  have y1 := kB1.c1
  have y2 := kB1.c2
  have y3 := kB1.c3
  have f0 := kB1.fz 0
  obtain ⟨ad, hA, hc⟩ := HT.out 0 (by simp)
  subst hA
  have hc : W1.cell? ad = some (.string t0) := hc
  have hf : ∀ W', Ext W1 W' → Calls Tryz.prog 54 #[.slice (some ⟨g, 0, none⟩) 6 d, .string t0] W' fun e Y => e = .returned (.string (fillS vs t0)) ∧ Ext W' Y := fun W' h => by
    obtain ⟨A, c, e, _, hs, _⟩ := (HO.out.ext h).open_
    simp only [Value.slice.injEq] at e
    rw [← e.1] at hs
    exact expanded54 _ d vs t0 W' hs H6.out HV.out (HTS.out t0 (by simp))
  have HF := Lib.hid hf
  clear hf
  have hai' : (ai : Int) < 6 := by omega
  have hai0 : (0 : Int) ≤ ai := by omega
  have nbg : b ≠ g := hbg
  have nSg : S ≠ g := by omega
  have ngb : g ≠ b := by omega
  have ngS : g ≠ S := by omega
  have nag := hTg ad rfl
  have nga : g ≠ ad.block := fun e => nag e.symm
  have h6a : ai < vs.length := by have := H6.out; omega
  have hca := HO.out.cellAt ai h6a
  go_upto_region 12 with (fail)
  go_region_held3 (fun w' => w'.cell? ⟨b, 1, none⟩ = some (.slice (some ⟨g, 0, none⟩) 6 d) ∧ w'.cell? ⟨S, 1, none⟩ = some (.int .i64 (ai : Int)) ∧ w'.cell? ⟨S, 3, none⟩ = some (.slice (some ad) nx cx) ∧ w'.cell? ad = some (.string t0) ∧ w'.cell? ⟨g, ai, none⟩ = some (.string vs[ai])) (go_keep) (first | (go_at_call 54; refine (HF.out _ (by first | exact Ext.refl _ | exact Below.drew (Ext.refl _))).mono ?_; rintro e Y ⟨rfl, he⟩; have hw : Ext W1 Y := Ext.trans (by first | exact Ext.refl _ | exact Below.drew (Ext.refl _)) he; have KB4 := Lib.hid (kB1.ext hw); have m1 := (kB1.ext hw).c1; have HO4 := Lib.hid (HO.out.ext hw); have m2 := (kS1.ext hw).c1; have m3 := (kS1.ext hw).c3; have m4 := hw.cell hc; have m5 := hw.cell hca; have m8 := hw.cell hca; have m0 := (kB1.ext hw).c0; have g0 := (kB1.ext hw).fz 0; have g5 := (HO.out.ext hw).fzAt ai; have m6 := (kS1.ext hw).c2; have HW := Lib.hid hw; clear he hw))
  have HBY := Lib.hid (HK.out.ext HW.out)
  go_wp2
  go_end0
  exact ⟨rfl, KB4.out, HO4.out, HBY.out⟩

set_option maxRecDepth 100000 in
set_option maxHeartbeats 4000000 in
theorem alone53_4a (ai : Nat) (hai : ai < 6) (v er : Int) (bb : Int) (Tx : Option Addr) (nx cx : Nat) (ts : List ByteArray) (b g d base : Nat) (place count over : Int) (st : ByteArray) (vs : List ByteArray) (w : World) (hb : Blk w b 27 (runL place g d st count over)) (ho : Own w base (.slice (some ⟨g, 0, none⟩) 6 d) vs) (h6 : vs.length = 6) (hvs : ∀ x ∈ vs, (x.size : Int) ≤ 1000)
    (ht : Strs w Tx ts) (hl : ts.length = nx) (hnx : (nx : Int) ≤ 1000) (hts : ∀ x ∈ ts, (x.size : Int) ≤ 1000) (hp0 : 0 ≤ place) (hp1 : place ≤ 1000) (hc0 : 0 ≤ count) (hc1 : count ≤ 1000) (hbb : -10000 ≤ bb) (hbb2 : bb ≤ 10000) (hfd : fdS (varAt vs (ai : Int)) = (v, er)) (her : ¬ er = 0) :
    Calls Tryz.prog 53 #[.pointer (some ⟨b, 0, none⟩), .agg #[.int .i64 4, .int .i64 (ai : Int), .int .i64 bb, .slice Tx nx cx]] w fun e w' => e = .returned (.tuple #[]) ∧ Blk w' b 27 (runL (place + 1) g d (ndS) (count + 1) over) ∧ Own w' base (.slice (some ⟨g, 0, none⟩) 6 d) (vs) ∧ Keep2 b g w w' := by
  have E0 := Ext.new w (.cells #[.int .i64 4, .int .i64 (ai : Int), .int .i64 bb, .slice Tx nx cx] 77)
  have kS := Blk.new w [.int .i64 4, .int .i64 (ai : Int), .int .i64 bb, .slice Tx nx cx] 77
  have kB := hb.ext E0
  have hO := ho.ext E0
  have hT := ht.ext E0
  have hbg := own_ne2 ho hb (by decide)
  have hlt := hb.lt
  have hgl : g < w.heap.size := (World.ownsRow.lt ho g rfl).2
  obtain ⟨S, hS⟩ : ∃ S, w.heap.size = S := ⟨_, rfl⟩
  have hbS : b ≠ S := by omega
  have nSb : S ≠ b := by omega
  have HV := Lib.hid hvs
  have HTS := Lib.hid hts
  have HL := Lib.hid hl
  have H6 := Lib.hid h6
  clear hb ho ht hvs hts hl h6
  go_enter Tryz.func53, Tryz.ntmps53
  go_upto_region 1 with (fail)
  rw [hS] at kS
  try simp only [hS]
  generalize World.alloc _ _ = W0 at E0 kS kB hO hT
  have y0 := kB.c0
  have y3 := kB.c3
  have f0 := kB.fz 0
  have f3 := kB.fz 3
  have HO := Lib.hid hO
  have HT := Lib.hid hT
  clear hO hT
  go_upto_region 3 with (fail)
  have kB1 : Blk _ b 27 (runL (place + 1) g d st (count + 1) over) := (kB.set 3 (.int .i64 (count + 1))).set 0 (.int .i64 (place + 1))
  have kS1 := (kS.other nSb 3 (.int .i64 (count + 1))).other nSb 0 (.int .i64 (place + 1))
  have hO1 := (HO.out.set (b := b) (by simp only [Value.ownBlock]; intro e; exact hbg (Option.some.inj e)) 3 (.int .i64 (count + 1))).set (b := b) (by simp only [Value.ownBlock]; intro e; exact hbg (Option.some.inj e)) 0 (.int .i64 (place + 1))
  have hT1 := (HT.out.set_ne y3 (fun _ e => by cases e) (.int .i64 (count + 1))).set_ne (kB.set 3 (.int .i64 (count + 1))).c0 (fun _ e => by cases e) (.int .i64 (place + 1))
  have hK1 := ((Keep2.of E0 (b := b) (g := g)).setb 3 (.int .i64 (count + 1))).setb 0 (.int .i64 (place + 1))
  generalize World.setCell _ _ _ = W1 at kB1 kS1 hO1 hT1 hK1
  clear y0 y3 f0 f3 kB kS HO HT
  have HO := Lib.hid hO1
  have HT := Lib.hid hT1
  have HK := Lib.hid hK1
  clear hO1 hT1 hK1
  have x0 := kS1.c0
  have x1 := kS1.c1
  have x2 := kS1.c2
  have x3 := kS1.c3
  have y0 := kB1.c0
  have y1 := kB1.c1
  have y2 := kB1.c2
  have y3 := kB1.c3
  have f0 := kB1.fz 0
  have HCA := Lib.hid (add83_a ai hai v er bb b g d base (place + 1) (count + 1) over st vs W1 kB1 HO.out H6.out HV.out hfd her)
  clear hfd her
  go_wp2_with fail
  refine HCA.out.mono ?_
  rintro e Y ⟨rfl, h1, h2, h3⟩
  have H1 := Lib.hid h1
  have H2 := Lib.hid h2
  have H3 := Lib.hid h3
  clear h1 h2 h3
  go_wp2_with fail
  go_end0
  exact ⟨rfl, H1.out, H2.out, HK.out.trans H3.out⟩

set_option maxRecDepth 100000 in
set_option maxHeartbeats 4000000 in
theorem alone53_4b (ai : Nat) (hai : ai < 6) (v e2 : Int) (yy : ByteArray) (bb : Int) (Tx : Option Addr) (nx cx : Nat) (ts : List ByteArray) (b g d base : Nat) (place count over : Int) (st : ByteArray) (vs : List ByteArray) (w : World) (hb : Blk w b 27 (runL place g d st count over)) (ho : Own w base (.slice (some ⟨g, 0, none⟩) 6 d) vs) (h6 : vs.length = 6) (hvs : ∀ x ∈ vs, (x.size : Int) ≤ 1000)
    (ht : Strs w Tx ts) (hl : ts.length = nx) (hnx : (nx : Int) ≤ 1000) (hts : ∀ x ∈ ts, (x.size : Int) ≤ 1000) (hp0 : 0 ≤ place) (hp1 : place ≤ 1000) (hc0 : 0 ≤ count) (hc1 : count ≤ 1000) (hbb : -10000 ≤ bb) (hbb2 : bb ≤ 10000) (hfd : fdS (varAt vs (ai : Int)) = (v, 0)) (hdg : digitsS (v + bb) ((varAt vs (ai : Int)).size : Int) = (yy, e2)) (he2 : ¬ e2 = 0) :
    Calls Tryz.prog 53 #[.pointer (some ⟨b, 0, none⟩), .agg #[.int .i64 4, .int .i64 (ai : Int), .int .i64 bb, .slice Tx nx cx]] w fun e w' => e = .returned (.tuple #[]) ∧ Blk w' b 27 (runL (place + 1) g d (ndS) (count + 1) over) ∧ Own w' base (.slice (some ⟨g, 0, none⟩) 6 d) (vs) ∧ Keep2 b g w w' := by
  have E0 := Ext.new w (.cells #[.int .i64 4, .int .i64 (ai : Int), .int .i64 bb, .slice Tx nx cx] 77)
  have kS := Blk.new w [.int .i64 4, .int .i64 (ai : Int), .int .i64 bb, .slice Tx nx cx] 77
  have kB := hb.ext E0
  have hO := ho.ext E0
  have hT := ht.ext E0
  have hbg := own_ne2 ho hb (by decide)
  have hlt := hb.lt
  have hgl : g < w.heap.size := (World.ownsRow.lt ho g rfl).2
  obtain ⟨S, hS⟩ : ∃ S, w.heap.size = S := ⟨_, rfl⟩
  have hbS : b ≠ S := by omega
  have nSb : S ≠ b := by omega
  have HV := Lib.hid hvs
  have HTS := Lib.hid hts
  have HL := Lib.hid hl
  have H6 := Lib.hid h6
  clear hb ho ht hvs hts hl h6
  go_enter Tryz.func53, Tryz.ntmps53
  go_upto_region 1 with (fail)
  rw [hS] at kS
  try simp only [hS]
  generalize World.alloc _ _ = W0 at E0 kS kB hO hT
  have y0 := kB.c0
  have y3 := kB.c3
  have f0 := kB.fz 0
  have f3 := kB.fz 3
  have HO := Lib.hid hO
  have HT := Lib.hid hT
  clear hO hT
  go_upto_region 3 with (fail)
  have kB1 : Blk _ b 27 (runL (place + 1) g d st (count + 1) over) := (kB.set 3 (.int .i64 (count + 1))).set 0 (.int .i64 (place + 1))
  have kS1 := (kS.other nSb 3 (.int .i64 (count + 1))).other nSb 0 (.int .i64 (place + 1))
  have hO1 := (HO.out.set (b := b) (by simp only [Value.ownBlock]; intro e; exact hbg (Option.some.inj e)) 3 (.int .i64 (count + 1))).set (b := b) (by simp only [Value.ownBlock]; intro e; exact hbg (Option.some.inj e)) 0 (.int .i64 (place + 1))
  have hT1 := (HT.out.set_ne y3 (fun _ e => by cases e) (.int .i64 (count + 1))).set_ne (kB.set 3 (.int .i64 (count + 1))).c0 (fun _ e => by cases e) (.int .i64 (place + 1))
  have hK1 := ((Keep2.of E0 (b := b) (g := g)).setb 3 (.int .i64 (count + 1))).setb 0 (.int .i64 (place + 1))
  generalize World.setCell _ _ _ = W1 at kB1 kS1 hO1 hT1 hK1
  clear y0 y3 f0 f3 kB kS HO HT
  have HO := Lib.hid hO1
  have HT := Lib.hid hT1
  have HK := Lib.hid hK1
  clear hO1 hT1 hK1
  have x0 := kS1.c0
  have x1 := kS1.c1
  have x2 := kS1.c2
  have x3 := kS1.c3
  have y0 := kB1.c0
  have y1 := kB1.c1
  have y2 := kB1.c2
  have y3 := kB1.c3
  have f0 := kB1.fz 0
  have HCA := Lib.hid (add83_b ai hai v e2 bb yy b g d base (place + 1) (count + 1) over st vs W1 kB1 HO.out H6.out HV.out hbb hbb2 hfd hdg he2)
  clear hfd hdg he2
  go_wp2_with fail
  refine HCA.out.mono ?_
  rintro e Y ⟨rfl, h1, h2, h3⟩
  have H1 := Lib.hid h1
  have H2 := Lib.hid h2
  have H3 := Lib.hid h3
  clear h1 h2 h3
  go_wp2_with fail
  go_end0
  exact ⟨rfl, H1.out, H2.out, HK.out.trans H3.out⟩

set_option maxRecDepth 100000 in
set_option maxHeartbeats 4000000 in
theorem alone53_4c (ai : Nat) (hai : ai < 6) (v : Int) (yy : ByteArray) (bb : Int) (Tx : Option Addr) (nx cx : Nat) (ts : List ByteArray) (b g d base : Nat) (place count over : Int) (st : ByteArray) (vs : List ByteArray) (w : World) (hb : Blk w b 27 (runL place g d st count over)) (ho : Own w base (.slice (some ⟨g, 0, none⟩) 6 d) vs) (h6 : vs.length = 6) (hvs : ∀ x ∈ vs, (x.size : Int) ≤ 1000)
    (ht : Strs w Tx ts) (hl : ts.length = nx) (hnx : (nx : Int) ≤ 1000) (hts : ∀ x ∈ ts, (x.size : Int) ≤ 1000) (hp0 : 0 ≤ place) (hp1 : place ≤ 1000) (hc0 : 0 ≤ count) (hc1 : count ≤ 1000) (hbb : -10000 ≤ bb) (hbb2 : bb ≤ 10000) (hfd : fdS (varAt vs (ai : Int)) = (v, 0)) (hdg : digitsS (v + bb) ((varAt vs (ai : Int)).size : Int) = (yy, 0)) :
    Calls Tryz.prog 53 #[.pointer (some ⟨b, 0, none⟩), .agg #[.int .i64 4, .int .i64 (ai : Int), .int .i64 bb, .slice Tx nx cx]] w fun e w' => e = .returned (.tuple #[]) ∧ Blk w' b 27 (runL (place + 1) g d (blankS) (count + 1) over) ∧ Own w' base (.slice (some ⟨g, 0, none⟩) 6 d) (vs.set ai yy) ∧ Keep2 b g w w' := by
  have E0 := Ext.new w (.cells #[.int .i64 4, .int .i64 (ai : Int), .int .i64 bb, .slice Tx nx cx] 77)
  have kS := Blk.new w [.int .i64 4, .int .i64 (ai : Int), .int .i64 bb, .slice Tx nx cx] 77
  have kB := hb.ext E0
  have hO := ho.ext E0
  have hT := ht.ext E0
  have hbg := own_ne2 ho hb (by decide)
  have hlt := hb.lt
  have hgl : g < w.heap.size := (World.ownsRow.lt ho g rfl).2
  obtain ⟨S, hS⟩ : ∃ S, w.heap.size = S := ⟨_, rfl⟩
  have hbS : b ≠ S := by omega
  have nSb : S ≠ b := by omega
  have HV := Lib.hid hvs
  have HTS := Lib.hid hts
  have HL := Lib.hid hl
  have H6 := Lib.hid h6
  clear hb ho ht hvs hts hl h6
  go_enter Tryz.func53, Tryz.ntmps53
  go_upto_region 1 with (fail)
  rw [hS] at kS
  try simp only [hS]
  generalize World.alloc _ _ = W0 at E0 kS kB hO hT
  have y0 := kB.c0
  have y3 := kB.c3
  have f0 := kB.fz 0
  have f3 := kB.fz 3
  have HO := Lib.hid hO
  have HT := Lib.hid hT
  clear hO hT
  go_upto_region 3 with (fail)
  have kB1 : Blk _ b 27 (runL (place + 1) g d st (count + 1) over) := (kB.set 3 (.int .i64 (count + 1))).set 0 (.int .i64 (place + 1))
  have kS1 := (kS.other nSb 3 (.int .i64 (count + 1))).other nSb 0 (.int .i64 (place + 1))
  have hO1 := (HO.out.set (b := b) (by simp only [Value.ownBlock]; intro e; exact hbg (Option.some.inj e)) 3 (.int .i64 (count + 1))).set (b := b) (by simp only [Value.ownBlock]; intro e; exact hbg (Option.some.inj e)) 0 (.int .i64 (place + 1))
  have hT1 := (HT.out.set_ne y3 (fun _ e => by cases e) (.int .i64 (count + 1))).set_ne (kB.set 3 (.int .i64 (count + 1))).c0 (fun _ e => by cases e) (.int .i64 (place + 1))
  have hK1 := ((Keep2.of E0 (b := b) (g := g)).setb 3 (.int .i64 (count + 1))).setb 0 (.int .i64 (place + 1))
  generalize World.setCell _ _ _ = W1 at kB1 kS1 hO1 hT1 hK1
  clear y0 y3 f0 f3 kB kS HO HT
  have HO := Lib.hid hO1
  have HT := Lib.hid hT1
  have HK := Lib.hid hK1
  clear hO1 hT1 hK1
  have x0 := kS1.c0
  have x1 := kS1.c1
  have x2 := kS1.c2
  have x3 := kS1.c3
  have y0 := kB1.c0
  have y1 := kB1.c1
  have y2 := kB1.c2
  have y3 := kB1.c3
  have f0 := kB1.fz 0
  have HCA := Lib.hid (add83_c ai hai v bb yy b g d base (place + 1) (count + 1) over st vs W1 kB1 HO.out H6.out HV.out hbb hbb2 hfd hdg)
  clear hfd hdg
  go_wp2_with fail
  refine HCA.out.mono ?_
  rintro e Y ⟨rfl, h1, h2, h3⟩
  have H1 := Lib.hid h1
  have H2 := Lib.hid h2
  have H3 := Lib.hid h3
  clear h1 h2 h3
  go_wp2_with fail
  go_end0
  exact ⟨rfl, H1.out, H2.out, HK.out.trans H3.out⟩

set_option maxRecDepth 100000 in
theorem alone53 (s : Step) (many : Nat) (hs : StepOk s many) (hm : (many : Int) ≤ 1000) (Tx : Option Addr) (nx cx b g d base : Nat) (r q : RunS) (w : World) (ht : Strs w Tx s.texts) (hl : s.texts.length = nx) (hTg : 0 < nx → ∀ ad, Tx = some ad → ad.block ≠ g)
    (hb : Blk w b 27 (runL r.place g d r.status r.count r.over)) (ho : Own w base (.slice (some ⟨g, 0, none⟩) 6 d) r.vars) (hr : RunOk many r) (hp : r.place < many) (hc : r.count < 200) (ha : aloneS s r = some q) :
    Calls Tryz.prog 53 #[.pointer (some ⟨b, 0, none⟩), .agg #[.int .i64 s.op, .int .i64 s.a, .int .i64 s.b, .slice Tx nx cx]] w fun e w' => e = .returned (.tuple #[]) ∧
      Blk w' b 27 (runL q.place g d q.status q.count q.over) ∧ Own w' base (.slice (some ⟨g, 0, none⟩) 6 d) q.vars ∧ Keep2 b g w w' := by
  obtain ⟨b1, b2⟩ := isM_bd hs.b (by omega)
  have hts : ∀ x ∈ s.texts, (x.size : Int) ≤ 1000 := fun x hx => by have := hs.size x hx; omega
  have hvs : ∀ x ∈ r.vars, (x.size : Int) ≤ 1000 := fun x hx => by have := hr.each x hx; omega
  have h0 := hr.p0
  have c0 := hr.c0
  obtain ⟨op, a, bb, ts⟩ := s
  have hv := hs.verb
  have hA := hs.a
  have hF := hs.few
  have hAl := hs.all
  simp only at *
  have hnx : (nx : Int) ≤ 1000 := by
    have h2 : (verbS op).1.all ≤ 7 := by
      rcases verb_cases hv with e | e | e | e | e | e | e | e | e | e | e | e | e <;> rw [e] <;> decide
    omega
  have hai : (verbS op).1.a = 118 → ∃ ai : Nat, a = ai ∧ ai < 6 := by
    intro e
    rw [e] at hA
    simp [isM] at hA
    exact ⟨a.toNat, by omega, by omega⟩
  have oth : op ≠ 3 → op ≠ 4 → op ≠ 5 → op ≠ 6 → op ≠ 7 → False := by
    intro n3 n4 n5 n6 n7
    have e : aloneS ⟨op, a, bb, ts⟩ r = none := by unfold aloneS; simp only [if_neg n3, if_neg n4, if_neg n5, if_neg n6, if_neg n7]
    rw [e] at ha
    cases ha
  rcases verb_cases hv with rfl | rfl | rfl | rfl | rfl | rfl | rfl | rfl | rfl | rfl | rfl | rfl | rfl
  · exact (oth (by decide) (by decide) (by decide) (by decide) (by decide)).elim
  · exact (oth (by decide) (by decide) (by decide) (by decide) (by decide)).elim
  · obtain ⟨ai, rfl, h6⟩ := hai rfl
    have hF : (1 : Int) ≤ ts.length := hF
    cases ha
    exact alone53_3 ai h6 bb Tx nx cx ts b g d base r.place r.count r.over r.status r.vars w hb ho hr.six hvs ht hl hnx hts h0 (by omega) c0 (by omega) (by omega) (by omega) (by omega) (hTg (by omega))
  · obtain ⟨ai, rfl, h6⟩ := hai rfl
    obtain ⟨v, er, hfd⟩ : ∃ v er, fdS (varAt r.vars (ai : Int)) = (v, er) := ⟨_, _, rfl⟩
    have e : aloneS ⟨4, (ai : Int), bb, ts⟩ r = some ⟨r.place + 1, addVars r (ai : Int) bb, addStatus r (ai : Int) bb, r.count + 1, r.over⟩ := rfl
    rw [e] at ha
    cases ha
    by_cases her : er = 0
    · subst her
      obtain ⟨yy, e2, hdg⟩ : ∃ yy e2, digitsS (v + bb) ((varAt r.vars (ai : Int)).size : Int) = (yy, e2) := ⟨_, _, rfl⟩
      by_cases he2 : e2 = 0
      · subst he2
        have hsum : sumS (varAt r.vars (ai : Int)) bb = some yy := by unfold sumS; rw [hfd]; simp only []; rw [hdg, if_pos ⟨trivial, rfl⟩]
        have h1 : addVars r (ai : Int) bb = r.vars.set ai yy := by unfold addVars; rw [hsum]; rfl
        have h2 : addStatus r (ai : Int) bb = blankS := by unfold addStatus; rw [hsum]
        rw [h1, h2]
        exact alone53_4c ai h6 v yy bb Tx nx cx ts b g d base r.place r.count r.over r.status r.vars w hb ho hr.six hvs ht hl hnx hts h0 (by omega) c0 (by omega) (by omega) (by omega) hfd hdg
      · have hsum : sumS (varAt r.vars (ai : Int)) bb = none := by unfold sumS; rw [hfd]; simp only []; rw [hdg, if_neg (fun h => he2 h.2)]
        have h1 : addVars r (ai : Int) bb = r.vars := by unfold addVars; rw [hsum]
        have h2 : addStatus r (ai : Int) bb = ndS := by unfold addStatus; rw [hsum]
        rw [h1, h2]
        exact alone53_4b ai h6 v e2 yy bb Tx nx cx ts b g d base r.place r.count r.over r.status r.vars w hb ho hr.six hvs ht hl hnx hts h0 (by omega) c0 (by omega) (by omega) (by omega) hfd hdg he2
    · have hsum : sumS (varAt r.vars (ai : Int)) bb = none := by unfold sumS; rw [hfd, if_neg (fun h => her h.1)]
      have h1 : addVars r (ai : Int) bb = r.vars := by unfold addVars; rw [hsum]
      have h2 : addStatus r (ai : Int) bb = ndS := by unfold addStatus; rw [hsum]
      rw [h1, h2]
      exact alone53_4a ai h6 v er bb Tx nx cx ts b g d base r.place r.count r.over r.status r.vars w hb ho hr.six hvs ht hl hnx hts h0 (by omega) c0 (by omega) (by omega) (by omega) hfd her
  · have hF : (1 : Int) ≤ ts.length := hF
    have e : aloneS ⟨5, a, bb, ts⟩ r = some ⟨if r.status = headT ts then bb else r.place + 1, r.vars, r.status, r.count + 1, r.over⟩ := rfl
    rw [e] at ha
    cases ha
    by_cases hq : r.status = headT ts
    · rw [if_pos hq]
      exact alone53_51 a bb Tx nx cx ts b g d base r.place r.count r.over r.status r.vars w hb ho hr.six hvs ht hl hnx hts h0 (by omega) c0 (by omega) (by omega) (by omega) (by omega) hq
    · rw [if_neg hq]
      exact alone53_50 a bb Tx nx cx ts b g d base r.place r.count r.over r.status r.vars w hb ho hr.six hvs ht hl hnx hts h0 (by omega) c0 (by omega) (by omega) (by omega) (by omega) hq
  · obtain ⟨ai, rfl, h6⟩ := hai rfl
    have hF : (1 : Int) ≤ ts.length := hF
    have e : aloneS ⟨6, (ai : Int), bb, ts⟩ r = some ⟨if varAt r.vars (ai : Int) = fillS r.vars (headT ts) then bb else r.place + 1, r.vars, r.status, r.count + 1, r.over⟩ := rfl
    rw [e] at ha
    cases ha
    by_cases hq : varAt r.vars (ai : Int) = fillS r.vars (headT ts)
    · rw [if_pos hq]
      exact alone53_61 ai h6 bb Tx nx cx ts b g d base r.place r.count r.over r.status r.vars w hb ho hr.six hvs ht hl hnx hts h0 (by omega) c0 (by omega) (by omega) (by omega) (by omega) (hTg (by omega)) hq
    · rw [if_neg hq]
      exact alone53_60 ai h6 bb Tx nx cx ts b g d base r.place r.count r.over r.status r.vars w hb ho hr.six hvs ht hl hnx hts h0 (by omega) c0 (by omega) (by omega) (by omega) (by omega) (hTg (by omega)) hq
  · cases ha
    exact alone53_7 a bb Tx nx cx ts b g d base r.place r.count r.over r.status r.vars w hb ho hr.six hvs ht hl hnx hts h0 (by omega) c0 (by omega) (by omega) (by omega)
  all_goals exact (oth (by decide) (by decide) (by decide) (by decide) (by decide)).elim

end Go.Proofs.YtkdbajpdcadliaaGreatDoor.Pg

