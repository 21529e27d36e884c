/- Walks: step of the reference: what a line says. -/
import Derived.Test.YtkdbajpdcadliaaGreatDoorPq
import Derived.Test.YtkdbajpdcadliaaGreatDoorYg
import Derived.Test.YtkdbajpdcadliaaGreatDoorYa
import Derived.Deep.RegionLaw
set_option linter.unusedVariables false
namespace Go.Proofs.YtkdbajpdcadliaaGreatDoor.Pg
open Go.RowKit

theorem word99l (l : List UInt8) (w : World) (hs : (l.length : Int) ≤ 100000) :
    Calls Tryz.prog 99 #[.string (mkB l)] w fun e w' => e = .returned (.tuple #[.string (mkB (c1 l)), .string (mkB (c2 l))]) ∧ Ext w w' := by
  have := word99 (mkB l) w (by rw [mkB_size]; unfold maxLen; omega)
  unfold wordS at this
  rwa [mkB_toList] at this
theorem number100l (l : List UInt8) (w : World) (hs : (l.length : Int) ≤ 100000) :
    Calls Tryz.prog 100 #[.string (mkB l)] w fun e w' => e = .returned (.int .i64 (numR l)) ∧ Ext w w' :=
  number100 (mkB l) w (by rw [mkB_size]; unfold maxLen; omega)
theorem lit_yes {ub : ByteArray} {u v : List UInt8} (hu : mkB u = ub) (h : u = v) : (ub.toList == v) = true := by
  rw [← hu, ByteArray.toList_eq, mkB_toList, h]
  exact beq_self_eq_true v
theorem lit_no {ub : ByteArray} {u v : List UInt8} (hu : mkB u = ub) (h : u ≠ v) : (ub.toList == v) = false := by
  rw [← hu, ByteArray.toList_eq, mkB_toList]
  exact beq_eq_false_iff_ne.2 h
/-- What step hands back. -/
abbrev Post65 (st : Step) (w : World) : Ending → World → Prop := fun e w' => ∃ T c, e = .returned (.agg #[.int .i64 st.op, .int .i64 st.a, .int .i64 st.b, .slice T st.texts.length c]) ∧ st.texts.length ≤ c ∧ Own w' w.heap.size (.slice T st.texts.length c) st.texts ∧ Ext w w'
theorem fin65 (st : Step) (w Z : World) (T : Option Addr) (c : Nat) (tm : Array Value) (ds : List Deferred) (hd : ds = []) (ht : tm[2]? = some (.pointer (some ⟨w.heap.size, 0, none⟩)))
    (kR : Blk Z w.heap.size 77 [.int .i64 st.op, .int .i64 st.a, .int .i64 st.b, .slice T st.texts.length c]) (EW : Ext w Z) (hc : st.texts.length ≤ c) (HO : Own Z w.heap.size (.slice T st.texts.length c) st.texts) :
    bodyPost Tryz.prog Tryz.f65 (Post65 st w) Exit.ret ⟨tm, ds⟩ Z := by
  subst hd
  have xR0 := kR.c0
  have xR1 := kR.c1
  have xR2 := kR.c2
  have xR3 := kR.c3
  refine bodyPost_ret (v := .agg #[.int .i64 st.op, .int .i64 st.a, .int .i64 st.b, .slice T st.texts.length c]) (by simp [results, Tryz.results65, go_sem, ht, xR0, xR1, xR2, xR3]) rfl ?_
  exact ⟨T, c, rfl, hc, HO, EW⟩
/-- Its box takes a step without texts. -/
theorem put65 {w W : World} {v0 v1 v2 v3 : Value} {xs : List ByteArray} (kR : Blk W w.heap.size 77 [v0, v1, v2, v3]) (E : Ext w W) (op a b : Int) :
    Blk (put4 W w.heap.size (.int .i64 op) (.int .i64 a) (.int .i64 b) (.slice none 0 0)) w.heap.size 77 [.int .i64 op, .int .i64 a, .int .i64 b, .slice none 0 0] ∧ Ext w (put4 W w.heap.size (.int .i64 op) (.int .i64 a) (.int .i64 b) (.slice none 0 0)) ∧ Own (put4 W w.heap.size (.int .i64 op) (.int .i64 a) (.int .i64 b) (.slice none 0 0)) w.heap.size (.slice none 0 0) [] :=
  ⟨kR.put4 _ _ _ _, E.grown (grown_put4 _ _ _ _ _ _) (Nat.le_refl _), World.ownsRow_nil _ _ _ _⟩
/-- Its box takes a step with texts. -/
theorem put65t {w W : World} {v0 v1 v2 v3 : Value} {xs : List ByteArray} (hx : xs ≠ []) (hl : (xs.length : Int) ≤ 1000000) (kR : Blk W w.heap.size 77 [v0, v1, v2, v3]) (E : Ext w W) (op a b : Int) :
    Blk ((put4 W w.heap.size (.int .i64 op) (.int .i64 a) (.int .i64 b) (.slice (some ⟨W.heap.size, 0, none⟩) xs.length xs.length)).alloc (.cells (xs.map Value.string).toArray 9)) w.heap.size 77 [.int .i64 op, .int .i64 a, .int .i64 b, .slice (some ⟨W.heap.size, 0, none⟩) xs.length xs.length] ∧ Ext w ((put4 W w.heap.size (.int .i64 op) (.int .i64 a) (.int .i64 b) (.slice (some ⟨W.heap.size, 0, none⟩) xs.length xs.length)).alloc (.cells (xs.map Value.string).toArray 9)) ∧ Own ((put4 W w.heap.size (.int .i64 op) (.int .i64 a) (.int .i64 b) (.slice (some ⟨W.heap.size, 0, none⟩) xs.length xs.length)).alloc (.cells (xs.map Value.string).toArray 9)) w.heap.size (.slice (some ⟨W.heap.size, 0, none⟩) xs.length xs.length) xs := by
  have hlt := kR.lt
  have hg := grown_put4 W w.heap.size (.int .i64 op) (.int .i64 a) (.int .i64 b) (.slice (some ⟨W.heap.size, 0, none⟩) xs.length xs.length)
  have HO := Own.fresh (put4 W w.heap.size (.int .i64 op) (.int .i64 a) (.int .i64 b) (.slice (some ⟨W.heap.size, 0, none⟩) xs.length xs.length)) xs hx hl
  simp only [put4, Blk.size_set] at HO
  exact ⟨(kR.put4 _ _ _ _).ext (Ext.new _ _), Ext.trans (E.grown hg (Nat.le_refl _)) (Ext.new _ _), HO.base (by omega)⟩
theorem put65t1 {w W : World} {v0 v1 v2 v3 : Value} (x : ByteArray) (kR : Blk W w.heap.size 77 [v0, v1, v2, v3]) (E : Ext w W) (op a b : Int) :
    Blk ((put4 W w.heap.size (.int .i64 op) (.int .i64 a) (.int .i64 b) (.slice (some ⟨W.heap.size, 0, none⟩) 1 1)).alloc (.cells #[.string x] 9)) w.heap.size 77 [.int .i64 op, .int .i64 a, .int .i64 b, .slice (some ⟨W.heap.size, 0, none⟩) 1 1] ∧ Ext w ((put4 W w.heap.size (.int .i64 op) (.int .i64 a) (.int .i64 b) (.slice (some ⟨W.heap.size, 0, none⟩) 1 1)).alloc (.cells #[.string x] 9)) ∧ Own ((put4 W w.heap.size (.int .i64 op) (.int .i64 a) (.int .i64 b) (.slice (some ⟨W.heap.size, 0, none⟩) 1 1)).alloc (.cells #[.string x] 9)) w.heap.size (.slice (some ⟨W.heap.size, 0, none⟩) 1 1) [x] :=
  put65t (xs := [x]) (by simp) (by simp) kR E op a b
theorem put65t2 {w W : World} {v0 v1 v2 v3 : Value} (x y : ByteArray) (kR : Blk W w.heap.size 77 [v0, v1, v2, v3]) (E : Ext w W) (op a b : Int) :
    Blk ((put4 W w.heap.size (.int .i64 op) (.int .i64 a) (.int .i64 b) (.slice (some ⟨W.heap.size, 0, none⟩) 2 2)).alloc (.cells #[.string x, .string y] 9)) w.heap.size 77 [.int .i64 op, .int .i64 a, .int .i64 b, .slice (some ⟨W.heap.size, 0, none⟩) 2 2] ∧ Ext w ((put4 W w.heap.size (.int .i64 op) (.int .i64 a) (.int .i64 b) (.slice (some ⟨W.heap.size, 0, none⟩) 2 2)).alloc (.cells #[.string x, .string y] 9)) ∧ Own ((put4 W w.heap.size (.int .i64 op) (.int .i64 a) (.int .i64 b) (.slice (some ⟨W.heap.size, 0, none⟩) 2 2)).alloc (.cells #[.string x, .string y] 9)) w.heap.size (.slice (some ⟨W.heap.size, 0, none⟩) 2 2) [x, y] :=
  put65t (xs := [x, y]) (by simp) (by simp) kR E op a b
/-- Its box takes a step with texts that lie already. -/
theorem put65o {w Z : World} {b : Nat} {T : Option Addr} {n c : Nat} {v0 v1 v2 v3 : Value} {xs : List ByteArray} (kR : Blk Z w.heap.size 77 [v0, v1, v2, v3]) (E : Ext w Z) (ho : Own Z b (.slice T n c) xs) (hb : w.heap.size < b) (op a b1 : Int) :
    Blk (put4 Z w.heap.size (.int .i64 op) (.int .i64 a) (.int .i64 b1) (.slice T n c)) w.heap.size 77 [.int .i64 op, .int .i64 a, .int .i64 b1, .slice T n c] ∧ Ext w (put4 Z w.heap.size (.int .i64 op) (.int .i64 a) (.int .i64 b1) (.slice T n c)) ∧ Own (put4 Z w.heap.size (.int .i64 op) (.int .i64 a) (.int .i64 b1) (.slice T n c)) w.heap.size (.slice T n c) xs := by
  have hg := grown_put4 Z w.heap.size (.int .i64 op) (.int .i64 a) (.int .i64 b1) (.slice T n c)
  refine ⟨kR.put4 _ _ _ _, E.grown hg (Nat.le_refl _), (ho.base (by omega)).kept2 hg ?_⟩
  intro e
  have := (World.ownsRow.lt ho _ e).1
  omega

set_option maxRecDepth 100000 in
set_option maxHeartbeats 8000000 in
theorem step65 (s : ByteArray) (w : World) (hs : (s.size : Int) ≤ 100000) :
    Calls Tryz.prog 65 #[.string s] w (Post65 (stepR s.data.toList) w) := by
  obtain ⟨l, rfl⟩ : ∃ l, mkB l = s := ⟨s.data.toList, rfl⟩
  rw [mkB_toList]
  rw [mkB_size] at hs
  obtain ⟨u, hu⟩ : ∃ u, c1 l = u := ⟨_, rfl⟩
  obtain ⟨r, hr⟩ : ∃ r, c2 l = r := ⟨_, rfl⟩
  obtain ⟨f, hf⟩ : ∃ f, c1 r = f := ⟨_, rfl⟩
  obtain ⟨g, hgg⟩ : ∃ g, c2 r = g := ⟨_, rfl⟩
  obtain ⟨f2, hf2⟩ : ∃ f2, c1 g = f2 := ⟨_, rfl⟩
  obtain ⟨g2, hg2⟩ : ∃ g2, c2 g = g2 := ⟨_, rfl⟩
  have hrl : (r.length : Int) ≤ 100000 := by have := (cutB_len 32 l).2; rw [← hr]; unfold c2; omega
  have hgl : (g.length : Int) ≤ 100000 := by have := (cutB_len 32 r).2; rw [← hgg]; unfold c2; omega
  have hfl : (f.length : Int) ≤ 100000 := by have := (cutB_len 32 r).1; rw [← hf]; unfold c1; omega
  have hf2l : (f2.length : Int) ≤ 100000 := by have := (cutB_len 32 g).1; rw [← hf2]; unfold c1; omega
  have hg2l : (g2.length : Int) ≤ 100000 := by have := (cutB_len 32 g).2; rw [← hg2]; unfold c2; omega
  have hst : stepR l = stepQ (opOf u) r := by unfold stepR; rw [hu, hr]
  have W1 := Lib.hid (fun w => word99l l w hs)
  have W2 := Lib.hid (fun w => word99l r w hrl)
  have W3 := Lib.hid (fun w => word99l g w hgl)
  rw [hu, hr] at W1
  obtain ⟨ub, hub⟩ : ∃ x, mkB u = x := ⟨_, rfl⟩
  rw [hub] at W1
  rw [hf, hgg] at W2
  rw [hf2, hg2] at W3
  have NR := Lib.hid (fun w => number100l r w hrl)
  have NF := Lib.hid (fun w => number100l f w hfl)
  have NG := Lib.hid (fun w => number100l g w hgl)
  have NF2 := Lib.hid (fun w => number100l f2 w hf2l)
  have NG2 := Lib.hid (fun w => number100l g2 w hg2l)
  have hst1 : u = [82, 69, 65, 68] → stepR l = ⟨1, numR r, 0, []⟩ := by
    intro h
    subst hf2 hg2 hgg hf
    rw [hst, h]
    rfl
  have hst2 : u = [67, 65, 76, 76] → stepR l = ⟨2, numR f, numR g2, [mkB f2]⟩ := by
    intro h
    subst hf2 hg2 hgg hf
    rw [hst, h]
    rfl
  have hst3 : u = [83, 69, 84] → stepR l = ⟨3, numR f, 0, [mkB g]⟩ := by
    intro h
    subst hf2 hg2 hgg hf
    rw [hst, h]
    rfl
  have hst4 : u = [65, 68, 68] → stepR l = ⟨4, numR f, numR g, []⟩ := by
    intro h
    subst hf2 hg2 hgg hf
    rw [hst, h]
    rfl
  have hst6 : u = [83, 65, 77, 69] → stepR l = ⟨6, numR f, numR f2, [mkB g2]⟩ := by
    intro h
    subst hf2 hg2 hgg hf
    rw [hst, h]
    rfl
  have hst7 : u = [71, 79] → stepR l = ⟨7, 0, numR r, []⟩ := by
    intro h
    subst hf2 hg2 hgg hf
    rw [hst, h]
    rfl
  have hst8 : u = [83, 69, 78, 68] → stepR l = ⟨8, 0, 0, [mkB r]⟩ := by
    intro h
    subst hf2 hg2 hgg hf
    rw [hst, h]
    rfl
  have hst9 : u = [80, 65, 83, 83] → stepR l = ⟨9, 0, 0, [mkB f, mkB g]⟩ := by
    intro h
    subst hf2 hg2 hgg hf
    rw [hst, h]
    rfl
  have hst10 : u = [75, 69, 69, 80] → stepR l = ⟨10, 0, 0, [mkB r]⟩ := by
    intro h
    subst hf2 hg2 hgg hf
    rw [hst, h]
    rfl
  have hst11 : u = [66, 65, 67, 75] → stepR l = ⟨11, 0, 0, []⟩ := by
    intro h
    subst hf2 hg2 hgg hf
    rw [hst, h]
    rfl
  have hst12 : u = [70, 65, 73, 76] → stepR l = ⟨12, 0, 0, []⟩ := by
    intro h
    subst hf2 hg2 hgg hf
    rw [hst, h]
    rfl
  have hst13 : u = [69, 78, 68] → stepR l = ⟨13, 0, 0, []⟩ := by
    intro h
    subst hf2 hg2 hgg hf
    rw [hst, h]
    rfl
  have HST := Lib.hid hst
  clear hst hf hgg hf2 hg2 hu hr hs
  have E0 := Ext.new w (.cells #[.int .i64 0, .int .i64 0, .int .i64 0, .slice none 0 0] 77)
  have kR := Blk.new w [.int .i64 0, .int .i64 0, .int .i64 0, .slice none 0 0] 77
  go_enter Tryz.func65, Tryz.ntmps65
  go_upto_region 1 with (fail)
  generalize World.alloc _ _ = Wa at E0 kR
  go_wp2_with fail
  refine (W1.out _).mono ?_
  rintro e Wb ⟨rfl, he⟩
  replace kR := kR.ext he
  replace E0 := Ext.trans E0 he
  clear he
  go_wp2_with fail
  refine (W2.out _).mono ?_
  rintro e W ⟨rfl, he⟩
  replace kR := kR.ext he
  replace E0 := Ext.trans E0 he
  clear he W1 W2
  go_upto_region 4 with (fail)
  by_cases h1 : u = [82, 69, 65, 68]
  · have b1 := lit_yes hub h1
    go_wp2_with fail
    refine (NR.out _).mono ?_
    rintro e W9 ⟨rfl, he⟩
    replace kR := kR.ext he
    replace E0 := Ext.trans E0 he
    clear he
    have z0 := kR.fz 0
    have y0 := kR.c0
    have z1 := kR.fz 1
    have y1 := kR.c1
    have z2 := kR.fz 2
    have y2 := kR.c2
    have z3 := kR.fz 3
    have y3 := kR.c3
    have hlt := kR.lt
    go_wp2_with fail
    rw [hst1 h1]
    obtain ⟨k1, k2, k3⟩ := put65 (xs := []) kR E0 (1) (numR r) (0)
    simp only [put4] at k1 k2 k3
    generalize World.setCell _ _ _ = Z at k1 k2 k3 ⊢
    exact fin65 ⟨1, numR r, 0, []⟩ w Z none 0 _ _ rfl (by rfl) k1 k2 (Nat.le_refl _) k3
  have b1 := lit_no hub h1
  by_cases h2 : u = [67, 65, 76, 76]
  · have b2 := lit_yes hub h2
    go_wp2_with fail
    refine (W3.out _).mono ?_
    rintro e W9 ⟨rfl, he⟩
    replace kR := kR.ext he
    replace E0 := Ext.trans E0 he
    clear he
    go_wp2_with fail
    refine (NF.out _).mono ?_
    rintro e W9 ⟨rfl, he⟩
    replace kR := kR.ext he
    replace E0 := Ext.trans E0 he
    clear he
    go_wp2_with fail
    refine (NG2.out _).mono ?_
    rintro e W9 ⟨rfl, he⟩
    replace kR := kR.ext he
    replace E0 := Ext.trans E0 he
    clear he
    have z0 := kR.fz 0
    have y0 := kR.c0
    have z1 := kR.fz 1
    have y1 := kR.c1
    have z2 := kR.fz 2
    have y2 := kR.c2
    have z3 := kR.fz 3
    have y3 := kR.c3
    have hlt := kR.lt
    go_wp2_with fail
    rw [hst2 h2]
    obtain ⟨k1, k2, k3⟩ := put65t1 (mkB f2) kR E0 (2) (numR f) (numR g2)
    simp only [put4] at k1 k2 k3
    generalize World.alloc _ _ = Z at k1 k2 k3 ⊢
    exact fin65 ⟨2, numR f, numR g2, [mkB f2]⟩ w Z _ 1 _ _ rfl (by rfl) k1 k2 (Nat.le_refl _) k3
  have b2 := lit_no hub h2
  by_cases h3 : u = [83, 69, 84]
  · have b3 := lit_yes hub h3
    go_wp2_with fail
    refine (NF.out _).mono ?_
    rintro e W9 ⟨rfl, he⟩
    replace kR := kR.ext he
    replace E0 := Ext.trans E0 he
    clear he
    have z0 := kR.fz 0
    have y0 := kR.c0
    have z1 := kR.fz 1
    have y1 := kR.c1
    have z2 := kR.fz 2
    have y2 := kR.c2
    have z3 := kR.fz 3
    have y3 := kR.c3
    have hlt := kR.lt
    go_wp2_with fail
    rw [hst3 h3]
    obtain ⟨k1, k2, k3⟩ := put65t1 (mkB g) kR E0 (3) (numR f) (0)
    simp only [put4] at k1 k2 k3
    generalize World.alloc _ _ = Z at k1 k2 k3 ⊢
    exact fin65 ⟨3, numR f, 0, [mkB g]⟩ w Z _ 1 _ _ rfl (by rfl) k1 k2 (Nat.le_refl _) k3
  have b3 := lit_no hub h3
  by_cases h4 : u = [65, 68, 68]
  · have b4 := lit_yes hub h4
    go_wp2_with fail
    refine (NF.out _).mono ?_
    rintro e W9 ⟨rfl, he⟩
    replace kR := kR.ext he
    replace E0 := Ext.trans E0 he
    clear he
    go_wp2_with fail
    refine (NG.out _).mono ?_
    rintro e W9 ⟨rfl, he⟩
    replace kR := kR.ext he
    replace E0 := Ext.trans E0 he
    clear he
    have z0 := kR.fz 0
    have y0 := kR.c0
    have z1 := kR.fz 1
    have y1 := kR.c1
    have z2 := kR.fz 2
    have y2 := kR.c2
    have z3 := kR.fz 3
    have y3 := kR.c3
    have hlt := kR.lt
    go_wp2_with fail
    rw [hst4 h4]
    obtain ⟨k1, k2, k3⟩ := put65 (xs := []) kR E0 (4) (numR f) (numR g)
    simp only [put4] at k1 k2 k3
    generalize World.setCell _ _ _ = Z at k1 k2 k3 ⊢
    exact fin65 ⟨4, numR f, numR g, []⟩ w Z none 0 _ _ rfl (by rfl) k1 k2 (Nat.le_refl _) k3
  have b4 := lit_no hub h4
  by_cases h5 : u = [87, 72, 69, 78]
  · have b5 := lit_yes hub h5
    by_cases h3l : 3 < r.length
    · have hst5 : stepR l = ⟨5, 0, numR (r.drop 3), [mkB (r.take 2)]⟩ := by
        rw [HST.out, h5]
        show (if 3 < r.length then _ else _) = _
        rw [if_pos h3l]
      have hz3 : (3 : Int) < ((mkB r).size : Int) := by rw [mkB_size]; omega
      have hz2 : (2 : Int) ≤ ((mkB r).size : Int) := by omega
      have hz4 : (3 : Int) ≤ ((mkB r).size : Int) := by omega
      have hz5 : 2 ≤ (mkB r).size := by omega
      have hz6 : 3 ≤ (mkB r).size := by omega
      have e3 : (mkB r).extract 3 (mkB r).size = mkB (r.drop 3) := ext_list (by rw [extract_from, mkB_toList, mkB_toList])
      have e2 : (mkB r).extract 0 2 = mkB (r.take 2) := ext_list (by rw [extract_upto, mkB_toList, mkB_toList])
      have NR3 := Lib.hid (fun W' => number100l (r.drop 3) W' (by rw [List.length_drop]; omega))
      rw [← e3] at NR3
      rw [← e2] at hst5
      have HST5 := Lib.hid hst5
      clear hst5 e2 e3
      have hW : w.heap.size < W.heap.size := kR.lt
      have KR := Lib.hid kR
      have HE0 := Lib.hid E0
      clear kR E0
      go_upto_region 15 with (fail)
      go_region_law (first | (go_simp; go_at_call 100; refine (NR3.out _).mono ?_; rintro e Y ⟨rfl, he⟩; have hw : Ext W Y := Ext.trans (by first | exact Ext.refl _ | exact Below.drew (Ext.refl _) | exact Ext.new _ _ | exact Below.drew (Ext.new _ _)) he; have kY := KR.out.ext hw; have kYo := fun o => kY.ext (Ext.new Y o); have y0 := kY.fz 0; have y1 := kY.fz 1; have y2 := kY.fz 2; have y3 := kY.fz 3; have x0 := kY.c0; have x1 := kY.c1; have x2 := kY.c2; have x3 := kY.c3; have yo0 := fun o => (kYo o).fz 0; have yo1 := fun o => (kYo o).fz 1; have yo2 := fun o => (kYo o).fz 2; have yo3 := fun o => (kYo o).fz 3; have xo0 := fun o => (kYo o).c0; have xo1 := fun o => (kYo o).c1; have xo2 := fun o => (kYo o).c2; have xo3 := fun o => (kYo o).c3; have ylt := kY.lt; have HW := Lib.hid hw; have HEE := Lib.hid he; clear kY kYo hw he))
      · go_wp2
        rw [HST5.out]
        obtain ⟨k1, k2, k3⟩ := put65t1 ((mkB r).extract 0 2) (KR.out.ext HW.out) (Ext.trans HE0.out HW.out) 5 0 (numR (r.drop 3))
        simp only [put4] at k1 k2 k3
        generalize World.alloc _ _ = Z at k1 k2 k3 ⊢
        exact fin65 ⟨5, 0, numR (r.drop 3), [(mkB r).extract 0 2]⟩ w Z _ 1 _ _ rfl (by rfl) k1 k2 (Nat.le_refl _) k3
      · go_wp2
        rw [HST5.out]
        have hown : Own (W.alloc (.cells #[.string ((mkB r).extract 0 2)] 9)) W.heap.size (.slice (some ⟨W.heap.size, 0, none⟩) 1 1) [(mkB r).extract 0 2] := Own.fresh W [(mkB r).extract 0 2] (by simp) (by simp)
        obtain ⟨k1, k2, k3⟩ := put65o (KR.out.ext HW.out) (Ext.trans HE0.out HW.out) (hown.ext (Ext.trans (Below.drew (Ext.refl _)) HEE.out)) hW 5 0 (numR (r.drop 3))
        simp only [put4] at k1 k2 k3
        generalize World.setCell _ _ _ = Z at k1 k2 k3 ⊢
        exact fin65 ⟨5, 0, numR (r.drop 3), [(mkB r).extract 0 2]⟩ w Z _ 1 _ _ rfl (by rfl) k1 k2 (Nat.le_refl _) k3
    · have hst5 : stepR l = ⟨0, 0, 0, []⟩ := by
        rw [HST.out, h5]
        show (if 3 < r.length then _ else _) = _
        rw [if_neg h3l]
      have h3z : ¬ (3 : Int) < ((mkB r).size : Int) := by rw [mkB_size]; omega
      have z0 := kR.fz 0
      have y0 := kR.c0
      have z1 := kR.fz 1
      have y1 := kR.c1
      have z2 := kR.fz 2
      have y2 := kR.c2
      have z3 := kR.fz 3
      have y3 := kR.c3
      have hlt := kR.lt
      go_wp2_with fail
      try rw [hst5]
      obtain ⟨k1, k2, k3⟩ := put65 (xs := []) kR E0 (0) (0) (0)
      simp only [put4] at k1 k2 k3
      generalize World.setCell _ _ _ = Z at k1 k2 k3 ⊢
      exact fin65 ⟨0, 0, 0, []⟩ w Z none 0 _ _ rfl (by rfl) k1 k2 (Nat.le_refl _) k3
  have b5 := lit_no hub h5
  by_cases h6 : u = [83, 65, 77, 69]
  · have b6 := lit_yes hub h6
    go_wp2_with fail
    refine (W3.out _).mono ?_
    rintro e W9 ⟨rfl, he⟩
    replace kR := kR.ext he
    replace E0 := Ext.trans E0 he
    clear he
    go_wp2_with fail
    refine (NF.out _).mono ?_
    rintro e W9 ⟨rfl, he⟩
    replace kR := kR.ext he
    replace E0 := Ext.trans E0 he
    clear he
    go_wp2_with fail
    refine (NF2.out _).mono ?_
    rintro e W9 ⟨rfl, he⟩
    replace kR := kR.ext he
    replace E0 := Ext.trans E0 he
    clear he
    have z0 := kR.fz 0
    have y0 := kR.c0
    have z1 := kR.fz 1
    have y1 := kR.c1
    have z2 := kR.fz 2
    have y2 := kR.c2
    have z3 := kR.fz 3
    have y3 := kR.c3
    have hlt := kR.lt
    go_wp2_with fail
    rw [hst6 h6]
    obtain ⟨k1, k2, k3⟩ := put65t1 (mkB g2) kR E0 (6) (numR f) (numR f2)
    simp only [put4] at k1 k2 k3
    generalize World.alloc _ _ = Z at k1 k2 k3 ⊢
    exact fin65 ⟨6, numR f, numR f2, [mkB g2]⟩ w Z _ 1 _ _ rfl (by rfl) k1 k2 (Nat.le_refl _) k3
  have b6 := lit_no hub h6
  by_cases h7 : u = [71, 79]
  · have b7 := lit_yes hub h7
    go_wp2_with fail
    refine (NR.out _).mono ?_
    rintro e W9 ⟨rfl, he⟩
    replace kR := kR.ext he
    replace E0 := Ext.trans E0 he
    clear he
    have z0 := kR.fz 0
    have y0 := kR.c0
    have z1 := kR.fz 1
    have y1 := kR.c1
    have z2 := kR.fz 2
    have y2 := kR.c2
    have z3 := kR.fz 3
    have y3 := kR.c3
    have hlt := kR.lt
    go_wp2_with fail
    rw [hst7 h7]
    obtain ⟨k1, k2, k3⟩ := put65 (xs := []) kR E0 (7) (0) (numR r)
    simp only [put4] at k1 k2 k3
    generalize World.setCell _ _ _ = Z at k1 k2 k3 ⊢
    exact fin65 ⟨7, 0, numR r, []⟩ w Z none 0 _ _ rfl (by rfl) k1 k2 (Nat.le_refl _) k3
  have b7 := lit_no hub h7
  by_cases h8 : u = [83, 69, 78, 68]
  · have b8 := lit_yes hub h8
    have z0 := kR.fz 0
    have y0 := kR.c0
    have z1 := kR.fz 1
    have y1 := kR.c1
    have z2 := kR.fz 2
    have y2 := kR.c2
    have z3 := kR.fz 3
    have y3 := kR.c3
    have hlt := kR.lt
    go_wp2_with fail
    rw [hst8 h8]
    obtain ⟨k1, k2, k3⟩ := put65t1 (mkB r) kR E0 (8) (0) (0)
    simp only [put4] at k1 k2 k3
    generalize World.alloc _ _ = Z at k1 k2 k3 ⊢
    exact fin65 ⟨8, 0, 0, [mkB r]⟩ w Z _ 1 _ _ rfl (by rfl) k1 k2 (Nat.le_refl _) k3
  have b8 := lit_no hub h8
  by_cases h9 : u = [80, 65, 83, 83]
  · have b9 := lit_yes hub h9
    have z0 := kR.fz 0
    have y0 := kR.c0
    have z1 := kR.fz 1
    have y1 := kR.c1
    have z2 := kR.fz 2
    have y2 := kR.c2
    have z3 := kR.fz 3
    have y3 := kR.c3
    have hlt := kR.lt
    go_wp2_with fail
    rw [hst9 h9]
    obtain ⟨k1, k2, k3⟩ := put65t2 (mkB f) (mkB g) kR E0 (9) (0) (0)
    simp only [put4] at k1 k2 k3
    generalize World.alloc _ _ = Z at k1 k2 k3 ⊢
    exact fin65 ⟨9, 0, 0, [mkB f, mkB g]⟩ w Z _ 2 _ _ rfl (by rfl) k1 k2 (Nat.le_refl _) k3
  have b9 := lit_no hub h9
  by_cases h10 : u = [75, 69, 69, 80]
  · have b10 := lit_yes hub h10
    have z0 := kR.fz 0
    have y0 := kR.c0
    have z1 := kR.fz 1
    have y1 := kR.c1
    have z2 := kR.fz 2
    have y2 := kR.c2
    have z3 := kR.fz 3
    have y3 := kR.c3
    have hlt := kR.lt
    go_wp2_with fail
    rw [hst10 h10]
    obtain ⟨k1, k2, k3⟩ := put65t1 (mkB r) kR E0 (10) (0) (0)
    simp only [put4] at k1 k2 k3
    generalize World.alloc _ _ = Z at k1 k2 k3 ⊢
    exact fin65 ⟨10, 0, 0, [mkB r]⟩ w Z _ 1 _ _ rfl (by rfl) k1 k2 (Nat.le_refl _) k3
  have b10 := lit_no hub h10
  by_cases h11 : u = [66, 65, 67, 75]
  · have b11 := lit_yes hub h11
    have z0 := kR.fz 0
    have y0 := kR.c0
    have z1 := kR.fz 1
    have y1 := kR.c1
    have z2 := kR.fz 2
    have y2 := kR.c2
    have z3 := kR.fz 3
    have y3 := kR.c3
    have hlt := kR.lt
    go_wp2_with fail
    rw [hst11 h11]
    obtain ⟨k1, k2, k3⟩ := put65 (xs := []) kR E0 (11) (0) (0)
    simp only [put4] at k1 k2 k3
    generalize World.setCell _ _ _ = Z at k1 k2 k3 ⊢
    exact fin65 ⟨11, 0, 0, []⟩ w Z none 0 _ _ rfl (by rfl) k1 k2 (Nat.le_refl _) k3
  have b11 := lit_no hub h11
  by_cases h12 : u = [70, 65, 73, 76]
  · have b12 := lit_yes hub h12
    have z0 := kR.fz 0
    have y0 := kR.c0
    have z1 := kR.fz 1
    have y1 := kR.c1
    have z2 := kR.fz 2
    have y2 := kR.c2
    have z3 := kR.fz 3
    have y3 := kR.c3
    have hlt := kR.lt
    go_wp2_with fail
    rw [hst12 h12]
    obtain ⟨k1, k2, k3⟩ := put65 (xs := []) kR E0 (12) (0) (0)
    simp only [put4] at k1 k2 k3
    generalize World.setCell _ _ _ = Z at k1 k2 k3 ⊢
    exact fin65 ⟨12, 0, 0, []⟩ w Z none 0 _ _ rfl (by rfl) k1 k2 (Nat.le_refl _) k3
  have b12 := lit_no hub h12
  by_cases h13 : u = [69, 78, 68]
  · have b13 := lit_yes hub h13
    have z0 := kR.fz 0
    have y0 := kR.c0
    have z1 := kR.fz 1
    have y1 := kR.c1
    have z2 := kR.fz 2
    have y2 := kR.c2
    have z3 := kR.fz 3
    have y3 := kR.c3
    have hlt := kR.lt
    go_wp2_with fail
    rw [hst13 h13]
    obtain ⟨k1, k2, k3⟩ := put65 (xs := []) kR E0 (13) (0) (0)
    simp only [put4] at k1 k2 k3
    generalize World.setCell _ _ _ = Z at k1 k2 k3 ⊢
    exact fin65 ⟨13, 0, 0, []⟩ w Z none 0 _ _ rfl (by rfl) k1 k2 (Nat.le_refl _) k3
  have b13 := lit_no hub h13
  have hst0 : stepR l = ⟨0, 0, 0, []⟩ := by
    have : opOf u = 0 := by unfold opOf; simp [h1, h2, h3, h4, h5, h6, h7, h8, h9, h10, h11, h12, h13]
    rw [HST.out, this]
    rfl
  have z0 := kR.fz 0
  have y0 := kR.c0
  have z1 := kR.fz 1
  have y1 := kR.c1
  have z2 := kR.fz 2
  have y2 := kR.c2
  have z3 := kR.fz 3
  have y3 := kR.c3
  have hlt := kR.lt
  go_wp2_with fail
  rw [hst0]
  obtain ⟨k1, k2, k3⟩ := put65 (xs := []) kR E0 (0) (0) (0)
  simp only [put4] at k1 k2 k3
  generalize World.setCell _ _ _ = Z at k1 k2 k3 ⊢
  exact fin65 ⟨0, 0, 0, []⟩ w Z none 0 _ _ rfl (by rfl) k1 k2 (Nat.le_refl _) k3
end Go.Proofs.YtkdbajpdcadliaaGreatDoor.Pg
