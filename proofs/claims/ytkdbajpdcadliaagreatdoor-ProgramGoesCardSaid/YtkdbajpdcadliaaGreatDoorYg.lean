/- Walks: Want of the program. -/
import Derived.Test.YtkdbajpdcadliaaGreatDoorYf
import Derived.BigRegion
set_option linter.unusedVariables false
namespace Go.Proofs.YtkdbajpdcadliaaGreatDoor.Pg
open Go.RowKit

/-- A store of a whole struct. -/
abbrev put5 (w : World) (b : Nat) (v0 v1 v2 v3 v4 : Value) : World := ((((w.setCell ⟨b, 0, none⟩ v0).setCell ⟨b, 1, none⟩ v1).setCell ⟨b, 2, none⟩ v2).setCell ⟨b, 3, none⟩ v3).setCell ⟨b, 4, none⟩ v4
abbrev put4 (w : World) (b : Nat) (v0 v1 v2 v3 : Value) : World := (((w.setCell ⟨b, 0, none⟩ v0).setCell ⟨b, 1, none⟩ v1).setCell ⟨b, 2, none⟩ v2).setCell ⟨b, 3, none⟩ v3
theorem grown_put4 (w : World) (b : Nat) (v0 v1 v2 v3 : Value) : w.grownBy (put4 w b v0 v1 v2 v3) (some b) :=
  grown_trans (grown_trans (grown_trans (grown_set w b 0 v0) (grown_set _ b 1 v1)) (grown_set _ b 2 v2)) (grown_set _ b 3 v3)
theorem grown_put5 (w : World) (b : Nat) (v0 v1 v2 v3 v4 : Value) : w.grownBy (put5 w b v0 v1 v2 v3 v4) (some b) := grown_trans (grown_put4 w b v0 v1 v2 v3) (grown_set _ b 4 v4)
theorem Blk.put5 {w : World} {b : Nat} {T : TypeId} {a0 a1 a2 a3 a4 : Value} (h : Blk w b T [a0, a1, a2, a3, a4]) (v0 v1 v2 v3 v4 : Value) : Blk (put5 w b v0 v1 v2 v3 v4) b T [v0, v1, v2, v3, v4] := ((((h.set 0 v0).set 1 v1).set 2 v2).set 3 v3).set 4 v4
theorem Blk.put4 {w : World} {b : Nat} {T : TypeId} {a0 a1 a2 a3 : Value} (h : Blk w b T [a0, a1, a2, a3]) (v0 v1 v2 v3 : Value) : Blk (put4 w b v0 v1 v2 v3) b T [v0, v1, v2, v3] := (((h.set 0 v0).set 1 v1).set 2 v2).set 3 v3
theorem Blk.kept {w w' : World} {b x : Nat} {T : TypeId} {cs : List Value} (h : Blk w b T cs) (hg : w.grownBy w' (some x)) (hne : b ≠ x) : Blk w' b T cs := (hg.block b h.lt (fun e => hne (Option.some.inj e))).trans h
theorem Ext.grown {w0 w w' : World} {x : Nat} (h : Ext w0 w) (hg : w.grownBy w' (some x)) (hx : w0.heap.size ≤ x) : Ext w0 w' :=
  ⟨hg.os.trans h.os, hg.tape.trans h.tape, hg.output.trans h.output, Nat.le_trans h.size hg.size, fun k hk => (hg.block k (Nat.lt_of_lt_of_le hk h.size) (fun e => by have := Option.some.inj e; omega)).trans (h.block k hk)⟩
theorem Own.kept2 {w w' : World} {base x : Nat} {v : Value} {xs : List ByteArray} (h : Own w base v xs) (hg : w.grownBy w' (some x)) (hne : v.ownBlock ≠ some x) : Own w' base v xs := World.ownsRow.kept h hg (.inr hne)
theorem Keep2.blk {b g x : Nat} {w w' : World} {T : TypeId} {cs : List Value} (h : Keep2 b g w w') (hb : Blk w x T cs) (h1 : x ≠ b) (h2 : x ≠ g) : Blk w' x T cs := (h.block x hb.lt h1 h2).trans hb
theorem Keep2.out {b g : Nat} {w0 w w' : World} (h : Keep2 b g w w') (h0 : Ext w0 w) (h1 : w0.heap.size ≤ b) (h2 : w0.heap.size ≤ g) : Ext w0 w' :=
  ⟨h.os.trans h0.os, h.tape.trans h0.tape, h.output.trans h0.output, Nat.le_trans h0.size h.size, fun k hk => (h.block k (Nat.lt_of_lt_of_le hk h0.size) (by omega) (by omega)).trans (h0.block k hk)⟩
theorem Own.strs {w : World} {base : Nat} {T : Option Addr} {n c : Nat} {xs : List ByteArray} (h : Own w base (.slice T n c) xs) : Strs w T xs ∧ xs.length = n := by
  obtain ⟨A, c', e, _, hs, _⟩ := h.open_
  simp only [Value.slice.injEq] at e
  obtain ⟨rfl, rfl, rfl⟩ := e
  exact ⟨hs, rfl⟩
theorem want_end {w0 W : World} {R2 R3 g cg base : Nat} {vs : List ByteArray} {a0 a1 a2 a3 a4 c0 c1 c2 c3 : Value} (kR : Blk W R2 27 [a0, a1, a2, a3, a4]) (kW : Blk W R3 34 [c0, c1, c2, c3]) (hne : R2 ≠ R3) (ho : Own W base (.slice (some ⟨g, 0, none⟩) 6 cg) vs) (h2 : g ≠ R2) (h3 : g ≠ R3) (hE : Ext w0 W) (e2 : w0.heap.size ≤ R2) (e3 : w0.heap.size ≤ R3) (v0 v1 v2 v3 v4 u0 u1 u2 u3 : Value) :
    Blk (put4 (put5 W R2 v0 v1 v2 v3 v4) R3 u0 u1 u2 u3) R2 27 [v0, v1, v2, v3, v4] ∧ Blk (put4 (put5 W R2 v0 v1 v2 v3 v4) R3 u0 u1 u2 u3) R3 34 [u0, u1, u2, u3] ∧ Own (put4 (put5 W R2 v0 v1 v2 v3 v4) R3 u0 u1 u2 u3) base (.slice (some ⟨g, 0, none⟩) 6 cg) vs ∧ Ext w0 (put4 (put5 W R2 v0 v1 v2 v3 v4) R3 u0 u1 u2 u3) := by
  have hg5 := grown_put5 W R2 v0 v1 v2 v3 v4
  have hg4 := grown_put4 (put5 W R2 v0 v1 v2 v3 v4) R3 u0 u1 u2 u3
  refine ⟨(kR.put5 _ _ _ _ _).kept hg4 hne, (kW.kept hg5 hne.symm).put4 _ _ _ _, (ho.kept2 hg5 ?_).kept2 hg4 ?_, (hE.grown hg5 e2).grown hg4 e3⟩
  · intro e; exact h2 (Option.some.inj e)
  · intro e; exact h3 (Option.some.inj e)
theorem own_end2 {W : World} {R2 R3 base : Nat} {wv : Value} {ts : List ByteArray} (ho : Own W base wv ts) (h2 : R2 < base) (h3 : R3 < base) (v0 v1 v2 v3 v4 u0 u1 u2 u3 : Value) : Own (put4 (put5 W R2 v0 v1 v2 v3 v4) R3 u0 u1 u2 u3) base wv ts := by
  refine (ho.kept2 (grown_put5 W R2 v0 v1 v2 v3 v4) ?_).kept2 (grown_put4 _ R3 u0 u1 u2 u3) ?_
  · intro e; have := (World.ownsRow.lt ho _ e).1; omega
  · intro e; have := (World.ownsRow.lt ho _ e).1; omega
/-- Text number i of a want. -/
def wantX (vs : List ByteArray) (op : Int) (i : Nat) (x : ByteArray) : ByteArray := if i = 0 ∧ (op = 2 ∨ op = 9) then x else fillS vs x
theorem wantT_take (vs : List ByteArray) (op : Int) (xs : List ByteArray) (j : Nat) (h : j < xs.length) : wantT vs op (xs.take (j + 1)) = wantT vs op (xs.take j) ++ [wantX vs op j xs[j]] := by
  match xs, h with
  | x :: xs, h =>
    cases j with
    | zero => simp [wantT, wantX]
    | succ j =>
      have hj : j < xs.length := by simpa using h
      simp only [List.take_succ_cons, wantT, List.cons_append, List.getElem_cons_succ]
      congr 1
      rw [List.take_succ_eq_append_getElem hj, List.map_append]
      simp [wantX]
theorem wantT_len (vs : List ByteArray) (op : Int) (xs : List ByteArray) : (wantT vs op xs).length = xs.length := by
  cases xs <;> simp [wantT]
def cellCount (b : Nat) (w : World) : Int := match w.cell? ⟨b, 3, none⟩ with
  | some (.int _ v) => v
  | _ => 0
theorem cellCount_eq {b g d : Nat} {place count over : Int} {st : ByteArray} {w : World} (h : Blk w b 27 (runL place g d st count over)) : cellCount b w = count := by
  unfold cellCount; rw [h.c3]
theorem wantF_over {f : Nat} {P : Prog} {q : RunS} (h : overN P.steps.length q ≠ 0) : wantF (f + 1) P q = (q.ends (overN P.steps.length q), zeroWant) := by
  show (if overN P.steps.length q ≠ 0 then _ else _) = _
  rw [if_pos h]
theorem wantF_some {f : Nat} {P : Prog} {q q' : RunS} (h : overN P.steps.length q = 0) (ha : aloneS (stepAt P q.place) q = some q') : wantF (f + 1) P q = wantF f P q' := by
  show (if overN P.steps.length q ≠ 0 then _ else match aloneS (stepAt P q.place) q with
      | some q => wantF f P q
      | none => _) = _
  rw [if_neg (by omega), ha]
theorem wantF_none {f : Nat} {P : Prog} {q : RunS} (h : overN P.steps.length q = 0) (ha : aloneS (stepAt P q.place) q = none) : wantF (f + 1) P q = (q, wantOf (stepAt P q.place) q) := by
  show (if overN P.steps.length q ≠ 0 then _ else match aloneS (stepAt P q.place) q with
      | some q => wantF f P q
      | none => (q, wantOf (stepAt P q.place) q)) = _
  rw [if_neg (by omega), ha]
/-- What Want hands back. -/
def wantR (P : Prog) (r : RunS) : RunS × WantS × Int := if askedR P r = 0 then ((wantS P r).1, (wantS P r).2, 0) else (zeroRun, zeroWant, askedR P r)

/-- Between two rounds of Want. -/
structure Wn (P : Prog) (r : RunS) (b g d base : Nat) (wc wr : World) (q : RunS) : Prop where
  blk : Blk wr b 27 (runL q.place g d q.status q.count q.over)
  own : Own wr base (.slice (some ⟨g, 0, none⟩) 6 d) q.vars
  ok : RunOk P.steps.length q
  eq : ∃ f, wantF f P q = wantS P r ∧ 200 - q.count < f
  keep : Keep2 b g wc wr

set_option maxRecDepth 100000 in
set_option maxHeartbeats 4000000 in
theorem want15 (nm : ByteArray) (A : Option Addr) (n c : Nat) (ss : List Step) (place count over : Int) (T : Option Addr) (k d : Nat) (xs : List ByteArray) (st : ByteArray) (w : World) (hp : StepsAt w A ss) (hpl : ss.length = n) (hpb : BdS ss) (hnm : (nm.size : Int) ≤ 1000000) (hx : Strs w T xs) (hl : xs.length = k) (hb : Bd xs) (hg : Gl w) (hgw : GlB w.heap.size) :
    Calls Tryz.prog 15 #[.agg #[.string nm, .slice A n c], runV place T k d st count over] w fun e w' => ∃ T' k' d' Tw nw cw, e = .returned (.tuple #[runV (wantR ⟨nm, ss⟩ ⟨place, xs, st, count, over⟩).1.place T' k' d' (wantR ⟨nm, ss⟩ ⟨place, xs, st, count, over⟩).1.status (wantR ⟨nm, ss⟩ ⟨place, xs, st, count, over⟩).1.count (wantR ⟨nm, ss⟩ ⟨place, xs, st, count, over⟩).1.over,
        .agg #[.int .i64 (wantR ⟨nm, ss⟩ ⟨place, xs, st, count, over⟩).2.1.op, .int .i64 (wantR ⟨nm, ss⟩ ⟨place, xs, st, count, over⟩).2.1.a, .int .i64 (wantR ⟨nm, ss⟩ ⟨place, xs, st, count, over⟩).2.1.b, .slice Tw nw cw], .int .i64 (wantR ⟨nm, ss⟩ ⟨place, xs, st, count, over⟩).2.2]) ∧
      Strs w' T' (wantR ⟨nm, ss⟩ ⟨place, xs, st, count, over⟩).1.vars ∧ (wantR ⟨nm, ss⟩ ⟨place, xs, st, count, over⟩).1.vars.length = k' ∧ Strs w' Tw (wantR ⟨nm, ss⟩ ⟨place, xs, st, count, over⟩).2.1.texts ∧ (wantR ⟨nm, ss⟩ ⟨place, xs, st, count, over⟩).2.1.texts.length = nw ∧ Ext w w' := by
  obtain ⟨r, hr⟩ : ∃ r : RunS, (⟨place, xs, st, count, over⟩ : RunS) = r := ⟨_, rfl⟩
  obtain ⟨P, hP⟩ : ∃ P : Prog, (⟨nm, ss⟩ : Prog) = P := ⟨_, rfl⟩
  rw [hr, hP]
  have hask : askedS ⟨nm, ss⟩ place xs st count over = askedR P r := by rw [← hr, ← hP]; rfl
  have E0 := Ext.al (Ext.al (Ext.al (Ext.new w (.cells #[.string nm, .slice A n c] 24)) (.cells #[.int .i64 place, .slice T k d, .string st, .int .i64 count, .int .i64 over] 27)) (.cells #[.int .i64 0, .slice none 0 0, .string ⟨#[]⟩, .int .i64 0, .int .i64 0] 27)) (.cells #[.int .i64 0, .int .i64 0, .int .i64 0, .slice none 0 0] 34)
  have kP := ((Blk.new w [.string nm, .slice A n c] 24).ext (Ext.new _ (.cells #[.int .i64 place, .slice T k d, .string st, .int .i64 count, .int .i64 over] 27))).ext (Ext.al (Ext.new _ (.cells #[.int .i64 0, .slice none 0 0, .string ⟨#[]⟩, .int .i64 0, .int .i64 0] 27)) (.cells #[.int .i64 0, .int .i64 0, .int .i64 0, .slice none 0 0] 34))
  have kB := (Blk.new (w.alloc (.cells #[.string nm, .slice A n c] 24)) [.int .i64 place, .slice T k d, .string st, .int .i64 count, .int .i64 over] 27).ext (Ext.al (Ext.new _ (.cells #[.int .i64 0, .slice none 0 0, .string ⟨#[]⟩, .int .i64 0, .int .i64 0] 27)) (.cells #[.int .i64 0, .int .i64 0, .int .i64 0, .slice none 0 0] 34))
  have kR := (Blk.new ((w.alloc (.cells #[.string nm, .slice A n c] 24)).alloc (.cells #[.int .i64 place, .slice T k d, .string st, .int .i64 count, .int .i64 over] 27)) [.int .i64 0, .slice none 0 0, .string ⟨#[]⟩, .int .i64 0, .int .i64 0] 27).ext (Ext.new _ (.cells #[.int .i64 0, .int .i64 0, .int .i64 0, .slice none 0 0] 34))
  have kW := Blk.new (((w.alloc (.cells #[.string nm, .slice A n c] 24)).alloc (.cells #[.int .i64 place, .slice T k d, .string st, .int .i64 count, .int .i64 over] 27)).alloc (.cells #[.int .i64 0, .slice none 0 0, .string ⟨#[]⟩, .int .i64 0, .int .i64 0] 27)) [.int .i64 0, .int .i64 0, .int .i64 0, .slice none 0 0] 34
  simp only [World.size_alloc] at kB kR kW
  obtain ⟨R, hR⟩ : ∃ R, w.heap.size = R := ⟨_, rfl⟩
  have HP0 := Lib.hid hp
  have HPL := Lib.hid hpl
  have HPB := Lib.hid hpb
  have HX := Lib.hid hx
  have HLX := Lib.hid hl
  have HB := Lib.hid hb
  have HG := Lib.hid hg
  have HGW := Lib.hid hgw
  have HASK := Lib.hid hask
  have HR := Lib.hid hr
  have HPP := Lib.hid hP
  clear hp hpl hpb hx hl hb hg hgw hask hr hP
  unfold runV
  go_enter Tryz.func15, Tryz.ntmps15
  go_upto_region 1 with (fail)
  rw [hR] at kP kB kR kW
  try simp only [hR]
  generalize World.alloc _ _ = W0 at E0 kP kB kR kW
  have p0 := kP.c0
  have p1 := kP.c1
  have b0 := kB.c0
  have b1 := kB.c1
  have b2 := kB.c2
  have b3 := kB.c3
  have b4 := kB.c4
  go_wp2_with fail
  refine (asked45 nm A n c ss place count over T k d xs st W0 (HP0.out.ext E0) HPL.out HPB.out hnm (HX.out.ext E0) HLX.out HB.out).mono ?_
  rintro e W1 ⟨rfl, he⟩
  rw [HASK.out]
  clear p0 p1 b0 b1 b2 b3 b4
  replace kP := kP.ext he
  replace kB := kB.ext he
  replace kR := kR.ext he
  replace kW := kW.ext he
  replace E0 := Ext.trans E0 he
  clear he
  by_cases ha : askedR P r = 0
  · obtain ⟨hv, hok⟩ := asked_ok ha
    have hrv : r.vars = xs := by rw [← HR.out]
    obtain rfl : k = 6 := by have := hok.six; rw [hrv, HLX.out] at this; exact this
    have haB : (askedR P r == 0) = true := by rw [ha]; rfl
    rw [ha]
    have b0 := kB.c0
    have b1 := kB.c1
    have b2 := kB.c2
    have b3 := kB.c3
    have b4 := kB.c4
    have bz1 := kB.fz 1
    have HA := Lib.hid ha
    have HV := Lib.hid hv
    have HOK := Lib.hid hok
    have HRV := Lib.hid hrv
    clear ha hv hok hrv haB
    go_wp2_with fail
    refine (clone46 T 6 d xs W1 (HX.out.ext E0) HLX.out (by omega) (by omega)).mono ?_
    rintro e W2 ⟨g, cg, rfl, ho, he⟩
    clear b0 b1 b2 b3 b4 bz1
    have hB1 : R + 1 + 1 + 1 < W1.heap.size := kW.lt
    replace kP := kP.ext he
    replace kB := kB.ext he
    replace kR := kR.ext he
    replace kW := kW.ext he
    replace E0 := Ext.trans E0 he
    have hBg : W1.heap.size ≤ g := (World.ownsRow.lt ho g rfl).1
    clear he
    have b1 := kB.c1
    have bz1 := kB.fz 1
    go_wp2_with fail
    clear b1 bz1
    have kB' : Blk (W2.setCell ⟨R + 1, 1, none⟩ (.slice (some ⟨g, 0, none⟩) 6 cg)) (R + 1) 27 (runL r.place g cg r.status r.count r.over) := by rw [← HR.out]; exact kB.set 1 (.slice (some ⟨g, 0, none⟩) 6 cg)
    have kP' := kP.other (show R ≠ R + 1 by omega) 1 (.slice (some ⟨g, 0, none⟩) 6 cg)
    have kR' := kR.other (show R + 1 + 1 ≠ R + 1 by omega) 1 (.slice (some ⟨g, 0, none⟩) 6 cg)
    have kW' := kW.other (show R + 1 + 1 + 1 ≠ R + 1 by omega) 1 (.slice (some ⟨g, 0, none⟩) 6 cg)
    have hO' : Own (W2.setCell ⟨R + 1, 1, none⟩ (.slice (some ⟨g, 0, none⟩) 6 cg)) W1.heap.size (.slice (some ⟨g, 0, none⟩) 6 cg) r.vars := by rw [HRV.out]; exact ho.set (b := R + 1) (by simp [Value.ownBlock]; omega) 1 (.slice (some ⟨g, 0, none⟩) 6 cg)
    have E' := Ext.set E0 (show w.heap.size ≤ R + 1 by omega) 1 (.slice (some ⟨g, 0, none⟩) 6 cg)
    generalize World.setCell _ _ _ = wc at kB' kP' kR' kW' hO' E'
    clear kB kP kR kW ho E0
    have HW0 := Lib.hid (show Wn P r (R + 1) g cg W1.heap.size wc wc r from ⟨kB', hO', HOK.out, ⟨(201 - r.count).toNat, rfl, by have := HOK.out.c1; omega⟩, Keep2.refl _ _ _⟩)
    have KP := Lib.hid kP'
    have KR := Lib.hid kR'
    have KW := Lib.hid kW'
    have HE := Lib.hid E'
    clear kB' kP' kR' kW' hO' E'
    have E0sz : w.heap.size ≤ W1.heap.size := by omega
    have hnP : P.steps.length = n := by rw [← HPP.out]; exact HPL.out
    go_loopw [] (fun wr => ∃ q : RunS, Hid (Wn P r (R + 1) g cg W1.heap.size wc wr q)) (fun wr => (201 - cellCount (R + 1) wr).toNat)
    case atStart => exact ⟨r, HW0⟩
    case round =>
      clear HW0
      obtain ⟨q, hW⟩ := hrel
      have hq := hW.out.ok
      rw [hnP] at hq
      have hkp := hW.out.keep.blk KP.out (by omega) (by omega)
      have hn40 : n ≤ 40 := by rw [← hnP]; exact (validOk HV.out).len
      have kQ := hW.out.blk
      have p0 := hkp.c0
      have p1 := hkp.c1
      go_wp2_with fail
      refine (over47 nm A n c (R + 1) q.place q.count q.over (.slice (some ⟨g, 0, none⟩) 6 cg) q.status q.vars wr (by omega) kQ).mono ?_
      rintro e wo ⟨rfl, kO, hk47⟩
      rw [show overN n ⟨q.place, q.vars, q.status, q.count, q.over⟩ = overN n q from rfl] at kO ⊢
      by_cases ho : overN n q = 0
      · obtain ⟨o1, o2, o3⟩ := over0 ho hq
        rw [ho, if_neg (by simp)] at kO
        rw [ho, decide_eq_false (by simp)]
        have hk2 : Keep2 (R + 1) g wc wo := hW.out.keep.trans (Keep2.of_keep hk47)
        have hkp2 := hk2.blk KP.out (by omega) (by omega)
        have p0 := hkp2.c0
        have p1 := hkp2.c1
        have b0 := kO.c0
        have hE2 : Ext w wo := hk2.out HE.out (by omega) (by omega)
        obtain ⟨pl, hpl⟩ : ∃ pl : Nat, q.place = pl := ⟨q.place.toNat, by have := hq.p0; omega⟩
        have hpn : pl < ss.length := by have := HPL.out; omega
        obtain ⟨ad, Ts, cs, hA, s0, s1, s2, s3, hcs, hsx⟩ := HP0.out pl hpn
        subst hA
        replace s0 := hE2.cell s0
        replace s1 := hE2.cell s1
        replace s2 := hE2.cell s2
        replace s3 := hE2.cell s3
        obtain ⟨s, hs⟩ : ∃ s, ss[pl] = s := ⟨_, rfl⟩
        rw [hs] at s0 s1 s2 s3 hcs hsx
        have hTw : 0 < s.texts.length → ∀ ad, Ts = some ad → ad.block < w.heap.size := by
          intro h0 ad' e
          obtain ⟨ad2, e2, h2⟩ := hsx 0 h0
          rw [e] at e2
          cases e2
          exact block_of_cell h2
        have hsP : s ∈ P.steps := by rw [← HPP.out, ← hs]; exact List.getElem_mem _
        have hat : stepAt P q.place = s := by
          unfold stepAt
          rw [hpl, ← HPP.out, Int.toNat_natCast]
          show ss.getD pl zeroStep = s
          rw [List.getD_eq_getElem?_getD, List.getElem?_eq_getElem hpn, hs]
          rfl
        have hsok := (validOk HV.out).each s hsP
        have hown : Own wo W1.heap.size (.slice (some ⟨g, 0, none⟩) 6 cg) q.vars := hW.out.own.kept2 hk47.grown (by simp [Value.ownBlock]; omega)
        obtain ⟨f0, hf1, hf2⟩ := hW.out.eq
        obtain ⟨f, rfl⟩ : ∃ f, f0 = f + 1 := ⟨f0 - 1, by omega⟩
        have hkeep := hW.out.keep
        have HOWN := Lib.hid hown
        have HSX := Lib.hid hsx
        have HTW := Lib.hid hTw
        have HAT := Lib.hid hat
        have HSOK := Lib.hid hsok
        have HK2 := Lib.hid hk2
        have HE2 := Lib.hid hE2
        have HQ := Lib.hid hW.out.ok
        have HF := Lib.hid hf1
        have HHO := Lib.hid ho
        clear hW hown hsx hTw hat hsP hsok hkeep hk47 hk2 hE2 hf1 hs ho
        rw [hpl] at b0
        have hpnI : (pl : Int) < (n : Int) := by have := HPL.out; omega
        go_wp2_with fail
        have eN := Ext.new wo (.cells #[.int .i64 s.op, .int .i64 s.a, .int .i64 s.b, .slice Ts s.texts.length cs] 77)
        have kZ := Blk.new wo [.int .i64 s.op, .int .i64 s.a, .int .i64 s.b, .slice Ts s.texts.length cs] 77
        have hRo : R + 1 + 1 + 1 < wo.heap.size := by have := KW.out.lt; have := HK2.out.size; omega
        have hgo : g < wo.heap.size := (World.ownsRow.lt HOWN.out g rfl).2
        refine (own48 s P.steps.length HSOK.out (by rw [hnP]; omega) Ts s.texts.length cs (R + 1) g cg W1.heap.size q _ (HSX.out.ext (Ext.trans HE2.out eN)) rfl (fun h ad' e => by have := HTW.out h ad' e; have := E0sz; omega) (kO.ext eN) (HOWN.out.ext eN) HQ.out (by rw [hnP]; exact o2) o3 (HG.out.ext (Ext.trans HE2.out eN)) ⟨by have := HGW.out.ge; omega⟩).mono ?_
        rintro e w3 ⟨rfl, kB3, ho3, hk3⟩
        have hk4 : Keep2 (R + 1) g wc w3 := (HK2.out.ext eN).trans hk3
        have kZ3 := hk3.blk kZ (by omega) (by omega)
        cases hal : aloneS s q with
        | some q' =>
          have hor : ownRes s q = (q', true) := by unfold ownRes; rw [hal]
          rw [hor] at kB3 ho3 ⊢
          obtain ⟨hq1, hq2, hq3⟩ := aloneS_ok HQ.out HSOK.out (by rw [hnP]; exact o2) o3 hal
          have HW2 := Lib.hid (show Wn P r (R + 1) g cg W1.heap.size wc w3 q' from ⟨kB3, ho3, hq1, ⟨f, (wantF_some (by rw [hnP]; exact HHO.out) (by rw [HAT.out]; exact hal)).symm.trans HF.out, by omega⟩, hk4⟩)
          have hm1 : (201 - cellCount (R + 1) w3).toNat < (201 - cellCount (R + 1) wr).toNat := by
            rw [cellCount_eq kB3, cellCount_eq kQ, hq2]
            omega
          clear hk4 hk3 hq1 hq2 hq3 hal hor
          go_wp2_with fail
          go_roundw
          case rel => exact ⟨q', HW2⟩
          case measure => exact hm1
        | none =>
          have hor : ownRes s q = (q, false) := by unfold ownRes; rw [hal]
          rw [hor] at kB3 ho3 ⊢
          have hwant : wantS P r = (q, wantOf s q) := by
            rw [← HF.out, wantF_none (by rw [hnP]; exact HHO.out) (by rw [HAT.out]; exact hal), HAT.out]
          have HWANT := Lib.hid hwant
          have z0 := kZ3.c0
          have z1 := kZ3.c1
          have z2 := kZ3.c2
          have z3 := kZ3.c3
          have HK4 := Lib.hid hk4
          have HO3 := Lib.hid ho3
          clear hk4 hk3 hal hor hwant ho3
          have zlt := kZ3.lt
          have zne : wo.heap.size ≠ w3.heap.size := by omega
          go_wp2_with fail
          have eD := Ext.new w3 (.cells #[.int .i64 s.op, .int .i64 s.a, .int .i64 s.b, .slice none 0 0] 34)
          have kD := Blk.new w3 [.int .i64 s.op, .int .i64 s.a, .int .i64 s.b, .slice none 0 0] 34
          obtain ⟨D, hD⟩ : ∃ D, w3.heap.size = D := ⟨_, rfl⟩
          obtain ⟨Z, hZ⟩ : ∃ Z, wo.heap.size = Z := ⟨_, rfl⟩
          have kZ4 := kZ3.ext eD
          have kB4 := kB3.ext eD
          have hO4 := HO3.out.ext eD
          have hK4 := HK4.out.ext eD
          have hDW : D < (w3.alloc (.cells #[.int .i64 s.op, .int .i64 s.a, .int .i64 s.b, .slice none 0 0] 34)).heap.size := by rw [World.size_alloc]; omega
          rw [hD] at kD zlt zne
          rw [hZ] at kZ4 zlt zne
          try simp only [hD, hZ]
          generalize World.alloc _ _ = W4 at eD kD kZ4 kB4 hO4 hK4 hDW
          have hgD : g < D := by have := (World.ownsRow.lt HO3.out g rfl).2; omega
          have hRD : R + 1 + 1 + 1 < D := by omega
          have hEW4 := hK4.out HE.out (by omega) (by omega)
          have hkR4 := hK4.blk KR.out (by omega) (by omega)
          have hkW4 := hK4.blk KW.out (by omega) (by omega)
          have KR4 := Lib.hid hkR4
          have KW4 := Lib.hid hkW4
          clear hkR4 hkW4
          have HDW := Lib.hid hDW
          have KZ4 := Lib.hid kZ4
          have KB4 := Lib.hid kB4
          have HO4 := Lib.hid hO4
          have HK44 := Lib.hid hK4
          have HEW4 := Lib.hid hEW4
          have htl7 : (s.texts.length : Int) ≤ 1000 := by
            have h1 := HSOK.out.all
            have h2 : (verbS s.op).1.all ≤ 7 := by
              rcases verb_cases HSOK.out.verb with e | e | e | e | e | e | e | e | e | e | e | e | e <;> rw [e] <;> decide
            omega
          have HTL := Lib.hid htl7
          clear z0 z1 z2 z3 eD kZ4 kB4 hO4 hK4 hDW hEW4 hD hZ kB3 kZ3 kZ kO kQ hkp hkp2 eN
          go_loopw [45] (fun i wr => ∃ j wv, j ≤ s.texts.length ∧ i = .int .i64 j ∧ Hid (Blk wr D 34 [.int .i64 s.op, .int .i64 s.a, .int .i64 s.b, wv] ∧ Own wr W4.heap.size wv (wantT q.vars s.op (s.texts.take j)) ∧ Keep D W4 wr)) (fun i _ => s.texts.length - (intOf i).toNat)
          case atStart => exact ⟨0, .slice none 0 0, Nat.zero_le _, rfl, Lib.hid ⟨kD, Own.none_ _ _, Keep.refl _ _⟩⟩
          case round =>
            clear kD
            obtain ⟨j, wv, hj, rfl, hJ⟩ := hrel
            obtain ⟨kDi, hoi, hki⟩ := hJ.out
            obtain ⟨A3, c3, rfl, -⟩ := hoi.open_
            have kZi := hki.blk KZ4.out (by omega)
            have kBi := hki.blk KB4.out (by omega)
            have hoq : Own wr W1.heap.size (.slice (some ⟨g, 0, none⟩) 6 cg) q.vars := HO4.out.kept2 hki.grown (by simp [Value.ownBlock]; omega)
            have E4 : Ext w wr := hki.below HEW4.out (by omega)
            have z0 := kZi.c0
            have d3 := kDi.c3
            have dz3 := kDi.fz 3
            have b1 := kBi.c1
            have KDI := Lib.hid kDi
            have HOI := Lib.hid hoi
            have HKI := Lib.hid hki
            have KBI := Lib.hid kBi
            have HOQ := Lib.hid hoq
            have HE4 := Lib.hid E4
            clear hJ kDi hoi hki kZi kBi hoq E4
            by_cases hlt : j < s.texts.length
            · obtain ⟨adx, hAx, hcx⟩ := (HSX.out.ext HE4.out) j hlt
              subst hAx
              have hfill : Calls Tryz.prog 49 #[.slice (some ⟨g, 0, none⟩) 6 cg, .string s.texts[j]] wr fun e w' => e = .returned (.string (fillS q.vars s.texts[j])) ∧ Ext wr w' :=
                fill49 _ cg q.vars s.texts[j] wr HOQ.out.strs.1 HQ.out.six (fun x hx => by have := HQ.out.each x hx; omega) (by have := HSOK.out.size _ (List.getElem_mem hlt); omega)
              have HFILL := Lib.hid hfill
              clear hfill
              by_cases hj0 : j = 0
              · subst hj0
                replace d3 : wr.cell? ⟨D, 3, none⟩ = some (.slice A3 0 c3) := d3
                have hcx0 : wr.cell? adx = some (.string s.texts[0]) := hcx
                have HOI0 : Hid (Own wr W4.heap.size (.slice A3 0 c3) []) := HOI
                clear HOI hcx
                have HOI := HOI0
                clear HOI0
                by_cases h2 : s.op = 2
                · rw [h2] at z0
                  have H2 := Lib.hid h2
                  clear h2
                  have hwx : wantX q.vars s.op 0 s.texts[0] = s.texts[0] := by
                    unfold wantX
                    rw [if_pos ⟨rfl, .inl H2.out⟩]
                  have HWX := Lib.hid hwx
                  clear hwx
                  go_wp2_with (at_builtin; go_loud (refine app_strG W4.heap.size rfl (.tmp 67) (.tmp 69) rfl (.slice A3 0 c3) [] s.texts[0] rfl rfl HOI.out (HKI.out.size) (by simp) ?_; intro v1 w5 hown hgr hvb; have hrow : ∀ b, (Value.slice A3 0 c3).ownBlock = some b → W4.heap.size ≤ b := (fun b hb => (World.ownsRow.lt HOI.out b hb).1); have kD5 : Blk w5 D 34 _ := (hgr.block D KDI.out.lt (fun e => by have := hrow _ e.symm; have := HDW.out; omega)).trans KDI.out; obtain ⟨A5, c5, rfl, -⟩ := hown.open_; have d3 := kD5.c3; have dz3 := kD5.fz 3; have KD5 := Lib.hid kD5; have HOW := Lib.hid hown; have HK5 := Lib.hid ((HKI.out).row hgr (fun b hb => .inl (hrow b hb))); clear hown hgr hvb kD5 hrow))
                  go_roundw
                  case rel =>
                    have hown2 : Own w5 W4.heap.size (.slice A5 (1) c5) (wantT q.vars s.op (s.texts.take 1)) := by
                      rw [wantT_take _ _ _ 0 hlt, HWX.out]
                      exact HOW.out
                    refine ⟨1, _, by omega, by go_num, Lib.hid ⟨KD5.out.set 3 _, hown2.set (b := D) (fun e => ?_) 3 _, HK5.out.set (.inr rfl) 3 _⟩⟩
                    have h1 := (World.ownsRow.lt hown2 D e.symm).1
                    have := HDW.out
                    omega
                  case measure => simp [intOf]; omega
                · have h2B := bq_no h2
                  by_cases h9 : s.op = 9
                  · rw [h9] at z0
                    have H9 := Lib.hid h9
                    clear h9
                    have hwx : wantX q.vars s.op 0 s.texts[0] = s.texts[0] := by
                      unfold wantX
                      rw [if_pos ⟨rfl, .inr H9.out⟩]
                    have HWX := Lib.hid hwx
                    clear hwx
                    go_wp2_with (at_builtin; go_loud (refine app_strG W4.heap.size rfl (.tmp 67) (.tmp 69) rfl (.slice A3 0 c3) [] s.texts[0] rfl rfl HOI.out (HKI.out.size) (by simp) ?_; intro v1 w5 hown hgr hvb; have hrow : ∀ b, (Value.slice A3 0 c3).ownBlock = some b → W4.heap.size ≤ b := (fun b hb => (World.ownsRow.lt HOI.out b hb).1); have kD5 : Blk w5 D 34 _ := (hgr.block D KDI.out.lt (fun e => by have := hrow _ e.symm; have := HDW.out; omega)).trans KDI.out; obtain ⟨A5, c5, rfl, -⟩ := hown.open_; have d3 := kD5.c3; have dz3 := kD5.fz 3; have KD5 := Lib.hid kD5; have HOW := Lib.hid hown; have HK5 := Lib.hid ((HKI.out).row hgr (fun b hb => .inl (hrow b hb))); clear hown hgr hvb kD5 hrow))
                    go_roundw
                    case rel =>
                      have hown2 : Own w5 W4.heap.size (.slice A5 (1) c5) (wantT q.vars s.op (s.texts.take 1)) := by
                        rw [wantT_take _ _ _ 0 hlt, HWX.out]
                        exact HOW.out
                      refine ⟨1, _, by omega, by go_num, Lib.hid ⟨KD5.out.set 3 _, hown2.set (b := D) (fun e => ?_) 3 _, HK5.out.set (.inr rfl) 3 _⟩⟩
                      have h1 := (World.ownsRow.lt hown2 D e.symm).1
                      have := HDW.out
                      omega
                    case measure => simp [intOf]; omega
                  · have h9B := bq_no h9
                    have h2N : (s.op != 2) = true := by rw [bne, h2B]; rfl
                    have h9N : (s.op != 9) = true := by rw [bne, h9B]; rfl
                    have hwx : wantX q.vars s.op 0 s.texts[0] = fillS q.vars s.texts[0] := by
                      unfold wantX
                      rw [if_neg (fun h => h.2.elim h2 h9)]
                    have HWX := Lib.hid hwx
                    clear hwx
                    go_wp2_with fail
                    refine HFILL.out.mono ?_
                    rintro e wY ⟨rfl, he⟩
                    have hKI := HKI.out.ext he
                    have kDY := KDI.out.ext he
                    have hOY := HOI.out.ext he
                    have d3 := kDY.c3
                    have dz3 := kDY.fz 3
                    clear HKI KDI HOI
                    have HKI := Lib.hid hKI
                    have KDI := Lib.hid kDY
                    have HOI := Lib.hid hOY
                    clear hKI kDY hOY he
                    go_wp2_with (at_builtin; go_loud (refine app_strG W4.heap.size rfl (.tmp 67) (.tmp 69) rfl (.slice A3 0 c3) [] (fillS q.vars s.texts[0]) rfl rfl HOI.out (HKI.out.size) (by simp) ?_; intro v1 w5 hown hgr hvb; have hrow : ∀ b, (Value.slice A3 0 c3).ownBlock = some b → W4.heap.size ≤ b := (fun b hb => (World.ownsRow.lt HOI.out b hb).1); have kD5 : Blk w5 D 34 _ := (hgr.block D KDI.out.lt (fun e => by have := hrow _ e.symm; have := HDW.out; omega)).trans KDI.out; obtain ⟨A5, c5, rfl, -⟩ := hown.open_; have d3 := kD5.c3; have dz3 := kD5.fz 3; have KD5 := Lib.hid kD5; have HOW := Lib.hid hown; have HK5 := Lib.hid ((HKI.out).row hgr (fun b hb => .inl (hrow b hb))); clear hown hgr hvb kD5 hrow))
                    go_roundw
                    case rel =>
                      have hown2 : Own w5 W4.heap.size (.slice A5 (1) c5) (wantT q.vars s.op (s.texts.take 1)) := by
                        rw [wantT_take _ _ _ 0 hlt, HWX.out]
                        exact HOW.out
                      refine ⟨1, _, by omega, by go_num, Lib.hid ⟨KD5.out.set 3 _, hown2.set (b := D) (fun e => ?_) 3 _, HK5.out.set (.inr rfl) 3 _⟩⟩
                      have h1 := (World.ownsRow.lt hown2 D e.symm).1
                      have := HDW.out
                      omega
                    case measure => simp [intOf]; omega
              · have hjI : (0 : Int) < (j : Int) := by omega
                have hwx : wantX q.vars s.op j s.texts[j] = fillS q.vars s.texts[j] := by
                  unfold wantX
                  rw [if_neg (fun h => hj0 h.1)]
                have HWX := Lib.hid hwx
                clear hwx
                go_wp2_with fail
                refine HFILL.out.mono ?_
                rintro e wY ⟨rfl, he⟩
                have hKI := HKI.out.ext he
                have kDY := KDI.out.ext he
                have hOY := HOI.out.ext he
                have d3 := kDY.c3
                have dz3 := kDY.fz 3
                clear HKI KDI HOI
                have HKI := Lib.hid hKI
                have KDI := Lib.hid kDY
                have HOI := Lib.hid hOY
                clear hKI kDY hOY he
                go_wp2_with (at_builtin; go_loud (refine app_strG W4.heap.size rfl (.tmp 67) (.tmp 69) rfl (.slice A3 (wantT q.vars s.op (s.texts.take j)).length c3) (wantT q.vars s.op (s.texts.take j)) (fillS q.vars s.texts[j]) rfl rfl HOI.out (HKI.out.size) (by rw [wantT_len, List.length_take]; have := HTL.out; omega) ?_; intro v1 w5 hown hgr hvb; have hrow : ∀ b, (Value.slice A3 (wantT q.vars s.op (s.texts.take j)).length c3).ownBlock = some b → W4.heap.size ≤ b := (fun b hb => (World.ownsRow.lt HOI.out b hb).1); have kD5 : Blk w5 D 34 _ := (hgr.block D KDI.out.lt (fun e => by have := hrow _ e.symm; have := HDW.out; omega)).trans KDI.out; obtain ⟨A5, c5, rfl, -⟩ := hown.open_; have d3 := kD5.c3; have dz3 := kD5.fz 3; have KD5 := Lib.hid kD5; have HOW := Lib.hid hown; have HK5 := Lib.hid ((HKI.out).row hgr (fun b hb => .inl (hrow b hb))); clear hown hgr hvb kD5 hrow))
                go_roundw
                case rel =>
                  have hown2 : Own w5 W4.heap.size (.slice A5 ((wantT q.vars s.op (s.texts.take j)).length + 1) c5) (wantT q.vars s.op (s.texts.take (j + 1))) := by
                    rw [wantT_take _ _ _ _ hlt, HWX.out]
                    simpa using HOW.out
                  refine ⟨j + 1, _, by omega, by go_num, Lib.hid ⟨KD5.out.set 3 _, hown2.set (b := D) (fun e => ?_) 3 _, HK5.out.set (.inr rfl) 3 _⟩⟩
                  have h1 := (World.ownsRow.lt hown2 D e.symm).1
                  have := HDW.out
                  omega
                case measure => simp [intOf]; omega
            · have hjn : j = s.texts.length := by omega
              have htk : s.texts.take j = s.texts := List.take_of_length_le (by omega)
              have HJN := Lib.hid hjn
              have HTK := Lib.hid htk
              clear hjn htk
              have kRi := HKI.out.blk KR4.out (by omega)
              have kWi := HKI.out.blk KW4.out (by omega)
              have kDi := KDI.out
              have kBi := KBI.out
              have b0 := kBi.c0
              have b2 := kBi.c2
              have b3 := kBi.c3
              have b4 := kBi.c4
              have d0 := kDi.c0
              have d1 := kDi.c1
              have d2 := kDi.c2
              have r0 := kRi.c0
              have r1 := kRi.c1
              have r2 := kRi.c2
              have r3 := kRi.c3
              have r4 := kRi.c4
              have w0 := kWi.c0
              have w1 := kWi.c1
              have w2 := kWi.c2
              have w3 := kWi.c3
              have rz0 := kRi.fz 0
              have rz1 := kRi.fz 1
              have rz2 := kRi.fz 2
              have rz3 := kRi.fz 3
              have rz4 := kRi.fz 4
              have wz0 := kWi.fz 0
              have wz1 := kWi.fz 1
              have wz2 := kWi.fz 2
              have wz3 := kWi.fz 3
              have nRD : R + 1 + 1 ≠ D := by omega
              have nWD : R + 1 + 1 + 1 ≠ D := by omega
              go_upto_region 16 with (fail)
              go_region
              have hoq9 := HOQ.out
              have hend := want_end (w0 := w) kRi kWi (by omega) hoq9 (by omega) (by omega) HE4.out (by omega) (by omega) (.int .i64 (pl : Int)) (.slice (some ⟨g, 0, none⟩) 6 cg) (.string q.status) (.int .i64 q.count) (.int .i64 0) (.int .i64 s.op) (.int .i64 s.a) (.int .i64 s.b) (.slice A3 (wantT q.vars s.op (List.take j s.texts)).length c3)
              have hend2 := own_end2 (R2 := R + 1 + 1) (R3 := R + 1 + 1 + 1) HOI.out (by have := HDW.out; omega) (by have := HDW.out; omega) (.int .i64 (pl : Int)) (.slice (some ⟨g, 0, none⟩) 6 cg) (.string q.status) (.int .i64 q.count) (.int .i64 0) (.int .i64 s.op) (.int .i64 s.a) (.int .i64 s.b) (.slice A3 (wantT q.vars s.op (List.take j s.texts)).length c3)
              obtain ⟨e1, e2, e3, e4⟩ := hend
              have f1 := e1.ext (Below.drew (Ext.refl _))
              have f2 := e2.ext (Below.drew (Ext.refl _))
              have f3 := e3.ext (Below.drew (Ext.refl _))
              have f4 := Ext.trans e4 (Below.drew (Ext.refl _))
              have f5 := hend2.ext (Below.drew (Ext.refl _))
              simp only [put4, put5] at f1 f2 f3 f4 f5
              clear e1 e2 e3 e4 hend2 hoq9
              generalize World.drew _ = W9 at f1 f2 f3 f4 f5
              clear b0 b2 b3 b4 d0 d1 d2 r0 r1 r2 r3 r4 w0 w1 w2 w3 rz0 rz1 rz2 rz3 rz4 wz0 wz1 wz2 wz3 z0 d3 dz3 b1 kRi kWi kDi kBi
              have x0 := f1.c0
              have x1 := f1.c1
              have x2 := f1.c2
              have x3 := f1.c3
              have x4 := f1.c4
              have t0 := f2.c0
              have t1 := f2.c1
              have t2 := f2.c2
              have t3 := f2.c3
              have HF3 := Lib.hid f3
              have HF4 := Lib.hid f4
              have HF5 := Lib.hid f5
              clear f3 f4 f5
              go_wp2_with fail
              refine bodyPost_ret (v := .tuple #[.agg #[.int .i64 (pl : Int), .slice (some ⟨g, 0, none⟩) 6 cg, .string q.status, .int .i64 q.count, .int .i64 0], .agg #[.int .i64 s.op, .int .i64 s.a, .int .i64 s.b, .slice A3 (wantT q.vars s.op (List.take j s.texts)).length c3], .int .i64 0]) (by simp [results, Tryz.results15, go_sem, x0, x1, x2, x3, x4, t0, t1, t2, t3]) rfl ?_
              have hR9 : wantR P r = (q, wantOf s q, 0) := by unfold wantR; rw [if_pos HA.out, HWANT.out]
              rw [hR9]
              have ho5 := HF5.out
              rw [HTK.out] at ho5 ⊢
              refine ⟨some ⟨g, 0, none⟩, 6, cg, A3, _, c3, ?_, HF3.out.strs.1, HQ.out.six, ho5.strs.1, rfl, HF4.out⟩
              rw [← hpl, ← o1]
              rfl
      · rw [if_pos ho] at kO
        rw [decide_eq_true ho]
        obtain ⟨f0, hf1, hf2⟩ := hW.out.eq
        obtain ⟨f, rfl⟩ : ∃ f, f0 = f + 1 := ⟨f0 - 1, by have := hq.c1; omega⟩
        have hwant : wantS P r = (q.ends (overN n q), zeroWant) := by rw [← hf1, wantF_over (by rw [hnP]; exact ho), hnP]
        have hk2 : Keep2 (R + 1) g wc wo := hW.out.keep.trans (Keep2.of_keep hk47)
        have kRi := hk2.blk KR.out (by omega) (by omega)
        have kWi := hk2.blk KW.out (by omega) (by omega)
        have hown : Own wo W1.heap.size (.slice (some ⟨g, 0, none⟩) 6 cg) q.vars := hW.out.own.kept2 hk47.grown (by simp [Value.ownBlock]; omega)
        have hE2 : Ext w wo := hk2.out HE.out (by omega) (by omega)
        obtain ⟨ov, hov⟩ : ∃ ov, overN n q = ov := ⟨_, rfl⟩
        rw [hov] at kO hwant
        have HWANT := Lib.hid hwant
        have HQ := Lib.hid hq
        have HOWN := Lib.hid hown
        have HE2 := Lib.hid hE2
        clear hwant hq hown hE2 hk2 hk47 hf1 hf2 hW ho hov kQ hkp p0 p1
        have b0 := kO.c0
        have b1 := kO.c1
        have b2 := kO.c2
        have b3 := kO.c3
        have b4 := kO.c4
        have r0 := kRi.c0
        have r1 := kRi.c1
        have r2 := kRi.c2
        have r3 := kRi.c3
        have r4 := kRi.c4
        have w0 := kWi.c0
        have w1 := kWi.c1
        have w2 := kWi.c2
        have w3 := kWi.c3
        have rz0 := kRi.fz 0
        have rz1 := kRi.fz 1
        have rz2 := kRi.fz 2
        have rz3 := kRi.fz 3
        have rz4 := kRi.fz 4
        have wz0 := kWi.fz 0
        have wz1 := kWi.fz 1
        have wz2 := kWi.fz 2
        have wz3 := kWi.fz 3
        go_wp2_with fail
        have hend := want_end (w0 := w) kRi kWi (by omega) HOWN.out (by omega) (by omega) HE2.out (by omega) (by omega) (.int .i64 q.place) (.slice (some ⟨g, 0, none⟩) 6 cg) (.string q.status) (.int .i64 q.count) (.int .i64 ov) (.int .i64 0) (.int .i64 0) (.int .i64 0) (.slice none 0 0)
        obtain ⟨f1, f2, f3, f4⟩ := hend
        clear b0 b1 b2 b3 b4 r0 r1 r2 r3 r4 w0 w1 w2 w3 rz0 rz1 rz2 rz3 rz4 wz0 wz1 wz2 wz3 kRi kWi kO
        have x0 := f1.c0
        have x1 := f1.c1
        have x2 := f1.c2
        have x3 := f1.c3
        have x4 := f1.c4
        have t0 := f2.c0
        have t1 := f2.c1
        have t2 := f2.c2
        have t3 := f2.c3
        refine bodyPost_ret (v := .tuple #[.agg #[.int .i64 q.place, .slice (some ⟨g, 0, none⟩) 6 cg, .string q.status, .int .i64 q.count, .int .i64 ov], .agg #[.int .i64 0, .int .i64 0, .int .i64 0, .slice none 0 0], .int .i64 0]) (by simp [results, Tryz.results15, go_sem, x0, x1, x2, x3, x4, t0, t1, t2, t3]) rfl ?_
        have hR9 : wantR P r = (q.ends ov, zeroWant, 0) := by unfold wantR; rw [if_pos HA.out, HWANT.out]
        rw [hR9]
        exact ⟨some ⟨g, 0, none⟩, 6, cg, none, 0, 0, rfl, f3.strs.1, HQ.out.six, Strs.nil _ _, rfl, f4⟩
  · have haB := bq_no ha
    have r0 := kR.c0
    have r1 := kR.c1
    have r2 := kR.c2
    have r3 := kR.c3
    have r4 := kR.c4
    have w0 := kW.c0
    have w1 := kW.c1
    have w2 := kW.c2
    have w3 := kW.c3
    have rz0 := kR.fz 0
    have rz1 := kR.fz 1
    have rz2 := kR.fz 2
    have rz3 := kR.fz 3
    have rz4 := kR.fz 4
    have wz0 := kW.fz 0
    have wz1 := kW.fz 1
    have wz2 := kW.fz 2
    have wz3 := kW.fz 3
    have HA := Lib.hid ha
    go_wp2_with fail
    have hg5 := grown_put5 W1 (R + 1 + 1) (.int .i64 0) (.slice none 0 0) (.string ⟨#[]⟩) (.int .i64 0) (.int .i64 0)
    have hg4 := grown_put4 (put5 W1 (R + 1 + 1) (.int .i64 0) (.slice none 0 0) (.string ⟨#[]⟩) (.int .i64 0) (.int .i64 0)) (R + 1 + 1 + 1) (.int .i64 0) (.int .i64 0) (.int .i64 0) (.slice none 0 0)
    have kR9 := (kR.put5 (.int .i64 0) (.slice none 0 0) (.string ⟨#[]⟩) (.int .i64 0) (.int .i64 0)).kept hg4 (by omega)
    have kW9 := (kW.kept hg5 (by omega)).put4 (.int .i64 0) (.int .i64 0) (.int .i64 0) (.slice none 0 0)
    have E9 := (E0.grown hg5 (by omega)).grown hg4 (by omega)
    have q0 := kR9.c0
    have q1 := kR9.c1
    have q2 := kR9.c2
    have q3 := kR9.c3
    have q4 := kR9.c4
    have t0 := kW9.c0
    have t1 := kW9.c1
    have t2 := kW9.c2
    have t3 := kW9.c3
    refine bodyPost_ret (v := .tuple #[.agg #[.int .i64 0, .slice none 0 0, .string ⟨#[]⟩, .int .i64 0, .int .i64 0], .agg #[.int .i64 0, .int .i64 0, .int .i64 0, .slice none 0 0], .int .i64 (askedR P r)]) (by simp [results, Tryz.results15, go_sem, q0, q1, q2, q3, q4, t0, t1, t2, t3]) rfl ?_
    have hw : wantR P r = (zeroRun, zeroWant, askedR P r) := by unfold wantR; rw [if_neg HA.out]
    rw [hw]
    exact ⟨none, 0, 0, none, 0, 0, rfl, Strs.nil _ _, rfl, Strs.nil _ _, rfl, E9⟩
end Go.Proofs.YtkdbajpdcadliaaGreatDoor.Pg
