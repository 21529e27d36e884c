/- Walks: own of the program (a step that a run does by itself). -/
import Derived.Test.YtkdbajpdcadliaaGreatDoorYc
import Derived.Test.YtkdbajpdcadliaaGreatDoorXa
import Derived.Test.YtkdbajpdcadliaaGreatDoorWe
import Derived.BigRegion
set_option linter.unusedVariables false
namespace Go.Proofs.YtkdbajpdcadliaaGreatDoor.Pg
open Go.RowKit

/-- The box of a run. -/
abbrev runL (place : Int) (g d : Nat) (st : ByteArray) (count over : Int) : List Value := [.int .i64 place, .slice (some ⟨g, 0, none⟩) 6 d, .string st, .int .i64 count, .int .i64 over]
/-- Nothing that was there has turned but for two blocks. -/
structure Keep2 (b g : Nat) (w w' : World) : Prop where
  os : w'.os = w.os
  tape : w'.tape = w.tape
  output : w'.output = w.output
  size : w.heap.size ≤ w'.heap.size
  block : ∀ k, k < w.heap.size → k ≠ b → k ≠ g → w'.heap[k]? = w.heap[k]?
section
variable {b g : Nat} {w w' v : World}
theorem Keep2.refl (b g : Nat) (w : World) : Keep2 b g w w := ⟨rfl, rfl, rfl, Nat.le_refl _, fun _ _ _ _ => rfl⟩
theorem Keep2.ext (h : Keep2 b g w w') (he : Ext w' v) : Keep2 b g w v :=
  ⟨he.os.trans h.os, he.tape.trans h.tape, he.output.trans h.output, Nat.le_trans h.size he.size, fun k hk h1 h2 => (he.block k (Nat.lt_of_lt_of_le hk h.size)).trans (h.block k hk h1 h2)⟩
theorem Keep2.of (h : Ext w w') : Keep2 b g w w' := (Keep2.refl b g w).ext h
theorem Keep2.trans (h : Keep2 b g w w') (h2 : Keep2 b g w' v) : Keep2 b g w v :=
  ⟨h2.os.trans h.os, h2.tape.trans h.tape, h2.output.trans h.output, Nat.le_trans h.size h2.size, fun k hk h3 h4 => (h2.block k (Nat.lt_of_lt_of_le hk h.size) h3 h4).trans (h.block k hk h3 h4)⟩
theorem Keep2.put (h : Keep2 b g w w') {k : Nat} (hk : k = b ∨ k = g) (j : Nat) (u : Value) : Keep2 b g w (w'.setCell ⟨k, j, none⟩ u) := by
  have hg := grown_set w' k j u
  exact ⟨hg.os.trans h.os, hg.tape.trans h.tape, hg.output.trans h.output, Nat.le_trans h.size hg.size, fun i hi h1 h2 => (hg.block i (Nat.lt_of_lt_of_le hi h.size) (fun e => by rcases hk with e1 | e1 <;> simp only [Option.some.injEq] at e <;> omega)).trans (h.block i hi h1 h2)⟩
theorem Keep2.setb (h : Keep2 b g w w') (j : Nat) (u : Value) : Keep2 b g w (w'.setCell ⟨b, j, none⟩ u) := h.put (.inl rfl) j u
theorem Keep2.setg (h : Keep2 b g w w') (j : Nat) (u : Value) : Keep2 b g w (w'.setCell ⟨g, j, none⟩ u) := h.put (.inr rfl) j u
theorem Keep2.of_keep (h : Keep b w w') : Keep2 b g w w' := ⟨h.os, h.tape, h.output, h.size, fun k hk h1 _ => h.block k hk h1⟩
end
theorem own_ne2 {w : World} {base g d b : Nat} {T : TypeId} {xs : List ByteArray} {cs : List Value} (ho : Own w base (.slice (some ⟨g, 0, none⟩) 6 d) xs) (hb : Blk w b T cs) (hT : T ≠ 9) : b ≠ g := by
  intro e
  exact own_ty ho hb hT (by rw [e]; rfl)
theorem own_end {w W : World} {b base g d : Nat} {place count over : Int} {st : ByteArray} {vs : List ByteArray} (kB : Blk W b 27 (runL place g d st count over)) (ho : Own W base (.slice (some ⟨g, 0, none⟩) 6 d) vs) (hbg : b ≠ g) (h : Keep2 b g w W) (p c : Int) :
    Blk ((W.setCell ⟨b, 0, none⟩ (.int .i64 p)).setCell ⟨b, 3, none⟩ (.int .i64 c)) b 27 (runL p g d st c over) ∧ Own ((W.setCell ⟨b, 0, none⟩ (.int .i64 p)).setCell ⟨b, 3, none⟩ (.int .i64 c)) base (.slice (some ⟨g, 0, none⟩) 6 d) vs ∧ Keep2 b g w ((W.setCell ⟨b, 0, none⟩ (.int .i64 p)).setCell ⟨b, 3, none⟩ (.int .i64 c)) := by
  refine ⟨(kB.set 0 _).set 3 _, (ho.set (b := b) ?_ 0 _).set (b := b) ?_ 3 _, (h.setb 0 _).setb 3 _⟩
  all_goals
    intro e
    exact hbg (Option.some.inj e)

set_option maxRecDepth 100000 in
set_option maxHeartbeats 4000000 in
theorem own48_7 (a : Int) (bb : Int) (Tx : Option Addr) (nx cx : Nat) (ts : List ByteArray) (b g d base : Nat) (place count over : Int) (st : ByteArray) (vs : List ByteArray) (w : World)
    (ht : Strs w Tx ts) (hl : ts.length = nx) (hnx : (nx : Int) ≤ 1000) (hts : ∀ x ∈ ts, (x.size : Int) ≤ 1000) (hb : Blk w b 27 (runL place g d st count over)) (ho : Own w base (.slice (some ⟨g, 0, none⟩) 6 d) vs) (h6 : vs.length = 6) (hvs : ∀ x ∈ vs, (x.size : Int) ≤ 1000)
    (hp0 : 0 ≤ place) (hp1 : place ≤ 1000) (hc0 : 0 ≤ count) (hc1 : count ≤ 1000) (hbb : -10000 ≤ bb) (hbb2 : bb ≤ 10000) :
    Calls Tryz.prog 48 #[.agg #[.int .i64 7, .int .i64 a, .int .i64 bb, .slice Tx nx cx], .pointer (some ⟨b, 0, none⟩)] w fun e w' => e = .returned (.bool true) ∧ Blk w' b 27 (runL (bb) g d (st) (count + 1) over) ∧ Own w' base (.slice (some ⟨g, 0, none⟩) 6 d) (vs) ∧ Keep2 b g w w' := by
  have E0 := Ext.new w (.cells #[.int .i64 7, .int .i64 a, .int .i64 bb, .slice Tx nx cx] 77)
  have kS := Blk.new w [.int .i64 7, .int .i64 a, .int .i64 bb, .slice Tx nx cx] 77
  have kB := hb.ext E0
  have HO := Lib.hid (ho.ext E0)
  have HT := Lib.hid (ht.ext E0)
  have hbg := own_ne2 ho hb (by decide)
  have hlt := hb.lt
  have hgl : g < w.heap.size := (World.ownsRow.lt ho g rfl).2
  obtain ⟨S, hS⟩ : ∃ S, w.heap.size = S := ⟨_, rfl⟩
  have hbS : b ≠ S := by omega
  have HV := Lib.hid hvs
  have HTS := Lib.hid hts
  have HL := Lib.hid hl
  have H6 := Lib.hid h6
  clear hb ho ht hvs hts hl h6
  go_enter Tryz.func48, Tryz.ntmps48
  go_upto_region 1 with (fail)
  rw [hS] at kS
  try simp only [hS]
  generalize World.alloc _ _ = W0 at E0 kS kB HO HT
  have x0 := kS.c0
  have x1 := kS.c1
  have x2 := kS.c2
  have x3 := kS.c3
  have y0 := kB.c0
  have y1 := kB.c1
  have y2 := kB.c2
  have y3 := kB.c3
  have f0 := kB.fz 0
  have f2 := kB.fz 2
  have f3 := kB.fz 3
  go_wp2
  go_ret
  exact ⟨rfl, own_end kB HO.out hbg (Keep2.of E0) _ _⟩

set_option maxRecDepth 100000 in
set_option maxHeartbeats 4000000 in
theorem own48_0 (op a : Int) (n3 : op ≠ 3) (n4 : op ≠ 4) (n5 : op ≠ 5) (n6 : op ≠ 6) (n7 : op ≠ 7) (bb : Int) (Tx : Option Addr) (nx cx : Nat) (ts : List ByteArray) (b g d base : Nat) (place count over : Int) (st : ByteArray) (vs : List ByteArray) (w : World)
    (ht : Strs w Tx ts) (hl : ts.length = nx) (hnx : (nx : Int) ≤ 1000) (hts : ∀ x ∈ ts, (x.size : Int) ≤ 1000) (hb : Blk w b 27 (runL place g d st count over)) (ho : Own w base (.slice (some ⟨g, 0, none⟩) 6 d) vs) (h6 : vs.length = 6) (hvs : ∀ x ∈ vs, (x.size : Int) ≤ 1000)
    (hp0 : 0 ≤ place) (hp1 : place ≤ 1000) (hc0 : 0 ≤ count) (hc1 : count ≤ 1000) (hbb : -10000 ≤ bb) (hbb2 : bb ≤ 10000) :
    Calls Tryz.prog 48 #[.agg #[.int .i64 op, .int .i64 a, .int .i64 bb, .slice Tx nx cx], .pointer (some ⟨b, 0, none⟩)] w fun e w' => e = .returned (.bool false) ∧ Blk w' b 27 (runL (place) g d (st) (count) over) ∧ Own w' base (.slice (some ⟨g, 0, none⟩) 6 d) (vs) ∧ Keep2 b g w w' := by
  have E0 := Ext.new w (.cells #[.int .i64 op, .int .i64 a, .int .i64 bb, .slice Tx nx cx] 77)
  have kS := Blk.new w [.int .i64 op, .int .i64 a, .int .i64 bb, .slice Tx nx cx] 77
  have kB := hb.ext E0
  have HO := Lib.hid (ho.ext E0)
  have HT := Lib.hid (ht.ext E0)
  have hbg := own_ne2 ho hb (by decide)
  have hlt := hb.lt
  have hgl : g < w.heap.size := (World.ownsRow.lt ho g rfl).2
  obtain ⟨S, hS⟩ : ∃ S, w.heap.size = S := ⟨_, rfl⟩
  have hbS : b ≠ S := by omega
  have HV := Lib.hid hvs
  have HTS := Lib.hid hts
  have HL := Lib.hid hl
  have H6 := Lib.hid h6
  clear hb ho ht hvs hts hl h6
  go_enter Tryz.func48, Tryz.ntmps48
  go_upto_region 1 with (fail)
  rw [hS] at kS
  try simp only [hS]
  generalize World.alloc _ _ = W0 at E0 kS kB HO HT
  have x0 := kS.c0
  have x1 := kS.c1
  have x2 := kS.c2
  have x3 := kS.c3
  have y0 := kB.c0
  have y1 := kB.c1
  have y2 := kB.c2
  have y3 := kB.c3
  have f0 := kB.fz 0
  have f2 := kB.fz 2
  have f3 := kB.fz 3
  have q3 := bq_no n3
  have q4 := bq_no n4
  have q5 := bq_no n5
  have q6 := bq_no n6
  have q7 := bq_no n7
  go_wp2
  go_ret
  exact ⟨rfl, kB, HO.out, Keep2.of E0⟩

set_option maxRecDepth 100000 in
set_option maxHeartbeats 4000000 in
theorem own48_51 (a : Int) (bb : Int) (Tx : Option Addr) (nx cx : Nat) (ts : List ByteArray) (b g d base : Nat) (place count over : Int) (st : ByteArray) (vs : List ByteArray) (w : World)
    (ht : Strs w Tx ts) (hl : ts.length = nx) (hnx : (nx : Int) ≤ 1000) (hts : ∀ x ∈ ts, (x.size : Int) ≤ 1000) (hb : Blk w b 27 (runL place g d st count over)) (ho : Own w base (.slice (some ⟨g, 0, none⟩) 6 d) vs) (h6 : vs.length = 6) (hvs : ∀ x ∈ vs, (x.size : Int) ≤ 1000)
    (hp0 : 0 ≤ place) (hp1 : place ≤ 1000) (hc0 : 0 ≤ count) (hc1 : count ≤ 1000) (hbb : -10000 ≤ bb) (hbb2 : bb ≤ 10000) (hpos : 0 < nx) (hq : st = headT ts) :
    Calls Tryz.prog 48 #[.agg #[.int .i64 5, .int .i64 a, .int .i64 bb, .slice Tx nx cx], .pointer (some ⟨b, 0, none⟩)] w fun e w' => e = .returned (.bool true) ∧ Blk w' b 27 (runL (bb) g d (st) (count + 1) over) ∧ Own w' base (.slice (some ⟨g, 0, none⟩) 6 d) (vs) ∧ Keep2 b g w w' := by
  have E0 := Ext.new w (.cells #[.int .i64 5, .int .i64 a, .int .i64 bb, .slice Tx nx cx] 77)
  have kS := Blk.new w [.int .i64 5, .int .i64 a, .int .i64 bb, .slice Tx nx cx] 77
  have kB := hb.ext E0
  have HO := Lib.hid (ho.ext E0)
  have HT := Lib.hid (ht.ext E0)
  have hbg := own_ne2 ho hb (by decide)
  have hlt := hb.lt
  have hgl : g < w.heap.size := (World.ownsRow.lt ho g rfl).2
  obtain ⟨S, hS⟩ : ∃ S, w.heap.size = S := ⟨_, rfl⟩
  have hbS : b ≠ S := by omega
  have HV := Lib.hid hvs
  have HTS := Lib.hid hts
  have HL := Lib.hid hl
  have H6 := Lib.hid h6
  clear hb ho ht hvs hts hl h6
  obtain ⟨t0, rs, rfl⟩ : ∃ t0 rs, ts = t0 :: rs := by
    cases ts with
    | nil => have := HL.out; simp at this; omega
    | cons t l => exact ⟨t, l, rfl⟩
  replace hq := str_eq hq
  replace hq : (st.toList == t0.toList) = true := hq
  go_enter Tryz.func48, Tryz.ntmps48
  go_upto_region 1 with (fail)
  rw [hS] at kS
  try simp only [hS]
  generalize World.alloc _ _ = W0 at E0 kS kB HO HT
  have x0 := kS.c0
  have x1 := kS.c1
  have x2 := kS.c2
  have x3 := kS.c3
  have y0 := kB.c0
  have y1 := kB.c1
  have y2 := kB.c2
  have y3 := kB.c3
  have f0 := kB.fz 0
  have f2 := kB.fz 2
  have f3 := kB.fz 3
  obtain ⟨ad, hA, hc⟩ := HT.out 0 (by simp)
  subst hA
  have hc : W0.cell? ad = some (.string t0) := hc
  go_upto_region 14 with (fail)
  go_quiet (fail)
  go_wp2
  go_ret
  exact ⟨rfl, own_end (kB.drewN _) (HO.out.ext ((Ext.refl _).drewN _)) hbg (Keep2.of (Ext.drewN E0 _)) _ _⟩

set_option maxRecDepth 100000 in
set_option maxHeartbeats 4000000 in
theorem own48_50 (a : Int) (bb : Int) (Tx : Option Addr) (nx cx : Nat) (ts : List ByteArray) (b g d base : Nat) (place count over : Int) (st : ByteArray) (vs : List ByteArray) (w : World)
    (ht : Strs w Tx ts) (hl : ts.length = nx) (hnx : (nx : Int) ≤ 1000) (hts : ∀ x ∈ ts, (x.size : Int) ≤ 1000) (hb : Blk w b 27 (runL place g d st count over)) (ho : Own w base (.slice (some ⟨g, 0, none⟩) 6 d) vs) (h6 : vs.length = 6) (hvs : ∀ x ∈ vs, (x.size : Int) ≤ 1000)
    (hp0 : 0 ≤ place) (hp1 : place ≤ 1000) (hc0 : 0 ≤ count) (hc1 : count ≤ 1000) (hbb : -10000 ≤ bb) (hbb2 : bb ≤ 10000) (hpos : 0 < nx) (hq : ¬ st = headT ts) :
    Calls Tryz.prog 48 #[.agg #[.int .i64 5, .int .i64 a, .int .i64 bb, .slice Tx nx cx], .pointer (some ⟨b, 0, none⟩)] w fun e w' => e = .returned (.bool true) ∧ Blk w' b 27 (runL (place + 1) g d (st) (count + 1) over) ∧ Own w' base (.slice (some ⟨g, 0, none⟩) 6 d) (vs) ∧ Keep2 b g w w' := by
  have E0 := Ext.new w (.cells #[.int .i64 5, .int .i64 a, .int .i64 bb, .slice Tx nx cx] 77)
  have kS := Blk.new w [.int .i64 5, .int .i64 a, .int .i64 bb, .slice Tx nx cx] 77
  have kB := hb.ext E0
  have HO := Lib.hid (ho.ext E0)
  have HT := Lib.hid (ht.ext E0)
  have hbg := own_ne2 ho hb (by decide)
  have hlt := hb.lt
  have hgl : g < w.heap.size := (World.ownsRow.lt ho g rfl).2
  obtain ⟨S, hS⟩ : ∃ S, w.heap.size = S := ⟨_, rfl⟩
  have hbS : b ≠ S := by omega
  have HV := Lib.hid hvs
  have HTS := Lib.hid hts
  have HL := Lib.hid hl
  have H6 := Lib.hid h6
  clear hb ho ht hvs hts hl h6
  obtain ⟨t0, rs, rfl⟩ : ∃ t0 rs, ts = t0 :: rs := by
    cases ts with
    | nil => have := HL.out; simp at this; omega
    | cons t l => exact ⟨t, l, rfl⟩
  replace hq := str_ne hq
  replace hq : (st.toList == t0.toList) = false := hq
  go_enter Tryz.func48, Tryz.ntmps48
  go_upto_region 1 with (fail)
  rw [hS] at kS
  try simp only [hS]
  generalize World.alloc _ _ = W0 at E0 kS kB HO HT
  have x0 := kS.c0
  have x1 := kS.c1
  have x2 := kS.c2
  have x3 := kS.c3
  have y0 := kB.c0
  have y1 := kB.c1
  have y2 := kB.c2
  have y3 := kB.c3
  have f0 := kB.fz 0
  have f2 := kB.fz 2
  have f3 := kB.fz 3
  obtain ⟨ad, hA, hc⟩ := HT.out 0 (by simp)
  subst hA
  have hc : W0.cell? ad = some (.string t0) := hc
  go_upto_region 14 with (fail)
  go_quiet (fail)
  go_wp2
  go_ret
  exact ⟨rfl, own_end (kB.drewN _) (HO.out.ext ((Ext.refl _).drewN _)) hbg (Keep2.of (Ext.drewN E0 _)) _ _⟩

set_option maxRecDepth 100000 in
set_option maxHeartbeats 4000000 in
theorem own48_3 (ai : Nat) (hai : ai < 6) (bb : Int) (Tx : Option Addr) (nx cx : Nat) (ts : List ByteArray) (b g d base : Nat) (place count over : Int) (st : ByteArray) (vs : List ByteArray) (w : World)
    (ht : Strs w Tx ts) (hl : ts.length = nx) (hnx : (nx : Int) ≤ 1000) (hts : ∀ x ∈ ts, (x.size : Int) ≤ 1000) (hb : Blk w b 27 (runL place g d st count over)) (ho : Own w base (.slice (some ⟨g, 0, none⟩) 6 d) vs) (h6 : vs.length = 6) (hvs : ∀ x ∈ vs, (x.size : Int) ≤ 1000)
    (hp0 : 0 ≤ place) (hp1 : place ≤ 1000) (hc0 : 0 ≤ count) (hc1 : count ≤ 1000) (hbb : -10000 ≤ bb) (hbb2 : bb ≤ 10000) (hpos : 0 < nx) (hTg : ∀ ad, Tx = some ad → ad.block ≠ g) :
    Calls Tryz.prog 48 #[.agg #[.int .i64 3, .int .i64 (ai : Int), .int .i64 bb, .slice Tx nx cx], .pointer (some ⟨b, 0, none⟩)] w fun e w' => e = .returned (.bool true) ∧ Blk w' b 27 (runL (place + 1) g d (st) (count + 1) over) ∧ Own w' base (.slice (some ⟨g, 0, none⟩) 6 d) (vs.set ai (fillS vs (headT ts))) ∧ Keep2 b g w w' := by
  have E0 := Ext.new w (.cells #[.int .i64 3, .int .i64 (ai : Int), .int .i64 bb, .slice Tx nx cx] 77)
  have kS := Blk.new w [.int .i64 3, .int .i64 (ai : Int), .int .i64 bb, .slice Tx nx cx] 77
  have kB := hb.ext E0
  have HO := Lib.hid (ho.ext E0)
  have HT := Lib.hid (ht.ext E0)
  have hbg := own_ne2 ho hb (by decide)
  have hlt := hb.lt
  have hgl : g < w.heap.size := (World.ownsRow.lt ho g rfl).2
  obtain ⟨S, hS⟩ : ∃ S, w.heap.size = S := ⟨_, rfl⟩
  have hbS : b ≠ S := by omega
  have HV := Lib.hid hvs
  have HTS := Lib.hid hts
  have HL := Lib.hid hl
  have H6 := Lib.hid h6
  clear hb ho ht hvs hts hl h6
  obtain ⟨t0, rs, rfl⟩ : ∃ t0 rs, ts = t0 :: rs := by
    cases ts with
    | nil => have := HL.out; simp at this; omega
    | cons t l => exact ⟨t, l, rfl⟩
  go_enter Tryz.func48, Tryz.ntmps48
  go_upto_region 1 with (fail)
  rw [hS] at kS
  try simp only [hS]
  generalize World.alloc _ _ = W0 at E0 kS kB HO HT
  have x0 := kS.c0
  have x1 := kS.c1
  have x2 := kS.c2
  have x3 := kS.c3
  have y0 := kB.c0
  have y1 := kB.c1
  have y2 := kB.c2
  have y3 := kB.c3
  have f0 := kB.fz 0
  have f2 := kB.fz 2
  have f3 := kB.fz 3
  obtain ⟨ad, hA, hc⟩ := HT.out 0 (by simp)
  subst hA
  have hc : W0.cell? ad = some (.string t0) := hc
  have hf : ∀ W', Ext W0 W' → Calls Tryz.prog 49 #[.slice (some ⟨g, 0, none⟩) 6 d, .string t0] W' fun e Y => e = .returned (.string (fillS vs t0)) ∧ Ext W' Y := fun W' h => by
    obtain ⟨A, c, e, _, hs, _⟩ := (HO.out.ext h).open_
    simp only [Value.slice.injEq] at e
    rw [← e.1] at hs
    exact fill49 _ d vs t0 W' hs H6.out HV.out (HTS.out t0 (by simp))
  have HF := Lib.hid hf
  clear hf
  have hai' : (ai : Int) < 6 := by omega
  have hai0 : (0 : Int) ≤ ai := by omega
  have nbg : b ≠ g := hbg
  have nSg : S ≠ g := by omega
  have ngb : g ≠ b := by omega
  have ngS : g ≠ S := by omega
  have nag := hTg ad rfl
  have nga : g ≠ ad.block := fun e => nag e.symm
  have h6a : ai < vs.length := by have := H6.out; omega
  have hca := HO.out.cellAt ai h6a
  go_upto_region 5 with (fail)
  go_region_held3 (fun w' => w'.cell? ⟨b, 1, none⟩ = some (.slice (some ⟨g, 0, none⟩) 6 d) ∧ w'.cell? ⟨S, 1, none⟩ = some (.int .i64 (ai : Int)) ∧ w'.cell? ⟨S, 3, none⟩ = some (.slice (some ad) nx cx) ∧ w'.cell? ad = some (.string t0)) (go_keep) (first | (go_at_call 49; refine (HF.out _ (by first | exact Ext.refl _ | exact Below.drew (Ext.refl _))).mono ?_; rintro e Y ⟨rfl, he⟩; have hw : Ext W0 Y := Ext.trans (by first | exact Ext.refl _ | exact Below.drew (Ext.refl _)) he; have KB4 := Lib.hid (kB.ext hw); have m1 := (kB.ext hw).c1; have HO4 := Lib.hid (HO.out.ext hw); have m2 := (kS.ext hw).c1; have m3 := (kS.ext hw).c3; have m4 := hw.cell hc; have m5 := hw.cell hca; have m0 := (kB.ext hw).c0; have m7 := (kB.ext hw).c3; have g0 := (kB.ext hw).fz 0; have g3 := (kB.ext hw).fz 3; have g5 := (HO.out.ext hw).fzAt ai; have m6 := (kS.ext hw).c2; have HW := Lib.hid hw; clear he hw))
  have hBY : Keep2 b g w Y := Keep2.of (Ext.trans E0 HW.out)
  have HBY := Lib.hid (hBY.setg ai (.string (fillS vs t0)))
  clear hBY
  go_wp2
  go_ret
  exact ⟨rfl, own_end (KB4.out.other hbg ai _) (HO4.out.stored ai _) hbg HBY.out _ _⟩

set_option maxRecDepth 100000 in
set_option maxHeartbeats 4000000 in
theorem own48_61 (ai : Nat) (hai : ai < 6) (bb : Int) (Tx : Option Addr) (nx cx : Nat) (ts : List ByteArray) (b g d base : Nat) (place count over : Int) (st : ByteArray) (vs : List ByteArray) (w : World)
    (ht : Strs w Tx ts) (hl : ts.length = nx) (hnx : (nx : Int) ≤ 1000) (hts : ∀ x ∈ ts, (x.size : Int) ≤ 1000) (hb : Blk w b 27 (runL place g d st count over)) (ho : Own w base (.slice (some ⟨g, 0, none⟩) 6 d) vs) (h6 : vs.length = 6) (hvs : ∀ x ∈ vs, (x.size : Int) ≤ 1000)
    (hp0 : 0 ≤ place) (hp1 : place ≤ 1000) (hc0 : 0 ≤ count) (hc1 : count ≤ 1000) (hbb : -10000 ≤ bb) (hbb2 : bb ≤ 10000) (hpos : 0 < nx) (hTg : ∀ ad, Tx = some ad → ad.block ≠ g) (hq : varAt vs (ai : Int) = fillS vs (headT ts)) :
    Calls Tryz.prog 48 #[.agg #[.int .i64 6, .int .i64 (ai : Int), .int .i64 bb, .slice Tx nx cx], .pointer (some ⟨b, 0, none⟩)] w fun e w' => e = .returned (.bool true) ∧ Blk w' b 27 (runL (bb) g d (st) (count + 1) over) ∧ Own w' base (.slice (some ⟨g, 0, none⟩) 6 d) (vs) ∧ Keep2 b g w w' := by
  have E0 := Ext.new w (.cells #[.int .i64 6, .int .i64 (ai : Int), .int .i64 bb, .slice Tx nx cx] 77)
  have kS := Blk.new w [.int .i64 6, .int .i64 (ai : Int), .int .i64 bb, .slice Tx nx cx] 77
  have kB := hb.ext E0
  have HO := Lib.hid (ho.ext E0)
  have HT := Lib.hid (ht.ext E0)
  have hbg := own_ne2 ho hb (by decide)
  have hlt := hb.lt
  have hgl : g < w.heap.size := (World.ownsRow.lt ho g rfl).2
  obtain ⟨S, hS⟩ : ∃ S, w.heap.size = S := ⟨_, rfl⟩
  have hbS : b ≠ S := by omega
  have HV := Lib.hid hvs
  have HTS := Lib.hid hts
  have HL := Lib.hid hl
  have H6 := Lib.hid h6
  clear hb ho ht hvs hts hl h6
  obtain ⟨t0, rs, rfl⟩ : ∃ t0 rs, ts = t0 :: rs := by
    cases ts with
    | nil => have := HL.out; simp at this; omega
    | cons t l => exact ⟨t, l, rfl⟩
  have hva : varAt vs (ai : Int) = vs[ai]'(by have := H6.out; omega) := by
    unfold varAt
    rw [List.getD_eq_getElem?_getD, Int.toNat_natCast, List.getElem?_eq_getElem (by have := H6.out; omega)]
    rfl
  rw [hva] at hq
  replace hq := str_eq hq
  replace hq : ((vs[ai]'(by have := H6.out; omega)).toList == (fillS vs t0).toList) = true := hq
  clear hva
  go_enter Tryz.func48, Tryz.ntmps48
  go_upto_region 1 with (fail)
  rw [hS] at kS
  try simp only [hS]
  generalize World.alloc _ _ = W0 at E0 kS kB HO HT
  have x0 := kS.c0
  have x1 := kS.c1
  have x2 := kS.c2
  have x3 := kS.c3
  have y0 := kB.c0
  have y1 := kB.c1
  have y2 := kB.c2
  have y3 := kB.c3
  have f0 := kB.fz 0
  have f2 := kB.fz 2
  have f3 := kB.fz 3
  obtain ⟨ad, hA, hc⟩ := HT.out 0 (by simp)
  subst hA
  have hc : W0.cell? ad = some (.string t0) := hc
  have hf : ∀ W', Ext W0 W' → Calls Tryz.prog 49 #[.slice (some ⟨g, 0, none⟩) 6 d, .string t0] W' fun e Y => e = .returned (.string (fillS vs t0)) ∧ Ext W' Y := fun W' h => by
    obtain ⟨A, c, e, _, hs, _⟩ := (HO.out.ext h).open_
    simp only [Value.slice.injEq] at e
    rw [← e.1] at hs
    exact fill49 _ d vs t0 W' hs H6.out HV.out (HTS.out t0 (by simp))
  have HF := Lib.hid hf
  clear hf
  have hai' : (ai : Int) < 6 := by omega
  have hai0 : (0 : Int) ≤ ai := by omega
  have nbg : b ≠ g := hbg
  have nSg : S ≠ g := by omega
  have ngb : g ≠ b := by omega
  have ngS : g ≠ S := by omega
  have nag := hTg ad rfl
  have nga : g ≠ ad.block := fun e => nag e.symm
  have h6a : ai < vs.length := by have := H6.out; omega
  have hca := HO.out.cellAt ai h6a
  go_upto_region 17 with (fail)
  go_region_held3 (fun w' => w'.cell? ⟨b, 1, none⟩ = some (.slice (some ⟨g, 0, none⟩) 6 d) ∧ w'.cell? ⟨S, 1, none⟩ = some (.int .i64 (ai : Int)) ∧ w'.cell? ⟨S, 3, none⟩ = some (.slice (some ad) nx cx) ∧ w'.cell? ad = some (.string t0) ∧ w'.cell? ⟨g, ai, none⟩ = some (.string vs[ai])) (go_keep) (first | (go_at_call 49; refine (HF.out _ (by first | exact Ext.refl _ | exact Below.drew (Ext.refl _))).mono ?_; rintro e Y ⟨rfl, he⟩; have hw : Ext W0 Y := Ext.trans (by first | exact Ext.refl _ | exact Below.drew (Ext.refl _)) he; have KB4 := Lib.hid (kB.ext hw); have m1 := (kB.ext hw).c1; have HO4 := Lib.hid (HO.out.ext hw); have m2 := (kS.ext hw).c1; have m3 := (kS.ext hw).c3; have m4 := hw.cell hc; have m5 := hw.cell hca; have m8 := hw.cell hca; have m0 := (kB.ext hw).c0; have m7 := (kB.ext hw).c3; have g0 := (kB.ext hw).fz 0; have g3 := (kB.ext hw).fz 3; have g5 := (HO.out.ext hw).fzAt ai; have m6 := (kS.ext hw).c2; have HW := Lib.hid hw; clear he hw))
  have hBY : Keep2 b g w Y := Keep2.of (Ext.trans E0 HW.out)
  have HBY := Lib.hid hBY
  clear hBY
  go_wp2
  go_ret
  exact ⟨rfl, own_end KB4.out HO4.out hbg HBY.out _ _⟩

set_option maxRecDepth 100000 in
set_option maxHeartbeats 4000000 in
theorem own48_60 (ai : Nat) (hai : ai < 6) (bb : Int) (Tx : Option Addr) (nx cx : Nat) (ts : List ByteArray) (b g d base : Nat) (place count over : Int) (st : ByteArray) (vs : List ByteArray) (w : World)
    (ht : Strs w Tx ts) (hl : ts.length = nx) (hnx : (nx : Int) ≤ 1000) (hts : ∀ x ∈ ts, (x.size : Int) ≤ 1000) (hb : Blk w b 27 (runL place g d st count over)) (ho : Own w base (.slice (some ⟨g, 0, none⟩) 6 d) vs) (h6 : vs.length = 6) (hvs : ∀ x ∈ vs, (x.size : Int) ≤ 1000)
    (hp0 : 0 ≤ place) (hp1 : place ≤ 1000) (hc0 : 0 ≤ count) (hc1 : count ≤ 1000) (hbb : -10000 ≤ bb) (hbb2 : bb ≤ 10000) (hpos : 0 < nx) (hTg : ∀ ad, Tx = some ad → ad.block ≠ g) (hq : ¬ varAt vs (ai : Int) = fillS vs (headT ts)) :
    Calls Tryz.prog 48 #[.agg #[.int .i64 6, .int .i64 (ai : Int), .int .i64 bb, .slice Tx nx cx], .pointer (some ⟨b, 0, none⟩)] w fun e w' => e = .returned (.bool true) ∧ Blk w' b 27 (runL (place + 1) g d (st) (count + 1) over) ∧ Own w' base (.slice (some ⟨g, 0, none⟩) 6 d) (vs) ∧ Keep2 b g w w' := by
  have E0 := Ext.new w (.cells #[.int .i64 6, .int .i64 (ai : Int), .int .i64 bb, .slice Tx nx cx] 77)
  have kS := Blk.new w [.int .i64 6, .int .i64 (ai : Int), .int .i64 bb, .slice Tx nx cx] 77
  have kB := hb.ext E0
  have HO := Lib.hid (ho.ext E0)
  have HT := Lib.hid (ht.ext E0)
  have hbg := own_ne2 ho hb (by decide)
  have hlt := hb.lt
  have hgl : g < w.heap.size := (World.ownsRow.lt ho g rfl).2
  obtain ⟨S, hS⟩ : ∃ S, w.heap.size = S := ⟨_, rfl⟩
  have hbS : b ≠ S := by omega
  have HV := Lib.hid hvs
  have HTS := Lib.hid hts
  have HL := Lib.hid hl
  have H6 := Lib.hid h6
  clear hb ho ht hvs hts hl h6
  obtain ⟨t0, rs, rfl⟩ : ∃ t0 rs, ts = t0 :: rs := by
    cases ts with
    | nil => have := HL.out; simp at this; omega
    | cons t l => exact ⟨t, l, rfl⟩
  have hva : varAt vs (ai : Int) = vs[ai]'(by have := H6.out; omega) := by
    unfold varAt
    rw [List.getD_eq_getElem?_getD, Int.toNat_natCast, List.getElem?_eq_getElem (by have := H6.out; omega)]
    rfl
  rw [hva] at hq
  replace hq := str_ne hq
  replace hq : ((vs[ai]'(by have := H6.out; omega)).toList == (fillS vs t0).toList) = false := hq
  clear hva
  go_enter Tryz.func48, Tryz.ntmps48
  go_upto_region 1 with (fail)
  rw [hS] at kS
  try simp only [hS]
  generalize World.alloc _ _ = W0 at E0 kS kB HO HT
  have x0 := kS.c0
  have x1 := kS.c1
  have x2 := kS.c2
  have x3 := kS.c3
  have y0 := kB.c0
  have y1 := kB.c1
  have y2 := kB.c2
  have y3 := kB.c3
  have f0 := kB.fz 0
  have f2 := kB.fz 2
  have f3 := kB.fz 3
  obtain ⟨ad, hA, hc⟩ := HT.out 0 (by simp)
  subst hA
  have hc : W0.cell? ad = some (.string t0) := hc
  have hf : ∀ W', Ext W0 W' → Calls Tryz.prog 49 #[.slice (some ⟨g, 0, none⟩) 6 d, .string t0] W' fun e Y => e = .returned (.string (fillS vs t0)) ∧ Ext W' Y := fun W' h => by
    obtain ⟨A, c, e, _, hs, _⟩ := (HO.out.ext h).open_
    simp only [Value.slice.injEq] at e
    rw [← e.1] at hs
    exact fill49 _ d vs t0 W' hs H6.out HV.out (HTS.out t0 (by simp))
  have HF := Lib.hid hf
  clear hf
  have hai' : (ai : Int) < 6 := by omega
  have hai0 : (0 : Int) ≤ ai := by omega
  have nbg : b ≠ g := hbg
  have nSg : S ≠ g := by omega
  have ngb : g ≠ b := by omega
  have ngS : g ≠ S := by omega
  have nag := hTg ad rfl
  have nga : g ≠ ad.block := fun e => nag e.symm
  have h6a : ai < vs.length := by have := H6.out; omega
  have hca := HO.out.cellAt ai h6a
  go_upto_region 17 with (fail)
  go_region_held3 (fun w' => w'.cell? ⟨b, 1, none⟩ = some (.slice (some ⟨g, 0, none⟩) 6 d) ∧ w'.cell? ⟨S, 1, none⟩ = some (.int .i64 (ai : Int)) ∧ w'.cell? ⟨S, 3, none⟩ = some (.slice (some ad) nx cx) ∧ w'.cell? ad = some (.string t0) ∧ w'.cell? ⟨g, ai, none⟩ = some (.string vs[ai])) (go_keep) (first | (go_at_call 49; refine (HF.out _ (by first | exact Ext.refl _ | exact Below.drew (Ext.refl _))).mono ?_; rintro e Y ⟨rfl, he⟩; have hw : Ext W0 Y := Ext.trans (by first | exact Ext.refl _ | exact Below.drew (Ext.refl _)) he; have KB4 := Lib.hid (kB.ext hw); have m1 := (kB.ext hw).c1; have HO4 := Lib.hid (HO.out.ext hw); have m2 := (kS.ext hw).c1; have m3 := (kS.ext hw).c3; have m4 := hw.cell hc; have m5 := hw.cell hca; have m8 := hw.cell hca; have m0 := (kB.ext hw).c0; have m7 := (kB.ext hw).c3; have g0 := (kB.ext hw).fz 0; have g3 := (kB.ext hw).fz 3; have g5 := (HO.out.ext hw).fzAt ai; have m6 := (kS.ext hw).c2; have HW := Lib.hid hw; clear he hw))
  have hBY : Keep2 b g w Y := Keep2.of (Ext.trans E0 HW.out)
  have HBY := Lib.hid hBY
  clear hBY
  go_wp2
  go_ret
  exact ⟨rfl, own_end KB4.out HO4.out hbg HBY.out _ _⟩

/-- A block behind the globals. -/
structure GlB (b : Nat) : Prop where
  ge : Tryz.prog.globals.size ≤ b
theorem globals_pos : 0 < Tryz.prog.globals.size := of_decide_eq_true (show decide (0 < Tryz.prog.globals.size) = true by kernel_rfl)
theorem GlB.ne0 {b : Nat} (h : GlB b) : 0 ≠ b := by have := h.ge; have := globals_pos; omega
theorem var_set {w : World} {b : Nat} (hb : GlB b) {n : String} {cs : Array Value} (h : w.var? Tryz.prog n = some cs) (j : Nat) (u : Value) : (w.setCell ⟨b, j, none⟩ u).var? Tryz.prog n = some cs := by
  unfold World.var? at h ⊢
  cases hg : Tryz.prog.globalNamed n with
  | none => simp [hg] at h
  | some g =>
    simp only [hg, Option.bind_some] at h ⊢
    have hlt : g < Tryz.prog.globals.size := by
      unfold Program.globalNamed at hg
      split at hg
      · rename_i g' e
        cases hg
        have hm : g ∈ List.filter (fun g => Option.any (fun x => x.name == n) Tryz.prog.globals[g]?) (List.range Tryz.prog.globals.size) := by rw [e]; simp
        exact List.mem_range.1 (List.mem_filter.1 hm).1
      · cases hg
    rw [Below.heap_setCell w ⟨b, j, none⟩ u g (by have := hb.ge; show g ≠ b; omega)]
    exact h
theorem gl_set {w : World} {b : Nat} (h : Gl w) (hb : GlB b) (j : Nat) (u : Value) : Gl (w.setCell ⟨b, j, none⟩ u) := by
  obtain ⟨m, hm⟩ := h.len
  obtain ⟨t1, p1, h1⟩ := h.syn
  obtain ⟨t2, p2, h2⟩ := h.rng
  exact ⟨⟨m, (World.cell?_of_block (Below.heap_setCell w ⟨b, j, none⟩ u 0 hb.ne0)).trans hm⟩, var_set hb h.tab j u, ⟨t1, p1, var_set hb h1 j u⟩, ⟨t2, p2, var_set hb h2 j u⟩⟩

set_option maxRecDepth 100000 in
set_option maxHeartbeats 4000000 in
theorem own48_4a (ai : Nat) (hai : ai < 6) (v er : Int) (bb : Int) (Tx : Option Addr) (nx cx : Nat) (ts : List ByteArray) (b g d base : Nat) (place count over : Int) (st : ByteArray) (vs : List ByteArray) (w : World)
    (ht : Strs w Tx ts) (hl : ts.length = nx) (hnx : (nx : Int) ≤ 1000) (hts : ∀ x ∈ ts, (x.size : Int) ≤ 1000) (hb : Blk w b 27 (runL place g d st count over)) (ho : Own w base (.slice (some ⟨g, 0, none⟩) 6 d) vs) (h6 : vs.length = 6) (hvs : ∀ x ∈ vs, (x.size : Int) ≤ 1000)
    (hp0 : 0 ≤ place) (hp1 : place ≤ 1000) (hc0 : 0 ≤ count) (hc1 : count ≤ 1000) (hbb : -10000 ≤ bb) (hbb2 : bb ≤ 10000) (hg : Gl w) (hgb : GlB b) (hfd : fdS (varAt vs (ai : Int)) = (v, er)) (her : ¬ er = 0) :
    Calls Tryz.prog 48 #[.agg #[.int .i64 4, .int .i64 (ai : Int), .int .i64 bb, .slice Tx nx cx], .pointer (some ⟨b, 0, none⟩)] w fun e w' => e = .returned (.bool true) ∧ Blk w' b 27 (runL (place + 1) g d (⟨#[78, 68]⟩) (count + 1) over) ∧ Own w' base (.slice (some ⟨g, 0, none⟩) 6 d) (vs) ∧ Keep2 b g w w' := by
  have HG := Lib.hid hg
  have HGB := Lib.hid hgb
  clear hg hgb
  have E0 := Ext.new w (.cells #[.int .i64 4, .int .i64 (ai : Int), .int .i64 bb, .slice Tx nx cx] 77)
  have kS := Blk.new w [.int .i64 4, .int .i64 (ai : Int), .int .i64 bb, .slice Tx nx cx] 77
  have kB := hb.ext E0
  have HO := Lib.hid (ho.ext E0)
  have HT := Lib.hid (ht.ext E0)
  have hbg := own_ne2 ho hb (by decide)
  have hlt := hb.lt
  have hgl : g < w.heap.size := (World.ownsRow.lt ho g rfl).2
  obtain ⟨S, hS⟩ : ∃ S, w.heap.size = S := ⟨_, rfl⟩
  have hbS : b ≠ S := by omega
  have HV := Lib.hid hvs
  have HTS := Lib.hid hts
  have HL := Lib.hid hl
  have H6 := Lib.hid h6
  clear hb ho ht hvs hts hl h6
  obtain ⟨x, hx⟩ : ∃ x, vs[ai]'(by have := H6.out; omega) = x := ⟨_, rfl⟩
  have hva : varAt vs (ai : Int) = x := by
    unfold varAt
    rw [List.getD_eq_getElem?_getD, Int.toNat_natCast, List.getElem?_eq_getElem (by have := H6.out; omega), Option.getD_some]
    exact hx
  have hxs : (x.size : Int) ≤ 1000 := by rw [← hx]; exact HV.out _ (List.getElem_mem _)
  rw [hva] at hfd
  have HFD := Lib.hid hfd
  have HXS := Lib.hid hxs
  clear hfd hxs hva
  go_enter Tryz.func48, Tryz.ntmps48
  go_upto_region 1 with (fail)
  rw [hS] at kS
  try simp only [hS]
  generalize World.alloc _ _ = W0 at E0 kS kB HO HT
  have x0 := kS.c0
  have x1 := kS.c1
  have x2 := kS.c2
  have x3 := kS.c3
  have y0 := kB.c0
  have y1 := kB.c1
  have y2 := kB.c2
  have y3 := kB.c3
  have f0 := kB.fz 0
  have f2 := kB.fz 2
  have f3 := kB.fz 3
  have herB := bq_no her
  have hai' : (ai : Int) < 6 := by omega
  have hai0 : (0 : Int) ≤ ai := by omega
  have nbg : b ≠ g := hbg
  have ngb : g ≠ b := by omega
  have nSg : S ≠ g := by omega
  have ngS : g ≠ S := by omega
  have nSb : S ≠ b := by omega
  go_upto_region 8 with (fail)
  have kB1 : Blk _ b 27 (runL place g d ⟨#[78, 68]⟩ count over) := kB.set 2 (.string ⟨#[78, 68]⟩)
  have kS1 := kS.other (b' := b) nSb 2 (.string ⟨#[78, 68]⟩)
  have hO1 := HO.out.set (b := b) (by simp [Value.ownBlock]; omega) 2 (.string ⟨#[78, 68]⟩)
  have hW1 : Keep2 b g w (W0.setCell ⟨b, 2, none⟩ (.string ⟨#[78, 68]⟩)) := (Keep2.of E0).setb 2 _
  have hG1 := gl_set (b := b) (HG.out.ext E0) HGB.out 2 (.string ⟨#[78, 68]⟩)
  generalize World.setCell _ _ _ = W1 at kB1 kS1 hO1 hW1 hG1
  clear x0 x1 x2 x3 y0 y1 y2 y3 f0 f2 f3 kB kS HO
  have x1 := kS1.c1
  have x2 := kS1.c2
  have y1 := kB1.c1
  have hca := hO1.cellAt ai (by have := H6.out; omega)
  rw [hx] at hca
  have HO1 := Lib.hid hO1
  have HW1 := Lib.hid hW1
  have HG1 := Lib.hid hG1
  clear hO1 hW1 hG1
  have hf8 : ∀ W', Ext W1 W' → Calls Tryz.prog 81 #[.string x] W' fun e Y => e = .returned (.tuple #[.int .i64 v, .int .i64 er]) ∧ Ext W' Y := fun W' h => by
    have := fromDigits81 x W' (by unfold maxLen; have := HXS.out; omega)
    rwa [HFD.out] at this
  have HF := Lib.hid hf8
  clear hf8
  go_region_held3 (fun w' => w'.cell? ⟨b, 1, none⟩ = some (.slice (some ⟨g, 0, none⟩) 6 d) ∧ w'.cell? ⟨S, 1, none⟩ = some (.int .i64 (ai : Int)) ∧ w'.cell? ⟨g, ai, none⟩ = some (.string x)) (go_keep) (first | (go_at_call 81; refine (HF.out _ (by first | exact Ext.refl _ | exact Below.drew (Ext.refl _))).mono ?_; rintro e Y ⟨rfl, he⟩; have hw : Ext W1 Y := Ext.trans (by first | exact Ext.refl _ | exact Below.drew (Ext.refl _)) he; have kB2 := kB1.ext hw; have kS2 := kS1.ext hw; have hO2 := HO1.out.ext hw; have m8 := hw.cell hca; have m0 := kB2.c0; have m1 := kB2.c1; have m3 := kB2.c3; have g0 := kB2.fz 0; have g2 := kB2.fz 2; have g3 := kB2.fz 3; have g5 := hO2.fzAt ai; have s1 := kS2.c1; have s2 := kS2.c2; have HO2 := Lib.hid hO2; have HW := Lib.hid hw; clear he hw hO2))
  have HBY : Hid (Keep2 b g w Y) := Lib.hid (HW1.out.ext HW.out)
  clear x1 x2 y1 hca
  go_wp2
  go_ret
  exact ⟨rfl, own_end kB2 HO2.out hbg HBY.out _ _⟩

set_option maxRecDepth 100000 in
set_option maxHeartbeats 4000000 in
theorem own48_4b (ai : Nat) (hai : ai < 6) (v e2 : Int) (yy : ByteArray) (bb : Int) (Tx : Option Addr) (nx cx : Nat) (ts : List ByteArray) (b g d base : Nat) (place count over : Int) (st : ByteArray) (vs : List ByteArray) (w : World)
    (ht : Strs w Tx ts) (hl : ts.length = nx) (hnx : (nx : Int) ≤ 1000) (hts : ∀ x ∈ ts, (x.size : Int) ≤ 1000) (hb : Blk w b 27 (runL place g d st count over)) (ho : Own w base (.slice (some ⟨g, 0, none⟩) 6 d) vs) (h6 : vs.length = 6) (hvs : ∀ x ∈ vs, (x.size : Int) ≤ 1000)
    (hp0 : 0 ≤ place) (hp1 : place ≤ 1000) (hc0 : 0 ≤ count) (hc1 : count ≤ 1000) (hbb : -10000 ≤ bb) (hbb2 : bb ≤ 10000) (hg : Gl w) (hgb : GlB b) (hfd : fdS (varAt vs (ai : Int)) = (v, 0)) (hdg : digitsS (v + bb) ((varAt vs (ai : Int)).size : Int) = (yy, e2)) (he2 : ¬ e2 = 0) :
    Calls Tryz.prog 48 #[.agg #[.int .i64 4, .int .i64 (ai : Int), .int .i64 bb, .slice Tx nx cx], .pointer (some ⟨b, 0, none⟩)] w fun e w' => e = .returned (.bool true) ∧ Blk w' b 27 (runL (place + 1) g d (⟨#[78, 68]⟩) (count + 1) over) ∧ Own w' base (.slice (some ⟨g, 0, none⟩) 6 d) (vs) ∧ Keep2 b g w w' := by
  have HG := Lib.hid hg
  have HGB := Lib.hid hgb
  clear hg hgb
  have E0 := Ext.new w (.cells #[.int .i64 4, .int .i64 (ai : Int), .int .i64 bb, .slice Tx nx cx] 77)
  have kS := Blk.new w [.int .i64 4, .int .i64 (ai : Int), .int .i64 bb, .slice Tx nx cx] 77
  have kB := hb.ext E0
  have HO := Lib.hid (ho.ext E0)
  have HT := Lib.hid (ht.ext E0)
  have hbg := own_ne2 ho hb (by decide)
  have hlt := hb.lt
  have hgl : g < w.heap.size := (World.ownsRow.lt ho g rfl).2
  obtain ⟨S, hS⟩ : ∃ S, w.heap.size = S := ⟨_, rfl⟩
  have hbS : b ≠ S := by omega
  have HV := Lib.hid hvs
  have HTS := Lib.hid hts
  have HL := Lib.hid hl
  have H6 := Lib.hid h6
  clear hb ho ht hvs hts hl h6
  obtain ⟨x, hx⟩ : ∃ x, vs[ai]'(by have := H6.out; omega) = x := ⟨_, rfl⟩
  have hva : varAt vs (ai : Int) = x := by
    unfold varAt
    rw [List.getD_eq_getElem?_getD, Int.toNat_natCast, List.getElem?_eq_getElem (by have := H6.out; omega), Option.getD_some]
    exact hx
  have hva0 := hva
  have hxs : (x.size : Int) ≤ 1000 := by rw [← hx]; exact HV.out _ (List.getElem_mem _)
  rw [hva] at hfd
  have HFD := Lib.hid hfd
  have HXS := Lib.hid hxs
  clear hfd hxs hva
  have hvb0 : 0 ≤ v ∧ v ≤ 1000000000 := by
    have := natAbs_val x
    rw [HFD.out] at this
    exact this
  have HVB := Lib.hid hvb0
  have HDG : Hid (digitsS (v + bb) (x.size : Int) = (yy, e2)) := Lib.hid (by rw [← hva0]; exact hdg)
  clear hvb0 hdg hva0
  go_enter Tryz.func48, Tryz.ntmps48
  go_upto_region 1 with (fail)
  rw [hS] at kS
  try simp only [hS]
  generalize World.alloc _ _ = W0 at E0 kS kB HO HT
  have x0 := kS.c0
  have x1 := kS.c1
  have x2 := kS.c2
  have x3 := kS.c3
  have y0 := kB.c0
  have y1 := kB.c1
  have y2 := kB.c2
  have y3 := kB.c3
  have f0 := kB.fz 0
  have f2 := kB.fz 2
  have f3 := kB.fz 3
  have he2B := bq_no he2
  have hai' : (ai : Int) < 6 := by omega
  have hai0 : (0 : Int) ≤ ai := by omega
  have nbg : b ≠ g := hbg
  have ngb : g ≠ b := by omega
  have nSg : S ≠ g := by omega
  have ngS : g ≠ S := by omega
  have nSb : S ≠ b := by omega
  go_upto_region 8 with (fail)
  have kB1 : Blk _ b 27 (runL place g d ⟨#[78, 68]⟩ count over) := kB.set 2 (.string ⟨#[78, 68]⟩)
  have kS1 := kS.other (b' := b) nSb 2 (.string ⟨#[78, 68]⟩)
  have hO1 := HO.out.set (b := b) (by simp [Value.ownBlock]; omega) 2 (.string ⟨#[78, 68]⟩)
  have hW1 : Keep2 b g w (W0.setCell ⟨b, 2, none⟩ (.string ⟨#[78, 68]⟩)) := (Keep2.of E0).setb 2 _
  have hG1 := gl_set (b := b) (HG.out.ext E0) HGB.out 2 (.string ⟨#[78, 68]⟩)
  generalize World.setCell _ _ _ = W1 at kB1 kS1 hO1 hW1 hG1
  clear x0 x1 x2 x3 y0 y1 y2 y3 f0 f2 f3 kB kS HO
  have x1 := kS1.c1
  have x2 := kS1.c2
  have y1 := kB1.c1
  have hca := hO1.cellAt ai (by have := H6.out; omega)
  rw [hx] at hca
  have HO1 := Lib.hid hO1
  have HW1 := Lib.hid hW1
  have HG1 := Lib.hid hG1
  clear hO1 hW1 hG1
  have hf8 : ∀ W', Ext W1 W' → Calls Tryz.prog 81 #[.string x] W' fun e Y => e = .returned (.tuple #[.int .i64 v, .int .i64 0]) ∧ Ext W' Y := fun W' h => by
    have := fromDigits81 x W' (by unfold maxLen; have := HXS.out; omega)
    rwa [HFD.out] at this
  have HF := Lib.hid hf8
  clear hf8
  go_region_held3 (fun w' => w'.cell? ⟨b, 1, none⟩ = some (.slice (some ⟨g, 0, none⟩) 6 d) ∧ w'.cell? ⟨S, 1, none⟩ = some (.int .i64 (ai : Int)) ∧ w'.cell? ⟨g, ai, none⟩ = some (.string x)) (go_keep) (first | (go_at_call 81; refine (HF.out _ (by first | exact Ext.refl _ | exact Below.drew (Ext.refl _))).mono ?_; rintro e Y ⟨rfl, he⟩; have hw : Ext W1 Y := Ext.trans (by first | exact Ext.refl _ | exact Below.drew (Ext.refl _)) he; have kB2 := kB1.ext hw; have kS2 := kS1.ext hw; have hO2 := HO1.out.ext hw; have m8 := hw.cell hca; have m0 := kB2.c0; have m1 := kB2.c1; have m3 := kB2.c3; have g0 := kB2.fz 0; have g2 := kB2.fz 2; have g3 := kB2.fz 3; have g5 := hO2.fzAt ai; have s1 := kS2.c1; have s2 := kS2.c2; have HO2 := Lib.hid hO2; have HW := Lib.hid hw; clear he hw hO2))
  have HBY : Hid (Keep2 b g w Y) := Lib.hid (HW1.out.ext HW.out)
  clear x1 x2 y1 hca
  have hv0 := HVB.out
  have hsum : IntKind.i64.wrap (v + bb) = v + bb := IntWalk.i64_in _ (by omega)
  go_upto_region 10 with (fail)
  have hf10 : ∀ W', Ext Y W' → Calls Tryz.prog 82 #[.int .i64 (v + bb), .int .i64 (x.size : Int)] W' fun e Z => e = .returned (.tuple #[.string yy, .int .i64 e2]) ∧ Ext W' Z := fun W' h => by
    have := digits82 (v + bb) (x.size : Int) W' (HG1.out.ext (Ext.trans HW.out h)) (by omega) (by omega) (by omega) (by have := HXS.out; omega)
    rwa [HDG.out] at this
  have HD := Lib.hid hf10
  clear hf10
  go_region_held3 (fun w' => w'.cell? ⟨S, 2, none⟩ = some (.int .i64 bb) ∧ w'.cell? ⟨b, 1, none⟩ = some (.slice (some ⟨g, 0, none⟩) 6 d) ∧ w'.cell? ⟨S, 1, none⟩ = some (.int .i64 (ai : Int)) ∧ w'.cell? ⟨g, ai, none⟩ = some (.string x)) (go_keep) (first | (go_at_call 82; refine (HD.out _ (by first | exact Ext.refl _ | exact Below.drew (Ext.refl _))).mono ?_; rintro e Z ⟨rfl, he⟩; have hw : Ext Y Z := Ext.trans (by first | exact Ext.refl _ | exact Below.drew (Ext.refl _)) he; have kB3 := kB2.ext hw; have kS3 := kS2.ext hw; have hO3 := HO2.out.ext hw; have n8 := hw.cell m8; have n0 := kB3.c0; have n1 := kB3.c1; have n2 := kB3.c2; have n3 := kB3.c3; have h0 := kB3.fz 0; have h2 := kB3.fz 2; have h3 := kB3.fz 3; have h5 := hO3.fzAt ai; have t1 := kS3.c1; have t2 := kS3.c2; have HO3 := Lib.hid hO3; have HZW := Lib.hid hw; clear he hw hO3))
  have HBZ : Hid (Keep2 b g w Z) := Lib.hid (HBY.out.ext HZW.out)
  clear m0 m1 m3 m8 g0 g2 g3 g5 s1 s2 hsum
  go_wp2
  go_ret
  exact ⟨rfl, own_end kB3 HO3.out hbg HBZ.out _ _⟩

set_option maxRecDepth 100000 in
set_option maxHeartbeats 4000000 in
theorem own48_4c (ai : Nat) (hai : ai < 6) (v : Int) (yy : ByteArray) (bb : Int) (Tx : Option Addr) (nx cx : Nat) (ts : List ByteArray) (b g d base : Nat) (place count over : Int) (st : ByteArray) (vs : List ByteArray) (w : World)
    (ht : Strs w Tx ts) (hl : ts.length = nx) (hnx : (nx : Int) ≤ 1000) (hts : ∀ x ∈ ts, (x.size : Int) ≤ 1000) (hb : Blk w b 27 (runL place g d st count over)) (ho : Own w base (.slice (some ⟨g, 0, none⟩) 6 d) vs) (h6 : vs.length = 6) (hvs : ∀ x ∈ vs, (x.size : Int) ≤ 1000)
    (hp0 : 0 ≤ place) (hp1 : place ≤ 1000) (hc0 : 0 ≤ count) (hc1 : count ≤ 1000) (hbb : -10000 ≤ bb) (hbb2 : bb ≤ 10000) (hg : Gl w) (hgb : GlB b) (hfd : fdS (varAt vs (ai : Int)) = (v, 0)) (hdg : digitsS (v + bb) ((varAt vs (ai : Int)).size : Int) = (yy, 0)) :
    Calls Tryz.prog 48 #[.agg #[.int .i64 4, .int .i64 (ai : Int), .int .i64 bb, .slice Tx nx cx], .pointer (some ⟨b, 0, none⟩)] w fun e w' => e = .returned (.bool true) ∧ Blk w' b 27 (runL (place + 1) g d (⟨#[32, 32]⟩) (count + 1) over) ∧ Own w' base (.slice (some ⟨g, 0, none⟩) 6 d) (vs.set ai yy) ∧ Keep2 b g w w' := by
  have HG := Lib.hid hg
  have HGB := Lib.hid hgb
  clear hg hgb
  have E0 := Ext.new w (.cells #[.int .i64 4, .int .i64 (ai : Int), .int .i64 bb, .slice Tx nx cx] 77)
  have kS := Blk.new w [.int .i64 4, .int .i64 (ai : Int), .int .i64 bb, .slice Tx nx cx] 77
  have kB := hb.ext E0
  have HO := Lib.hid (ho.ext E0)
  have HT := Lib.hid (ht.ext E0)
  have hbg := own_ne2 ho hb (by decide)
  have hlt := hb.lt
  have hgl : g < w.heap.size := (World.ownsRow.lt ho g rfl).2
  obtain ⟨S, hS⟩ : ∃ S, w.heap.size = S := ⟨_, rfl⟩
  have hbS : b ≠ S := by omega
  have HV := Lib.hid hvs
  have HTS := Lib.hid hts
  have HL := Lib.hid hl
  have H6 := Lib.hid h6
  clear hb ho ht hvs hts hl h6
  obtain ⟨x, hx⟩ : ∃ x, vs[ai]'(by have := H6.out; omega) = x := ⟨_, rfl⟩
  have hva : varAt vs (ai : Int) = x := by
    unfold varAt
    rw [List.getD_eq_getElem?_getD, Int.toNat_natCast, List.getElem?_eq_getElem (by have := H6.out; omega), Option.getD_some]
    exact hx
  have hva0 := hva
  have hxs : (x.size : Int) ≤ 1000 := by rw [← hx]; exact HV.out _ (List.getElem_mem _)
  rw [hva] at hfd
  have HFD := Lib.hid hfd
  have HXS := Lib.hid hxs
  clear hfd hxs hva
  have hvb0 : 0 ≤ v ∧ v ≤ 1000000000 := by
    have := natAbs_val x
    rw [HFD.out] at this
    exact this
  have HVB := Lib.hid hvb0
  have HDG : Hid (digitsS (v + bb) (x.size : Int) = (yy, 0)) := Lib.hid (by rw [← hva0]; exact hdg)
  clear hvb0 hdg hva0
  go_enter Tryz.func48, Tryz.ntmps48
  go_upto_region 1 with (fail)
  rw [hS] at kS
  try simp only [hS]
  generalize World.alloc _ _ = W0 at E0 kS kB HO HT
  have x0 := kS.c0
  have x1 := kS.c1
  have x2 := kS.c2
  have x3 := kS.c3
  have y0 := kB.c0
  have y1 := kB.c1
  have y2 := kB.c2
  have y3 := kB.c3
  have f0 := kB.fz 0
  have f2 := kB.fz 2
  have f3 := kB.fz 3
  have hai' : (ai : Int) < 6 := by omega
  have hai0 : (0 : Int) ≤ ai := by omega
  have nbg : b ≠ g := hbg
  have ngb : g ≠ b := by omega
  have nSg : S ≠ g := by omega
  have ngS : g ≠ S := by omega
  have nSb : S ≠ b := by omega
  go_upto_region 8 with (fail)
  have kB1 : Blk _ b 27 (runL place g d ⟨#[78, 68]⟩ count over) := kB.set 2 (.string ⟨#[78, 68]⟩)
  have kS1 := kS.other (b' := b) nSb 2 (.string ⟨#[78, 68]⟩)
  have hO1 := HO.out.set (b := b) (by simp [Value.ownBlock]; omega) 2 (.string ⟨#[78, 68]⟩)
  have hW1 : Keep2 b g w (W0.setCell ⟨b, 2, none⟩ (.string ⟨#[78, 68]⟩)) := (Keep2.of E0).setb 2 _
  have hG1 := gl_set (b := b) (HG.out.ext E0) HGB.out 2 (.string ⟨#[78, 68]⟩)
  generalize World.setCell _ _ _ = W1 at kB1 kS1 hO1 hW1 hG1
  clear x0 x1 x2 x3 y0 y1 y2 y3 f0 f2 f3 kB kS HO
  have x1 := kS1.c1
  have x2 := kS1.c2
  have y1 := kB1.c1
  have hca := hO1.cellAt ai (by have := H6.out; omega)
  rw [hx] at hca
  have HO1 := Lib.hid hO1
  have HW1 := Lib.hid hW1
  have HG1 := Lib.hid hG1
  clear hO1 hW1 hG1
  have hf8 : ∀ W', Ext W1 W' → Calls Tryz.prog 81 #[.string x] W' fun e Y => e = .returned (.tuple #[.int .i64 v, .int .i64 0]) ∧ Ext W' Y := fun W' h => by
    have := fromDigits81 x W' (by unfold maxLen; have := HXS.out; omega)
    rwa [HFD.out] at this
  have HF := Lib.hid hf8
  clear hf8
  go_region_held3 (fun w' => w'.cell? ⟨b, 1, none⟩ = some (.slice (some ⟨g, 0, none⟩) 6 d) ∧ w'.cell? ⟨S, 1, none⟩ = some (.int .i64 (ai : Int)) ∧ w'.cell? ⟨g, ai, none⟩ = some (.string x)) (go_keep) (first | (go_at_call 81; refine (HF.out _ (by first | exact Ext.refl _ | exact Below.drew (Ext.refl _))).mono ?_; rintro e Y ⟨rfl, he⟩; have hw : Ext W1 Y := Ext.trans (by first | exact Ext.refl _ | exact Below.drew (Ext.refl _)) he; have kB2 := kB1.ext hw; have kS2 := kS1.ext hw; have hO2 := HO1.out.ext hw; have m8 := hw.cell hca; have m0 := kB2.c0; have m1 := kB2.c1; have m3 := kB2.c3; have g0 := kB2.fz 0; have g2 := kB2.fz 2; have g3 := kB2.fz 3; have g5 := hO2.fzAt ai; have s1 := kS2.c1; have s2 := kS2.c2; have HO2 := Lib.hid hO2; have HW := Lib.hid hw; clear he hw hO2))
  have HBY : Hid (Keep2 b g w Y) := Lib.hid (HW1.out.ext HW.out)
  clear x1 x2 y1 hca
  have hv0 := HVB.out
  have hsum : IntKind.i64.wrap (v + bb) = v + bb := IntWalk.i64_in _ (by omega)
  go_upto_region 10 with (fail)
  have hf10 : ∀ W', Ext Y W' → Calls Tryz.prog 82 #[.int .i64 (v + bb), .int .i64 (x.size : Int)] W' fun e Z => e = .returned (.tuple #[.string yy, .int .i64 0]) ∧ Ext W' Z := fun W' h => by
    have := digits82 (v + bb) (x.size : Int) W' (HG1.out.ext (Ext.trans HW.out h)) (by omega) (by omega) (by omega) (by have := HXS.out; omega)
    rwa [HDG.out] at this
  have HD := Lib.hid hf10
  clear hf10
  go_region_held3 (fun w' => w'.cell? ⟨S, 2, none⟩ = some (.int .i64 bb) ∧ w'.cell? ⟨b, 1, none⟩ = some (.slice (some ⟨g, 0, none⟩) 6 d) ∧ w'.cell? ⟨S, 1, none⟩ = some (.int .i64 (ai : Int)) ∧ w'.cell? ⟨g, ai, none⟩ = some (.string x)) (go_keep) (first | (go_at_call 82; refine (HD.out _ (by first | exact Ext.refl _ | exact Below.drew (Ext.refl _))).mono ?_; rintro e Z ⟨rfl, he⟩; have hw : Ext Y Z := Ext.trans (by first | exact Ext.refl _ | exact Below.drew (Ext.refl _)) he; have kB3 := kB2.ext hw; have kS3 := kS2.ext hw; have hO3 := HO2.out.ext hw; have n8 := hw.cell m8; have n0 := kB3.c0; have n1 := kB3.c1; have n2 := kB3.c2; have n3 := kB3.c3; have h0 := kB3.fz 0; have h2 := kB3.fz 2; have h3 := kB3.fz 3; have h5 := hO3.fzAt ai; have t1 := kS3.c1; have t2 := kS3.c2; have HO3 := Lib.hid hO3; have HZW := Lib.hid hw; clear he hw hO3))
  have HBZ : Hid (Keep2 b g w Z) := Lib.hid (HBY.out.ext HZW.out)
  clear m0 m1 m3 m8 g0 g2 g3 g5 s1 s2 hsum
  go_upto_region 12 with (fail)
  go_region
  have kB4 : Blk ((Z.setCell ⟨g, ai, none⟩ (.string yy)).setCell ⟨b, 2, none⟩ (.string ⟨#[32, 32]⟩)).drew b 27 (runL place g d ⟨#[32, 32]⟩ count over) := (kB3.other hbg ai (.string yy)).set 2 (.string ⟨#[32, 32]⟩)
  have hO4 : Own ((Z.setCell ⟨g, ai, none⟩ (.string yy)).setCell ⟨b, 2, none⟩ (.string ⟨#[32, 32]⟩)).drew base (.slice (some ⟨g, 0, none⟩) 6 d) (vs.set ai yy) := (HO3.out.stored ai yy).set (b := b) (by simp [Value.ownBlock]; omega) 2 (.string ⟨#[32, 32]⟩)
  have hB4 : Keep2 b g w ((Z.setCell ⟨g, ai, none⟩ (.string yy)).setCell ⟨b, 2, none⟩ (.string ⟨#[32, 32]⟩)).drew := ((HBZ.out.setg ai _).setb 2 _).ext (Below.drew (Ext.refl _))
  generalize World.drew _ = W4 at kB4 hO4 hB4
  clear n0 n1 n2 n3 n8 h0 h2 h3 h5 t1 t2
  have n0 := kB4.c0
  have n3 := kB4.c3
  have h0 := kB4.fz 0
  have h3 := kB4.fz 3
  have HO4 := Lib.hid hO4
  have HB4 := Lib.hid hB4
  clear hO4 hB4
  go_wp2
  go_ret
  exact ⟨rfl, own_end kB4 HO4.out hbg HB4.out _ _⟩

end Go.Proofs.YtkdbajpdcadliaaGreatDoor.Pg

