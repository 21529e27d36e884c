/- Walks: Reached of both sides. -/
import Derived.Test.YtkdbajpdcadliaaGreatDoorXi
import Derived.Test.YtkdbajpdcadliaaGreatDoorPs
import Derived.Deep.OwnRows
set_option linter.unusedVariables false
namespace Go.Proofs.YtkdbajpdcadliaaGreatDoor.Pg
open Go.RowKit

/-- A row of marks in block S. -/
abbrev Mrk (w : World) (S : Nat) (bs : List Bool) : Prop := Blk w S 4 (bs.map Value.bool)
theorem Blk.below {w w' : World} {b B : Nat} {T : TypeId} {cs : List Value} (h : Blk w b T cs) (hb : Below B w w') (hlt : b < B) : Blk w' b T cs := (hb.block b hlt).trans h
theorem Mrk.cell {w : World} {S : Nat} {bs : List Bool} (h : Mrk w S bs) {i : Nat} (hi : i < bs.length) : w.cell? ⟨S, i, none⟩ = some (.bool (mk bs i)) := by
  rw [h.at_ i, List.getElem?_map, List.getElem?_eq_getElem hi, mk_get hi]; rfl
theorem Mrk.mark {w : World} {S : Nat} {bs : List Bool} (h : Mrk w S bs) (i : Nat) : Mrk (w.setCell ⟨S, i, none⟩ (.bool true)) S (bs.set i true) := by
  have := h.set i (.bool true)
  unfold Mrk
  rwa [List.map_set]
/-- The slice value v holds the numbers l in a block from base on; it need not begin at the block's beginning. -/
def OwnQ (w : World) (base : Nat) (v : Value) (l : List Int) : Prop :=
  ∃ g o cap cs, v = .slice (some ⟨g, o, none⟩) l.length cap ∧ base ≤ g ∧ Blk w g 3 cs ∧ l.length ≤ cap ∧ o + cap ≤ cs.length ∧ ∀ j (h : j < l.length), cs[o + j]? = some (.int .i64 l[j])
theorem OwnQ.ext {w w' : World} {base : Nat} {v : Value} {l : List Int} (h : OwnQ w base v l) (he : Ext w w') : OwnQ w' base v l := by
  obtain ⟨g, o, cap, cs, e, hb, hk, h1, h2, h3⟩ := h
  exact ⟨g, o, cap, cs, e, hb, hk.ext he, h1, h2, h3⟩
theorem OwnQ.set {w : World} {base : Nat} {v : Value} {l : List Int} (h : OwnQ w base v l) {S : Nat} (hS : S < base) (i : Nat) (u : Value) : OwnQ (w.setCell ⟨S, i, none⟩ u) base v l := by
  obtain ⟨g, o, cap, cs, e, hb, hk, h1, h2, h3⟩ := h
  exact ⟨g, o, cap, cs, e, hb, hk.other (by omega) i u, h1, h2, h3⟩
theorem OwnQ.one (w : World) (x : Int) : OwnQ (w.alloc (.cells #[.int .i64 x] 3)) w.heap.size (.slice (some ⟨w.heap.size, 0, none⟩) 1 1) [x] :=
  ⟨w.heap.size, 0, 1, [.int .i64 x], rfl, Nat.le_refl _, Blk.new w [.int .i64 x] 3, by simp, by simp, fun j h => by
    obtain rfl : j = 0 := by simpa using h
    rfl⟩
theorem app_q {ops : Array Oper} {rest : List Oper} {o : Oper} {a : Act} {Q : Exit → Act → World → Prop} {W : World} (base : Nat) (hgd : o.guard = none) (s x : Operand)
    (ho : o.op = .call { callee := .builtin .append, args := #[s, x], argTypes := #[57, 57] }) (v : Value) (l : List Int) (y : Int) (N : Nat) (hs : a.eval s = v)
    (hx : a.eval x = .slice (some ⟨N, 0, none⟩) 1 1) (hN : W.heap.size = N) (HO : OwnQ W base v l) (hbase : base ≤ W.heap.size) (hl : (l.length : Int) ≤ 1000000000)
    (h : ∀ v1 w1, OwnQ w1 base v1 (l ++ [y]) → Below base W w1 → base ≤ w1.heap.size → (∀ k, k < W.heap.size → v.ownBlock ≠ some k → w1.heap[k]? = W.heap[k]?) → wpList Tryz.prog ops Q rest (a.put o.dst v1) w1) :
    wpList Tryz.prog ops Q (o :: rest) a (W.alloc (.cells #[.int .i64 y] 3)) := by
  subst hN
  obtain ⟨i0, hi, hzz⟩ := Option.map_eq_some_iff.1 infoInt3
  simp only [Prod.mk.injEq] at hzz
  obtain ⟨hz0, hz1, hz2⟩ := hzz
  obtain ⟨g, off, cap, cs, rfl, hb, hk, h1, h2, h3⟩ := HO
  have hk' := hk.ext (Ext.new W (.cells #[.int .i64 y] 3))
  refine wpList_append_arg (W.alloc (.cells #[.int .i64 y] 3)) hgd s x 57 ho 3 i0 _ 1 8 Tryz.underlying57 hi hz0 hz1 hz2 rfl (by omega) g off l.length cap (l.map (Value.int .i64)) hs (by simp) ?_ ⟨W.heap.size, 0, none⟩ 1 1 [.int .i64 y] hx rfl (cell_one_new _ _ _) (by simp [Value.oneCell']) ?_ (by simp only [maxLen]; omega) (by omega) ?_ ?_
  · intro j u hj
    have hjl : j < l.length := by
      rcases Nat.lt_or_ge j l.length with h' | h'
      · exact h'
      · rw [List.getElem?_eq_none (by simpa using h')] at hj; cases hj
    rw [List.getElem?_map, List.getElem?_eq_getElem hjl] at hj
    cases hj
    rw [hk'.at_ (off + j)]
    exact h3 j hjl
  · intro hroom j hj
    obtain rfl : j = 0 := by simpa using hj
    refine ⟨?_, hk'.fz _⟩
    rw [hk'.at_, List.getElem?_eq_getElem (by omega)]
    rfl
  · intro hroom
    have hB : Below base W ((W.alloc (.cells #[.int .i64 y] 3)).setCell ⟨g, off + l.length * 1, none⟩ (.int .i64 y)) := ((Below.refl base W).alloc hbase _).setCell (p := ⟨g, off + l.length * 1, none⟩) hb _
    refine h _ _ ⟨g, off, cap, cs.set (off + l.length * 1) (.int .i64 y), by simp, hb, hk'.set _ _, by simp; omega, by simpa using h2, fun j hj => ?_⟩ hB (Nat.le_trans hbase hB.size) (fun k hk hne => (Below.heap_setCell _ _ _ k (fun e => hne (by rw [e]; rfl))).trans (Below.heap_alloc W _ k hk))
    rw [List.getElem?_set]
    by_cases e : off + l.length * 1 = off + j
    · rw [if_pos e, if_pos (by omega)]
      obtain rfl : j = l.length := by omega
      simp
    · rw [if_neg e]
      have hj2 : j < l.length := by simp at hj; omega
      rw [h3 j hj2, List.getElem_append_left hj2]
  · intro hgrow v' w' hown hg
    have hB : Below base W w' := ((Below.refl base W).alloc hbase _).grown hg (by simp; omega) (fun k hk => by cases hk)
    refine h v' w' ?_ hB (Nat.le_trans hbase hB.size) (fun k hk _ => (hg.block k (by simp; omega) (by simp)).trans (Below.heap_alloc W _ k hk))
    rcases hown.2 with ⟨_, h0⟩ | ⟨g', cap', cur', rfl, hb', hh', hc', _, hsz, htake⟩
    · omega
    · refine ⟨g', 0, cap', cur'.toList, by simp, ?_, ?_, by simp; omega, by simp; omega, fun j hj => ?_⟩
      · have := (Ext.new W (.cells #[.int .i64 y] 3)).size; omega
      · show w'.heap[g']? = _
        rw [hh']
      · have hj2 : j < l.length + 1 := by simpa using hj
        have e : (cur'.toList.take ((l.length + 1) * 1))[j]? = cur'.toList[j]? := by rw [List.getElem?_take]; rw [if_pos (by omega)]
        rw [Nat.zero_add, ← e, htake, show l.map (Value.int .i64) ++ [Value.int .i64 y] = (l ++ [y]).map (Value.int .i64) by simp, List.getElem?_map, List.getElem?_eq_getElem hj]
        rfl
theorem infoBool4 : (Tryz.prog.info? 4).map (fun i => (i.zero, i.size, i.bytes)) = some (some (.bool false), 1, 1) := by kernel_rfl
theorem Mrk.made (w : World) (n : Nat) : Mrk (w.alloc (.cells (madeCells #[.bool false] n) 4)) w.heap.size (List.replicate n false) := by
  have e : madeCells #[Value.bool false] n = ((List.replicate n false).map Value.bool).toArray := by
    apply Array.ext'
    simp only [madeCells, Array.toList_map, Array.toList_range, List.map_replicate]
    refine List.ext_getElem (by simp) fun i h1 h2 => ?_
    have e1 : i % 1 = 0 := Nat.mod_one i
    simp [e1]
  rw [e]
  exact Blk.new w _ 4
theorem OwnQ.tail {w : World} {base g o cap : Nat} {cs : List Value} {x : Int} {rest : List Int} (hb : base ≤ g) (hk : Blk w g 3 cs) (h1 : rest.length + 1 ≤ cap) (h2 : o + cap ≤ cs.length) (h3 : ∀ j (h : j < (x :: rest).length), cs[o + j]? = some (.int .i64 (x :: rest)[j])) :
    OwnQ w base (.slice (some ⟨g, o + 1, none⟩) rest.length (cap - 1)) rest :=
  ⟨g, o + 1, cap - 1, cs, rfl, hb, hk, by omega, by omega, fun j hj => by
    have := h3 (j + 1) (by simp; omega)
    rw [Nat.add_assoc, Nat.add_comm 1 j]
    simpa using this⟩
theorem OwnQ.tail1 {w : World} {base g o : Nat} {cs : List Value} {rest : List Int} (hb : base ≤ g) (hk : Blk w g 3 cs) (h1 : rest.length + 1 ≤ 1) (h2 : o + 1 ≤ cs.length) :
    OwnQ w base (.slice (some ⟨g, o, none⟩) rest.length 0) rest :=
  ⟨g, o, 0, cs, rfl, hb, hk, by omega, by omega, fun j hj => absurd hj (by omega)⟩
/-- What Reached gives. -/
def ReachedIs (p : Prog) (l : List Int) : Prop := (validS p = true → ∃ bs, Marks p.steps bs ∧ l = placesU bs p.steps.length) ∧ (validS p = false → l = [])
theorem ReachedIs.eq {p : Prog} {l m : List Int} (h : ReachedIs p l) (k : ReachedIs p m) : l = m := by
  rcases Bool.eq_false_or_eq_true (validS p) with hv | hv
  · obtain ⟨bs, h1, rfl⟩ := h.1 hv
    obtain ⟨cs, h2, rfl⟩ := k.1 hv
    exact marks_eq h1 h2
  · rw [h.2 hv, k.2 hv]
theorem ReachedIs.len {p : Prog} {l : List Int} (h : ReachedIs p l) (hb : BdS p.steps) : (l.length : Int) ≤ 1000000000 := by
  rcases Bool.eq_false_or_eq_true (validS p) with hv | hv
  · obtain ⟨bs, h1, rfl⟩ := h.1 hv
    have := placesU_len bs p.steps.length
    have := hb.len
    omega
  · rw [h.2 hv]; simp

set_option maxRecDepth 100000 in
set_option maxHeartbeats 8000000 in
theorem reached33 (nm : ByteArray) (A : Option Addr) (n c : Nat) (ss : List Step) (w : World) (hx : StepsAt w A ss) (hl : ss.length = n) (hb : BdS ss) (hnm : (nm.size : Int) ≤ 1000000) :
    Calls Tryz.prog 33 #[.agg #[.string nm, .slice A n c]] w fun e w' => ∃ T d l, e = .returned (.tuple #[.slice T l.length d, .int .i64 (if validS ⟨nm, ss⟩ then 0 else 230)]) ∧ Ints w' T l ∧ ReachedIs ⟨nm, ss⟩ l ∧ Ext w w' := by
  have HX := Lib.hid hx
  have HL := Lib.hid hl
  have HB := Lib.hid hb
  have hn : (n : Int) ≤ 1000000000 := by rw [← hl]; exact hb.len
  clear hx hl hb
  rcases Bool.eq_false_or_eq_true (validS ⟨nm, ss⟩) with hv | hv
  · have hvo := validOk hv
    have hn40 : n ≤ 40 := by have := hvo.len; rw [← HL.out]; exact this
    have hn1 : 1 ≤ n := by have := hvo.pos; rw [← HL.out]; exact this
    have HVO := Lib.hid hvo
    have HV := Lib.hid hv
    rw [hv]
    clear hv hvo
    go_enter Tryz.func33, Tryz.ntmps33
    go_wp2_with fail
    refine (valid35 nm A n c ss _ (HX.out.ext (Ext.new _ _)) HL.out HB.out (by omega)).mono ?_
    rintro e w1 ⟨rfl, he⟩
    rw [HV.out]
    have kP := (Blk.new w [.string nm, .slice A n c] 24).ext he
    have E1 := Ext.trans (Ext.new _ _) he
    have q1 := kP.c1
    have KP := Lib.hid kP
    have HE1 := Lib.hid E1
    clear kP E1 he
    obtain ⟨i0, hi, hzz⟩ := Option.map_eq_some_iff.1 infoBool4
    simp only [Prod.mk.injEq] at hzz
    obtain ⟨hz0, hz1, hz2⟩ := hzz
    go_wp2_with (at_make; go_loud (refine wpList_make_row w1 rfl (.tmp 16) (.tmp 16) 102 rfl 4 i0 (.bool false) Tryz.underlying102 hi hz0 hz1 rfl .i64 .i64 n rfl rfl ?b1 ?b2 ?_; (case b1 => (rw [hz2]; omega)); (case b2 => omega); have kM := Mrk.made w1 n; have eM := Ext.new w1 (.cells (madeCells #[.bool false] n) 4); have hWS : (w1.alloc (.cells (madeCells #[.bool false] n) 4)).heap.size = w1.heap.size + 1 := by simp))
    generalize World.alloc w1 _ = W2 at kM eM hWS
    obtain ⟨S, hS⟩ : ∃ S, w1.heap.size = S := ⟨_, rfl⟩
    rw [hS] at kM hWS
    try simp only [hS]
    have KM := Lib.hid kM
    have EM := Lib.hid eM
    clear kM eM
    go_loopg [5] (3 * n + 1) (fun g v wr => ∃ bs l, Inv33 ss bs l ∧ Hid (OwnQ wr (S + 1) v l) ∧ Hid (Mrk wr S bs) ∧ Hid (Ext w1 wr) ∧ S + 1 ≤ wr.heap.size ∧ 3 * left bs + l.length ≤ g ∧ 3 * left bs + l.length ≤ 3 * n + 1)
    case atStart =>
      have q := OwnQ.one W2 0
      rw [hWS] at q
      have e : left (List.replicate ss.length false) ≤ ss.length := by have := left_le (List.replicate ss.length false); simpa using this
      have hL := HL.out
      exact ⟨List.replicate ss.length false, [0], inv33_start ss, Lib.hid q, Lib.hid (by rw [HL.out]; exact KM.out.ext (Ext.new _ _)), Lib.hid (Ext.al EM.out _), by simp [hWS], by simp only [List.length_cons, List.length_nil]; omega, by simp only [List.length_cons, List.length_nil]; omega⟩
    case round =>
      obtain ⟨bs, l, hinv, HQ, HM, HE, hz, hg, hg2⟩ := hrel
      have HINV := Lib.hid hinv
      clear hinv hz0 hz1 hz2 hi
      have HBL : Hid (bs.length = n) := Lib.hid (by rw [HINV.out.len]; exact HL.out)
      obtain ⟨g, o, cap, cs, rfl, hbg, hkg, hlc, hoc, hcell⟩ := HQ.out
      have hMB := HM.out.lt
      cases l with
      | nil =>
        have HD := Lib.hid (inv33_done HINV.out)
        clear hbg hlc hoc hcell HQ hg hg2
        obtain ⟨wa, rfl⟩ : ∃ wa, wa = wr := ⟨_, rfl⟩
        go_wp2_with fail
        clear hkg
        go_loopw [8, 78] (fun v i w3 => ∃ k : Nat, k ≤ n ∧ i = .int .i64 k ∧ Hid (OwnI w3 wa.heap.size v (placesU bs k)) ∧ Hid (Ext wa w3) ∧ wa.heap.size ≤ w3.heap.size) (fun _ i _ => n - (intOf i).toNat)
        case atStart => exact ⟨0, Nat.zero_le _, rfl, Lib.hid (OwnI.nil _ _), Lib.hid (Ext.refl _), Nat.le_refl _⟩
        case round =>
          obtain ⟨k, hk, rfl, HO, HE3, hz3⟩ := hrel
          by_cases hlt : k < n
          · have hle : ((placesU bs k).length : Int) ≤ 1000000000 := by have := placesU_len bs k; omega
            have qk := Mrk.cell (HM.out.ext HE3.out) (show k < bs.length by have := HBL.out; omega)
            by_cases hm : mk bs k = true
            · rw [hm] at qk
              have HMK := Lib.hid (placesU_yes hm)
              clear hm
              go_wp2_with (at_builtin; go_loud (refine app_int2 wa.heap.size rfl (.tmp 84) (.tmp 86) rfl _ _ _ _ rfl rfl rfl HO.out hz3 (by omega) ?_; intro v1 w4 hown hb1 hz1; have HO1 := Lib.hid hown; have HE4 := Lib.hid (Below.trans HE3.out hb1); clear hown hb1))
              go_roundw
              case rel => first | exact ⟨k + 1, by omega, by go_num, (by rw [HMK.out]; exact HO1), HE4, hz1⟩ | ((repeat apply Exists.intro); exact ⟨⟨k + 1, by omega, by go_num, (by rw [HMK.out]; exact HO1), HE4, hz1⟩, rfl⟩)
              case measure => simp [intOf]; omega
            · replace hm : mk bs k = false := by simpa using hm
              rw [hm] at qk
              have HMK := Lib.hid (placesU_no hm)
              clear hm
              go_wp2_with fail
              go_roundw
              case rel => first | exact ⟨k + 1, by omega, by go_num, (by rw [HMK.out]; exact HO), HE3, hz3⟩ | ((repeat apply Exists.intro); exact ⟨⟨k + 1, by omega, by go_num, (by rw [HMK.out]; exact HO), HE3, hz3⟩, rfl⟩)
              case measure => simp [intOf]; omega
          · have ke : k = ss.length := by have := HL.out; omega
            have KE := Lib.hid ke
            clear ke
            obtain ⟨T, d, rfl, hI⟩ := HO.out.form
            have HI := Lib.hid hI
            clear hI
            go_wp2_with fail
            go_ret2
            exact ⟨T, d, _, rfl, HI.out, ⟨fun _ => ⟨bs, HD.out, by rw [KE.out]⟩, fun h => absurd HV.out (by rw [h]; decide)⟩, Ext.trans HE1.out (Ext.trans HE.out HE3.out)⟩
      | cons x rest =>
        obtain ⟨i, rfl, hin, hre⟩ := HINV.out.goes x (by simp)
        have hc0 : wr.cell? ⟨g, o, none⟩ = some (.int .i64 (i : Int)) := by
          rw [hkg.at_ o]
          exact hcell 0 (by simp)
        have hq1 := (KP.out.ext HE.out).c1
        have hrl : ((i : Int) :: rest).length = rest.length + 1 := rfl
        rw [hrl] at hlc
        simp only [hrl]
        have hg' : 3 * left bs + rest.length + 1 ≤ gk := by rw [hrl] at hg; omega
        have hg2' : 3 * left bs + rest.length ≤ 3 * n := by rw [hrl] at hg2; omega
        have hpos : 0 < ss.length := by have := HL.out; omega
        have hglt := hkg.lt
        clear hg hg2 hrl HQ
        have HI := Lib.hid hin
        have HRE := Lib.hid hre
        have HRL : Hid ((rest.length : Int) ≤ 1000000) := Lib.hid (by omega)
        clear hin hre
        by_cases hcap : cap = 1
        · subst hcap
          obtain rfl : rest = [] := List.eq_nil_of_length_eq_zero (by omega)
          have HT := Lib.hid (OwnQ.tail1 (rest := []) hbg hkg hlc hoc)
          clear hbg hkg hoc hcell
          by_cases hge : n ≤ i
          · have hge2 : (n : Int) ≤ (i : Int) := by omega
            go_wp2_with fail
            go_roundg (gk - 1)
            case measure => omega
            case rel => exact ⟨bs, [], inv33_skip HINV.out (.inl (by have := HL.out; omega)) hpos, HT, HM, HE, hz, by omega, by omega⟩
          · have hlt : i < n := by omega
            have hlt2 : (i : Int) < (n : Int) := by omega
            have hib : i < bs.length := by have := HBL.out; omega
            have qm := HM.out.cell hib
            by_cases hm : mk bs i = true
            · rw [hm] at qm
              have HMK := Lib.hid hm
              clear hm
              go_wp2_with fail
              go_roundg (gk - 1)
              case measure => omega
              case rel => exact ⟨bs, [], inv33_skip HINV.out (.inr HMK.out) hpos, HT, HM, HE, hz, by omega, by omega⟩
            · replace hm : mk bs i = false := by simpa using hm
              rw [hm] at qm
              have HMK := Lib.hid hm
              clear hm
              have fm := HM.out.fz i
              go_upto_region 10 with (fail)
              have hg3 : g < (wr.setCell ⟨S, i, none⟩ (.bool true)).heap.size := by rw [Blk.size_set]; exact hglt
              have e3 := Ext.set HE.out (show w1.heap.size ≤ S by omega) i (.bool true)
              have kM3 := HM.out.mark i
              have hQ3 := HT.out.set (show S < S + 1 by omega) i (.bool true)
              have hz3 : S + 1 ≤ (wr.setCell ⟨S, i, none⟩ (.bool true)).heap.size := by rw [Blk.size_set]; exact hz
              generalize World.setCell wr _ _ = W3 at e3 kM3 hQ3 hz3 hg3
              have lx : i < ss.length := by have := HL.out; omega
              obtain ⟨ad, T, c', hA, hs0, hs1, hs2, hs3, hcc, hTT⟩ := (HX.out.ext (Ext.trans HE1.out e3)) i lx
              subst hA
              have HQ3 := Lib.hid hQ3
              clear hc0 hq1 qm fm hTT hQ3
              have hq1 := (KP.out.ext e3).c1
              have E3 := Lib.hid e3
              clear e3
              have hso := HVO.out.each ss[i] (List.getElem_mem lx)
              have HI33 := Lib.hid (inv33_mark HINV.out lx (fun h5 h7 => place_of hso (by omega)))
              have hleft := left_set hib HMK.out
              have hvb := hso.verb
              clear hso
              rcases verb_cases hvb with h | h | h | h | h | h | h | h | h | h | h | h | h
              · rw [h] at hs0
                go_wp2_with (at_builtin; go_loud (refine app_q (S + 1) rfl (.tmp 71) (.tmp 74) rfl _ _ _ _ rfl rfl (by simp) (HQ3.out.ext (Ext.new _ _)) (Nat.le_trans hz3 (Ext.new _ _).size) (by have := HRL.out; omega) ?_; intro v5 w5 hown hb5 hz5 hk5; have kM5 := (kM3.ext (Ext.new W3 _)).below hb5 (show S < S + 1 by omega); have E5 := Below.trans (Ext.al E3.out _) (Below.mono hb5 (show w1.heap.size ≤ S + 1 by omega)); have HQ5 := Lib.hid hown; have HM5 := Lib.hid kM5; have HE5 := Lib.hid E5; clear hown hb5 hk5 kM5 E5))
                go_roundg (gk - 1)
                case measure => omega
                case rel =>
                  have e : ([] : List Int) ++ toB ss[i] ++ toN ss[i] i = ([] : List Int) ++ [(i : Int) + 1] := by simp [toB, toN, h]
                  have HI4 := HI33.out
                  rw [e] at HI4
                  exact ⟨bs.set i true, _, HI4, HQ5, HM5, HE5, hz5, by first | omega | (simp only [List.length_append, List.length_cons, List.length_nil]; omega), by first | omega | (simp only [List.length_append, List.length_cons, List.length_nil]; omega)⟩
              · rw [h] at hs0
                go_wp2_with (at_builtin; go_loud (refine app_q (S + 1) rfl (.tmp 71) (.tmp 74) rfl _ _ _ _ rfl rfl (by simp) (HQ3.out.ext (Ext.new _ _)) (Nat.le_trans hz3 (Ext.new _ _).size) (by have := HRL.out; omega) ?_; intro v5 w5 hown hb5 hz5 hk5; have kM5 := (kM3.ext (Ext.new W3 _)).below hb5 (show S < S + 1 by omega); have E5 := Below.trans (Ext.al E3.out _) (Below.mono hb5 (show w1.heap.size ≤ S + 1 by omega)); have HQ5 := Lib.hid hown; have HM5 := Lib.hid kM5; have HE5 := Lib.hid E5; clear hown hb5 hk5 kM5 E5))
                go_roundg (gk - 1)
                case measure => omega
                case rel =>
                  have e : ([] : List Int) ++ toB ss[i] ++ toN ss[i] i = ([] : List Int) ++ [(i : Int) + 1] := by simp [toB, toN, h]
                  have HI4 := HI33.out
                  rw [e] at HI4
                  exact ⟨bs.set i true, _, HI4, HQ5, HM5, HE5, hz5, by first | omega | (simp only [List.length_append, List.length_cons, List.length_nil]; omega), by first | omega | (simp only [List.length_append, List.length_cons, List.length_nil]; omega)⟩
              · rw [h] at hs0
                go_wp2_with (at_builtin; go_loud (refine app_q (S + 1) rfl (.tmp 71) (.tmp 74) rfl _ _ _ _ rfl rfl (by simp) (HQ3.out.ext (Ext.new _ _)) (Nat.le_trans hz3 (Ext.new _ _).size) (by have := HRL.out; omega) ?_; intro v5 w5 hown hb5 hz5 hk5; have kM5 := (kM3.ext (Ext.new W3 _)).below hb5 (show S < S + 1 by omega); have E5 := Below.trans (Ext.al E3.out _) (Below.mono hb5 (show w1.heap.size ≤ S + 1 by omega)); have HQ5 := Lib.hid hown; have HM5 := Lib.hid kM5; have HE5 := Lib.hid E5; clear hown hb5 hk5 kM5 E5))
                go_roundg (gk - 1)
                case measure => omega
                case rel =>
                  have e : ([] : List Int) ++ toB ss[i] ++ toN ss[i] i = ([] : List Int) ++ [(i : Int) + 1] := by simp [toB, toN, h]
                  have HI4 := HI33.out
                  rw [e] at HI4
                  exact ⟨bs.set i true, _, HI4, HQ5, HM5, HE5, hz5, by first | omega | (simp only [List.length_append, List.length_cons, List.length_nil]; omega), by first | omega | (simp only [List.length_append, List.length_cons, List.length_nil]; omega)⟩
              · rw [h] at hs0
                go_wp2_with (at_builtin; go_loud (refine app_q (S + 1) rfl (.tmp 71) (.tmp 74) rfl _ _ _ _ rfl rfl (by simp) (HQ3.out.ext (Ext.new _ _)) (Nat.le_trans hz3 (Ext.new _ _).size) (by have := HRL.out; omega) ?_; intro v5 w5 hown hb5 hz5 hk5; have kM5 := (kM3.ext (Ext.new W3 _)).below hb5 (show S < S + 1 by omega); have E5 := Below.trans (Ext.al E3.out _) (Below.mono hb5 (show w1.heap.size ≤ S + 1 by omega)); have HQ5 := Lib.hid hown; have HM5 := Lib.hid kM5; have HE5 := Lib.hid E5; clear hown hb5 hk5 kM5 E5))
                go_roundg (gk - 1)
                case measure => omega
                case rel =>
                  have e : ([] : List Int) ++ toB ss[i] ++ toN ss[i] i = ([] : List Int) ++ [(i : Int) + 1] := by simp [toB, toN, h]
                  have HI4 := HI33.out
                  rw [e] at HI4
                  exact ⟨bs.set i true, _, HI4, HQ5, HM5, HE5, hz5, by first | omega | (simp only [List.length_append, List.length_cons, List.length_nil]; omega), by first | omega | (simp only [List.length_append, List.length_cons, List.length_nil]; omega)⟩
              · rw [h] at hs0
                go_wp2_with (first | (at_builtin; go_loud (refine app_q (S + 1) rfl (.tmp 53) (.tmp 56) rfl _ _ _ _ rfl rfl (by simp) (HQ3.out.ext (Ext.new _ _)) (Nat.le_trans hz3 (Ext.new _ _).size) (by have := HRL.out; omega) ?_; intro v1 w4 hown hb1 hz4 hk4; have z0 := (show Blk w4 W3.heap.size 77 [.int .i64 5, .int .i64 ss[i].a, .int .i64 ss[i].b, .slice T ss[i].texts.length c'] from (hk4 W3.heap.size (by simp) (by simp only [Value.ownBlock]; intro e; have e2 : g = W3.heap.size := Option.some.inj e; omega)).trans (heap_alloc_new W3 _)).c0; have kM4 := (kM3.ext (Ext.new W3 _)).below hb1 (show S < S + 1 by omega); have E4 := Below.trans (Ext.al E3.out _) (Below.mono hb1 (show w1.heap.size ≤ S + 1 by omega)); have HQ4 := Lib.hid hown; have HM4 := Lib.hid kM4; have HE4 := Lib.hid E4; clear hown hb1 hk4 kM4 E4)) | (at_builtin; go_loud (refine app_q (S + 1) rfl (.tmp 71) (.tmp 74) rfl _ _ _ _ rfl rfl rfl HQ4.out hz4 (by have h1 := HRL.out; rw [List.length_append]; show (((_ : Nat) + 1 : Nat) : Int) ≤ _; omega) ?_; intro v5 w5 hown hb5 hz5 hk5; have kM5 := HM4.out.below hb5 (show S < S + 1 by omega); have E5 := Below.trans HE4.out (Below.mono hb5 (show w1.heap.size ≤ S + 1 by omega)); have HQ5 := Lib.hid hown; have HM5 := Lib.hid kM5; have HE5 := Lib.hid E5; clear hown hb5 hk5 kM5 E5)))
                go_roundg (gk - 1)
                case measure => omega
                case rel =>
                  have e : ([] : List Int) ++ toB ss[i] ++ toN ss[i] i = ([] : List Int) ++ [ss[i].b] ++ [(i : Int) + 1] := by simp [toB, toN, h]
                  have HI4 := HI33.out
                  rw [e] at HI4
                  exact ⟨bs.set i true, _, HI4, HQ5, HM5, HE5, hz5, by first | omega | (simp only [List.length_append, List.length_cons, List.length_nil]; omega), by first | omega | (simp only [List.length_append, List.length_cons, List.length_nil]; omega)⟩
              · rw [h] at hs0
                go_wp2_with (first | (at_builtin; go_loud (refine app_q (S + 1) rfl (.tmp 53) (.tmp 56) rfl _ _ _ _ rfl rfl (by simp) (HQ3.out.ext (Ext.new _ _)) (Nat.le_trans hz3 (Ext.new _ _).size) (by have := HRL.out; omega) ?_; intro v1 w4 hown hb1 hz4 hk4; have z0 := (show Blk w4 W3.heap.size 77 [.int .i64 6, .int .i64 ss[i].a, .int .i64 ss[i].b, .slice T ss[i].texts.length c'] from (hk4 W3.heap.size (by simp) (by simp only [Value.ownBlock]; intro e; have e2 : g = W3.heap.size := Option.some.inj e; omega)).trans (heap_alloc_new W3 _)).c0; have kM4 := (kM3.ext (Ext.new W3 _)).below hb1 (show S < S + 1 by omega); have E4 := Below.trans (Ext.al E3.out _) (Below.mono hb1 (show w1.heap.size ≤ S + 1 by omega)); have HQ4 := Lib.hid hown; have HM4 := Lib.hid kM4; have HE4 := Lib.hid E4; clear hown hb1 hk4 kM4 E4)) | (at_builtin; go_loud (refine app_q (S + 1) rfl (.tmp 71) (.tmp 74) rfl _ _ _ _ rfl rfl rfl HQ4.out hz4 (by have h1 := HRL.out; rw [List.length_append]; show (((_ : Nat) + 1 : Nat) : Int) ≤ _; omega) ?_; intro v5 w5 hown hb5 hz5 hk5; have kM5 := HM4.out.below hb5 (show S < S + 1 by omega); have E5 := Below.trans HE4.out (Below.mono hb5 (show w1.heap.size ≤ S + 1 by omega)); have HQ5 := Lib.hid hown; have HM5 := Lib.hid kM5; have HE5 := Lib.hid E5; clear hown hb5 hk5 kM5 E5)))
                go_roundg (gk - 1)
                case measure => omega
                case rel =>
                  have e : ([] : List Int) ++ toB ss[i] ++ toN ss[i] i = ([] : List Int) ++ [ss[i].b] ++ [(i : Int) + 1] := by simp [toB, toN, h]
                  have HI4 := HI33.out
                  rw [e] at HI4
                  exact ⟨bs.set i true, _, HI4, HQ5, HM5, HE5, hz5, by first | omega | (simp only [List.length_append, List.length_cons, List.length_nil]; omega), by first | omega | (simp only [List.length_append, List.length_cons, List.length_nil]; omega)⟩
              · rw [h] at hs0
                go_wp2_with (at_builtin; go_loud (refine app_q (S + 1) rfl (.tmp 53) (.tmp 56) rfl _ _ _ _ rfl rfl (by simp) (HQ3.out.ext (Ext.new _ _)) (Nat.le_trans hz3 (Ext.new _ _).size) (by have := HRL.out; omega) ?_; intro v1 w4 hown hb1 hz4 hk4; have z0 := (show Blk w4 W3.heap.size 77 [.int .i64 7, .int .i64 ss[i].a, .int .i64 ss[i].b, .slice T ss[i].texts.length c'] from (hk4 W3.heap.size (by simp) (by simp only [Value.ownBlock]; intro e; have e2 : g = W3.heap.size := Option.some.inj e; omega)).trans (heap_alloc_new W3 _)).c0; have kM4 := (kM3.ext (Ext.new W3 _)).below hb1 (show S < S + 1 by omega); have E4 := Below.trans (Ext.al E3.out _) (Below.mono hb1 (show w1.heap.size ≤ S + 1 by omega)); have HQ4 := Lib.hid hown; have HM4 := Lib.hid kM4; have HE4 := Lib.hid E4; clear hown hb1 hk4 kM4 E4))
                go_roundg (gk - 1)
                case measure => omega
                case rel =>
                  have e : ([] : List Int) ++ toB ss[i] ++ toN ss[i] i = ([] : List Int) ++ [ss[i].b] := by simp [toB, toN, h]
                  have HI4 := HI33.out
                  rw [e] at HI4
                  exact ⟨bs.set i true, _, HI4, HQ4, HM4, HE4, hz4, by first | omega | (simp only [List.length_append, List.length_cons, List.length_nil]; omega), by first | omega | (simp only [List.length_append, List.length_cons, List.length_nil]; omega)⟩
              · rw [h] at hs0
                go_wp2_with (at_builtin; go_loud (refine app_q (S + 1) rfl (.tmp 71) (.tmp 74) rfl _ _ _ _ rfl rfl (by simp) (HQ3.out.ext (Ext.new _ _)) (Nat.le_trans hz3 (Ext.new _ _).size) (by have := HRL.out; omega) ?_; intro v5 w5 hown hb5 hz5 hk5; have kM5 := (kM3.ext (Ext.new W3 _)).below hb5 (show S < S + 1 by omega); have E5 := Below.trans (Ext.al E3.out _) (Below.mono hb5 (show w1.heap.size ≤ S + 1 by omega)); have HQ5 := Lib.hid hown; have HM5 := Lib.hid kM5; have HE5 := Lib.hid E5; clear hown hb5 hk5 kM5 E5))
                go_roundg (gk - 1)
                case measure => omega
                case rel =>
                  have e : ([] : List Int) ++ toB ss[i] ++ toN ss[i] i = ([] : List Int) ++ [(i : Int) + 1] := by simp [toB, toN, h]
                  have HI4 := HI33.out
                  rw [e] at HI4
                  exact ⟨bs.set i true, _, HI4, HQ5, HM5, HE5, hz5, by first | omega | (simp only [List.length_append, List.length_cons, List.length_nil]; omega), by first | omega | (simp only [List.length_append, List.length_cons, List.length_nil]; omega)⟩
              · rw [h] at hs0
                go_wp2_with (at_builtin; go_loud (refine app_q (S + 1) rfl (.tmp 71) (.tmp 74) rfl _ _ _ _ rfl rfl (by simp) (HQ3.out.ext (Ext.new _ _)) (Nat.le_trans hz3 (Ext.new _ _).size) (by have := HRL.out; omega) ?_; intro v5 w5 hown hb5 hz5 hk5; have kM5 := (kM3.ext (Ext.new W3 _)).below hb5 (show S < S + 1 by omega); have E5 := Below.trans (Ext.al E3.out _) (Below.mono hb5 (show w1.heap.size ≤ S + 1 by omega)); have HQ5 := Lib.hid hown; have HM5 := Lib.hid kM5; have HE5 := Lib.hid E5; clear hown hb5 hk5 kM5 E5))
                go_roundg (gk - 1)
                case measure => omega
                case rel =>
                  have e : ([] : List Int) ++ toB ss[i] ++ toN ss[i] i = ([] : List Int) ++ [(i : Int) + 1] := by simp [toB, toN, h]
                  have HI4 := HI33.out
                  rw [e] at HI4
                  exact ⟨bs.set i true, _, HI4, HQ5, HM5, HE5, hz5, by first | omega | (simp only [List.length_append, List.length_cons, List.length_nil]; omega), by first | omega | (simp only [List.length_append, List.length_cons, List.length_nil]; omega)⟩
              · rw [h] at hs0
                go_wp2_with (at_builtin; go_loud (refine app_q (S + 1) rfl (.tmp 71) (.tmp 74) rfl _ _ _ _ rfl rfl (by simp) (HQ3.out.ext (Ext.new _ _)) (Nat.le_trans hz3 (Ext.new _ _).size) (by have := HRL.out; omega) ?_; intro v5 w5 hown hb5 hz5 hk5; have kM5 := (kM3.ext (Ext.new W3 _)).below hb5 (show S < S + 1 by omega); have E5 := Below.trans (Ext.al E3.out _) (Below.mono hb5 (show w1.heap.size ≤ S + 1 by omega)); have HQ5 := Lib.hid hown; have HM5 := Lib.hid kM5; have HE5 := Lib.hid E5; clear hown hb5 hk5 kM5 E5))
                go_roundg (gk - 1)
                case measure => omega
                case rel =>
                  have e : ([] : List Int) ++ toB ss[i] ++ toN ss[i] i = ([] : List Int) ++ [(i : Int) + 1] := by simp [toB, toN, h]
                  have HI4 := HI33.out
                  rw [e] at HI4
                  exact ⟨bs.set i true, _, HI4, HQ5, HM5, HE5, hz5, by first | omega | (simp only [List.length_append, List.length_cons, List.length_nil]; omega), by first | omega | (simp only [List.length_append, List.length_cons, List.length_nil]; omega)⟩
              · rw [h] at hs0
                go_wp2_with (at_builtin; go_loud (refine app_q (S + 1) rfl (.tmp 71) (.tmp 74) rfl _ _ _ _ rfl rfl (by simp) (HQ3.out.ext (Ext.new _ _)) (Nat.le_trans hz3 (Ext.new _ _).size) (by have := HRL.out; omega) ?_; intro v5 w5 hown hb5 hz5 hk5; have kM5 := (kM3.ext (Ext.new W3 _)).below hb5 (show S < S + 1 by omega); have E5 := Below.trans (Ext.al E3.out _) (Below.mono hb5 (show w1.heap.size ≤ S + 1 by omega)); have HQ5 := Lib.hid hown; have HM5 := Lib.hid kM5; have HE5 := Lib.hid E5; clear hown hb5 hk5 kM5 E5))
                go_roundg (gk - 1)
                case measure => omega
                case rel =>
                  have e : ([] : List Int) ++ toB ss[i] ++ toN ss[i] i = ([] : List Int) ++ [(i : Int) + 1] := by simp [toB, toN, h]
                  have HI4 := HI33.out
                  rw [e] at HI4
                  exact ⟨bs.set i true, _, HI4, HQ5, HM5, HE5, hz5, by first | omega | (simp only [List.length_append, List.length_cons, List.length_nil]; omega), by first | omega | (simp only [List.length_append, List.length_cons, List.length_nil]; omega)⟩
              · rw [h] at hs0
                go_wp2_with fail
                go_roundg (gk - 1)
                case measure => omega
                case rel =>
                  have e : ([] : List Int) ++ toB ss[i] ++ toN ss[i] i = ([] : List Int) := by simp [toB, toN, h]
                  have HI4 := HI33.out
                  rw [e] at HI4
                  exact ⟨bs.set i true, _, HI4, Lib.hid (HQ3.out.ext (Ext.new _ _)), Lib.hid (kM3.ext (Ext.new _ _)), Lib.hid (Ext.al E3.out _), Nat.le_trans hz3 (Ext.new _ _).size, by first | omega | (simp only [List.length_append, List.length_cons, List.length_nil]; omega), by first | omega | (simp only [List.length_append, List.length_cons, List.length_nil]; omega)⟩
              · rw [h] at hs0
                go_wp2_with fail
                go_roundg (gk - 1)
                case measure => omega
                case rel =>
                  have e : ([] : List Int) ++ toB ss[i] ++ toN ss[i] i = ([] : List Int) := by simp [toB, toN, h]
                  have HI4 := HI33.out
                  rw [e] at HI4
                  exact ⟨bs.set i true, _, HI4, Lib.hid (HQ3.out.ext (Ext.new _ _)), Lib.hid (kM3.ext (Ext.new _ _)), Lib.hid (Ext.al E3.out _), Nat.le_trans hz3 (Ext.new _ _).size, by first | omega | (simp only [List.length_append, List.length_cons, List.length_nil]; omega), by first | omega | (simp only [List.length_append, List.length_cons, List.length_nil]; omega)⟩
        · have HT := Lib.hid (OwnQ.tail hbg hkg hlc hoc hcell)
          clear hbg hkg hoc hcell
          by_cases hge : n ≤ i
          · have hge2 : (n : Int) ≤ (i : Int) := by omega
            go_wp2_with fail
            go_roundg (gk - 1)
            case measure => omega
            case rel => exact ⟨bs, rest, inv33_skip HINV.out (.inl (by have := HL.out; omega)) hpos, HT, HM, HE, hz, by omega, by omega⟩
          · have hlt : i < n := by omega
            have hlt2 : (i : Int) < (n : Int) := by omega
            have hib : i < bs.length := by have := HBL.out; omega
            have qm := HM.out.cell hib
            by_cases hm : mk bs i = true
            · rw [hm] at qm
              have HMK := Lib.hid hm
              clear hm
              go_wp2_with fail
              go_roundg (gk - 1)
              case measure => omega
              case rel => exact ⟨bs, rest, inv33_skip HINV.out (.inr HMK.out) hpos, HT, HM, HE, hz, by omega, by omega⟩
            · replace hm : mk bs i = false := by simpa using hm
              rw [hm] at qm
              have HMK := Lib.hid hm
              clear hm
              have fm := HM.out.fz i
              go_upto_region 10 with (fail)
              have hg3 : g < (wr.setCell ⟨S, i, none⟩ (.bool true)).heap.size := by rw [Blk.size_set]; exact hglt
              have e3 := Ext.set HE.out (show w1.heap.size ≤ S by omega) i (.bool true)
              have kM3 := HM.out.mark i
              have hQ3 := HT.out.set (show S < S + 1 by omega) i (.bool true)
              have hz3 : S + 1 ≤ (wr.setCell ⟨S, i, none⟩ (.bool true)).heap.size := by rw [Blk.size_set]; exact hz
              generalize World.setCell wr _ _ = W3 at e3 kM3 hQ3 hz3 hg3
              have lx : i < ss.length := by have := HL.out; omega
              obtain ⟨ad, T, c', hA, hs0, hs1, hs2, hs3, hcc, hTT⟩ := (HX.out.ext (Ext.trans HE1.out e3)) i lx
              subst hA
              have HQ3 := Lib.hid hQ3
              clear hc0 hq1 qm fm hTT hQ3
              have hq1 := (KP.out.ext e3).c1
              have E3 := Lib.hid e3
              clear e3
              have hso := HVO.out.each ss[i] (List.getElem_mem lx)
              have HI33 := Lib.hid (inv33_mark HINV.out lx (fun h5 h7 => place_of hso (by omega)))
              have hleft := left_set hib HMK.out
              have hvb := hso.verb
              clear hso
              rcases verb_cases hvb with h | h | h | h | h | h | h | h | h | h | h | h | h
              · rw [h] at hs0
                go_wp2_with (at_builtin; go_loud (refine app_q (S + 1) rfl (.tmp 71) (.tmp 74) rfl _ _ _ _ rfl rfl (by simp) (HQ3.out.ext (Ext.new _ _)) (Nat.le_trans hz3 (Ext.new _ _).size) (by have := HRL.out; omega) ?_; intro v5 w5 hown hb5 hz5 hk5; have kM5 := (kM3.ext (Ext.new W3 _)).below hb5 (show S < S + 1 by omega); have E5 := Below.trans (Ext.al E3.out _) (Below.mono hb5 (show w1.heap.size ≤ S + 1 by omega)); have HQ5 := Lib.hid hown; have HM5 := Lib.hid kM5; have HE5 := Lib.hid E5; clear hown hb5 hk5 kM5 E5))
                go_roundg (gk - 1)
                case measure => omega
                case rel =>
                  have e : rest ++ toB ss[i] ++ toN ss[i] i = rest ++ [(i : Int) + 1] := by simp [toB, toN, h]
                  have HI4 := HI33.out
                  rw [e] at HI4
                  exact ⟨bs.set i true, _, HI4, HQ5, HM5, HE5, hz5, by first | omega | (simp only [List.length_append, List.length_cons, List.length_nil]; omega), by first | omega | (simp only [List.length_append, List.length_cons, List.length_nil]; omega)⟩
              · rw [h] at hs0
                go_wp2_with (at_builtin; go_loud (refine app_q (S + 1) rfl (.tmp 71) (.tmp 74) rfl _ _ _ _ rfl rfl (by simp) (HQ3.out.ext (Ext.new _ _)) (Nat.le_trans hz3 (Ext.new _ _).size) (by have := HRL.out; omega) ?_; intro v5 w5 hown hb5 hz5 hk5; have kM5 := (kM3.ext (Ext.new W3 _)).below hb5 (show S < S + 1 by omega); have E5 := Below.trans (Ext.al E3.out _) (Below.mono hb5 (show w1.heap.size ≤ S + 1 by omega)); have HQ5 := Lib.hid hown; have HM5 := Lib.hid kM5; have HE5 := Lib.hid E5; clear hown hb5 hk5 kM5 E5))
                go_roundg (gk - 1)
                case measure => omega
                case rel =>
                  have e : rest ++ toB ss[i] ++ toN ss[i] i = rest ++ [(i : Int) + 1] := by simp [toB, toN, h]
                  have HI4 := HI33.out
                  rw [e] at HI4
                  exact ⟨bs.set i true, _, HI4, HQ5, HM5, HE5, hz5, by first | omega | (simp only [List.length_append, List.length_cons, List.length_nil]; omega), by first | omega | (simp only [List.length_append, List.length_cons, List.length_nil]; omega)⟩
              · rw [h] at hs0
                go_wp2_with (at_builtin; go_loud (refine app_q (S + 1) rfl (.tmp 71) (.tmp 74) rfl _ _ _ _ rfl rfl (by simp) (HQ3.out.ext (Ext.new _ _)) (Nat.le_trans hz3 (Ext.new _ _).size) (by have := HRL.out; omega) ?_; intro v5 w5 hown hb5 hz5 hk5; have kM5 := (kM3.ext (Ext.new W3 _)).below hb5 (show S < S + 1 by omega); have E5 := Below.trans (Ext.al E3.out _) (Below.mono hb5 (show w1.heap.size ≤ S + 1 by omega)); have HQ5 := Lib.hid hown; have HM5 := Lib.hid kM5; have HE5 := Lib.hid E5; clear hown hb5 hk5 kM5 E5))
                go_roundg (gk - 1)
                case measure => omega
                case rel =>
                  have e : rest ++ toB ss[i] ++ toN ss[i] i = rest ++ [(i : Int) + 1] := by simp [toB, toN, h]
                  have HI4 := HI33.out
                  rw [e] at HI4
                  exact ⟨bs.set i true, _, HI4, HQ5, HM5, HE5, hz5, by first | omega | (simp only [List.length_append, List.length_cons, List.length_nil]; omega), by first | omega | (simp only [List.length_append, List.length_cons, List.length_nil]; omega)⟩
              · rw [h] at hs0
                go_wp2_with (at_builtin; go_loud (refine app_q (S + 1) rfl (.tmp 71) (.tmp 74) rfl _ _ _ _ rfl rfl (by simp) (HQ3.out.ext (Ext.new _ _)) (Nat.le_trans hz3 (Ext.new _ _).size) (by have := HRL.out; omega) ?_; intro v5 w5 hown hb5 hz5 hk5; have kM5 := (kM3.ext (Ext.new W3 _)).below hb5 (show S < S + 1 by omega); have E5 := Below.trans (Ext.al E3.out _) (Below.mono hb5 (show w1.heap.size ≤ S + 1 by omega)); have HQ5 := Lib.hid hown; have HM5 := Lib.hid kM5; have HE5 := Lib.hid E5; clear hown hb5 hk5 kM5 E5))
                go_roundg (gk - 1)
                case measure => omega
                case rel =>
                  have e : rest ++ toB ss[i] ++ toN ss[i] i = rest ++ [(i : Int) + 1] := by simp [toB, toN, h]
                  have HI4 := HI33.out
                  rw [e] at HI4
                  exact ⟨bs.set i true, _, HI4, HQ5, HM5, HE5, hz5, by first | omega | (simp only [List.length_append, List.length_cons, List.length_nil]; omega), by first | omega | (simp only [List.length_append, List.length_cons, List.length_nil]; omega)⟩
              · rw [h] at hs0
                go_wp2_with (first | (at_builtin; go_loud (refine app_q (S + 1) rfl (.tmp 53) (.tmp 56) rfl _ _ _ _ rfl rfl (by simp) (HQ3.out.ext (Ext.new _ _)) (Nat.le_trans hz3 (Ext.new _ _).size) (by have := HRL.out; omega) ?_; intro v1 w4 hown hb1 hz4 hk4; have z0 := (show Blk w4 W3.heap.size 77 [.int .i64 5, .int .i64 ss[i].a, .int .i64 ss[i].b, .slice T ss[i].texts.length c'] from (hk4 W3.heap.size (by simp) (by simp only [Value.ownBlock]; intro e; have e2 : g = W3.heap.size := Option.some.inj e; omega)).trans (heap_alloc_new W3 _)).c0; have kM4 := (kM3.ext (Ext.new W3 _)).below hb1 (show S < S + 1 by omega); have E4 := Below.trans (Ext.al E3.out _) (Below.mono hb1 (show w1.heap.size ≤ S + 1 by omega)); have HQ4 := Lib.hid hown; have HM4 := Lib.hid kM4; have HE4 := Lib.hid E4; clear hown hb1 hk4 kM4 E4)) | (at_builtin; go_loud (refine app_q (S + 1) rfl (.tmp 71) (.tmp 74) rfl _ _ _ _ rfl rfl rfl HQ4.out hz4 (by have h1 := HRL.out; rw [List.length_append]; show (((_ : Nat) + 1 : Nat) : Int) ≤ _; omega) ?_; intro v5 w5 hown hb5 hz5 hk5; have kM5 := HM4.out.below hb5 (show S < S + 1 by omega); have E5 := Below.trans HE4.out (Below.mono hb5 (show w1.heap.size ≤ S + 1 by omega)); have HQ5 := Lib.hid hown; have HM5 := Lib.hid kM5; have HE5 := Lib.hid E5; clear hown hb5 hk5 kM5 E5)))
                go_roundg (gk - 1)
                case measure => omega
                case rel =>
                  have e : rest ++ toB ss[i] ++ toN ss[i] i = rest ++ [ss[i].b] ++ [(i : Int) + 1] := by simp [toB, toN, h]
                  have HI4 := HI33.out
                  rw [e] at HI4
                  exact ⟨bs.set i true, _, HI4, HQ5, HM5, HE5, hz5, by first | omega | (simp only [List.length_append, List.length_cons, List.length_nil]; omega), by first | omega | (simp only [List.length_append, List.length_cons, List.length_nil]; omega)⟩
              · rw [h] at hs0
                go_wp2_with (first | (at_builtin; go_loud (refine app_q (S + 1) rfl (.tmp 53) (.tmp 56) rfl _ _ _ _ rfl rfl (by simp) (HQ3.out.ext (Ext.new _ _)) (Nat.le_trans hz3 (Ext.new _ _).size) (by have := HRL.out; omega) ?_; intro v1 w4 hown hb1 hz4 hk4; have z0 := (show Blk w4 W3.heap.size 77 [.int .i64 6, .int .i64 ss[i].a, .int .i64 ss[i].b, .slice T ss[i].texts.length c'] from (hk4 W3.heap.size (by simp) (by simp only [Value.ownBlock]; intro e; have e2 : g = W3.heap.size := Option.some.inj e; omega)).trans (heap_alloc_new W3 _)).c0; have kM4 := (kM3.ext (Ext.new W3 _)).below hb1 (show S < S + 1 by omega); have E4 := Below.trans (Ext.al E3.out _) (Below.mono hb1 (show w1.heap.size ≤ S + 1 by omega)); have HQ4 := Lib.hid hown; have HM4 := Lib.hid kM4; have HE4 := Lib.hid E4; clear hown hb1 hk4 kM4 E4)) | (at_builtin; go_loud (refine app_q (S + 1) rfl (.tmp 71) (.tmp 74) rfl _ _ _ _ rfl rfl rfl HQ4.out hz4 (by have h1 := HRL.out; rw [List.length_append]; show (((_ : Nat) + 1 : Nat) : Int) ≤ _; omega) ?_; intro v5 w5 hown hb5 hz5 hk5; have kM5 := HM4.out.below hb5 (show S < S + 1 by omega); have E5 := Below.trans HE4.out (Below.mono hb5 (show w1.heap.size ≤ S + 1 by omega)); have HQ5 := Lib.hid hown; have HM5 := Lib.hid kM5; have HE5 := Lib.hid E5; clear hown hb5 hk5 kM5 E5)))
                go_roundg (gk - 1)
                case measure => omega
                case rel =>
                  have e : rest ++ toB ss[i] ++ toN ss[i] i = rest ++ [ss[i].b] ++ [(i : Int) + 1] := by simp [toB, toN, h]
                  have HI4 := HI33.out
                  rw [e] at HI4
                  exact ⟨bs.set i true, _, HI4, HQ5, HM5, HE5, hz5, by first | omega | (simp only [List.length_append, List.length_cons, List.length_nil]; omega), by first | omega | (simp only [List.length_append, List.length_cons, List.length_nil]; omega)⟩
              · rw [h] at hs0
                go_wp2_with (at_builtin; go_loud (refine app_q (S + 1) rfl (.tmp 53) (.tmp 56) rfl _ _ _ _ rfl rfl (by simp) (HQ3.out.ext (Ext.new _ _)) (Nat.le_trans hz3 (Ext.new _ _).size) (by have := HRL.out; omega) ?_; intro v1 w4 hown hb1 hz4 hk4; have z0 := (show Blk w4 W3.heap.size 77 [.int .i64 7, .int .i64 ss[i].a, .int .i64 ss[i].b, .slice T ss[i].texts.length c'] from (hk4 W3.heap.size (by simp) (by simp only [Value.ownBlock]; intro e; have e2 : g = W3.heap.size := Option.some.inj e; omega)).trans (heap_alloc_new W3 _)).c0; have kM4 := (kM3.ext (Ext.new W3 _)).below hb1 (show S < S + 1 by omega); have E4 := Below.trans (Ext.al E3.out _) (Below.mono hb1 (show w1.heap.size ≤ S + 1 by omega)); have HQ4 := Lib.hid hown; have HM4 := Lib.hid kM4; have HE4 := Lib.hid E4; clear hown hb1 hk4 kM4 E4))
                go_roundg (gk - 1)
                case measure => omega
                case rel =>
                  have e : rest ++ toB ss[i] ++ toN ss[i] i = rest ++ [ss[i].b] := by simp [toB, toN, h]
                  have HI4 := HI33.out
                  rw [e] at HI4
                  exact ⟨bs.set i true, _, HI4, HQ4, HM4, HE4, hz4, by first | omega | (simp only [List.length_append, List.length_cons, List.length_nil]; omega), by first | omega | (simp only [List.length_append, List.length_cons, List.length_nil]; omega)⟩
              · rw [h] at hs0
                go_wp2_with (at_builtin; go_loud (refine app_q (S + 1) rfl (.tmp 71) (.tmp 74) rfl _ _ _ _ rfl rfl (by simp) (HQ3.out.ext (Ext.new _ _)) (Nat.le_trans hz3 (Ext.new _ _).size) (by have := HRL.out; omega) ?_; intro v5 w5 hown hb5 hz5 hk5; have kM5 := (kM3.ext (Ext.new W3 _)).below hb5 (show S < S + 1 by omega); have E5 := Below.trans (Ext.al E3.out _) (Below.mono hb5 (show w1.heap.size ≤ S + 1 by omega)); have HQ5 := Lib.hid hown; have HM5 := Lib.hid kM5; have HE5 := Lib.hid E5; clear hown hb5 hk5 kM5 E5))
                go_roundg (gk - 1)
                case measure => omega
                case rel =>
                  have e : rest ++ toB ss[i] ++ toN ss[i] i = rest ++ [(i : Int) + 1] := by simp [toB, toN, h]
                  have HI4 := HI33.out
                  rw [e] at HI4
                  exact ⟨bs.set i true, _, HI4, HQ5, HM5, HE5, hz5, by first | omega | (simp only [List.length_append, List.length_cons, List.length_nil]; omega), by first | omega | (simp only [List.length_append, List.length_cons, List.length_nil]; omega)⟩
              · rw [h] at hs0
                go_wp2_with (at_builtin; go_loud (refine app_q (S + 1) rfl (.tmp 71) (.tmp 74) rfl _ _ _ _ rfl rfl (by simp) (HQ3.out.ext (Ext.new _ _)) (Nat.le_trans hz3 (Ext.new _ _).size) (by have := HRL.out; omega) ?_; intro v5 w5 hown hb5 hz5 hk5; have kM5 := (kM3.ext (Ext.new W3 _)).below hb5 (show S < S + 1 by omega); have E5 := Below.trans (Ext.al E3.out _) (Below.mono hb5 (show w1.heap.size ≤ S + 1 by omega)); have HQ5 := Lib.hid hown; have HM5 := Lib.hid kM5; have HE5 := Lib.hid E5; clear hown hb5 hk5 kM5 E5))
                go_roundg (gk - 1)
                case measure => omega
                case rel =>
                  have e : rest ++ toB ss[i] ++ toN ss[i] i = rest ++ [(i : Int) + 1] := by simp [toB, toN, h]
                  have HI4 := HI33.out
                  rw [e] at HI4
                  exact ⟨bs.set i true, _, HI4, HQ5, HM5, HE5, hz5, by first | omega | (simp only [List.length_append, List.length_cons, List.length_nil]; omega), by first | omega | (simp only [List.length_append, List.length_cons, List.length_nil]; omega)⟩
              · rw [h] at hs0
                go_wp2_with (at_builtin; go_loud (refine app_q (S + 1) rfl (.tmp 71) (.tmp 74) rfl _ _ _ _ rfl rfl (by simp) (HQ3.out.ext (Ext.new _ _)) (Nat.le_trans hz3 (Ext.new _ _).size) (by have := HRL.out; omega) ?_; intro v5 w5 hown hb5 hz5 hk5; have kM5 := (kM3.ext (Ext.new W3 _)).below hb5 (show S < S + 1 by omega); have E5 := Below.trans (Ext.al E3.out _) (Below.mono hb5 (show w1.heap.size ≤ S + 1 by omega)); have HQ5 := Lib.hid hown; have HM5 := Lib.hid kM5; have HE5 := Lib.hid E5; clear hown hb5 hk5 kM5 E5))
                go_roundg (gk - 1)
                case measure => omega
                case rel =>
                  have e : rest ++ toB ss[i] ++ toN ss[i] i = rest ++ [(i : Int) + 1] := by simp [toB, toN, h]
                  have HI4 := HI33.out
                  rw [e] at HI4
                  exact ⟨bs.set i true, _, HI4, HQ5, HM5, HE5, hz5, by first | omega | (simp only [List.length_append, List.length_cons, List.length_nil]; omega), by first | omega | (simp only [List.length_append, List.length_cons, List.length_nil]; omega)⟩
              · rw [h] at hs0
                go_wp2_with (at_builtin; go_loud (refine app_q (S + 1) rfl (.tmp 71) (.tmp 74) rfl _ _ _ _ rfl rfl (by simp) (HQ3.out.ext (Ext.new _ _)) (Nat.le_trans hz3 (Ext.new _ _).size) (by have := HRL.out; omega) ?_; intro v5 w5 hown hb5 hz5 hk5; have kM5 := (kM3.ext (Ext.new W3 _)).below hb5 (show S < S + 1 by omega); have E5 := Below.trans (Ext.al E3.out _) (Below.mono hb5 (show w1.heap.size ≤ S + 1 by omega)); have HQ5 := Lib.hid hown; have HM5 := Lib.hid kM5; have HE5 := Lib.hid E5; clear hown hb5 hk5 kM5 E5))
                go_roundg (gk - 1)
                case measure => omega
                case rel =>
                  have e : rest ++ toB ss[i] ++ toN ss[i] i = rest ++ [(i : Int) + 1] := by simp [toB, toN, h]
                  have HI4 := HI33.out
                  rw [e] at HI4
                  exact ⟨bs.set i true, _, HI4, HQ5, HM5, HE5, hz5, by first | omega | (simp only [List.length_append, List.length_cons, List.length_nil]; omega), by first | omega | (simp only [List.length_append, List.length_cons, List.length_nil]; omega)⟩
              · rw [h] at hs0
                go_wp2_with fail
                go_roundg (gk - 1)
                case measure => omega
                case rel =>
                  have e : rest ++ toB ss[i] ++ toN ss[i] i = rest := by simp [toB, toN, h]
                  have HI4 := HI33.out
                  rw [e] at HI4
                  exact ⟨bs.set i true, _, HI4, Lib.hid (HQ3.out.ext (Ext.new _ _)), Lib.hid (kM3.ext (Ext.new _ _)), Lib.hid (Ext.al E3.out _), Nat.le_trans hz3 (Ext.new _ _).size, by first | omega | (simp only [List.length_append, List.length_cons, List.length_nil]; omega), by first | omega | (simp only [List.length_append, List.length_cons, List.length_nil]; omega)⟩
              · rw [h] at hs0
                go_wp2_with fail
                go_roundg (gk - 1)
                case measure => omega
                case rel =>
                  have e : rest ++ toB ss[i] ++ toN ss[i] i = rest := by simp [toB, toN, h]
                  have HI4 := HI33.out
                  rw [e] at HI4
                  exact ⟨bs.set i true, _, HI4, Lib.hid (HQ3.out.ext (Ext.new _ _)), Lib.hid (kM3.ext (Ext.new _ _)), Lib.hid (Ext.al E3.out _), Nat.le_trans hz3 (Ext.new _ _).size, by first | omega | (simp only [List.length_append, List.length_cons, List.length_nil]; omega), by first | omega | (simp only [List.length_append, List.length_cons, List.length_nil]; omega)⟩
  · rw [hv]
    have HV := Lib.hid hv
    clear hv
    go_enter Tryz.func33, Tryz.ntmps33
    go_wp2_with fail
    refine (valid35 nm A n c ss _ (HX.out.ext (Ext.new _ _)) HL.out HB.out (by omega)).mono ?_
    rintro e w1 ⟨rfl, he⟩
    rw [HV.out]
    have HE1 := Lib.hid (Ext.trans (Ext.new _ _) he)
    clear he
    go_wp2_with fail
    go_ret2
    exact ⟨none, 0, [], rfl, fun i hi => absurd hi (by simp), ⟨fun h => absurd HV.out (by rw [h]; decide), fun _ => rfl⟩, HE1.out⟩
end Go.Proofs.YtkdbajpdcadliaaGreatDoor.Pg
