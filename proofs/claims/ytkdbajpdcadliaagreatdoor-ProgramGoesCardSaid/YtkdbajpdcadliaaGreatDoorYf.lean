/- Walks: slices.Clone of texts; own of the program, whole. -/
import Derived.Test.YtkdbajpdcadliaaGreatDoorYe
set_option linter.unusedVariables false
namespace Go.Proofs.YtkdbajpdcadliaaGreatDoor.Pg
open Go.RowKit

set_option maxRecDepth 100000 in
theorem clone46 (T : Option Addr) (k d : Nat) (xs : List ByteArray) (w : World) (hx : Strs w T xs) (hl : xs.length = k) (hk : 0 < k) (hk2 : (k : Int) ≤ 1000000) :
    Calls Tryz.prog 46 #[.slice T k d] w fun e w' => ∃ g c, e = .returned (.slice (some ⟨g, 0, none⟩) k c) ∧ Own w' w.heap.size (.slice (some ⟨g, 0, none⟩) k c) xs ∧ Ext w w' := by
  subst hl
  have hl : xs.length = xs.length := rfl
  obtain ⟨ad, rfl, -⟩ := hx 0 (by omega)
  have HX := Lib.hid hx
  have HL := Lib.hid hl
  clear hx hl
  have qT : ∀ (w : World), (binOp .eql 25 (.slice (some ad) xs.length d) (.slice none 0 0)).run Tryz.prog w = .ok (.bool false) w := fun w => Lib.run_eql_slice_nil w _ _ _ _ _ _ _ Tryz.underlying25
  go_enter Tryz.func46, Tryz.ntmps46
  have HO : Own (w.alloc (.cells #[] 9)) w.heap.size (.slice (some ⟨w.heap.size, 0, none⟩) 0 0) [] := by
    have := World.ownsRow_lit (e := 9) (base := w.heap.size) (size := 1) w #[] 0 (Nat.le_refl _) (by decide) rfl
    exact this
  go_wp2_with (at_builtin; go_loud (refine app_strs w.heap.size rfl (.tmp 5) (.tmp 6) rfl rfl (.slice (some ⟨w.heap.size, 0, none⟩) 0 0) [] xs (some ad) xs.length d rfl rfl HO (HX.out.ext (Ext.new _ _)) HL.out (by simp) (by simp; omega) ?_; intro v1 w1 hown hb hbs; rw [List.nil_append] at hown; obtain ⟨g, c, rfl, -⟩ := hown.form (by intro e; rw [e] at hk; simp at hk); have hE : Ext w w1 := Below.trans (Ext.new w (.cells #[] 9)) hb; have HOW := Lib.hid hown; have HE := Lib.hid hE; clear hown hb hbs hE))
  go_ret
  exact ⟨g, c, rfl, HOW.out, HE.out⟩
/-- What own makes of a run, and whether it did a step. -/
def ownRes (s : Step) (r : RunS) : RunS × Bool := match aloneS s r with
  | some q => (q, true)
  | none => (r, false)
theorem own48 (s : Step) (many : Nat) (hs : StepOk s many) (hm : (many : Int) ≤ 1000) (Tx : Option Addr) (nx cx b g d base : Nat) (r : RunS) (w : World) (ht : Strs w Tx s.texts) (hl : s.texts.length = nx) (hTg : 0 < nx → ∀ ad, Tx = some ad → ad.block ≠ g)
    (hb : Blk w b 27 (runL r.place g d r.status r.count r.over)) (ho : Own w base (.slice (some ⟨g, 0, none⟩) 6 d) r.vars) (hr : RunOk many r) (hp : r.place < many) (hc : r.count < 200) (hg : Gl w) (hgb : GlB b) :
    Calls Tryz.prog 48 #[.agg #[.int .i64 s.op, .int .i64 s.a, .int .i64 s.b, .slice Tx nx cx], .pointer (some ⟨b, 0, none⟩)] w fun e w' => e = .returned (.bool (ownRes s r).2) ∧
      Blk w' b 27 (runL (ownRes s r).1.place g d (ownRes s r).1.status (ownRes s r).1.count (ownRes s r).1.over) ∧ Own w' base (.slice (some ⟨g, 0, none⟩) 6 d) (ownRes s r).1.vars ∧ Keep2 b g w w' := by
  obtain ⟨b1, b2⟩ := isM_bd hs.b (by omega)
  have hts : ∀ x ∈ s.texts, (x.size : Int) ≤ 1000 := fun x hx => by have := hs.size x hx; omega
  have hvs : ∀ x ∈ r.vars, (x.size : Int) ≤ 1000 := fun x hx => by have := hr.each x hx; omega
  have h0 := hr.p0
  have c0 := hr.c0
  obtain ⟨op, a, bb, ts⟩ := s
  have hv := hs.verb
  have hA := hs.a
  have hF := hs.few
  have hAl := hs.all
  simp only at *
  have hnx : (nx : Int) ≤ 1000 := by
    have h2 : (verbS op).1.all ≤ 7 := by
      rcases verb_cases hv with e | e | e | e | e | e | e | e | e | e | e | e | e <;> rw [e] <;> decide
    omega
  have oth : op ≠ 3 → op ≠ 4 → op ≠ 5 → op ≠ 6 → op ≠ 7 → Calls Tryz.prog 48 #[.agg #[.int .i64 op, .int .i64 a, .int .i64 bb, .slice Tx nx cx], .pointer (some ⟨b, 0, none⟩)] w fun e w' => e = .returned (.bool (ownRes ⟨op, a, bb, ts⟩ r).2) ∧
      Blk w' b 27 (runL (ownRes ⟨op, a, bb, ts⟩ r).1.place g d (ownRes ⟨op, a, bb, ts⟩ r).1.status (ownRes ⟨op, a, bb, ts⟩ r).1.count (ownRes ⟨op, a, bb, ts⟩ r).1.over) ∧ Own w' base (.slice (some ⟨g, 0, none⟩) 6 d) (ownRes ⟨op, a, bb, ts⟩ r).1.vars ∧ Keep2 b g w w' := by
    intro n3 n4 n5 n6 n7
    have e : ownRes ⟨op, a, bb, ts⟩ r = (r, false) := by unfold ownRes aloneS; simp only [if_neg n3, if_neg n4, if_neg n5, if_neg n6, if_neg n7]
    rw [e]
    exact own48_0 op a n3 n4 n5 n6 n7 bb Tx nx cx ts b g d base r.place r.count r.over r.status r.vars w ht hl hnx hts hb ho hr.six hvs h0 (by omega) c0 (by omega) (by omega) (by omega)
  have hai : (verbS op).1.a = 118 → ∃ ai : Nat, a = ai ∧ ai < 6 := by
    intro e
    rw [e] at hA
    simp [isM] at hA
    exact ⟨a.toNat, by omega, by omega⟩
  rcases verb_cases hv with rfl | rfl | rfl | rfl | rfl | rfl | rfl | rfl | rfl | rfl | rfl | rfl | rfl
  · exact oth (by decide) (by decide) (by decide) (by decide) (by decide)
  · exact oth (by decide) (by decide) (by decide) (by decide) (by decide)
  · obtain ⟨ai, rfl, h6⟩ := hai rfl
    have hF : (1 : Int) ≤ ts.length := hF
    exact own48_3 ai h6 bb Tx nx cx ts b g d base r.place r.count r.over r.status r.vars w ht hl hnx hts hb ho hr.six hvs h0 (by omega) c0 (by omega) (by omega) (by omega) (by omega) (hTg (by omega))
  · obtain ⟨ai, rfl, h6⟩ := hai rfl
    obtain ⟨v, er, hfd⟩ : ∃ v er, fdS (varAt r.vars (ai : Int)) = (v, er) := ⟨_, _, rfl⟩
    by_cases her : er = 0
    · subst her
      obtain ⟨yy, e2, hdg⟩ : ∃ yy e2, digitsS (v + bb) ((varAt r.vars (ai : Int)).size : Int) = (yy, e2) := ⟨_, _, rfl⟩
      by_cases he2 : e2 = 0
      · subst he2
        have hsum : sumS (varAt r.vars (ai : Int)) bb = some yy := by unfold sumS; rw [hfd]; simp only []; rw [hdg, if_pos ⟨trivial, rfl⟩]
        have e : ownRes ⟨4, (ai : Int), bb, ts⟩ r = (⟨r.place + 1, r.vars.set ai yy, blankS, r.count + 1, r.over⟩, true) := by
          have h1 : addVars r (ai : Int) bb = r.vars.set ai yy := by unfold addVars; rw [hsum]; rfl
          have h2 : addStatus r (ai : Int) bb = blankS := by unfold addStatus; rw [hsum]
          show ((⟨r.place + 1, addVars r (ai : Int) bb, addStatus r (ai : Int) bb, r.count + 1, r.over⟩ : RunS), true) = _
          rw [h1, h2]
        rw [e]
        exact own48_4c ai h6 v yy bb Tx nx cx ts b g d base r.place r.count r.over r.status r.vars w ht hl hnx hts hb ho hr.six hvs h0 (by omega) c0 (by omega) (by omega) (by omega) hg hgb hfd hdg
      · have hsum : sumS (varAt r.vars (ai : Int)) bb = none := by unfold sumS; rw [hfd]; simp only []; rw [hdg, if_neg (fun h => he2 h.2)]
        have e : ownRes ⟨4, (ai : Int), bb, ts⟩ r = (⟨r.place + 1, r.vars, ndS, r.count + 1, r.over⟩, true) := by
          have h1 : addVars r (ai : Int) bb = r.vars := by unfold addVars; rw [hsum]
          have h2 : addStatus r (ai : Int) bb = ndS := by unfold addStatus; rw [hsum]
          show ((⟨r.place + 1, addVars r (ai : Int) bb, addStatus r (ai : Int) bb, r.count + 1, r.over⟩ : RunS), true) = _
          rw [h1, h2]
        rw [e]
        exact own48_4b ai h6 v e2 yy bb Tx nx cx ts b g d base r.place r.count r.over r.status r.vars w ht hl hnx hts hb ho hr.six hvs h0 (by omega) c0 (by omega) (by omega) (by omega) hg hgb hfd hdg he2
    · have hsum : sumS (varAt r.vars (ai : Int)) bb = none := by unfold sumS; rw [hfd, if_neg (fun h => her h.1)]
      have e : ownRes ⟨4, (ai : Int), bb, ts⟩ r = (⟨r.place + 1, r.vars, ndS, r.count + 1, r.over⟩, true) := by
        have h1 : addVars r (ai : Int) bb = r.vars := by unfold addVars; rw [hsum]
        have h2 : addStatus r (ai : Int) bb = ndS := by unfold addStatus; rw [hsum]
        show ((⟨r.place + 1, addVars r (ai : Int) bb, addStatus r (ai : Int) bb, r.count + 1, r.over⟩ : RunS), true) = _
        rw [h1, h2]
      rw [e]
      exact own48_4a ai h6 v er bb Tx nx cx ts b g d base r.place r.count r.over r.status r.vars w ht hl hnx hts hb ho hr.six hvs h0 (by omega) c0 (by omega) (by omega) (by omega) hg hgb hfd her
  · have hF : (1 : Int) ≤ ts.length := hF
    by_cases hq : r.status = headT ts
    · have e : ownRes ⟨5, a, bb, ts⟩ r = (⟨bb, r.vars, r.status, r.count + 1, r.over⟩, true) := by
        show ((⟨if r.status = headT ts then bb else r.place + 1, r.vars, r.status, r.count + 1, r.over⟩ : RunS), true) = _
        rw [if_pos hq]
      rw [e]
      exact own48_51 a bb Tx nx cx ts b g d base r.place r.count r.over r.status r.vars w ht hl hnx hts hb ho hr.six hvs h0 (by omega) c0 (by omega) (by omega) (by omega) (by omega) hq
    · have e : ownRes ⟨5, a, bb, ts⟩ r = (⟨r.place + 1, r.vars, r.status, r.count + 1, r.over⟩, true) := by
        show ((⟨if r.status = headT ts then bb else r.place + 1, r.vars, r.status, r.count + 1, r.over⟩ : RunS), true) = _
        rw [if_neg hq]
      rw [e]
      exact own48_50 a bb Tx nx cx ts b g d base r.place r.count r.over r.status r.vars w ht hl hnx hts hb ho hr.six hvs h0 (by omega) c0 (by omega) (by omega) (by omega) (by omega) hq
  · obtain ⟨ai, rfl, h6⟩ := hai rfl
    have hF : (1 : Int) ≤ ts.length := hF
    by_cases hq : varAt r.vars (ai : Int) = fillS r.vars (headT ts)
    · have e : ownRes ⟨6, (ai : Int), bb, ts⟩ r = (⟨bb, r.vars, r.status, r.count + 1, r.over⟩, true) := by
        show ((⟨if varAt r.vars (ai : Int) = fillS r.vars (headT ts) then bb else r.place + 1, r.vars, r.status, r.count + 1, r.over⟩ : RunS), true) = _
        rw [if_pos hq]
      rw [e]
      exact own48_61 ai h6 bb Tx nx cx ts b g d base r.place r.count r.over r.status r.vars w ht hl hnx hts hb ho hr.six hvs h0 (by omega) c0 (by omega) (by omega) (by omega) (by omega) (hTg (by omega)) hq
    · have e : ownRes ⟨6, (ai : Int), bb, ts⟩ r = (⟨r.place + 1, r.vars, r.status, r.count + 1, r.over⟩, true) := by
        show ((⟨if varAt r.vars (ai : Int) = fillS r.vars (headT ts) then bb else r.place + 1, r.vars, r.status, r.count + 1, r.over⟩ : RunS), true) = _
        rw [if_neg hq]
      rw [e]
      exact own48_60 ai h6 bb Tx nx cx ts b g d base r.place r.count r.over r.status r.vars w ht hl hnx hts hb ho hr.six hvs h0 (by omega) c0 (by omega) (by omega) (by omega) (by omega) (hTg (by omega)) hq
  · exact own48_7 a bb Tx nx cx ts b g d base r.place r.count r.over r.status r.vars w ht hl hnx hts hb ho hr.six hvs h0 (by omega) c0 (by omega) (by omega) (by omega)
  all_goals exact oth (by decide) (by decide) (by decide) (by decide) (by decide)
end Go.Proofs.YtkdbajpdcadliaaGreatDoor.Pg
