/- Words of the rows: an argument that is what a run is given; a list of them. -/
import Derived.Test.YtkdbajpdcadliaaGreatDoorZa
set_option linter.unusedVariables false
namespace Go.Proofs.YtkdbajpdcadliaaGreatDoor
open Go.ChangeShapes Go.WideShapes Go.RowKit Go.Joins Go.Deep

theorem Tryz.cells29 : Tryz.prog.cellsOf 29 = 2 := by kernel_rfl
set_option maxRecDepth 100000 in
theorem given_of {H : Type} {enc : TypeId × Value → H} {W : World} {r : Reach} {b0 : Nat} {v : Value} {d : DataW H} {p : List MemPlace} (hval : Value.okWide Tryz.prog W r b0 29 v) (h : DataW.Trod enc Tryz.prog W 0 (fun _ => true) true 29 v d p) :
    ∃ (s t : ByteArray), v = .agg #[.string s, .string t] ∧ (s.size : Int) ≤ 9223372036854775807 ∧ (t.size : Int) ≤ 9223372036854775807 := by
  obtain ⟨v0, v1, y0, y1, m, rfl, -, -, h0, h1⟩ := open_agg2 Tryz.underlying29 (by kernel_rfl) Tryz.cells29 hval h
  obtain ⟨s, e0, -, hz0⟩ := DataW.trod_string Tryz.underlying9 h0
  obtain ⟨t, e1, -, hz1⟩ := DataW.trod_string Tryz.underlying9 h1
  obtain rfl : v0 = .string s := by simpa using e0
  obtain rfl : v1 = .string t := by simpa using e1
  unfold maxLen at hz0 hz1
  exact ⟨s, t, rfl, by omega, by omega⟩
namespace Pg
/-- What a run is given, a row of cells. -/
def GivenAt (w : World) (A : Option Addr) (gs : List (ByteArray × ByteArray)) : Prop :=
  ∀ i (h : i < gs.length), ∃ ad, A = some ad ∧ w.cell? (ad.add (i * 2)) = some (.string gs[i].1) ∧ w.cell? ⟨(ad.add (i * 2)).block, (ad.add (i * 2)).off + 1, none⟩ = some (.string gs[i].2)
theorem GivenAt.ext {w w' : World} {A : Option Addr} {gs : List (ByteArray × ByteArray)} (h : GivenAt w A gs) (he : Ext w w') : GivenAt w' A gs := fun i hi => by
  obtain ⟨ad, e, c0, c1⟩ := h i hi
  exact ⟨ad, e, he.cell c0, he.cell c1⟩
/-- No text of them is longer than a text can be. -/
structure BdG (gs : List (ByteArray × ByteArray)) : Prop where
  len : (gs.length : Int) ≤ 9223372036854775807
  each : ∀ g ∈ gs, (g.1.size : Int) ≤ 9223372036854775807 ∧ (g.2.size : Int) ≤ 9223372036854775807
end Pg
set_option maxRecDepth 100000 in
theorem givens_of {H : Type} {enc : TypeId × Value → H} {W : World} {r : Reach} {b0 : Nat} {v : Value} {d : DataW H} {p : List MemPlace} (hval : Value.okWide Tryz.prog W r b0 56 v) (h : DataW.Trod enc Tryz.prog W 0 (fun _ => true) true 56 v d p) :
    ∃ (A : Option Addr) (n c : Nat) (gs : List (ByteArray × ByteArray)), v = .slice A n c ∧ Pg.GivenAt W A gs ∧ gs.length = n ∧ Pg.BdG gs := by
  obtain ⟨A, len0, cap0, rfl⟩ := okWide_slice Tryz.underlying56 hval
  obtain ⟨fuel, hf0⟩ := h
  rcases DataW.trod_slice Tryz.underlying56 hf0 with ⟨hcs, -⟩ | ⟨a, len, cap, elems, rest, k, -, hcs, -, -, hlc, hcm, hel, hE, -, -⟩
  · simp [Value.cells] at hcs
    obtain ⟨rfl, rfl, rfl⟩ := hcs
    exact ⟨none, 0, 0, [], rfl, fun i hi => absurd hi (by simp), rfl, ⟨by simp, fun g hg => by cases hg⟩⟩
  · simp [Value.cells] at hcs
    obtain ⟨rfl, rfl, rfl⟩ := hcs
    have each : ∀ i, i < len0 → ∃ g : ByteArray × ByteArray, W.cell? (a.add (i * 2)) = some (.string g.1) ∧ W.cell? ⟨(a.add (i * 2)).block, (a.add (i * 2)).off + 1, none⟩ = some (.string g.2) ∧ g.1.size ≤ maxLen ∧ g.2.size ≤ maxLen := by
      intro i hi
      have hb := hE i hi
      rw [List.getElem?_eq_getElem (by omega), Option.bind_eq_some_iff, Tryz.cells29] at hb
      obtain ⟨cs, hcc, ht⟩ := hb
      obtain ⟨-, hcl, hat⟩ := World.cells?_some hcc
      obtain ⟨ys, k', -, -, -, hyl, hf⟩ := DataW.trod_struct Tryz.underlying29 ht
      match cs, hcl with
      | [c0, c1], _ =>
        have f0 := hf 0 _ rfl
        have f1 := hf 1 _ rfl
        have hy : ys.length = 2 := hyl
        rw [List.getElem?_eq_getElem (by omega)] at f0 f1
        have f0' : DataW.trod enc Tryz.prog W 0 (fun _ => true) true k' 9 [c0] = some ys[0] := f0
        have f1' : DataW.trod enc Tryz.prog W 0 (fun _ => true) true k' 9 [c1] = some ys[1] := f1
        obtain ⟨x0, e0, -, z0⟩ := DataW.trod_string Tryz.underlying9 f0'
        obtain ⟨x1, e1, -, z1⟩ := DataW.trod_string Tryz.underlying9 f1'
        obtain rfl : c0 = .string x0 := by simpa using e0
        obtain rfl : c1 = .string x1 := by simpa using e1
        have a0 := hat 0 (by decide)
        have a1 := hat 1 (by decide)
        rw [addr_field _ _ _ (by decide)] at a1
        exact ⟨(x0, x1), a0, a1, z0, z1⟩
    obtain ⟨gs, hgl, hq⟩ := list_of len0 each
    unfold maxLen at hcm
    refine ⟨some a, len0, cap0, gs, rfl, fun i hi => ?_, hgl, ⟨by omega, fun g hg => ?_⟩⟩
    · obtain ⟨q0, q1, -, -⟩ := hq i hi
      exact ⟨a, rfl, q0, q1⟩
    · obtain ⟨i, hi, rfl⟩ := List.getElem_of_mem hg
      obtain ⟨-, -, q2, q3⟩ := hq i hi
      unfold maxLen at q2 q3
      omega
end Go.Proofs.YtkdbajpdcadliaaGreatDoor
