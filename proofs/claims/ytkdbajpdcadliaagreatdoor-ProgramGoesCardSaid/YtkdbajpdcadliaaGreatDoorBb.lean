/- More words of this seat's walks: lists of texts of the call's own, appended to and joined; numbers as texts. · Blocks that are written: what a walk in an abstract world leans on. -/
import Derived.Test.YtkdbajpdcadliaaGreatDoorBas
import Derived.Test.YtkdbajpdcadliaaGreatDoorShelf
import Derived.Test.YtkdbajpdcadliaaGreatDoorSp
set_option linter.unusedVariables false
namespace Go.Proofs.YtkdbajpdcadliaaGreatDoor.Pg
open Go.RowKit

theorem run_append_of_none (w : World) (base : Nat) (v : Value) (ys : List ByteArray) (hown : Own w base v ys) (c : Nat) : (Builtin.append_ #[25, 25] 25 #[v, .slice none 0 c]).run Tryz.prog w = .ok v w := by
  obtain ⟨i0, hi, hzz⟩ := Option.map_eq_some_iff.1 infoStr
  rcases hown.2 with ⟨rfl, h0⟩ | ⟨g, cap, cur, rfl, _, _, hnc, _⟩
  · simp [Builtin.append_, run_underlying Tryz.underlying25, sizeOf, typeInfo, hi, Builtin.lenOf, Builtin.firstCells]
  · simp [Builtin.append_, run_underlying Tryz.underlying25, sizeOf, typeInfo, hi, Builtin.lenOf, Builtin.firstCells, hnc, storeCells]

/-- append(v, xs...): the source nil, empty or not. -/
theorem wp_app_strs {o : Oper} {a : Act} {K : Act → World → Prop} {Q : Exit → Act → World → Prop} {W : World} (base : Nat) (s x : Operand)
    (ho : o.op = .call { callee := .builtin .append, args := #[s, x], argTypes := #[25, 25] }) (hty : o.type = 25) (v : Value) (ys xs : List ByteArray) (A : Option Addr) (n c : Nat) (hs : a.eval s = v)
    (hx : a.eval x = .slice A n c) (HO : Own W base v ys) (hr : Strs W A xs) (hl : xs.length = n) (hbase : base ≤ W.heap.size) (hlen : (ys.length : Int) + n ≤ 1000000000)
    (h : ∀ v1 w1, Own w1 base v1 (ys ++ xs) → Below base W w1 → base ≤ w1.heap.size → K (a.put o.dst v1) w1) :
    o.wp Tryz.prog a W K Q := by
  obtain ⟨i0, hi, hzz⟩ := Option.map_eq_some_iff.1 infoStr
  simp only [Prod.mk.injEq] at hzz
  obtain ⟨hz0, hz1, hz2⟩ := hzz
  rcases A with _ | ad
  · have hn : xs = [] := by
      cases xs with
      | nil => rfl
      | cons y l => obtain ⟨ad, h, _⟩ := hr 0 (by simp); cases h
    subst hn
    obtain rfl : 0 = n := hl
    unfold Oper.wp execOp
    simp only [ho, resolve, invoke, builtin, Sem.run_bind, Sem.run_pure, Result.andThen_ok, List.map_toArray, List.map_cons, List.map_nil, hs, hx, hty, run_append_of_none W base v ys HO c]
    exact h v W (by simpa using HO) (Below.refl _ _) hbase
  · obtain ⟨v1, w1, hr1, hown, hg, _, hat⟩ := run_append_own_at (P := Tryz.prog) W base 25 o.type 9 i0 (.string ⟨#[]⟩) 1 16 Tryz.underlying25 hi hz0 hz1 hz2 rfl (by omega) v ys.length (ys.map Value.string) HO ad n c (xs.map Value.string) (by simp [hl])
      (by
        intro j u hj
        have hjl : j < xs.length := by
          rcases Nat.lt_or_ge j xs.length with h' | h'
          · exact h'
          · rw [List.getElem?_eq_none (by simpa using h')] at hj; cases hj
        obtain ⟨ad', e, hc⟩ := hr j hjl
        cases e
        rw [List.getElem?_map, List.getElem?_eq_getElem hjl] at hj
        cases hj
        exact hc)
      (by
        intro u hu
        obtain ⟨y, _, rfl⟩ := List.mem_map.1 hu
        rfl) (by simp only [maxLen]; omega) (by omega) hbase
    unfold Oper.wp execOp
    simp only [ho, resolve, invoke, builtin, Sem.run_bind, Sem.run_pure, Result.andThen_ok, List.map_toArray, List.map_cons, List.map_nil, hs, hx, hr1]
    have hb : Below base W w1 := (Below.refl base W).grown hg hbase (fun k hk => (World.ownsRow.lt HO k hk).1)
    refine h v1 w1 ?_ hb (Nat.le_trans hbase hb.size)
    unfold Own
    simpa [hl] using hown
theorem app_strs {ops : Array Oper} {rest : List Oper} {o : Oper} {a : Act} {Q : Exit → Act → World → Prop} {W : World} (base : Nat) (hgd : o.guard = none) (s x : Operand)
    (ho : o.op = .call { callee := .builtin .append, args := #[s, x], argTypes := #[25, 25] }) (hty : o.type = 25) (v : Value) (ys xs : List ByteArray) (A : Option Addr) (n c : Nat) (hs : a.eval s = v)
    (hx : a.eval x = .slice A n c) (HO : Own W base v ys) (hr : Strs W A xs) (hl : xs.length = n) (hbase : base ≤ W.heap.size) (hlen : (ys.length : Int) + n ≤ 1000000000)
    (h : ∀ v1 w1, Own w1 base v1 (ys ++ xs) → Below base W w1 → base ≤ w1.heap.size → wpList Tryz.prog ops Q rest (a.put o.dst v1) w1) :
    wpList Tryz.prog ops Q (o :: rest) a W :=
  wpList_plain hgd fun K hK => wp_app_strs base s x ho hty v ys xs A n c hs hx HO hr hl hbase hlen fun v1 w1 h1 h2 h3 => hK _ _ (h v1 w1 h1 h2 h3)
/-- .. in a region that draws its order. -/
theorem step_app_strs {ops : Array Oper} {o : Oper} {a : Act} {K : Act → World → Prop} {Q : Exit → Act → World → Prop} {E : Prop} {W : World} (base : Nat) (hgd : o.guard = none) (s x : Operand)
    (ho : o.op = .call { callee := .builtin .append, args := #[s, x], argTypes := #[25, 25] }) (hty : o.type = 25) (v : Value) (ys xs : List ByteArray) (A : Option Addr) (n c : Nat) (hs : a.eval s = v)
    (hx : a.eval x = .slice A n c) (HO : Own W base v ys) (hr : Strs W A xs) (hl : xs.length = n) (hbase : base ≤ W.heap.size) (hlen : (ys.length : Int) + n ≤ 1000000000)
    (h : ∀ v1 w1, Own w1 base v1 (ys ++ xs) → Below base W w1 → base ≤ w1.heap.size → K (a.put o.dst v1) w1) :
    if Region.wanted o (yielded ops a.tmps) = true then Oper.wp Tryz.prog o a W K Q else E := by
  have hw : Region.wanted o (yielded ops a.tmps) = true := by simp [Region.wanted, hgd]
  rw [if_pos hw]
  exact wp_app_strs base s x ho hty v ys xs A n c hs hx HO hr hl hbase hlen h
/-- A new list, as a literal lays it. -/
theorem Own.fresh (w : World) (xs : List ByteArray) (h : xs ≠ []) (hl : (xs.length : Int) ≤ 1000000) :
    Own (w.alloc (.cells (xs.map Value.string).toArray 9)) w.heap.size (.slice (some ⟨w.heap.size, 0, none⟩) xs.length xs.length) xs := by
  refine ⟨by simp, .inr ⟨w.heap.size, xs.length, (xs.map Value.string).toArray, rfl, Nat.le_refl _, heap_alloc_new w _, Nat.le_refl _, by unfold maxLen; omega, by simp, by
    show List.take _ (List.map Value.string xs) = _
    exact List.take_of_length_le (by simp)⟩⟩
theorem Own.form {w : World} {base : Nat} {v : Value} {xs : List ByteArray} (h : Own w base v xs) (hx : xs ≠ []) : ∃ g c, v = .slice (some ⟨g, 0, none⟩) xs.length c ∧ xs.length ≤ c ∧ base ≤ g ∧ g < w.heap.size ∧
    ∀ (j : Nat) (x : ByteArray), xs[j]? = some x → w.cell? ⟨g, 0 + j, none⟩ = some (.string x) := by
  rcases h.2 with ⟨rfl, h0⟩ | ⟨g, cap, cur, rfl, hb, hh, hc, _⟩
  · exact absurd (List.eq_nil_of_length_eq_zero h0) hx
  · refine ⟨g, cap, rfl, hc, hb, (Array.getElem?_eq_some_iff.1 hh).1, fun j x hj => ?_⟩
    have := World.ownsRow.cells h (g := g) rfl j (.string x) (by rw [List.getElem?_map, hj]; rfl)
    have ha : (⟨g, 0, none⟩ : Addr).add j = ⟨g, 0 + j, none⟩ := by unfold Addr.add; split <;> simp_all
    rwa [ha] at this
theorem Strs.box (w : World) (xs : List ByteArray) : Strs (w.alloc (.cells (xs.map Value.string).toArray 9)) (some ⟨w.heap.size, 0, none⟩) xs := fun i hi => by
  refine ⟨_, rfl, ?_⟩
  have ha : (⟨w.heap.size, 0, none⟩ : Addr).add i = ⟨w.heap.size, i, none⟩ := by unfold Addr.add; split <;> simp_all
  rw [ha, cell_of_row _ _ _ _ _ _ (heap_alloc_new w _)]
  simp [hi]

theorem itoa_small (n : Int) (w : World) (h0 : 0 ≤ n) (h : n < 100) :
    Calls Tryz.prog 117 #[.int .i64 n] w fun e w' => e = .returned (.string (decS n)) ∧ w' = w := by
  obtain ⟨u, rfl⟩ := Int.eq_ofNat_of_zero_le h0
  refine (Tryz.strconv_Itoa_small u (by omega) w).mono ?_
  rintro e w' ⟨rfl, rfl⟩
  exact ⟨ret_str (by unfold decS Lib.itoa mkB; rw [if_neg (by omega), Int.toNat_natCast]), rfl⟩
theorem itoa (n : Int) (w : World) (hg : Gl w) (h0 : -9000000000000 ≤ n) (h : n ≤ 9000000000000) :
    Calls Tryz.prog 117 #[.int .i64 n] w fun e w' => e = .returned (.string (decS n)) ∧ Ext w w' := by
  refine (Tryz.strconv_Itoa n (by omega) (by omega) w hg.tab).mono ?_
  rintro e w' ⟨rfl, k, os, rfl⟩
  exact ⟨rfl, Ext.grow w k os⟩
theorem join (g n c : Nat) (xs : List ByteArray) (sep : ByteArray) (w : World) (hn : xs.length = n) (hx : ∀ (j : Nat) (x : ByteArray), xs[j]? = some x → w.cell? ⟨g, 0 + j, none⟩ = some (.string x)) (hg : g < w.heap.size)
    (hc : n ≤ c) (hl : (xs.length : Int) ≤ 1000000) (hj : (Lib.join (xs.map fun x => x.data.toList) sep.data.toList).length ≤ 140737488355328) :
    Calls Tryz.prog 127 #[.slice (some ⟨g, 0, none⟩) n c, .string sep] w fun e w' => e = .returned (.string (mkB (Lib.join (xs.map fun x => x.data.toList) sep.data.toList))) ∧ Ext w w' := by
  subst hn
  exact Tryz.strings_Join g 0 c xs sep w hx hg (by omega) hc hj
theorem box_texts (w : World) (xs : List ByteArray) : ∀ (j : Nat) (x : ByteArray), xs[j]? = some x → (w.alloc (.cells (xs.map Value.string).toArray 9)).cell? ⟨w.heap.size, 0 + j, none⟩ = some (.string x) := by
  intro j x hj
  rw [Nat.zero_add, cell_of_row _ _ _ _ _ _ (heap_alloc_new w _)]
  simp [hj]
theorem add_one_add (a : Addr) (q : Nat) : a.add (q + 1) = (⟨a.block, a.off + 1, none⟩ : Addr).add q := by
  unfold Addr.add
  rw [if_neg (by omega)]
  by_cases h : q = 0
  · subst h; simp
  · rw [if_neg h]; simp; omega
def joinSp (xs : List ByteArray) : List UInt8 := Lib.join (xs.map fun x => x.data.toList) [32]
theorem join_sp (g n c : Nat) (xs : List ByteArray) (w : World) (hn : xs.length = n) (hx : ∀ (j : Nat) (x : ByteArray), xs[j]? = some x → w.cell? ⟨g, 0 + j, none⟩ = some (.string x)) (hg : g < w.heap.size)
    (hc : n ≤ c) (hl : (xs.length : Int) ≤ 1000000) (hj : ((joinSp xs).length : Int) ≤ 1000000000) :
    Calls Tryz.prog 127 #[.slice (some ⟨g, 0, none⟩) n c, .string ⟨#[32]⟩] w fun e w' => e = .returned (.string (mkB (joinSp xs))) ∧ Ext w w' :=
  join g n c xs ⟨#[32]⟩ w hn hx hg hc hl (by show (joinSp xs).length ≤ _; omega)
end Go.Proofs.YtkdbajpdcadliaaGreatDoor.Pg

set_option linter.unusedVariables false
namespace Go.Proofs.YtkdbajpdcadliaaGreatDoor.Pg
open Go.RowKit

/-- Block b is a row of cells of type T, nothing of it frozen. -/
def Blk (w : World) (b : Nat) (T : TypeId) (cs : List Value) : Prop := w.heap[b]? = some (.cells cs.toArray T (0, 0))
section
variable {w w' : World} {b b' : Nat} {T : TypeId} {cs : List Value}
theorem Blk.lt (h : Blk w b T cs) : b < w.heap.size := (Array.getElem?_eq_some_iff.1 h).1
theorem Blk.new (w : World) (l : List Value) (t : TypeId) : Blk (w.alloc (.cells l.toArray t)) w.heap.size t l := heap_alloc_new w _
theorem Blk.ext (h : Blk w b T cs) (he : Ext w w') : Blk w' b T cs := (he.block b h.lt).trans h
theorem Blk.at_ (h : Blk w b T cs) (j : Nat) : w.cell? ⟨b, j, none⟩ = cs[j]? := by simp [World.cell?, show w.heap[b]? = _ from h]
theorem Blk.fz (h : Blk w b T cs) (j : Nat) : w.frozen? ⟨b, j, none⟩ = false := by simp [World.frozen?, show w.heap[b]? = _ from h]
theorem Blk.c0 {v : Value} {l : List Value} (h : Blk w b T (v :: l)) : w.cell? ⟨b, 0, none⟩ = some v := h.at_ 0
theorem Blk.c1 {v v1 : Value} {l : List Value} (h : Blk w b T (v :: v1 :: l)) : w.cell? ⟨b, 1, none⟩ = some v1 := h.at_ 1
theorem Blk.c2 {v v1 v2 : Value} {l : List Value} (h : Blk w b T (v :: v1 :: v2 :: l)) : w.cell? ⟨b, 2, none⟩ = some v2 := h.at_ 2
theorem Blk.c3 {v v1 v2 v3 : Value} {l : List Value} (h : Blk w b T (v :: v1 :: v2 :: v3 :: l)) : w.cell? ⟨b, 3, none⟩ = some v3 := h.at_ 3
theorem Blk.c4 {v v1 v2 v3 v4 : Value} {l : List Value} (h : Blk w b T (v :: v1 :: v2 :: v3 :: v4 :: l)) : w.cell? ⟨b, 4, none⟩ = some v4 := h.at_ 4
theorem Blk.set (h : Blk w b T cs) (j : Nat) (v : Value) : Blk (w.setCell ⟨b, j, none⟩ v) b T (cs.set j v) := by
  obtain ⟨hlt, hk⟩ := Array.getElem?_eq_some_iff.1 h
  show (w.heap.modify b _)[b]? = _
  rw [Array.getElem?_eq_getElem (by rw [Array.size_modify]; exact hlt), Array.getElem_modify_self, hk]
  simp
theorem Blk.other (h : Blk w b T cs) (hne : b ≠ b') (j : Nat) (v : Value) : Blk (w.setCell ⟨b', j, none⟩ v) b T cs :=
  (Below.heap_setCell w ⟨b', j, none⟩ v b hne).trans h
theorem Blk.drewN (h : Blk w b T cs) (n : Nat) : Blk (w.drewN n) b T cs := h.ext ((Ext.refl w).drewN n)
theorem Blk.size_set (w : World) (a : Addr) (v : Value) : (w.setCell a v).heap.size = w.heap.size := by simp [World.setCell]
end
/-- A store into a block that came later. -/
theorem Ext.set {w w' : World} (h : Ext w w') {b : Nat} (hb : w.heap.size ≤ b) (j : Nat) (v : Value) : Ext w (w'.setCell ⟨b, j, none⟩ v) := Below.setCell h (p := ⟨b, j, none⟩) hb v
theorem grown_set (W : World) (b j : Nat) (v : Value) : W.grownBy (W.setCell ⟨b, j, none⟩ v) (some b) :=
  ⟨rfl, rfl, rfl, by simp [World.setCell], fun k _ hk => Below.heap_setCell _ _ _ k (fun e => hk (by rw [e]))⟩
theorem Own.set {w : World} {base b : Nat} {v : Value} {xs : List ByteArray} (h : Own w base v xs) (hb : some b ≠ v.ownBlock) (j : Nat) (u : Value) : Own (w.setCell ⟨b, j, none⟩ u) base v xs :=
  World.ownsRow.kept h (grown_set w b j u) (.inr hb.symm)
theorem Own.base {w : World} {base b : Nat} {v : Value} {xs : List ByteArray} (h : Own w base v xs) (hb : b ≤ base) : Own w b v xs := by
  refine ⟨h.1, ?_⟩
  rcases h.2 with hn | ⟨g, cap, cur, e, h1, h2⟩
  · exact .inl hn
  · exact .inr ⟨g, cap, cur, e, Nat.le_trans hb h1, h2⟩
end Go.Proofs.YtkdbajpdcadliaaGreatDoor.Pg
