/- The memory of a program that is being read: the row of its steps, and a row of texts for each. · The memory of a walk that keeps what was there but for one box. -/
import Derived.Test.YtkdbajpdcadliaaGreatDoorBb
set_option linter.unusedVariables false
namespace Go.Proofs.YtkdbajpdcadliaaGreatDoor.Pg
open Go.RowKit

/-- A step with the slice value of its texts. -/
abbrev SV := Step × Value
def cellsS (p : SV) : List Value := [.int .i64 p.1.op, .int .i64 p.1.a, .int .i64 p.1.b, p.2]
def rowL (l : List SV) : List Value := l.flatMap cellsS
theorem rowL_length : ∀ l : List SV, (rowL l).length = l.length * 4
  | [] => rfl
  | p :: l => by
    have := rowL_length l
    unfold rowL at this ⊢
    simp only [List.flatMap_cons, List.length_append, List.length_cons, this, cellsS, List.length_nil]
    omega
theorem rowL_append (l m : List SV) : rowL (l ++ m) = rowL l ++ rowL m := by unfold rowL; rw [List.flatMap_append]
theorem rowL_get : ∀ (l : List SV) (i : Nat) (hi : i < l.length) (j : Nat), j < 4 → (rowL l)[i * 4 + j]? = (cellsS l[i])[j]?
  | p :: l, 0, _, j, hj => by
    unfold rowL
    rw [List.flatMap_cons, List.getElem?_append_left (by simp [cellsS]; omega)]
    simp
  | p :: l, i + 1, hi, j, hj => by
    have := rowL_get l i (by simpa using hi) j hj
    unfold rowL at this ⊢
    rw [List.flatMap_cons, List.getElem?_append_right (by simp [cellsS]; omega)]
    simp only [List.getElem_cons_succ]
    rw [← this]
    congr 1
    simp [cellsS]
    omega
theorem rowL_set : ∀ (l : List SV) (i : Nat) (hi : i < l.length) (s : Step) (v : Value), s.op = l[i].1.op → s.a = l[i].1.a → s.b = l[i].1.b → (rowL l).set (i * 4 + 3) v = rowL (l.set i (s, v))
  | p :: l, 0, _, s, v, h1, h2, h3 => by
    simp only [List.getElem_cons_zero] at h1 h2 h3
    simp [rowL, cellsS, h1, h2, h3]
  | p :: l, i + 1, hi, s, v, h1, h2, h3 => by
    have := rowL_set l i (by simpa using hi) s v h1 h2 h3
    have e : (i + 1) * 4 + 3 = (i * 4 + 3) + 1 + 1 + 1 + 1 := by omega
    rw [e]
    unfold rowL at this ⊢
    simp only [List.flatMap_cons, List.set_cons_succ]
    rw [← this]
    rfl

structure Mem (w : World) (B : Nat) (sv : Value) (l : List SV) : Prop where
  row : w.ownsRow B 77 4 sv l.length (rowL l)
  txt : ∀ i (h : i < l.length), Own w B l[i].2 l[i].1.texts
  far : ∀ i j (hi : i < l.length) (hj : j < l.length), i ≠ j → ∀ g, l[i].2.ownBlock = some g → l[j].2.ownBlock ≠ some g
theorem Mem.nil (w : World) (B : Nat) : Mem w B (.slice none 0 0) [] := ⟨World.ownsRow_nil _ _ _ _, fun i h => absurd h (by simp), fun i j h => absurd h (by simp)⟩

/-- What a row of type e lies in is none of another type. -/
theorem own_ty {w : World} {base : Nat} {e : TypeId} {size : Nat} {v : Value} {n : Nat} {xs : List Value} (h : w.ownsRow base e size v n xs) {b : Nat} {T : TypeId} {cs : List Value} (hb : Blk w b T cs) (hT : T ≠ e) : v.ownBlock ≠ some b := by
  intro k
  rcases h.2 with ⟨e1, _⟩ | ⟨g, cap, cur, e1, _, hg, _⟩
  · subst e1; cases k
  · subst e1
    simp only [Value.ownBlock, Option.some.injEq] at k
    subst k
    rw [show w.heap[g]? = _ from hb] at hg
    simp only [Option.some.injEq, Obj.cells.injEq] at hg
    exact hT hg.2.1
theorem own_ty2 {w : World} {base base' : Nat} {e e' : TypeId} {size size' : Nat} {v v' : Value} {n n' : Nat} {xs xs' : List Value} (h : w.ownsRow base e size v n xs) (h' : w.ownsRow base' e' size' v' n' xs') (hT : e ≠ e') : ∀ g, v'.ownBlock = some g → v.ownBlock ≠ some g := by
  intro g k
  rcases h'.2 with ⟨e1, _⟩ | ⟨g', cap, cur, e1, _, hg, _⟩
  · subst e1; cases k
  · subst e1
    simp only [Value.ownBlock, Option.some.injEq] at k
    subst k
    intro k
    rcases h.2 with ⟨e1, _⟩ | ⟨g2, cap2, cur2, e1, _, hg2, _⟩
    · subst e1; cases k
    · subst e1
      simp only [Value.ownBlock, Option.some.injEq] at k
      subst k
      rw [hg] at hg2
      simp only [Option.some.injEq, Obj.cells.injEq] at hg2
      exact hT hg2.2.1.symm

theorem Mem.kept {w w' : World} {B : Nat} {sv : Value} {l : List SV} {row : Option Nat} (h : Mem w B sv l) (hg : w.grownBy w' row) (h1 : ∀ b, row = some b → sv.ownBlock ≠ some b)
    (h2 : ∀ b, row = some b → ∀ i (hi : i < l.length), l[i].2.ownBlock ≠ some b) : Mem w' B sv l := by
  have hh : ∀ v : Value, (∀ b, row = some b → v.ownBlock ≠ some b) → v.ownBlock = none ∨ v.ownBlock ≠ row := by
    intro v hv
    cases hr : row with
    | none => cases hk : v.ownBlock with
      | none => exact .inl rfl
      | some k => exact .inr (by simp)
    | some b => exact .inr (hv b hr)
  exact ⟨World.ownsRow.kept h.row hg (hh _ h1), fun i hi => World.ownsRow.kept (h.txt i hi) hg (hh _ (fun b hb => h2 b hb i hi)), h.far⟩
theorem grown_ext {w w' : World} (he : Ext w w') : w.grownBy w' none := ⟨he.os, he.tape, he.output, he.size, fun k hk _ => he.block k hk⟩
theorem Mem.ext {w w' : World} {B : Nat} {sv : Value} {l : List SV} (h : Mem w B sv l) (he : Ext w w') : Mem w' B sv l :=
  h.kept (grown_ext he) (fun b e => by cases e) (fun b e => by cases e)
/-- A store into a box. -/
theorem Mem.box {w : World} {B : Nat} {sv : Value} {l : List SV} (h : Mem w B sv l) {b : Nat} {T : TypeId} {cs : List Value} (hb : Blk w b T cs) (h1 : T ≠ 77) (h2 : T ≠ 9) (j : Nat) (u : Value) : Mem (w.setCell ⟨b, j, none⟩ u) B sv l :=
  h.kept (grown_set w b j u) (fun b' e => by cases e; exact own_ty h.row hb h1) (fun b' e i hi => by cases e; exact own_ty (h.txt i hi) hb h2)
theorem Mem.form {w : World} {B : Nat} {sv : Value} {l : List SV} (h : Mem w B sv l) : ∃ A c, sv = .slice A l.length c ∧ l.length ≤ c ∧ (0 < l.length → ∃ g, A = some ⟨g, 0, none⟩) := by
  rcases h.row.2 with ⟨rfl, h0⟩ | ⟨g, cap, cur, rfl, hb, _, hc, _⟩
  · rw [h0]; exact ⟨none, 0, rfl, Nat.le_refl _, fun k => absurd k (by omega)⟩
  · exact ⟨_, cap, rfl, hc, fun _ => ⟨g, rfl⟩⟩
/-- The cells of step i. -/
theorem Mem.cells {w : World} {B g n c : Nat} {l : List SV} (h : Mem w B (.slice (some ⟨g, 0, none⟩) n c) l) (i : Nat) (hi : i < l.length) :
    w.cell? ⟨g, i * 4, none⟩ = some (.int .i64 l[i].1.op) ∧ w.cell? ⟨g, i * 4 + 1, none⟩ = some (.int .i64 l[i].1.a) ∧ w.cell? ⟨g, i * 4 + 2, none⟩ = some (.int .i64 l[i].1.b) ∧ w.cell? ⟨g, i * 4 + 3, none⟩ = some l[i].2 := by
  have hr := h.row
  obtain ⟨A, c', e, _⟩ := h.form
  simp only [Value.slice.injEq] at e
  obtain ⟨e1, e2, e3⟩ := e
  subst e2
  have hk : ∀ j, j < 4 → w.cell? ⟨g, i * 4 + j, none⟩ = (cellsS l[i])[j]? := fun j hj => (World.ownsRow.cellAt hr (i * 4 + j) (by omega)).trans (rowL_get l i hi j hj)
  exact ⟨hk 0 (by omega), hk 1 (by omega), hk 2 (by omega), hk 3 (by omega)⟩
theorem Mem.frozen {w : World} {B g n c : Nat} {l : List SV} (h : Mem w B (.slice (some ⟨g, 0, none⟩) n c) l) (j : Nat) : w.frozen? ⟨g, j, none⟩ = false := by
  obtain ⟨A, c', e, _⟩ := h.form
  simp only [Value.slice.injEq] at e
  obtain ⟨e1, e2, e3⟩ := e
  subst e2
  exact World.ownsRow.frozenAt h.row j
theorem Mem.lt {w : World} {B g n c : Nat} {l : List SV} (h : Mem w B (.slice (some ⟨g, 0, none⟩) n c) l) : B ≤ g ∧ g < w.heap.size := World.ownsRow.lt h.row g rfl
theorem Mem.steps {w : World} {B : Nat} {A : Option Addr} {n c : Nat} {l : List SV} (h : Mem w B (.slice A n c) l) : StepsAt w A (l.map (·.1)) := by
  intro i hi
  have hi' : i < l.length := by simpa using hi
  obtain ⟨A', c', e, _, hp⟩ := h.form
  obtain ⟨g, hg⟩ := hp (by omega)
  simp only [Value.slice.injEq] at e
  obtain ⟨e1, e2, e3⟩ := e
  rw [hg] at e1
  subst e1
  obtain ⟨T, c2, e4, h4, h5, _⟩ := (h.txt i hi').open_
  obtain ⟨k0, k1, k2, k3⟩ := h.cells i hi'
  have hz : (⟨g, 0, none⟩ : Addr).add (i * 4) = ⟨g, i * 4, none⟩ := by unfold Addr.add; split <;> simp_all
  refine ⟨_, T, c2, rfl, ?_, ?_, ?_, ?_, ?_, ?_⟩
  · rw [hz]; simpa using k0
  · rw [hz]; simpa using k1
  · rw [hz]; simpa using k2
  · rw [hz]; simp only [List.getElem_map]; rw [k3, e4]
  · simpa using h4
  · simpa using h5

/-- Step i has other texts, in a row v1 of its own. -/
theorem Mem.put {w : World} {B g n c : Nat} {l : List SV} (h : Mem w B (.slice (some ⟨g, 0, none⟩) n c) l) (i : Nat) (hi : i < l.length) (xs : List ByteArray) (v1 : Value) {w1 : World}
    (hg : w.grownBy w1 l[i].2.ownBlock) (ho : Own w1 B v1 xs) (hb : v1.ownBlock = l[i].2.ownBlock ∨ ∀ b, v1.ownBlock = some b → w.heap.size ≤ b) :
    Mem (w1.setCell ⟨g, i * 4 + 3, none⟩ v1) B (.slice (some ⟨g, 0, none⟩) n c) (l.set i (⟨l[i].1.op, l[i].1.a, l[i].1.b, xs⟩, v1)) := by
  obtain ⟨A, c', e, _⟩ := h.form
  simp only [Value.slice.injEq] at e
  obtain ⟨e1, e2, e3⟩ := e
  subst e2
  have hr1 : w1.ownsRow B 77 4 (.slice (some ⟨g, 0, none⟩) l.length c) l.length (rowL l) := by
    refine World.ownsRow.kept h.row hg ?_
    cases hk : l[i].2.ownBlock with
    | none => exact .inr (by simp [Value.ownBlock])
    | some b => exact .inr (own_ty2 h.row (h.txt i hi) (by decide) b hk)
  obtain ⟨hr2, hg2⟩ := hr1.stored (i * 4 + 3) v1
  rw [rowL_set l i hi ⟨l[i].1.op, l[i].1.a, l[i].1.b, xs⟩ v1 rfl rfl rfl] at hr2
  have hfar : ∀ j (hj : j < l.length), j ≠ i → ∀ b, l[j].2.ownBlock = some b → v1.ownBlock ≠ some b := by
    intro j hj hne b hb'
    rcases hb with k | k
    · rw [k]; exact h.far j i hj hi hne b hb'
    · intro e; have h1 := k b e; have h2 := (World.ownsRow.lt (h.txt j hj) b hb').2; omega
  refine ⟨by simpa using hr2, fun j hj => ?_, fun j k hj hk hne b hb' => ?_⟩
  · have hj' : j < l.length := by simpa using hj
    by_cases hji : j = i
    · subst hji
      simp only [List.getElem_set_self]
      exact World.ownsRow.kept ho hg2 (by
        cases hk : v1.ownBlock with
        | none => exact .inl rfl
        | some b => exact .inr (fun e => own_ty2 hr1 ho (by decide) b hk e.symm))
    · rw [List.getElem_set_ne (fun e => hji e.symm)]
      have h1 : Own w1 B l[j].2 l[j].1.texts := World.ownsRow.kept (h.txt j hj') hg (by
        cases hk : l[j].2.ownBlock with
        | none => exact .inl rfl
        | some b => exact .inr (fun e => h.far j i hj' hi hji b hk e.symm))
      exact World.ownsRow.kept h1 hg2 (by
        cases hk : l[j].2.ownBlock with
        | none => exact .inl rfl
        | some b => exact .inr (fun e => own_ty2 hr1 h1 (by decide) b hk e.symm))
  · have hj' : j < l.length := by simpa using hj
    have hk' : k < l.length := by simpa using hk
    by_cases hji : j = i
    · subst hji
      simp only [List.getElem_set_self] at hb'
      rw [List.getElem_set_ne hne]
      intro e
      exact hfar k hk' (fun e => hne e.symm) b e hb'
    · rw [List.getElem_set_ne (fun e => hji e.symm)] at hb'
      by_cases hki : k = i
      · subst hki
        simp only [List.getElem_set_self]
        exact hfar j hj' hji b hb'
      · rw [List.getElem_set_ne (fun e => hki e.symm)]
        exact h.far j k hj' hk' hne b hb'

/-- A step more. -/
theorem Mem.more {w w1 : World} {B : Nat} {sv sv1 : Value} {l : List SV} (h : Mem w B sv l) (s : Step) (v : Value) (ho : Own w B v s.texts) (hv : ∀ i (hi : i < l.length) g, l[i].2.ownBlock = some g → v.ownBlock ≠ some g)
    (hr : w1.ownsRow B 77 4 sv1 (l.length + 1) (rowL l ++ cellsS (s, v))) (hg : w.grownBy w1 sv.ownBlock) : Mem w1 B sv1 (l ++ [(s, v)]) := by
  have hk : ∀ {u : Value} {xs : List ByteArray}, Own w B u xs → Own w1 B u xs := fun {u xs} hu => World.ownsRow.kept hu hg (by
    cases hk : u.ownBlock with
    | none => exact .inl rfl
    | some b => exact .inr (fun e => own_ty2 h.row hu (by decide) b hk e.symm))
  refine ⟨by rw [rowL_append]; simpa [rowL] using hr, fun i hi => ?_, fun i j hi hj hne g hgi => ?_⟩
  · by_cases hl : i < l.length
    · rw [List.getElem_append_left hl]; exact hk (h.txt i hl)
    · rw [List.getElem_append_right (by omega)]
      simpa using hk ho
  · by_cases hl : i < l.length
    · rw [List.getElem_append_left hl] at hgi
      by_cases hm : j < l.length
      · rw [List.getElem_append_left hm]; exact h.far i j hl hm hne g hgi
      · rw [List.getElem_append_right (by omega)]; simpa using hv i hl g hgi
    · rw [List.getElem_append_right (by omega)] at hgi
      have hgi : v.ownBlock = some g := by simpa using hgi
      have hm : j < l.length := by simp at hi hj; omega
      rw [List.getElem_append_left hm]
      exact fun e => hv j hm g e hgi

theorem grown_trans {a b c : World} {row : Option Nat} (h : a.grownBy b row) (k : b.grownBy c row) : a.grownBy c row :=
  ⟨k.os.trans h.os, k.tape.trans h.tape, k.output.trans h.output, Nat.le_trans h.size k.size, fun i hi hn => (k.block i (Nat.lt_of_lt_of_le hi h.size) hn).trans (h.block i hi hn)⟩
/-- append(v, y), and what it leaves. -/
theorem app_strG {ops : Array Oper} {rest : List Oper} {o : Oper} {a : Act} {Q : Exit → Act → World → Prop} {W : World} (base : Nat) (hgd : o.guard = none) (s x : Operand)
    (ho : o.op = .call { callee := .builtin .append, args := #[s, x], argTypes := #[25, 25] }) (v : Value) (xs : List ByteArray) (y : ByteArray) (hs : a.eval s = v)
    (hx : a.eval x = .slice (some ⟨W.heap.size, 0, none⟩) 1 1) (HO : Own W base v xs) (hbase : base ≤ W.heap.size) (hl : (xs.length : Int) ≤ 1000000000000)
    (h : ∀ v1 w1, Own w1 base v1 (xs ++ [y]) → W.grownBy w1 v.ownBlock → (v1.ownBlock = v.ownBlock ∨ ∀ b, v1.ownBlock = some b → W.heap.size ≤ b) → wpList Tryz.prog ops Q rest (a.put o.dst v1) w1) :
    wpList Tryz.prog ops Q (o :: rest) a (W.alloc (.cells #[.string y] 9)) := by
  obtain ⟨i0, hi, hzz⟩ := Option.map_eq_some_iff.1 infoStr
  simp only [Prod.mk.injEq] at hzz
  obtain ⟨hz0, hz1, hz2⟩ := hzz
  refine wpList_append_own_at (W.alloc (.cells #[.string y] 9)) hgd s x 25 ho base 9 i0 _ 1 16 Tryz.underlying25 hi hz0 hz1 hz2 rfl (by omega) v xs.length (xs.map Value.string) hs
    (World.ownsRow.alloc HO _) ⟨W.heap.size, 0, none⟩ 1 1 [.string y] hx rfl (cell_one_new _ _ _) (by simp [Value.oneCell']) (by simp only [maxLen]; omega) (by omega) (by simp; omega) ?_
  intro v1 w1 hown hg _ hat
  refine h v1 w1 (by unfold Own; simpa using hown) (grown_trans (World.grownBy_alloc W _ _) hg) ?_
  rcases hat with k | k
  · exact .inl k
  · exact .inr fun b hb => by rw [k] at hb; simp only [Option.some.injEq, World.size_alloc] at hb; omega
theorem infoStep : (Tryz.prog.info? 77).map (fun i => (i.zero, i.size, i.bytes)) = some (some (.agg #[.int .i64 0, .int .i64 0, .int .i64 0, .slice none 0 0]), 4, 48) := by kernel_rfl
theorem box_step (W : World) (y : SV) : ∀ j u, (cellsS y)[j]? = some u → (W.alloc (.cells #[.int .i64 y.1.op, .int .i64 y.1.a, .int .i64 y.1.b, y.2] 77)).cell? ((⟨W.heap.size, 0, none⟩ : Addr).add j) = some u := by
  intro j u hj
  have ha : (⟨W.heap.size, 0, none⟩ : Addr).add j = ⟨W.heap.size, j, none⟩ := by unfold Addr.add; split <;> simp_all
  rw [ha, cell_of_row _ _ _ _ _ _ (heap_alloc_new W _)]
  simpa [cellsS] using hj
/-- append(steps, s). -/
theorem wp_app_step {o : Oper} {a : Act} {K : Act → World → Prop} {Q : Exit → Act → World → Prop} {W : World} (base : Nat) (s x : Operand)
    (ho : o.op = .call { callee := .builtin .append, args := #[s, x], argTypes := #[22, 22] }) (hty : o.type = 22) (v : Value) (l : List SV) (y : SV) (hy1 : y.2.oneCell' = true) (ad : Addr) (c : Nat) (hs : a.eval s = v)
    (hx : a.eval x = .slice (some ad) 1 c) (hn : ∀ j u, (cellsS y)[j]? = some u → W.cell? (ad.add j) = some u) (HO : W.ownsRow base 77 4 v l.length (rowL l)) (hbase : base ≤ W.heap.size) (hl : (l.length : Int) ≤ 1000000000)
    (h : ∀ v1 w1, w1.ownsRow base 77 4 v1 (l.length + 1) (rowL l ++ cellsS y) → W.grownBy w1 v.ownBlock → (v1.ownBlock = v.ownBlock ∨ ∀ b, v1.ownBlock = some b → W.heap.size ≤ b) → K (a.put o.dst v1) w1) :
    o.wp Tryz.prog a W K Q := by
  obtain ⟨i0, hi, hzz⟩ := Option.map_eq_some_iff.1 infoStep
  simp only [Prod.mk.injEq] at hzz
  obtain ⟨hz0, hz1, hz2⟩ := hzz
  obtain ⟨v1, w1, hr1, hown, hg, _, hat⟩ := run_append_own_at (P := Tryz.prog) W base 22 o.type 77 i0 _ 4 48 Tryz.underlying22 hi hz0 hz1 hz2 rfl (by omega) v l.length (rowL l) HO ad 1 c (cellsS y) rfl hn
    (by
      intro u hu
      simp only [cellsS, List.mem_cons, List.not_mem_nil, or_false] at hu
      rcases hu with rfl | rfl | rfl | rfl
      · rfl
      · rfl
      · rfl
      · exact hy1) (by simp only [maxLen]; omega) (by omega) hbase
  unfold Oper.wp execOp
  simp only [ho, resolve, invoke, builtin, Sem.run_bind, Sem.run_pure, Result.andThen_ok, List.map_toArray, List.map_cons, List.map_nil, hs, hx, hr1]
  refine h v1 w1 hown hg ?_
  rcases hat with k | k
  · exact .inl k
  · exact .inr fun b hb => by rw [k] at hb; simp only [Option.some.injEq] at hb; omega
theorem step_app_step {ops : Array Oper} {o : Oper} {a : Act} {K : Act → World → Prop} {Q : Exit → Act → World → Prop} {E : Prop} {W : World} (base : Nat) (hgd : o.guard = none) (s x : Operand)
    (ho : o.op = .call { callee := .builtin .append, args := #[s, x], argTypes := #[22, 22] }) (hty : o.type = 22) (v : Value) (l : List SV) (y : SV) (hy1 : y.2.oneCell' = true) (ad : Addr) (c : Nat) (hs : a.eval s = v)
    (hx : a.eval x = .slice (some ad) 1 c) (hn : ∀ j u, (cellsS y)[j]? = some u → W.cell? (ad.add j) = some u) (HO : W.ownsRow base 77 4 v l.length (rowL l)) (hbase : base ≤ W.heap.size) (hl : (l.length : Int) ≤ 1000000000)
    (h : ∀ v1 w1, w1.ownsRow base 77 4 v1 (l.length + 1) (rowL l ++ cellsS y) → W.grownBy w1 v.ownBlock → (v1.ownBlock = v.ownBlock ∨ ∀ b, v1.ownBlock = some b → W.heap.size ≤ b) → K (a.put o.dst v1) w1) :
    if Region.wanted o (yielded ops a.tmps) = true then Oper.wp Tryz.prog o a W K Q else E := by
  have hw : Region.wanted o (yielded ops a.tmps) = true := by simp [Region.wanted, hgd]
  rw [if_pos hw]
  exact wp_app_step base s x ho hty v l y hy1 ad c hs hx hn HO hbase hl h
end Go.Proofs.YtkdbajpdcadliaaGreatDoor.Pg

set_option linter.unusedVariables false
namespace Go.Proofs.YtkdbajpdcadliaaGreatDoor.Pg
open Go.RowKit

/-- Of what was there at w, nothing but box bp has turned. -/
structure Keep (bp : Nat) (w wr : World) : Prop where
  os : wr.os = w.os
  tape : wr.tape = w.tape
  output : wr.output = w.output
  size : w.heap.size ≤ wr.heap.size
  block : ∀ k, k < w.heap.size → k ≠ bp → wr.heap[k]? = w.heap[k]?
section
variable {bp : Nat} {w wr w' : World}
theorem Keep.refl (bp : Nat) (w : World) : Keep bp w w := ⟨rfl, rfl, rfl, Nat.le_refl _, fun _ _ _ => rfl⟩
theorem Keep.ext (h : Keep bp w wr) (he : Ext wr w') : Keep bp w w' :=
  ⟨he.os.trans h.os, he.tape.trans h.tape, he.output.trans h.output, Nat.le_trans h.size he.size, fun k hk hn => (he.block k (Nat.lt_of_lt_of_le hk h.size)).trans (h.block k hk hn)⟩
theorem Keep.row {row : Option Nat} (h : Keep bp w wr) (hg : wr.grownBy w' row) (hr : ∀ b, row = some b → w.heap.size ≤ b ∨ b = bp) : Keep bp w w' :=
  ⟨hg.os.trans h.os, hg.tape.trans h.tape, hg.output.trans h.output, Nat.le_trans h.size hg.size, fun k hk hn => (hg.block k (Nat.lt_of_lt_of_le hk h.size) (fun e => by rcases hr k e.symm with h1 | h1 <;> omega)).trans (h.block k hk hn)⟩
theorem Keep.set (h : Keep bp w wr) {g : Nat} (hg : w.heap.size ≤ g ∨ g = bp) (j : Nat) (v : Value) : Keep bp w (wr.setCell ⟨g, j, none⟩ v) :=
  h.row (grown_set wr g j v) (fun b e => by cases e; exact hg)
theorem Keep.grown (h : Keep bp w wr) : w.grownBy wr (some bp) := ⟨h.os, h.tape, h.output, h.size, fun k hk hn => h.block k hk (fun e => hn (by rw [e]))⟩
theorem Keep.below {w0 : World} (h : Keep bp w wr) (h0 : Ext w0 w) (hb : w0.heap.size ≤ bp) : Ext w0 wr :=
  ⟨h.os.trans h0.os, h.tape.trans h0.tape, h.output.trans h0.output, Nat.le_trans h0.size h.size, fun k hk => (h.block k (Nat.lt_of_lt_of_le hk h0.size) (by omega)).trans (h0.block k hk)⟩
theorem Keep.strs {A : Option Addr} {xs : List ByteArray} (h : Keep bp w wr) (hs : Strs w A xs) (hA : ∀ ad, A = some ad → ad.block ≠ bp) : Strs wr A xs := by
  intro i hi
  obtain ⟨ad, e, hc⟩ := hs i hi
  refine ⟨ad, e, ?_⟩
  have hb := block_of_cell hc
  have hab : (ad.add i).block = ad.block := by unfold Addr.add; split <;> rfl
  rw [World.cell?_of_block (h.block _ (by rw [hab]; exact hb) (by rw [hab]; exact hA ad e))]
  exact hc
/-- Another box that was there. -/
theorem Keep.blk {b : Nat} {T : TypeId} {cs : List Value} (h : Keep bp w wr) (hb : Blk w b T cs) (hne : b ≠ bp) : Blk wr b T cs := (h.block b hb.lt hne).trans hb
end
theorem Own.six {w : World} {base g d n : Nat} {xs : List ByteArray} (h : Own w base (.slice (some ⟨g, 0, none⟩) n d) xs) : n = xs.length := by
  obtain ⟨A, c, e, _⟩ := h.open_
  simp only [Value.slice.injEq] at e
  exact e.2.1
theorem Own.cellAt {w : World} {base g d n : Nat} {xs : List ByteArray} (h : Own w base (.slice (some ⟨g, 0, none⟩) n d) xs) (i : Nat) (hi : i < xs.length) : w.cell? ⟨g, i, none⟩ = some (.string xs[i]) := by
  obtain rfl := h.six
  rw [World.ownsRow.cellAt h i (by omega)]
  simp [hi]
theorem Own.fzAt {w : World} {base g d n : Nat} {xs : List ByteArray} (h : Own w base (.slice (some ⟨g, 0, none⟩) n d) xs) (i : Nat) : w.frozen? ⟨g, i, none⟩ = false := by
  obtain rfl := h.six
  exact World.ownsRow.frozenAt h i
theorem Own.stored {w : World} {base g d n : Nat} {xs : List ByteArray} (h : Own w base (.slice (some ⟨g, 0, none⟩) n d) xs) (i : Nat) (y : ByteArray) : Own (w.setCell ⟨g, i, none⟩ (.string y)) base (.slice (some ⟨g, 0, none⟩) n d) (xs.set i y) := by
  obtain rfl := h.six
  have := (World.ownsRow.stored h i (.string y)).1
  rw [← List.map_set] at this
  unfold Own
  simpa using this
theorem row_self (l : List SV) (i : Nat) (hi : i < l.length) : (rowL l).set (i * 4 + 3) l[i].2 = rowL l := by
  have h := rowL_get l i hi 3 (by omega)
  have hlt : i * 4 + 3 < (rowL l).length := by rw [rowL_length]; omega
  rw [List.getElem?_eq_getElem hlt] at h
  have h2 : (rowL l)[i * 4 + 3] = l[i].2 := Option.some.inj h
  rw [← h2, List.set_getElem_self]
/-- A store into one of the rows of texts. -/
theorem Mem.txtset {w : World} {B b n c : Nat} {sv : Value} {l : List SV} (h : Mem w B sv l) (i : Nat) (hi : i < l.length) (hv : l[i].2 = .slice (some ⟨b, 0, none⟩) n c) (q : Nat) (y : ByteArray) :
    Mem (w.setCell ⟨b, q, none⟩ (.string y)) B sv (l.set i (⟨l[i].1.op, l[i].1.a, l[i].1.b, l[i].1.texts.set q y⟩, l[i].2)) := by
  have hg := grown_set w b q (.string y)
  have hob : l[i].2.ownBlock = some b := by rw [hv]; rfl
  have hrow : (rowL (l.set i (⟨l[i].1.op, l[i].1.a, l[i].1.b, l[i].1.texts.set q y⟩, l[i].2))) = rowL l := by
    exact (rowL_set l i hi ⟨l[i].1.op, l[i].1.a, l[i].1.b, l[i].1.texts.set q y⟩ l[i].2 rfl rfl rfl).symm.trans (row_self l i hi)
  refine ⟨?_, fun j hj => ?_, fun j k hj hk hne x hx => ?_⟩
  · rw [hrow, List.length_set]
    exact World.ownsRow.kept h.row hg (.inr (own_ty2 h.row (h.txt i hi) (by decide) b hob))
  · have hj' : j < l.length := by simpa using hj
    by_cases hji : j = i
    · subst hji
      simp only [List.getElem_set_self]
      have ho := h.txt j hj'
      rw [hv] at ho ⊢
      exact ho.stored q y
    · rw [List.getElem_set_ne (fun e => hji e.symm)]
      exact World.ownsRow.kept (h.txt j hj') hg (.inr (fun e => h.far j i hj' hi hji b e hob))
  · have hj' : j < l.length := by simpa using hj
    have hk' : k < l.length := by simpa using hk
    have e : ∀ m (hm : m < l.length), ((l.set i (⟨l[i].1.op, l[i].1.a, l[i].1.b, l[i].1.texts.set q y⟩, l[i].2))[m]'(by simpa using hm)).2 = l[m].2 := by
      intro m hm
      by_cases hmi : m = i
      · subst hmi; simp only [List.getElem_set_self]
      · rw [List.getElem_set_ne (fun e => hmi e.symm)]
    rw [e j hj'] at hx
    rw [e k hk']
    exact h.far j k hj' hk' hne x hx
theorem grown_pre {w X W1 : World} {row : Option Nat} (hg : X.grownBy W1 row) (h : Ext w X) : Ext w X := h
end Go.Proofs.YtkdbajpdcadliaaGreatDoor.Pg
