/- Equality of structs whose fields are numbers, truth values and strings. -/
import Derived.Test.YtkchimbalpiilaaGreatSepJ
import Derived.Laws.StructEq
set_option linter.all false
set_option linter.deprecated false
namespace Go.Sep
open Go

def namesOk : List Field → Bool
  | [] => true
  | f :: l => !(f.name == "_") && namesOk l

/-- Whether values of the struct type t are compared field by field. -/
def eqOk (P : Program) (t : TypeId) : Bool :=
  match P.underlying t with
  | some (.struct fields) => !(P.stoodInHeld t) && (!(P.eqGuardType P.depth t) && namesOk fields.toList)
  | _ => false

def eqCell (T : Tab) (f : TypeId) (x y : D) : Option Bool :=
  match lk T f with
  | none => none
  | some e => match e.td, x, y with
    | .int _, .int k a, .int l b => if kindEq k l then some (a == b) else none
    | .bool, .bool a, .bool b => some (a == b)
    | .str, .str a, .str b => some (a == b)
    | _, _, _ => none

def eqL (T : Tab) : List TypeId → List D → List D → Option Bool
  | [], [], [] => some true
  | f :: fs, x :: xs, y :: ys => match eqCell T f x y with
    | none => none
    | some a => match eqL T fs xs ys with
      | none => none
      | some b => some (a && b)
  | _, _, _ => none

def eqD (C : Cx) (t : TypeId) (op : BinOp) (x y : List D) : Option (D × Prop) :=
  match lk C.T t with
  | none => none
  | some e => match e.td with
    | .struct fs => match eqL C.T fs x y with
      | none => none
      | some b => match op with
        | .eql => some (.bool b, eqOk C.P t = true)
        | .neq => some (.bool (!b), eqOk C.P t = true)
        | _ => none
    | _ => none

section
variable {C : Cx} {G : Gh} {I : Nat → Prop} {w : World}

theorem run_eqCell {f : TypeId} {x y : D} {b : Bool} (h : eqCell C.T f x y = some b) {cx cy : List Value} (hx : D.cells I w x cx) (hy : D.cells I w y cy) (d : Nat) :
    ∃ u v e, cx = [u] ∧ cy = [v] ∧ lk C.T f = some e ∧ e.sh = .cell ∧ (Op.equalIn (d + 1) f u v).run C.P w = .ok b w := by
  unfold eqCell at h
  split at h
  · cases h
  · rename_i e he
    have hu := (C.ok f e he).und
    split at h
    · rename_i k n a l c htd
      rw [htd] at hu
      split at h
      · rename_i hk
        cases kindEq_eq hk
        simp only [Option.some.injEq] at h
        simp only [D.cells] at hx hy
        exact ⟨_, _, e, hx, hy, he, hu.2, by rw [run_equalIn_int w d f _ _ a c hu.1, h]⟩
      · cases h
    · rename_i a c htd
      rw [htd] at hu
      simp only [Option.some.injEq] at h
      simp only [D.cells] at hx hy
      exact ⟨_, _, e, hx, hy, he, hu.2, by rw [run_equalIn_bool' w d f a c hu.1, h]⟩
    · rename_i a c htd
      rw [htd] at hu
      simp only [Option.some.injEq] at h
      simp only [D.cells] at hx hy
      refine ⟨_, _, e, hx, hy, he, hu.2, ?_⟩
      rw [run_equalIn_string w d f _ _ hu.1, toList_mk, toList_mk, h]
    · cases h

theorem run_eqL : ∀ (fields : List Field) (fs : List TypeId) (l : List Sh) (xs ys : List D) (b : Bool) (px cx py cy : List Value) (d : Nat), fields.length = fs.length → l.length = fs.length →
    (∀ (j : Nat) (f : Field), fields[j]? = some f → fs[j]? = some f.type ∧ f.offset = px.length + Sh.sizes (l.take j) ∧ ∃ fe, lk C.T f.type = some fe ∧ l[j]? = some fe.sh ∧ 0 < fe.sh.size) → px.length = py.length →
    namesOk fields = true → eqL C.T fs xs ys = some b → D.cellsA I w xs cx → D.cellsA I w ys cy → (Op.eqFields (d + 1) (px ++ cx).toArray (py ++ cy).toArray fields).run C.P w = .ok b w
  | [], fs, l, xs, ys, b, px, cx, py, cy, d, h1, h2, h3, hp, hn, h, hx, hy => by
    match fs, h1 with
    | [], _ =>
      match xs, ys, h with
      | [], [], h =>
        simp only [eqL, Option.some.injEq] at h
        subst h
        simp [Op.eqFields]
  | f :: fields, fs, l, xs, ys, b, px, cx, py, cy, d, h1, h2, h3, hp, hn, h, hx, hy => by
    match fs, h1 with
    | ft :: fs, h1 =>
      match l, h2 with
      | s :: l, h2 =>
        match xs, ys, h with
        | x :: xs, y :: ys, h =>
          simp only [eqL] at h
          split at h
          · cases h
          · rename_i a ha
            split at h
            · cases h
            · rename_i b' hb
              simp only [Option.some.injEq] at h
              subst h
              simp only [namesOk, Bool.and_eq_true, Bool.not_eq_true', beq_eq_false_iff_ne] at hn
              simp only [D.cellsA] at hx hy
              obtain ⟨c1, c2, rfl, hx1, hx2⟩ := hx
              obtain ⟨e1, e2, rfl, hy1, hy2⟩ := hy
              obtain ⟨ht, ho, fe, hfe, hsh, _⟩ := h3 0 f rfl
              simp only [List.getElem?_cons_zero, Option.some.injEq] at ht hsh
              subst ht hsh
              simp only [List.take_zero, Sh.sizes, Nat.add_zero] at ho
              obtain ⟨u, v, e, rfl, rfl, he, hcell, hrun⟩ := run_eqCell ha hx1 hy1 d
              rw [hfe] at he
              cases he
              have p1 := run_part (C := C) hfe w (pre := px) (c := [u]) (post := c2) (by rw [hcell]; rfl)
              have p2 := run_part (C := C) hfe w (pre := py) (c := [v]) (post := e2) (by rw [hcell]; rfl)
              rw [hcell] at p1 p2
              simp only [vOf, List.headD_cons, List.append_assoc] at p1 p2
              have ih := run_eqL fields fs l xs ys b' (px ++ [u]) c2 (py ++ [v]) e2 d (by simpa using h1) (by simpa using h2) (fun j g hj => by
                have := h3 (j + 1) g (by simpa using hj)
                simp only [List.getElem?_cons_succ, List.take_succ_cons, Sh.sizes, hcell, Sh.size] at this
                refine ⟨this.1, ?_, this.2.2⟩
                rw [this.2.1]
                simp
                omega) (by simp [hp]) hn.2 hb hx2 hy2
              simp only [Op.eqFields, if_pos hn.1, Sem.run_bind]
              rw [ho, p1]
              simp only [Result.andThen_ok]
              rw [hp, p2]
              simp only [Result.andThen_ok, hrun]
              cases a
              · simp
              · simp only [Bool.not_true, Bool.false_eq_true, if_false, Bool.true_and]
                simpa using ih

theorem run_eqD {t : TypeId} {op : BinOp} {x y : List D} {r : D} {p : Prop} {vx vy : Value} {ox oy : Operand} (h : eqD C t op x y = some (r, p)) (hp : p) (hx : AV.val G I w (.d (.agg x)) vx) (hy : AV.val G I w (.d (.agg y)) vy) :
    ∃ z, (do eqGuard op t ox oy vx vy; binOp op t vx vy : Sem Value).run C.P w = .ok z w ∧ AV.val G I w (.d r) z := by
  obtain ⟨cx, hcx, rfl⟩ := cells_of_val rfl hx
  obtain ⟨cy, hcy, rfl⟩ := cells_of_val rfl hy
  simp only [AV.cells, D.cells] at hcx hcy
  simp only [AV.sh, D.sh, vOf]
  unfold eqD at h
  split at h
  · cases h
  · rename_i e he
    have hu := (C.ok t e he).und
    split at h
    · rename_i fs htd
      rw [htd] at hu
      obtain ⟨fields, g1, g2, l, g3, g4, g5⟩ := hu
      split at h
      · cases h
      · rename_i b hb
        have key : eqOk C.P t = true → (do eqGuard op t ox oy (.agg cx.toArray) (.agg cy.toArray); binOp op t (.agg cx.toArray) (.agg cy.toArray) : Sem Value).run C.P w = (binOp op t (.agg cx.toArray) (.agg cy.toArray)).run C.P w ∧
            (Op.equalIn 10000 t (.agg cx.toArray) (.agg cy.toArray)).run C.P w = .ok b w := by
          intro hok
          unfold eqOk at hok
          rw [g1] at hok
          simp only [Bool.and_eq_true, Bool.not_eq_true'] at hok
          have hf : C.P.fieldsOf t = fields := by unfold Program.fieldsOf; rw [g1]
          refine ⟨by rw [Sem.run_bind, run_eqGuard_agg w op t ox oy _ _ hok.2.1, Result.andThen_ok], ?_⟩
          rw [run_equalIn_agg w 9999 t _ _ (by rw [hf]; exact g1) hok.1, hf]
          have := run_eqL (C := C) (I := I) (w := w) fields.toList fs l x y b [] cx [] cy 9998 (by simpa using g2) g4 (fun j f hj => by
            obtain ⟨q1, q2, q3⟩ := g5 j f (by simpa using hj)
            exact ⟨q1, by simpa using q2, q3⟩) rfl hok.2.2 hb hcx hcy
          simpa using this
        cases op <;> simp only at h <;> first | (cases h; done) | skip
        · simp only [Option.some.injEq, Prod.mk.injEq] at h
          obtain ⟨rfl, rfl⟩ := h
          obtain ⟨k1, k2⟩ := key hp
          refine ⟨.bool b, ?_, val_bool.2 rfl⟩
          rw [k1, run_eql_struct, k2, Result.andThen_ok]
        · simp only [Option.some.injEq, Prod.mk.injEq] at h
          obtain ⟨rfl, rfl⟩ := h
          obtain ⟨k1, k2⟩ := key hp
          refine ⟨.bool (!b), ?_, val_bool.2 rfl⟩
          rw [k1, run_neq_struct, k2, Result.andThen_ok]
    · cases h
end
end Go.Sep
