/- Operations that only compute: parts of values, lengths, cuts, structs put together. -/
import Derived.Test.YtkchimbalpiilaaGreatSepE
set_option linter.all false
set_option linter.deprecated false
namespace Go.Sep
open Go

section
variable {C : Cx} {E : En} {o : Nat → Option Ob} {m : Nat → Value} {I : Nat → Prop} {w : World}

/-! A value as pure data: rows that are written no more are data. -/
mutual
def toD (ol : Nat → Option Ob) : AV → Option (D × Prop)
  | .d x => some (x, True)
  | .nils sh => some (.sl sh [], True)
  | .own b k => match ol b with
    | some (.frz _ sh xs) => some (.sl sh xs, k = xs.length)
    | _ => none
  | .agg xs => match toDs ol xs with
    | some (ys, p) => some (.agg ys, p)
    | none => none
  | _ => none
def toDs (ol : Nat → Option Ob) : List AV → Option (List D × Prop)
  | [] => some ([], True)
  | x :: xs => match toD ol x with
    | none => none
    | some (y, p) => match toDs ol xs with
      | none => none
      | some (ys, q) => some (y :: ys, p ∧ q)
end

theorem frz_cells (hm : Mem C E o m I w) {b : Nat} {t : TypeId} {sh : Sh} {xs : List D} (hb : o b = some (.frz t sh xs)) : D.cells I w (.sl sh xs) [m b] := by
  obtain ⟨hlim, ⟨vs, hown, hcs⟩, hI⟩ := hm.obj b _ hb
  simp only [D.cells]
  rcases hown.2 with ⟨hn, hz⟩ | ⟨g, cap, cur, hn, _, hheap, hcap, _, _, htake⟩
  · refine ⟨none, 0, by rw [hn, hz], by omega, hlim, .inl ?_⟩
    exact List.eq_nil_of_length_eq_zero hz
  · refine ⟨some ⟨g, 0, none⟩, cap, by rw [hn], hcap, hlim, .inr ⟨g, 0, vs, rfl, hI g (by rw [hn]; rfl), fun j v hj => ?_, hcs⟩⟩
    rw [Nat.zero_add, cell_of_row w g j cur t _ hheap, ← Array.getElem?_toList]
    rw [← htake, List.getElem?_take] at hj
    split at hj
    · exact hj
    · cases hj

mutual
theorem toD_cells (hm : Mem C E o m I w) : ∀ (x : AV) (y : D) (p : Prop) (cs : List Value), toD o x = some (y, p) → p → AV.cells (gh o m) I w x cs → D.cells I w y cs ∧ y.sh = x.sh
  | .d x, y, p, cs, h, _, hc => by
    simp only [toD, Option.some.injEq, Prod.mk.injEq] at h
    obtain ⟨rfl, _⟩ := h
    simp only [AV.cells] at hc
    exact ⟨hc, by simp only [AV.sh]⟩
  | .nils sh, y, p, cs, h, _, hc => by
    simp only [toD, Option.some.injEq, Prod.mk.injEq] at h
    obtain ⟨rfl, _⟩ := h
    simp only [AV.cells] at hc
    subst hc
    simp only [D.cells, D.sh, AV.sh]
    exact ⟨⟨none, 0, by simp, by simp, by simp, .inl trivial⟩, trivial⟩
  | .own b k, y, p, cs, h, hp, hc => by
    simp only [toD] at h
    cases hb : o b with
    | none => rw [hb] at h; cases h
    | some ob =>
      rw [hb] at h
      cases ob <;> try (simp only at h; cases h; done)
      rename_i ty sh xs
      simp only [Option.some.injEq, Prod.mk.injEq] at h
      obtain ⟨rfl, rfl⟩ := h
      simp only [AV.cells] at hc
      obtain ⟨a, c, n, rfl, h1, h2, h3⟩ := hc
      have hn : n = xs.length := by simpa only [gh, hb, Option.some.injEq] using h1.symm
      have := h3 (by omega)
      rw [this]
      exact ⟨frz_cells hm hb, by simp only [D.sh, AV.sh]⟩
  | .agg xs, y, p, cs, h, hp, hc => by
    simp only [toD] at h
    cases hx : toDs o xs with
    | none => rw [hx] at h; cases h
    | some r =>
      obtain ⟨ys, q⟩ := r
      rw [hx] at h
      simp only [Option.some.injEq, Prod.mk.injEq] at h
      obtain ⟨rfl, rfl⟩ := h
      simp only [AV.cells] at hc
      have := toDs_cells hm xs ys _ cs hx hp hc
      simp only [D.cells, D.sh, AV.sh]
      exact ⟨this.1, by rw [this.2]⟩
  | .any, y, p, cs, h, _, _ => by simp only [toD] at h; cases h
  | .tup _, y, p, cs, h, _, _ => by simp only [toD] at h; cases h
  | .ref _ _, y, p, cs, h, _, _ => by simp only [toD] at h; cases h
  | .cp _, y, p, cs, h, _, _ => by simp only [toD] at h; cases h
  | .rref _ _ _ _, y, p, cs, h, _, _ => by simp only [toD] at h; cases h
  | .fn _ _, y, p, cs, h, _, _ => by simp only [toD] at h; cases h
  | .yd _, y, p, cs, h, _, _ => by simp only [toD] at h; cases h
theorem toDs_cells (hm : Mem C E o m I w) : ∀ (xs : List AV) (ys : List D) (p : Prop) (cs : List Value), toDs o xs = some (ys, p) → p → AV.cellsA (gh o m) I w xs cs → D.cellsA I w ys cs ∧ D.shs ys = AV.shs xs
  | [], ys, p, cs, h, _, hc => by
    simp only [toDs, Option.some.injEq, Prod.mk.injEq] at h
    obtain ⟨rfl, _⟩ := h
    simp only [AV.cellsA] at hc
    simp only [D.cellsA, D.shs, AV.shs]
    exact ⟨hc, trivial⟩
  | x :: xs, ys, p, cs, h, hp, hc => by
    simp only [toDs] at h
    cases hx : toD o x with
    | none => rw [hx] at h; cases h
    | some r =>
      obtain ⟨y, q1⟩ := r
      rw [hx] at h
      simp only at h
      cases hxs : toDs o xs with
      | none => rw [hxs] at h; cases h
      | some r2 =>
        obtain ⟨ys', q2⟩ := r2
        rw [hxs] at h
        simp only [Option.some.injEq, Prod.mk.injEq] at h
        obtain ⟨rfl, rfl⟩ := h
        simp only [AV.cellsA] at hc
        obtain ⟨c1, c2, rfl, h1, h2⟩ := hc
        have e1 := toD_cells hm x y q1 c1 hx hp.1 h1
        have e2 := toDs_cells hm xs ys' q2 c2 hxs hp.2 h2
        simp only [D.cellsA, D.shs, AV.shs]
        exact ⟨⟨c1, c2, rfl, e1.1, e2.1⟩, by rw [e1.2, e2.2]⟩
end

theorem toD_one {x : AV} {y : D} {p : Prop} (h : toD o x = some (y, p)) : x.one = true := by
  cases x <;> first | rfl | (simp only [toD] at h; cases h)

theorem toD_val (hm : Mem C E o m I w) {x : AV} {y : D} {p : Prop} {v : Value} (h : toD o x = some (y, p)) (hp : p) (hx : AV.val (gh o m) I w x v) : AV.val (gh o m) I w (.d y) v := by
  obtain ⟨cs, hc, rfl⟩ := cells_of_val (toD_one h) hx
  have := toD_cells hm x y p cs h hp hc
  have h2 : AV.cells (gh o m) I w (.d y) cs := by simp only [AV.cells]; exact this.1
  have h3 := val_of_cells h2
  simp only [AV.sh, this.2] at h3
  exact h3

/-! One operand. -/
def unD (op : UnOp) (x : AV) : Option AV :=
  match op, x with
  | .not, .d (.bool b) => some (.d (.bool (!b)))
  | .neg, .d (.int k n) => some (.d (.int k (k.wrap (0 - n))))
  | _, _ => none

theorem run_unD {op : UnOp} {x r : AV} {v : Value} {G : Gh} (h : unD op x = some r) (hx : AV.val G I w x v) : ∃ z, (Op.unary op v).run C.P w = .ok z w ∧ AV.val G I w r z := by
  unfold unD at h
  split at h
  · cases h
    rw [val_bool] at hx
    subst hx
    exact ⟨_, by simp [Op.unary], val_bool.2 rfl⟩
  · cases h
    rw [val_int] at hx
    subst hx
    exact ⟨_, by simp [Op.unary, Op.intArith], val_int.2 rfl⟩
  · cases h

def convD (T : Tab) (src dst : TypeId) (x : AV) : Option AV :=
  match lk T dst, lk T src, x with
  | some e, some _, .d (.int _ n) => match e.td with
    | .int k => some (.d (.int k (k.wrap n)))
    | _ => none
  | _, _, _ => none

theorem und_some {t : Nat} {e : TE} (h : lk C.T t = some e) : ∃ d, C.P.underlying t = some d := by
  have hu := (C.ok t e h).und
  cases htd : e.td <;> rw [htd] at hu
  case int => exact ⟨_, hu.1⟩
  case bool => exact ⟨_, hu.1⟩
  case str => exact ⟨_, hu.1⟩
  case ptr => obtain ⟨⟨u, h1⟩, _⟩ := hu; exact ⟨_, h1⟩
  case func => obtain ⟨⟨a, b, c, h1⟩, h2⟩ := hu; exact ⟨_, h1⟩
  case slice => exact ⟨_, hu.1⟩
  case struct => obtain ⟨fields, h1, _⟩ := hu; exact ⟨_, h1⟩
  case arr => obtain ⟨h1, _⟩ := hu; exact ⟨_, h1⟩

theorem run_convD {src dst : TypeId} {x r : AV} {v : Value} {G : Gh} (h : convD C.T src dst x = some r) (hx : AV.val G I w x v) : ∃ z, (convert src dst v).run C.P w = .ok z w ∧ AV.val G I w r z := by
  unfold convD at h
  split at h
  · rename_i e e' k n hd hs
    rw [val_int] at hx
    subst hx
    split at h
    · rename_i k' htd
      cases h
      have hu := (C.ok dst e hd).und
      rw [htd] at hu
      obtain ⟨ds, hds⟩ := und_some hs
      refine ⟨_, ?_, val_int.2 rfl⟩
      unfold convert
      simp only [Sem.run_bind, run_underlying hds, run_underlying hu.1, Result.andThen_ok, Conv.intToInt, Sem.run_pure]
    · cases h
  · cases h

/-! Parts. -/
def extractD (x : AV) (i : Nat) : Option AV :=
  match x with
  | .tup xs => xs[i]?
  | _ => none

theorem vals_at {G : Gh} : ∀ (xs : List AV) (i : Nat) (y : AV) (vs : List Value), xs[i]? = some y → AV.vals G I w xs vs → ∃ v, vs[i]? = some v ∧ AV.val G I w y v
  | [], i, y, vs, h, _ => by simp at h
  | x :: xs, 0, y, vs, h, hv => by
    simp only [AV.vals] at hv
    obtain ⟨cs, v, vs', rfl, hc, rfl, _⟩ := hv
    simp only [List.getElem?_cons_zero, Option.some.injEq] at h
    subst h
    exact ⟨_, rfl, val_of_cells hc⟩
  | x :: xs, i + 1, y, vs, h, hv => by
    simp only [AV.vals] at hv
    obtain ⟨cs, v, vs', rfl, _, _, h2⟩ := hv
    simp only [List.getElem?_cons_succ] at h ⊢
    exact vals_at xs i y vs' h h2

theorem run_extractD {x r : AV} {i : Nat} {v : Value} {G : Gh} (h : extractD x i = some r) (hx : AV.val G I w x v) : ∃ z, (Instr.extract v i).run C.P w = .ok z w ∧ AV.val G I w r z := by
  cases x <;> try (simp only [extractD] at h; cases h; done)
  rename_i xs
  simp only [extractD] at h
  rw [val_tup] at hx
  obtain ⟨vs, rfl, hv⟩ := hx
  obtain ⟨z, hz, hr⟩ := vals_at xs i r vs h hv
  exact ⟨z, by simp [Instr.extract, hz], hr⟩

def fieldD (T : Tab) (t : TypeId) (x : AV) (f : Nat) : Option AV :=
  match lk T t with
  | none => none
  | some e => match e.sh with
    | .node _ => if Sh.same x.sh e.sh && x.one then x.kid f else none
    | _ => none

theorem run_fieldD {t : TypeId} {x r : AV} {f : Nat} {v : Value} {G : Gh} (h : fieldD C.T t x f = some r) (hx : AV.val G I w x v) : ∃ z, (Instr.field t v f).run C.P w = .ok z w ∧ AV.val G I w r z := by
  unfold fieldD at h
  cases ht : lk C.T t with
  | none => rw [ht] at h; cases h
  | some e =>
    rw [ht] at h
    simp only at h
    cases hl : e.sh with
    | cell => rw [hl] at h; cases h
    | arr n s => rw [hl] at h; cases h
    | node l =>
      rw [hl] at h
      simp only at h
      split at h
      · rename_i hc
        simp only [Bool.and_eq_true] at hc
        have hsh := Sh.same_eq _ _ hc.1
        obtain ⟨cs, hcs, rfl⟩ := cells_of_val hc.2 hx
        obtain ⟨pre, c, post, rfl, ho, hy, _⟩ := AV.kid_at h hcs 0 r.sh [] rfl
        obtain ⟨fs, hd⟩ := node_struct ht hl
        have hu := (C.ok t e ht).und
        rw [hd] at hu
        obtain ⟨fields, h1, h2, l', h3, h4, h5⟩ := hu
        rw [hl] at h3
        cases h3
        rw [hsh] at ho ⊢
        simp only [Sh.offP] at ho
        cases hlf : l[f]? with
        | none => rw [hlf] at ho; cases ho
        | some s =>
          rw [hlf] at ho
          simp only [Nat.add_zero, Option.some.injEq, Prod.mk.injEq] at ho
          have hlt : f < fields.size := by rw [h2, ← h4]; exact (List.getElem?_eq_some_iff.1 hlf).1
          obtain ⟨_, hoff, fe, hfe, hfs, hpos⟩ := h5 f fields[f] (by simp [hlt])
          rw [hlf] at hfs
          cases hfs
          refine ⟨vOf fe.sh c, ?_, ho.2 ▸ val_of_cells hy⟩
          unfold Instr.field
          simp only [Sem.run_bind, run_underlying h1, Result.andThen_ok, Array.getElem?_eq_getElem hlt, vOf, asAgg, Sem.run_pure, hoff, ho.1]
          exact run_part hfe w (by rw [AV.cells_length r c hy, ho.2])
      · cases h

def indexD (T : Tab) (t : TypeId) (x ix : AV) (oc : Oc) : Option (AV × Prop) :=
  match ix with
  | .d (.int _ n) => match lk T t with
    | none => none
    | some e => match e.td, x with
      | .str, .d (.str s) => match oc with
        | .bt b => some (.d (.int .u8 b.toNat), 0 ≤ n ∧ s[n.toNat]? = some b)
        | _ => none
      | .arr _ _, .d (.arr sh k xs) => if Sh.same (.arr k sh) e.sh then match oc with
          | .el y => some (.d y, 0 ≤ n ∧ xs[n.toNat]? = some y)
          | _ => none
        else none
      | _, _ => none
  | _ => none

theorem run_indexD {t : TypeId} {x ix r : AV} {oc : Oc} {q : Prop} {v u : Value} {G : Gh} (h : indexD C.T t x ix oc = some (r, q)) (hq : q)
    (hx : AV.val G I w x v) (hix : AV.val G I w ix u) : ∃ z, (Instr.index t v u).run C.P w = .ok z w ∧ AV.val G I w r z := by
  unfold indexD at h
  cases ix <;> try (simp only at h; cases h; done)
  rename_i ix
  cases ix <;> try (simp only at h; cases h; done)
  rename_i kd n
  rw [val_int] at hix
  subst hix
  simp only at h
  cases ht : lk C.T t with
  | none => rw [ht] at h; cases h
  | some e =>
    rw [ht] at h
    simp only at h
    have hu := (C.ok t e ht).und
    split at h
    · rename_i s hd
      rw [hd] at hu
      cases oc <;> try (simp only at h; cases h; done)
      rename_i b
      cases h
      rw [val_str] at hx
      subst hx
      refine ⟨_, ?_, val_int.2 rfl⟩
      have hg : (⟨s.toArray⟩ : ByteArray)[n.toNat]? = some b := by
        have hlt := (List.getElem?_eq_some_iff.1 hq.2).1
        have hsz : (⟨s.toArray⟩ : ByteArray).size = s.length := by simp [ByteArray.size]
        rw [getElem?_pos _ _ (by rw [hsz]; exact hlt)]
        rw [← hq.2, List.getElem?_eq_getElem hlt]
        rfl
      simp [Instr.index, asIntOf, run_underlying hu.1, hq.1, hg]
    · rename_i n' el sh k xs hd
      rw [hd] at hu
      split at h
      · rename_i hsame
        obtain ⟨hu1, ee, he, hesh, hpos, _⟩ := hu
        have hsh := Sh.same_eq _ _ hsame
        rw [hesh] at hsh
        cases hsh
        cases oc <;> try (simp only at h; cases h; done)
        rename_i y
        cases h
        obtain ⟨cs, hcs, rfl⟩ := cells_of_val rfl hx
        simp only [AV.cells, D.cells] at hcs
        obtain ⟨hlen, hcs⟩ := hcs
        obtain ⟨hys, pre, c, post, rfl, hp, hc, _⟩ := D.cellsL_at ee.sh xs _ y cs hq.2 hcs
        have hlt := (List.getElem?_eq_some_iff.1 hq.2).1
        have hc' : AV.cells G I w (.d y) c := by simp only [AV.cells]; exact hc
        refine ⟨vOf ee.sh c, ?_, hys ▸ val_of_cells hc'⟩
        simp only [Instr.index, Sem.run_bind, asIntOf, Sem.run_pure, Result.andThen_ok, run_underlying hu1, vOf, AV.sh, D.sh]
        rw [if_pos ⟨hq.1, by omega⟩]
        simp only [Sem.run_bind, run_sizeOf' he, Result.andThen_ok, ← hp]
        exact run_part he w (by rw [D.cells_length y c hc, hys])
      · cases h
    · cases h

/-! Lengths. -/
def lenD (T : Tab) (t : TypeId) (x : AV) : Option AV :=
  match lk T t with
  | none => none
  | some e => match e.td, x with
    | .str, .d (.str s) => some (.d (.int .i64 s.length))
    | .slice _, .d (.sl _ xs) => some (.d (.int .i64 xs.length))
    | .slice _, .nils _ => some (.d (.int .i64 0))
    | .slice _, .own _ k => some (.d (.int .i64 k))
    | .arr n _, _ => some (.d (.int .i64 n))
    | _, _ => none

theorem run_lenD {t ty : TypeId} {x r : AV} {v : Value} {G : Gh} (h : lenD C.T t x = some r) (hx : AV.val G I w x v) :
    ∃ z, (Builtin.len_ #[t] ty #[v]).run C.P w = .ok z w ∧ AV.val G I w r z := by
  unfold lenD at h
  cases ht : lk C.T t with
  | none => rw [ht] at h; cases h
  | some e =>
    rw [ht] at h
    simp only at h
    have hu := (C.ok t e ht).und
    split at h
    · rename_i s hd
      rw [hd] at hu
      cases h
      rw [val_str] at hx
      subst hx
      refine ⟨_, ?_, val_int.2 rfl⟩
      have hsz : (⟨s.toArray⟩ : ByteArray).size = s.length := by simp [ByteArray.size]
      rw [← hsz]
      generalize (⟨s.toArray⟩ : ByteArray) = bs
      simp [Builtin.len_, run_underlying hu.1, goInt]
    · rename_i el sh xs hd
      rw [hd] at hu
      cases h
      rw [val_sl] at hx
      obtain ⟨a, cap, rfl, _⟩ := hx
      refine ⟨_, ?_, val_int.2 rfl⟩
      simp [Builtin.len_, run_underlying hu.1, goInt]
    · rename_i el sh hd
      rw [hd] at hu
      cases h
      rw [val_nils] at hx
      subst hx
      refine ⟨_, ?_, val_int.2 rfl⟩
      simp [Builtin.len_, run_underlying hu.1, goInt]
    · rename_i el b k hd
      rw [hd] at hu
      cases h
      rw [val_own] at hx
      obtain ⟨a, c, n, rfl, _⟩ := hx
      refine ⟨_, ?_, val_int.2 rfl⟩
      simp [Builtin.len_, run_underlying hu.1, goInt]
    · rename_i n el hd
      rw [hd] at hu
      cases h
      refine ⟨_, ?_, val_int.2 rfl⟩
      simp [Builtin.len_, run_underlying hu.1, goInt]
    · cases h

/-! Cuts. -/
def ixD : Option AV → Int → Option Int
  | none, d => some d
  | some (.d (.int _ n)), _ => some n
  | _, _ => none

def sliceD (T : Tab) (ol : Nat → Option Ob) (t : TypeId) (x : AV) (lo hi : Option AV) : Option (AV × Prop) :=
  match lk T t with
  | none => none
  | some e => match e.td with
    | .str => match x with
      | .d (.str s) => match ixD lo 0, ixD hi s.length with
        | some l, some h => some (.d (.str ((s.take h.toNat).drop l.toNat)), 0 ≤ l ∧ l ≤ h ∧ h ≤ s.length)
        | _, _ => none
      | _ => none
    | .slice el => match lk T el with
      | some ee => match toD ol x with
        | some (.sl sh xs, p) => if Sh.same sh ee.sh then match ixD lo 0, ixD hi xs.length with
            | some l, some h => some (.d (.sl sh ((xs.take h.toNat).drop l.toNat)), p ∧ 0 ≤ l ∧ l ≤ h ∧ h ≤ xs.length)
            | _, _ => none
          else none
        | _ => none
      | none => none
    | _ => none

def OptV (G : Gh) (I : Nat → Prop) (w : World) : Option AV → Option Value → Prop
  | none, none => True
  | some x, some v => AV.val G I w x v
  | _, _ => False

theorem ixD_val {x : Option AV} {v : Option Value} {d n : Int} {G : Gh} (h : ixD x d = some n) (hv : OptV G I w x v) : (v = none ∧ n = d) ∨ ∃ k, v = some (.int k n) := by
  cases x with
  | none =>
    cases v with
    | none => simp only [ixD, Option.some.injEq] at h; exact .inl ⟨rfl, h.symm⟩
    | some v => exact hv.elim
  | some x =>
    cases v with
    | none => exact hv.elim
    | some v =>
      cases x <;> try (simp only [ixD] at h; cases h; done)
      rename_i x
      cases x <;> try (simp only [ixD] at h; cases h; done)
      simp only [ixD, Option.some.injEq] at h
      subst h
      simp only [OptV] at hv
      rw [val_int] at hv
      exact .inr ⟨_, by rw [hv]⟩

theorem run_sliceBounds (isSl : Bool) (len cap : Nat) {lo hi : Option AV} {lv hv : Option Value} {l h : Int} {G : Gh} (hl : ixD lo 0 = some l) (hh : ixD hi len = some h)
    (hlv : OptV G I w lo lv) (hhv : OptV G I w hi hv)
    (h0 : 0 ≤ l) (h1 : l ≤ h) (h2 : h ≤ len) (h3 : len ≤ cap) : (Instr.sliceBounds isSl len cap lv hv none).run C.P w = .ok (l.toNat, h.toNat, cap) w := by
  have c1 : 0 ≤ h ∧ h ≤ (cap : Int) := ⟨by omega, by omega⟩
  have c2 : 0 ≤ l ∧ l ≤ (h.toNat : Int) := ⟨by omega, by omega⟩
  rcases ixD_val hl hlv with ⟨rfl, e1⟩ | ⟨k1, rfl⟩ <;> rcases ixD_val hh hhv with ⟨rfl, e2⟩ | ⟨k2, rfl⟩
  · subst e1 e2; simp [Instr.sliceBounds]
  · subst e1; simp [Instr.sliceBounds, Instr.sliceBound, asIntOf, c1]
  · subst e2
    have c3 : 0 ≤ l ∧ l ≤ (len : Int) := ⟨h0, h1⟩
    simp [Instr.sliceBounds, Instr.sliceBound, asIntOf, c3]
  · simp only [Instr.sliceBounds, Instr.sliceBound, asIntOf, Sem.run_bind, Sem.run_pure, Result.andThen_ok, Sem.run_ite, c1, and_self, if_true]
    rw [if_pos c2]
    simp

theorem cellsL_drop {ok : Nat → Prop} (sh : Sh) : ∀ (n : Nat) (xs : List D) (cs : List Value), D.cellsL ok w sh xs cs → D.cellsL ok w sh (xs.drop n) (cs.drop (n * sh.size))
  | 0, xs, cs, h => by simpa using h
  | n + 1, [], cs, h => by simp only [D.cellsL] at h; subst h; simp [D.cellsL]
  | n + 1, x :: xs, cs, h => by
    simp only [D.cellsL] at h
    obtain ⟨c1, c2, rfl, hs, h1, h2⟩ := h
    have hl := D.cells_length x c1 h1
    rw [List.drop_succ_cons, Nat.add_mul, Nat.one_mul, Nat.add_comm, ← List.drop_drop, List.drop_left' (by rw [hl, hs])]
    exact cellsL_drop sh n xs c2 h2

theorem cellsL_take {ok : Nat → Prop} (sh : Sh) : ∀ (n : Nat) (xs : List D) (cs : List Value), D.cellsL ok w sh xs cs → D.cellsL ok w sh (xs.take n) (cs.take (n * sh.size))
  | 0, xs, cs, h => by simp [D.cellsL]
  | n + 1, [], cs, h => by simp only [D.cellsL] at h; subst h; simp [D.cellsL]
  | n + 1, x :: xs, cs, h => by
    simp only [D.cellsL] at h
    obtain ⟨c1, c2, rfl, hs, h1, h2⟩ := h
    have hl := D.cells_length x c1 h1
    have e : (c1 ++ c2).take ((n + 1) * sh.size) = c1 ++ c2.take (n * sh.size) := by
      rw [Nat.add_mul, Nat.one_mul, Nat.add_comm, ← hs, ← hl, List.take_length_add_append]
    rw [List.take_succ_cons, e]
    simp only [D.cellsL]
    exact ⟨c1, _, rfl, hs, h1, cellsL_take sh n xs c2 h2⟩

theorem run_sliceD (hm : Mem C E o m I w) {t : TypeId} {x r : AV} {lo hi : Option AV} {q : Prop} {v : Value} {lv hv : Option Value} (h : sliceD C.T o t x lo hi = some (r, q)) (hq : q)
    (hx : AV.val (gh o m) I w x v)
    (hlv : OptV (gh o m) I w lo lv) (hhv : OptV (gh o m) I w hi hv) :
    ∃ z, (Instr.sliceAt t v lv hv none).run C.P w = .ok z w ∧ AV.val (gh o m) I w r z := by
  unfold sliceD at h
  cases ht : lk C.T t with
  | none => rw [ht] at h; cases h
  | some e =>
    rw [ht] at h
    simp only at h
    have hu := (C.ok t e ht).und
    cases hd : e.td <;> rw [hd] at h hu <;> try (simp only at h; cases h; done)
    case str =>
      simp only at h
      cases x <;> try (simp only at h; cases h; done)
      rename_i x
      cases x <;> try (simp only at h; cases h; done)
      rename_i s
      simp only at h
      split at h
      · rename_i l hh hl hhh
        cases h
        rw [val_str] at hx
        subst hx
        have hsz : (⟨s.toArray⟩ : ByteArray).size = s.length := by simp [ByteArray.size]
        have hb := run_sliceBounds (C := C) (w := w) false s.length s.length hl hhh hlv hhv hq.1 hq.2.1 hq.2.2 (Nat.le_refl _)
        refine ⟨.string ((⟨s.toArray⟩ : ByteArray).extract l.toNat hh.toNat), ?_, val_str.2 ?_⟩
        · unfold Instr.sliceAt
          simp only [Sem.run_bind, run_underlying hu.1, Result.andThen_ok, Instr.slice, Option.isSome_none, Bool.false_eq_true, if_false, hsz, hb, Sem.run_pure, pure_bind]
        · congr 1
          apply ByteArray.ext
          apply Array.ext'
          simp only [ByteArray.data_extract, Array.toList_extract, List.extract_eq_drop_take, List.drop_take]
      · cases h
    case slice el =>
      obtain ⟨hu1, hu2, _⟩ := hu
      simp only at h
      cases he : lk C.T el with
      | none => rw [he] at h; cases h
      | some ee =>
        rw [he] at h
        simp only at h
        split at h
        · rename_i sh xs p hto
          split at h
          · rename_i hsame
            cases Sh.same_eq _ _ hsame
            split at h
            · rename_i l hh hl hhh
              cases h
              have hx' := toD_val hm hto hq.1 hx
              rw [val_sl] at hx'
              obtain ⟨a, cap, rfl, h1, h2, h3⟩ := hx'
              have hb := run_sliceBounds (C := C) (w := w) true xs.length cap hl hhh hlv hhv hq.2.1 hq.2.2.1 hq.2.2.2 h1
              obtain ⟨q0, q1, q2⟩ := hq.2
              have hlen : ((xs.take hh.toNat).drop l.toNat).length = hh.toNat - l.toNat := by simp; omega
              refine ⟨.slice (if cap = l.toNat then a else a.map (·.add (l.toNat * ee.sh.size))) (hh.toNat - l.toNat) (cap - l.toNat), ?_, ?_⟩
              · unfold Instr.sliceAt
                simp only [Sem.run_bind, run_underlying hu1, Result.andThen_ok, Instr.slice, hb, run_sizeOf' he, Sem.run_pure]
              · rw [val_sl]
                refine ⟨_, _, by rw [hlen], by omega, by omega, ?_⟩
                rcases h3 with h3 | ⟨b, off, vs, rfl, hbI, hv, hcs⟩
                · subst h3; exact .inl (by simp)
                · by_cases hz : hh.toNat - l.toNat = 0
                  · exact .inl (List.eq_nil_of_length_eq_zero (by omega))
                  · refine .inr ⟨b, off + l.toNat * ee.sh.size, _, ?_, hbI, ?_, cellsL_drop ee.sh l.toNat _ _ (cellsL_take ee.sh hh.toNat _ _ hcs)⟩
                    · rw [if_neg (by omega)]
                      simp [add_none]
                    · intro j v hj
                      rw [List.getElem?_drop, List.getElem?_take] at hj
                      split at hj
                      · rw [Nat.add_assoc]; exact hv _ v hj
                      · cases hj
            · cases h
          · cases h
        · cases h
end
end Go.Sep
