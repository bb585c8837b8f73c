/- Operations that only compute or read: addresses, loads, parts. -/
import Derived.Test.YtkchimbalpiilaaGreatSepD
import Derived.Laws.Slices
set_option linter.all false
set_option linter.deprecated false
namespace Go.Sep
open Go

theorem offP_append : ∀ (p q : List Nat) (s t : Sh) (k : Nat), Sh.offP p s = some (k, t) → Sh.offP (p ++ q) s = (Sh.offP q t).map (fun r => (k + r.1, r.2))
  | [], q, s, t, k, h => by
    simp only [Sh.offP, Option.some.injEq, Prod.mk.injEq] at h
    obtain ⟨rfl, rfl⟩ := h
    cases h : Sh.offP q s <;> simp [h]
  | i :: p, q, .cell, t, k, h => by simp only [Sh.offP] at h; cases h
  | i :: p, q, .node l, t, k, h => by
    simp only [Sh.offP] at h
    simp only [List.cons_append, Sh.offP]
    cases hl : l[i]? with
    | none => rw [hl] at h; cases h
    | some s =>
      rw [hl] at h
      simp only at h ⊢
      cases hp : Sh.offP p s with
      | none => rw [hp] at h; cases h
      | some r =>
        obtain ⟨k', t'⟩ := r
        rw [hp] at h
        simp only [Option.some.injEq, Prod.mk.injEq] at h
        obtain ⟨rfl, rfl⟩ := h
        rw [offP_append p q s t' k' hp]
        cases hq : Sh.offP q t' <;> simp [Nat.add_assoc]
  | i :: p, q, .arr n s, t, k, h => by
    simp only [Sh.offP] at h
    simp only [List.cons_append, Sh.offP]
    split at h
    · rename_i hi
      rw [if_pos hi]
      cases hp : Sh.offP p s with
      | none => rw [hp] at h; cases h
      | some r =>
        obtain ⟨k', t'⟩ := r
        rw [hp] at h
        simp only [Option.some.injEq, Prod.mk.injEq] at h
        obtain ⟨rfl, rfl⟩ := h
        rw [offP_append p q s t' k' hp]
        cases hq : Sh.offP q t' <;> simp [Nat.add_assoc]
    · cases h

/-- What the layer knows of one more result: for reads at a place that is not a numeral, the value is told. -/
inductive Oc where
  | no
  | is (y : AV)
  | el (y : D)
  | bt (b : UInt8)

section
variable {C : Cx} {E : En} {o : Nat → Option Ob} {m : Nat → Value} {I : Nat → Prop} {w : World}

/-! Fields' addresses. -/
def fieldAddrD (T : Tab) (ol : Nat → Option Ob) (s : TypeId) (x : AV) (f : Nat) : Option (AV × Prop) :=
  match lk T s with
  | none => none
  | some e => match e.sh with
    | .node l => match l[f]? with
      | none => none
      | some _ => match x with
        | .ref b p => match ol b with
          | some (.box c) => match Sh.offP p c.sh with
            | some (_, t) => if Sh.same t e.sh then some (.ref b (p ++ [f]), True) else none
            | none => none
          | _ => none
        | .rref b k i p => match ol b with
          | some (.row ty sh xs) => match Sh.offP p sh with
            | some (_, t) => if Sh.same t e.sh then some (.rref b k i (p ++ [f]), k = xs.length) else none
            | none => none
          | _ => none
        | .cp (.agg xs) => if Sh.same (.node (D.shs xs)) e.sh then match xs[f]? with
            | some y => some (.cp y, True)
            | none => none
          else none
        | _ => none
    | _ => none

theorem run_fieldAt {s f : Nat} {e : TE} {l : List Sh} {t : Sh} (hs : lk C.T s = some e) (hd : ∃ fs, e.td = .struct fs) (hl : e.sh = .node l) (hf : l[f]? = some t) (b k : Nat) :
    (Instr.fieldAt s (.pointer (some ⟨b, k, none⟩)) f).run C.P w = .ok (.pointer (some ⟨b, k + Sh.sizes (l.take f), none⟩)) w := by
  have hu := (C.ok s e hs).und
  obtain ⟨fs, hd⟩ := hd
  rw [hd] at hu
  obtain ⟨fields, h1, h2, l', h3, h4, h5⟩ := hu
  rw [hl] at h3
  cases h3
  have hlt : f < fields.size := by rw [h2, ← h4]; exact (List.getElem?_eq_some_iff.1 hf).1
  obtain ⟨_, ho, fe, hfe, hsh, hpos⟩ := h5 f fields[f] (by simp [hlt])
  have hne : ¬ fe.sh.size = 0 := by omega
  unfold Instr.fieldAt
  simp only [Sem.run_bind, run_underlying h1, Result.andThen_ok, Array.getElem?_eq_getElem hlt, Instr.sureAddr, Sem.run_pure, fieldPlace, run_sizeOf' hfe, hne, if_false, add_none, ho]

theorem node_struct {s : Nat} {e : TE} {l : List Sh} (hs : lk C.T s = some e) (hl : e.sh = .node l) : ∃ fs, e.td = .struct fs := by
  have hu := (C.ok s e hs).und
  cases htd : e.td <;> rw [htd] at hu
  case struct fs => exact ⟨fs, rfl⟩
  case int => rw [hl] at hu; cases hu.2
  case bool => rw [hl] at hu; cases hu.2
  case str => rw [hl] at hu; cases hu.2
  case ptr => rw [hl] at hu; cases hu.2
  case func => rw [hl] at hu; cases hu.2
  case slice => rw [hl] at hu; cases hu.2.1
  case arr => obtain ⟨_, ee, _, h2, _⟩ := hu; rw [hl] at h2; cases h2

theorem run_fieldAddrD (hm : Mem C E o m I w) {s f : Nat} {x r : AV} {q : Prop} {v : Value} (h : fieldAddrD C.T o s x f = some (r, q)) (hq : q) (hx : AV.val (gh o m) I w x v) :
    ∃ u, (Instr.fieldAt s v f).run C.P w = .ok u w ∧ AV.val (gh o m) I w r u := by
  unfold fieldAddrD at h
  cases hs : lk C.T s with
  | none => rw [hs] at h; cases h
  | some e =>
    rw [hs] at h
    simp only at h
    cases hl : e.sh with
    | cell => rw [hl] at h; cases h
    | arr n t => rw [hl] at h; cases h
    | node l =>
      rw [hl] at h
      simp only at h
      cases hf : l[f]? with
      | none => rw [hf] at h; cases h
      | some t =>
        rw [hf] at h
        simp only at h
        have hrun := fun b k => run_fieldAt (w := w) hs (node_struct hs hl) hl hf b k
        cases x <;> try (simp only at h; cases h; done)
        case ref b p =>
          simp only at h
          cases hb : o b with
          | none => rw [hb] at h; cases h
          | some ob =>
            rw [hb] at h
            cases ob <;> try (simp only at h; cases h; done)
            rename_i c
            simp only at h
            cases hp : Sh.offP p c.sh with
            | none => rw [hp] at h; cases h
            | some q =>
              obtain ⟨k, t'⟩ := q
              rw [hp] at h
              simp only at h
              split at h
              · rename_i hsame
                cases h
                rw [val_ref] at hx
                obtain ⟨blk, k', h1, h2, rfl⟩ := hx
                simp only [gh, hb, hp, Option.map_some, Option.some.injEq] at h2
                subst h2
                refine ⟨_, hrun blk k, val_ref.2 ⟨blk, _, h1, ?_, rfl⟩⟩
                cases Sh.same_eq _ _ hsame
                simp only [gh, hb, offP_append p [f] c.sh _ k hp, Sh.offP, hf, Nat.add_zero, Option.map_some]
              · cases h
        case rref b kk i p =>
          simp only at h
          cases hb : o b with
          | none => rw [hb] at h; cases h
          | some ob =>
            rw [hb] at h
            cases ob <;> try (simp only at h; cases h; done)
            rename_i ty sh xs
            simp only at h
            cases hp : Sh.offP p sh with
            | none => rw [hp] at h; cases h
            | some q =>
              obtain ⟨k, t'⟩ := q
              rw [hp] at h
              simp only at h
              split at h
              · rename_i hsame
                cases h
                rw [val_rref] at hx
                obtain ⟨⟨blk, k', sp⟩, n, rfl, h1, h2, h3⟩ := hx
                cases Sh.same_eq _ _ hsame
                have hn : n = xs.length := by simpa only [gh, hb, Option.some.injEq] using h1.symm
                obtain ⟨b', off, h4, h5, h6⟩ := h3 (by rw [hn]; exact hq)
                cases h6
                simp only [gh, hb, hp, Option.map_some, Option.some.injEq] at h5
                refine ⟨_, hrun blk k', val_rref.2 ⟨_, n, rfl, h1, h2, fun _ => ⟨blk, _, h4, ?_, rfl⟩⟩⟩
                have hoff : Sh.offP (p ++ [f]) sh = some (k + Sh.sizes (l.take f), t) := by
                  rw [offP_append p [f] sh _ k hp]
                  simp [Sh.offP, hf]
                simp only [gh, hb, hoff, Option.map_some]
                rw [← h5, Nat.add_assoc]
              · cases h
        case cp y =>
          cases y <;> try (simp only at h; cases h; done)
          rename_i xs
          simp only at h
          split at h
          · rename_i hsame
            cases hy : xs[f]? with
            | none => rw [hy] at h; cases h
            | some y =>
              rw [hy] at h
              cases h
              rw [val_cp] at hx
              obtain ⟨blk, k, vs, h1, rfl, h2, h3⟩ := hx
              simp only [D.cells] at h3
              obtain ⟨_, pre, c, post, rfl, hp, hc, _⟩ := D.cellsA_at xs f y vs hy h3
              cases Sh.same_eq _ _ hsame
              refine ⟨_, hrun blk k, val_cp.2 ⟨blk, _, c, h1, rfl, fun j v hj => ?_, hc⟩⟩
              rw [← hp, Nat.add_assoc]
              refine h2 (pre.length + j) v ?_
              rw [List.append_assoc, List.getElem?_append_right (by omega), List.getElem?_append_left (by have := (List.getElem?_eq_some_iff.1 hj).1; omega)]
              simpa using hj
          · cases h

/-! Elements' addresses. -/
def indexAddrD (T : Tab) (ol : Nat → Option Ob) (t : TypeId) (x : AV) (ix : AV) (oc : Oc) : Option (AV × Prop) :=
  match ix with
  | .d (.int _ n) => match lk T t with
    | none => none
    | some e => match e.td with
      | .slice el => match lk T el with
        | none => none
        | some ee => match x with
          | .d (.sl sh xs) => if Sh.same sh ee.sh then match oc with
              | .el y => some (.cp y, 0 ≤ n ∧ xs[n.toNat]? = some y)
              | _ => none
            else none
          | .own b k => match ol b with
            | some (.row ty sh xs) => if Sh.same sh ee.sh then some (.rref b k n.toNat [], 0 ≤ n ∧ n < k ∧ k = xs.length) else none
            | some (.frz ty sh xs) => if Sh.same sh ee.sh then some (.rref b k n.toNat [], 0 ≤ n ∧ n < k ∧ k = xs.length) else none
            | _ => none
          | _ => none
      | .arr cnt el => match x with
        | .ref b p => match ol b with
          | some (.box c) => match Sh.offP p c.sh with
            | some (_, u) => if Sh.same u e.sh then some (.ref b (p ++ [n.toNat]), 0 ≤ n ∧ n < cnt) else none
            | none => none
          | _ => none
        | .cp (.arr sh cnt' xs) => if Sh.same (.arr cnt' sh) e.sh then match oc with
            | .el y => some (.cp y, 0 ≤ n ∧ xs[n.toNat]? = some y)
            | _ => none
          else none
        | _ => none
      | _ => none
  | _ => none

theorem run_indexAt_sl {t el : Nat} {e ee : TE} (ht : lk C.T t = some e) (hd : e.td = .slice el) (he : lk C.T el = some ee) (b k len cap : Nat) (kd : IntKind) (n : Int) (h0 : 0 ≤ n) (h1 : n < len) :
    (Instr.indexAt t (.slice (some ⟨b, k, none⟩) len cap) (.int kd n)).run C.P w = .ok (.pointer (some ⟨b, k + n.toNat * ee.sh.size, none⟩)) w := by
  have hu := (C.ok t e ht).und
  rw [hd] at hu
  unfold Instr.indexAt
  simp only [Sem.run_bind, asIntOf, Sem.run_pure, Result.andThen_ok, run_underlying hu.1]
  rw [if_pos ⟨h0, h1⟩]
  simp [run_sizeOf' he, add_none]

theorem run_indexAt_arr {t cnt el : Nat} {e ee : TE} (ht : lk C.T t = some e) (hd : e.td = .arr cnt el) (he : lk C.T el = some ee) (b k : Nat) (kd : IntKind) (n : Int) (h0 : 0 ≤ n) (h1 : n < cnt) :
    (Instr.indexAt t (.pointer (some ⟨b, k, none⟩)) (.int kd n)).run C.P w = .ok (.pointer (some ⟨b, k + n.toNat * ee.sh.size, none⟩)) w := by
  have hu := (C.ok t e ht).und
  rw [hd] at hu
  unfold Instr.indexAt
  simp only [Sem.run_bind, asIntOf, Sem.run_pure, Result.andThen_ok, run_underlying hu.1, Instr.sureAddr]
  rw [if_pos ⟨h0, h1⟩]
  simp [run_sizeOf' he, add_none]

theorem nth_in_append {pre c post : List Value} {j : Nat} {v : Value} (hj : c[j]? = some v) : (pre ++ c ++ post)[pre.length + j]? = some v := by
  rw [List.append_assoc, List.getElem?_append_right (by omega), List.getElem?_append_left (by have := (List.getElem?_eq_some_iff.1 hj).1; omega)]
  simpa using hj

theorem run_indexAddrD (hm : Mem C E o m I w) {t : TypeId} {x ix r : AV} {oc : Oc} {q : Prop} {v u : Value} (h : indexAddrD C.T o t x ix oc = some (r, q)) (hq : q)
    (hx : AV.val (gh o m) I w x v) (hix : AV.val (gh o m) I w ix u) : ∃ z, (Instr.indexAt t v u).run C.P w = .ok z w ∧ AV.val (gh o m) I w r z := by
  unfold indexAddrD at h
  cases ix <;> try (simp only at h; cases h; done)
  rename_i ix
  cases ix <;> try (simp only at h; cases h; done)
  rename_i kd n
  rw [val_int] at hix
  subst hix
  simp only at h
  cases ht : lk C.T t with
  | none => rw [ht] at h; cases h
  | some e =>
    rw [ht] at h
    simp only at h
    cases hd : e.td <;> rw [hd] at h <;> try (simp only at h; cases h; done)
    case slice el =>
      simp only at h
      cases he : lk C.T el with
      | none => rw [he] at h; cases h
      | some ee =>
        rw [he] at h
        simp only at h
        cases x <;> try (simp only at h; cases h; done)
        case d x =>
          cases x <;> try (simp only at h; cases h; done)
          rename_i sh xs
          simp only at h
          split at h
          · rename_i hsame
            cases Sh.same_eq _ _ hsame
            cases oc <;> try (simp only at h; cases h; done)
            rename_i y
            cases h
            obtain ⟨h0, hy⟩ := hq
            rw [val_sl] at hx
            obtain ⟨a, cap, rfl, h1, h2, h3⟩ := hx
            have hlt := (List.getElem?_eq_some_iff.1 hy).1
            rcases h3 with h3 | ⟨b, off, vs, rfl, hb, hv, hl⟩
            · subst h3; simp at hy
            · obtain ⟨_, pre, c, post, rfl, hp, hc, _⟩ := D.cellsL_at ee.sh xs _ y vs hy hl
              refine ⟨_, run_indexAt_sl ht hd he b off xs.length cap kd n h0 (by omega), val_cp.2 ⟨b, _, c, hb, rfl, fun j v hj => ?_, hc⟩⟩
              rw [← hp, Nat.add_assoc]
              exact hv _ v (nth_in_append hj)
          · cases h
        case own b k =>
          have key : ∀ (ty : TypeId) (sh : Sh) (xs : List D), (o b = some (.row ty sh xs) ∨ o b = some (.frz ty sh xs)) → sh = ee.sh → r = .rref b k n.toNat [] → q = (0 ≤ n ∧ n < k ∧ k = xs.length) →
              ∃ z, (Instr.indexAt t v (.int kd n)).run C.P w = .ok z w ∧ AV.val (gh o m) I w r z := by
            rintro ty sh xs hb rfl rfl rfl
            obtain ⟨h0, h1, h2⟩ := hq
            rw [val_own] at hx
            obtain ⟨a, cap, nn, rfl, h3, h4, h5⟩ := hx
            have hnn : nn = xs.length := by
              rcases hb with hb | hb <;> (simp only [gh, hb, Option.some.injEq] at h3; exact h3.symm)
            have hval := h5 (by omega)
            have hown : ∃ vs, w.ownsRow 0 ty ee.sh.size (m b) xs.length vs := by
              rcases hb with hb | hb
              · obtain ⟨_, vs, h, _⟩ := hm.obj b _ hb; exact ⟨vs, h⟩
              · obtain ⟨_, ⟨vs, h, _⟩, _⟩ := hm.obj b _ hb; exact ⟨vs, h⟩
            obtain ⟨vs, hown⟩ := hown
            change Value.slice a k cap = m b at hval
            rcases hown.2 with ⟨hn, hz⟩ | ⟨g, cap', cur, hn, _⟩
            · omega
            · rw [hn] at hval
              cases hval
              refine ⟨_, run_indexAt_sl ht hd he g 0 _ _ kd n h0 h1, val_rref.2 ⟨_, nn, rfl, h3, h4, fun _ => ⟨g, _, ?_, ?_, rfl⟩⟩⟩
              · show Value.block? (m b) = some g
                rw [hn]
                rfl
              · rcases hb with hb | hb <;> simp [gh, hb, Sh.offP]
          simp only at h
          cases hb : o b with
          | none => rw [hb] at h; cases h
          | some ob =>
            rw [hb] at h
            cases ob <;> try (simp only at h; cases h; done)
            case row ty sh xs =>
              simp only at h
              split at h
              · rename_i hsame
                cases h
                exact key ty sh xs (.inl hb) (Sh.same_eq _ _ hsame) rfl rfl
              · cases h
            case frz ty sh xs =>
              simp only at h
              split at h
              · rename_i hsame
                cases h
                exact key ty sh xs (.inr hb) (Sh.same_eq _ _ hsame) rfl rfl
              · cases h
    case arr cnt el =>
      have hu := (C.ok t e ht).und
      rw [hd] at hu
      obtain ⟨hu1, ee, he, hesh, hpos, _⟩ := hu
      simp only at h
      cases x <;> try (simp only at h; cases h; done)
      case ref b p =>
        simp only at h
        cases hb : o b with
        | none => rw [hb] at h; cases h
        | some ob =>
          rw [hb] at h
          cases ob <;> try (simp only at h; cases h; done)
          rename_i c
          simp only at h
          cases hp : Sh.offP p c.sh with
          | none => rw [hp] at h; cases h
          | some qq =>
            obtain ⟨k, u⟩ := qq
            rw [hp] at h
            simp only at h
            split at h
            · rename_i hsame
              cases h
              obtain ⟨h0, h1⟩ := hq
              rw [val_ref] at hx
              obtain ⟨blk, k', h2, h3, rfl⟩ := hx
              simp only [gh, hb, hp, Option.map_some, Option.some.injEq] at h3
              subst h3
              refine ⟨_, run_indexAt_arr ht hd he blk k kd n h0 h1, val_ref.2 ⟨blk, _, h2, ?_, rfl⟩⟩
              cases Sh.same_eq _ _ hsame
              have hlt : n.toNat < cnt := by omega
              simp only [gh, hb, offP_append p [n.toNat] c.sh _ k hp, hesh, Sh.offP, hlt, if_true, Option.map_some, Nat.add_zero]
            · cases h
      case cp y =>
        cases y <;> try (simp only at h; cases h; done)
        rename_i sh cnt' xs
        simp only at h
        split at h
        · rename_i hsame
          have hsh := Sh.same_eq _ _ hsame
          rw [hesh] at hsh
          cases hsh
          cases oc <;> try (simp only at h; cases h; done)
          rename_i y
          cases h
          obtain ⟨h0, hy⟩ := hq
          rw [val_cp] at hx
          obtain ⟨b, k, vs, hb, rfl, hv, hc⟩ := hx
          simp only [D.cells] at hc
          obtain ⟨hlen, hc⟩ := hc
          have hlt := (List.getElem?_eq_some_iff.1 hy).1
          obtain ⟨_, pre, c, post, rfl, hp, hc, _⟩ := D.cellsL_at ee.sh xs _ y vs hy hc
          refine ⟨_, run_indexAt_arr ht hd he b k kd n h0 (by omega), val_cp.2 ⟨b, _, c, hb, rfl, fun j v hj => ?_, hc⟩⟩
          rw [← hp, Nat.add_assoc]
          exact hv _ v (nth_in_append hj)
        · cases h

/-! Loads. -/
def rowGet (e : TE) (oc : Oc) (p : List Nat) (k i : Nat) (xs : List D) : Option (AV × Prop) :=
  match oc with
  | .el z => match AV.get p (.d z) with
    | some y => if Sh.same y.sh e.sh && y.one then some (y, k = xs.length ∧ xs[i]? = some z) else none
    | none => none
  | _ => none

def loadD (T : Tab) (ol : Nat → Option Ob) (t : TypeId) (x : AV) (oc : Oc) : Option (AV × Prop) :=
  match lk T t with
  | none => none
  | some e => match x with
    | .ref b p => match ol b with
      | some (.box c) => match oc with
        | .is y => if Sh.same y.sh e.sh && y.one then some (y, AV.get p c = some y) else none
        | _ => match AV.get p c with
          | some y => if Sh.same y.sh e.sh && y.one then some (y, True) else none
          | none => none
      | _ => none
    | .rref b k i p => match ol b with
      | some (.row _ _ xs) => rowGet e oc p k i xs
      | some (.frz _ _ xs) => rowGet e oc p k i xs
      | _ => none
    | .cp y => if Sh.same y.sh e.sh then some (.d y, True) else none
    | _ => none

theorem run_loadBox (hm : Mem C E o m I w) {t b : Nat} {e : TE} {p : List Nat} {c y : AV} {v : Value} (ht : lk C.T t = some e) (hb : o b = some (.box c)) (hg : AV.get p c = some y) (hs : y.sh = e.sh)
    (hx : AV.val (gh o m) I w (.ref b p) v) : ∃ z, (Instr.loadAt t v).run C.P w = .ok z w ∧ AV.val (gh o m) I w y z := by
  rw [val_ref] at hx
  obtain ⟨blk, k, h1, h2, rfl⟩ := hx
  obtain ⟨b', cs, tt, hmb, hheap, hcs⟩ := hm.obj b _ hb
  change Value.block? (m b) = some blk at h1
  rw [hmb] at h1
  cases h1
  obtain ⟨pre, cy, post, hcs', ho, hy, _⟩ := AV.get_at p hg hcs
  simp only [gh, hb, ho, Option.map_some, Option.some.injEq] at h2
  subst h2
  refine ⟨vOf e.sh cy, ?_, hs ▸ val_of_cells hy⟩
  unfold Instr.loadAt
  simp only [Instr.sureAddr, pure_bind]
  refine run_loadVar' ht (by rw [← hs]; exact AV.cells_length y cy hy) (fun j v hj => ?_)
  rw [cell_of_row w _ _ cs tt _ hheap, ← Array.getElem?_toList, hcs']
  exact nth_in_append hj

theorem run_loadRow (hm : Mem C E o m I w) {t b k i : Nat} {e : TE} {p : List Nat} {ty : TypeId} {sh : Sh} {xs : List D} {z : D} {y : AV} {v : Value} (ht : lk C.T t = some e)
    (hb : o b = some (.row ty sh xs) ∨ o b = some (.frz ty sh xs)) (hk : k = xs.length) (hz : xs[i]? = some z) (hg : AV.get p (.d z) = some y) (hs : y.sh = e.sh)
    (hx : AV.val (gh o m) I w (.rref b k i p) v) : ∃ u, (Instr.loadAt t v).run C.P w = .ok u w ∧ AV.val (gh o m) I w y u := by
  rw [val_rref] at hx
  obtain ⟨a, n, rfl, h1, h2, h3⟩ := hx
  have hn : n = xs.length := by rcases hb with hb | hb <;> (simp only [gh, hb, Option.some.injEq] at h1; exact h1.symm)
  obtain ⟨blk, off, h4, h5, rfl⟩ := h3 (by omega)
  have hown : ∃ vs, w.ownsRow 0 ty sh.size (m b) xs.length vs ∧ D.cellsL I w sh xs vs := by
    rcases hb with hb | hb
    · obtain ⟨_, vs, h, h'⟩ := hm.obj b _ hb; exact ⟨vs, h, h'⟩
    · obtain ⟨_, ⟨vs, h, h'⟩, _⟩ := hm.obj b _ hb; exact ⟨vs, h, h'⟩
  obtain ⟨vs, hown, hcs⟩ := hown
  change Value.block? (m b) = some blk at h4
  rcases hown.2 with ⟨hn', _⟩ | ⟨g, cap', cur, hn', _, hheap, _, _, _, htake⟩
  · rw [hn'] at h4; cases h4
  · rw [hn'] at h4
    cases h4
    obtain ⟨hzs, pre, cz, post, rfl, hp, hcz, _⟩ := D.cellsL_at sh xs i z vs hz hcs
    have hcz' : AV.cells (gh o m) I w (.d z) cz := by simpa only [AV.cells] using hcz
    obtain ⟨pre2, cy, post2, rfl, ho, hy, _⟩ := AV.get_at p hg hcz'
    have hoff : off = i * sh.size + pre2.length := by
      simp only [AV.sh, hzs] at ho
      rcases hb with hb | hb <;> (simp only [gh, hb, ho, Option.map_some, Option.some.injEq] at h5; exact h5.symm)
    refine ⟨vOf e.sh cy, ?_, hs ▸ val_of_cells hy⟩
    unfold Instr.loadAt
    simp only [Instr.sureAddr, pure_bind]
    refine run_loadVar' ht (by rw [← hs]; exact AV.cells_length y cy hy) (fun j v hj => ?_)
    rw [cell_of_row w _ _ cur ty _ hheap, ← Array.getElem?_toList]
    have h6 : (pre ++ (pre2 ++ cy ++ post2) ++ post)[pre.length + (pre2.length + j)]? = some v := nth_in_append (nth_in_append hj)
    rw [← htake, List.getElem?_take] at h6
    split at h6
    · rw [← h6, hoff, hp, Nat.add_assoc]
    · cases h6

theorem run_loadCp {t : Nat} {e : TE} {y : D} {v : Value} (ht : lk C.T t = some e) (hs : y.sh = e.sh)
    (hx : AV.val (gh o m) I w (.cp y) v) : ∃ u, (Instr.loadAt t v).run C.P w = .ok u w ∧ AV.val (gh o m) I w (.d y) u := by
  rw [val_cp] at hx
  obtain ⟨b, k, vs, hb, rfl, hv, hc⟩ := hx
  have hc' : AV.cells (gh o m) I w (.d y) vs := by simpa only [AV.cells] using hc
  refine ⟨vOf e.sh vs, ?_, hs ▸ val_of_cells hc'⟩
  unfold Instr.loadAt
  simp only [Instr.sureAddr, pure_bind]
  exact run_loadVar' ht (by rw [← hs]; exact D.cells_length y vs hc) hv

theorem run_loadD (hm : Mem C E o m I w) {t : TypeId} {x r : AV} {oc : Oc} {q : Prop} {v : Value} (h : loadD C.T o t x oc = some (r, q)) (hq : q)
    (hx : AV.val (gh o m) I w x v) : ∃ z, (Instr.loadAt t v).run C.P w = .ok z w ∧ AV.val (gh o m) I w r z := by
  unfold loadD at h
  cases ht : lk C.T t with
  | none => rw [ht] at h; cases h
  | some e =>
    rw [ht] at h
    simp only at h
    cases x <;> try (simp only at h; cases h; done)
    case ref b p =>
      simp only at h
      cases hb : o b with
      | none => rw [hb] at h; cases h
      | some ob =>
        rw [hb] at h
        cases ob <;> try (simp only at h; cases h; done)
        rename_i c
        simp only at h
        have dflt : (match AV.get p c with
            | some y => if Sh.same y.sh e.sh && y.one then some (y, True) else none
            | none => none) = some (r, q) → ∃ z, (Instr.loadAt t v).run C.P w = .ok z w ∧ AV.val (gh o m) I w r z := by
          intro h
          split at h
          · rename_i y hy
            split at h
            · rename_i hc
              simp only [Bool.and_eq_true] at hc
              cases h
              exact run_loadBox hm ht hb hy (Sh.same_eq _ _ hc.1) hx
            · cases h
          · cases h
        cases oc with
        | is y =>
          simp only at h
          split at h
          · rename_i hc
            simp only [Bool.and_eq_true] at hc
            cases h
            exact run_loadBox hm ht hb hq (Sh.same_eq _ _ hc.1) hx
          · cases h
        | no => exact dflt h
        | el y => exact dflt h
        | bt y => exact dflt h
    case rref b k i p =>
      have key : ∀ (ty : TypeId) (sh : Sh) (xs : List D), (o b = some (.row ty sh xs) ∨ o b = some (.frz ty sh xs)) →
          rowGet e oc p k i xs = some (r, q) → ∃ z, (Instr.loadAt t v).run C.P w = .ok z w ∧ AV.val (gh o m) I w r z := by
        intro ty sh xs hb h
        unfold rowGet at h
        cases oc <;> try (simp only at h; cases h; done)
        rename_i z
        simp only at h
        split at h
        · rename_i y hy
          split at h
          · rename_i hc
            simp only [Bool.and_eq_true] at hc
            cases h
            exact run_loadRow hm ht hb hq.1 hq.2 hy (Sh.same_eq _ _ hc.1) hx
          · cases h
        · cases h
      simp only at h
      cases hb : o b with
      | none => rw [hb] at h; cases h
      | some ob =>
        rw [hb] at h
        cases ob <;> try (simp only at h; cases h; done)
        case row ty sh xs => exact key ty sh xs (.inl hb) h
        case frz ty sh xs => exact key ty sh xs (.inr hb) h
    case cp y =>
      simp only at h
      split at h
      · rename_i hsame
        cases h
        exact run_loadCp ht (Sh.same_eq _ _ hsame) hx
      · cases h
end
end Go.Sep
