/- What is to be shown for an operation, kept short: what is plainly true is left out. -/
import Derived.Test.YtkchimbalpiilaaGreatSepL
import Derived.Orders
set_option linter.all false
set_option linter.deprecated false
namespace Go.Sep
open Go

def All : List Prop → Prop
  | [] => True
  | p :: l => p ∧ All l

theorem all_app : ∀ (a b : List Prop), All (a ++ b) → All a ∧ All b
  | [], _, h => ⟨trivial, h⟩
  | _ :: a, b, h => ⟨⟨h.1, (all_app a b h.2).1⟩, (all_app a b h.2).2⟩

mutual
def toPs (ol : Nat → Option Ob) : AV → List Prop
  | .own b k => match ol b with
    | some (.frz _ _ xs) => [k = xs.length]
    | _ => []
  | .agg xs => toPss ol xs
  | _ => []
def toPss (ol : Nat → Option Ob) : List AV → List Prop
  | [] => []
  | x :: xs => toPs ol x ++ toPss ol xs
end

mutual
theorem toPs_ok {ol : Nat → Option Ob} : ∀ (x : AV) (y : D) (p : Prop), toD ol x = some (y, p) → All (toPs ol x) → p
  | .d _, y, p, h, _ => by simp only [toD, Option.some.injEq, Prod.mk.injEq] at h; exact h.2 ▸ trivial
  | .nils _, y, p, h, _ => by simp only [toD, Option.some.injEq, Prod.mk.injEq] at h; exact h.2 ▸ trivial
  | .own b k, y, p, h, ha => by
    simp only [toD] at h
    simp only [toPs] at ha
    split at h
    · rename_i hb
      rw [hb] at ha
      simp only [Option.some.injEq, Prod.mk.injEq] at h
      obtain ⟨_, rfl⟩ := h
      exact ha.1
    · cases h
  | .agg xs, y, p, h, ha => by
    simp only [toD] at h
    simp only [toPs] at ha
    split at h
    · rename_i ys q hq
      simp only [Option.some.injEq, Prod.mk.injEq] at h
      obtain ⟨_, rfl⟩ := h
      exact toPss_ok xs ys _ hq ha
    · cases h
  | .any, y, p, h, _ => by simp only [toD] at h; cases h
  | .tup _, y, p, h, _ => by simp only [toD] at h; cases h
  | .ref _ _, y, p, h, _ => by simp only [toD] at h; cases h
  | .cp _, y, p, h, _ => by simp only [toD] at h; cases h
  | .rref _ _ _ _, y, p, h, _ => by simp only [toD] at h; cases h
  | .fn _ _, y, p, h, _ => by simp only [toD] at h; cases h
  | .yd _, y, p, h, _ => by simp only [toD] at h; cases h
theorem toPss_ok {ol : Nat → Option Ob} : ∀ (xs : List AV) (ys : List D) (p : Prop), toDs ol xs = some (ys, p) → All (toPss ol xs) → p
  | [], ys, p, h, _ => by simp only [toDs, Option.some.injEq, Prod.mk.injEq] at h; exact h.2 ▸ trivial
  | x :: xs, ys, p, h, ha => by
    simp only [toDs] at h
    simp only [toPss] at ha
    obtain ⟨h1, h2⟩ := all_app _ _ ha
    split at h
    · cases h
    · rename_i y q hq
      split at h
      · cases h
      · rename_i ys' q' hq'
        simp only [Option.some.injEq, Prod.mk.injEq] at h
        obtain ⟨_, rfl⟩ := h
        exact ⟨toPs_ok x y _ hq h1, toPss_ok xs ys' _ hq' h2⟩
end

mutual
def convPs (ol : Nat → Option Ob) (ids : List Nat) : AV → List Prop
  | .own b k => match posIn ids b with
    | some _ => []
    | none => match ol b with
      | some (.row _ _ xs) => [k = xs.length]
      | some (.frz _ _ xs) => [k = xs.length]
      | _ => []
  | .agg xs => convPss ol ids xs
  | .fn _ xs => convPss ol ids xs
  | _ => []
def convPss (ol : Nat → Option Ob) (ids : List Nat) : List AV → List Prop
  | [] => []
  | x :: xs => convPs ol ids x ++ convPss ol ids xs
end

mutual
theorem convPs_ok {ol : Nat → Option Ob} {ids : List Nat} : ∀ (x y : AV) (p : Prop), conv ol ids x = some (y, p) → All (convPs ol ids x) → p
  | .d _, y, p, h, _ => by simp only [conv, Option.some.injEq, Prod.mk.injEq] at h; exact h.2 ▸ trivial
  | .nils _, y, p, h, _ => by simp only [conv, Option.some.injEq, Prod.mk.injEq] at h; exact h.2 ▸ trivial
  | .cp _, y, p, h, _ => by simp only [conv, Option.some.injEq, Prod.mk.injEq] at h; exact h.2 ▸ trivial
  | .ref b q, y, p, h, _ => by
    simp only [conv] at h
    split at h
    · simp only [Option.some.injEq, Prod.mk.injEq] at h; exact h.2 ▸ trivial
    · cases h
  | .own b k, y, p, h, ha => by
    simp only [conv] at h
    simp only [convPs] at ha
    split at h
    · simp only [Option.some.injEq, Prod.mk.injEq] at h; exact h.2 ▸ trivial
    · rename_i hb
      rw [hb] at ha
      simp only at ha
      split at h
      · rename_i ho
        rw [ho] at ha
        simp only [Option.some.injEq, Prod.mk.injEq] at h
        exact h.2 ▸ ha.1
      · rename_i ho
        rw [ho] at ha
        simp only [Option.some.injEq, Prod.mk.injEq] at h
        exact h.2 ▸ ha.1
      · cases h
  | .agg xs, y, p, h, ha => by
    simp only [conv] at h
    simp only [convPs] at ha
    split at h
    · rename_i ys q hq
      simp only [Option.some.injEq, Prod.mk.injEq] at h
      obtain ⟨_, rfl⟩ := h
      exact convPss_ok xs ys _ hq ha
    · cases h
  | .fn f xs, y, p, h, ha => by
    simp only [conv] at h
    simp only [convPs] at ha
    split at h
    · rename_i ys q hq
      simp only [Option.some.injEq, Prod.mk.injEq] at h
      obtain ⟨_, rfl⟩ := h
      exact convPss_ok xs ys _ hq ha
    · cases h
  | .yd b, y, p, h, _ => by
    simp only [conv] at h
    split at h
    · simp only [Option.some.injEq, Prod.mk.injEq] at h; exact h.2 ▸ trivial
    · cases h
  | .any, y, p, h, _ => by simp only [conv] at h; cases h
  | .tup _, y, p, h, _ => by simp only [conv] at h; cases h
  | .rref _ _ _ _, y, p, h, _ => by simp only [conv] at h; cases h
theorem convPss_ok {ol : Nat → Option Ob} {ids : List Nat} : ∀ (xs ys : List AV) (p : Prop), convs ol ids xs = some (ys, p) → All (convPss ol ids xs) → p
  | [], ys, p, h, _ => by simp only [convs, Option.some.injEq, Prod.mk.injEq] at h; exact h.2 ▸ trivial
  | x :: xs, ys, p, h, ha => by
    simp only [convs] at h
    simp only [convPss] at ha
    obtain ⟨h1, h2⟩ := all_app _ _ ha
    split at h
    · cases h
    · rename_i y q hq
      split at h
      · cases h
      · rename_i ys' q' hq'
        simp only [Option.some.injEq, Prod.mk.injEq] at h
        obtain ⟨_, rfl⟩ := h
        exact ⟨convPs_ok x y _ hq h1, convPss_ok xs ys' _ hq' h2⟩
end

def convAPs (ol : Nat → Option Ob) (ids : List Nat) : List AV → List Prop
  | [] => []
  | x :: xs => convPs ol ids x ++ convAPs ol ids xs

theorem convAPs_ok {ol : Nat → Option Ob} {ids : List Nat} : ∀ (xs ys : List AV) (p : Prop), convA ol ids xs = some (ys, p) → All (convAPs ol ids xs) → p
  | [], ys, p, h, _ => by simp only [convA, Option.some.injEq, Prod.mk.injEq] at h; exact h.2 ▸ trivial
  | x :: xs, ys, p, h, ha => by
    simp only [convA] at h
    simp only [convAPs] at ha
    obtain ⟨h1, h2⟩ := all_app _ _ ha
    split at h
    · cases h
    · rename_i ys' q' hys
      have hq := convAPs_ok xs ys' q' hys h2
      split at h
      · simp only [Option.some.injEq, Prod.mk.injEq] at h
        exact h.2 ▸ hq
      · split at h
        · cases h
        · split at h
          · cases h
          · rename_i y q hy
            simp only [Option.some.injEq, Prod.mk.injEq] at h
            obtain ⟨_, rfl⟩ := h
            exact ⟨convPs_ok x y _ hy h1, hq⟩

def convObPs (ol : Nat → Option Ob) (ids : List Nat) : Ob → List Prop
  | .box c => convPs ol ids c
  | .raw _ sl => convAPs ol ids sl
  | _ => []

def convObsPs (ol : Nat → Option Ob) (ids : List Nat) : List Nat → List Prop
  | [] => []
  | b :: l => match ol b with
    | none => []
    | some c => convObPs ol ids c ++ convObsPs ol ids l

theorem convObsPs_ok {ol : Nat → Option Ob} {ids : List Nat} : ∀ (l : List Nat) (cs : List Ob) (p : Prop), convObs ol ids l = some (cs, p) → All (convObsPs ol ids l) → p
  | [], cs, p, h, _ => by simp only [convObs, Option.some.injEq, Prod.mk.injEq] at h; exact h.2 ▸ trivial
  | b :: l, cs, p, h, ha => by
    simp only [convObs] at h
    simp only [convObsPs] at ha
    split at h
    · cases h
    · rename_i c hc
      rw [hc] at ha
      obtain ⟨h1, h2⟩ := all_app _ _ ha
      split at h
      · cases h
      · rename_i c' q hq
        split at h
        · cases h
        · rename_i cs' q' hq'
          simp only [Option.some.injEq, Prod.mk.injEq] at h
          obtain ⟨_, rfl⟩ := h
          refine ⟨?_, convObsPs_ok l cs' _ hq' h2⟩
          cases c with
          | box c =>
            simp only [convOb] at hq
            split at hq
            · cases hq
            · split at hq
              · rename_i y r hr
                simp only [Option.some.injEq, Prod.mk.injEq] at hq
                obtain ⟨_, rfl⟩ := hq
                exact convPs_ok c y _ hr h1
              · cases hq
          | raw mk sl =>
            simp only [convOb] at hq
            split at hq
            · rename_i y r hr
              simp only [Option.some.injEq, Prod.mk.injEq] at hq
              obtain ⟨_, rfl⟩ := hq
              exact convAPs_ok sl y _ hr h1
            · cases hq
          | row => simp only [convOb, Option.some.injEq, Prod.mk.injEq] at hq; exact hq.2 ▸ trivial
          | frz => simp only [convOb, Option.some.injEq, Prod.mk.injEq] at hq; exact hq.2 ▸ trivial

/-- Operators that never ask for anything. -/
def freely : BinOp → D → Bool
  | _, .agg _ => false
  | .add, .str _ => false
  | .quo, _ => false
  | .rem, _ => false
  | .shl, _ => false
  | .shr, _ => false
  | _, _ => true

theorem freely_ok {op : BinOp} {x y d : D} {p : Prop} (h : binD op x y = some (d, p)) (hf : freely op x = true) : p := by
  unfold binD at h
  split at h
  · rename_i k a l b
    cases op <;> simp only [freely] at hf <;> first | (cases hf; done) | skip
    all_goals
      simp only [shiftD] at h
      split at h
      · simp only [intD] at h
        first
          | (cases h; done)
          | (simp only [Option.some.injEq, Prod.mk.injEq] at h; exact h.2 ▸ trivial)
      · cases h
  · cases op <;> simp only [boolD] at h <;> first | (cases h; done) | (simp only [Option.some.injEq, Prod.mk.injEq] at h; exact h.2 ▸ trivial)
  · cases op <;> simp only [freely] at hf <;> simp only [strD] at h <;> first | (cases hf; done) | (cases h; done) | (simp only [Option.some.injEq, Prod.mk.injEq] at h; exact h.2 ▸ trivial)
  · cases h

/-- What is to be shown. -/
def sideL (C : Cx) (look : Nat → AV) (ol : Nat → Option Ob) (o : Oper) (h : Hint) (p : Prop) : List Prop :=
  match o.op with
  | .move _ => []
  | .assign _ => []
  | .pick _ _ _ => []
  | .box _ _ => []
  | .alloc _ => []
  | .build _ _ => []
  | .buildSlice t _ parts => match evP C look (partTy C.T t) parts.toList with
    | some l => toPss ol (l.map (·.2))
    | none => [p]
  | .load _ x => match evA C look 0 x, h with
    | some (.ref _ _), .v .no => []
    | some (.cp _), _ => []
    | _, _ => [p]
  | .store _ x _ => match evA C look 0 x, h with
    | some (.ref _ _), .v .no => []
    | _, _ => [p]
  | .nilCheck _ => []
  | .binOp op t x _ _ => match evA C look t x with
    | some (.d d) => if freely op d then [] else [p]
    | _ => [p]
  | .unOp _ _ _ => []
  | .convert _ _ _ => []
  | .makeFunc _ _ _ => []
  | .fieldAddr _ x _ => match evA C look 0 x with
    | some (.ref _ _) => []
    | some (.cp _) => []
    | _ => [p]
  | .field _ _ _ => []
  | .extract _ _ => []
  | .call c => match c.callee with
    | .builtin .len => []
    | .value f => match evA C look 0 f, h with
      | some (.yd b), .call r os' ids _ => match evL C look c.args.toList c.argTypes.toList with
        | some args => match convObs ol ids ids, convs ol ids args, posIn ids b with
          | some (os, _), some (cargs, _), some j => convObsPs ol ids ids ++ (convPss ol ids args ++ (YD C j cargs os r os' :: match seens' ol ids args with
            | true => [r.plain = true ∧ allPlain os' = true]
            | false => []))
          | _, _, _ => [p]
        | none => [p]
      | some (.fn k caps),   .call r os' ids _ => match evL C look c.args.toList c.argTypes.toList with
        | some args => match convObs ol ids ids, convs ol ids (args ++ caps) with
          | some (os, _), some (cargs, _) => convObsPs ol ids ids ++ (convPss ol ids (args ++ caps) ++ (FnD C k cargs os r os' :: match seens' ol ids (args ++ caps) with
            | true => [r.plain = true ∧ allPlain os' = true]
            | false => []))
          | _, _ => [p]
        | none => [p]
      | _, _ => [p]
    | _ => [p]
  | _ => [p]

theorem res1 {r : Option AV} {x : AV} {ow : List (Nat × Ob)} {p : Prop} (h : val1 r = some (x, ow, p)) : p := (res_val1 h).2.2 ▸ trivial

theorem sideL_ok {C : Cx} {look : Nat → AV} {ol : Nat → Option Ob} {o : Oper} {h : Hint} {x : AV} {ow : List (Nat × Ob)} {p : Prop}
    (hs : stepOp C look ol o h = some (x, ow, p)) (ha : All (sideL C look ol o h p)) : p := by
  unfold stepOp at hs
  unfold sideL at ha
  cases hop : o.op <;> rw [hop] at hs ha <;> try (first | (exact ha.1) | (exact res1 hs))
  case pick c a b =>
    simp only at hs
    split at hs
    · exact res1 hs
    · exact res1 hs
    · cases hs
  case box t y =>
    simp only at hs
    split at hs
    · split at hs
      · simp only [Option.some.injEq, Prod.mk.injEq] at hs; exact hs.2.2 ▸ trivial
      · cases hs
    · cases hs
  case alloc t =>
    simp only at hs
    split at hs
    · simp only [Option.some.injEq, Prod.mk.injEq] at hs; exact hs.2.2 ▸ trivial
    · cases hs
  case build t parts =>
    simp only at hs
    split at hs
    · exact res1 hs
    · cases hs
  case buildSlice t n parts =>
    simp only at hs ha
    split at hs
    · rename_i l hl
      rw [hl] at ha
      simp only at ha
      split at hs
      · rename_i el sh ys q hlit
        have hpq : p = q := by
          split at hs
          · simp only [Option.some.injEq, Prod.mk.injEq] at hs; exact hs.2.2.symm
          · simp only [Option.some.injEq, Prod.mk.injEq] at hs; exact hs.2.2.symm
        subst hpq
        unfold litD at hlit
        split at hlit
        · cases hlit
        · split at hlit
          · split at hlit
            · cases hlit
            · split at hlit
              · cases hlit
              · rename_i hto
                split at hlit
                · simp only [Option.some.injEq, Prod.mk.injEq] at hlit
                  obtain ⟨_, _, _, rfl⟩ := hlit
                  exact toPss_ok _ _ _ hto ha
                · cases hlit
          · cases hlit
      · cases hs
    · cases hs
  case load t y =>
    simp only at hs ha
    split at hs
    · rename_i z hz
      obtain ⟨h1, _⟩ := res_valP hs
      rw [hz] at ha
      unfold loadD at h1
      split at h1
      · cases h1
      · split at h1
        · split at h1
          · cases h with
            | v c =>
              cases c <;> try exact ha.1
              simp only [ocOf] at h1
              split at h1
              · split at h1
                · simp only [Option.some.injEq, Prod.mk.injEq] at h1; exact h1.2 ▸ trivial
                · cases h1
              · cases h1
            | row => exact ha.1
            | call => exact ha.1
          · cases h1
        · exact ha.1
        · split at h1
          · simp only [Option.some.injEq, Prod.mk.injEq] at h1; exact h1.2 ▸ trivial
          · cases h1
        · cases h1
    · cases hs
  case store t y z =>
    simp only at hs ha
    split at hs
    · rename_i y' z' hy hz
      rw [hy] at ha
      split at hs
      · rename_i ow' q h1
        simp only [Option.some.injEq, Prod.mk.injEq] at hs
        obtain ⟨_, _, rfl⟩ := hs
        unfold storeD at h1
        split at h1
        · cases h1
        · split at h1
          · split at h1
            · cases h with
              | v c =>
                cases c <;> try exact ha.1
                simp only [ocOf] at h1
                split at h1
                · split at h1
                  · split at h1
                    · split at h1
                      · split at h1
                        · simp only [Option.some.injEq, Prod.mk.injEq] at h1; exact h1.2 ▸ trivial
                        · cases h1
                      · cases h1
                    · cases h1
                  · cases h1
                · cases h1
              | row => exact ha.1
              | call => exact ha.1
            · exact ha.1
            · cases h1
          · cases h1
      · cases hs
    · cases hs
  case nilCheck y =>
    simp only at hs
    split at hs <;> first | (cases hs; done) | (simp only [Option.some.injEq, Prod.mk.injEq] at hs; exact hs.2.2 ▸ trivial)
  case binOp op t y z u =>
    simp only at hs ha
    split at hs
    · rename_i x' y' hy hz
      rw [hy] at ha
      simp only at ha
      exact ha.1
    · rename_i x' y' _ hy hz
      rw [hy] at ha
      simp only at ha
      split at ha
      · rename_i hf
        split at hs
        · split at hs
          · split at hs
            · rename_i hb
              simp only [Option.some.injEq, Prod.mk.injEq] at hs
              exact hs.2.2 ▸ freely_ok hb hf
            · cases hs
          · cases hs
          · split at hs
            · rename_i hb
              simp only [Option.some.injEq, Prod.mk.injEq] at hs
              exact hs.2.2 ▸ freely_ok hb hf
            · cases hs
        · cases hs
      · exact ha.1
    · cases hs
  case unOp op t y =>
    simp only at hs
    split at hs
    · exact res1 hs
    · cases hs
  case convert s d y =>
    simp only at hs
    split at hs
    · exact res1 hs
    · cases hs
  case makeFunc fn first caps =>
    cases fn <;> simp only at hs <;> first | (cases hs; done) | skip
    split at hs
    · split at hs
      · split at hs
        · simp only [Option.some.injEq, Prod.mk.injEq] at hs; exact hs.2.2 ▸ trivial
        · cases hs
      · cases hs
    · cases hs
  case fieldAddr s y f =>
    simp only at hs ha
    split at hs
    · rename_i z hz
      obtain ⟨h1, _⟩ := res_valP hs
      rw [hz] at ha
      cases z <;> try exact ha.1
      all_goals
        unfold fieldAddrD at h1
        repeat' first
          | (cases h1; done)
          | contradiction
          | (simp only [Option.some.injEq, Prod.mk.injEq] at h1; exact h1.2 ▸ trivial)
          | split at h1
    · cases hs
  case field t y f =>
    simp only at hs
    split at hs
    · exact res1 hs
    · cases hs
  case extract t i =>
    simp only at hs
    split at hs
    · exact res1 hs
    · cases hs
  case call c =>
    obtain ⟨callee, args, argTypes⟩ := c
    simp only at hs ha
    cases callee with
    | invoke r n => simp only at hs; cases hs
    | builtin b =>
      cases b <;> try (first | exact ha.1 | (simp only at hs; cases hs; done))
      simp only at hs
      split at hs
      · split at hs
        · exact res1 hs
        · cases hs
      · cases hs
    | value f =>
      simp only at hs ha
      split at hs
      · rename_i b hf'
        rw [hf'] at ha
        split at hs
        · rename_i args' hargs'
          unfold callY at hs
          split at hs
          · rename_i r os' ids news
            simp only [hargs'] at ha
            split at hs
            · cases hs
            · rename_i os p1 hp1
              split at hs
              · cases hs
              · rename_i cargs p2 hp2
                split at hs
                · cases hs
                · rename_i j hj
                  split at hs
                  · simp only [Option.some.injEq, Prod.mk.injEq] at hs
                    obtain ⟨_, _, rfl⟩ := hs
                    simp only [hp1, hp2, hj] at ha
                    obtain ⟨a1, a2⟩ := all_app _ _ ha
                    obtain ⟨a3, a4⟩ := all_app _ _ a2
                    refine ⟨convObsPs_ok _ _ _ hp1 a1, convPss_ok _ _ _ hp2 a3, fun hs => ?_, a4.1⟩
                    have a5 := a4.2
                    rw [hs] at a5
                    exact a5.1
                  · cases hs
          · cases hs
        · cases hs
      · rename_i f' hny hf'
        rw [hf'] at ha
        split at hs
        · rename_i args' hargs'
          unfold callF at hs
          split at hs
          · rename_i k caps r os' ids news
            simp only [hargs'] at ha
            split at hs
            · cases hs
            · rename_i os p1 hp1
              split at hs
              · cases hs
              · rename_i cargs p2 hp2
                split at hs
                · simp only [Option.some.injEq, Prod.mk.injEq] at hs
                  obtain ⟨_, _, rfl⟩ := hs
                  simp only [hp1, hp2] at ha
                  obtain ⟨a1, a2⟩ := all_app _ _ ha
                  obtain ⟨a3, a4⟩ := all_app _ _ a2
                  refine ⟨convObsPs_ok _ _ _ hp1 a1, convPss_ok _ _ _ hp2 a3, fun hs => ?_, a4.1⟩
                  have a5 := a4.2
                  rw [hs] at a5
                  exact a5.1
                · cases hs
          · cases hs
        · cases hs
      · cases hs
end Go.Sep
