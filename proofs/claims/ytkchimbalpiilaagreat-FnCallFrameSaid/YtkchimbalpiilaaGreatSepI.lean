/- Calls: values handed over are named anew; a contract. -/
import Derived.Test.YtkchimbalpiilaaGreatSepH
set_option linter.all false
set_option linter.deprecated false
namespace Go.Sep
open Go

/-! Names of objects. -/
def posIn : List Nat → Nat → Option Nat
  | [], _ => none
  | a :: l, b => if Nat.beq a b then some 0 else (posIn l b).map (· + 1)

theorem posIn_at : ∀ (l : List Nat) (b j : Nat), posIn l b = some j → l[j]? = some b
  | [], b, j, h => by simp [posIn] at h
  | a :: l, b, j, h => by
    simp only [posIn] at h
    split at h
    · rename_i hab
      have := Nat.eq_of_beq_eq_true hab
      simp only [Option.some.injEq] at h
      subst h this
      rfl
    · simp only [Option.map_eq_some_iff] at h
      obtain ⟨j', h, rfl⟩ := h
      simpa using posIn_at l b j' h

mutual
def AV.ren (ρ : Nat → Nat) : AV → AV
  | .ref o p => .ref (ρ o) p
  | .own o k => .own (ρ o) k
  | .rref o k i p => .rref (ρ o) k i p
  | .agg xs => .agg (AV.rens ρ xs)
  | .tup xs => .tup (AV.rens ρ xs)
  | .fn f xs => .fn f (AV.rens ρ xs)
  | .yd o => .yd (ρ o)
  | .any => .any
  | .d x => .d x
  | .nils s => .nils s
  | .cp x => .cp x
def AV.rens (ρ : Nat → Nat) : List AV → List AV
  | [] => []
  | x :: xs => AV.ren ρ x :: AV.rens ρ xs
end

def Ob.ren (ρ : Nat → Nat) : Ob → Ob
  | .box c => .box (c.ren ρ)
  | .raw mk sl => .raw mk (AV.rens ρ sl)
  | c => c

mutual
theorem AV.ren_sh (ρ : Nat → Nat) : ∀ (x : AV), (x.ren ρ).sh = x.sh
  | .ref _ _ => rfl
  | .own _ _ => rfl
  | .rref _ _ _ _ => rfl
  | .agg xs => by simp only [AV.ren, AV.sh, AV.rens_shs ρ xs]
  | .tup _ => rfl
  | .fn _ _ => rfl
  | .yd _ => rfl
  | .any => rfl
  | .d _ => rfl
  | .nils _ => rfl
  | .cp _ => rfl
theorem AV.rens_shs (ρ : Nat → Nat) : ∀ (xs : List AV), AV.shs (AV.rens ρ xs) = AV.shs xs
  | [] => rfl
  | x :: xs => by simp only [AV.rens, AV.shs, AV.ren_sh ρ x, AV.rens_shs ρ xs]
end

theorem AV.rens_length (ρ : Nat → Nat) : ∀ (xs : List AV), (AV.rens ρ xs).length = xs.length
  | [] => rfl
  | _ :: xs => by simp only [AV.rens, List.length_cons, AV.rens_length ρ xs]

/-- G' says of ρ i what G says of i. -/
structure Same (ρ : Nat → Nat) (G G' : Gh) : Prop where
  blk : ∀ i b, Value.block? (G.val i) = some b → (∃ p k, G.off i p = some k) → Value.block? (G'.val (ρ i)) = some b
  off : ∀ i p k, G.off i p = some k → G'.off (ρ i) p = some k
  len : ∀ i n, G.len i = some n → G'.len (ρ i) = some n ∧ G'.val (ρ i) = G.val i
  roff : ∀ i j p k, G.roff i j p = some k → G'.roff (ρ i) j p = some k

section
variable {ρ : Nat → Nat} {G G' : Gh} {I I' : Nat → Prop} {w : World} (hs : Same ρ G G') (hI : ∀ b, I b → I' b)
include hs hI
mutual
theorem AV.cells_ren : ∀ (x : AV) (cs : List Value), AV.cells G I w x cs → AV.cells G' I' w (x.ren ρ) cs
  | .any, _, h => by simp only [AV.cells] at h
  | .tup _, _, h => by simp only [AV.cells] at h
  | .d x, cs, h => by simp only [AV.cells, AV.ren] at h ⊢; exact D.cells_mono hI (fun _ _ _ _ h => h) x cs h
  | .nils _, cs, h => by simpa only [AV.cells, AV.ren] using h
  | .ref o p, cs, h => by
    simp only [AV.cells, AV.ren] at h ⊢
    obtain ⟨b, k, h1, h2, rfl⟩ := h
    exact ⟨b, k, hs.blk o b h1 ⟨p, k, h2⟩, hs.off o p k h2, rfl⟩
  | .cp x, cs, h => by
    simp only [AV.cells, AV.ren] at h ⊢
    obtain ⟨b, k, vs, hb, rfl, hv, hx⟩ := h
    exact ⟨b, k, vs, hI b hb, rfl, hv, D.cells_mono hI (fun _ _ _ _ h => h) x vs hx⟩
  | .own o k, cs, h => by
    simp only [AV.cells, AV.ren] at h ⊢
    obtain ⟨a, c, n, rfl, h1, h2, h3⟩ := h
    exact ⟨a, c, n, rfl, (hs.len o n h1).1, h2, fun e => by rw [(hs.len o n h1).2]; exact h3 e⟩
  | .rref o k i p, cs, h => by
    simp only [AV.cells, AV.ren] at h ⊢
    obtain ⟨a, n, rfl, h1, h2, h3⟩ := h
    refine ⟨a, n, rfl, (hs.len o n h1).1, h2, fun e => ?_⟩
    obtain ⟨b, off, h4, h5, h6⟩ := h3 e
    exact ⟨b, off, by rw [(hs.len o n h1).2]; exact h4, hs.roff o i p off h5, h6⟩
  | .agg xs, cs, h => by simp only [AV.cells, AV.ren] at h ⊢; exact AV.cellsA_ren xs cs h
  | .yd o, cs, h => by
    simp only [AV.cells, AV.ren] at h ⊢
    obtain ⟨b, k, h1, h2, rfl⟩ := h
    exact ⟨b, k, hs.blk o b h1 ⟨[], k, h2⟩, hs.off o [] k h2, rfl⟩
  | .fn f xs, cs, h => by
    simp only [AV.cells, AV.ren] at h ⊢
    obtain ⟨vs, rfl, h⟩ := h
    exact ⟨vs, rfl, AV.vals_ren xs vs h⟩
theorem AV.cellsA_ren : ∀ (xs : List AV) (cs : List Value), AV.cellsA G I w xs cs → AV.cellsA G' I' w (AV.rens ρ xs) cs
  | [], cs, h => by simpa only [AV.cellsA, AV.rens] using h
  | x :: xs, cs, h => by
    simp only [AV.cellsA, AV.rens] at h ⊢
    obtain ⟨c1, c2, rfl, h1, h2⟩ := h
    exact ⟨c1, c2, rfl, AV.cells_ren x c1 h1, AV.cellsA_ren xs c2 h2⟩
theorem AV.vals_ren : ∀ (xs : List AV) (vs : List Value), AV.vals G I w xs vs → AV.vals G' I' w (AV.rens ρ xs) vs
  | [], vs, h => by simpa only [AV.vals, AV.rens] using h
  | x :: xs, vs, h => by
    simp only [AV.vals, AV.rens] at h ⊢
    obtain ⟨cs, v, vs', rfl, h1, rfl, h2⟩ := h
    exact ⟨cs, _, vs', rfl, AV.cells_ren x cs h1, by rw [AV.ren_sh], AV.vals_ren xs vs' h2⟩
end
theorem AV.val_ren {x : AV} {v : Value} (h : AV.val G I w x v) : AV.val G' I' w (x.ren ρ) v := by
  cases x with
  | any => simp only [AV.ren, AV.val]
  | tup xs =>
    simp only [AV.ren, AV.val] at h ⊢
    obtain ⟨vs, rfl, h⟩ := h
    exact ⟨vs, rfl, AV.vals_ren hs hI xs vs h⟩
  | _ =>
    obtain ⟨cs, hc, rfl⟩ := cells_of_val rfl h
    have := val_of_cells (AV.cells_ren hs hI _ cs hc)
    rw [AV.ren_sh] at this
    exact this
theorem AV.slots_ren {sl : List AV} {f : Nat → Value} (h : ∀ t, AV.val G I w (sl.getD t .any) (f t)) : ∀ t, AV.val G' I' w ((AV.rens ρ sl).getD t .any) (f t) := by
  intro t
  have key : ∀ (sl : List AV) (t : Nat), (AV.rens ρ sl).getD t .any = (sl.getD t .any).ren ρ := by
    intro sl
    induction sl with
    | nil => intro t; simp [AV.rens, AV.ren]
    | cons x sl ih => intro t; cases t with
      | zero => simp [AV.rens]
      | succ t => simpa [AV.rens] using ih t
  rw [key]
  exact AV.val_ren hs hI (h t)
end

/-! What is handed to a callee: the objects 'ids' become its objects 0, 1, ..; other rows are seen as data. -/
mutual
def conv (ol : Nat → Option Ob) (ids : List Nat) : AV → Option (AV × Prop)
  | .d x => some (.d x, True)
  | .nils sh => some (.d (.sl sh []), True)
  | .cp x => some (.cp x, True)
  | .ref b p => match posIn ids b with
    | some j => some (.ref j p, True)
    | none => none
  | .own b k => match posIn ids b with
    | some j => some (.own j k, True)
    | none => match ol b with
      | some (.row _ sh xs) => some (.d (.sl sh xs), k = xs.length)
      | some (.frz _ sh xs) => some (.d (.sl sh xs), k = xs.length)
      | _ => none
  | .agg xs => match convs ol ids xs with
    | some (ys, p) => some (mkAgg ys, p)
    | none => none
  | .fn f xs => match convs ol ids xs with
    | some (ys, p) => some (.fn f ys, p)
    | none => none
  | .yd b => match posIn ids b with
    | some j => some (.yd j, True)
    | none => none
  | _ => none
def convs (ol : Nat → Option Ob) (ids : List Nat) : List AV → Option (List AV × Prop)
  | [] => some ([], True)
  | x :: xs => match conv ol ids x with
    | none => none
    | some (y, p) => match convs ol ids xs with
      | none => none
      | some (ys, q) => some (y :: ys, p ∧ q)
end

mutual
/-- The rows that are seen as data, though they may be written later. -/
def seen' (ol : Nat → Option Ob) (ids : List Nat) : AV → Bool
  | .own b _ => match posIn ids b with
    | some _ => false
    | none => match ol b with
      | some (.row _ _ _) => true
      | _ => false
  | .agg xs => seens' ol ids xs
  | .fn _ xs => seens' ol ids xs
  | _ => false
def seens' (ol : Nat → Option Ob) (ids : List Nat) : List AV → Bool
  | [] => false
  | x :: xs => seen' ol ids x || seens' ol ids xs
end

/-- Slots: of what is not known nothing is said. -/
def convA (ol : Nat → Option Ob) (ids : List Nat) : List AV → Option (List AV × Prop)
  | [] => some ([], True)
  | x :: xs => match convA ol ids xs with
    | none => none
    | some (ys, q) => match x with
      | .any => some (.any :: ys, q)
      | x => if seen' ol ids x then none else match conv ol ids x with
        | none => none
        | some (y, p) => some (y :: ys, p ∧ q)

theorem convA_length {ol : Nat → Option Ob} {ids : List Nat} : ∀ (xs ys : List AV) (p : Prop), convA ol ids xs = some (ys, p) → ys.length = xs.length
  | [], ys, p, h => by simp only [convA, Option.some.injEq, Prod.mk.injEq] at h; obtain ⟨rfl, _⟩ := h; rfl
  | x :: xs, ys, p, h => by
    simp only [convA] at h
    split at h
    · cases h
    · rename_i ys' q' hys
      have ih := convA_length xs ys' q' hys
      split at h
      · simp only [Option.some.injEq, Prod.mk.injEq] at h
        obtain ⟨rfl, _⟩ := h
        simp [ih]
      · split at h
        · cases h
        · split at h
          · cases h
          · simp only [Option.some.injEq, Prod.mk.injEq] at h
            obtain ⟨rfl, _⟩ := h
            simp [ih]

def convOb (ol : Nat → Option Ob) (ids : List Nat) : Ob → Option (Ob × Prop)
  | .box c => if seen' ol ids c then none else match conv ol ids c with
    | some (y, p) => some (.box y, p)
    | none => none
  | .raw mk sl => match convA ol ids sl with
    | some (ys, p) => some (.raw mk ys, p)
    | none => none
  | c => some (c, True)

def convObs (ol : Nat → Option Ob) (ids : List Nat) : List Nat → Option (List Ob × Prop)
  | [] => some ([], True)
  | b :: l => match ol b with
    | none => none
    | some c => match convOb ol ids c with
      | none => none
      | some (c', p) => match convObs ol ids l with
        | none => none
        | some (cs, q) => some (c' :: cs, p ∧ q)

def olist (os : List Ob) : Nat → Option Ob := fun i => os[i]?
def nameOf (ids : List Nat) : Nat → Nat := fun j => ids.getD j 0

section
variable {C : Cx} {E : En} {o : Nat → Option Ob} {m : Nat → Value} {I : Nat → Prop} {w : World}

theorem convObs_at {ids : List Nat} : ∀ (l : List Nat) (cs : List Ob) (p : Prop), convObs o ids l = some (cs, p) → p → cs.length = l.length ∧ ∀ (j b : Nat), l[j]? = some b → ∃ c c' q, o b = some c ∧ convOb o ids c = some (c', q) ∧ q ∧ cs[j]? = some c'
  | [], cs, p, h, _ => by
    simp only [convObs, Option.some.injEq, Prod.mk.injEq] at h
    obtain ⟨rfl, _⟩ := h
    exact ⟨rfl, fun j b hj => by simp at hj⟩
  | b :: l, cs, p, h, hp => by
    simp only [convObs] at h
    cases hb : o b with
    | none => rw [hb] at h; cases h
    | some c =>
      rw [hb] at h
      simp only at h
      cases hc : convOb o ids c with
      | none => rw [hc] at h; cases h
      | some r =>
        obtain ⟨c', q⟩ := r
        rw [hc] at h
        simp only at h
        cases hl : convObs o ids l with
        | none => rw [hl] at h; cases h
        | some r2 =>
          obtain ⟨cs', q'⟩ := r2
          rw [hl] at h
          simp only [Option.some.injEq, Prod.mk.injEq] at h
          obtain ⟨rfl, rfl⟩ := h
          obtain ⟨h1, h2⟩ := convObs_at l cs' q' hl hp.2
          refine ⟨by simp [h1], fun j b' hj => ?_⟩
          cases j with
          | zero =>
            simp only [List.getElem?_cons_zero, Option.some.injEq] at hj
            subst hj
            exact ⟨c, c', q, hb, hc, hp.1, rfl⟩
          | succ j => simpa using h2 j b' (by simpa using hj)

mutual
theorem conv_sh {ids : List Nat} : ∀ (x y : AV) (p : Prop), conv o ids x = some (y, p) → y.sh = x.sh
  | .d x, y, p, h => by simp only [conv, Option.some.injEq, Prod.mk.injEq] at h; obtain ⟨rfl, _⟩ := h; rfl
  | .nils sh, y, p, h => by simp only [conv, Option.some.injEq, Prod.mk.injEq] at h; obtain ⟨rfl, _⟩ := h; rfl
  | .cp x, y, p, h => by simp only [conv, Option.some.injEq, Prod.mk.injEq] at h; obtain ⟨rfl, _⟩ := h; rfl
  | .ref b q, y, p, h => by
    simp only [conv] at h
    split at h
    · simp only [Option.some.injEq, Prod.mk.injEq] at h; obtain ⟨rfl, _⟩ := h; rfl
    · cases h
  | .own b k, y, p, h => by
    simp only [conv] at h
    split at h
    · simp only [Option.some.injEq, Prod.mk.injEq] at h; obtain ⟨rfl, _⟩ := h; rfl
    · split at h
      · simp only [Option.some.injEq, Prod.mk.injEq] at h; obtain ⟨rfl, _⟩ := h; rfl
      · simp only [Option.some.injEq, Prod.mk.injEq] at h; obtain ⟨rfl, _⟩ := h; rfl
      · cases h
  | .agg xs, y, p, h => by
    simp only [conv] at h
    split at h
    · rename_i ys q hys
      simp only [Option.some.injEq, Prod.mk.injEq] at h
      obtain ⟨rfl, _⟩ := h
      rw [mkAgg_sh, AV.sh, convs_shs xs ys q hys]
    · cases h
  | .fn f xs, y, p, h => by
    simp only [conv] at h
    split at h
    · simp only [Option.some.injEq, Prod.mk.injEq] at h; obtain ⟨rfl, _⟩ := h; rfl
    · cases h
  | .yd b, y, p, h => by
    simp only [conv] at h
    split at h
    · simp only [Option.some.injEq, Prod.mk.injEq] at h; obtain ⟨rfl, _⟩ := h; rfl
    · cases h
  | .any, y, p, h => by simp only [conv] at h; cases h
  | .tup _, y, p, h => by simp only [conv] at h; cases h
  | .rref _ _ _ _, y, p, h => by simp only [conv] at h; cases h
theorem convs_shs {ids : List Nat} : ∀ (xs ys : List AV) (p : Prop), convs o ids xs = some (ys, p) → AV.shs ys = AV.shs xs
  | [], ys, p, h => by simp only [convs, Option.some.injEq, Prod.mk.injEq] at h; obtain ⟨rfl, _⟩ := h; rfl
  | x :: xs, ys, p, h => by
    simp only [convs] at h
    split at h
    · cases h
    · rename_i y q hy
      split at h
      · cases h
      · rename_i ys' q' hys
        simp only [Option.some.injEq, Prod.mk.injEq] at h
        obtain ⟨rfl, _⟩ := h
        simp only [AV.shs, conv_sh x y q hy, convs_shs xs ys' q' hys]
end

/-- Where paths lead in an object that is handed over: as before. -/
theorem off_conv {ids : List Nat} {cs : List Ob} {b j : Nat} {c c' : Ob} {q : Prop} {m' : Nat → Value} (hb : o b = some c) (hc : convOb o ids c = some (c', q)) (hcs : cs[j]? = some c') (r : List Nat) : (gh (olist cs) m').off j r = (gh o m).off b r := by
  simp only [gh, hb, olist, hcs]
  cases c with
  | box c =>
    simp only [convOb] at hc
    split at hc
    · cases hc
    · split at hc
      · rename_i y q' hy
        simp only [Option.some.injEq, Prod.mk.injEq] at hc
        obtain ⟨rfl, _⟩ := hc
        simp only [conv_sh c y q' hy]
      · cases hc
  | raw mk sl =>
    simp only [convOb] at hc
    split at hc
    · simp only [Option.some.injEq, Prod.mk.injEq] at hc
      obtain ⟨rfl, _⟩ := hc
      rfl
    · cases hc
  | row => simp only [convOb, Option.some.injEq, Prod.mk.injEq] at hc; obtain ⟨rfl, _⟩ := hc; rfl
  | frz => simp only [convOb, Option.some.injEq, Prod.mk.injEq] at hc; obtain ⟨rfl, _⟩ := hc; rfl
theorem len_conv {ids : List Nat} {cs : List Ob} {b j : Nat} {c c' : Ob} {q : Prop} {m' : Nat → Value} (hb : o b = some c) (hc : convOb o ids c = some (c', q)) (hcs : cs[j]? = some c') : (gh (olist cs) m').len j = (gh o m).len b := by
  simp only [gh, hb, olist, hcs]
  cases c with
  | box c =>
    simp only [convOb] at hc
    split at hc
    · cases hc
    · split at hc
      · simp only [Option.some.injEq, Prod.mk.injEq] at hc; obtain ⟨rfl, _⟩ := hc; rfl
      · cases hc
  | raw mk sl =>
    simp only [convOb] at hc
    split at hc
    · simp only [Option.some.injEq, Prod.mk.injEq] at hc; obtain ⟨rfl, _⟩ := hc; rfl
    · cases hc
  | row => simp only [convOb, Option.some.injEq, Prod.mk.injEq] at hc; obtain ⟨rfl, _⟩ := hc; rfl
  | frz => simp only [convOb, Option.some.injEq, Prod.mk.injEq] at hc; obtain ⟨rfl, _⟩ := hc; rfl
theorem roff_conv {ids : List Nat} {cs : List Ob} {b j : Nat} {c c' : Ob} {q : Prop} {m' : Nat → Value} (hb : o b = some c) (hc : convOb o ids c = some (c', q)) (hcs : cs[j]? = some c') (i : Nat) (r : List Nat) : (gh (olist cs) m').roff j i r = (gh o m).roff b i r := by
  simp only [gh, hb, olist, hcs]
  cases c with
  | box c =>
    simp only [convOb] at hc
    split at hc
    · cases hc
    · split at hc
      · simp only [Option.some.injEq, Prod.mk.injEq] at hc; obtain ⟨rfl, _⟩ := hc; rfl
      · cases hc
  | raw mk sl =>
    simp only [convOb] at hc
    split at hc
    · simp only [Option.some.injEq, Prod.mk.injEq] at hc; obtain ⟨rfl, _⟩ := hc; rfl
    · cases hc
  | row => simp only [convOb, Option.some.injEq, Prod.mk.injEq] at hc; obtain ⟨rfl, _⟩ := hc; rfl
  | frz => simp only [convOb, Option.some.injEq, Prod.mk.injEq] at hc; obtain ⟨rfl, _⟩ := hc; rfl
theorem live_conv {ids : List Nat} {c c' : Ob} {q : Prop} (hc : convOb o ids c = some (c', q)) : c'.live = c.live := by
  cases c with
  | box c =>
    simp only [convOb] at hc
    split at hc
    · cases hc
    · split at hc
      · simp only [Option.some.injEq, Prod.mk.injEq] at hc; obtain ⟨rfl, _⟩ := hc; rfl
      · cases hc
  | raw mk sl =>
    simp only [convOb] at hc
    split at hc
    · simp only [Option.some.injEq, Prod.mk.injEq] at hc; obtain ⟨rfl, _⟩ := hc; rfl
    · cases hc
  | row => simp only [convOb, Option.some.injEq, Prod.mk.injEq] at hc; obtain ⟨rfl, _⟩ := hc; rfl
  | frz => simp only [convOb, Option.some.injEq, Prod.mk.injEq] at hc; obtain ⟨rfl, _⟩ := hc; rfl

/-- What the callee may lean on: what is immutable, and the rows that it sees as data. -/
def seenI (o : Nat → Option Ob) (m : Nat → Value) (I : Nat → Prop) (ids : List Nat) (sees : Bool) : Nat → Prop :=
  fun b => I b ∨ (sees = true ∧ ∃ i t sh xs, o i = some (.row t sh xs) ∧ posIn ids i = none ∧ Value.block? (m i) = some b)

variable {ids : List Nat} {cs : List Ob} {p : Prop}

theorem callee_same (hos : convObs o ids ids = some (cs, p)) (hp : p) (j b : Nat) (hj : posIn ids b = some j) :
    ∀ (v : Nat → Nat → Prop), True → ∃ c c' q, o b = some c ∧ convOb o ids c = some (c', q) ∧ q ∧ cs[j]? = some c' :=
  fun _ _ => (convObs_at ids cs p hos hp).2 j b (posIn_at ids b j hj)

mutual
theorem conv_cells (hm : Mem C E o m I w) (hos : convObs o ids ids = some (cs, p)) (hp : p) (sees : Bool) : ∀ (x y : AV) (q : Prop) (vs : List Value), conv o ids x = some (y, q) → q → (seen' o ids x = true → sees = true) →
    AV.cells (gh o m) I w x vs → AV.cells (gh (olist cs) (fun j => m (nameOf ids j))) (seenI o m I ids sees) w y vs
  | .d x, y, q, vs, h, _, _, hc => by
    simp only [conv, Option.some.injEq, Prod.mk.injEq] at h
    obtain ⟨rfl, _⟩ := h
    simp only [AV.cells] at hc ⊢
    exact D.cells_mono (fun _ h => .inl h) (fun _ _ _ _ h => h) x vs hc
  | .nils sh, y, q, vs, h, _, _, hc => by
    simp only [conv, Option.some.injEq, Prod.mk.injEq] at h
    obtain ⟨rfl, _⟩ := h
    simp only [AV.cells] at hc
    subst hc
    simp only [AV.cells, D.cells]
    exact ⟨none, 0, by simp, by simp, by simp, .inl trivial⟩
  | .cp x, y, q, vs, h, _, _, hc => by
    simp only [conv, Option.some.injEq, Prod.mk.injEq] at h
    obtain ⟨rfl, _⟩ := h
    simp only [AV.cells] at hc ⊢
    obtain ⟨b, k, us, h1, h2, h3, h4⟩ := hc
    exact ⟨b, k, us, .inl h1, h2, h3, D.cells_mono (fun _ h => .inl h) (fun _ _ _ _ h => h) x us h4⟩
  | .ref b r, y, q, vs, h, _, _, hc => by
    simp only [conv] at h
    split at h
    · rename_i j hj
      simp only [Option.some.injEq, Prod.mk.injEq] at h
      obtain ⟨rfl, _⟩ := h
      obtain ⟨c, c', q', hb, hc', hq', hcs⟩ := (convObs_at ids cs p hos hp).2 j b (posIn_at ids b j hj)
      simp only [AV.cells] at hc ⊢
      obtain ⟨blk, k, h1, h2, rfl⟩ := hc
      refine ⟨blk, k, ?_, ?_, rfl⟩
      · show Value.block? (m (nameOf ids j)) = some blk
        rw [nameOf, List.getD_eq_getElem?_getD, posIn_at ids b j hj]
        exact h1
      · rw [off_conv (m := m) hb hc' hcs]; exact h2
    · cases h
  | .yd b, y, q, vs, h, _, _, hc => by
    simp only [conv] at h
    split at h
    · rename_i j hj
      simp only [Option.some.injEq, Prod.mk.injEq] at h
      obtain ⟨rfl, _⟩ := h
      obtain ⟨c, c', q', hb, hc', hq', hcs⟩ := (convObs_at ids cs p hos hp).2 j b (posIn_at ids b j hj)
      simp only [AV.cells] at hc ⊢
      obtain ⟨blk, k, h1, h2, rfl⟩ := hc
      refine ⟨blk, k, ?_, ?_, rfl⟩
      · show Value.block? (m (nameOf ids j)) = some blk
        rw [nameOf, List.getD_eq_getElem?_getD, posIn_at ids b j hj]
        exact h1
      · rw [off_conv (m := m) hb hc' hcs]; exact h2
    · cases h
  | .own b k, y, q, vs, h, hq, hsee, hc => by
    simp only [AV.cells] at hc
    obtain ⟨a, c, n, rfl, h1, h2, h3⟩ := hc
    simp only [conv] at h
    simp only [seen'] at hsee
    split at h
    · rename_i j hj
      simp only [Option.some.injEq, Prod.mk.injEq] at h
      obtain ⟨rfl, _⟩ := h
      obtain ⟨co, c', q', hb, hc', hq', hcs⟩ := (convObs_at ids cs p hos hp).2 j b (posIn_at ids b j hj)
      have hnm : nameOf ids j = b := by rw [nameOf, List.getD_eq_getElem?_getD, posIn_at ids b j hj]; rfl
      simp only [AV.cells]
      refine ⟨a, c, n, rfl, ?_, h2, fun e => ?_⟩
      · rw [len_conv (m := m) hb hc' hcs]; exact h1
      · show _ = m (nameOf ids j)
        rw [hnm]
        exact h3 e
    · rename_i hj
      rw [hj] at hsee
      split at h
      · rename_i t sh xs hb
        simp only [Option.some.injEq, Prod.mk.injEq] at h
        obtain ⟨rfl, rfl⟩ := h
        rw [hb] at hsee
        have hsees := hsee rfl
        have hn : n = xs.length := by simpa only [gh, hb, Option.some.injEq] using h1.symm
        have hval : Value.slice a k c = m b := h3 (by omega)
        obtain ⟨hlim, us, hown, hcs⟩ := hm.obj b _ hb
        simp only [AV.cells, D.cells]
        rcases hown.2 with ⟨hn', hz⟩ | ⟨g, cap, cur, hn', _, hheap, hcap, _, _, htake⟩
        · rw [hn'] at hval
          cases hval
          exact ⟨none, 0, by rw [hz], by omega, hlim, .inl (List.eq_nil_of_length_eq_zero hz)⟩
        · rw [hn'] at hval
          cases hval
          refine ⟨_, _, rfl, hcap, hlim, .inr ⟨g, 0, us, rfl, .inr ⟨hsees, b, t, sh, xs, hb, hj, by rw [hn']; rfl⟩, fun j v hjv => ?_, D.cellsL_mono (fun _ h => .inl h) (fun _ _ _ _ h => h) sh xs us hcs⟩⟩
          rw [Nat.zero_add, cell_of_row w g j cur t _ hheap, ← Array.getElem?_toList]
          rw [← htake, List.getElem?_take] at hjv
          split at hjv
          · exact hjv
          · cases hjv
      · rename_i t sh xs hb
        simp only [Option.some.injEq, Prod.mk.injEq] at h
        obtain ⟨rfl, rfl⟩ := h
        have hn : n = xs.length := by simpa only [gh, hb, Option.some.injEq] using h1.symm
        have hval : Value.slice a k c = m b := h3 (by omega)
        rw [hval]
        simp only [AV.cells]
        exact D.cells_mono (fun _ h => .inl h) (fun _ _ _ _ h => h) _ _ (frz_cells hm hb)
      · cases h
  | .agg xs, y, q, vs, h, hq, hsee, hc => by
    simp only [conv] at h
    split at h
    · rename_i ys q' hys
      simp only [Option.some.injEq, Prod.mk.injEq] at h
      obtain ⟨rfl, rfl⟩ := h
      rw [mkAgg_cells]
      simp only [AV.cells] at hc
      exact convs_cells hm hos hp sees xs ys _ vs hys hq (by simpa only [seen'] using hsee) hc
    · cases h
  | .fn f xs, y, q, vs, h, hq, hsee, hc => by
    simp only [conv] at h
    split at h
    · rename_i ys q' hys
      simp only [Option.some.injEq, Prod.mk.injEq] at h
      obtain ⟨rfl, rfl⟩ := h
      simp only [AV.cells] at hc ⊢
      obtain ⟨us, rfl, hc⟩ := hc
      exact ⟨us, rfl, convs_vals hm hos hp sees xs ys _ us hys hq (by simpa only [seen'] using hsee) hc⟩
    · cases h
  | .any, y, q, vs, h, _, _, _ => by simp only [conv] at h; cases h
  | .tup _, y, q, vs, h, _, _, _ => by simp only [conv] at h; cases h
  | .rref _ _ _ _, y, q, vs, h, _, _, _ => by simp only [conv] at h; cases h
theorem convs_cells (hm : Mem C E o m I w) (hos : convObs o ids ids = some (cs, p)) (hp : p) (sees : Bool) : ∀ (xs ys : List AV) (q : Prop) (vs : List Value), convs o ids xs = some (ys, q) → q → (seens' o ids xs = true → sees = true) →
    AV.cellsA (gh o m) I w xs vs → AV.cellsA (gh (olist cs) (fun j => m (nameOf ids j))) (seenI o m I ids sees) w ys vs
  | [], ys, q, vs, h, _, _, hc => by
    simp only [convs, Option.some.injEq, Prod.mk.injEq] at h
    obtain ⟨rfl, _⟩ := h
    simpa only [AV.cellsA] using hc
  | x :: xs, ys, q, vs, h, hq, hsee, hc => by
    simp only [convs] at h
    split at h
    · cases h
    · rename_i y q1 hy
      split at h
      · cases h
      · rename_i ys' q2 hys
        simp only [Option.some.injEq, Prod.mk.injEq] at h
        obtain ⟨rfl, rfl⟩ := h
        simp only [AV.cellsA] at hc ⊢
        obtain ⟨c1, c2, rfl, h1, h2⟩ := hc
        simp only [seens', Bool.or_eq_true] at hsee
        exact ⟨c1, c2, rfl, conv_cells hm hos hp sees x y q1 c1 hy hq.1 (fun h => hsee (.inl h)) h1, convs_cells hm hos hp sees xs ys' q2 c2 hys hq.2 (fun h => hsee (.inr h)) h2⟩
theorem convs_vals (hm : Mem C E o m I w) (hos : convObs o ids ids = some (cs, p)) (hp : p) (sees : Bool) : ∀ (xs ys : List AV) (q : Prop) (vs : List Value), convs o ids xs = some (ys, q) → q → (seens' o ids xs = true → sees = true) →
    AV.vals (gh o m) I w xs vs → AV.vals (gh (olist cs) (fun j => m (nameOf ids j))) (seenI o m I ids sees) w ys vs
  | [], ys, q, vs, h, _, _, hc => by
    simp only [convs, Option.some.injEq, Prod.mk.injEq] at h
    obtain ⟨rfl, _⟩ := h
    simpa only [AV.vals] using hc
  | x :: xs, ys, q, vs, h, hq, hsee, hc => by
    simp only [convs] at h
    split at h
    · cases h
    · rename_i y q1 hy
      split at h
      · cases h
      · rename_i ys' q2 hys
        simp only [Option.some.injEq, Prod.mk.injEq] at h
        obtain ⟨rfl, rfl⟩ := h
        simp only [AV.vals] at hc ⊢
        obtain ⟨c1, v, vs', rfl, h1, rfl, h2⟩ := hc
        simp only [seens', Bool.or_eq_true] at hsee
        exact ⟨c1, _, vs', rfl, conv_cells hm hos hp sees x y q1 c1 hy hq.1 (fun h => hsee (.inl h)) h1, by rw [conv_sh x y q1 hy], convs_vals hm hos hp sees xs ys' q2 vs' hys hq.2 (fun h => hsee (.inr h)) h2⟩
end
/-- Slots of a frame that are handed over with it. -/
theorem convA_slots (hm : Mem C E o m I w) (hos : convObs o ids ids = some (cs, p)) (hp : p) (sees : Bool) (f : Nat → Value) : ∀ (xs ys : List AV) (q : Prop) (i : Nat), convA o ids xs = some (ys, q) → q →
    (∀ t, AV.val (gh o m) I w (xs.getD t .any) (f (i + t))) → ∀ t, AV.val (gh (olist cs) (fun j => m (nameOf ids j))) (seenI o m I ids sees) w (ys.getD t .any) (f (i + t))
  | [], ys, q, i, h, _, _, t => by
    simp only [convA, Option.some.injEq, Prod.mk.injEq] at h
    obtain ⟨rfl, _⟩ := h
    simp only [List.getD_nil, AV.val]
  | x :: xs, ys, q, i, h, hq, hf, t => by
    simp only [convA] at h
    split at h
    · cases h
    · rename_i ys' q' hys
      have rest : q' → ∀ t, AV.val (gh (olist cs) (fun j => m (nameOf ids j))) (seenI o m I ids sees) w (ys'.getD t .any) (f (i + 1 + t)) := fun hq' =>
        convA_slots hm hos hp sees f xs ys' q' (i + 1) hys hq' (fun t => by have := hf (t + 1); rw [List.getD_cons_succ] at this; rw [show i + 1 + t = i + (t + 1) by omega]; exact this)
      split at h
      · simp only [Option.some.injEq, Prod.mk.injEq] at h
        obtain ⟨rfl, rfl⟩ := h
        cases t with
        | zero => simp only [List.getD_cons_zero, AV.val]
        | succ t => rw [List.getD_cons_succ, show i + (t + 1) = i + 1 + t by omega]; exact rest hq t
      · rename_i x' hx'
        split at h
        · cases h
        · rename_i hsn
          split at h
          · cases h
          · rename_i y q1 hy
            simp only [Option.some.injEq, Prod.mk.injEq] at h
            obtain ⟨rfl, rfl⟩ := h
            cases t with
            | zero =>
              have h0 := hf 0
              rw [List.getD_cons_zero] at h0
              rw [List.getD_cons_zero]
              have h1 : x.one = true := by cases x <;> first | rfl | (simp only [conv] at hy; cases hy)
              obtain ⟨c0, hc0, e0⟩ := cells_of_val h1 h0
              have := val_of_cells (conv_cells hm hos hp sees x y q1 c0 hy hq.1 (fun h => absurd h hsn) hc0)
              rw [conv_sh x y q1 hy, ← e0] at this
              exact this
            | succ t => rw [List.getD_cons_succ, show i + (t + 1) = i + 1 + t by omega]; exact rest hq.2 t
end
end Go.Sep
