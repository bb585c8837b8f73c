/- The table of types, states, and how a state describes an activation and the memory. -/
import Derived.Test.YtkchimbalpiilaaGreatSepA
import Derived.Laws.Entries
import Derived.Laws.Cells
import Derived.Laws.Tables
import Derived.Laws.CopyRow
set_option linter.all false
set_option linter.deprecated false
namespace Go.Sep
open Go

/-- What a type is, as far as the layer asks. -/
inductive TD where
  | int (k : IntKind)
  | bool
  | str
  | ptr
  | func
  | slice (e : TypeId)
  | struct (fs : List TypeId)
  | arr (n : Nat) (e : TypeId)

structure TE where
  td : TD
  sh : Sh
  zero : AV
  bytes : Nat

def lk {α : Type} : List (Nat × α) → Nat → Option α
  | [], _ => none
  | (k, x) :: l, n => if Nat.beq k n then some x else lk l n

abbrev Tab := List (Nat × TE)

def vsame : Value → Value → Bool
  | .bool a, .bool b => a == b
  | .int k a, .int l b => decide (k = l) && decide (a = b)
  | .string a, .string b => decide (a = b)
  | .slice none 0 0, .slice none 0 0 => true
  | _, _ => false

theorem vsame_eq : ∀ (a b : Value), vsame a b = true → a = b := by
  intro a b h
  unfold vsame at h
  split at h <;> simp_all

mutual
/-- The cells of a constant. -/
def D.conc : D → Option (List Value)
  | .int k n => some [.int k n]
  | .bool b => some [.bool b]
  | .str s => some [.string ⟨s.toArray⟩]
  | .sl _ _ => none
  | .agg xs => D.concA xs
  | .arr sh n xs => if Nat.beq xs.length n then D.concL sh xs else none
def D.concA : List D → Option (List Value)
  | [] => some []
  | x :: xs => match D.conc x with
    | none => none
    | some c1 => match D.concA xs with
      | none => none
      | some c2 => some (c1 ++ c2)
def D.concL (sh : Sh) : List D → Option (List Value)
  | [] => some []
  | x :: xs => if Sh.same x.sh sh then match D.conc x with
    | none => none
    | some c1 => match D.concL sh xs with
      | none => none
      | some c2 => some (c1 ++ c2)
    else none
end

mutual
def AV.conc : AV → Option (List Value)
  | .d x => x.conc
  | .nils _ => some [.slice none 0 0]
  | .agg xs => AV.concA xs
  | _ => none
def AV.concA : List AV → Option (List Value)
  | [] => some []
  | x :: xs => match AV.conc x with
    | none => none
    | some c1 => match AV.concA xs with
      | none => none
      | some c2 => some (c1 ++ c2)
end

section
variable {ok : Nat → Prop} {w : World}
mutual
theorem D.conc_cells : ∀ (x : D) (cs : List Value), x.conc = some cs → D.cells ok w x cs
  | .int _ _, cs, h => by simp only [D.conc, Option.some.injEq] at h; subst h; simp only [D.cells]
  | .bool _, cs, h => by simp only [D.conc, Option.some.injEq] at h; subst h; simp only [D.cells]
  | .str _, cs, h => by simp only [D.conc, Option.some.injEq] at h; subst h; simp only [D.cells]
  | .sl _ _, cs, h => by simp only [D.conc] at h; cases h
  | .agg xs, cs, h => by simp only [D.conc] at h; simp only [D.cells]; exact D.concA_cells xs cs h
  | .arr sh n xs, cs, h => by
    simp only [D.conc] at h
    split at h
    · rename_i hn
      simp only [D.cells]
      exact ⟨Nat.eq_of_beq_eq_true hn, D.concL_cells sh xs cs h⟩
    · cases h
theorem D.concA_cells : ∀ (xs : List D) (cs : List Value), D.concA xs = some cs → D.cellsA ok w xs cs
  | [], cs, h => by simp only [D.concA, Option.some.injEq] at h; subst h; simp only [D.cellsA]
  | x :: xs, cs, h => by
    simp only [D.concA] at h
    split at h
    · cases h
    · rename_i c1 h1
      split at h
      · cases h
      · rename_i c2 h2
        cases h
        simp only [D.cellsA]
        exact ⟨c1, c2, rfl, D.conc_cells x c1 h1, D.concA_cells xs c2 h2⟩
theorem D.concL_cells (sh : Sh) : ∀ (xs : List D) (cs : List Value), D.concL sh xs = some cs → D.cellsL ok w sh xs cs
  | [], cs, h => by simp only [D.concL, Option.some.injEq] at h; subst h; simp only [D.cellsL]
  | x :: xs, cs, h => by
    simp only [D.concL] at h
    split at h
    · rename_i hs
      split at h
      · cases h
      · rename_i c1 h1
        split at h
        · cases h
        · rename_i c2 h2
          cases h
          simp only [D.cellsL]
          exact ⟨c1, c2, rfl, Sh.same_eq _ _ hs, D.conc_cells x c1 h1, D.concL_cells sh xs c2 h2⟩
    · cases h
end
mutual
theorem AV.conc_cells {G : Gh} : ∀ (x : AV) (cs : List Value), x.conc = some cs → AV.cells G ok w x cs
  | .d x, cs, h => by simp only [AV.conc] at h; simp only [AV.cells]; exact D.conc_cells x cs h
  | .nils _, cs, h => by simp only [AV.conc, Option.some.injEq] at h; subst h; simp only [AV.cells]
  | .agg xs, cs, h => by simp only [AV.conc] at h; simp only [AV.cells]; exact AV.concA_cells xs cs h
  | .any, cs, h => by simp only [AV.conc] at h; cases h
  | .tup _, cs, h => by simp only [AV.conc] at h; cases h
  | .ref _ _, cs, h => by simp only [AV.conc] at h; cases h
  | .cp _, cs, h => by simp only [AV.conc] at h; cases h
  | .own _ _, cs, h => by simp only [AV.conc] at h; cases h
  | .rref _ _ _ _, cs, h => by simp only [AV.conc] at h; cases h
  | .fn _ _, cs, h => by simp only [AV.conc] at h; cases h
  | .yd _, cs, h => by simp only [AV.conc] at h; cases h
theorem AV.concA_cells {G : Gh} : ∀ (xs : List AV) (cs : List Value), AV.concA xs = some cs → AV.cellsA G ok w xs cs
  | [], cs, h => by simp only [AV.concA, Option.some.injEq] at h; subst h; simp only [AV.cellsA]
  | x :: xs, cs, h => by
    simp only [AV.concA] at h
    split at h
    · cases h
    · rename_i c1 h1
      split at h
      · cases h
      · rename_i c2 h2
        cases h
        simp only [AV.cellsA]
        exact ⟨c1, c2, rfl, AV.conc_cells x c1 h1, AV.concA_cells xs c2 h2⟩
end
end

def vsames : List Value → List Value → Bool
  | [], [] => true
  | a :: x, b :: y => vsame a b && vsames x y
  | _, _ => false

theorem vsames_eq : ∀ (a b : List Value), vsames a b = true → a = b
  | [], [], _ => rfl
  | a :: x, b :: y, h => by
    simp only [vsames, Bool.and_eq_true] at h
    rw [vsame_eq a b h.1, vsames_eq x y h.2]
  | [], _ :: _, h => nomatch h
  | _ :: _, [], h => nomatch h

/-- The table says what the program says of the type t. -/
structure TEok (P : Program) (T : Tab) (t : Nat) (e : TE) : Prop where
  info : ∃ i z, P.info? t = some i ∧ i.size = e.sh.size ∧ i.bytes = e.bytes ∧ i.zero = some z ∧ e.zero.sh = e.sh ∧
    e.zero.conc = some z.cells.toList
  und : match e.td with
    | .int k => P.underlying t = some (.int k) ∧ e.sh = .cell
    | .bool => P.underlying t = some .bool ∧ e.sh = .cell
    | .str => P.underlying t = some .string ∧ e.sh = .cell
    | .ptr => (∃ u, P.underlying t = some (.pointer u)) ∧ e.sh = .cell
    | .func => (∃ a b c, P.underlying t = some (.func a b c)) ∧ e.sh = .cell
    | .slice el => P.underlying t = some (.slice el) ∧ e.sh = .cell ∧ ∃ ee, lk T el = some ee ∧ 0 < ee.sh.size
    | .struct fs => ∃ fields, P.underlying t = some (.struct fields) ∧ fields.size = fs.length ∧ ∃ l, e.sh = .node l ∧ l.length = fs.length ∧
      ∀ (j : Nat) (f : Field), fields[j]? = some f → fs[j]? = some f.type ∧ f.offset = Sh.sizes (l.take j) ∧ ∃ fe, lk T f.type = some fe ∧ l[j]? = some fe.sh ∧ 0 < fe.sh.size
    | .arr n el => P.underlying t = some (.array n el) ∧ ∃ ee, lk T el = some ee ∧ e.sh = .arr n ee.sh ∧ 0 < ee.sh.size ∧ 2 ≤ n

def TOk (P : Program) (T : Tab) : Prop := ∀ t e, lk T t = some e → TEok P T t e

/-- What stands fixed: the program, its table of types, and the package variables that hold constants. -/
structure Cx where
  P : Program
  T : Tab
  gl : List (Nat × D)
  fns : Nat → Bool
  ok : TOk P T
  okf : ∀ k, fns k = true → ∃ fn, P.funcs[k]? = some fn ∧ fn.body.isSome = true ∧ (fn.name == "runtime.NumGoroutine") = false

/-- A state, as it is meant: what the slots and the objects hold. -/
structure SF where
  t : Nat → AV
  o : Nat → Option Ob

def gh (o : Nat → Option Ob) (m : Nat → Value) : Gh where
  val := m
  off := fun i p => match o i with
    | some (.box c) => (Sh.offP p c.sh).map (·.1)
    | some (.raw _ _) => match p with
      | [] => some 0
      | _ => none
    | _ => none
  len := fun i => match o i with
    | some (.row _ _ xs) => some xs.length
    | some (.frz _ _ xs) => some xs.length
    | _ => none
  roff := fun i j p => match o i with
    | some (.row _ sh _) => (Sh.offP p sh).map (fun q => j * sh.size + q.1)
    | some (.frz _ sh _) => (Sh.offP p sh).map (fun q => j * sh.size + q.1)
    | _ => none

/-- What an object is in memory. -/
def ObR (G : Gh) (ok : Nat → Prop) (w : World) : Ob → Value → Prop
  | .box c, v => ∃ b cs t, v = .pointer (some ⟨b, 0, none⟩) ∧ w.heap[b]? = some (.cells cs t (0, 0)) ∧ AV.cells G ok w c cs.toList
  | .row t sh xs, v => xs.length ≤ lim ∧ ∃ vs, w.ownsRow 0 t sh.size v xs.length vs ∧ D.cellsL ok w sh xs vs
  | .frz t sh xs, v => xs.length ≤ lim ∧ (∃ vs, w.ownsRow 0 t sh.size v xs.length vs ∧ D.cellsL ok w sh xs vs) ∧ ∀ b, Value.block? v = some b → ok b
  | .raw mk sl, v => ∃ b tm, v = .pointer (some ⟨b, 0, none⟩) ∧ w.heap[b]? = some (mk tm) ∧ tm.size = sl.length ∧ ∀ t, AV.val G ok w (sl.getD t .any) (tm.getD t undef)

def Ob.live : Ob → Bool
  | .frz _ _ _ => false
  | _ => true

/-- Where an activation began: the world, what was immutable, what it may write, the objects that it was handed. -/
structure En where
  w0 : World
  rd : Option Nat
  I0 : Nat → Prop
  M0 : Nat → Prop
  o0 : Nat → Option Ob
  m0 : Nat → Value

/-- The objects lie apart in memory; what is immutable, what was there before. -/
structure Mem (C : Cx) (E : En) (o : Nat → Option Ob) (m : Nat → Value) (I : Nat → Prop) (w : World) : Prop where
  obj : ∀ i c, o i = some c → ObR (gh o m) I w c (m i)
  inj : ∀ i j ci cj b, o i = some ci → o j = some cj → ci.live = true → cj.live = true → Value.block? (m i) = some b → Value.block? (m j) = some b → i = j
  im : ∀ b, I b → b < w.heap.size ∧ ∀ i c, o i = some c → c.live = true → Value.block? (m i) ≠ some b
  im0 : ∀ b, E.I0 b → I b
  imn : ∀ b, I b → E.I0 b ∨ E.w0.heap.size ≤ b ∨ E.M0 b
  old : ∀ i c b, o i = some c → c.live = true → Value.block? (m i) = some b → b < w.heap.size ∧ (E.w0.heap.size ≤ b ∨ E.M0 b)
  size : E.w0.heap.size ≤ w.heap.size
  frame : ∀ b, b < E.w0.heap.size → ¬ E.M0 b → w.heap[b]? = E.w0.heap[b]?
  gl : ∀ g x, lk C.gl g = some x → I g ∧ ∃ vs, (∀ (j : Nat) v, vs[j]? = some v → w.cell? ⟨g, j, none⟩ = some v) ∧ D.cells I w x vs
  sys : w.os = E.w0.os ∧ w.output = E.w0.output ∧ w.tape = E.w0.tape

/-- From one memory to a later one: what is said of values holds on, but for those that refer to what is 'bad'. -/
structure Later (o : Nat → Option Ob) (m : Nat → Value) (I : Nat → Prop) (w : World) (o' : Nat → Option Ob) (m' : Nat → Value) (I' : Nat → Prop) (w' : World) (bad : Nat → Bool) : Prop where
  im : ∀ b, I b → I' b
  cells : ∀ b k v, I b → w.cell? ⟨b, k, none⟩ = some v → w'.cell? ⟨b, k, none⟩ = some v
  blk : ∀ i b, bad i = false → Value.block? (m i) = some b → (∃ p k, (gh o m).off i p = some k) → Value.block? (m' i) = some b
  off : ∀ i p k, bad i = false → (gh o m).off i p = some k → (gh o' m').off i p = some k
  len : ∀ i n, bad i = false → (gh o m).len i = some n → ∃ n', (gh o' m').len i = some n' ∧ n ≤ n' ∧ (n = n' → m' i = m i)
  roff : ∀ i j p k, bad i = false → (gh o m).roff i j p = some k → (gh o' m').roff i j p = some k

section
variable {o o' : Nat → Option Ob} {m m' : Nat → Value} {I I' : Nat → Prop} {w w' : World} {bad : Nat → Bool}
theorem Later.val (h : Later o m I w o' m' I' w' bad) {x : AV} {v : Value} (hc : AV.clear bad bad x = true) (hx : AV.val (gh o m) I w x v) : AV.val (gh o' m') I' w' x v :=
  AV.val_mono h.im h.cells h.blk h.off h.len h.roff x v hc hx
theorem Later.cells' (h : Later o m I w o' m' I' w' bad) {x : AV} {cs : List Value} (hc : AV.clear bad bad x = true) (hx : AV.cells (gh o m) I w x cs) : AV.cells (gh o' m') I' w' x cs :=
  AV.cells_mono h.im h.cells h.blk h.off h.len h.roff x cs hc hx
theorem Later.dcells (h : Later o m I w o' m' I' w' bad) {x : D} {cs : List Value} (hx : D.cells I w x cs) : D.cells I' w' x cs := D.cells_mono h.im h.cells x cs hx
end

mutual
theorem AV.clear_none : ∀ (x : AV), AV.clear (fun _ => false) (fun _ => false) x = true
  | .any => rfl
  | .d _ => rfl
  | .nils _ => rfl
  | .cp _ => rfl
  | .ref _ _ => rfl
  | .own _ _ => rfl
  | .rref _ _ _ _ => rfl
  | .agg xs => by simp only [AV.clear]; exact AV.clears_none xs
  | .tup xs => by simp only [AV.clear]; exact AV.clears_none xs
  | .fn _ xs => by simp only [AV.clear]; exact AV.clears_none xs
  | .yd _ => rfl
theorem AV.clears_none : ∀ (xs : List AV), AV.clears (fun _ => false) (fun _ => false) xs = true
  | [] => rfl
  | x :: xs => by simp only [AV.clears, AV.clear_none x, AV.clears_none xs, Bool.and_self]
end

def bad0 : Nat → Bool := fun _ => false

theorem Later.refl (o : Nat → Option Ob) (m : Nat → Value) (I : Nat → Prop) (w : World) : Later o m I w o m I w bad0 where
  im := fun _ h => h
  cells := fun _ _ _ _ h => h
  blk := fun _ _ _ h _ => h
  off := fun _ _ _ _ h => h
  len := fun _ n _ h => ⟨n, h, Nat.le_refl _, fun _ => rfl⟩
  roff := fun _ _ _ _ _ h => h

/-- The block for the deferred calls of a loop's rounds: empty. It is object 998. -/
def dfr : Array Value → Obj := fun _ => .deferred (some [])
/-- What an activation has deferred: nothing, or the mark of an empty block. -/
def DF (o : Nat → Option Ob) (m : Nat → Value) (a : Act) : Prop :=
  (a.defers = [] ∧ o 998 = none) ∨ ∃ D, a.defers = [{ target := .collected D, args := #[] }] ∧ o 998 = some (.raw dfr []) ∧ Value.block? (m 998) = some D

theorem DF.on {o o' : Nat → Option Ob} {m m' : Nat → Value} {a a' : Act} (h : DF o m a) (ha : a'.defers = a.defers) (ho : o 998 = some (.raw dfr []) → o' 998 = some (.raw dfr []) ∧ ∀ D, Value.block? (m 998) = some D → Value.block? (m' 998) = some D) (hn : o 998 = none → o' 998 = none) : DF o' m' a' := by
  rcases h with h | ⟨D, h1, h2, h3⟩
  · exact .inl ⟨ha.trans h.1, hn h.2⟩
  · exact .inr ⟨D, ha.trans h1, (ho h2).1, (ho h2).2 D h3⟩

/-- A state describes an activation. -/
def Rel (C : Cx) (E : En) (N : Nat) (s : SF) (a : Act) (w : World) : Prop :=
  a.tmps.size = N ∧ ∃ m I, DF s.o m a ∧ Mem C E s.o m I w ∧ Later E.o0 E.m0 E.I0 E.w0 s.o m I w bad0 ∧ ∀ t, AV.val (gh s.o m) I w (s.t t) (a.tmps.getD t undef)

theorem Later.trans {o o1 o2 : Nat → Option Ob} {m m1 m2 : Nat → Value} {I I1 I2 : Nat → Prop} {w w1 w2 : World} (h : Later o m I w o1 m1 I1 w1 bad0) (h' : Later o1 m1 I1 w1 o2 m2 I2 w2 bad0) : Later o m I w o2 m2 I2 w2 bad0 where
  im := fun b hb => h'.im b (h.im b hb)
  cells := fun b k v hb hv => h'.cells b k v (h.im b hb) (h.cells b k v hb hv)
  blk := fun i b hb hv ⟨p, k, hp⟩ => h'.blk i b hb (h.blk i b hb hv ⟨p, k, hp⟩) ⟨p, k, h.off i p k hb hp⟩
  off := fun i p k hb hp => h'.off i p k hb (h.off i p k hb hp)
  len := fun i n hb hn => by
    obtain ⟨n1, h1, h2, h3⟩ := h.len i n hb hn
    obtain ⟨n2, h4, h5, h6⟩ := h'.len i n1 hb h1
    exact ⟨n2, h4, Nat.le_trans h2 h5, fun e => by rw [h6 (by omega), h3 (by omega)]⟩
  roff := fun i j p k hb hp => h'.roff i j p k hb (h.roff i j p k hb hp)
end Go.Sep
