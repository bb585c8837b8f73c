/- The abstract values of the layer: pure data, slot values, objects; how they lie in memory. -/
import Derived.Calls
import Derived.Laws.AppendOwn
import Derived.Laws.MakeOwn
import Derived.Laws.World
import Derived.Laws.CopyRow
set_option linter.all false
set_option linter.deprecated false
namespace Go.Sep
open Go

/-- Shapes of values: how many cells, and how they are divided. -/
inductive Sh where
  | cell
  | node (l : List Sh)
  | arr (n : Nat) (s : Sh)

mutual
def Sh.size : Sh → Nat
  | .cell => 1
  | .node l => Sh.sizes l
  | .arr n s => n * s.size
def Sh.sizes : List Sh → Nat
  | [] => 0
  | s :: l => s.size + Sh.sizes l
end

mutual
def Sh.same : Sh → Sh → Bool
  | .cell, .cell => true
  | .node a, .node b => Sh.sames a b
  | .arr n s, .arr m t => Nat.beq n m && Sh.same s t
  | _, _ => false
def Sh.sames : List Sh → List Sh → Bool
  | [], [] => true
  | s :: a, t :: b => Sh.same s t && Sh.sames a b
  | _, _ => false
end

mutual
theorem Sh.same_eq : ∀ (s t : Sh), Sh.same s t = true → s = t
  | .cell, .cell, _ => rfl
  | .node a, .node b, h => by rw [Sh.sames_eq a b h]
  | .arr n s, .arr m t, h => by
    simp only [Sh.same, Bool.and_eq_true] at h
    rw [Nat.eq_of_beq_eq_true h.1, Sh.same_eq s t h.2]
  | .cell, .node _, h => nomatch h
  | .cell, .arr _ _, h => nomatch h
  | .node _, .cell, h => nomatch h
  | .node _, .arr _ _, h => nomatch h
  | .arr _ _, .cell, h => nomatch h
  | .arr _ _, .node _, h => nomatch h
theorem Sh.sames_eq : ∀ (a b : List Sh), Sh.sames a b = true → a = b
  | [], [], _ => rfl
  | s :: a, t :: b, h => by
    simp only [Sh.sames, Bool.and_eq_true] at h
    rw [Sh.same_eq s t h.1, Sh.sames_eq a b h.2]
  | [], _ :: _, h => nomatch h
  | _ :: _, [], h => nomatch h
end

/-- Where a path leads in a shape: the offset in cells, and the shape there. -/
def Sh.offP : List Nat → Sh → Option (Nat × Sh)
  | [], s => some (0, s)
  | _ :: _, .cell => none
  | i :: p, .node l => match l[i]? with
    | none => none
    | some s => match Sh.offP p s with
      | none => none
      | some (k, t) => some (Sh.sizes (l.take i) + k, t)
  | i :: p, .arr n s => if i < n then match Sh.offP p s with
      | none => none
      | some (k, t) => some (i * s.size + k, t)
    else none

/-- Pure data. -/
inductive D where
  | int (k : IntKind) (n : Int)
  | bool (b : Bool)
  | str (s : List UInt8)
  | sl (sh : Sh) (xs : List D)
  | agg (xs : List D)
  | arr (sh : Sh) (n : Nat) (xs : List D)

mutual
def D.sh : D → Sh
  | .int _ _ => .cell
  | .bool _ => .cell
  | .str _ => .cell
  | .sl _ _ => .cell
  | .agg xs => .node (D.shs xs)
  | .arr sh n _ => .arr n sh
def D.shs : List D → List Sh
  | [] => []
  | x :: xs => x.sh :: D.shs xs
end

/-- No slice is longer than this. -/
def lim : Nat := 281474976710656

mutual
/-- 'cs' are the cells of x, where what x leads to lies in blocks that are 'ok'. -/
def D.cells (ok : Nat → Prop) (w : World) : D → List Value → Prop
  | .int k n, cs => cs = [.int k n]
  | .bool b, cs => cs = [.bool b]
  | .str s, cs => cs = [.string ⟨s.toArray⟩]
  | .sl sh xs, cs => ∃ a cap, cs = [.slice a xs.length cap] ∧ xs.length ≤ cap ∧ xs.length ≤ lim ∧
      (xs = [] ∨ ∃ b off vs, a = some ⟨b, off, none⟩ ∧ ok b ∧ (∀ j v, vs[j]? = some v → w.cell? ⟨b, off + j, none⟩ = some v) ∧ D.cellsL ok w sh xs vs)
  | .agg xs, cs => D.cellsA ok w xs cs
  | .arr sh n xs, cs => xs.length = n ∧ D.cellsL ok w sh xs cs
def D.cellsA (ok : Nat → Prop) (w : World) : List D → List Value → Prop
  | [], cs => cs = []
  | x :: xs, cs => ∃ c1 c2, cs = c1 ++ c2 ∧ D.cells ok w x c1 ∧ D.cellsA ok w xs c2
def D.cellsL (ok : Nat → Prop) (w : World) (sh : Sh) : List D → List Value → Prop
  | [], cs => cs = []
  | x :: xs, cs => ∃ c1 c2, cs = c1 ++ c2 ∧ D.sh x = sh ∧ D.cells ok w x c1 ∧ D.cellsL ok w sh xs c2
end


/-- Values of slots. 'cp x': a pointer to memory that does not change and holds x. 'ref o p': a pointer into object o. 'own o k': the slice of all k elements of the row o. 'rref o k i p': a pointer into its element i. 'yd o': yield of the loop whose record is object o. -/
inductive AV where
  | any
  | d (x : D)
  | nils (sh : Sh)
  | ref (o : Nat) (p : List Nat)
  | cp (x : D)
  | own (o k : Nat)
  | rref (o k i : Nat) (p : List Nat)
  | agg (xs : List AV)
  | tup (xs : List AV)
  | fn (f : FuncId) (caps : List AV)
  | yd (o : Nat)

mutual
def AV.sh : AV → Sh
  | .d x => x.sh
  | .agg xs => .node (AV.shs xs)
  | _ => .cell
def AV.shs : List AV → List Sh
  | [] => []
  | x :: xs => x.sh :: AV.shs xs
end

/-- Objects: a box (a variable), a row (the elements of a slice of the activation's own), a row that is written no more; 'raw': book-keeping of a loop over a function: what it holds of slots is told. -/
inductive Ob where
  | box (c : AV)
  | row (ty : TypeId) (sh : Sh) (xs : List D)
  | frz (ty : TypeId) (sh : Sh) (xs : List D)
  | raw (mk : Array Value → Obj) (sl : List AV)

/-- What the values of a state lean on: the objects' own values, where a path lies, how long a row is. -/
structure Gh where
  val : Nat → Value
  off : Nat → List Nat → Option Nat
  len : Nat → Option Nat
  roff : Nat → Nat → List Nat → Option Nat

def Value.block? : Value → Option Nat
  | .pointer (some a) => some a.block
  | .slice (some a) _ _ => some a.block
  | _ => none

def vOf (sh : Sh) (cs : List Value) : Value :=
  match sh with
  | .cell => cs.headD undef
  | _ => .agg cs.toArray

mutual
def AV.cells (G : Gh) (ok : Nat → Prop) (w : World) : AV → List Value → Prop
  | .any, _ => False
  | .tup _, _ => False
  | .d x, cs => D.cells ok w x cs
  | .nils _, cs => cs = [.slice none 0 0]
  | .ref o p, cs => ∃ b k, Value.block? (G.val o) = some b ∧ G.off o p = some k ∧ cs = [.pointer (some ⟨b, k, none⟩)]
  | .cp x, cs => ∃ b k vs, ok b ∧ cs = [.pointer (some ⟨b, k, none⟩)] ∧ (∀ j v, vs[j]? = some v → w.cell? ⟨b, k + j, none⟩ = some v) ∧ D.cells ok w x vs
  | .own o k, cs => ∃ a c n, cs = [.slice a k c] ∧ G.len o = some n ∧ k ≤ n ∧ (k = n → .slice a k c = G.val o)
  | .rref o k i p, cs => ∃ a n, cs = [.pointer (some a)] ∧ G.len o = some n ∧ k ≤ n ∧ (k = n → ∃ b off, Value.block? (G.val o) = some b ∧ G.roff o i p = some off ∧ a = ⟨b, off, none⟩)
  | .agg xs, cs => AV.cellsA G ok w xs cs
  | .fn f caps, cs => ∃ vs, cs = [.func (.func f) #[] vs.toArray] ∧ AV.vals G ok w caps vs
  | .yd o, cs => ∃ b k, Value.block? (G.val o) = some b ∧ G.off o [] = some k ∧ cs = [.func (.yield b) #[] #[]]
def AV.cellsA (G : Gh) (ok : Nat → Prop) (w : World) : List AV → List Value → Prop
  | [], cs => cs = []
  | x :: xs, cs => ∃ c1 c2, cs = c1 ++ c2 ∧ AV.cells G ok w x c1 ∧ AV.cellsA G ok w xs c2
def AV.vals (G : Gh) (ok : Nat → Prop) (w : World) : List AV → List Value → Prop
  | [], vs => vs = []
  | x :: xs, vs => ∃ cs v vs', vs = v :: vs' ∧ AV.cells G ok w x cs ∧ v = vOf x.sh cs ∧ AV.vals G ok w xs vs'
end

/-- What a slot holds. -/
def AV.val (G : Gh) (ok : Nat → Prop) (w : World) : AV → Value → Prop
  | .any, _ => True
  | .tup xs, v => ∃ vs, v = .tuple vs.toArray ∧ AV.vals G ok w xs vs
  | x, v => ∃ cs, AV.cells G ok w x cs ∧ v = vOf x.sh cs

/-! Sizes. -/
mutual
theorem D.cells_length {ok : Nat → Prop} {w : World} : ∀ (x : D) (cs : List Value), D.cells ok w x cs → cs.length = x.sh.size
  | .int _ _, cs, h => by simp only [D.cells] at h; subst h; rfl
  | .bool _, cs, h => by simp only [D.cells] at h; subst h; rfl
  | .str _, cs, h => by simp only [D.cells] at h; subst h; rfl
  | .sl _ _, cs, h => by simp only [D.cells] at h; obtain ⟨a, cap, rfl, _⟩ := h; rfl
  | .agg xs, cs, h => by simp only [D.cells] at h; simp only [D.sh, Sh.size]; exact D.cellsA_length xs cs h
  | .arr sh n xs, cs, h => by
    simp only [D.cells] at h
    simp only [D.sh, Sh.size]
    rw [← h.1]
    exact D.cellsL_length sh xs cs h.2
theorem D.cellsA_length {ok : Nat → Prop} {w : World} : ∀ (xs : List D) (cs : List Value), D.cellsA ok w xs cs → cs.length = Sh.sizes (D.shs xs)
  | [], cs, h => by simp only [D.cellsA] at h; subst h; rfl
  | x :: xs, cs, h => by
    simp only [D.cellsA] at h
    obtain ⟨c1, c2, rfl, h1, h2⟩ := h
    simp only [D.shs, Sh.sizes, List.length_append]
    rw [D.cells_length x c1 h1, D.cellsA_length xs c2 h2]
theorem D.cellsL_length {ok : Nat → Prop} {w : World} (sh : Sh) : ∀ (xs : List D) (cs : List Value), D.cellsL ok w sh xs cs → cs.length = xs.length * sh.size
  | [], cs, h => by simp only [D.cellsL] at h; subst h; simp
  | x :: xs, cs, h => by
    simp only [D.cellsL] at h
    obtain ⟨c1, c2, rfl, hs, h1, h2⟩ := h
    rw [List.length_append, D.cells_length x c1 h1, D.cellsL_length sh xs c2 h2, hs, List.length_cons, Nat.add_mul, Nat.one_mul, Nat.add_comm]
end

mutual
theorem AV.cells_length {G : Gh} {ok : Nat → Prop} {w : World} : ∀ (x : AV) (cs : List Value), AV.cells G ok w x cs → cs.length = x.sh.size
  | .any, _, h => by simp only [AV.cells] at h
  | .tup _, _, h => by simp only [AV.cells] at h
  | .d x, cs, h => by simp only [AV.cells] at h; simp only [AV.sh]; exact D.cells_length x cs h
  | .nils _, cs, h => by simp only [AV.cells] at h; subst h; rfl
  | .ref _ _, cs, h => by simp only [AV.cells] at h; obtain ⟨b, k, _, _, rfl⟩ := h; rfl
  | .cp _, cs, h => by simp only [AV.cells] at h; obtain ⟨b, k, vs, _, rfl, _⟩ := h; rfl
  | .own _ _, cs, h => by simp only [AV.cells] at h; obtain ⟨a, c, n, rfl, _⟩ := h; rfl
  | .rref _ _ _ _, cs, h => by simp only [AV.cells] at h; obtain ⟨a, n, rfl, _⟩ := h; rfl
  | .agg xs, cs, h => by simp only [AV.cells] at h; simp only [AV.sh, Sh.size]; exact AV.cellsA_length xs cs h
  | .fn _ _, cs, h => by simp only [AV.cells] at h; obtain ⟨vs, rfl, _⟩ := h; rfl
  | .yd _, cs, h => by simp only [AV.cells] at h; obtain ⟨b, k, _, _, rfl⟩ := h; rfl
theorem AV.cellsA_length {G : Gh} {ok : Nat → Prop} {w : World} : ∀ (xs : List AV) (cs : List Value), AV.cellsA G ok w xs cs → cs.length = Sh.sizes (AV.shs xs)
  | [], cs, h => by simp only [AV.cellsA] at h; subst h; rfl
  | x :: xs, cs, h => by
    simp only [AV.cellsA] at h
    obtain ⟨c1, c2, rfl, h1, h2⟩ := h
    simp only [AV.shs, Sh.sizes, List.length_append]
    rw [AV.cells_length x c1 h1, AV.cellsA_length xs c2 h2]
end

def one' (cs : List Value) : Prop := ∀ v ∈ cs, v.oneCell' = true

theorem one'_append {a b : List Value} (ha : one' a) (hb : one' b) : one' (a ++ b) := by
  intro v hv
  rcases List.mem_append.1 hv with h | h
  · exact ha v h
  · exact hb v h

mutual
theorem D.cells_one {ok : Nat → Prop} {w : World} : ∀ (x : D) (cs : List Value), D.cells ok w x cs → one' cs
  | .int _ _, cs, h => by simp only [D.cells] at h; subst h; simp [one', Value.oneCell']
  | .bool _, cs, h => by simp only [D.cells] at h; subst h; simp [one', Value.oneCell']
  | .str _, cs, h => by simp only [D.cells] at h; subst h; simp [one', Value.oneCell']
  | .sl _ _, cs, h => by simp only [D.cells] at h; obtain ⟨a, cap, rfl, _⟩ := h; simp [one', Value.oneCell']
  | .agg xs, cs, h => by simp only [D.cells] at h; exact D.cellsA_one xs cs h
  | .arr sh n xs, cs, h => by simp only [D.cells] at h; exact D.cellsL_one sh xs cs h.2
theorem D.cellsA_one {ok : Nat → Prop} {w : World} : ∀ (xs : List D) (cs : List Value), D.cellsA ok w xs cs → one' cs
  | [], cs, h => by simp only [D.cellsA] at h; subst h; simp [one']
  | x :: xs, cs, h => by
    simp only [D.cellsA] at h
    obtain ⟨c1, c2, rfl, h1, h2⟩ := h
    exact one'_append (D.cells_one x c1 h1) (D.cellsA_one xs c2 h2)
theorem D.cellsL_one {ok : Nat → Prop} {w : World} (sh : Sh) : ∀ (xs : List D) (cs : List Value), D.cellsL ok w sh xs cs → one' cs
  | [], cs, h => by simp only [D.cellsL] at h; subst h; simp [one']
  | x :: xs, cs, h => by
    simp only [D.cellsL] at h
    obtain ⟨c1, c2, rfl, hs, h1, h2⟩ := h
    exact one'_append (D.cells_one x c1 h1) (D.cellsL_one sh xs c2 h2)
end

mutual
theorem AV.cells_one {G : Gh} {ok : Nat → Prop} {w : World} : ∀ (x : AV) (cs : List Value), AV.cells G ok w x cs → one' cs
  | .any, _, h => by simp only [AV.cells] at h
  | .tup _, _, h => by simp only [AV.cells] at h
  | .d x, cs, h => by simp only [AV.cells] at h; exact D.cells_one x cs h
  | .nils _, cs, h => by simp only [AV.cells] at h; subst h; simp [one', Value.oneCell']
  | .ref _ _, cs, h => by simp only [AV.cells] at h; obtain ⟨b, k, _, _, rfl⟩ := h; simp [one', Value.oneCell']
  | .cp _, cs, h => by simp only [AV.cells] at h; obtain ⟨b, k, vs, _, rfl, _⟩ := h; simp [one', Value.oneCell']
  | .own _ _, cs, h => by simp only [AV.cells] at h; obtain ⟨a, c, n, rfl, _⟩ := h; simp [one', Value.oneCell']
  | .rref _ _ _ _, cs, h => by simp only [AV.cells] at h; obtain ⟨a, n, rfl, _⟩ := h; simp [one', Value.oneCell']
  | .agg xs, cs, h => by simp only [AV.cells] at h; exact AV.cellsA_one xs cs h
  | .fn _ _, cs, h => by simp only [AV.cells] at h; obtain ⟨vs, rfl, _⟩ := h; simp [one', Value.oneCell']
  | .yd _, cs, h => by simp only [AV.cells] at h; obtain ⟨b, k, _, _, rfl⟩ := h; simp [one', Value.oneCell']
theorem AV.cellsA_one {G : Gh} {ok : Nat → Prop} {w : World} : ∀ (xs : List AV) (cs : List Value), AV.cellsA G ok w xs cs → one' cs
  | [], cs, h => by simp only [AV.cellsA] at h; subst h; simp [one']
  | x :: xs, cs, h => by
    simp only [AV.cellsA] at h
    obtain ⟨c1, c2, rfl, h1, h2⟩ := h
    exact one'_append (AV.cells_one x c1 h1) (AV.cellsA_one xs c2 h2)
end

mutual
/-- No reference to an object of br, no row of bo. -/
def AV.clear (br bo : Nat → Bool) : AV → Bool
  | .ref o _ => !br o
  | .own o _ => !bo o
  | .rref o _ _ _ => !bo o
  | .agg xs => AV.clears br bo xs
  | .tup xs => AV.clears br bo xs
  | .fn _ xs => AV.clears br bo xs
  | .yd o => !br o
  | .any => true
  | .d _ => true
  | .nils _ => true
  | .cp _ => true
def AV.clears (br bo : Nat → Bool) : List AV → Bool
  | [] => true
  | x :: xs => AV.clear br bo x && AV.clears br bo xs
end

/-! What is immutable stays. -/
section
variable {ok ok' : Nat → Prop} {w w' : World} (hok : ∀ b, ok b → ok' b) (hw : ∀ b k v, ok b → w.cell? ⟨b, k, none⟩ = some v → w'.cell? ⟨b, k, none⟩ = some v)
include hok hw
mutual
theorem D.cells_mono : ∀ (x : D) (cs : List Value), D.cells ok w x cs → D.cells ok' w' x cs
  | .int _ _, cs, h => by simpa only [D.cells] using h
  | .bool _, cs, h => by simpa only [D.cells] using h
  | .str _, cs, h => by simpa only [D.cells] using h
  | .sl sh xs, cs, h => by
    simp only [D.cells] at h ⊢
    obtain ⟨a, cap, rfl, h1, h2, h3⟩ := h
    refine ⟨a, cap, rfl, h1, h2, ?_⟩
    rcases h3 with h3 | ⟨b, off, vs, rfl, hb, hv, hl⟩
    · exact .inl h3
    · exact .inr ⟨b, off, vs, rfl, hok b hb, fun j v hj => hw b _ v hb (hv j v hj), D.cellsL_mono sh xs vs hl⟩
  | .agg xs, cs, h => by simp only [D.cells] at h ⊢; exact D.cellsA_mono xs cs h
  | .arr sh n xs, cs, h => by simp only [D.cells] at h ⊢; exact ⟨h.1, D.cellsL_mono sh xs cs h.2⟩
theorem D.cellsA_mono : ∀ (xs : List D) (cs : List Value), D.cellsA ok w xs cs → D.cellsA ok' w' xs cs
  | [], cs, h => by simpa only [D.cellsA] using h
  | x :: xs, cs, h => by
    simp only [D.cellsA] at h ⊢
    obtain ⟨c1, c2, rfl, h1, h2⟩ := h
    exact ⟨c1, c2, rfl, D.cells_mono x c1 h1, D.cellsA_mono xs c2 h2⟩
theorem D.cellsL_mono (sh : Sh) : ∀ (xs : List D) (cs : List Value), D.cellsL ok w sh xs cs → D.cellsL ok' w' sh xs cs
  | [], cs, h => by simpa only [D.cellsL] using h
  | x :: xs, cs, h => by
    simp only [D.cellsL] at h ⊢
    obtain ⟨c1, c2, rfl, hs, h1, h2⟩ := h
    exact ⟨c1, c2, rfl, hs, D.cells_mono x c1 h1, D.cellsL_mono sh xs c2 h2⟩
end
variable {G G' : Gh} {br bo : Nat → Bool} (hG : ∀ o b, br o = false → Value.block? (G.val o) = some b → (∃ p k, G.off o p = some k) → Value.block? (G'.val o) = some b)
    (hO : ∀ o p k, br o = false → G.off o p = some k → G'.off o p = some k)
    (hL : ∀ o n, bo o = false → G.len o = some n → ∃ n', G'.len o = some n' ∧ n ≤ n' ∧ (n = n' → G'.val o = G.val o))
    (hR : ∀ o i p k, bo o = false → G.roff o i p = some k → G'.roff o i p = some k)
include hG hO hL hR
mutual
theorem AV.cells_mono : ∀ (x : AV) (cs : List Value), AV.clear br bo x = true → AV.cells G ok w x cs → AV.cells G' ok' w' x cs
  | .any, _, _, h => by simp only [AV.cells] at h
  | .tup _, _, _, h => by simp only [AV.cells] at h
  | .d x, cs, _, h => by simp only [AV.cells] at h ⊢; exact D.cells_mono hok hw x cs h
  | .nils _, cs, _, h => by simpa only [AV.cells] using h
  | .ref o p, cs, hc, h => by
    simp only [AV.cells] at h ⊢
    simp only [AV.clear, Bool.not_eq_true'] at hc
    obtain ⟨b, k, h1, h2, rfl⟩ := h
    exact ⟨b, k, hG o b hc h1 ⟨p, k, h2⟩, hO o p k hc h2, rfl⟩
  | .cp x, cs, _, h => by
    simp only [AV.cells] at h ⊢
    obtain ⟨b, k, vs, hb, rfl, hv, hx⟩ := h
    exact ⟨b, k, vs, hok b hb, rfl, fun j v hj => hw b _ v hb (hv j v hj), D.cells_mono hok hw x vs hx⟩
  | .own o k, cs, hc, h => by
    simp only [AV.cells] at h ⊢
    simp only [AV.clear, Bool.not_eq_true'] at hc
    obtain ⟨a, c, n, rfl, hn, hk, hv⟩ := h
    obtain ⟨n', h1, h2, h3⟩ := hL o n hc hn
    exact ⟨a, c, n', rfl, h1, Nat.le_trans hk h2, fun e => by rw [h3 (by omega)]; exact hv (by omega)⟩
  | .rref o k i p, cs, hc, h => by
    simp only [AV.cells] at h ⊢
    simp only [AV.clear, Bool.not_eq_true'] at hc
    obtain ⟨a, n, rfl, hn, hk, hv⟩ := h
    obtain ⟨n', h1, h2, h3⟩ := hL o n hc hn
    refine ⟨a, n', rfl, h1, Nat.le_trans hk h2, fun e => ?_⟩
    obtain ⟨b, off, h4, h5, h6⟩ := hv (by omega)
    exact ⟨b, off, by rw [h3 (by omega)]; exact h4, hR o i p off hc h5, h6⟩
  | .agg xs, cs, hc, h => by simp only [AV.cells] at h ⊢; exact AV.cellsA_mono xs cs (by simpa only [AV.clear] using hc) h
  | .yd o, cs, hc, h => by
    simp only [AV.cells] at h ⊢
    simp only [AV.clear, Bool.not_eq_true'] at hc
    obtain ⟨b, k, h1, h2, rfl⟩ := h
    exact ⟨b, k, hG o b hc h1 ⟨[], k, h2⟩, hO o [] k hc h2, rfl⟩
  | .fn f caps, cs, hc, h => by
    simp only [AV.cells] at h ⊢
    obtain ⟨vs, rfl, hv⟩ := h
    exact ⟨vs, rfl, AV.vals_mono caps vs (by simpa only [AV.clear] using hc) hv⟩
theorem AV.cellsA_mono : ∀ (xs : List AV) (cs : List Value), AV.clears br bo xs = true → AV.cellsA G ok w xs cs → AV.cellsA G' ok' w' xs cs
  | [], cs, _, h => by simpa only [AV.cellsA] using h
  | x :: xs, cs, hc, h => by
    simp only [AV.cellsA] at h ⊢
    simp only [AV.clears, Bool.and_eq_true] at hc
    obtain ⟨c1, c2, rfl, h1, h2⟩ := h
    exact ⟨c1, c2, rfl, AV.cells_mono x c1 hc.1 h1, AV.cellsA_mono xs c2 hc.2 h2⟩
theorem AV.vals_mono : ∀ (xs : List AV) (vs : List Value), AV.clears br bo xs = true → AV.vals G ok w xs vs → AV.vals G' ok' w' xs vs
  | [], vs, _, h => by simpa only [AV.vals] using h
  | x :: xs, vs, hc, h => by
    simp only [AV.vals] at h ⊢
    simp only [AV.clears, Bool.and_eq_true] at hc
    obtain ⟨cs, v, vs', rfl, h1, rfl, h2⟩ := h
    exact ⟨cs, _, vs', rfl, AV.cells_mono x cs hc.1 h1, rfl, AV.vals_mono xs vs' hc.2 h2⟩
end
theorem AV.val_mono : ∀ (x : AV) (v : Value), AV.clear br bo x = true → AV.val G ok w x v → AV.val G' ok' w' x v
  | .any, _, _, _ => by simp only [AV.val]
  | .tup xs, v, hc, h => by
    simp only [AV.val] at h ⊢
    obtain ⟨vs, rfl, h⟩ := h
    exact ⟨vs, rfl, AV.vals_mono hok hw hG hO hL hR xs vs (by simpa only [AV.clear] using hc) h⟩
  | .d x, v, hc, h => by simp only [AV.val] at h ⊢; obtain ⟨cs, h, rfl⟩ := h; exact ⟨cs, AV.cells_mono hok hw hG hO hL hR _ cs hc h, rfl⟩
  | .nils x, v, hc, h => by simp only [AV.val] at h ⊢; obtain ⟨cs, h, rfl⟩ := h; exact ⟨cs, AV.cells_mono hok hw hG hO hL hR _ cs hc h, rfl⟩
  | .ref o p, v, hc, h => by simp only [AV.val] at h ⊢; obtain ⟨cs, h, rfl⟩ := h; exact ⟨cs, AV.cells_mono hok hw hG hO hL hR _ cs hc h, rfl⟩
  | .cp x, v, hc, h => by simp only [AV.val] at h ⊢; obtain ⟨cs, h, rfl⟩ := h; exact ⟨cs, AV.cells_mono hok hw hG hO hL hR _ cs hc h, rfl⟩
  | .own o k, v, hc, h => by simp only [AV.val] at h ⊢; obtain ⟨cs, h, rfl⟩ := h; exact ⟨cs, AV.cells_mono hok hw hG hO hL hR _ cs hc h, rfl⟩
  | .rref o k i p, v, hc, h => by simp only [AV.val] at h ⊢; obtain ⟨cs, h, rfl⟩ := h; exact ⟨cs, AV.cells_mono hok hw hG hO hL hR _ cs hc h, rfl⟩
  | .agg xs, v, hc, h => by simp only [AV.val] at h ⊢; obtain ⟨cs, h, rfl⟩ := h; exact ⟨cs, AV.cells_mono hok hw hG hO hL hR _ cs hc h, rfl⟩
  | .yd x, v, hc, h => by simp only [AV.val] at h ⊢; obtain ⟨cs, h, rfl⟩ := h; exact ⟨cs, AV.cells_mono hok hw hG hO hL hR _ cs hc h, rfl⟩
  | .fn f xs, v, hc, h => by simp only [AV.val] at h ⊢; obtain ⟨cs, h, rfl⟩ := h; exact ⟨cs, AV.cells_mono hok hw hG hO hL hR _ cs hc h, rfl⟩
end

/-! Parts of a value: by a path. -/
def AV.kid : AV → Nat → Option AV
  | .d (.agg xs), i => (xs[i]?).map .d
  | .d (.arr _ _ xs), i => (xs[i]?).map .d
  | .agg xs, i => xs[i]?
  | _, _ => none

def AV.get : List Nat → AV → Option AV
  | [], x => some x
  | i :: p, x => match x.kid i with
    | none => none
    | some y => AV.get p y

def allD : List AV → Option (List D)
  | [] => some []
  | .d x :: xs => match allD xs with
    | none => none
    | some ys => some (x :: ys)
  | _ :: _ => none

def mkAgg (xs : List AV) : AV :=
  match allD xs with
  | some ys => .d (.agg ys)
  | none => .agg xs

def AV.putKid : AV → Nat → AV → Option AV
  | .d (.agg xs), i, .d y => some (.d (.agg (xs.set i y)))
  | .d (.agg xs), i, y => some (.agg ((xs.map .d).set i y))
  | .agg xs, i, y => some (mkAgg (xs.set i y))
  | .d (.arr sh n xs), i, .d y => some (.d (.arr sh n (xs.set i y)))
  | _, _, _ => none

def AV.set : List Nat → AV → AV → Option AV
  | [], _, v => some v
  | i :: p, x, v => match x.kid i with
    | none => none
    | some y => match AV.set p y v with
      | none => none
      | some y' => x.putKid i y'

theorem AV.cells_d {G : Gh} {ok : Nat → Prop} {w : World} {x : D} {cs : List Value} : AV.cells G ok w (.d x) cs ↔ D.cells ok w x cs := by simp only [AV.cells]

section
variable {G : Gh} {ok : Nat → Prop} {w : World}

theorem D.cellsA_at : ∀ (xs : List D) (i : Nat) (y : D) (cs : List Value), xs[i]? = some y → D.cellsA ok w xs cs →
    (D.shs xs)[i]? = some y.sh ∧ ∃ pre c post, cs = pre ++ c ++ post ∧ pre.length = Sh.sizes ((D.shs xs).take i) ∧ D.cells ok w y c ∧
      ∀ z c', D.cells ok w z c' → z.sh = y.sh → D.cellsA ok w (xs.set i z) (pre ++ c' ++ post) ∧ D.shs (xs.set i z) = D.shs xs
  | [], i, y, cs, h, _ => by simp at h
  | x :: xs, 0, y, cs, h, hc => by
    simp only [D.cellsA] at hc
    obtain ⟨c1, c2, rfl, h1, h2⟩ := hc
    simp only [List.getElem?_cons_zero, Option.some.injEq] at h
    subst h
    refine ⟨by simp [D.shs], [], c1, c2, by simp, by simp [Sh.sizes], h1, fun z c' hz hs => ⟨?_, ?_⟩⟩
    · simp only [List.set_cons_zero, D.cellsA]
      exact ⟨c', c2, by simp, hz, h2⟩
    · simp [D.shs, hs]
  | x :: xs, i + 1, y, cs, h, hc => by
    simp only [D.cellsA] at hc
    obtain ⟨c1, c2, rfl, h1, h2⟩ := hc
    simp only [List.getElem?_cons_succ] at h
    obtain ⟨hs, pre, c, post, rfl, hp, hy, hset⟩ := D.cellsA_at xs i y c2 h h2
    refine ⟨by simpa [D.shs] using hs, c1 ++ pre, c, post, by simp, ?_, hy, fun z c' hz hzs => ⟨?_, ?_⟩⟩
    · simp only [D.shs, List.take_succ_cons, Sh.sizes, List.length_append, D.cells_length x c1 h1, hp]
    · simp only [List.set_cons_succ, D.cellsA]
      exact ⟨c1, pre ++ c' ++ post, by simp, h1, (hset z c' hz hzs).1⟩
    · simp only [List.set_cons_succ, D.shs, (hset z c' hz hzs).2]

theorem D.cellsL_at (sh : Sh) : ∀ (xs : List D) (i : Nat) (y : D) (cs : List Value), xs[i]? = some y → D.cellsL ok w sh xs cs →
    y.sh = sh ∧ ∃ pre c post, cs = pre ++ c ++ post ∧ pre.length = i * sh.size ∧ D.cells ok w y c ∧
      ∀ z c', D.cells ok w z c' → z.sh = sh → D.cellsL ok w sh (xs.set i z) (pre ++ c' ++ post)
  | [], i, y, cs, h, _ => by simp at h
  | x :: xs, 0, y, cs, h, hc => by
    simp only [D.cellsL] at hc
    obtain ⟨c1, c2, rfl, hs, h1, h2⟩ := hc
    simp only [List.getElem?_cons_zero, Option.some.injEq] at h
    subst h
    refine ⟨hs, [], c1, c2, by simp, by simp, h1, fun z c' hz hzs => ?_⟩
    simp only [List.set_cons_zero, D.cellsL]
    exact ⟨c', c2, by simp, hzs, hz, h2⟩
  | x :: xs, i + 1, y, cs, h, hc => by
    simp only [D.cellsL] at hc
    obtain ⟨c1, c2, rfl, hs, h1, h2⟩ := hc
    simp only [List.getElem?_cons_succ] at h
    obtain ⟨hy, pre, c, post, rfl, hp, hyc, hset⟩ := D.cellsL_at sh xs i y c2 h h2
    refine ⟨hy, c1 ++ pre, c, post, by simp, ?_, hyc, fun z c' hz hzs => ?_⟩
    · rw [List.length_append, D.cells_length x c1 h1, hp, hs, Nat.add_mul, Nat.one_mul, Nat.add_comm]
    · simp only [List.set_cons_succ, D.cellsL]
      exact ⟨c1, pre ++ c' ++ post, by simp, hs, h1, hset z c' hz hzs⟩

theorem AV.cellsA_at : ∀ (xs : List AV) (i : Nat) (y : AV) (cs : List Value), xs[i]? = some y → AV.cellsA G ok w xs cs →
    (AV.shs xs)[i]? = some y.sh ∧ ∃ pre c post, cs = pre ++ c ++ post ∧ pre.length = Sh.sizes ((AV.shs xs).take i) ∧ AV.cells G ok w y c ∧
      ∀ z c', AV.cells G ok w z c' → z.sh = y.sh → AV.cellsA G ok w (xs.set i z) (pre ++ c' ++ post) ∧ AV.shs (xs.set i z) = AV.shs xs
  | [], i, y, cs, h, _ => by simp at h
  | x :: xs, 0, y, cs, h, hc => by
    simp only [AV.cellsA] at hc
    obtain ⟨c1, c2, rfl, h1, h2⟩ := hc
    simp only [List.getElem?_cons_zero, Option.some.injEq] at h
    subst h
    refine ⟨by simp [AV.shs], [], c1, c2, by simp, by simp [Sh.sizes], h1, fun z c' hz hs => ⟨?_, ?_⟩⟩
    · simp only [List.set_cons_zero, AV.cellsA]
      exact ⟨c', c2, by simp, hz, h2⟩
    · simp [AV.shs, hs]
  | x :: xs, i + 1, y, cs, h, hc => by
    simp only [AV.cellsA] at hc
    obtain ⟨c1, c2, rfl, h1, h2⟩ := hc
    simp only [List.getElem?_cons_succ] at h
    obtain ⟨hs, pre, c, post, rfl, hp, hy, hset⟩ := AV.cellsA_at xs i y c2 h h2
    refine ⟨by simpa [AV.shs] using hs, c1 ++ pre, c, post, by simp, ?_, hy, fun z c' hz hzs => ⟨?_, ?_⟩⟩
    · simp only [AV.shs, List.take_succ_cons, Sh.sizes, List.length_append, AV.cells_length x c1 h1, hp]
    · simp only [List.set_cons_succ, AV.cellsA]
      exact ⟨c1, pre ++ c' ++ post, by simp, h1, (hset z c' hz hzs).1⟩
    · simp only [List.set_cons_succ, AV.shs, (hset z c' hz hzs).2]

theorem shs_map_d : ∀ (xs : List D), AV.shs (xs.map .d) = D.shs xs
  | [] => rfl
  | x :: xs => by simp only [List.map_cons, AV.shs, D.shs, AV.sh, shs_map_d xs]

theorem cellsA_map_d : ∀ (xs : List D) (cs : List Value), AV.cellsA G ok w (xs.map .d) cs ↔ D.cellsA ok w xs cs
  | [], cs => by simp only [List.map_nil, AV.cellsA, D.cellsA]
  | x :: xs, cs => by simp only [List.map_cons, AV.cellsA, D.cellsA, AV.cells, cellsA_map_d xs]

theorem allD_eq : ∀ (xs : List AV) (ys : List D), allD xs = some ys → xs = ys.map .d
  | [], ys, h => by simp only [allD, Option.some.injEq] at h; subst h; rfl
  | x :: xs, ys, h => by
    cases x <;> simp only [allD] at h <;> first | (cases h; done) | skip
    rename_i x
    cases h1 : allD xs with
    | none => rw [h1] at h; cases h
    | some zs =>
      rw [h1] at h
      cases h
      rw [allD_eq xs zs h1]
      rfl

theorem mkAgg_cells (xs : List AV) (cs : List Value) : AV.cells G ok w (mkAgg xs) cs ↔ AV.cellsA G ok w xs cs := by
  unfold mkAgg
  cases h : allD xs with
  | none => simp only [AV.cells]
  | some ys => simp only [AV.cells, D.cells, allD_eq xs ys h, cellsA_map_d]

theorem mkAgg_sh (xs : List AV) : (mkAgg xs).sh = .node (AV.shs xs) := by
  unfold mkAgg
  cases h : allD xs with
  | none => simp only [AV.sh]
  | some ys => simp only [AV.sh, D.sh, allD_eq xs ys h, shs_map_d]

/-- A part by its number: where its cells lie, and what becomes of the whole when it is replaced. -/
theorem AV.kid_at {x : AV} {i : Nat} {y : AV} {cs : List Value} (hk : x.kid i = some y) (hc : AV.cells G ok w x cs) (k : Nat) (t : Sh) (p : List Nat) (ho : Sh.offP p y.sh = some (k, t)) :
    ∃ pre c post, cs = pre ++ c ++ post ∧ Sh.offP (i :: p) x.sh = some (pre.length + k, t) ∧ AV.cells G ok w y c ∧
      ∀ z c' x', AV.cells G ok w z c' → z.sh = y.sh → x.putKid i z = some x' → AV.cells G ok w x' (pre ++ c' ++ post) ∧ x'.sh = x.sh := by
  cases x <;> try (simp only [AV.kid] at hk; cases hk; done)
  case d x =>
    cases x <;> try (simp only [AV.kid] at hk; cases hk; done)
    case agg xs =>
      simp only [AV.kid, Option.map_eq_some_iff] at hk
      obtain ⟨y0, hk, rfl⟩ := hk
      simp only [AV.cells, D.cells] at hc
      obtain ⟨hs, pre, c, post, rfl, hp, hy, hset⟩ := D.cellsA_at xs i y0 cs hk hc
      refine ⟨pre, c, post, rfl, ?_, by simpa only [AV.cells] using hy, ?_⟩
      · simp only [AV.sh, D.sh, Sh.offP, hs]
        simp only [AV.sh] at ho
        simp only [ho, hp]
      · intro z c' x' hz hzs hput
        cases z with
        | d z =>
          simp only [AV.putKid, Option.some.injEq] at hput
          subst hput
          simp only [AV.cells, D.cells, AV.sh, D.sh] at hz hzs ⊢
          exact ⟨(hset z c' hz hzs).1, by rw [(hset z c' hz hzs).2]⟩
        | _ =>
          simp only [AV.putKid, Option.some.injEq] at hput
          subst hput
          have hc' : AV.cellsA G ok w (xs.map .d) (pre ++ c ++ post) := (cellsA_map_d xs _).2 hc
          obtain ⟨_, pre2, c2, post2, he, hp2, hy2, hset2⟩ := AV.cellsA_at (xs.map .d) i (.d y0) _ (by simp [hk]) hc'
          have h1 : pre.length = pre2.length := by rw [hp, hp2, shs_map_d]
          have h2 : c.length = c2.length := by rw [D.cells_length _ _ hy, AV.cells_length _ _ hy2]; rfl
          rw [List.append_assoc, List.append_assoc] at he
          obtain ⟨rfl, he2⟩ := List.append_inj he h1
          obtain ⟨rfl, rfl⟩ := List.append_inj he2 h2
          have := hset2 _ c' hz hzs
          simp only [AV.cells, AV.sh, D.sh]
          exact ⟨this.1, by rw [this.2, shs_map_d]⟩
    case arr sh n xs =>
      simp only [AV.kid, Option.map_eq_some_iff] at hk
      obtain ⟨y0, hk, rfl⟩ := hk
      simp only [AV.cells, D.cells] at hc
      obtain ⟨hn, hc⟩ := hc
      obtain ⟨hs, pre, c, post, rfl, hp, hy, hset⟩ := D.cellsL_at sh xs i y0 cs hk hc
      have hlt : i < n := by rw [← hn]; exact (List.getElem?_eq_some_iff.1 hk).1
      refine ⟨pre, c, post, rfl, ?_, by simpa only [AV.cells] using hy, ?_⟩
      · simp only [AV.sh, D.sh, Sh.offP, hlt, if_true]
        simp only [AV.sh, hs] at ho
        simp only [ho, hp]
      · intro z c' x' hz hzs hput
        cases z <;> try (simp only [AV.putKid] at hput; cases hput; done)
        rename_i z
        simp only [AV.putKid, Option.some.injEq] at hput
        subst hput
        simp only [AV.cells, D.cells, AV.sh, D.sh] at hz hzs ⊢
        exact ⟨⟨by simpa using hn, hset z c' hz (hzs.trans hs)⟩, trivial⟩
  case agg xs =>
    simp only [AV.kid] at hk
    simp only [AV.cells] at hc
    obtain ⟨hs, pre, c, post, rfl, hp, hy, hset⟩ := AV.cellsA_at xs i y cs hk hc
    refine ⟨pre, c, post, rfl, ?_, hy, ?_⟩
    · simp only [AV.sh, Sh.offP, hs, ho, hp]
    · intro z c' x' hz hzs hput
      have hput' : some (mkAgg (xs.set i z)) = some x' := by rw [← hput]; cases z <;> rfl
      cases hput'
      rw [mkAgg_cells, mkAgg_sh, AV.sh]
      exact ⟨(hset z c' hz hzs).1, by rw [(hset z c' hz hzs).2]⟩

/-- A part by a path: where it lies, and what a store there makes. -/
theorem AV.get_at : ∀ (p : List Nat) {x y : AV} {cs : List Value}, AV.get p x = some y → AV.cells G ok w x cs →
    ∃ pre c post, cs = pre ++ c ++ post ∧ Sh.offP p x.sh = some (pre.length, y.sh) ∧ AV.cells G ok w y c ∧
      ∀ z c' x', AV.cells G ok w z c' → z.sh = y.sh → AV.set p x z = some x' → AV.cells G ok w x' (pre ++ c' ++ post) ∧ x'.sh = x.sh
  | [], x, y, cs, h, hc => by
    simp only [AV.get, Option.some.injEq] at h
    subst h
    refine ⟨[], cs, [], by simp, by simp [Sh.offP], hc, fun z c' x' hz hzs hs => ?_⟩
    simp only [AV.set, Option.some.injEq] at hs
    subst hs
    exact ⟨by simpa using hz, hzs⟩
  | i :: p, x, y, cs, h, hc => by
    simp only [AV.get] at h
    cases hk : x.kid i with
    | none => rw [hk] at h; cases h
    | some u =>
      rw [hk] at h
      have hu : ∃ cu, AV.cells G ok w u cu := by
        obtain ⟨pre, c, post, _, _, hy, _⟩ := AV.kid_at hk hc 0 u.sh [] rfl
        exact ⟨c, hy⟩
      obtain ⟨cu, hcu⟩ := hu
      obtain ⟨pre1, c1, post1, _, ho1, _, _⟩ := AV.get_at p h hcu
      obtain ⟨pre, c, post, rfl, ho, hyc, hput⟩ := AV.kid_at hk hc pre1.length y.sh p ho1
      obtain ⟨pre2, c2, post2, rfl, ho2, hy2, hset2⟩ := AV.get_at p h hyc
      have hpl : pre2.length = pre1.length := by rw [ho1] at ho2; exact (Prod.mk.inj (Option.some.inj ho2)).1.symm
      refine ⟨pre ++ pre2, c2, post2 ++ post, by simp, by rw [ho, List.length_append, hpl], hy2, fun z c' x' hz hzs hs => ?_⟩
      simp only [AV.set, hk] at hs
      cases hu' : AV.set p u z with
      | none => rw [hu'] at hs; cases hs
      | some u' =>
        rw [hu'] at hs
        have h1 := hset2 z c' u' hz hzs hu'
        have h2 := hput u' (pre2 ++ c' ++ post2) x' h1.1 h1.2 hs
        exact ⟨by simpa using h2.1, h2.2⟩
end
end Go.Sep
