/- Short words, for printed certificates; arrays in boxes; rounds in mirrors. -/
import Derived.Test.YtkchimbalpiilaaGreatSepW
import Derived.KernelRfl
set_option linter.all false
set_option linter.deprecated false
namespace Go.Sep
open Go

def iA (n : Int) : AV := .d (.int .i64 n)
def bA (b : Bool) : AV := .d (.bool b)
def sA (s : List UInt8) : AV := .d (.str s)
def Ec.a {α : Type} (k : Ec α) (x : α) : AV := .d (k.x x)
def Ec.r {α : Type} (k : Ec α) (ty : Nat) (sh : Sh) (xs : List α) : Ob := .row ty sh (k.m xs)
def Ec.z {α : Type} (k : Ec α) (ty : Nat) (sh : Sh) (xs : List α) : Ob := .frz ty sh (k.m xs)
def Ec.x' {α : Type} (k : Ec α) (sh : Sh) (xs : List α) : AV := .d (.sl sh (k.m xs))
def bx (c : AV) : Ob := .box c
/-- Hints. -/
def hV (v : AV) : RH := ⟨.v .no, some (v, []), []⟩
def hW (v : AV) (l : List (Nat × Ob)) : RH := ⟨.v .no, some (v, l), []⟩
def hE (x : D) : RH := ⟨.v (.el x), none, []⟩
def hF (x : D) (l : List (Nat × Ob)) : RH := ⟨.v (.el x), some (.any, l), []⟩
def hT (b : UInt8) : RH := ⟨.v (.bt b), none, []⟩
def hI (y : AV) : RH := ⟨.v (.is y), none, []⟩
def hC (r : AV) (os' : List Ob) (ids news : List Nat) : RH := ⟨.call r os' ids news, none, []⟩
def hD (l : List Nat) : RH := ⟨.v .no, none, l⟩
def RH.g (h : RH) (l : List Nat) : RH := ⟨h.h, h.y, l⟩
def hT1 : RH := hV (bA true)
def hF1 : RH := hV (bA false)
def hO : RH := ⟨.row, none, []⟩
def hOw (v : AV) (l : List (Nat × Ob)) : RH := ⟨.row, some (v, l), []⟩

theorem sm {α : Type} {a b : α} (h : some a = some b) : a = b := Option.some.inj h

section
variable {C : Cx} {E : En} {N : Nat} {Q : Exit → Act → World → Prop} {R : Type}
/-- A row that is written no more. -/
theorem NX.fz {α : Type} (k : Ec α) {s : S} {K : Act → World → Prop} (i ty : Nat) (sh : Sh) (xs : List α) (kk : NX C E N ⟨s.t, (i, k.z ty sh xs) :: s.o⟩ K) (h : lk s.o i = some (k.r ty sh xs) := by kernel_rfl) : NX C E N s K := NX.freeze i h kk
/-- A branch, as the mirror has it. -/
theorem CD.br {s : S} {c : Operand} {x y : Code} {b : Bool} {m1 m2 : Option R} {r : R} (h : (if b = true then m1 else m2) = some r)
    (kt : b = true → m1 = some r → CD C E N x s Q) (kf : b = false → m2 = some r → CD C E N y s Q) (hc : evA C (at' s.t) 0 c = some (.d (.bool b))) : CD C E N (.cond c x y) s Q :=
  CD.cond hc (fun e => kt e (by rw [if_pos e] at h; exact h)) (fun e => kf e (by rw [if_neg (by rw [e]; decide)] at h; exact h))
end

/-- Append, where what comes out is written no more. -/
theorem o_apF {α : Type} (k : Ec α) {n : Nat} {xs ys zs : List α} (b ty : Nat) (sh : Sh) (h : ap n xs ys = some zs) {q : Prop} (hq : q) :
    AV.d (.sl sh (k.m xs ++ k.m ys)) = k.x' sh zs ∧ [(b, Ob.frz ty sh (k.m xs ++ k.m ys))] = [(b, k.z ty sh zs)] ∧
      ((q ∧ xs.length = (k.m xs).length ∧ (k.m xs ++ k.m ys).length * n ≤ 140737488355328 ∧ (k.m xs ++ k.m ys).length ≤ 140737488355328) ∧ (k.m xs ++ k.m ys).length = (k.m xs ++ k.m ys).length) := by
  obtain ⟨rfl, h1, h2⟩ := ap_some h
  have e : k.m xs ++ k.m ys = k.m (xs ++ ys) := by rw [k.hm, k.hm, k.hm, List.map_append]
  rw [e]
  exact ⟨rfl, rfl, ⟨hq, k_len' k xs, by rw [k_len, List.length_append]; exact h1, by rw [k_len, List.length_append]; exact h2⟩, rfl⟩
theorem o_ap0F {α : Type} (k : Ec α) {n : Nat} {ys zs : List α} (b ty : Nat) (sh : Sh) (h : ap n [] ys = some zs) {q : Prop} (hq : q) :
    AV.d (.sl sh (k.m ys)) = k.x' sh zs ∧ [(b, Ob.frz ty sh (k.m ys))] = [(b, k.z ty sh zs)] ∧ ((q ∧ (k.m ys).length * n ≤ 140737488355328 ∧ (k.m ys).length ≤ 140737488355328) ∧ (k.m ys).length = (k.m ys).length) := by
  obtain ⟨rfl, h1, h2⟩ := ap_some h
  simp only [List.length_nil, Nat.zero_add] at h1 h2
  exact ⟨rfl, by simp [Ec.z], ⟨hq, by rw [k_len]; exact h1, by rw [k_len]; exact h2⟩, rfl⟩

/-! Arrays in boxes. -/
section
variable {α : Type} (k : Ec α)
/-- The place of an element of an array in a box. -/
theorem o_ixA {xs : List α} {n : Int} {y : α} {c : Nat} (h : ix xs n = some y) (hl : xs.length = c) : 0 ≤ n ∧ n < (c : Nat) := by
  unfold ix at h
  split at h
  · rename_i h0
    have := (List.getElem?_eq_some_iff.1 h).1
    exact ⟨h0, by omega⟩
  · cases h
theorem o_gtA {xs : List α} {n : Int} {y : α} {sh : Sh} {c : Nat} (h : ix xs n = some y) : AV.get [n.toNat] (.d (.arr sh c (k.m xs))) = some (.d (k.x y)) := by
  simp only [AV.get, AV.kid, (o_ix k h).2, Option.map_some]
theorem o_isA {xs : List α} {n : Int} {y : α} {sh : Sh} {c : Nat} (h : ix xs n = some y) : (AV.get [n.toNat] (.d (.arr sh c (k.m xs)))).isSome = true := by
  rw [o_gtA k h]; rfl
theorem o_stA {xs zs : List α} {n : Int} {y y' : α} {sh : Sh} {c : Nat} (hx : ix xs n = some y) (h : st xs n y' = some zs) : AV.set [n.toNat] (.d (.arr sh c (k.m xs))) (.d (k.x y')) = some (.d (.arr sh c (k.m zs))) := by
  simp only [AV.set, AV.kid, (o_ix k hx).2, Option.map_some, AV.putKid]
  rw [st_some h, k.hm, k.hm, List.map_set]
theorem get_k {c a : AV} {i : Nat} {p : List Nat} {y : AV} (hk : c.kid i = some a) (h : AV.get p a = some y) : AV.get (i :: p) c = some y := by simp only [AV.get, hk, h]
theorem is_k {c a : AV} {i : Nat} {p : List Nat} (hk : c.kid i = some a) (h : (AV.get p a).isSome = true) : (AV.get (i :: p) c).isSome = true := by simp only [AV.get, hk, h]
theorem set_k {c a a' c' y : AV} {i : Nat} {p : List Nat} (hk : c.kid i = some a) (h : AV.set p a y = some a') (hp : c.putKid i a' = some c') : AV.set (i :: p) c y = some c' := by simp only [AV.set, hk, h, hp]
/-- A store there. -/
theorem o_ws {c c' y u : AV} {p : List Nat} {l : List (Nat × Ob)} (sh : Sh) (h1 : AV.get p c = some u) (hs : u.sh = sh) (h2 : AV.set p c y = some c') : AV.any = .any ∧ l = l ∧ ((∃ u, AV.get p c = some u ∧ u.sh = sh) ∧ AV.set p c y = some c') := ⟨rfl, rfl, ⟨u, h1, hs⟩, h2⟩
/-- An array as long as it must be. -/
def lq {α : Type} (n : Nat) (xs : List α) : Option Unit := if xs.length = n then some () else none
theorem lq_some {α : Type} {n : Nat} {xs : List α} {u : Unit} (h : lq n xs = some u) : xs.length = n := by
  unfold lq at h
  split at h
  · assumption
  · cases h
end

/-! Rounds in mirrors: the state is .inl while the loop goes on, .inr when a round has left it. -/
def ymk {V W X : Type} (b : V → X → Option (V ⊕ W)) : V ⊕ W → X → Option ((V ⊕ W) × Bool)
  | .inl v, x => match b v x with
    | none => none
    | some (.inl v') => some (.inl v', true)
    | some (.inr w) => some (.inr w, false)
  | .inr _, _ => none
theorem ymk_inv {V W X : Type} {b : V → X → Option (V ⊕ W)} {s : V ⊕ W} {x : X} {r : (V ⊕ W) × Bool} (h : ymk b s x = some r) : ∃ v u, s = .inl v ∧ b v x = some u ∧ r = (u, u.isLeft) := by
  cases s with
  | inr w => cases h
  | inl v =>
    simp only [ymk] at h
    cases hb : b v x with
    | none => rw [hb] at h; cases h
    | some u =>
      rw [hb] at h
      cases u with
      | inl v' => cases h; exact ⟨v, _, rfl, hb, rfl⟩
      | inr w => cases h; exact ⟨v, _, rfl, hb, rfl⟩
def stO {V W : Type} : V ⊕ W → LoopState
  | .inl _ => .ready
  | .inr _ => .done
def peO {V W : Type} (c : Code) : V ⊕ W → Option Code
  | .inl _ => none
  | .inr _ => some c
def jw {V W R : Type} (s : V ⊕ W) (k : V → Option R) (j : W → Option R) : Option R := match s with
  | .inl v => k v
  | .inr w => j w

/-! Parts of code. -/
def sq1 : Code → Code
  | .seq a _ => a
  | c => c
def sq2 : Code → Code
  | .seq _ b => b
  | c => c
def cd1 : Code → Code
  | .cond _ a _ => a
  | c => c
def cd2 : Code → Code
  | .cond _ _ b => b
  | c => c
def bl1 : Code → Code
  | .block _ c => c
  | c => c
def lp1 : Code → Code
  | .loop c => c
  | c => c
def sc1 : Code → Code
  | .scope c => c
  | c => c
def rgA : Code → Code
  | .rangeFunc _ _ a _ => a
  | c => c
def rgB : Code → Code
  | .rangeFunc _ _ _ b => b
  | c => c
end Go.Sep
