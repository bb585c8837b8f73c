/- What mirrors are made of, and what certificates use. -/
import Derived.Test.YtkchimbalpiilaaGreatSepU
set_option linter.all false
set_option linter.deprecated false
namespace Go.Sep
open Go

/-- How values of a Lean type are seen as data. -/
structure Ec (α : Type) where
  x : α → D
  m : List α → List D
  hm : ∀ xs, m xs = xs.map x

/-! Mirrors. -/

def bd {α β : Type} (m : Option α) (k : α → Option β) : Option β := match m with
  | none => none
  | some x => k x
def ix {α : Type} (xs : List α) (i : Int) : Option α := if 0 ≤ i then xs[i.toNat]? else none
def ln {α : Type} (xs : List α) : Int := (xs.length : Int)
def ad (a b : Int) : Int := IntKind.i64.wrap (a + b)
def sb (a b : Int) : Int := IntKind.i64.wrap (a - b)
def mu (a b : Int) : Int := IntKind.i64.wrap (a * b)
def ngt (a : Int) : Int := IntKind.i64.wrap (-a)
def band (k : IntKind) (a b : Int) : Int := k.wrap (BitVec.ofInt k.bits a &&& BitVec.ofInt k.bits b).toNat
def bor (k : IntKind) (a b : Int) : Int := k.wrap (BitVec.ofInt k.bits a ||| BitVec.ofInt k.bits b).toNat
def bxor (k : IntKind) (a b : Int) : Int := k.wrap (BitVec.ofInt k.bits a ^^^ BitVec.ofInt k.bits b).toNat
def adk (k : IntKind) (a b : Int) : Int := k.wrap (a + b)
def sbk (k : IntKind) (a b : Int) : Int := k.wrap (a - b)
def muk (k : IntKind) (a b : Int) : Int := k.wrap (a * b)
def quo (k : IntKind) (a b : Int) : Option Int := if b = 0 then none else some (k.wrap (a.tdiv b))
def rmd (k : IntKind) (a b : Int) : Option Int := if b = 0 then none else some (a.tmod b)
def shl (k : IntKind) (a b : Int) : Option Int := if 0 ≤ b then some (k.wrap (a * 2 ^ (min b.toNat k.bits))) else none
def shr (k : IntKind) (a b : Int) : Option Int := if 0 ≤ b then some (a.fdiv (2 ^ (min b.toNat k.bits))) else none
/-- Append, of elements of so many bytes: not too long. -/
def ap {α : Type} (n : Nat) (xs ys : List α) : Option (List α) :=
  if (xs.length + ys.length) * n ≤ 140737488355328 ∧ xs.length + ys.length ≤ 140737488355328 then some (xs ++ ys) else none
def sa (a b : List UInt8) : Option (List UInt8) := if a.length + b.length ≤ lim then some (a ++ b) else none
/-- make: so many zeros. -/
def mk {α : Type} (n : Nat) (z : α) (l c : Int) : Option (List α) :=
  if 0 ≤ l ∧ l ≤ c ∧ (n : Int) * c ≤ 281474976710656 ∧ c ≤ 281474976710656 then some (List.replicate l.toNat z) else none
def sl {α : Type} (xs : List α) (l h : Int) : Option (List α) :=
  if 0 ≤ l ∧ l ≤ h ∧ h ≤ xs.length then some ((xs.take h.toNat).drop l.toNat) else none
def st {α : Type} (xs : List α) (i : Int) (y : α) : Option (List α) := if 0 ≤ i ∧ i.toNat < xs.length then some (xs.set i.toNat y) else none

theorem bd_some {α β : Type} {m : Option α} {k : α → Option β} {r : β} (h : bd m k = some r) : ∃ v, m = some v ∧ k v = some r := by
  cases m with
  | none => cases h
  | some x => exact ⟨x, rfl, h⟩
theorem if_some {α : Type} {c : Bool} {x y : Option α} {r : α} (h : (if c = true then x else y) = some r) : (c = true ∧ x = some r) ∨ (c = false ∧ y = some r) := by
  cases c
  · exact .inr ⟨rfl, h⟩
  · exact .inl ⟨rfl, h⟩

/-- What comes out with enough fuel. -/
def lim' {R : Type} (g : Nat → Option R) : Option R := g LF
theorem lim_some {R : Type} {g : Nat → Option R} {r : R} (h : lim' g = some r) : ∃ n, g n = some r := ⟨LF, h⟩

/-! What is to be shown, in a row. -/
theorem a0 : All [] := trivial
theorem a1 {p : Prop} {l : List Prop} (h : p) (t : All l) : All (p :: l) := ⟨h, t⟩

abbrev Same1 (x y : AV) (p : Prop) : Prop := x = y ∧ ([] : List (Nat × Ob)) = [] ∧ p
theorem oB {c d : Bool} (h : c = d) : Same1 (.d (.bool c)) (.d (.bool d)) True := ⟨by rw [h], rfl, trivial⟩
theorem oE {x y : D} (h : x = y) : Same1 (.d x) (.d y) True := ⟨by rw [h], rfl, trivial⟩

section
variable {α : Type} (k : Ec α)
theorem k_len (xs : List α) : (k.m xs).length = xs.length := by rw [k.hm]; simp
theorem k_len' (xs : List α) : xs.length = (k.m xs).length := (k_len k xs).symm
theorem k_get (xs : List α) (i : Nat) : (k.m xs)[i]? = (xs[i]?).map k.x := by rw [k.hm]; simp

/-- The length of data. -/
theorem o_ln (xs : List α) : Same1 (.d (.int .i64 ((k.m xs).length : Int))) (.d (.int .i64 (ln xs))) True := ⟨by rw [k_len]; rfl, rfl, trivial⟩
/-- The place of an element of data. -/
theorem o_ix {xs : List α} {n : Int} {y : α} (h : ix xs n = some y) : 0 ≤ n ∧ (k.m xs)[n.toNat]? = some (k.x y) := by
  unfold ix at h
  split at h
  · rename_i h0
    exact ⟨h0, by rw [k_get, h]; rfl⟩
  · cases h
/-- The place of an element of a row. -/
theorem o_ixr {xs : List α} {n : Int} {y : α} (h : ix xs n = some y) : 0 ≤ n ∧ n < (xs.length : Nat) ∧ xs.length = (k.m xs).length := by
  unfold ix at h
  split at h
  · rename_i h0
    have := (List.getElem?_eq_some_iff.1 h).1
    exact ⟨h0, by omega, k_len' k xs⟩
  · cases h
/-- The element there. -/
theorem o_ldr {xs : List α} {n : Int} {y : α} (h : ix xs n = some y) : xs.length = (k.m xs).length ∧ (k.m xs)[n.toNat]? = some (k.x y) := ⟨k_len' k xs, (o_ix k h).2⟩

theorem ap_some {n : Nat} {xs ys zs : List α} (h : ap n xs ys = some zs) : zs = xs ++ ys ∧ (xs.length + ys.length) * n ≤ 140737488355328 ∧ xs.length + ys.length ≤ 140737488355328 := by
  unfold ap at h
  split at h
  · rename_i h1
    cases h
    exact ⟨rfl, h1⟩
  · cases h

/-- Rows of elements without slices. -/
theorem flats_m (h : ∀ x, (k.x x).flat = true) (xs : List α) : D.flats (k.m xs) = true := by
  rw [k.hm]
  induction xs with
  | nil => rfl
  | cons x xs ih => simp only [List.map_cons, D.flats, h x, ih, Bool.and_self]
theorem pl0 : allPlain [] = true := rfl
theorem plB {c : AV} {l : List Ob} (h : c.plain = true) (t : allPlain l = true) : allPlain (.box c :: l) = true := by simp only [allPlain, Ob.plain, h, t, Bool.and_self]
theorem plR {ty : Nat} {sh : Sh} {xs : List α} {l : List Ob} (h : ∀ x, (k.x x).flat = true) (t : allPlain l = true) : allPlain (.row ty sh (k.m xs) :: l) = true := by
  simp only [allPlain, Ob.plain, flats_m k h xs, t, Bool.and_self]

/-- A literal. -/
theorem o_lit (ys : List α) (sh : Sh) {q : Prop} (hq : q) : Same1 (.d (.sl sh (ys.map k.x))) (.d (.sl sh (k.m ys))) q := ⟨by rw [k.hm], rfl, hq⟩
theorem o_litr (ys : List α) (b ty : Nat) (sh : Sh) {q : Prop} (hq : q) :
    AV.own b (ys.map k.x).length = .own b ys.length ∧ [(b, Ob.row ty sh (ys.map k.x))] = [(b, .row ty sh (k.m ys))] ∧ q := ⟨by simp, by rw [k.hm], hq⟩

/-- Append to nil: a new row. -/
theorem o_ap0 {n : Nat} {ys zs : List α} (b ty : Nat) (sh : Sh) (h : ap n [] ys = some zs) {q : Prop} (hq : q) :
    AV.own b (k.m ys).length = .own b zs.length ∧ [(b, Ob.row ty sh (k.m ys))] = [(b, .row ty sh (k.m zs))] ∧ (q ∧ (k.m ys).length * n ≤ 140737488355328 ∧ (k.m ys).length ≤ 140737488355328) := by
  obtain ⟨rfl, h1, h2⟩ := ap_some h
  simp only [List.length_nil, Nat.zero_add] at h1 h2
  exact ⟨by simp [k_len], by simp, hq, by rw [k_len]; exact h1, by rw [k_len]; exact h2⟩
/-- Append to a row. -/
theorem o_ap {n : Nat} {xs ys zs : List α} (b ty : Nat) (sh : Sh) (h : ap n xs ys = some zs) {q : Prop} (hq : q) :
    AV.own b (k.m xs ++ k.m ys).length = .own b zs.length ∧ [(b, Ob.row ty sh (k.m xs ++ k.m ys))] = [(b, .row ty sh (k.m zs))] ∧
      (q ∧ xs.length = (k.m xs).length ∧ (k.m xs ++ k.m ys).length * n ≤ 140737488355328 ∧ (k.m xs ++ k.m ys).length ≤ 140737488355328) := by
  obtain ⟨rfl, h1, h2⟩ := ap_some h
  have e : k.m xs ++ k.m ys = k.m (xs ++ ys) := by rw [k.hm, k.hm, k.hm, List.map_append]
  rw [e, k_len, List.length_append]
  exact ⟨rfl, rfl, hq, k_len' k xs, h1, h2⟩
theorem st_some {xs zs : List α} {n : Int} {y : α} (h : st xs n y = some zs) : zs = xs.set n.toNat y := by
  unfold st at h
  split at h
  · cases h; rfl
  · cases h
theorem st_len {xs zs : List α} {n : Int} {y : α} (h : st xs n y = some zs) : xs.length = zs.length := by rw [st_some h]; simp
/-- A store to an element of a row. -/
theorem o_st {xs zs : List α} {n : Int} {y y' : α} {l : Nat} (b ty : Nat) (sh : Sh) (hx : ix xs n = some y) (h : st xs n y' = some zs) (hl : l = (k.m xs).length) :
    AV.any = .any ∧ [(b, Ob.row ty sh ((k.m xs).set n.toNat (k.x y')))] = [(b, .row ty sh (k.m zs))] ∧ (l = (k.m xs).length ∧ (k.m xs)[n.toNat]? = some (k.x y)) := by
  refine ⟨rfl, ?_, hl, (o_ix k hx).2⟩
  rw [st_some h, k.hm, k.hm, List.map_set]

/-- make. -/
theorem o_mk {n : Nat} {z : α} {l c : Int} {zs : List α} (b ty : Nat) (sh : Sh) (h : mk n z l c = some zs) {q : Prop} (hq : q) :
    AV.own b (List.replicate l.toNat (k.x z)).length = .own b zs.length ∧ [(b, Ob.row ty sh (List.replicate l.toNat (k.x z)))] = [(b, .row ty sh (k.m zs))] ∧
      (q ∧ 0 ≤ l ∧ l ≤ c ∧ ((n : Nat) : Int) * c ≤ 281474976710656 ∧ c ≤ 281474976710656) := by
  unfold mk at h
  split at h
  · rename_i h1
    cases h
    have e : k.m (List.replicate l.toNat z) = List.replicate l.toNat (k.x z) := by rw [k.hm, List.map_replicate]
    rw [e, List.length_replicate, List.length_replicate]
    exact ⟨rfl, rfl, hq, h1⟩
  · cases h
/-- A part of data. -/
theorem o_sl {xs zs : List α} {l h : Int} (sh : Sh) (e : sl xs l h = some zs) {q : Prop} (hq : q) :
    Same1 (.d (.sl sh (((k.m xs).take h.toNat).drop l.toNat))) (.d (.sl sh (k.m zs))) (q ∧ 0 ≤ l ∧ l ≤ h ∧ h ≤ (k.m xs).length) := by
  unfold sl at e
  split at e
  · rename_i h1
    cases e
    refine ⟨?_, rfl, hq, h1.1, h1.2.1, by rw [k_len]; exact h1.2.2⟩
    rw [k.hm, k.hm, List.map_drop, List.map_take]
  · cases e
end

theorem o_slh {α : Type} (k : Ec α) {xs zs : List α} {l : Int} (sh : Sh) (e : sl xs l (ln xs) = some zs) {q : Prop} (hq : q) :
    Same1 (.d (.sl sh (((k.m xs).take ((k.m xs).length : Int).toNat).drop l.toNat))) (.d (.sl sh (k.m zs))) (q ∧ 0 ≤ l ∧ l ≤ ((k.m xs).length : Int) ∧ ((k.m xs).length : Int) ≤ (k.m xs).length) := by
  have := o_sl k sh e hq
  unfold ln at this
  rw [k_len] at this ⊢
  exact this
theorem o_quo {k : IntKind} {a b n : Int} (h : quo k a b = some n) : Same1 (.d (.int k (k.wrap (a.tdiv b)))) (.d (.int k n)) (b ≠ 0) := by
  unfold quo at h
  split at h
  · cases h
  · rename_i h1; cases h; exact ⟨rfl, rfl, h1⟩
theorem o_rmd {k : IntKind} {a b n : Int} (h : rmd k a b = some n) : Same1 (.d (.int k (a.tmod b))) (.d (.int k n)) (b ≠ 0) := by
  unfold rmd at h
  split at h
  · cases h
  · rename_i h1; cases h; exact ⟨rfl, rfl, h1⟩
theorem o_shl {k : IntKind} {a b n : Int} (h : shl k a b = some n) : Same1 (.d (.int k (k.wrap (a * 2 ^ (min b.toNat k.bits))))) (.d (.int k n)) (0 ≤ b) := by
  unfold shl at h
  split at h
  · rename_i h1; cases h; exact ⟨rfl, rfl, h1⟩
  · cases h
theorem o_shr {k : IntKind} {a b n : Int} (h : shr k a b = some n) : Same1 (.d (.int k (a.fdiv (2 ^ (min b.toNat k.bits))))) (.d (.int k n)) (0 ≤ b) := by
  unfold shr at h
  split at h
  · rename_i h1; cases h; exact ⟨rfl, rfl, h1⟩
  · cases h
theorem o_sa {a b s : List UInt8} (h : sa a b = some s) : Same1 (.d (.str (a ++ b))) (.d (.str s)) (a.length + b.length ≤ lim) := by
  unfold sa at h
  split at h
  · rename_i h1; cases h; exact ⟨rfl, rfl, h1⟩
  · cases h
theorem o_bt {s : List UInt8} {n : Int} {b : UInt8} (h : ix s n = some b) : 0 ≤ n ∧ s[n.toNat]? = some b := by
  unfold ix at h
  split at h
  · rename_i h0; exact ⟨h0, h⟩
  · cases h
theorem o_ssl {s z : List UInt8} {l h : Int} (e : sl s l h = some z) : Same1 (.d (.str ((s.take h.toNat).drop l.toNat))) (.d (.str z)) (0 ≤ l ∧ l ≤ h ∧ h ≤ s.length) := by
  unfold sl at e
  split at e
  · rename_i h1; cases e; exact ⟨rfl, rfl, h1⟩
  · cases e

section
variable {C : Cx} {E : En} {N : Nat} {Q : Exit → Act → World → Prop} {V R : Type}

theorem CD.condT {s : S} {c : Operand} {x y : Code} {b : Bool} (hc : evA C (at' s.t) 0 c = some (.d (.bool b))) (h : b = true) (k : CD C E N x s Q) : CD C E N (.cond c x y) s Q :=
  CD.cond hc (fun _ => k) (fun e => by rw [h] at e; cases e)
theorem CD.condF {s : S} {c : Operand} {x y : Code} {b : Bool} (hc : evA C (at' s.t) 0 c = some (.d (.bool b))) (h : b = false) (k : CD C E N y s Q) : CD C E N (.cond c x y) s Q :=
  CD.cond hc (fun e => by rw [h] at e; cases e) (fun _ => k)

theorem NX.th {s : S} {K : Act → World → Prop} {id : Nat} (h : NX C E N s (Q (.exit id))) : NX C E N s (Exit.then K Q (.exit id)) := h
theorem NX.blN {s : S} {id : Nat} (h : NX C E N s (Q .normal)) : NX C E N s (Exit.inBlock id Q .normal) := h
theorem NX.lq {s : S} {st : V → S} {r : R} {id : Nat} (h : NX C E N s (Q (.exit id))) : NX C E N s (LQ C E N st Q (.inr r) (.exit id)) := h

/-- The end of a part: it goes on, with v. -/
theorem NX.inl {s : S} {st : V → S} {v : V} {Q : Exit → Act → World → Prop} (h : keepC s (keysOf (st v).t) (keysOf (st v).o) = some (st v)) :
    NX C E N s (LQ C E N (R := R) st Q (.inl v) .normal) :=
  NX.keep (K := St C E N (st v)) (st v) h (fun _ _ h => h)

theorem CD.loopK {b : V → Option (V ⊕ R)} (st : V → S) {v0 : V} {r : R} {body : Code} {s : S} (h : iter b v0 = some r) (hk : keepC s (keysOf (st v0).t) (keysOf (st v0).o) = some (st v0))
    (round : ∀ v u, b v = some u → (∀ r', u = .inr r' → r' = r) → CD C E N body (st v) (LQ C E N st Q u)) : CD C E N (.loop body) s Q :=
  NX.keep (st v0) hk (CD.loop st h round)
end
end Go.Sep
