/- Rules for iteration in mirrors. -/
import Derived.Test.YtkchimbalpiilaaGreatSepX
set_option linter.all false
set_option linter.deprecated false
namespace Go.Sep
open Go

theorem iter_of {V W : Type} {b : V → Option (V ⊕ W)} {n : Nat} {v : V} {r : W} (h : iterN b n v = some r) (hn : n ≤ LF) : iter b v = some r := iterN_mono n LF v r h hn

theorem iterN_inv {V W : Type} {b : V → Option (V ⊕ W)} (I : V → Prop) (m : V → Nat) (P : W → Prop)
    (h : ∀ v, I v → (∃ v', b v = some (.inl v') ∧ I v' ∧ m v' < m v) ∨ ∃ w, b v = some (.inr w) ∧ P w) :
    ∀ n v, I v → m v < n → ∃ w, iterN b n v = some w ∧ P w
  | 0, v, _, hm => by omega
  | n + 1, v, hI, hm => by
    rcases h v hI with ⟨v', hb, hI', hm'⟩ | ⟨w, hb, hp⟩
    · obtain ⟨w, hw, hp⟩ := iterN_inv I m P h n v' hI' (by omega)
      exact ⟨w, by simp only [iterN, hb]; exact hw, hp⟩
    · exact ⟨w, by simp only [iterN, hb], hp⟩

/-- A loop with an invariant and a measure. -/
theorem iter_inv {V W : Type} {b : V → Option (V ⊕ W)} (I : V → Prop) (m : V → Nat) (P : W → Prop) {v : V} (hv : I v) (hm : m v < LF)
    (h : ∀ v, I v → (∃ v', b v = some (.inl v') ∧ I v' ∧ m v' < m v) ∨ ∃ w, b v = some (.inr w) ∧ P w) : ∃ w, iter b v = some w ∧ P w :=
  iterN_inv I m P h LF v hv hm

/-- A fold that may stop. -/
def foldE {S α W : Type} (f : S → α → S ⊕ W) : S → List α → S ⊕ W
  | s, [] => .inl s
  | s, y :: ys => match f s y with
    | .inl s' => foldE f s' ys
    | .inr w => .inr w

def nx {S V W : Type} (enc : S → Nat → V) (i : Nat) : S ⊕ W → V ⊕ W
  | .inl s => .inl (enc s (i + 1))
  | .inr w => .inr w
def fin {S W : Type} (e : S → W) : S ⊕ W → W
  | .inl s => e s
  | .inr w => w

theorem wr {n : Int} (h : -9223372036854775808 ≤ n) (h' : n < 9223372036854775808) : IntKind.i64.wrap n = n := by
  simp [IntKind.wrap, IntKind.bits, IntKind.signed]
  omega
theorem adI {a b : Int} (h : -9223372036854775808 ≤ a + b) (h' : a + b < 9223372036854775808) : ad a b = a + b := wr h h'
theorem sbI {a b : Int} (h : -9223372036854775808 ≤ a - b) (h' : a - b < 9223372036854775808) : sb a b = a - b := wr h h'
theorem LFe : LF = 4611686018427387904 := rfl
theorem ad1 {i : Nat} (h : i < LF) : ad (i : Int) 1 = ((i + 1 : Nat) : Int) := by
  rw [LFe] at h
  rw [adI (by omega) (by omega)]
  omega

theorem ix_nat {α : Type} {xs : List α} {i : Nat} : ix xs (i : Int) = xs[i]? := by
  simp only [ix, Int.natCast_nonneg, if_true, Int.toNat_natCast]

/-- A loop over a list. -/
theorem iter_list {S α V W : Type} {b : V → Option (V ⊕ W)} {v : V} (xs : List α) (enc : S → Nat → V) (f : S → α → S ⊕ W) (e : S → W) (I : S → Nat → Prop) (s0 : S)
    (hv : v = enc s0 0) (h0 : I s0 0) (hl : xs.length < LF)
    (hs : ∀ s (i : Nat) y, I s i → y ∈ xs → ix xs (i : Int) = some y → decide ((i : Int) < ln xs) = true → ad (i : Int) 1 = ((i + 1 : Nat) : Int) → b (enc s i) = some (nx enc i (f s y)))
    (hI : ∀ s i y s', I s i → ix xs (i : Int) = some y → f s y = .inl s' → I s' (i + 1))
    (he : ∀ s, I s xs.length → decide ((xs.length : Int) < ln xs) = false → b (enc s xs.length) = some (.inr (e s))) :
    iter b v = some (fin e (foldE f s0 xs)) := by
  have key : ∀ (ys : List α) (pre : List α) (s : S), xs = pre ++ ys → I s pre.length → iterN b (ys.length + 1) (enc s pre.length) = some (fin e (foldE f s ys)) := by
    intro ys
    induction ys with
    | nil =>
      intro pre s hx hI
      have hp : pre.length = xs.length := by rw [hx]; simp
      have := he s (hp ▸ hI) (by simp [ln])
      simp only [List.length_nil, iterN, hp, this, foldE, fin]
    | cons y ys ih =>
      intro pre s hx hIs
      have hy : y ∈ xs := by rw [hx]; simp
      have hlt : pre.length < xs.length := by rw [hx]; simp
      have h1 : ix xs (pre.length : Int) = some y := by rw [ix_nat, hx]; simp
      have h2 := hs s pre.length y hIs hy h1 (decide_eq_true (Int.ofNat_lt.mpr hlt)) (ad1 (Nat.lt_trans hlt hl))
      simp only [List.length_cons, iterN, h2, foldE]
      cases hf : f s y with
      | inl s' =>
        have := ih (pre ++ [y]) s' (by rw [hx]; simp) (by simpa using hI s pre.length y s' hIs h1 hf)
        simp only [List.length_append, List.length_cons, List.length_nil] at this
        simp only [nx]
        exact this
      | inr w => simp only [nx, fin]
  subst hv
  exact iter_of (key xs [] s0 rfl h0) (by omega)

/-- A loop that counts up, with an invariant. -/
theorem iter_idx {S V W : Type} {b : V → Option (V ⊕ W)} {v : V} (n : Nat) (enc : S → Nat → V) (I : S → Nat → Prop) (P : W → Prop) (s0 : S) (i0 : Nat)
    (hv : v = enc s0 i0) (h0 : I s0 i0) (h1 : i0 ≤ n) (hl : n < LF)
    (hs : ∀ s (i : Nat), I s i → i < n → ad (i : Int) 1 = ((i + 1 : Nat) : Int) → (∃ s', b (enc s i) = some (.inl (enc s' (i + 1))) ∧ I s' (i + 1)) ∨ ∃ w, b (enc s i) = some (.inr w) ∧ P w)
    (he : ∀ s, I s n → ∃ w, b (enc s n) = some (.inr w) ∧ P w) : ∃ w, iter b v = some w ∧ P w := by
  have key : ∀ (m i : Nat) (s : S), i + m = n → I s i → ∃ w, iterN b (m + 1) (enc s i) = some w ∧ P w := by
    intro m
    induction m with
    | zero =>
      intro i s hi hI
      obtain rfl : i = n := by omega
      obtain ⟨w, hw, hp⟩ := he s hI
      exact ⟨w, by simp only [iterN, hw], hp⟩
    | succ m ih =>
      intro i s hi hI
      rcases hs s i hI (by omega) (ad1 (Nat.lt_of_le_of_lt (by omega) hl)) with ⟨s', hb, hI'⟩ | ⟨w, hb, hp⟩
      · obtain ⟨w, hw, hp⟩ := ih (i + 1) s' (by omega) hI'
        exact ⟨w, by rw [iterN, hb]; exact hw, hp⟩
      · exact ⟨w, by rw [iterN, hb], hp⟩
  subst hv
  obtain ⟨w, hw, hp⟩ := key (n - i0) i0 s0 (by omega) h0
  exact ⟨w, iter_of hw (Nat.lt_of_le_of_lt (by omega) hl), hp⟩

def pu {β W : Type} (s : List β) : Option β → List β ⊕ W
  | some z => .inl (s ++ [z])
  | none => .inl s
theorem foldE_filt {α β W : Type} (g : α → Option β) : ∀ (xs : List α) (acc : List β), foldE (fun (s : List β) y => (pu s (g y) : List β ⊕ W)) acc xs = .inl (acc ++ xs.filterMap g)
  | [], acc => by simp [foldE]
  | y :: ys, acc => by
    rcases h : g y with _ | z
    · rw [foldE, h, List.filterMap_cons_none h]
      exact foldE_filt g ys acc
    · rw [foldE, h, List.filterMap_cons_some h]
      refine (foldE_filt g ys (acc ++ [z])).trans ?_
      rw [List.append_assoc]; rfl

theorem foldE_all {α W : Type} (p : α → Bool) (w : W) : ∀ xs : List α, foldE (fun (_ : Unit) y => if p y then .inl () else .inr w) () xs = if xs.all p then .inl () else .inr w
  | [] => rfl
  | y :: ys => by
    simp only [foldE, List.all_cons]
    by_cases h : p y = true
    · simp [foldE, h, foldE_all p w ys]
    · simp [foldE, h]

theorem foldE_app {α β W : Type} (g : α → List β) : ∀ (xs : List α) (acc : List β), foldE (fun (s : List β) y => (.inl (s ++ g y) : List β ⊕ W)) acc xs = .inl (acc ++ xs.flatMap g)
  | [], acc => by simp [foldE]
  | y :: ys, acc => by simp [foldE, foldE_app g ys]

theorem ap_ok {α : Type} {n : Nat} {xs ys : List α} (h : (xs.length + ys.length) * n ≤ 140737488355328) (h' : xs.length + ys.length ≤ 140737488355328) : ap n xs ys = some (xs ++ ys) := if_pos ⟨h, h'⟩
theorem mk_ok {α : Type} {n : Nat} {z : α} {l c : Nat} (h : l ≤ c) (h1 : n * c ≤ 281474976710656) (h2 : c ≤ 281474976710656) : mk n z (l : Int) (c : Int) = some (List.replicate l z) := by
  unfold mk
  have e : ((n : Int) * (c : Int)) = ((n * c : Nat) : Int) := (Int.natCast_mul n c).symm
  rw [e]
  generalize n * c = q at h1
  rw [if_pos ⟨by omega, by omega, by omega, by omega⟩, Int.toNat_natCast]
theorem st_ok {α : Type} {xs : List α} {i : Nat} {y : α} (h : i < xs.length) : st xs (i : Int) y = some (xs.set i y) := by
  unfold st
  rw [Int.toNat_natCast, if_pos ⟨by omega, h⟩]

/-! What a mirror gives. -/
def Ok {α : Type} (m : Option α) (Q : α → Prop) : Prop := ∃ r, m = some r ∧ Q r
def LR {V R : Type} (P : V → Prop) (Q : R → Prop) : V ⊕ R → Prop
  | .inl v => P v
  | .inr r => Q r

theorem Ok.some {α : Type} {r : α} {Q : α → Prop} (h : Q r) : Ok (some r) Q := ⟨r, rfl, h⟩
theorem Ok.of {α : Type} {m : Option α} {r : α} {Q : α → Prop} (e : m = .some r) (h : Q r) : Ok m Q := ⟨r, e, h⟩
theorem Ok.mono {α : Type} {m : Option α} {P Q : α → Prop} (h : Ok m P) (k : ∀ r, P r → Q r) : Ok m Q := by
  obtain ⟨r, e, p⟩ := h; exact ⟨r, e, k r p⟩
theorem Ok.bd {α β : Type} {m : Option α} {k : α → Option β} {P : α → Prop} {Q : β → Prop} (h : Ok m P) (hk : ∀ v, P v → Ok (k v) Q) : Ok (bd m k) Q := by
  obtain ⟨r, e, p⟩ := h; rw [e]; exact hk r p
theorem Ok.jn {V R : Type} {m : Option (V ⊕ R)} {k : V → Option R} {Q : R → Prop} (P : V → Prop) (h : Ok m (LR P Q)) (hk : ∀ v, P v → Ok (k v) Q) : Ok (jn m k) Q := by
  obtain ⟨w, e, p⟩ := h
  rw [e]
  cases w with
  | inl v => exact hk v p
  | inr r => exact ⟨r, rfl, p⟩
theorem Ok.ite {α : Type} {c : Bool} {x y : Option α} {Q : α → Prop} (h : c = true → Ok x Q) (h' : c = false → Ok y Q) : Ok (if c = true then x else y) Q := by
  cases c
  · exact h' rfl
  · exact h rfl
theorem Ok.ix {α : Type} {xs : List α} {i : Nat} {Q : α → Prop} (h : i < xs.length) (k : ∀ y, xs[i]? = .some y → y ∈ xs → Q y) : Ok (ix xs (i : Int)) Q :=
  ⟨xs[i], by rw [ix_nat]; simp [h], k _ (by simp [h]) (List.getElem_mem h)⟩
theorem Ok.iter {S V W : Type} {b : V → Option (V ⊕ W)} {v : V} {P : W → Prop} (n : Nat) (enc : S → Nat → V) (I : S → Nat → Prop) (s0 : S) (i0 : Nat)
    (hv : v = enc s0 i0) (h0 : I s0 i0) (h1 : i0 ≤ n) (hl : n < LF)
    (hs : ∀ s (i : Nat), I s i → i < n → ad (i : Int) 1 = ((i + 1 : Nat) : Int) → Ok (b (enc s i)) (LR (fun v => ∃ s', v = enc s' (i + 1) ∧ I s' (i + 1)) P))
    (he : ∀ s, I s n → ∃ w, b (enc s n) = .some (.inr w) ∧ P w) : Ok (iter b v) P :=
  iter_idx n enc I P s0 i0 hv h0 h1 hl (fun s i hI hi e => by
    obtain ⟨w, hw, p⟩ := hs s i hI hi e
    cases w with
    | inl v => obtain ⟨s', rfl, p'⟩ := p; exact .inl ⟨s', hw, p'⟩
    | inr r => exact .inr ⟨r, hw, p⟩) he
/-- A loop with a measure. -/
theorem Ok.whl {V W : Type} {b : V → Option (V ⊕ W)} {v : V} {P : W → Prop} (I : V → Prop) (m : V → Nat) (hv : I v) (hm : m v < LF)
    (h : ∀ v, I v → Ok (b v) (LR (fun v' => I v' ∧ m v' < m v) P)) : Ok (Go.Sep.iter b v) P :=
  iter_inv I m P hv hm fun v hI => by
    obtain ⟨w, hw, p⟩ := h v hI
    cases w with
    | inl v' => exact .inl ⟨v', hw, p.1, p.2⟩
    | inr r => exact .inr ⟨r, hw, p⟩
theorem ltT {α : Type} {xs : List α} {i : Nat} (h : i < xs.length) : decide ((i : Int) < ln xs) = true := decide_eq_true (Int.ofNat_lt.mpr h)
theorem ltF {α : Type} {xs : List α} : decide ((xs.length : Int) < ln xs) = false := by simp [ln]
end Go.Sep
