/- Regions whose operations come in any order that is allowed: the order does not matter. -/
import Derived.Test.YtkchimbalpiilaaGreatSepN
set_option linter.all false
set_option linter.deprecated false
namespace Go.Sep
open Go

def memB (k : Nat) : List Nat → Bool
  | [] => false
  | a :: l => Nat.beq a k || memB k l

theorem memB_iff {k : Nat} : ∀ {l : List Nat}, memB k l = true ↔ k ∈ l
  | [] => by simp [memB]
  | a :: l => by
    simp only [memB, Bool.or_eq_true, List.mem_cons, memB_iff (l := l)]
    constructor
    · rintro (h | h)
      · exact .inl (Nat.eq_of_beq_eq_true h).symm
      · exact .inr h
    · rintro (rfl | h)
      · exact .inl (beq_same k)
      · exact .inr h

def interB (a b : List Nat) : Bool := match a with
  | [] => false
  | x :: a => memB x b || interB a b

theorem interB_false {b : List Nat} : ∀ {a : List Nat}, interB a b = false → ∀ x ∈ a, x ∉ b
  | [], _, x, h => by cases h
  | y :: a, hi, x, h => by
    simp only [interB, Bool.or_eq_false_iff] at hi
    cases h with
    | head => exact fun hb => by rw [memB_iff.2 hb] at hi; cases hi.1
    | tail _ h => exact interB_false hi.2 x h

/-- An operation with what it reads and writes. -/
structure Item where
  o : Oper
  r : Rc
  rt : List Nat
  ro : List Nat

def Item.wt (x : Item) : List Nat := match x.o.dst with
  | some d => [d]
  | none => []
def Item.wo (x : Item) : List Nat := x.r.fr ++ x.r.ow.map (·.1)

def Item.apart (x y : Item) : Bool :=
  !(interB x.wt y.rt) && (!(interB x.wt y.wt) && (!(interB x.rt y.wt) && (!(interB x.wo y.ro) && (!(interB x.wo y.wo) && !(interB x.ro y.wo)))))

theorem Item.apart_spec {x y : Item} (h : x.apart y = true) :
    (∀ k ∈ x.wt, k ∉ y.rt) ∧ (∀ k ∈ x.wt, k ∉ y.wt) ∧ (∀ k ∈ x.rt, k ∉ y.wt) ∧ (∀ k ∈ x.wo, k ∉ y.ro) ∧ (∀ k ∈ x.wo, k ∉ y.wo) ∧ (∀ k ∈ x.ro, k ∉ y.wo) := by
  simp only [Item.apart, Bool.and_eq_true, Bool.not_eq_true'] at h
  exact ⟨interB_false h.1, interB_false h.2.1, interB_false h.2.2.1, interB_false h.2.2.2.1, interB_false h.2.2.2.2.1, interB_false h.2.2.2.2.2⟩

/-! States after some of the operations. -/
def stL (L : Nat → Bool) : Nat → List Item → SF → SF
  | _, [], f => f
  | i, x :: l, f => stL L (i + 1) l (if L i then app x.o x.r f else f)

theorem putT_other {t : Nat → AV} {x : Item} {k : Nat} (h : k ∉ x.wt) (v : AV) : putT t x.o.dst v k = t k := by
  unfold Item.wt at h
  unfold putT
  cases hd : x.o.dst with
  | none => rfl
  | some d =>
    rw [hd] at h
    simp only [List.mem_singleton] at h
    exact upd_other _ _ h

theorem ups_not {b : Nat} : ∀ (l : List (Nat × Ob)) (o : Nat → Option Ob), b ∉ l.map (·.1) → ups o l b = o b
  | [], o, _ => rfl
  | (i, c) :: l, o, h => by
    simp only [List.map_cons, List.mem_cons, not_or] at h
    simp only [ups]
    rw [ups_not l _ h.2, upd_other _ _ h.1]

theorem ups_in {b : Nat} : ∀ (l : List (Nat × Ob)) (o o' : Nat → Option Ob), b ∈ l.map (·.1) → ups o l b = ups o' l b
  | [], o, o', h => by cases h
  | (i, c) :: l, o, o', h => by
    simp only [ups]
    by_cases hl : b ∈ l.map (·.1)
    · exact ups_in l _ _ hl
    · rw [ups_not l _ hl, ups_not l _ hl]
      simp only [List.map_cons, List.mem_cons] at h
      rcases h with rfl | h
      · rw [upd_same, upd_same]
      · exact absurd h hl

theorem app_t_other {x : Item} {f : SF} {k : Nat} (h : k ∉ x.wt) : (app x.o x.r f).t k = f.t k := putT_other h _
theorem app_o_other {x : Item} {f : SF} {k : Nat} (h : k ∉ x.wo) : (app x.o x.r f).o k = f.o k :=
  ups_not _ _ (fun hk => h (List.mem_append_right _ hk))

theorem app_comm {x y : Item} (h1 : ∀ k ∈ x.wt, k ∉ y.wt) (h2 : ∀ k ∈ x.wo, k ∉ y.wo) (f : SF) : app y.o y.r (app x.o x.r f) = app x.o x.r (app y.o y.r f) := by
  simp only [app, SF.mk.injEq]
  constructor
  · funext k
    unfold Item.wt at h1
    unfold putT
    cases hx : x.o.dst with
    | none => rfl
    | some d =>
      cases hy : y.o.dst with
      | none => rfl
      | some e =>
        rw [hx, hy] at h1
        have hne : d ≠ e := by simpa using h1
        simp only
        by_cases hk : k = d
        · subst hk; rw [upd_other _ _ hne, upd_same, upd_same]
        · rw [upd_other (upd f.t e y.r.v) _ hk]
          by_cases hk' : k = e
          · subst hk'; rw [upd_same, upd_same]
          · rw [upd_other _ _ hk', upd_other _ _ hk', upd_other _ _ hk]
  · funext b
    by_cases hx : b ∈ x.r.ow.map (·.1)
    · have hy : b ∉ y.r.ow.map (·.1) := fun hy => h2 b (List.mem_append_right _ hx) (List.mem_append_right _ hy)
      rw [ups_not _ _ hy]
      exact ups_in _ _ _ hx
    · rw [ups_not _ (ups f.o y.r.ow) hx]
      by_cases hy : b ∈ y.r.ow.map (·.1)
      · exact ups_in _ _ _ hy
      · rw [ups_not _ _ hy, ups_not _ _ hy, ups_not _ _ hx]

theorem stL_t {L L' : Nat → Bool} {k : Nat} : ∀ (l : List Item) (i : Nat) (f f' : SF), (∀ j x, l[j]? = some x → k ∈ x.wt → L (i + j) = L' (i + j)) → f.t k = f'.t k → (stL L i l f).t k = (stL L' i l f').t k
  | [], i, f, f', _, h => h
  | x :: l, i, f, f', hw, h => by
    simp only [stL]
    refine stL_t l (i + 1) _ _ (fun j y hy hk => ?_) ?_
    · have := hw (j + 1) y (by simpa using hy) hk
      rw [show i + 1 + j = i + (j + 1) by omega]
      exact this
    · by_cases hk : k ∈ x.wt
      · have := hw 0 x rfl hk
        simp only [Nat.add_zero] at this
        rw [this]
        split
        · have hd : x.o.dst = some k := by
            unfold Item.wt at hk
            cases hd : x.o.dst with
            | none => rw [hd] at hk; cases hk
            | some d => rw [hd] at hk; simp only [List.mem_singleton] at hk; rw [hk]
          simp only [app, putT, hd, upd_same]
        · exact h
      · have key : ∀ (b : Bool) (f : SF), (if b = true then app x.o x.r f else f).t k = f.t k := by
          intro b f
          cases b
          · rfl
          · exact app_t_other hk
        rw [key, key]
        exact h

theorem stL_o {L L' : Nat → Bool} {k : Nat} : ∀ (l : List Item) (i : Nat) (f f' : SF), (∀ j x, l[j]? = some x → k ∈ x.wo → L (i + j) = L' (i + j)) → f.o k = f'.o k → (stL L i l f).o k = (stL L' i l f').o k
  | [], i, f, f', _, h => h
  | x :: l, i, f, f', hw, h => by
    simp only [stL]
    refine stL_o l (i + 1) _ _ (fun j y hy hk => ?_) ?_
    · have := hw (j + 1) y (by simpa using hy) hk
      rw [show i + 1 + j = i + (j + 1) by omega]
      exact this
    · by_cases hk : k ∈ x.wo
      · have := hw 0 x rfl hk
        simp only [Nat.add_zero] at this
        rw [this]
        split
        · by_cases hk' : k ∈ x.r.ow.map (·.1)
          · exact ups_in _ _ _ hk'
          · simp only [app]
            rw [ups_not _ _ hk', ups_not _ _ hk']
            exact h
        · exact h
      · have key : ∀ (b : Bool) (f : SF), (if b = true then app x.o x.r f else f).o k = f.o k := by
          intro b f
          cases b
          · rfl
          · exact app_o_other hk
        rw [key, key]
        exact h

theorem stL_congr {L L' : Nat → Bool} : ∀ (l : List Item) (i : Nat) (f : SF), (∀ j, j < l.length → L (i + j) = L' (i + j)) → stL L i l f = stL L' i l f
  | [], i, f, _ => rfl
  | x :: l, i, f, h => by
    simp only [stL]
    have h0 := h 0 (by simp)
    simp only [Nat.add_zero] at h0
    rw [h0]
    exact stL_congr l (i + 1) _ (fun j hj => by have := h (j + 1) (by simp; omega); rw [show i + 1 + j = i + (j + 1) by omega]; exact this)

/-- What comes later does not touch what x writes. -/
theorem stL_push {L : Nat → Bool} {x : Item} : ∀ (l : List Item) (i : Nat) (f : SF), (∀ j y, l[j]? = some y → L (i + j) = true → (∀ k ∈ x.wt, k ∉ y.wt) ∧ ∀ k ∈ x.wo, k ∉ y.wo) →
    stL L i l (app x.o x.r f) = app x.o x.r (stL L i l f)
  | [], i, f, _ => rfl
  | y :: l, i, f, h => by
    simp only [stL]
    have h' : ∀ j z, l[j]? = some z → L (i + 1 + j) = true → (∀ k ∈ x.wt, k ∉ z.wt) ∧ ∀ k ∈ x.wo, k ∉ z.wo := fun j z hz hL =>
      h (j + 1) z (by simpa using hz) (by rw [show i + (j + 1) = i + 1 + j by omega]; exact hL)
    cases hL : L i with
    | false => exact stL_push l (i + 1) f h'
    | true =>
      simp only [if_true]
      obtain ⟨h1, h2⟩ := h 0 y rfl hL
      rw [app_comm h1 h2]
      exact stL_push l (i + 1) _ h'

theorem stL_list {L L' : Nat → Bool} {x : Item} : ∀ (l : List Item) (i j : Nat) (f : SF), l[j]? = some x → L (i + j) = false → L' (i + j) = true → (∀ k, k ≠ i + j → L' k = L k) →
    (∀ k y, l[k]? = some y → j < k → L (i + k) = true → (∀ k ∈ x.wt, k ∉ y.wt) ∧ ∀ k ∈ x.wo, k ∉ y.wo) → stL L' i l f = app x.o x.r (stL L i l f)
  | [], i, j, f, h, _, _, _, _ => by simp at h
  | y :: l, i, 0, f, h, h0, h1, he, hw => by
    simp only [List.getElem?_cons_zero, Option.some.injEq] at h
    subst h
    simp only [Nat.add_zero] at h0 h1 he
    simp only [stL, h0, h1, if_true, Bool.false_eq_true, if_false]
    rw [stL_congr (L := L') (L' := L) l (i + 1) _ (fun j _ => he _ (by omega))]
    exact stL_push l (i + 1) f (fun j z hz hL => hw (j + 1) z (by simpa using hz) (by omega) (by rw [show i + (j + 1) = i + 1 + j by omega]; exact hL))
  | y :: l, i, j + 1, f, h, h0, h1, he, hw => by
    simp only [stL]
    rw [he i (by omega)]
    exact stL_list l (i + 1) j _ (by simpa using h) (by rw [show i + 1 + j = i + (j + 1) by omega]; exact h0) (by rw [show i + 1 + j = i + (j + 1) by omega]; exact h1)
      (fun k hk => he k (by omega)) (fun k z hz hjk hL => hw (k + 1) z (by simpa using hz) (by omega) (by rw [show i + (k + 1) = i + 1 + k by omega]; exact hL))

/-- The states of the text. -/
def runs : List Item → SF → SF
  | [], f => f
  | x :: l, f => runs l (app x.o x.r f)

theorem stL_runs {L : Nat → Bool} : ∀ (l : List Item) (i n : Nat) (f : SF), (∀ j, L (i + j) = decide (j < n)) → stL L i l f = runs (l.take n) f
  | [], i, n, f, _ => by simp [stL, runs]
  | x :: l, i, 0, f, h => by
    have h0 := h 0
    simp only [Nat.add_zero, Nat.lt_irrefl, decide_false] at h0
    simp only [stL, h0, Bool.false_eq_true, if_false, List.take_zero, runs]
    have := stL_runs (L := L) l (i + 1) 0 f (fun j => by have := h (j + 1); rw [show i + 1 + j = i + (j + 1) by omega, this]; simp)
    simpa [runs] using this
  | x :: l, i, n + 1, f, h => by
    have h0 := h 0
    simp only [Nat.add_zero, Nat.zero_lt_succ, decide_true] at h0
    simp only [stL, h0, if_true, List.take_succ_cons, runs]
    exact stL_runs l (i + 1) n _ (fun j => by have := h (j + 1); rw [show i + 1 + j = i + (j + 1) by omega, this]; simp)
end Go.Sep
