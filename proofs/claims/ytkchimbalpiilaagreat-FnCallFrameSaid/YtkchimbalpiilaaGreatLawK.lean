/- Frames and contracts: the same in both. -/
import Derived.Test.YtkchimbalpiilaaGreatLawJ
set_option linter.all false
set_option linter.deprecated false
namespace Go.Sep.Y
open Go Go.Sep

def sel (v : Int) (i : Nat) : Bool := band .i64 (v.fdiv (2 ^ (min i 64))) 1 == 1
def pk (v : Int) : Nat → List T60 → List T60
  | _, [] => []
  | i, y :: ys => if sel v i = true then y :: pk v (i + 1) ys else pk v (i + 1) ys
def pks (v : Int) (s : List T60 × Nat) (y : T60) : (List T60 × Nat) ⊕ (List T60 ⊕ (List T53 × List T60)) := .inl (if sel v s.2 = true then s.1 ++ [y] else s.1, s.2 + 1)
theorem pk_fold (v : Int) : ∀ (l acc : List T60) (i : Nat), foldE (pks v) (acc, i) l = .inl (acc ++ pk v i l, i + l.length)
  | [], acc, i => by simp [foldE, pk]
  | y :: ys, acc, i => by
    simp only [foldE, pks, pk]
    rw [pk_fold v ys]
    split
    · simp; omega
    · simp; omega
theorem pk_sub (v : Int) : ∀ (l : List T60) (i : Nat), (pk v i l).Sublist l
  | [], i => by simp [pk]
  | y :: ys, i => by
    unfold pk
    split
    · exact (pk_sub v ys (i + 1)).cons_cons _
    · exact (pk_sub v ys (i + 1)).cons _

theorem shr_eq (v : Int) (i : Nat) : shr .i64 v (i : Int) = some (v.fdiv (2 ^ (min i 64))) := by
  simp only [shr, Int.natCast_nonneg, if_true, Int.toNat_natCast, IntKind.bits]

theorem f34_eq (a : T25) (v : Int) (h : a.f1.length ≤ 1000) : f34 a v = some ([], pk v 0 a.f1) := by
  unfold f34
  rw [iter_list (v := ([], 0)) a.f1 (fun (s : List T60 × Nat) i => (s.1, (i : Int))) (pks v) (fun s => .inl s.1) (fun s i => s.2 = i ∧ s.1.length ≤ i) ([], 0) rfl ⟨rfl, Nat.le_refl _⟩ (by rw [LFe]; omega)
    (fun s i y hs hm h1 h2 h3 => by
      obtain ⟨s1, s2⟩ := s
      obtain ⟨rfl, hs2⟩ := hs
      simp only at hs2 h1 h2 h3
      have hi : s2 < a.f1.length := by simpa [ln] using h2
      have e := ap_ok (n := 24) (xs := s1) (ys := [y]) (by simp only [List.length_singleton]; omega) (by simp only [List.length_singleton]; omega)
      simp only [h1, h2, h3, bd, if_true, shr_eq, e, pks]
      unfold sel
      cases band .i64 (v.fdiv (2 ^ (min s2 64))) 1 == 1 <;> rfl)
    (fun s i y s' hs _ hf => by
      obtain ⟨s1, s2⟩ := s
      obtain ⟨rfl, hs2⟩ := hs
      simp only [pks] at hf
      cases hf
      refine ⟨rfl, ?_⟩
      simp only at hs2 ⊢
      split
      · simp; omega
      · omega)
    (fun s _ h2 => by simp only [h2]; rfl), pk_fold]
  simp [fin, jn]
theorem f53_eq (a : T25) (v : Int) (h : a.f1.length ≤ 1000) : f53 a v = some ([], pk v 0 a.f1) := by
  unfold f53
  rw [iter_list (v := ([], 0)) a.f1 (fun (s : List T60 × Nat) i => (s.1, (i : Int))) (pks v) (fun s => .inl s.1) (fun s i => s.2 = i ∧ s.1.length ≤ i) ([], 0) rfl ⟨rfl, Nat.le_refl _⟩ (by rw [LFe]; omega)
    (fun s i y hs hm h1 h2 h3 => by
      obtain ⟨s1, s2⟩ := s
      obtain ⟨rfl, hs2⟩ := hs
      simp only at hs2 h1 h2 h3
      have hi : s2 < a.f1.length := by simpa [ln] using h2
      have e := ap_ok (n := 24) (xs := s1) (ys := [y]) (by simp only [List.length_singleton]; omega) (by simp only [List.length_singleton]; omega)
      simp only [h1, h2, h3, bd, if_true, shr_eq, e, pks]
      unfold sel
      cases band .i64 (v.fdiv (2 ^ (min s2 64))) 1 == 1 <;> rfl)
    (fun s i y s' hs _ hf => by
      obtain ⟨s1, s2⟩ := s
      obtain ⟨rfl, hs2⟩ := hs
      simp only [pks] at hf
      cases hf
      refine ⟨rfl, ?_⟩
      simp only at hs2 ⊢
      split
      · simp; omega
      · omega)
    (fun s _ h2 => by simp only [h2]; rfl), pk_fold]
  simp [fin, jn]

theorem lns {α : Type} (xs ys : List α) (h : xs.length + ys.length ≤ 100000) : ad (ln xs) (ln ys) = ((xs.length + ys.length : Nat) : Int) := by
  unfold ln
  rw [adI (by omega) (by omega)]; omega
theorem f19_eq (x y : List T53) (h : x.length + y.length ≤ 100000) : f19 x y = some (x ++ y) := by
  have e : mk 24 (⟨false, 0, 0⟩ : T53) 0 ((x.length + y.length : Nat) : Int) = some [] := mk_ok (l := 0) (by omega) (by omega) (by omega)
  simp only [f19, lns x y h, e, bd, ap_ok (n := 24) (xs := ([] : List T53)) (ys := x) (by simp; omega) (by simp; omega), List.nil_append, ap_ok (n := 24) (xs := x) (ys := y) (by omega) (by omega)]
theorem f21_eq (x y : List T60) (h : x.length + y.length ≤ 100000) : f21 x y = some (x ++ y) := by
  have e : mk 24 (⟨0, 0, 0⟩ : T60) 0 ((x.length + y.length : Nat) : Int) = some [] := mk_ok (l := 0) (by omega) (by omega) (by omega)
  simp only [f21, lns x y h, e, bd, ap_ok (n := 24) (xs := ([] : List T60)) (ys := x) (by simp; omega) (by simp; omega), List.nil_append, ap_ok (n := 24) (xs := x) (ys := y) (by omega) (by omega)]
theorem f27_eq (x y : T25) (h : x.f0.length + y.f0.length ≤ 100000) (h' : x.f1.length + y.f1.length ≤ 100000) : f27 x y = some (x.f0 ++ y.f0, x.f1 ++ y.f1) := by
  simp only [f27, bd, ap_ok (n := 24) (xs := ([] : List T53)) (ys := x.f0) (by simp; omega) (by simp; omega), ap_ok (n := 24) (xs := ([] : List T60)) (ys := x.f1) (by simp; omega) (by simp; omega), List.nil_append,
    ap_ok (n := 24) (xs := x.f0) (ys := y.f0) (by omega) (by omega), ap_ok (n := 24) (xs := x.f1) (ys := y.f1) (by omega) (by omega)]

/-- Is this a frame? -/
def fr (a p : T25) (v : Int) : Bool := valid ⟨p.f0 ++ [], p.f1 ++ pk v 0 a.f1⟩ && ent a ⟨p.f0 ++ [], p.f1 ++ pk v 0 a.f1⟩
def ff (a p : T25) : Option Nat := (List.range (2 ^ a.f1.length)).find? fun v => fr a p (v : Int)

theorem valid_pk {a : T25} (h : valid a = true) (v : Int) : valid ⟨[], pk v 0 a.f1⟩ = true := by
  simp only [valid, okFs, Bool.and_eq_true] at h ⊢
  obtain ⟨h1, _, h4⟩ := h
  have q4 : (a.f1.length : Int) ≤ 6 := of_decide_eq_true h4
  have hs := pk_sub v a.f1 0
  refine ⟨List.all_eq_true.mpr fun y hy => List.all_eq_true.mp h1 y (hs.subset hy), ⟨rfl, rfl⟩, decide_eq_true ?_⟩
  have := hs.length_le
  simp only [ln]
  omega

theorem f32_eq {a p : T25} (ha : valid a = true) (hp : valid p = true) (v : Int) : f32 v p a = some (fr a p v) := by
  obtain ⟨a1, a2, _, _⟩ := valid_facts ha
  obtain ⟨p1, p2, _, _⟩ := valid_facts hp
  have hv := valid_pk ha v
  have hl := (pk_sub v a.f1 0).length_le
  have e3 : f33 p (⟨[], pk v 0 a.f1⟩ : T25) = some (if valid ⟨p.f0 ++ [], p.f1 ++ pk v 0 a.f1⟩ = true then (p.f0 ++ [], p.f1 ++ pk v 0 a.f1, true) else ([], [], false)) := by
    simp only [f33, f15_eq p (by rw [LFe]; omega) (by rw [LFe]; omega), f15_eq (⟨[], pk v 0 a.f1⟩ : T25) (by rw [LFe]; simp) (by rw [LFe]; show (pk v 0 a.f1).length < _; omega), hp, hv, bdS, jn, Bool.not_true, Bool.false_eq_true, if_false,
      f19_eq p.f0 [] (by simp; omega), f21_eq p.f1 (pk v 0 a.f1) (by omega), f15_eq (⟨p.f0 ++ [], p.f1 ++ pk v 0 a.f1⟩ : T25) (by rw [LFe]; simp; omega) (by rw [LFe]; simp; omega)]
    cases valid ⟨p.f0 ++ [], p.f1 ++ pk v 0 a.f1⟩ <;> rfl
  simp only [f32, f34_eq a v (by omega), bdS, e3]
  unfold fr
  cases h : valid ⟨p.f0 ++ [], p.f1 ++ pk v 0 a.f1⟩ with
  | false => rfl
  | true => simp only [if_true, f35_eq (a := a) (b := ⟨p.f0 ++ [], p.f1 ++ pk v 0 a.f1⟩) (by rw [LFe]; omega) (by rw [LFe]; omega) (by rw [LFe]; simp; omega) (by rw [LFe]; simp; omega), ha, h, bdS, Bool.true_and]

theorem foldE_find {α W : Type} (q : α → Bool) (w : α → W) : ∀ l : List α, foldE (fun (_ : Unit) y => if q y = true then .inr (w y) else .inl ()) () l = match l.find? q with | some y => .inr (w y) | none => .inl ()
  | [] => rfl
  | y :: ys => by
    by_cases h : q y = true
    · simp [foldE, h]
    · simp [foldE, h, foldE_find q w ys]

theorem shl_eq {n : Nat} (h : n ≤ 6) : shl .i64 1 (n : Int) = some ((2 ^ n : Nat) : Int) := by
  have : n = 0 ∨ n = 1 ∨ n = 2 ∨ n = 3 ∨ n = 4 ∨ n = 5 ∨ n = 6 := by omega
  rcases this with h | h | h | h | h | h | h <;> subst h <;> rfl

theorem f31_eq {a p : T25} (ha : valid a = true) (hp : valid p = true) : f31 (ln a.f1) p a = some (match ff a p with | some v => ((v : Int), true) | none => (0, false)) := by
  obtain ⟨a1, a2, _, _⟩ := valid_facts ha
  have h2 : 2 ^ a.f1.length ≤ 2 ^ 6 := Nat.pow_le_pow_right (by omega) a2
  have es : shl .i64 1 (ln a.f1) = some ((2 ^ a.f1.length : Nat) : Int) := shl_eq a2
  unfold f31
  rw [iter_list (W := Unit ⊕ (Int × Bool)) (v := 0) (List.range (2 ^ a.f1.length)) (fun (_ : Unit) i => (i : Int)) (fun _ y => if fr a p (y : Int) = true then .inr (.inr ((y : Int), true)) else .inl ()) (fun _ => .inl ()) (fun _ _ => True) () rfl trivial (by rw [LFe, List.length_range]; omega)
    (fun s i y _ _ h1 h2 h3 => by
      have hi : i < (List.range (2 ^ a.f1.length)).length := Int.ofNat_lt.mp (of_decide_eq_true h2)
      rw [List.length_range] at hi
      rw [ix_nat, List.getElem?_range hi] at h1
      cases h1
      simp only [ln, List.length_range] at h2
      simp only [es, bdS, h2, h3, if_true, f32_eq ha hp]
      cases fr a p (i : Int) <;> rfl) (fun _ _ _ _ _ _ _ => trivial) (fun s _ h2 => by
      simp only [ln, List.length_range] at h2
      simp only [es, bdS, List.length_range, h2]; rfl), foldE_find (W := Unit ⊕ (Int × Bool)) (fun y : Nat => fr a p (y : Int)) (fun y => .inr ((y : Int), true))]
  rw [show List.find? (fun y : Nat => fr a p (y : Int)) (List.range (2 ^ a.f1.length)) = ff a p from rfl]
  cases ff a p <;> rfl

def frm (a p : T25) : List T53 × List T60 × Bool := match ff a p with
  | some v => ([], pk v 0 a.f1, true)
  | none => ([], [], false)

theorem f8_eq {a p : T25} (ha : valid a = true) (hp : valid p = true) : f8 a p = some (frm a p) := by
  obtain ⟨a1, a2, _, _⟩ := valid_facts ha
  obtain ⟨p1, p2, _, _⟩ := valid_facts hp
  simp only [f8, f15_eq a (by rw [LFe]; omega) (by rw [LFe]; omega), f15_eq p (by rw [LFe]; omega) (by rw [LFe]; omega), ha, hp, bdS, jn, Bool.not_true, Bool.false_eq_true, if_false, f31_eq ha hp]
  unfold frm
  cases ff a p with
  | none => rfl
  | some v => simp only [f34_eq a (v : Int) (by omega), bdS]; rfl

theorem f24_eq {a p : T25} (ha : valid a = true) (hp : valid p = true) : f24 a p = some (frm a p) := by
  obtain ⟨a1, a2, _, _⟩ := valid_facts ha
  obtain ⟨p1, p2, _, _⟩ := valid_facts hp
  have h2 : 2 ^ a.f1.length ≤ 2 ^ 6 := Nat.pow_le_pow_right (by omega) a2
  have es : shl .i64 1 (ln a.f1) = some ((2 ^ a.f1.length : Nat) : Int) := shl_eq a2
  unfold f24
  rw [iter_list (W := Unit ⊕ (List T53 × List T60 × Bool)) (v := 0) (List.range (2 ^ a.f1.length)) (fun (_ : Unit) i => (i : Int)) (fun _ y => if fr a p (y : Int) = true then .inr (.inr ([], pk (y : Int) 0 a.f1, true)) else .inl ()) (fun _ => .inl ()) (fun _ _ => True) () rfl trivial (by rw [LFe, List.length_range]; omega)
    (fun s i y _ _ h1 h2 h3 => by
      have hi : i < (List.range (2 ^ a.f1.length)).length := Int.ofNat_lt.mp (of_decide_eq_true h2)
      rw [List.length_range] at hi
      rw [ix_nat, List.getElem?_range hi] at h1
      cases h1
      simp only [ln, List.length_range] at h2
      have hl := (pk_sub (i : Int) a.f1 0).length_le
      unfold fr
      simp only [es, bdS, h2, h3, if_true, f53_eq a (i : Int) (by omega), f27_eq p (⟨[], pk (i : Int) 0 a.f1⟩ : T25) (by simp; omega) (by simp; omega), f22_eq (⟨p.f0 ++ [], p.f1 ++ pk (i : Int) 0 a.f1⟩ : T25) (by rw [LFe]; simp; omega) (by rw [LFe]; simp; omega),
        f54_eq (a := a) (b := ⟨p.f0 ++ [], p.f1 ++ pk (i : Int) 0 a.f1⟩) (by rw [LFe]; omega) (by rw [LFe]; omega) (by rw [LFe]; simp; omega) (by rw [LFe]; simp; omega), ha, Bool.true_and]
      cases valid ⟨p.f0 ++ [], p.f1 ++ pk (i : Int) 0 a.f1⟩ <;> cases ent a ⟨p.f0 ++ [], p.f1 ++ pk (i : Int) 0 a.f1⟩ <;> rfl) (fun _ _ _ _ _ _ _ => trivial) (fun s _ h2 => by
      simp only [ln, List.length_range] at h2
      simp only [es, bdS, List.length_range, h2]; rfl), foldE_find (W := Unit ⊕ (List T53 × List T60 × Bool)) (fun y : Nat => fr a p (y : Int)) (fun y => .inr ([], pk (y : Int) 0 a.f1, true))]
  unfold frm
  rw [show List.find? (fun y : Nat => fr a p (y : Int)) (List.range (2 ^ a.f1.length)) = ff a p from rfl]
  cases ff a p <;> rfl

/-! Contracts. -/
def pv (v : Int) : Bool := decide (1 ≤ v) && decide (v ≤ 4)
theorem f44_eq (v : Int) : f44 v = some (pv v) := by
  unfold f44 pv
  by_cases h : 1 ≤ v <;> simp [h]
theorem f52_eq (v : Int) : f52 v = some (pv v) := f44_eq v
def cvs (s v : Int) : Int ⊕ (Unit ⊕ Bool) := if (pv v && !decide (v ≤ s)) = true then .inl v else .inr (.inr false)
def asc (l : List Int) : Bool := match foldE cvs 0 l with | .inl _ => true | .inr _ => false
theorem asc_inr : ∀ (l : List Int) (s : Int) (w : Unit ⊕ Bool), foldE cvs s l = .inr w → w = .inr false
  | [], s, w, h => by cases h
  | v :: l, s, w, h => by
    unfold foldE at h
    cases hs : cvs s v with
    | inl u => rw [hs] at h; exact asc_inr l u w h
    | inr w' =>
      rw [hs] at h; cases h
      unfold cvs at hs
      split at hs
      · cases hs
      · cases hs; rfl
def cv (k : T28) : Bool := valid k.f0 && (valid k.f1 && asc k.f2)

theorem f16_eq (k : T28) (h1 : k.f0.f0.length ≤ 100000) (h2 : k.f0.f1.length ≤ 100000) (h3 : k.f1.f0.length ≤ 100000) (h4 : k.f1.f1.length ≤ 100000) (h5 : k.f2.length ≤ 100000) : f16 k = some (cv k) := by
  simp only [f16, f15_eq k.f0 (by rw [LFe]; omega) (by rw [LFe]; omega), f15_eq k.f1 (by rw [LFe]; omega) (by rw [LFe]; omega), bdS]
  unfold cv
  cases valid k.f0 with
  | false => rfl
  | true =>
  cases valid k.f1 with
  | false => rfl
  | true =>
  simp only [Bool.not_true, Bool.false_eq_true, if_false, jn, Bool.true_and]
  rw [iter_list (v := (0, 0)) k.f2 (fun (s : Int) i => (s, (i : Int))) cvs (fun _ => .inl ()) (fun _ _ => True) 0 rfl trivial (by rw [LFe]; omega)
    (fun s i y _ _ h1 h2 h3 => by
      simp only [h1, h2, h3, bdS, if_true, f44_eq, cvs]
      cases pv y <;> cases decide (y ≤ s) <;> rfl) (fun _ _ _ _ _ _ _ => trivial) (fun s _ h2 => by simp only [h2]; rfl)]
  unfold asc
  cases hf : foldE cvs 0 k.f2 with
  | inl u => rfl
  | inr w => obtain rfl := asc_inr _ _ _ hf; rfl

theorem f23_eq (k : T28) (h1 : k.f0.f0.length ≤ 100000) (h2 : k.f0.f1.length ≤ 100000) (h3 : k.f1.f0.length ≤ 100000) (h4 : k.f1.f1.length ≤ 100000) (h5 : k.f2.length ≤ 100000) : f23 k = some (cv k) := by
  unfold f23
  simp only [f22_eq k.f0 (by rw [LFe]; omega) (by rw [LFe]; omega), f22_eq k.f1 (by rw [LFe]; omega) (by rw [LFe]; omega), bdS]
  rw [iter_list (v := 0) k.f2 (fun (_ : Int) i => (i : Int)) cvs (fun _ => .inl ()) (fun s i => (i = 0 → s = 0) ∧ ∀ j, i = j + 1 → k.f2[j]? = some s) 0 rfl ⟨fun _ => rfl, fun j h => by omega⟩ (by rw [LFe]; omega)
    (fun s i y hs _ h1 h2 h3 => by
      simp only [h1, h2, h3, bdS, if_true, f52_eq, cvs]
      cases hp : pv y with
      | false => rfl
      | true =>
        cases i with
        | zero =>
          have := hs.1 rfl
          subst this
          simp only [pv, Bool.and_eq_true, decide_eq_true_eq] at hp
          have : decide (y ≤ 0) = false := by simp; omega
          simp only [this]; rfl
        | succ j =>
          have := hs.2 j rfl
          have e : sb (((j + 1 : Nat)) : Int) 1 = (j : Int) := by
            have hj : j + 1 < k.f2.length := Int.ofNat_lt.mp (of_decide_eq_true h2)
            rw [sbI (by omega) (by omega)]; omega
          have e2 : ix k.f2 (j : Int) = some s := by rw [ix_nat, this]
          have e3 : decide ((((j + 1 : Nat)) : Int) > 0) = true := decide_eq_true (by omega)
          simp only [e, e2, e3, bdS, if_true, ge_iff_le]
          cases decide (y ≤ s) <;> rfl) (fun s i y s' hs h hf => by
      refine ⟨fun h => by omega, fun j hj => ?_⟩
      obtain rfl : j = i := by omega
      unfold cvs at hf
      split at hf
      · cases hf; rw [ix_nat] at h; exact h
      · cases hf) (fun s _ h2 => by simp only [h2]; rfl)]
  unfold cv
  cases hf : foldE cvs 0 k.f2 with
  | inl u => cases valid k.f0 <;> cases valid k.f1 <;> simp [fin, jn, asc, hf]
  | inr w => obtain rfl := asc_inr _ _ _ hf; cases valid k.f0 <;> cases valid k.f1 <;> simp [fin, jn, asc, hf]
end Go.Sep.Y
