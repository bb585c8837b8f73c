/- Programs that are drawn: bounds, and that checks of them end. -/
import Derived.Test.YtkchimbalpiilaaGreatLawM
set_option linter.all false
set_option linter.deprecated false
namespace Go.Sep.Y
open Go Go.Sep

def Bp : Nat → List T128 → Prop
  | 0, l => l = []
  | n + 1, l => l.length ≤ 100 ∧ ∀ c ∈ l, Sz 100 c.f4.f0 c.f4.f1 ∧ Bp n c.f5 ∧ Bp n c.f6
theorem Bp_nil : ∀ n, Bp n []
  | 0 => rfl
  | n + 1 => ⟨by simp, fun c hc => by cases hc⟩
theorem Bp_up : ∀ (n : Nat) (l : List T128), Bp n l → Bp (n + 1) l
  | 0, l, h => by
    obtain rfl : l = [] := h
    exact Bp_nil 1
  | n + 1, l, h => ⟨h.1, fun c hc => ⟨(h.2 c hc).1, Bp_up n _ (h.2 c hc).2.1, Bp_up n _ (h.2 c hc).2.2⟩⟩
theorem Bp_ups (n : Nat) (l : List T128) (h : Bp n l) : ∀ m, n ≤ m → Bp m l
  | 0, hm => by
    obtain rfl : n = 0 := by omega
    exact h
  | m + 1, hm => by
    by_cases hnm : n = m + 1
    · exact hnm ▸ h
    · exact Bp_up m l (Bp_ups n l h m (by omega))
theorem Bp_len {n : Nat} {l : List T128} (h : Bp n l) : l.length ≤ 100 := by
  cases n with
  | zero => obtain rfl : l = [] := h; simp
  | succ n => exact h.1

/-- What valid programs are like. -/
def Sh' : Nat → List T128 → Prop
  | 0, l => l = []
  | n + 1, l => ∀ c ∈ l, ((c.f0 = 1 ∨ c.f0 = 2 ∨ c.f0 = 4) → okT c.f1 = true) ∧ Sh' n c.f5 ∧ Sh' n c.f6

theorem f104_eq (a : T25) : f104 a = some (ln a.f0 == 0 && ln a.f1 == 0) := by
  unfold f104
  cases ln a.f0 == 0 <;> rfl
theorem pv_okT {v : Int} (h : pv v = true) : okT v = true := by
  simp only [pv, okT, Bool.and_eq_true, decide_eq_true_eq] at *; omega

theorem f105_ok (c : T128) : Ok (f105 c) fun r => r = true → (c.f0 = 1 ∨ c.f0 = 2 ∨ c.f0 = 4) → okT c.f1 = true := by
  unfold f105
  refine Ok.jn (fun _ => True) ?_ fun _ _ => ?_
  · simp only [f125, f104_eq, bdS]
    repeat' refine Ok.ite (fun _ => ?_) (fun _ => ?_)
    all_goals exact ⟨_, rfl, by simp [LR]⟩
  · refine Ok.jn (fun _ => True) ?_ fun _ _ => Ok.some (fun h => by cases h)
    refine Ok.jn (fun v => v = true ↔ (c.f0 = 1 ∨ c.f0 = 2)) ?_ fun v hv => ?_
    · cases h1 : (c.f0 == 1) with
      | true =>
        have : c.f0 = 1 := by simpa using h1
        exact ⟨_, rfl, by simp [LR, this]⟩
      | false =>
        have : ¬ c.f0 = 1 := by simpa using h1
        exact ⟨.inl (c.f0 == 2), rfl, by simp [LR, this]⟩
    · simp only [f52_eq, f55_eq, bdS]
      refine Ok.ite (fun _ => ?_) (fun hf => ?_)
      · refine Ok.ite (fun hp => ⟨_, rfl, fun _ _ => pv_okT hp⟩) (fun _ => ⟨_, rfl, fun h => by cases h⟩)
      · rw [hf] at hv
        have hn : ¬ (c.f0 = 1 ∨ c.f0 = 2) := fun h => by have := hv.mpr h; cases this
        refine Ok.ite (fun h3 => ?_) (fun _ => ?_)
        · have h3' : c.f0 = 3 := by simpa using h3
          have no : ¬ (c.f0 = 1 ∨ c.f0 = 2 ∨ c.f0 = 4) := by omega
          refine Ok.ite (fun _ => ⟨_, rfl, fun _ h => absurd h no⟩) (fun _ => ⟨_, rfl, fun _ h => absurd h no⟩)
        · refine Ok.ite (fun h4 => ?_) (fun h4 => ?_)
          · refine Ok.ite (fun hp => ⟨_, rfl, fun _ _ => pv_okT hp⟩) (fun _ => ⟨_, rfl, fun h => by cases h⟩)
          · have h4' : ¬ c.f0 = 4 := by simpa using h4
            have no : ¬ (c.f0 = 1 ∨ c.f0 = 2 ∨ c.f0 = 4) := by omega
            refine Ok.ite (fun _ => ?_) (fun _ => ⟨.inl (), rfl, trivial⟩)
            refine Ok.ite (fun _ => ⟨_, rfl, fun _ h => absurd h no⟩) (fun _ => ⟨_, rfl, fun _ h => absurd h no⟩)

theorem f87_ok : ∀ (n : Nat) (l : List T128), Bp n l → n ≤ 100 → ∀ fuel, n < fuel → Ok (f87n fuel l (n : Int)) fun r => r = true → Sh' n l := by
  intro n
  induction n with
  | zero =>
    intro l hb hn fuel hf
    obtain ⟨fuel, rfl⟩ : ∃ k, fuel = k + 1 := ⟨fuel - 1, by omega⟩
    obtain rfl : l = [] := hb
    unfold f87n f87o
    refine Ok.jn (fun _ => True) ⟨.inl (), rfl, trivial⟩ fun _ _ => ?_
    refine Ok.jn (fun _ => True) (Ok.iter 0 (fun (_ : Unit) i => (i : Int)) (fun _ _ => True) () 0 rfl trivial (by omega) (by rw [LFe]; omega) (fun _ i _ hi => by omega) (fun _ _ => ⟨.inl (), rfl, trivial⟩)) fun _ _ => Ok.some fun _ => rfl
  | succ n ih =>
    intro l hb hn fuel hf
    obtain ⟨fuel, rfl⟩ : ∃ k, fuel = k + 1 := ⟨fuel - 1, by omega⟩
    unfold f87n f87o
    refine Ok.jn (fun _ => True) ⟨.inl (), by rw [show decide (((n + 1 : Nat) : Int) < 1) = false from decide_eq_false (by omega)]; rfl, trivial⟩ fun _ _ => ?_
    refine Ok.jn (fun _ => Sh' (n + 1) l) (Ok.iter l.length (fun (_ : Unit) i => (i : Int)) (fun _ i => Sh' (n + 1) (l.take i)) () 0 rfl (fun c hc => by simp at hc) (by omega) (by have := hb.1; rw [LFe]; omega) ?_ ?_) fun _ h => Ok.some fun _ => h
    · intro _ i hI hi e
      obtain ⟨y, hy⟩ : ∃ y, l[i]? = some y := ⟨l[i], by simp [hi]⟩
      have hm := List.mem_of_getElem? hy
      obtain ⟨hz, hb5, hb6⟩ := hb.2 y hm
      obtain ⟨r5, e5, h5⟩ := ih y.f5 hb5 (by omega) fuel (by omega)
      obtain ⟨r6, e6, h6⟩ := ih y.f6 hb6 (by omega) fuel (by omega)
      have es : sb ((n + 1 : Nat) : Int) 1 = (n : Int) := sb1 n (by omega)
      have e22 := f22_eq y.f4 (by have := hz.1; rw [LFe]; omega) (by have := hz.2; rw [LFe]; omega)
      simp only [ltT hi, if_true, ix_nat (xs := l), hy, bdS, es, e5, e6, e, f71_eq, f104_eq, e22]
      refine Ok.jn (fun _ => Sh' (n + 1) (l.take (i + 1))) (Ok.jn (fun _ => (y.f0 = 1 ∨ y.f0 = 2 ∨ y.f0 = 4) → okT y.f1 = true) ?_ fun _ hk => ?_) fun _ h => ⟨.inl ((i + 1 : Nat) : Int), rfl, (), rfl, h⟩
      · refine Ok.ite (fun h6 => ?_) (fun _ => ?_)
        · have h6' : y.f0 = 6 := by simpa using h6
          have no : ¬ (y.f0 = 1 ∨ y.f0 = 2 ∨ y.f0 = 4) := by omega
          repeat' refine Ok.ite (fun _ => ?_) (fun _ => ?_)
          all_goals first
            | exact ⟨.inl (), rfl, fun h => absurd h no⟩
            | exact ⟨_, rfl, fun h => by cases h⟩
        · refine Ok.ite (fun h7 => ?_) (fun _ => ?_)
          · have h7' : y.f0 = 7 := by simpa using h7
            have no : ¬ (y.f0 = 1 ∨ y.f0 = 2 ∨ y.f0 = 4) := by omega
            repeat' refine Ok.ite (fun _ => ?_) (fun _ => ?_)
            all_goals first
              | exact ⟨.inl (), rfl, fun h => absurd h no⟩
              | exact ⟨_, rfl, fun h => by cases h⟩
          · refine Ok.bd (f105_ok y) fun v hv => ?_
            cases v with
            | true => exact ⟨.inl (), rfl, hv rfl⟩
            | false => exact ⟨.inr (.inr (.inr (.inr false))), rfl, fun h => by cases h⟩
      · cases r5 with
        | false => exact ⟨.inr (.inr (.inr false)), rfl, fun h => by cases h⟩
        | true =>
        cases r6 with
        | false => exact ⟨.inr (.inr (.inr false)), rfl, fun h => by cases h⟩
        | true =>
          refine ⟨.inl (), rfl, fun c hc => ?_⟩
          rw [List.take_add_one, hy] at hc
          rcases List.mem_append.mp hc with hc | hc
          · exact hI c hc
          · simp at hc; subst hc
            exact ⟨hk, h5 rfl, h6 rfl⟩
    · intro _ h
      exact ⟨.inl (), by simp only [ltF]; rfl, by rw [List.take_length] at h; exact h⟩

theorem f88_ok : ∀ (n : Nat) (l : List T128), Bp n l → n ≤ 100 → ∀ fuel, n < fuel → Ok (f88n fuel l (n : Int)) fun _ => True := by
  intro n
  induction n with
  | zero =>
    intro l hb hn fuel hf
    obtain ⟨fuel, rfl⟩ : ∃ k, fuel = k + 1 := ⟨fuel - 1, by omega⟩
    obtain rfl : l = [] := hb
    unfold f88n f88o
    refine Ok.jn (fun _ => True) (Ok.iter 0 (fun (s : Int) i => (s, (i : Int))) (fun _ _ => True) 0 0 rfl trivial (by omega) (by rw [LFe]; omega) (fun _ i _ hi => by omega) (fun s _ => ⟨.inl s, rfl, trivial⟩)) fun _ _ => Ok.some trivial
  | succ n ih =>
    intro l hb hn fuel hf
    obtain ⟨fuel, rfl⟩ : ∃ k, fuel = k + 1 := ⟨fuel - 1, by omega⟩
    unfold f88n f88o
    refine Ok.jn (fun _ => True) (Ok.iter l.length (fun (s : Int) i => (s, (i : Int))) (fun _ _ => True) 0 0 rfl trivial (by omega) (by have := hb.1; rw [LFe]; omega) ?_ ?_) fun _ h => Ok.some trivial
    · intro s i hI hi e
      obtain ⟨y, hy⟩ : ∃ y, l[i]? = some y := ⟨l[i], by simp [hi]⟩
      have hm := List.mem_of_getElem? hy
      obtain ⟨hz, hb5, hb6⟩ := hb.2 y hm
      obtain ⟨r5, e5, h5⟩ := ih y.f5 hb5 (by omega) fuel (by omega)
      obtain ⟨r6, e6, h6⟩ := ih y.f6 hb6 (by omega) fuel (by omega)
      have es : sb ((n + 1 : Nat) : Int) 1 = (n : Int) := sb1 n (by omega)
      have eg : decide (((n + 1 : Nat) : Int) > 0) = true := decide_eq_true (by omega)
      simp only [ltT hi, eg, if_true, jn, ix_nat (xs := l), hy, bdS, es, e5, e6, e]
      exact ⟨.inl (_, ((i + 1 : Nat) : Int)), rfl, _, rfl, trivial⟩
    · intro s h
      exact ⟨.inl s, by simp only [ltF]; rfl, trivial⟩

theorem f64_ok {l : List T128} (hb : Bp 4 l) : Ok (f64 l) fun r => r = true → Sh' 4 l := by
  unfold f64 f87 f88
  refine Ok.bd (f87_ok 4 l hb (by omega) LF (by rw [LFe]; omega)) fun v hv => ?_
  cases v with
  | false => exact ⟨false, rfl, fun h => by cases h⟩
  | true =>
    obtain ⟨r, er, _⟩ := f88_ok 4 l hb (by omega) LF (by rw [LFe]; omega)
    have er' : f88n LF l 4 = some r := er
    simp only [if_true, er', bdS]
    exact Ok.some fun _ => hv rfl

theorem f66b_ok : ∀ (n : Nat) (l : List T128), Bp n l → Sh' n l → ∀ fuel, n < fuel → ∀ us : List Bool, us.length = 9 → Ok (f66bn fuel l us) fun r => r.length = 9 := by
  intro n
  induction n with
  | zero =>
    intro l hb hs fuel hf us hu
    obtain ⟨fuel, rfl⟩ : ∃ k, fuel = k + 1 := ⟨fuel - 1, by omega⟩
    obtain rfl : l = [] := hb
    unfold f66bn f66bo
    refine Ok.jn (fun v => v.length = 9) (Ok.iter 0 (fun (s : List Bool) i => (s, (i : Int))) (fun s _ => s.length = 9) us 0 rfl hu (by omega) (by rw [LFe]; omega) (fun _ i _ hi => by omega) (fun s h => ⟨.inl s, rfl, h⟩)) fun _ h => Ok.some h
  | succ n ih =>
    intro l hb hs fuel hf us hu
    obtain ⟨fuel, rfl⟩ : ∃ k, fuel = k + 1 := ⟨fuel - 1, by omega⟩
    unfold f66bn f66bo
    refine Ok.jn (fun v => v.length = 9) (Ok.iter l.length (fun (s : List Bool) i => (s, (i : Int))) (fun s _ => s.length = 9) us 0 rfl hu (by omega) (by have := hb.1; rw [LFe]; omega) ?_ ?_) fun _ h => Ok.some h
    · intro s i hI hi e
      obtain ⟨y, hy⟩ : ∃ y, l[i]? = some y := ⟨l[i], by simp [hi]⟩
      have hm := List.mem_of_getElem? hy
      obtain ⟨hz, hb5, hb6⟩ := hb.2 y hm
      obtain ⟨hk, hs5, hs6⟩ := hs y hm
      simp only [ltT hi, if_true, ix_nat (xs := l), hy, bdS]
      refine Ok.jn (fun v => v.length = 9) (Ok.jn (fun v => v.length = 9) (Ok.jn (fun v => v = true → (y.f0 = 1 ∨ y.f0 = 2 ∨ y.f0 = 4)) ?_ fun v hv => ?_) fun v hv => ?_) fun v hv => ⟨.inl (v, ((i + 1 : Nat) : Int)), by simp only [e], v, rfl, hv⟩
      · refine Ok.ite (fun h => ⟨.inl (y.f0 == 1), rfl, fun _ => .inl (by simpa using h)⟩) (fun _ => ?_)
        refine Ok.ite (fun h => ⟨.inl (y.f0 == 2), rfl, fun _ => .inr (.inl (by simpa using h))⟩) (fun _ => ⟨.inl (y.f0 == 4), rfl, fun h => .inr (.inr (by simpa using h))⟩)
      · refine Ok.ite (fun h => ?_) (fun _ => ⟨.inl s, rfl, hI⟩)
        obtain ⟨k, ek, hk9⟩ := okT_nat (hk (hv h))
        rw [ek]
        rw [getD_ix (show k < s.length by omega), st_ok (show k < s.length by omega)]
        exact ⟨.inl (s.set k true), rfl, by simp [LR, hI]⟩
      · refine Ok.bd (ih y.f5 hb5 hs5 fuel (by omega) v hv) fun v2 hv2 => ?_
        simp only [lq, hv, hv2, if_true, bdS]
        refine Ok.bd (ih y.f6 hb6 hs6 fuel (by omega) v2 hv2) fun v3 hv3 => ?_
        simp only [hv3, if_true, bdS]
        exact ⟨.inl v3, rfl, hv3⟩
    · intro s h
      exact ⟨.inl s, by simp only [ltF]; rfl, h⟩

theorem f65_ok {l : List Bool} (h : l.length = 9) : Ok (f65 l) fun r => r.length ≤ 9 := by
  unfold f65
  refine Ok.jn (fun v => v.length ≤ 9) (Ok.iter l.length (fun (s : List Int) i => (s, (i : Int))) (fun s i => s.length ≤ i) [] 0 rfl (by simp) (by omega) (by rw [LFe]; omega) ?_ ?_) fun _ h => Ok.some h
  · intro s i hI hi e
    have eap := apz (xs := s) (y := (i : Int)) (n := 8) (by omega) (by omega)
    simp only [ltT hi, if_true, getD_ix hi, bdS, eap, e]
    cases l.getD i false with
    | true => exact ⟨.inl (s ++ [(i : Int)], ((i + 1 : Nat) : Int)), rfl, _, rfl, by simp; omega⟩
    | false => exact ⟨.inl (s, ((i + 1 : Nat) : Int)), rfl, _, rfl, by omega⟩
  · intro s h'
    exact ⟨.inl s, by simp only [ltF]; rfl, by show s.length ≤ 9; omega⟩

theorem f37_ok {l : List T128} (hb : Bp 4 l) : Ok (f37 l) fun r => r.length ≤ 9 := by
  unfold f37
  refine Ok.bd (f64_ok hb) fun v hv => ?_
  cases v with
  | false => exact ⟨[], rfl, by simp⟩
  | true =>
    have e : mk 1 (false : Bool) 9 9 = some (List.replicate 9 false) := mk_ok (l := 9) (c := 9) (by omega) (by omega) (by omega)
    simp only [Bool.not_true, Bool.false_eq_true, if_false, e, bdS, f66b]
    refine Ok.bd (f66b_ok 4 l hb (hv rfl) LF (by rw [LFe]; omega) _ (by simp)) fun v6 h6 => ?_
    simp only [lq, h6, List.length_replicate, if_true, bdS]
    exact Ok.bd (f65_ok h6) fun v10 h10 => Ok.some h10
end Go.Sep.Y
