/- Cases by the iterator. -/
import Derived.Test.YtkchimbalpiilaaGreatLawF
set_option linter.all false
set_option linter.deprecated false
namespace Go.Sep.Y
open Go Go.Sep

/-- The terms of an assertion are among those that are told. -/
def Tu (P : Nat → Bool) (a : T25) : Prop := (∀ f ∈ a.f0, ∀ t, (t = f.f1 ∨ t = f.f2) → t = 0 ∨ P t.toNat = true) ∧ (∀ f ∈ a.f1, ∀ t, (t = f.f1 ∨ t = f.f2) → t = 0 ∨ P t.toNat = true)

theorem all_congr {α : Type} {l : List α} {p q : α → Bool} (h : ∀ y ∈ l, p y = q y) : l.all p = l.all q := by
  induction l with
  | nil => rfl
  | cons y ys ih => rw [List.all_cons, List.all_cons, h y (List.mem_cons_self ..), ih fun z hz => h z (List.mem_cons_of_mem _ hz)]
theorem fm_congr {α β : Type} {l : List α} {p q : α → Option β} (h : ∀ y ∈ l, p y = q y) : l.filterMap p = l.filterMap q := by
  induction l with
  | nil => rfl
  | cons y ys ih => rw [List.filterMap_cons, List.filterMap_cons, h y (List.mem_cons_self ..), ih fun z hz => h z (List.mem_cons_of_mem _ hz)]

/-- Only the first k + 1 places count. -/
theorem poss_congr {a : T25} {k : Nat} {c d : List Int} (ht : tm a) (h : ∀ t, okT t = true → t ≤ (k : Int) → g c t = g d t) : poss a k c = poss a k d := by
  unfold poss
  congr 1
  · refine all_congr fun f hf => ?_
    by_cases q1 : f.f1 ≤ (k : Int)
    · by_cases q2 : f.f2 ≤ (k : Int)
      · simp only [factI, h _ (ht.1 f hf).1 q1, h _ (ht.1 f hf).2 q2]
      · simp [q2]
    · simp [q1]
  · congr 1
    refine fm_congr fun f hf => ?_
    by_cases q1 : f.f1 ≤ (k : Int)
    · by_cases q2 : f.f2 ≤ (k : Int)
      · have e : isF c f = isF d f := by unfold isF; rw [h _ (ht.2 f hf).1 q1, h _ (ht.2 f hf).2 q2]
        unfold bgI
        rw [e, h _ (ht.2 f hf).1 q1]
      · simp [bgI, show f.f2 > (k : Int) by omega]
    · simp [bgI, show f.f1 > (k : Int) by omega]

/-- A place that no term of a is at. -/
theorem poss_skip {a : T25} {k : Nat} {P : Nat → Bool} {c : List Int} (ht : tm a) (hu : Tu P a) (hP : P (k + 1) = false) : poss a (k + 1) c = poss a k c := by
  have key : ∀ t : Int, okT t = true → (t = 0 ∨ P t.toNat = true) → (t ≤ ((k + 1 : Nat) : Int) ↔ t ≤ (k : Int)) := fun t ht h => by
    constructor
    · intro h1
      rcases h with h | h
      · omega
      · by_cases h2 : t = ((k + 1 : Nat) : Int)
        · rw [h2, Int.toNat_natCast, hP] at h; cases h
        · omega
    · intro h1; omega
  unfold poss
  congr 1
  · refine all_congr fun f hf => ?_
    rw [decide_eq_decide.mpr (key _ (ht.1 f hf).1 (hu.1 f hf _ (.inl rfl))), decide_eq_decide.mpr (key _ (ht.1 f hf).2 (hu.1 f hf _ (.inr rfl)))]
  · congr 1
    refine fm_congr fun f hf => ?_
    have k1 := key _ (ht.2 f hf).1 (hu.2 f hf _ (.inl rfl))
    have k2 := key _ (ht.2 f hf).2 (hu.2 f hf _ (.inr rfl))
    unfold bgI
    rw [decide_eq_decide.mpr (show f.f1 > ((k + 1 : Nat) : Int) ↔ f.f1 > (k : Int) by omega), decide_eq_decide.mpr (show f.f2 > ((k + 1 : Nat) : Int) ↔ f.f2 > (k : Int) by omega)]

theorem Wp_g {P : Nat → Bool} {p : List Int} {t : Int} (h : Wp P p) (ht : okT t = true) (hu : t = 0 ∨ P t.toNat = true) (hl : t.toNat < p.length) : 0 ≤ g p t ∧ g p t ≤ 8 := by
  obtain ⟨k, rfl, hk⟩ := okT_nat ht
  rw [Int.toNat_natCast] at hl
  have e : p[k]? = some (g p (k : Int)) := by simp [g, hl]
  refine ⟨h.2 k _ e ?_, (h.1 _ (List.mem_of_getElem? e)).2⟩
  rcases hu with hu | hu
  · exact .inl (by omega)
  · exact .inr (by simpa using hu)

/-- What is good at last was possible before. -/
theorem late {a : T25} {P : Nat → Bool} {p q : List Int} {k : Nat} (hk : k + 1 = p.length) (hl : p.length ≤ 9) (ht : tm a) (hu : Tu P a) (hw : Wp P p) (hg : good a (p ++ q) = true) : poss a k p = true := by
  simp only [good, Bool.and_eq_true] at hg
  have hb : ∀ t, okT t = true → t ≤ (k : Int) → t.toNat < p.length := fun t h h' => by obtain ⟨k, rfl, hk⟩ := okT_nat h; simp; omega
  rw [← poss_congr (c := p ++ q) ht fun t h h' => g_app (hb t h h')]
  simp only [poss, Bool.and_eq_true]
  constructor
  · refine List.all_eq_true.mpr fun f hf => ?_
    have h1 := List.all_eq_true.mp hg.1 f hf
    by_cases q1 : f.f1 ≤ (k : Int)
    · by_cases q2 : f.f2 ≤ (k : Int)
      · have l1 := hb _ (ht.1 f hf).1 q1
        have l2 := hb _ (ht.1 f hf).2 q2
        have w1 := (Wp_g hw (ht.1 f hf).1 (hu.1 f hf _ (.inl rfl)) l1).1
        have w2 := (Wp_g hw (ht.1 f hf).2 (hu.1 f hf _ (.inr rfl)) l2).1
        rw [← g_app (q := q) l1] at w1
        rw [← g_app (q := q) l2] at w2
        simp only [factS, w1, w2, if_true] at h1
        simp [h1]
      · simp [q2]
    · simp [q1]
  · rw [fill_bg] at hg
    refine aok_sub (sub_fm fun y hy v hv => ?_) hg.2
    unfold bgI at hv
    split at hv
    · cases hv
    split at hv
    · cases hv
    exact hv

/-- All is seen at last. -/
theorem done {a : T25} {p : List Int} (ht : tm a) (h : poss a 8 p = true) : good a p = true := by
  simp only [poss, Bool.and_eq_true] at h
  simp only [good, Bool.and_eq_true]
  have hb : ∀ t, okT t = true → t ≤ ((8 : Nat) : Int) := fun t h => by obtain ⟨k, rfl, hk⟩ := okT_nat h; omega
  constructor
  · refine List.all_eq_true.mpr fun f hf => ?_
    have h1 := List.all_eq_true.mp h.1 f hf
    have q1 := hb _ (ht.1 f hf).1
    have q2 := hb _ (ht.1 f hf).2
    simp only [q1, q2, decide_true, Bool.and_true, Bool.not_true, Bool.false_or] at h1
    simp [factS, h1]
  · rw [fill_bg]
    refine Eq.trans ?_ h.2
    congr 1
    refine fm_congr fun y hy => ?_
    have q1 := hb _ (ht.2 y hy).1
    have q2 := hb _ (ht.2 y hy).2
    simp only [bgI, show ¬ (y.f1 > ((8 : Nat) : Int)) by omega, show ¬ (y.f2 > ((8 : Nat) : Int)) by omega, decide_false, Bool.false_eq_true, if_false]

def RR {W : Type} (Q : W → Prop) (b : Bool) (r : Bool × (Unit ⊕ W)) : Prop := if b = true then r = (true, .inl ()) else ∃ w, r = (false, .inr w) ∧ Q w

theorem f93_eq {W : Type} (Q : W → Prop) {y : Unit ⊕ W → List Int → Option ((Unit ⊕ W) × Bool)} {a : T25} {bits : Int} {P0 P : Nat → Bool} (M : List Int → Bool) (hb : isR bits P0) (h0 : ∀ i, 1 ≤ i → i < 9 → P0 i = P i)
    (hla : a.f0.length ≤ 1000) (hla' : a.f1.length ≤ 1000) (ht : tm a) (hu : Tu P a)
    (hy : ∀ c, isC c → Wp P c → good a c = true → Ok (y (.inl ()) c) fun r => if M c = true then r = (.inl (), true) else ∃ w, r = (.inr w, false) ∧ Q w) :
    ∀ (n : Nat) (p : List Int), p.length + n = 9 → 1 ≤ p.length → Wp P p → poss a (p.length - 1) p = true → ∀ q : List Int, q.length = n → ∀ fuel, n < fuel →
      Ok (f93n y fuel (.inl ()) (p ++ q) (p.length : Int) a bits) fun r => RR Q ((cs P n p).all fun c => !good a c || M c) r := by
  have hA : a.f0.length < LF := by rw [LFe]; omega
  have hA' : a.f1.length < LF := by rw [LFe]; omega
  intro n
  induction n with
  | zero =>
    intro p hl h1 hw hp q hq fuel hf
    obtain ⟨fuel, rfl⟩ : ∃ k, fuel = k + 1 := ⟨fuel - 1, by omega⟩
    obtain rfl : q = [] := List.length_eq_zero_iff.mp hq
    have hC : isC p := Wp_isC hw (by omega)
    have hg : good a p = true := done ht (by rw [show (8 : Nat) = p.length - 1 by omega]; exact hp)
    obtain ⟨r, er, hr⟩ := hy p hC hw hg
    rw [List.append_nil]
    simp only [f93n, f93o, er, bd, cs, List.all_cons, List.all_nil, Bool.and_true, show decide ((p.length : Int) > 8) = true by simp; omega, if_true, hg]
    refine ⟨_, rfl, ?_⟩
    cases hM : M p with
    | true => rw [hM, if_pos rfl] at hr; rw [hr]; rfl
    | false => rw [hM, if_neg (by simp)] at hr; obtain ⟨w, rfl, hw'⟩ := hr; exact ⟨w, rfl, hw'⟩
  | succ n ih =>
    intro p hl h1 hw hp q hq fuel hf
    obtain ⟨fuel, rfl⟩ : ∃ k, fuel = k + 1 := ⟨fuel - 1, by omega⟩
    obtain ⟨x, q, rfl⟩ : ∃ x q', q = x :: q' := by cases q with
      | nil => simp at hq
      | cons x q' => exact ⟨x, q', rfl⟩
    have hq' : q.length = n := by simpa using hq
    have ead : ad (p.length : Int) 1 = ((p.length + 1 : Nat) : Int) := ad1 (by rw [LFe]; omega)
    have e46 := f46_eq (t := (p.length : Int)) hb
    rw [nat_okT (by omega), Int.toNat_natCast, Bool.true_and, h0 _ h1 (by omega)] at e46
    have eix : ∀ (z : Int) (q : List Int), ix (p ++ z :: q) (p.length : Int) = some z := fun z q => by rw [ix_nat]; simp
    have est : ∀ (z : Int) (q : List Int) (v : Int), st (p ++ z :: q) (p.length : Int) v = some ((p ++ [v]) ++ q) := fun z q v => by rw [st_ok (by simp), pad_set]
    have hlen : ∀ (z : Int) (q : List Int), q.length = n → (p ++ z :: q).length = 9 := fun z q h => by simp; omega
    simp only [f93n, f93o, e46, bd, show decide ((p.length : Int) > 8) = false by simp; omega, Bool.false_eq_true, if_false]
    cases hP : P p.length with
    | false =>
      have hp' : poss a ((p ++ [-1]).length - 1) (p ++ [-1]) = true := by
        obtain ⟨k, hk⟩ : ∃ k, p.length = k + 1 := ⟨p.length - 1, by omega⟩
        rw [show (p ++ [(-1 : Int)]).length - 1 = k + 1 by simp; omega, poss_skip ht hu (by rw [← hk]; exact hP)]
        rw [poss_congr (d := p) ht fun t h h' => g_app (by obtain ⟨j, rfl, hj⟩ := okT_nat h; simp; omega)]
        rw [show k = p.length - 1 by omega]; exact hp
      have hi := ih (p ++ [-1]) (by simp; omega) (by simp) (Wp_un hw hP h1) hp' q hq' fuel (by omega)
      rw [List.length_append, List.length_singleton] at hi
      simp only [Bool.not_false, if_true, ead, lq, hlen x q hq', eix, est]
      obtain ⟨r, er, hr⟩ := hi
      rw [er]
      refine ⟨_, rfl, ?_⟩
      simp only [cs, hP, Bool.false_eq_true, if_false]
      exact hr
    | true =>
      simp only [Bool.not_true, Bool.false_eq_true, if_false]
      generalize hfb : (fun t : Nat => if al p t = true then cs P n (p ++ [(t : Int)]) else []) = fb
      have hcs : cs P (n + 1) p = (List.range (p.length + 1)).flatMap fb := by simp only [cs, hP, if_true, hfb]
      refine Ok.jn (fun v => v = .inl () ∧ ((cs P (n + 1) p).all fun c => !good a c || M c) = true) (Ok.iter (p.length + 1) (fun s i => (s.1, (i : Int), s.2))
        (fun (s : List Int × (Unit ⊕ W)) i => (∃ z q', s.1 = p ++ z :: q' ∧ q'.length = n) ∧ s.2 = .inl () ∧ (((List.range i).flatMap fb).all fun c => !good a c || M c) = true) (p ++ x :: q, .inl ()) 0 rfl ⟨⟨x, q, rfl, hq'⟩, rfl, rfl⟩ (by omega) (by rw [LFe]; omega) ?_ ?_) ?_
      · rintro ⟨_, _⟩ i ⟨⟨z, q', rfl, hz⟩, rfl, hI⟩ hi e
        have stp : (List.range (i + 1)).flatMap fb = (List.range i).flatMap fb ++ fb i := by
          rw [List.range_succ, List.flatMap_append]; simp
        have egi : i < p.length → ix (p ++ z :: q') (i : Int) = some (g p (i : Int)) := fun h => by
          rw [ix_nat, List.getElem?_append_left h]; simp [g, h]
        have hw' := Wp_snoc (t := i) hw (by omega)
        have hk' : ∀ t, okT t = true → t ≤ (p.length : Int) → t.toNat < (p ++ [(i : Int)]).length := fun t h h' => by obtain ⟨j, rfl, hj⟩ := okT_nat h; simp; omega
        obtain ⟨r1, e1, h1'⟩ := f111_eq (a := a) (k := p.length) (c := (p ++ [(i : Int)]) ++ q') hA hA' ht (by simp; omega) fun y hy h => by
          rw [g_app (hk' _ (ht.2 y hy).1 h)]
          have := Wp_g hw' (ht.2 y hy).1 (hu.2 y hy _ (.inl rfl)) (hk' _ (ht.2 y hy).1 h)
          simpa [okT] using this
        rw [poss_congr (d := p ++ [(i : Int)]) ht fun t h h' => g_app (hk' t h h')] at h1'
        simp only [show decide ((i : Int) ≤ (p.length : Int)) = true by simp; omega, if_true]
        refine Ok.jn (fun v : List Int × (Unit ⊕ W) => (∃ z q', v.1 = p ++ z :: q' ∧ q'.length = n) ∧ v.2 = .inl () ∧ (((List.range (i + 1)).flatMap fb).all fun c => !good a c || M c) = true) (Ok.jn (fun _ => al p i = true) ?_ ?_) ?_
        · by_cases hip : i < p.length
          · simp only [show decide ((i : Int) < (p.length : Int)) = true by simp; omega, if_true, egi hip, lq, hlen z q' hz]
            cases hgi : (g p (i : Int) != (i : Int)) with
            | true =>
              refine ⟨.inr (.inl (p ++ z :: q', .inl ())), rfl, ⟨z, q', rfl, hz⟩, rfl, ?_⟩
              have : al p i = false := by
                have h2 : (g p (i : Int) == (i : Int)) = false := by simpa [bne] using hgi
                simp [al, h2]; omega
              have hfi : fb i = [] := by rw [← hfb]; simp [this]
              rw [stp, hfi, List.append_nil, hI]
            | false =>
              refine ⟨.inl (), rfl, ?_⟩
              have h2 : (g p (i : Int) == (i : Int)) = true := by simpa [bne] using hgi
              show al p i = true
              simp [al, h2]
          · refine ⟨.inl (), by simp only [show decide ((i : Int) < (p.length : Int)) = false by simp; omega]; rfl, ?_⟩
            show al p i = true
            simp [al]; omega
        · intro _ hal
          have hfi : fb i = cs P n (p ++ [(i : Int)]) := by rw [← hfb]; simp [hal]
          simp only [lq, hlen z q' hz, if_true, eix, est, e1]
          cases hr1 : r1 with
          | false =>
            refine ⟨.inl ((p ++ [(i : Int)]) ++ q', .inl ()), rfl, ⟨(i : Int), q', by simp, hz⟩, rfl, ?_⟩
            rw [stp, List.all_append, hI, hfi, Bool.true_and]
            refine List.all_eq_true.mpr fun c hc => ?_
            obtain ⟨⟨q2, rfl⟩, _⟩ := cs_mem n _ c (by simp; omega) (by simp) hw' hc
            cases hg : good a (p ++ [(i : Int)] ++ q2) with
            | false => rfl
            | true =>
              have := late (k := p.length) (by simp) (by simp; omega) ht hu hw' hg
              rw [← h1', hr1] at this; cases this
          | true =>
            rw [hr1] at h1'
            obtain ⟨r, er, hr⟩ := ih (p ++ [(i : Int)]) (by simp; omega) (by simp) hw' (by simpa using h1'.symm) q' hz fuel (by omega)
            rw [List.length_append, List.length_singleton] at er
            simp only [if_true, ead, er]
            rw [← hfi] at hr
            unfold RR at hr
            split at hr
            · rename_i hall
              subst hr
              refine ⟨.inl ((p ++ [(i : Int)]) ++ q', .inl ()), rfl, ⟨(i : Int), q', by simp, hz⟩, rfl, ?_⟩
              rw [stp, List.all_append, hI, hall]; rfl
            · rename_i hall
              obtain ⟨w, rfl, hQ⟩ := hr
              refine ⟨.inr (.inr (.inr (false, .inr w))), rfl, ?_⟩
              have : ((cs P (n + 1) p).all fun c => !good a c || M c) = false := by
                rw [Bool.eq_false_iff]
                intro h
                refine hall (List.all_eq_true.mpr fun c hc => List.all_eq_true.mp h c ?_)
                rw [hcs]
                exact List.mem_flatMap.mpr ⟨i, List.mem_range.mpr hi, hc⟩
              show RR _ _ _
              rw [this]
              exact ⟨w, rfl, hQ⟩
        · rintro ⟨v1, v2⟩ ⟨hv1, hv2, hv3⟩
          exact ⟨.inl (v1, ((i + 1 : Nat) : Int), v2), by simp only [e], (v1, v2), rfl, hv1, hv2, hv3⟩
      · rintro ⟨_, _⟩ ⟨_, rfl, hI⟩
        refine ⟨.inl (.inl ()), by simp only [show decide (((p.length + 1 : Nat) : Int) ≤ (p.length : Int)) = false from decide_eq_false (by omega)]; rfl, rfl, ?_⟩
        rw [hcs]; exact hI
      · rintro _ ⟨rfl, h⟩
        refine Ok.some ?_
        rw [h]; rfl
end Go.Sep.Y
