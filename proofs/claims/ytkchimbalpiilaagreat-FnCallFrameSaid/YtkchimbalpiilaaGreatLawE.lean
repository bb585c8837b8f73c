/- Checks of cases. -/
import Derived.Test.YtkchimbalpiilaaGreatLawD
set_option linter.all false
set_option linter.deprecated false
namespace Go.Sep.Y
open Go Go.Sep

theorem fm_step {α β : Type} (f : α → Option β) (l : List α) (i : Nat) (y : α) (h : l[i]? = some y) : (l.take (i + 1)).filterMap f = (l.take i).filterMap f ++ (f y).toList := by
  rw [List.take_add_one, h, List.filterMap_append]
  cases hf : f y <;> simp [hf]
theorem fm_pre {α β : Type} (f : α → Option β) (l : List α) (i : Nat) : ∃ m, l.filterMap f = (l.take i).filterMap f ++ m :=
  ⟨(l.drop i).filterMap f, by rw [← List.filterMap_append, List.take_append_drop]⟩

theorem f107_eq {l : List T60} {c : List Int} (hl : l.length < LF) (ht : tmA l) (hc : isC c) : Ok (f107 l c) fun r => r = aok (l.filterMap (bgS c)) := by
  unfold f107
  refine Ok.bd (P := fun v => isB v fun _ => false) ⟨_, mk_ok (n := 1) (l := 9) (c := 9) (by omega) (by omega) (by omega), B_zero⟩ fun us hus => ?_
  refine Ok.jn (fun _ => aok (l.filterMap (bgS c)) = true) (Ok.iter l.length (fun s i => (s, (i : Int)))
    (fun s i => isB s (fun k => ((l.take i).filterMap (bgS c)).contains (k : Int)) ∧ aok ((l.take i).filterMap (bgS c)) = true) us 0 rfl ⟨B_cong hus fun i _ => by simp, rfl⟩ (by omega) hl ?_ ?_) ?_
  · rintro s i ⟨hB, hA⟩ hi e
    obtain ⟨y, hy⟩ : ∃ y, l[i]? = some y := ⟨l[i], by simp [hi]⟩
    have hm := List.mem_of_getElem? hy
    have e1 := g_ix hc.1 (ht y hm).1
    obtain ⟨m, em⟩ := fm_pre (bgS c) l (i + 1)
    rw [fm_step _ _ _ _ hy] at em
    have hv := hc.2 _ (g_mem hc.1 (ht y hm).1)
    have st0 : bgS c y = none → ∃ s', (s, ((i + 1 : Nat) : Int)) = (s', ((i + 1 : Nat) : Int)) ∧ isB s' (fun k => ((l.take (i + 1)).filterMap (bgS c)).contains (k : Int)) ∧ aok ((l.take (i + 1)).filterMap (bgS c)) = true := fun hb =>
      ⟨s, rfl, by rw [fm_step _ _ _ _ hy, hb]; simpa using hB, by rw [fm_step _ _ _ _ hy, hb]; simpa using hA⟩
    simp only [ltT hi, if_true, ix_nat (xs := l), hy, bd, e1, e]
    cases k1 : (y.f0 != 1) with
    | true => exact ⟨.inl (s, ((i + 1 : Nat) : Int)), by simp only [k1, if_true]; rfl, st0 (by simp only [bgS, k1, if_true])⟩
    | false =>
    cases k2 : decide (g c y.f1 < 0) with
    | true => exact ⟨.inl (s, ((i + 1 : Nat) : Int)), by simp only [k1, k2, if_true]; rfl, st0 (by simp only [bgS, k1, k2, if_true]; rfl)⟩
    | false =>
    have hb : bgS c y = some (g c y.f1) := by simp only [bgS, k1, k2]; rfl
    rw [hb] at em
    simp only [Option.toList] at em
    cases k3 : (g c y.f1 == 0) with
    | true =>
      refine ⟨.inr (.inr false), by simp only [k1, k2, k3]; rfl, ?_⟩
      show false = _
      rw [em, aok_app]
      rw [aok_snoc, beq_iff_eq.mp k3]; simp
    | false =>
    obtain ⟨n, en, hn⟩ : ∃ n : Nat, g c y.f1 = n ∧ n < 9 := ⟨(g c y.f1).toNat, by simp at k2; omega, by omega⟩
    have e2 := B_ix hB hn
    cases k4 : ((l.take i).filterMap (bgS c)).contains (n : Int) with
    | true =>
      rw [k4] at e2
      rw [en] at em ⊢
      rw [en] at k2 k3
      refine ⟨.inr (.inr false), by simp only [k2, k3, e2]; rfl, ?_⟩
      show false = _
      rw [em, aok_app]
      rw [aok_snoc, k4]; simp
    | false =>
      have e3 := B_st hB hn true
      rw [k4] at e2
      rw [en] at em hb ⊢
      rw [en] at k2 k3
      refine ⟨.inl (s.set n true, ((i + 1 : Nat) : Int)), by simp only [k2, k3, e2, e3]; rfl, _, rfl, ?_, ?_⟩
      · refine B_cong (B_set (k := n) hB) fun j _ => ?_
        rw [fm_step _ _ _ _ hy, hb, Bool.eq_iff_iff]
        simp
      · rw [fm_step _ _ _ _ hy, hb]
        simp only [Option.toList]
        rw [aok_snoc, hA, k4]
        simpa using k3
  · rintro s ⟨hB, hA⟩
    exact ⟨.inl (), by simp only [ltF]; rfl, by simpa [LR] using hA⟩
  · intro _ h
    exact Ok.some h.symm

theorem f108_eq {l : List T60} (hl : l.length < LF) : Ok (f108 l) fun r => r = aok (l.map (·.f1)) := by
  unfold f108
  have stp : ∀ i y, l[i]? = some y → (l.take (i + 1)).map (·.f1) = (l.take i).map (·.f1) ++ [y.f1] := fun i y h => by rw [List.take_add_one, h]; simp
  have pre : ∀ i, ∃ m, l.map (·.f1) = (l.take i).map (·.f1) ++ m := fun i => ⟨(l.drop i).map (·.f1), by rw [← List.map_append, List.take_append_drop]⟩
  refine Ok.jn (fun _ => aok (l.map (·.f1)) = true) (Ok.iter l.length (fun (_ : Unit) i => (i : Int)) (fun _ i => aok ((l.take i).map (·.f1)) = true) () 0 rfl rfl (by omega) hl ?_ ?_) ?_
  · rintro _ i hA hi e
    obtain ⟨y, hy⟩ : ∃ y, l[i]? = some y := ⟨l[i], by simp [hi]⟩
    obtain ⟨m, em⟩ := pre (i + 1)
    rw [stp _ _ hy] at em
    simp only [ltT hi, if_true]
    refine Ok.jn (fun _ => aok ((l.take (i + 1)).map (·.f1)) = true) ?_ ?_
    · simp only [ix_nat (xs := l), hy, bd]
      by_cases k3 : y.f1 = 0
      · refine ⟨.inr (.inr (.inr false)), by simp [k3], ?_⟩
        show false = _
        rw [em, aok_app]
        rw [aok_snoc, k3]; simp
      simp only [show (y.f1 == 0) = false by simpa using k3, Bool.false_eq_true, if_false]
      refine Ok.iter i (fun (_ : Unit) j => (j : Int)) (fun _ j => ∀ z ∈ l.take j, z.f1 ≠ y.f1) () 0 rfl (by simp) (by omega) (by omega) ?_ ?_
      · rintro _ j hj hji e'
        obtain ⟨z, hz⟩ : ∃ z, l[j]? = some z := ⟨l[j]'(by omega), by simp⟩
        simp only [show ((j : Int) < (i : Int)) by omega, decide_true, if_true, hz, ix_nat (xs := l), e', bd]
        by_cases kz : z.f1 = y.f1
        · refine ⟨.inr (.inr (.inr (.inr false))), by simp [kz], ?_⟩
          show false = _
          rw [em, aok_app]
          rw [aok_snoc]
          have : ((l.take i).map (·.f1)).contains y.f1 = true := List.contains_iff_mem.mpr (List.mem_map.mpr ⟨z, List.mem_of_getElem? (i := j) (by rw [List.getElem?_take, if_pos hji]; exact hz), kz⟩)
          rw [this, Bool.not_true, Bool.and_false, Bool.and_false]
        · refine ⟨.inl ((j + 1 : Nat) : Int), by simp [kz], (), rfl, fun w hw => ?_⟩
          rw [List.take_add_one, hz] at hw
          simp at hw
          rcases hw with hw | rfl
          · exact hj w hw
          · exact kz
      · rintro _ hj
        refine ⟨.inl (), by simp, ?_⟩
        show aok ((l.take (i + 1)).map (·.f1)) = true
        rw [stp _ _ hy, aok_snoc, hA]
        simp only [Bool.true_and, Bool.and_eq_true, bne_iff_ne, ne_eq, k3, not_false_eq_true, true_and, Bool.not_eq_true', List.contains_eq_mem, decide_eq_false_iff_not, List.mem_map, not_exists, not_and]
        exact hj
    · intro _ h
      exact ⟨.inl ((i + 1 : Nat) : Int), by simp only [e], (), rfl, h⟩
  · rintro s hA
    exact ⟨.inl (), by simp only [ltF]; rfl, by simpa [LR] using hA⟩
  · intro _ h
    exact Ok.some h.symm

def poss (a : T25) (k : Nat) (c : List Int) : Bool := (a.f0.all fun f => !(decide (f.f1 ≤ (k : Int)) && decide (f.f2 ≤ (k : Int))) || factI c f) && aok (a.f1.filterMap (bgI c k))
theorem f111_eq {a : T25} {k : Nat} {c : List Int} (hl : a.f0.length < LF) (hl' : a.f1.length < LF) (ht : tm a) (hc : c.length = 9) (hg : ∀ y ∈ a.f1, y.f1 ≤ (k : Int) → okT (g c y.f1) = true) : Ok (f111 a k c) fun r => r = poss a k c := by
  unfold f111
  rw [iter_list (W := Unit ⊕ Bool) (v := 0) a.f0 (fun (_ : Unit) i => (i : Int)) (fun _ y => if (!(decide (y.f1 ≤ (k : Int)) && decide (y.f2 ≤ (k : Int))) || factI c y) then .inl () else .inr (.inr false)) (fun _ => .inl ()) (fun _ _ => True) () rfl trivial hl
    (fun s i y _ hy h1 h2 h3 => by
      simp only [h1, h2, h3, bd, if_true, f112_eq hc (ht.1 y hy).1 (ht.1 y hy).2]
      by_cases q1 : y.f1 ≤ (k : Int) <;> by_cases q2 : y.f2 ≤ (k : Int) <;> by_cases q3 : factI c y = true <;> simp [q1, q2, q3, nx]) (fun _ _ _ _ _ _ _ => trivial) (fun s _ h2 => by simp only [h2]; rfl), foldE_all]
  unfold poss
  cases hall : (a.f0.all fun f => !(decide (f.f1 ≤ (k : Int)) && decide (f.f2 ≤ (k : Int))) || factI c f) with
  | false => exact ⟨false, by simp [fin, jn], by simp⟩
  | true =>
    simp only [if_true, fin, jn, Bool.true_and]
    generalize hf : bgI c k = f
    refine Ok.jn (fun _ => aok (a.f1.filterMap f) = true) (Ok.iter a.f1.length (fun s i => (s, (i : Int)))
      (fun s i => isR s (fun k => ((a.f1.take i).filterMap f).contains (k : Int)) ∧ aok ((a.f1.take i).filterMap f) = true) 0 0 rfl ⟨R_cong R_zero fun i _ => by simp, rfl⟩ (by omega) hl' ?_ ?_) ?_
    · rintro s i ⟨hB, hA⟩ hi e
      obtain ⟨y, hy⟩ : ∃ y, a.f1[i]? = some y := ⟨a.f1[i], by simp [hi]⟩
      have hm := List.mem_of_getElem? hy
      have e1 := g_ix hc (ht.2 y hm).1
      obtain ⟨m, em⟩ := fm_pre f a.f1 (i + 1)
      rw [fm_step _ _ _ _ hy] at em
      have st0 : f y = none → ∃ s', (s, ((i + 1 : Nat) : Int)) = (s', ((i + 1 : Nat) : Int)) ∧ isR s' (fun k => ((a.f1.take (i + 1)).filterMap f).contains (k : Int)) ∧ aok ((a.f1.take (i + 1)).filterMap f) = true := fun hb =>
        ⟨s, rfl, by rw [fm_step _ _ _ _ hy, hb]; simpa using hB, by rw [fm_step _ _ _ _ hy, hb]; simpa using hA⟩
      simp only [ltT hi, if_true, ix_nat (xs := a.f1), hy, bd, e1, e, f113_eq hc (ht.2 y hm).1 (ht.2 y hm).2, lq, hc]
      cases k1 : decide (y.f1 > (k : Int)) with
      | true => exact ⟨.inl (s, ((i + 1 : Nat) : Int)), rfl, st0 (by subst hf; simp only [bgI, k1, if_true])⟩
      | false =>
      cases k2 : decide (y.f2 > (k : Int)) with
      | true => exact ⟨.inl (s, ((i + 1 : Nat) : Int)), by simp only [k1, k2, if_true]; rfl, st0 (by subst hf; simp only [bgI, k1, k2, if_true]; rfl)⟩
      | false =>
      cases k5 : isF c y with
      | false => exact ⟨.inl (s, ((i + 1 : Nat) : Int)), rfl, st0 (by subst hf; simp only [bgI, k1, k2, k5]; rfl)⟩
      | true =>
      have hb : f y = some (g c y.f1) := by subst hf; simp only [bgI, k1, k2, k5]; rfl
      rw [hb] at em
      simp only [Option.toList] at em
      cases k3 : (g c y.f1 == 0) with
      | true =>
        refine ⟨.inr (.inr false), by simp only [k1, k2, k3, k5]; rfl, ?_⟩
        show false = _
        rw [em, aok_app]
        rw [aok_snoc, beq_iff_eq.mp k3]; simp
      | false =>
      have hk := hg y hm (by simpa using k1)
      have e2 := f46_eq (t := g c y.f1) hB
      obtain ⟨b, e3, r3⟩ := f45_eq (t := g c y.f1) hB
      obtain ⟨n, en, hn⟩ := okT_nat hk
      rw [hk, en, Int.toNat_natCast, Bool.true_and] at e2
      rw [en] at e3 r3 em hb ⊢
      rw [en] at k3
      cases k4 : ((a.f1.take i).filterMap f).contains (n : Int) with
      | true =>
        rw [k4] at e2
        refine ⟨.inr (.inr false), by simp only [k1, k2, k3, k5, e2]; rfl, ?_⟩
        show false = _
        rw [em, aok_app]
        rw [aok_snoc, k4]; simp
      | false =>
        rw [k4] at e2
        refine ⟨.inl (b, ((i + 1 : Nat) : Int)), by simp only [k1, k2, k3, k5, e2, e3]; rfl, _, rfl, ?_, ?_⟩
        · refine R_cong r3 fun j _ => ?_
          rw [fm_step _ _ _ _ hy, hb, Bool.eq_iff_iff]
          simp
        · rw [fm_step _ _ _ _ hy, hb]
          simp only [Option.toList]
          rw [aok_snoc, hA, k4]
          simpa using k3
    · rintro s ⟨hB, hA⟩
      exact ⟨.inl (), by simp only [ltF]; rfl, by simpa [LR] using hA⟩
    · intro _ h
      exact Ok.some h.symm
end Go.Sep.Y
