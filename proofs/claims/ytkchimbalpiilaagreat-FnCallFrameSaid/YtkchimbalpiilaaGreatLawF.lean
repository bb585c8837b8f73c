/- Cases, one after the other. -/
import Derived.Test.YtkchimbalpiilaaGreatLawE
set_option linter.all false
set_option linter.deprecated false
namespace Go.Sep.Y
open Go Go.Sep

def al (p : List Int) (t : Nat) : Bool := decide (p.length ≤ t) || (g p (t : Int) == (t : Int))
def cs (P : Nat → Bool) : Nat → List Int → List (List Int)
  | 0, p => [p]
  | n + 1, p => if P p.length = true then (List.range (p.length + 1)).flatMap fun t => if al p t = true then cs P n (p ++ [(t : Int)]) else []
    else cs P n (p ++ [-1])

def Wp (P : Nat → Bool) (p : List Int) : Prop := (∀ v ∈ p, -1 ≤ v ∧ v ≤ 8) ∧ ∀ (i : Nat) v, p[i]? = some v → (i = 0 ∨ P i = true) → 0 ≤ v
theorem Wp_snoc {P : Nat → Bool} {p : List Int} {t : Nat} (h : Wp P p) (ht : t < 9) : Wp P (p ++ [(t : Int)]) := by
  refine ⟨fun v hv => ?_, fun i v hi hP => ?_⟩
  · rcases List.mem_append.mp hv with hv | hv
    · exact h.1 v hv
    · simp at hv; omega
  · rw [List.getElem?_append] at hi
    split at hi
    · exact h.2 i v hi hP
    · rw [List.getElem?_singleton] at hi
      split at hi
      · cases hi; omega
      · cases hi
theorem Wp_un {P : Nat → Bool} {p : List Int} (h : Wp P p) (hP : P p.length = false) (h0 : 1 ≤ p.length) : Wp P (p ++ [-1]) := by
  refine ⟨fun v hv => ?_, fun i v hi hP' => ?_⟩
  · rcases List.mem_append.mp hv with hv | hv
    · exact h.1 v hv
    · simp at hv; omega
  · rw [List.getElem?_append] at hi
    split at hi
    · exact h.2 i v hi hP'
    · rw [List.getElem?_singleton] at hi
      split at hi
      · have : i = p.length := by omega
        subst this
        rcases hP' with h' | h'
        · omega
        · rw [hP] at h'; cases h'
      · cases hi
theorem cs_mem {P : Nat → Bool} : ∀ (n : Nat) (p c : List Int), p.length + n = 9 → 1 ≤ p.length → Wp P p → c ∈ cs P n p → (∃ q, c = p ++ q) ∧ c.length = 9 ∧ Wp P c
  | 0, p, c, hl, _, hw, hc => by
    simp only [cs, List.mem_singleton] at hc
    subst hc
    exact ⟨⟨[], by simp⟩, by omega, hw⟩
  | n + 1, p, c, hl, h1, hw, hc => by
    unfold cs at hc
    split at hc
    · obtain ⟨t, ht, hc⟩ := List.mem_flatMap.mp hc
      rw [List.mem_range] at ht
      split at hc
      · obtain ⟨⟨q, hq⟩, h2⟩ := cs_mem n _ c (by simp; omega) (by simp) (Wp_snoc hw (by omega)) hc
        exact ⟨⟨(t : Int) :: q, by rw [hq, List.append_assoc]; rfl⟩, h2⟩
      · cases hc
    · rename_i hP
      obtain ⟨⟨q, hq⟩, h2⟩ := cs_mem n _ c (by simp; omega) (by simp) (Wp_un hw (by simpa using hP) h1) hc
      exact ⟨⟨(-1) :: q, by rw [hq, List.append_assoc]; rfl⟩, h2⟩
theorem Wp_isC {P : Nat → Bool} {c : List Int} (h : Wp P c) (hl : c.length = 9) : isC c := ⟨hl, h.1⟩

def good (a : T25) (c : List Int) : Bool := a.f0.all (factS c) && aok ((fill a.f1 c).map (·.f1))

theorem g_app {p q : List Int} {t : Int} (h : t.toNat < p.length) : g (p ++ q) t = g p t := by
  simp [g, List.getD_eq_getElem?_getD, List.getElem?_append_left h]
theorem g_pad {p q : List Int} {n : Nat} {t : Int} (ht : t.toNat < p.length + n) (h : 0 ≤ g (p ++ List.replicate n (-1)) t) : g (p ++ q) t = g (p ++ List.replicate n (-1)) t := by
  by_cases hl : t.toNat < p.length
  · rw [g_app hl, g_app hl]
  · exfalso
    have : g (p ++ List.replicate n (-1)) t = -1 := by
      rw [g, List.getD_eq_getElem?_getD, List.getElem?_append_right (by omega), List.getElem?_replicate, if_pos (by omega)]; rfl
    omega

theorem sub_fm {α β : Type} {f h : α → Option β} : ∀ {l : List α}, (∀ y ∈ l, ∀ v, f y = some v → h y = some v) → (l.filterMap f).Sublist (l.filterMap h)
  | [], _ => List.Sublist.refl _
  | y :: ys, hh => by
    have ih := sub_fm (f := f) (h := h) (l := ys) fun z hz => hh z (List.mem_cons_of_mem _ hz)
    rcases hf : f y with _ | v
    · rw [List.filterMap_cons_none hf]
      rcases h2 : h y with _ | w
      · rw [List.filterMap_cons_none h2]; exact ih
      · rw [List.filterMap_cons_some h2]; exact ih.cons _
    · rw [List.filterMap_cons_some hf, List.filterMap_cons_some (hh y (List.mem_cons_self ..) v hf)]
      exact ih.cons_cons _

theorem fill_bg (l : List T60) (c : List Int) : (fill l c).map (·.f1) = l.filterMap fun y => if isF c y = true then some (g c y.f1) else none := by
  unfold fill
  rw [List.map_filterMap]
  congr 1
  funext y
  unfold fil
  split <;> rfl

/-- What fails early fails at last. -/
theorem early {a : T25} {p q : List Int} {n : Nat} (hl : p.length + n = 9) (ht : tm a) (hg : good a (p ++ q) = true) :
    a.f0.all (factS (p ++ List.replicate n (-1))) = true ∧ aok (a.f1.filterMap (bgS (p ++ List.replicate n (-1)))) = true := by
  simp only [good, Bool.and_eq_true] at hg
  have hb : ∀ t, okT t = true → t.toNat < p.length + n := fun t h => by obtain ⟨k, rfl, hk⟩ := okT_nat h; simp; omega
  constructor
  · refine List.all_eq_true.mpr fun f hf => ?_
    have h1 := List.all_eq_true.mp hg.1 f hf
    have h3 := hb _ (ht.1 f hf).1
    have h4 := hb _ (ht.1 f hf).2
    by_cases k1 : 0 ≤ g (p ++ List.replicate n (-1)) f.f1
    · by_cases k2 : 0 ≤ g (p ++ List.replicate n (-1)) f.f2
      · have e1 := g_pad (q := q) h3 k1
        have e2 := g_pad (q := q) h4 k2
        simp only [factS, factI, e1, e2, k1, k2, if_true] at h1 ⊢
        exact h1
      · simp only [factS, k1, k2, if_true, if_false]
    · simp only [factS, k1, if_false]
  · rw [fill_bg] at hg
    refine aok_sub (sub_fm fun y hy v hv => ?_) hg.2
    have h3 := hb _ (ht.2 y hy).1
    unfold bgS at hv
    split at hv
    · cases hv
    rename_i k0
    split at hv
    · cases hv
    rename_i k1
    cases hv
    have k0' : (y.f0 == 1) = true := by simpa using k0
    rw [g_pad (q := q) h3 (by simpa using k1)]
    simp [isF, k0']

def mt (a b : T25) (c : List Int) : Bool := f110 a b c == some true
def bad (a b : T25) (c : List Int) : Bool := good a c && !mt a b c

theorem pad_step (p : List Int) (n : Nat) : p ++ List.replicate (n + 1) (-1) = (p ++ [-1]) ++ List.replicate n (-1) := by
  rw [List.replicate_succ, List.append_assoc]; rfl
theorem pad_set (p : List Int) (x : Int) (q : List Int) (v : Int) : (p ++ x :: q).set p.length v = (p ++ [v]) ++ q := by simp

theorem f89_eq {a b : T25} {us : List Bool} {P : Nat → Bool} (hus : isB us P) (hla : a.f0.length ≤ 1000) (hla' : a.f1.length ≤ 1000) (ht : tm a)
    (hm : ∀ c, isC c → Wp P c → good a c = true → ∃ m, f110 a b c = some m) :
    ∀ (n : Nat) (p : List Int), p.length + n = 9 → 1 ≤ p.length → Wp P p → ∀ fuel, n < fuel →
      Ok (f89n fuel a b us (p ++ List.replicate n (-1)) (p.length : Int)) fun r => r.2 = (cs P n p).any (bad a b) := by
  have hA : a.f0.length < LF := by rw [LFe]; omega
  have hA' : a.f1.length < LF := by rw [LFe]; omega
  intro n
  induction n with
  | zero =>
    intro p hl h1 hw fuel hf
    obtain ⟨fuel, rfl⟩ : ∃ k, fuel = k + 1 := ⟨fuel - 1, by omega⟩
    have hC : isC p := Wp_isC hw (by omega)
    rw [List.replicate_zero, List.append_nil]
    have e1 := f106_eq hA ht.1 hC
    have e3 := f109_eq hla' ht.2 hC
    obtain ⟨r2, e2, h2⟩ := f107_eq hA' ht.2 hC
    obtain ⟨r4, e4, h4⟩ := f108_eq (l := fill a.f1 p) (Nat.lt_of_le_of_lt (List.length_filterMap_le _ _) hA')
    have hE := early (a := a) (p := p) (q := []) (n := 0) (by omega) ht
    simp only [List.append_nil, List.replicate_zero] at hE
    simp only [f89n, f89o, e1, e2, e3, e4, bd, cs, List.any_cons, List.any_nil, Bool.or_false, show decide ((p.length : Int) > 8) = true by simp; omega, if_true]
    cases q1 : a.f0.all (factS p) with
    | false =>
      have : good a p = false := by simp [good, q1]
      exact ⟨_, rfl, by simp [bad, this]⟩
    | true =>
    cases q2 : r2 with
    | false =>
      have : good a p = false := by
        cases hg : good a p with
        | false => rfl
        | true => rw [← h2, q2] at hE; exact absurd (hE hg).2 (by simp)
      exact ⟨_, rfl, by simp [bad, this]⟩
    | true =>
    cases q4 : r4 with
    | false =>
      have : good a p = false := by simp [good, ← h4, q4]
      exact ⟨_, rfl, by simp [bad, this]⟩
    | true =>
      have hg : good a p = true := by simp [good, ← h4, q4, q1]
      obtain ⟨m, em⟩ := hm p hC hw hg
      have ea : ap 8 ([] : List Int) p = some p := by rw [ap_ok (by simp; omega) (by simp; omega)]; rfl
      simp only [em, ea, mt, bad, hg]
      cases m <;> exact ⟨_, rfl, rfl⟩
  | succ n ih =>
    intro p hl h1 hw fuel hf
    obtain ⟨fuel, rfl⟩ : ∃ k, fuel = k + 1 := ⟨fuel - 1, by omega⟩
    have hC : isC (p ++ List.replicate (n + 1) (-1)) := ⟨by simp; omega, fun v hv => by
      rcases List.mem_append.mp hv with hv | hv
      · exact hw.1 v hv
      · rw [List.mem_replicate] at hv; omega⟩
    have e1 := f106_eq hA ht.1 hC
    obtain ⟨r2, e2, h2⟩ := f107_eq hA' ht.2 hC
    have hE : ∀ c ∈ cs P (n + 1) p, good a c = true → a.f0.all (factS (p ++ List.replicate (n + 1) (-1))) = true ∧ r2 = true := fun c hc hg => by
      obtain ⟨⟨q, rfl⟩, _⟩ := cs_mem (n + 1) p c hl h1 hw hc
      rw [h2]
      exact early hl ht hg
    have hno : (∀ c ∈ cs P (n + 1) p, good a c = false) → (cs P (n + 1) p).any (bad a b) = false := fun h => by
      rw [List.any_eq_false]
      intro c hc
      simp [bad, h c hc]
    simp only [f89n, f89o, e1, e2, bd]
    cases q1 : a.f0.all (factS (p ++ List.replicate (n + 1) (-1))) with
    | false =>
      refine ⟨_, rfl, (hno fun c hc => ?_).symm⟩
      cases hg : good a c with
      | false => rfl
      | true => rw [q1] at hE; exact absurd (hE c hc hg).1 (by simp)
    | true =>
    cases q2 : r2 with
    | false =>
      refine ⟨_, rfl, (hno fun c hc => ?_).symm⟩
      cases hg : good a c with
      | false => rfl
      | true => rw [q2] at hE; exact absurd (hE c hc hg).2 (by simp)
    | true =>
    clear hE hno
    simp only [Bool.not_true, Bool.false_eq_true, if_false, jn, show decide ((p.length : Int) > 8) = false by simp; omega]
    have ead : ad (p.length : Int) 1 = ((p.length + 1 : Nat) : Int) := ad1 (by rw [LFe]; omega)
    rw [B_ix hus (show p.length < 9 by omega)]
    simp only []
    cases hP : P p.length with
    | false =>
      have hi := ih (p ++ [-1]) (by simp; omega) (by simp) (Wp_un hw hP h1) fuel (by omega)
      simp only [Bool.not_false, if_true, ead, pad_step]
      rw [List.length_append, List.length_singleton] at hi
      refine Ok.bd hi fun v hv => Ok.some ?_
      simp only [hv, cs, hP, Bool.false_eq_true, if_false]
    | true =>
      simp only [Bool.not_true, Bool.false_eq_true, if_false]
      refine Ok.jn (fun _ => (cs P (n + 1) p).any (bad a b) = false) (Ok.iter (p.length + 1) (fun (_ : Unit) i => (i : Int))
        (fun _ i => ((List.range i).flatMap fun t => if al p t = true then cs P n (p ++ [(t : Int)]) else []).any (bad a b) = false) () 0 rfl rfl (by omega) (by rw [LFe]; omega) ?_ ?_) ?_
      · rintro _ i hI hi e
        have stp : ((List.range (i + 1)).flatMap fun t => if al p t = true then cs P n (p ++ [(t : Int)]) else []) = ((List.range i).flatMap fun t => if al p t = true then cs P n (p ++ [(t : Int)]) else []) ++ (if al p i = true then cs P n (p ++ [(i : Int)]) else []) := by
          rw [List.range_succ, List.flatMap_append]; simp
        have eap : ap 8 ([] : List Int) (p ++ List.replicate (n + 1) (-1)) = some (p ++ List.replicate (n + 1) (-1)) := by rw [ap_ok (by simp; omega) (by simp; omega)]; rfl
        have est : st (p ++ List.replicate (n + 1) (-1)) (p.length : Int) (i : Int) = some ((p ++ [(i : Int)]) ++ List.replicate n (-1)) := by
          rw [st_ok (by simp), List.replicate_succ, pad_set]
        have eix : ∃ z, ix (p ++ List.replicate (n + 1) (-1)) (p.length : Int) = some z := ⟨-1, by rw [ix_nat]; simp⟩
        obtain ⟨z, eix⟩ := eix
        obtain ⟨r, er, hr⟩ := ih (p ++ [(i : Int)]) (by simp; omega) (by simp) (Wp_snoc hw (by omega)) fuel (by omega)
        rw [List.length_append, List.length_singleton] at er
        have egi : i < p.length → ix (p ++ List.replicate (n + 1) (-1)) (i : Int) = some (g p (i : Int)) := fun h => by
          rw [ix_nat, List.getElem?_append_left h]; simp [g, h]
        simp only [show decide ((i : Int) ≤ (p.length : Int)) = true by simp; omega, if_true, eap, est, eix, ead, er, e]
        refine Ok.jn (fun _ => ((List.range (i + 1)).flatMap fun t => if al p t = true then cs P n (p ++ [(t : Int)]) else []).any (bad a b) = false) (Ok.jn (fun _ => al p i = true) ?_ ?_) ?_
        · by_cases hip : i < p.length
          · simp only [show decide ((i : Int) < (p.length : Int)) = true by simp; omega, if_true, egi hip]
            cases hgi : (g p (i : Int) != (i : Int)) with
            | true =>
              refine ⟨.inr (.inl ()), rfl, ?_⟩
              have : al p i = false := by
                have h2 : (g p (i : Int) == (i : Int)) = false := by simpa [bne] using hgi
                simp [al, h2]; omega
              show _ = false
              rw [stp, List.any_append, hI, this]; rfl
            | false =>
              refine ⟨.inl (), rfl, ?_⟩
              have h2 : (g p (i : Int) == (i : Int)) = true := by simpa [bne] using hgi
              show al p i = true
              simp [al, h2]
          · refine ⟨.inl (), by simp only [show decide ((i : Int) < (p.length : Int)) = false by simp; omega]; rfl, ?_⟩
            show al p i = true
            simp [al]; omega
        · intro _ hal
          cases hr2 : r.2 with
          | true =>
            refine ⟨.inr (.inr (.inr (r.1, true))), rfl, ?_⟩
            show true = _
            rw [hr2] at hr
            obtain ⟨c, hc, hb⟩ := List.any_eq_true.mp hr.symm
            refine (List.any_eq_true.mpr ⟨c, ?_, hb⟩).symm
            simp only [cs, hP, if_true]
            exact List.mem_flatMap.mpr ⟨i, List.mem_range.mpr hi, by rw [if_pos hal]; exact hc⟩
          | false =>
            refine ⟨.inl (), rfl, ?_⟩
            show _ = false
            rw [stp, List.any_append, hI, hal, if_pos rfl, ← hr, hr2]; rfl
        · intro _ h
          exact ⟨.inl ((i + 1 : Nat) : Int), rfl, (), rfl, h⟩
      · rintro _ hI
        refine ⟨.inl (), by simp only [show decide (((p.length + 1 : Nat) : Int) ≤ (p.length : Int)) = false from decide_eq_false (by omega)]; rfl, ?_⟩
        show _ = false
        simp only [cs, hP, if_true]
        exact hI
      · rintro _ h
        exact Ok.some h.symm
end Go.Sep.Y
