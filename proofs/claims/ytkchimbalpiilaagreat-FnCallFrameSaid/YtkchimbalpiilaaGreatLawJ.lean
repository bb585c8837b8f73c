/- Entailment: the same in both. -/
import Derived.Test.YtkchimbalpiilaaGreatLawI
set_option linter.all false
set_option linter.deprecated false
namespace Go.Sep.Y
open Go Go.Sep

def uni (a b : T25) (i : Nat) : Bool := occ a i || occ b i
/-- The answer. -/
def ent (a b : T25) : Bool := !((cs (uni a b) 8 [0]).any (bad a b))

theorem valid_facts {a : T25} (h : valid a = true) : a.f0.length ≤ 12 ∧ a.f1.length ≤ 6 ∧ tm a ∧ ∀ y ∈ a.f1, y.f0 = 1 ∨ y.f0 = 2 := by
  simp only [valid, okFs, Bool.and_eq_true] at h
  obtain ⟨h1, ⟨h2, h3⟩, h4⟩ := h
  have q3 : (a.f0.length : Int) ≤ 12 := of_decide_eq_true h3
  have q4 : (a.f1.length : Int) ≤ 6 := of_decide_eq_true h4
  refine ⟨by omega, by omega, ⟨okF_tm h2, okA_tm h1⟩, fun y hy => ?_⟩
  have := List.all_eq_true.mp h1 y hy
  simp only [okA, Bool.and_eq_true, Bool.or_eq_true, beq_iff_eq] at this
  exact this.1

theorem tu_occ {a : T25} {P : Nat → Bool} (ht : tm a) (h : ∀ i, occ a i = true → P i = true) : Tu P a := by
  constructor
  · intro f hf t htt
    obtain ⟨k, rfl, hk⟩ : ∃ k : Nat, t = k ∧ k < 9 := by
      rcases htt with rfl | rfl
      · exact okT_nat (ht.1 f hf).1
      · exact okT_nat (ht.1 f hf).2
    refine .inr (h _ ?_)
    rw [Int.toNat_natCast]
    simp only [occ, Bool.or_eq_true]
    exact .inl (List.any_eq_true.mpr ⟨f, hf, by simpa using htt⟩)
  · intro f hf t htt
    obtain ⟨k, rfl, hk⟩ : ∃ k : Nat, t = k ∧ k < 9 := by
      rcases htt with rfl | rfl
      · exact okT_nat (ht.2 f hf).1
      · exact okT_nat (ht.2 f hf).2
    refine .inr (h _ ?_)
    rw [Int.toNat_natCast]
    simp only [occ, Bool.or_eq_true]
    exact .inr (List.any_eq_true.mpr ⟨f, hf, by simpa using htt⟩)

theorem Wp0 {P : Nat → Bool} : Wp P [0] := by
  refine ⟨fun v hv => by simp at hv; omega, fun i v hv _ => ?_⟩
  rw [List.getElem?_singleton] at hv
  split at hv
  · cases hv; omega
  · cases hv

theorem f91_eq : f91 = some [0, -1, -1, -1, -1, -1, -1, -1, -1] := by kernel_rfl

theorem f72_eq {a b : T25} (ha : valid a = true) (hb : valid b = true) : Ok (f72 a b) fun r => r.2 = !ent a b := by
  obtain ⟨a1, a2, a3, a4⟩ := valid_facts ha
  obtain ⟨b1, b2, b3, b4⟩ := valid_facts hb
  have e1 : ∀ l : List T53, l.length ≤ 12 → ap 24 ([] : List T53) l = some l := fun l h => by rw [ap_ok (by simp; omega) (by simp; omega)]; rfl
  have e2 : ∀ l : List T60, l.length ≤ 12 → ap 24 ([] : List T60) l = some l := fun l h => by rw [ap_ok (by simp; omega) (by simp; omega)]; rfl
  have hc : tm (⟨a.f0 ++ b.f0, a.f1 ++ b.f1⟩ : T25) := ⟨fun f hf => by
    rcases List.mem_append.mp hf with h | h
    · exact a3.1 f h
    · exact b3.1 f h, fun f hf => by
    rcases List.mem_append.mp hf with h | h
    · exact a3.2 f h
    · exact b3.2 f h⟩
  obtain ⟨us, e3, hus⟩ := f26_eq (⟨a.f0 ++ b.f0, a.f1 ++ b.f1⟩ : T25) hc (by rw [LFe]; simp; omega) (by rw [LFe]; simp; omega)
  have hus' : isB us (uni a b) := B_cong hus fun i _ => by
    simp only [occ, uni, oF, oA, List.any_append]
    cases (List.any a.f0 fun f => decide ((i : Int) = f.f1) || decide ((i : Int) = f.f2)) <;> cases (List.any b.f0 fun f => decide ((i : Int) = f.f1) || decide ((i : Int) = f.f2)) <;>
      cases (List.any a.f1 fun f => decide ((i : Int) = f.f1) || decide ((i : Int) = f.f2)) <;> cases (List.any b.f1 fun f => decide ((i : Int) = f.f1) || decide ((i : Int) = f.f2)) <;> rfl
  have h := f89_eq (a := a) (b := b) hus' (by omega) (by omega) a3 (fun c hc hw _ => (f75_eq (P := uni a b) hc hw (tu_occ b3 fun i h => by simp [uni, h]) a3 b3 a2 (by omega) (by omega) b4).1) 8 [0] rfl (by simp) Wp0 LF (by rw [LFe]; omega)
  obtain ⟨r, er, hr⟩ := h
  have er' : f89 a b us [0, -1, -1, -1, -1, -1, -1, -1, -1] 1 = some r := er
  refine ⟨(r.1, r.2), ?_, by rw [hr]; simp [ent]⟩
  simp only [f72, f90, e1 _ a1, e2 _ (Nat.le_trans a2 (by omega)), bd, ap_ok (n := 24) (xs := a.f0) (ys := b.f0) (by omega) (by omega), ap_ok (n := 24) (xs := a.f1) (ys := b.f1) (by omega) (by omega), e3, f91_eq, er']

theorem f54_eq {a b : T25} (h1 : a.f0.length < LF) (h2 : a.f1.length < LF) (h3 : b.f0.length < LF) (h4 : b.f1.length < LF) : f54 a b = some (valid a && (valid b && ent a b)) := by
  simp only [f54, f22_eq a h1 h2, f22_eq b h3 h4, bd]
  cases ha : valid a with
  | false => rfl
  | true =>
  cases hb : valid b with
  | false => rfl
  | true =>
    obtain ⟨r, er, hr⟩ := f72_eq ha hb
    simp only [Bool.not_true, Bool.false_eq_true, if_false, jn, er, hr, Bool.not_not, Bool.true_and]

theorem bdS {α β : Type} (x : α) (k : α → Option β) : bd (some x) k = k x := by
  unfold bd
  rfl

theorem f58_eq {a b : T25} (ha : valid a = true) (hb : valid b = true) : Ok (f58 a b) fun r => r.2 = !ent a b := by
  obtain ⟨a1, a2, a3, a4⟩ := valid_facts ha
  obtain ⟨b1, b2, b3, b4⟩ := valid_facts hb
  have hA : a.f0.length < LF := by rw [LFe]; omega
  have hA' : a.f1.length < LF := by rw [LFe]; omega
  obtain ⟨v1, e1, r1⟩ := f17_eq b (by rw [LFe]; omega) (by rw [LFe]; omega)
  obtain ⟨v2, e2, r2⟩ := f17_eq a hA hA'
  obtain ⟨v3, e3, r3⟩ := f45_eq (t := 0) r2
  have r4 := R_or r3 r1
  have hta : Tu (uni a b) a := tu_occ a3 fun i h => by simp [uni, h]
  have htb : Tu (uni a b) b := tu_occ b3 fun i h => by simp [uni, h]
  have hP0 : ∀ i, 1 ≤ i → i < 9 → (fun i => (occ a i || decide ((i : Int) = 0)) || occ b i) i = uni a b i := fun i h _ => by
    have : ¬ (i = 0) := by omega
    simp [uni, this]
  have e74 : f74 a v1 = some (a, bor .u16 v3 v1) := by simp only [f74, e2, e3, bd]
  simp only [f58, e1, e74, bdS]
  generalize hb' : bor .u16 v3 v1 = bits at r4
  generalize hy : (ymk (W := ((List Int) × Bool)) fun (v5 : Unit) (v8 : (List Int)) =>
    bd (f75 a b v8) fun v9 =>
    if (!v9.2) = true then
    some (.inr (v8, true))
    else
    some (.inl ())) = y
  have hyy : ∀ c, isC c → Wp (uni a b) c → good a c = true → Ok (y (.inl ()) c) fun r => if mt a b c = true then r = (.inl (), true) else ∃ w, r = (.inr w, false) ∧ w.2 = true := fun c hc hw _ => by
    obtain ⟨r, er, hr⟩ := (f75_eq (P := uni a b) hc hw htb a3 b3 a2 (by omega) (by omega) b4).2
    subst hy
    simp only [ymk, er, bd]
    rw [hr]
    cases mt a b c with
    | true => exact ⟨_, rfl, rfl⟩
    | false => exact ⟨_, rfl, _, rfl, rfl⟩
  have h93 := f93_eq (fun w : List Int × Bool => w.2 = true) (mt a b) r4 hP0 (by omega) (by omega) a3 hta hyy
  have main : Ok (f93 y (.inl ()) [0, 0, 0, 0, 0, 0, 0, 0, 0] 0 a bits) fun r => RR (fun w : List Int × Bool => w.2 = true) ((cs (uni a b) 8 [0]).all fun c => !good a c || mt a b c) r := by
    obtain ⟨k, hk, hk2⟩ : ∃ k, LF = k + 1 ∧ 100 ≤ k := ⟨4611686018427387903, rfl, by omega⟩
    unfold f93
    rw [hk]
    have e46 := f46_eq (t := 0) r4
    have e46' : f46 bits 0 = some true := by rw [e46]; simp [okT]
    simp only [f93n, f93o, e46', bd, show decide ((0 : Int) > 8) = false by decide, Bool.false_eq_true, if_false, Bool.not_true]
    have ead : ad (0 : Int) 1 = 1 := rfl
    refine Ok.jn (fun v => v = .inl () ∧ ((cs (uni a b) 8 [0]).all fun c => !good a c || mt a b c) = true) (Ok.iter 1 (fun s i => (s.1, (i : Int), s.2))
      (fun (s : List Int × (Unit ⊕ (List Int × Bool))) i => s.2 = .inl () ∧ (i = 0 → s.1 = [0, 0, 0, 0, 0, 0, 0, 0, 0]) ∧ (i = 1 → ((cs (uni a b) 8 [0]).all fun c => !good a c || mt a b c) = true)) ([0, 0, 0, 0, 0, 0, 0, 0, 0], .inl ()) 0 rfl ⟨rfl, fun _ => rfl, fun h => by cases h⟩ (by omega) (by rw [LFe]; omega) ?_ ?_) ?_
    · rintro ⟨x1, _⟩ i ⟨rfl, h0, _⟩ hi e
      obtain rfl : i = 0 := by omega
      have h0' := h0 rfl
      simp only at h0'
      subst h0'
      obtain ⟨r1, e111, h1'⟩ := f111_eq (a := a) (k := 0) (c := [0, 0, 0, 0, 0, 0, 0, 0, 0]) hA hA' a3 rfl fun y hy h => by
        obtain ⟨j, hj, _⟩ := okT_nat (a3.2 y hy).1
        rw [hj] at h ⊢
        obtain rfl : j = 0 := by omega
        rfl
      rw [poss_congr (d := [0]) a3 fun t h h' => by
        obtain ⟨j, rfl, _⟩ := okT_nat h
        obtain rfl : j = 0 := by omega
        rfl] at h1'
      have e111' : f111 a 0 [0, 0, 0, 0, 0, 0, 0, 0, 0] = some r1 := e111
      have est : st [0, 0, 0, 0, 0, 0, 0, 0, 0] (0 : Int) (0 : Int) = some [0, 0, 0, 0, 0, 0, 0, 0, 0] := rfl
      have eix : ix [(0 : Int), 0, 0, 0, 0, 0, 0, 0, 0] (0 : Int) = some 0 := rfl
      simp only [Int.natCast_zero, Int.le_refl, decide_true, if_true, show decide ((0 : Int) < 0) = false by decide, Bool.false_eq_true, if_false, jn, lq, List.length_cons, List.length_nil, eix, est, e111', ead]
      cases hr1 : r1 with
      | false =>
        refine ⟨.inl ([0, 0, 0, 0, 0, 0, 0, 0, 0], 1, .inl ()), rfl, ([0, 0, 0, 0, 0, 0, 0, 0, 0], .inl ()), rfl, rfl, fun h => absurd h (by omega), fun _ => ?_⟩
        refine List.all_eq_true.mpr fun c hc => ?_
        obtain ⟨⟨q2, rfl⟩, _⟩ := cs_mem 8 _ c rfl (by simp) Wp0 hc
        cases hg : good a ([0] ++ q2) with
        | false => rfl
        | true =>
          have := late (k := 0) rfl (by simp) a3 hta Wp0 hg
          rw [← h1', hr1] at this; cases this
      | true =>
        rw [hr1] at h1'
        obtain ⟨r, er, hr⟩ := h93 8 [0] rfl (by simp) Wp0 h1'.symm [0, 0, 0, 0, 0, 0, 0, 0] rfl k (by omega)
        have er' : f93n y k (.inl ()) [0, 0, 0, 0, 0, 0, 0, 0, 0] 1 a bits = some r := er
        simp only [if_true, er']
        unfold RR at hr
        split at hr
        · rename_i hall
          subst hr
          exact ⟨.inl ([0, 0, 0, 0, 0, 0, 0, 0, 0], 1, .inl ()), rfl, ([0, 0, 0, 0, 0, 0, 0, 0, 0], .inl ()), rfl, rfl, fun h => absurd h (by omega), fun _ => hall⟩
        · rename_i hall
          obtain ⟨w, rfl, hQ⟩ := hr
          refine ⟨.inr (.inr (false, .inr w)), rfl, ?_⟩
          show RR _ _ _
          rw [Bool.not_eq_true] at hall
          rw [hall]
          exact ⟨w, rfl, hQ⟩
    · rintro ⟨x1, _⟩ ⟨rfl, _, h⟩
      exact ⟨.inl (.inl ()), rfl, rfl, h rfl⟩
    · rintro _ ⟨rfl, h⟩
      refine Ok.some ?_
      rw [h]; rfl
  obtain ⟨r, er, hr⟩ := main
  have hent : ent a b = (cs (uni a b) 8 [0]).all fun c => !good a c || mt a b c := by
    unfold ent
    rw [List.not_any_eq_all_not]
    refine all_congr fun c _ => ?_
    unfold bad
    cases good a c <;> cases mt a b c <;> rfl
  simp only [f92, er, bdS]
  rw [hent]
  unfold RR at hr
  split at hr
  · rename_i hall
    subst hr
    exact ⟨([0, 0, 0, 0, 0, 0, 0, 0, 0], false), rfl, by rw [hall]; rfl⟩
  · rename_i hall
    obtain ⟨w, rfl, hQ⟩ := hr
    rw [Bool.not_eq_true] at hall
    exact ⟨(w.1, w.2), rfl, by rw [hall]; exact hQ⟩

theorem f35_eq {a b : T25} (h1 : a.f0.length < LF) (h2 : a.f1.length < LF) (h3 : b.f0.length < LF) (h4 : b.f1.length < LF) : f35 a b = some (valid a && (valid b && ent a b)) := by
  simp only [f35, f15_eq a h1 h2, f15_eq b h3 h4, bd]
  cases ha : valid a with
  | false => rfl
  | true =>
  cases hb : valid b with
  | false => rfl
  | true =>
    obtain ⟨r, er, hr⟩ := f58_eq ha hb
    simp only [Bool.not_true, Bool.false_eq_true, if_false, jn, er, hr, Bool.not_not, Bool.true_and]
end Go.Sep.Y
