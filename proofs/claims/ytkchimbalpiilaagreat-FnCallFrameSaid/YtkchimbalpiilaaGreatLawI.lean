/- Entailment, twice. -/
import Derived.Test.YtkchimbalpiilaaGreatLawH
set_option linter.all false
set_option linter.deprecated false
namespace Go.Sep.Y
open Go Go.Sep

theorem foldE_take {S α W : Type} (f : S → α → S ⊕ W) : ∀ (l : List α) (s : S) (i : Nat) (y : α) (s' : S), l[i]? = some y → foldE f s (l.take i) = .inl s' → foldE f s (l.take (i + 1)) = f s' y
  | [], s, i, y, s', h, _ => by simp at h
  | x :: l, s, 0, y, s', h, h' => by
    simp at h
    subst h
    simp only [List.take_zero, foldE] at h'
    cases h'
    simp only [List.take_succ_cons, List.take_zero, foldE]
    cases f s x <;> rfl
  | x :: l, s, i + 1, y, s', h, h' => by
    rw [List.getElem?_cons_succ] at h
    rw [List.take_succ_cons] at h' ⊢
    unfold foldE at h' ⊢
    cases hf : f s x with
    | inl s1 => rw [hf] at h'; exact foldE_take f l s1 i y s' h h'
    | inr w => rw [hf] at h'; cases h'
theorem foldE_stop {S α W : Type} (f : S → α → S ⊕ W) (w : W) : ∀ (l : List α) (s : S) (i : Nat), foldE f s (l.take i) = .inr w → foldE f s l = .inr w
  | [], s, i, h => by simp [foldE] at h
  | x :: l, s, 0, h => by simp [foldE] at h
  | x :: l, s, i + 1, h => by
    rw [List.take_succ_cons] at h
    unfold foldE at h ⊢
    cases hf : f s x with
    | inl s1 => rw [hf] at h; exact foldE_stop f w l s1 i h
    | inr w' => rw [hf] at h; exact h

def eqA (z y : T60) : Bool := z.f0 == y.f0 && (z.f1 == y.f1 && (z.f2 == y.f2 && true))
/-- One goal is met. -/
def stp (xs : List T60) (us : List Bool) (y : T60) : List Bool ⊕ (List Bool ⊕ Bool) :=
  if (y.f0 == 2) = true then (match f129b xs y.f1 y.f2 us with | some (true, u) => .inl u | _ => .inr (.inr false))
  else match fnd us y.f1 0 xs with
    | none => .inr (.inr false)
    | some j => if eqA (xs.getD j ⟨0, 0, 0⟩) y = true then .inl (us.set j true) else .inr (.inr false)
def mres (xs ys : List T60) : Bool := match foldE (stp xs) (List.replicate xs.length false) ys with
  | .inl us => us.all id
  | .inr _ => false

theorem chain2 {xs : List T60} {us : List Bool} {y : T60} (hl : xs.length ≤ 6) (hu : us.length = xs.length) (hy : y.f1 ≠ y.f2) :
    (∃ us' acc', f129b xs y.f1 y.f2 us = some (true, us') ∧ us'.length = xs.length ∧ f97 y (mOf xs us) = some (acc', true, mOf xs us')) ∨
    (∃ us' acc' m', f129b xs y.f1 y.f2 us = some (false, us') ∧ us'.length = xs.length ∧ f97 y (mOf xs us) = some (acc', false, m')) := by
  have hl' : xs.length < LF := by rw [LFe]; omega
  have e := f116_eq (xs := xs) y.f2 hl'
  have hc := List.count_le_length (a := false) (l := us)
  have ej : f97 y (mOf xs us) = iter (chI y (y.f2 == 0 || xs.any fun z => z.f1 == y.f2)) (mOf xs us, [], y.f1) := by
    rw [f97_eq, show (mOf xs us).f0 = xs from rfl, e]
    cases y.f2 == 0 <;> simp only [jn, bd, if_true, Bool.true_or, Bool.false_or, Bool.false_eq_true, if_false]
  rw [f129b_eq, ej]
  rcases chain (y := y) hl y.f2 rfl _ rfl 100 us y.f1 [] hu (by omega) hy (by simp; omega) with ⟨us', acc', h1, h2, h3⟩ | ⟨us', acc', m', h1, h2, h3⟩
  · exact .inl ⟨us', acc', by rw [iter_of h1 (by rw [LFe]; omega)]; rfl, h2, iter_of h3 (by rw [LFe]; omega)⟩
  · exact .inr ⟨us', acc', m', by rw [iter_of h1 (by rw [LFe]; omega)]; rfl, h2, iter_of h3 (by rw [LFe]; omega)⟩

def gk (ys : List T60) : Prop := ∀ y ∈ ys, (y.f0 = 1 ∨ y.f0 = 2) ∧ (y.f0 = 2 → y.f1 ≠ y.f2)

theorem stp_inr {xs : List T60} {us : List Bool} {y : T60} {w : List Bool ⊕ Bool} (h : stp xs us y = .inr w) : w = .inr false := by
  unfold stp at h
  split at h
  · split at h
    · cases h
    · cases h; rfl
  · split at h
    · cases h; rfl
    · split at h
      · cases h
      · cases h; rfl
theorem stps_inr {xs : List T60} {w : List Bool ⊕ Bool} : ∀ (l : List T60) (us : List Bool), foldE (stp xs) us l = .inr w → w = .inr false
  | [], us, h => by cases h
  | y :: l, us, h => by
    unfold foldE at h
    cases hs : stp xs us y with
    | inl u => rw [hs] at h; exact stps_inr l u h
    | inr w' => rw [hs] at h; cases h; exact stp_inr hs

theorem stp_len {xs : List T60} {us us' : List Bool} {y : T60} (hl : xs.length ≤ 6) (hs : us.length = xs.length) (hg : y.f0 = 2 → y.f1 ≠ y.f2) (hf : stp xs us y = .inl us') : us'.length = xs.length := by
  unfold stp at hf
  split at hf
  · rename_i hk
    rcases chain2 hl hs (hg (by simpa using hk)) with ⟨us', acc', e1, e2, _⟩ | ⟨us', acc', m', e1, e2, _⟩
    · rw [e1] at hf; cases hf; exact e2
    · rw [e1] at hf; cases hf
  · split at hf
    · cases hf
    · split at hf
      · cases hf; simp [hs]
      · cases hf

theorem f126_eq {xs ys : List T60} (hl : xs.length ≤ 6) (hy : ys.length < LF) (hg : gk ys) : f126 xs ys = some (mres xs ys) := by
  have hl' : xs.length < LF := by rw [LFe]; omega
  unfold f126 mres
  rw [show mk 1 (false : Bool) (ln xs) (ln xs) = some (List.replicate xs.length false) from mk_ok (by omega) (by omega) (by omega)]
  simp only [bd]
  rw [iter_list (W := List Bool ⊕ Bool) (v := (List.replicate xs.length false, 0)) ys (fun s i => (s, (i : Int))) (stp xs) (fun s => .inl s) (fun s _ => s.length = xs.length) (List.replicate xs.length false) rfl (by simp) hy
    (fun s i y hs hm h1 h2 h3 => by
      simp only [h1, h2, h3, if_true, stp]
      cases hk : (y.f0 == 2) with
      | true =>
        rcases chain2 hl hs ((hg y hm).2 (by simpa using hk)) with ⟨us', acc', e1, e2, _⟩ | ⟨us', acc', m', e1, e2, _⟩
        · simp only [e1, lq, e2, hs, if_true]; rfl
        · simp only [e1, lq, e2, hs, if_true]; rfl
      | false =>
        have e1 := f130_eq (xs := xs) y.f1 hl' hs
        simp only [e1, Bool.false_eq_true, if_false]
        cases hf : fnd s y.f1 0 xs with
        | none => rfl
        | some j =>
          obtain ⟨_, hj, hj2, z, hz, hz1⟩ := fnd_some xs 0 hf
          rw [Nat.zero_add] at hj
          rw [Nat.sub_zero] at hz
          have eix : ix xs (j : Int) = some z := by rw [ix_nat, hz]
          have eix2 := getD_ix (us := s) (i := j) (by omega)
          have est := st_ok (xs := s) (i := j) (y := true) (by omega)
          have eg : xs.getD j ⟨0, 0, 0⟩ = z := by simp [hz]
          simp only [show decide ((j : Int) < 0) = false by simp, eix, eix2, est, eg, eqA]
          cases (z.f0 == y.f0 && (z.f1 == y.f1 && (z.f2 == y.f2 && true))) <;> rfl)
    (fun s i y s' hs h hf => stp_len hl hs (hg y (List.mem_of_getElem? (by rw [ix_nat] at h; exact h))).2 hf)
    (fun s _ h2 => by simp only [h2]; rfl)]
  cases hf : foldE (stp xs) (List.replicate xs.length false) ys with
  | inr w =>
    obtain rfl := stps_inr _ _ hf
    rfl
  | inl us =>
    have hus : us.length = xs.length := by
      have : ∀ (l : List T60) (u : List Bool), (∀ y ∈ l, y ∈ ys) → u.length = xs.length → foldE (stp xs) u l = .inl us → us.length = xs.length := by
        intro l
        induction l with
        | nil => intro u _ h h'; cases h'; exact h
        | cons y l ih =>
          intro u hm h h'
          unfold foldE at h'
          cases hs : stp xs u y with
          | inl u' => rw [hs] at h'; exact ih u' (fun z hz => hm z (List.mem_cons_of_mem _ hz)) (stp_len hl h (hg y (hm y (List.mem_cons_self ..))).2 hs) h'
          | inr w' => rw [hs] at h'; cases h'
      exact this ys _ (fun _ h => h) (by simp) hf
    simp only [fin, jn]
    rw [iter_list (W := Unit ⊕ Bool) (v := 0) us (fun (_ : Unit) i => (i : Int)) (fun _ y => if id y then .inl () else .inr (.inr false)) (fun _ => .inl ()) (fun _ _ => True) () rfl trivial (by omega)
      (fun s i y _ _ h1 h2 h3 => by simp only [h1, h2, h3, if_true]; cases y <;> rfl) (fun _ _ _ _ _ _ _ => trivial) (fun s _ h2 => by simp only [h2]; rfl), foldE_all]
    cases us.all id <;> rfl

theorem fold_len {xs ys : List T60} {us : List Bool} (hl : xs.length ≤ 6) (hg : gk ys) : ∀ (l : List T60) (u : List Bool), (∀ y ∈ l, y ∈ ys) → u.length = xs.length → foldE (stp xs) u l = .inl us → us.length = xs.length := by
  intro l
  induction l with
  | nil => intro u _ h h'; cases h'; exact h
  | cons y l ih =>
    intro u hm h h'
    unfold foldE at h'
    cases hs : stp xs u y with
    | inl u' => rw [hs] at h'; exact ih u' (fun z hz => hm z (List.mem_cons_of_mem _ hz)) (stp_len hl h (hg y (hm y (List.mem_cons_self ..))).2 hs) h'
    | inr w' => rw [hs] at h'; cases h'

/-- A goal in impl, as in spec. -/
theorem goal1 {xs : List T60} {us : List Bool} {y : T60} (hl : xs.length ≤ 6) (hu : us.length = xs.length) (hk : y.f0 = 1 ∨ y.f0 = 2) (hne : y.f0 = 2 → y.f1 ≠ y.f2) :
    (∃ us' r, (if (y.f0 == 1) = true then f96 y (mOf xs us) else f97 y (mOf xs us)) = some (r, true, mOf xs us') ∧ stp xs us y = .inl us' ∧ us'.length = xs.length) ∨
    (∃ r m' w, (if (y.f0 == 1) = true then f96 y (mOf xs us) else f97 y (mOf xs us)) = some (r, false, m') ∧ stp xs us y = .inr w) := by
  rcases hk with hk | hk
  · have k1 : (y.f0 == 1) = true := by simp [hk]
    have k2 : (y.f0 == 2) = false := by simp [hk]
    have e1 := f114_eq (xs := xs) y.f1 hl hu
    rw [k1, if_pos rfl]
    unfold stp
    rw [k2, if_neg (by simp)]
    cases hf : fnd us y.f1 0 xs with
    | none =>
      rw [hf] at e1
      exact .inr ⟨[], mOf xs us, .inr false, by simp only [f96, e1, bd]; rfl, rfl⟩
    | some j =>
      rw [hf] at e1
      obtain ⟨_, hj, hj2, z, hz, hz1⟩ := fnd_some xs 0 hf
      rw [Nat.zero_add] at hj
      rw [Nat.sub_zero] at hz
      have eix : ix (mOf xs us).f0 (j : Int) = some z := by show ix xs _ = _; rw [ix_nat, hz]
      have eg : xs.getD j ⟨0, 0, 0⟩ = z := by simp [hz]
      have e3 := f115_eq hl hu hj hj2
      simp only [eg]
      cases hq : eqA z y with
      | true =>
        refine .inl ⟨us.set j true, [(j : Int)], ?_, rfl, by simp [hu]⟩
        unfold eqA at hq
        simp only [f96, e1, bd, eix, hq, e3]; rfl
      | false =>
        refine .inr ⟨[], mOf xs us, .inr false, ?_, rfl⟩
        unfold eqA at hq
        simp only [f96, e1, bd, eix, hq]; rfl
  · have k1 : (y.f0 == 1) = false := by simp [hk]
    have k2 : (y.f0 == 2) = true := by simp [hk]
    rw [k1, if_neg (by simp)]
    unfold stp
    rw [k2, if_pos rfl]
    rcases chain2 hl hu (hne hk) with ⟨us', acc', e1, e2, e3⟩ | ⟨us', acc', m', e1, e2, e3⟩
    · rw [e1]; exact .inl ⟨us', acc', e3, rfl, e2⟩
    · rw [e1]; exact .inr ⟨acc', m', .inr false, e3, rfl⟩

theorem all_count {us : List Bool} : (us.count true == us.length) = us.all id := by
  rw [Bool.eq_iff_iff, beq_iff_eq, List.count_eq_length, List.all_eq_true]
  constructor
  · intro h b hb; exact (h b hb).symm
  · intro h b hb; exact (h b hb).symm

/-- The match of impl. -/
theorem f75_eq {a b : T25} {c : List Int} {P : Nat → Bool} (hc : isC c) (hw : Wp P c) (hu : Tu P b) (hta : tm a) (htb : tm b) (hla : a.f1.length ≤ 6) (hlb : b.f0.length ≤ 1000) (hlb' : b.f1.length ≤ 1000)
    (hk : ∀ y ∈ b.f1, y.f0 = 1 ∨ y.f0 = 2) : (∃ m, f110 a b c = some m) ∧ Ok (f75 a b c) fun r => r.2 = mt a b c := by
  have e1 := f106_eq (l := b.f0) (by rw [LFe]; omega) htb.1 hc
  have e2 := f94_eq (l := b.f0) (by rw [LFe]; omega) htb.1 hc
  have eSI : b.f0.all (factI c) = b.f0.all (factS c) := all_congr fun f hf => by
    have hb : ∀ t, okT t = true → t.toNat < c.length := fun t h => by obtain ⟨k, rfl, hk⟩ := okT_nat h; rw [hc.1]; simp; omega
    have w1 := (Wp_g hw (htb.1 f hf).1 (hu.1 f hf _ (.inl rfl)) (hb _ (htb.1 f hf).1)).1
    have w2 := (Wp_g hw (htb.1 f hf).2 (hu.1 f hf _ (.inr rfl)) (hb _ (htb.1 f hf).2)).1
    simp only [factS, w1, w2, if_true]
  rw [eSI] at e2
  have e3 := f109_eq (l := a.f1) (by omega) hta.2 hc
  have e4 := f109_eq (l := b.f1) hlb' htb.2 hc
  have e5 := f95_eq (l := a.f1) (by omega) hta.2 hc
  have e6 := f95_eq (l := b.f1) hlb' htb.2 hc
  have hx : (fill a.f1 c).length ≤ 6 := Nat.le_trans (List.length_filterMap_le _ _) hla
  have hyl : (fill b.f1 c).length ≤ 1000 := Nat.le_trans (List.length_filterMap_le _ _) hlb'
  have hg : gk (fill b.f1 c) := fun y hy => by
    obtain ⟨z, hz, hf⟩ := List.mem_filterMap.mp hy
    unfold fil at hf
    split at hf
    · rename_i hF
      cases hf
      refine ⟨hk z hz, fun h2 => ?_⟩
      simp only [isF, Bool.or_eq_true, beq_iff_eq, bne_iff_ne] at hF
      rcases hF with h | h
      · simp only at h2; rw [h] at h2; cases h2
      · exact h
    · cases hf
  have e7 := f126_eq hx (ys := fill b.f1 c) (by rw [LFe]; omega) hg
  have e110 : f110 a b c = some (b.f0.all (factS c) && mres (fill a.f1 c) (fill b.f1 c)) := by
    simp only [f110, e1, e3, e4, e7, bd]
    cases b.f0.all (factS c) <;> rfl
  refine ⟨⟨_, e110⟩, ?_⟩
  have hmt : mt a b c = (b.f0.all (factS c) && mres (fill a.f1 c) (fill b.f1 c)) := by
    unfold mt; rw [e110]; cases (b.f0.all (factS c) && mres (fill a.f1 c) (fill b.f1 c)) <;> rfl
  rw [hmt]
  simp only [f75, e2, e5, e6, bd]
  generalize fill a.f1 c = xs at *
  generalize fill b.f1 c = ys at *
  cases b.f0.all (factS c) with
  | false => exact ⟨_, rfl, rfl⟩
  | true =>
    simp only [Bool.not_true, Bool.false_eq_true, if_false, Bool.true_and]
    refine Ok.jn (fun v => ∃ us, foldE (stp xs) (List.replicate xs.length false) ys = .inl us ∧ us.length = xs.length ∧ v.1 = xs ∧ v.2.2.1 = (us.count true : Nat)) (Ok.iter ys.length (fun (s : T137 × List (List Int)) i => (s.1.f0, s.1.f1, s.1.f2, s.2, (i : Int)))
      (fun s i => ∃ us, foldE (stp xs) (List.replicate xs.length false) (ys.take i) = .inl us ∧ us.length = xs.length ∧ s.1 = mOf xs us ∧ s.2.length ≤ i) (mOf xs (List.replicate xs.length false), []) 0 ?_ ⟨_, rfl, by simp, rfl, by simp⟩ (by omega) (by rw [LFe]; omega) ?_ ?_) ?_
    · have h6 : xs.length + (6 - xs.length) = 6 := by omega
      simp only [mOf, List.replicate_append_replicate, h6]
      simp [List.count_replicate]
    · rintro ⟨_, ps⟩ i ⟨us, hf, hus, rfl, hps⟩ hi e
      obtain ⟨y, hy⟩ : ∃ y, ys[i]? = some y := ⟨ys[i], by simp [hi]⟩
      have hm := List.mem_of_getElem? hy
      have ht := foldE_take (stp xs) ys _ i y us hy hf
      have stop : ∀ w, stp xs us y = .inr w → mres xs ys = false := fun w h => by
        rw [h] at ht
        unfold mres
        rw [foldE_stop (stp xs) w ys _ (i + 1) ht]
      have eap : ∀ r : List Int, ap 24 ps [r] = some (ps ++ [r]) := fun r => ap_ok (by simp only [List.length_singleton]; simp at hps; omega) (by simp only [List.length_singleton]; simp at hps; omega)
      have hmm : (⟨(mOf xs us).f0, (mOf xs us).f1, (mOf xs us).f2⟩ : T137) = mOf xs us := rfl
      simp only [ltT hi, if_true, ix_nat (xs := ys), hy, e, eap, hmm]
      refine Ok.jn (fun v => ∃ us', foldE (stp xs) (List.replicate xs.length false) (ys.take (i + 1)) = .inl us' ∧ us'.length = xs.length ∧ v.1 = mOf xs us' ∧ v.2.length ≤ i + 1)
        (Ok.jn (fun v => (∃ us', v.2.1 = true ∧ v.2.2 = mOf xs us' ∧ foldE (stp xs) (List.replicate xs.length false) (ys.take (i + 1)) = .inl us' ∧ us'.length = xs.length) ∨ (v.2.1 = false ∧ mres xs ys = false)) ?_ ?_) ?_
      · rcases goal1 hx hus (hg y hm).1 (hg y hm).2 with ⟨us', r, e1, e2, e3⟩ | ⟨r, m', w, e1, e2⟩
        · refine ⟨.inl (r, true, mOf xs us'), ?_, .inl ⟨us', rfl, rfl, by rw [ht, e2], e3⟩⟩
          revert e1
          cases y.f0 == 1 <;> intro e1 <;> simp only [if_true, Bool.false_eq_true, if_false] at e1 ⊢ <;> rw [e1]
        · refine ⟨.inl (r, false, m'), ?_, .inr ⟨rfl, stop w e2⟩⟩
          revert e1
          cases y.f0 == 1 <;> intro e1 <;> simp only [if_true, Bool.false_eq_true, if_false] at e1 ⊢ <;> rw [e1]
      · rintro ⟨r, ok, m'⟩ (⟨us', h1, h2, h3, h4⟩ | ⟨h1, h2⟩)
        · simp only at h1 h2
          subst h1 h2
          exact ⟨.inl (mOf xs us', ps ++ [r]), rfl, us', h3, h4, rfl, by simp at hps ⊢; omega⟩
        · simp only at h1
          subst h1
          exact ⟨.inr (.inr (.inr ([], false))), rfl, h2.symm⟩
      · rintro ⟨m', ps'⟩ ⟨us', h1, h2, h3, h4⟩
        exact ⟨.inl (m'.f0, m'.f1, m'.f2, ps', ((i + 1 : Nat) : Int)), rfl, (m', ps'), rfl, us', h1, h2, h3, h4⟩
    · rintro ⟨_, ps⟩ ⟨us, hf, hus, rfl, hps⟩
      rw [List.take_length] at hf
      exact ⟨.inl (xs, us ++ List.replicate (6 - xs.length) false, (us.count true : Nat), ps), by simp only [ltF]; rfl, us, hf, hus, rfl, rfl⟩
    · rintro ⟨v1, v2, v3, v4⟩ ⟨us, hf, hus, rfl, h3⟩
      simp only at h3
      subst h3
      have : mres v1 ys = (us.count true == v1.length) := by
        unfold mres
        rw [hf, ← hus]
        exact all_count.symm
      rw [this]
      by_cases hq : us.count true = v1.length
      · refine ⟨(v4, true), ?_, by simp [hq]⟩
        simp [ln, hq]
      · refine ⟨([], false), ?_, by simp [hq]⟩
        simp [ln, show ¬ ((us.count true : Nat) : Int) = (v1.length : Int) by omega]
end Go.Sep.Y
