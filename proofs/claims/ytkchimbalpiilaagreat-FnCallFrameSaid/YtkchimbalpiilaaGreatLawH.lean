/- Matching of cells. -/
import Derived.Test.YtkchimbalpiilaaGreatLawG
set_option linter.all false
set_option linter.deprecated false
namespace Go.Sep.Y
open Go Go.Sep

def fnd (us : List Bool) (x : Int) : Nat → List T60 → Option Nat
  | _, [] => none
  | i, y :: ys => if (!us.getD i false && y.f1 == x) = true then some i else fnd us x (i + 1) ys

theorem fnd_fold {W : Type} (us : List Bool) (x : Int) (w : Nat → W) : ∀ (l : List T60) (i : Nat),
    foldE (fun (s : Nat) (y : T60) => if (!us.getD s false && y.f1 == x) = true then .inr (w s) else .inl (s + 1)) i l = match fnd us x i l with | some j => .inr (w j) | none => .inl (i + l.length)
  | [], i => rfl
  | y :: ys, i => by
    unfold foldE fnd
    by_cases h : (!us.getD i false && y.f1 == x) = true
    · rw [if_pos h, if_pos h]
    · rw [if_neg h, if_neg h]
      simp only [fnd_fold us x w ys (i + 1), List.length_cons]
      rw [show i + 1 + ys.length = i + (ys.length + 1) by omega]
theorem fnd_some {us : List Bool} {x : Int} {j : Nat} : ∀ (l : List T60) (i : Nat), fnd us x i l = some j → i ≤ j ∧ j < i + l.length ∧ us.getD j false = false ∧ ∃ y, l[j - i]? = some y ∧ y.f1 = x
  | [], i, h => by cases h
  | y :: ys, i, h => by
    unfold fnd at h
    split at h
    · rename_i hc
      cases h
      simp only [Bool.and_eq_true, Bool.not_eq_true', beq_iff_eq] at hc
      exact ⟨Nat.le_refl _, by simp, hc.1, y, by simp, hc.2⟩
    · obtain ⟨h1, h2, h3, z, h4, h5⟩ := fnd_some ys (i + 1) h
      refine ⟨by omega, by simp; omega, h3, z, ?_, h5⟩
      rw [show j - i = (j - (i + 1)) + 1 by omega, List.getElem?_cons_succ]
      exact h4
theorem fnd_pad (us : List Bool) (x : Int) (k : Nat) : ∀ (l : List T60) (i : Nat), fnd (us ++ List.replicate k false) x i l = fnd us x i l
  | [], i => rfl
  | y :: ys, i => by
    have : (us ++ List.replicate k false).getD i false = us.getD i false := by
      simp only [List.getD_eq_getElem?_getD, List.getElem?_append]
      split
      · rfl
      · rename_i h
        rw [List.getElem?_eq_none (by omega : us.length ≤ i), List.getElem?_replicate]
        split <;> rfl
    unfold fnd
    rw [this, fnd_pad us x k ys (i + 1)]

theorem getD_ix {us : List Bool} {i : Nat} (h : i < us.length) : ix us (i : Int) = some (us.getD i false) := by
  rw [ix_nat]; simp [h]

theorem f130_eq {xs : List T60} {us : List Bool} (x : Int) (hl : xs.length < LF) (hu : us.length = xs.length) : f130 xs us x = some (match fnd us x 0 xs with | some j => (j : Int) | none => -1) := by
  unfold f130
  rw [iter_list (W := Unit ⊕ Int) (v := 0) xs (fun (_ : Nat) i => (i : Int)) (fun s y => if (!us.getD s false && y.f1 == x) = true then .inr (.inr (s : Int)) else .inl (s + 1)) (fun _ => .inl ()) (fun s i => s = i) 0 rfl rfl hl
    (fun s i y hs hy h1 h2 h3 => by
      subst hs
      have hi : s < xs.length := by simpa [ln] using h2
      simp only [h1, h2, h3, bd, if_true, getD_ix (show s < us.length by omega)]
      cases us.getD s false <;> cases hx : (y.f1 == x) <;> rfl)
    (fun s i y s' hs _ h => by
      subst hs
      split at h
      · cases h
      · cases h; rfl)
    (fun s _ h2 => by simp only [h2]; rfl), fnd_fold]
  cases fnd us x 0 xs <;> rfl

def mOf (xs : List T60) (us : List Bool) : T137 := ⟨xs, us ++ List.replicate (6 - xs.length) false, (us.count true : Nat)⟩

theorem f114_eq {xs : List T60} {us : List Bool} (x : Int) (hl : xs.length ≤ 6) (hu : us.length = xs.length) : f114 x (mOf xs us) = some (match fnd us x 0 xs with | some j => ((j : Int), true) | none => (0, false)) := by
  unfold f114
  have h6 : (us ++ List.replicate (6 - xs.length) false).length = 6 := by simp; omega
  rw [iter_list (W := Unit ⊕ (Int × Bool)) (v := 0) xs (fun (_ : Nat) i => (i : Int)) (fun s y => if (!(mOf xs us).f1.getD s false && y.f1 == x) = true then .inr (.inr ((s : Int), true)) else .inl (s + 1)) (fun _ => .inl ()) (fun s i => s = i) 0 rfl rfl (by rw [LFe]; omega)
    (fun s i y hs hy h1 h2 h3 => by
      subst hs
      have hi : s < xs.length := by simpa [ln] using h2
      have e := getD_ix (us := (mOf xs us).f1) (i := s) (by show s < (us ++ _).length; omega)
      simp only [show (mOf xs us).f0 = xs from rfl, h1, h2, h3, bd, if_true, e, lq, show (mOf xs us).f1.length = 6 from h6]
      cases (mOf xs us).f1.getD s false <;> cases hx : (y.f1 == x) <;> rfl)
    (fun s i y s' hs _ h => by
      subst hs
      split at h
      · cases h
      · cases h; rfl)
    (fun s _ h2 => by simp only [show (mOf xs us).f0 = xs from rfl, h2]; rfl), fnd_fold]
  show _ = _
  rw [show (mOf xs us).f1 = us ++ List.replicate (6 - xs.length) false from rfl, fnd_pad]
  cases fnd us x 0 xs <;> rfl

theorem count_set {us : List Bool} {j : Nat} (hj : j < us.length) (h : us.getD j false = false) : (us.set j true).count true = us.count true + 1 ∧ (us.set j true).count false + 1 = us.count false := by
  have e : us[j] = false := by simpa [hj] using h
  have h1 := List.count_set (a := true) (b := true) (l := us) hj
  have h2 := List.count_set (a := true) (b := false) (l := us) hj
  simp only [e] at h1 h2
  have : 0 < us.count false := List.count_pos_iff.mpr (by rw [← e]; exact List.getElem_mem hj)
  simp at h1 h2
  omega

theorem f115_eq {xs : List T60} {us : List Bool} {j : Nat} (hl : xs.length ≤ 6) (hu : us.length = xs.length) (hj : j < xs.length) (h : us.getD j false = false) : f115 (j : Int) (mOf xs us) = some (mOf xs (us.set j true)) := by
  have h6 : (us ++ List.replicate (6 - xs.length) false).length = 6 := by simp; omega
  have hc := List.count_le_length (a := true) (l := us)
  simp only [f115, mOf, lq, h6, if_true, bd, getD_ix (show j < (us ++ List.replicate (6 - xs.length) false).length by omega), st_ok (show j < (us ++ List.replicate (6 - xs.length) false).length by omega)]
  rw [List.set_append_left _ _ (by omega), ad1 (by rw [LFe]; omega), (count_set (by omega) h).1]

theorem f131_eq {xs : List T60} (x : Int) (hl : xs.length < LF) : f131 xs x = some (xs.any fun y => y.f1 == x) := by
  unfold f131
  rw [iter_list (W := Unit ⊕ Bool) (v := 0) xs (fun (_ : Unit) i => (i : Int)) (fun _ y => if (!(y.f1 == x)) = true then .inl () else .inr (.inr true)) (fun _ => .inl ()) (fun _ _ => True) () rfl trivial hl
    (fun s i y _ _ h1 h2 h3 => by simp only [h1, h2, h3, bd, if_true]; cases y.f1 == x <;> rfl) (fun _ _ _ _ _ _ _ => trivial) (fun s _ h2 => by simp only [h2]; rfl), foldE_all (fun y : T60 => !(y.f1 == x))]
  have : (xs.all fun y => !(y.f1 == x)) = !(xs.any fun y => y.f1 == x) := by rw [List.not_any_eq_all_not]
  rw [this]
  cases xs.any fun y => y.f1 == x <;> rfl
theorem f116_eq {xs : List T60} (x : Int) (hl : xs.length < LF) : f116 xs x = some (xs.any fun y => y.f1 == x) := f131_eq x hl

/-! A chain. -/
def chS (x0 : List T60) (x2 : Int) : (List Bool) × Int → Option ((List Bool × Int) ⊕ (List Bool ⊕ (Bool × List Bool))) := fun v30 =>
  if (v30.2 != x2) = true then
  bd (f130 x0 v30.1 v30.2) fun v34 =>
  if (decide (v34 < 0)) = true then
  some (.inr (.inr (false, v30.1)))
  else
  jn (
  bd (ix x0 v34) fun v40 =>
  if (v40.f0 == 2) = true then
  bd (ix x0 v34) fun v43 =>
  if (v43.f2 != x2) = true then
  if (x2 != 0) = true then
  bd (f131 x0 x2) fun v47 =>
  if (!v47) = true then
  some (.inr (.inr (.inr (false, v30.1))))
  else
  some (.inl ())
  else
  some (.inl ())
  else
  some (.inl ())
  else
  some (.inl ())) fun (v37 : Unit) =>
  bd (ix v30.1 v34) fun v50 =>
  bd (st v30.1 v34 true) fun v52 =>
  bd (ix x0 v34) fun v54 =>
  some (.inl (v52, v54.f2))
  else
  some (.inr (.inl v30.1))
theorem f129b_eq (x0 : List T60) (x1 x2 : Int) (x3 : List Bool) : f129b x0 x1 x2 x3 = jn (iter (chS x0 x2) (x3, x1)) fun v1 => some (true, v1) := rfl
def chI (x0 : T60) (v1 : Bool) : T137 × (List Int) × Int → Option ((T137 × (List Int) × Int) ⊕ ((List Int) × Bool × T137)) := fun v41 =>
  bd (f114 v41.2.2 v41.1) fun v44 =>
  if (!v44.2) = true then
  some (.inr ([], false, v41.1))
  else
  bd (f115 v44.1 v41.1) fun v47 =>
  bd (ap 8 v41.2.1 ([v44.1] : List Int)) fun v49 =>
  bd (ix v47.f0 v44.1) fun v51 =>
  if (v51.f2 == x0.f2) = true then
  some (.inr (v49, true, v47))
  else
  bd (ix v47.f0 v44.1) fun v54 =>
  if (v54.f0 == 2) = true then
  if (!v1) = true then
  some (.inr ([], false, v47))
  else
  some (.inl (v47, v49, v51.f2))
  else
  some (.inl (v47, v49, v51.f2))
theorem f97_eq (x0 : T60) (x1 : T137) : f97 x0 x1 = jn (
  if (x0.f2 == 0) = true then
  some (.inl true)
  else
  bd (f116 x1.f0 x0.f2) fun v5 =>
  some (.inl v5)) fun (v1 : Bool) => iter (chI x0 v1) (x1, [], x0.f1) := rfl

theorem chain {xs : List T60} {y : T60} (hl : xs.length ≤ 6) (to : Int) (hto : y.f2 = to) (ends : Bool) (he : ends = (to == 0 || xs.any fun z => z.f1 == to)) :
    ∀ (n : Nat) (us : List Bool) (at' : Int) (acc : List Int), us.length = xs.length → us.count false < n → at' ≠ to → acc.length + us.count false ≤ 100 →
      (∃ us' acc', iterN (chS xs to) (n + 1) (us, at') = some (.inl us') ∧ us'.length = xs.length ∧ iterN (chI y ends) n (mOf xs us, acc, at') = some (acc', true, mOf xs us')) ∨
      (∃ us' acc' m', iterN (chS xs to) (n + 1) (us, at') = some (.inr (false, us')) ∧ us'.length = xs.length ∧ iterN (chI y ends) n (mOf xs us, acc, at') = some (acc', false, m')) := by
  subst hto
  have hl' : xs.length < LF := by rw [LFe]; omega
  intro n
  induction n with
  | zero => intro us at' acc _ h; omega
  | succ n ih =>
    intro us a acc hu hc ha hacc
    have e1 := f130_eq a hl' hu
    have e2 := f114_eq a hl hu
    have hne : (a != y.f2) = true := by simpa using ha
    cases hf : fnd us a 0 xs with
    | none =>
      rw [hf] at e1 e2
      refine .inr ⟨us, [], mOf xs us, ?_, hu, ?_⟩
      · simp only [iterN, chS, hne, if_true, e1, bd]; rfl
      · simp only [iterN, chI, e2, bd]; rfl
    | some j =>
      rw [hf] at e1 e2
      obtain ⟨_, hj, hj2, z, hz, hz1⟩ := fnd_some xs 0 hf
      rw [Nat.zero_add] at hj
      rw [Nat.sub_zero] at hz
      have e3 := f115_eq hl hu hj hj2
      have hcs := count_set (us := us) (by omega) hj2
      have eix : ix xs (j : Int) = some z := by rw [ix_nat, hz]
      have eix2 := getD_ix (us := us) (i := j) (by omega)
      have est := st_ok (xs := us) (i := j) (y := true) (by omega)
      have e5 := f131_eq (xs := xs) y.f2 hl'
      have eap := ap_ok (n := 8) (xs := acc) (ys := [(j : Int)]) (by simp only [List.length_singleton]; omega) (by simp only [List.length_singleton]; omega)
      have hn0 : decide ((j : Int) < 0) = false := by simp
      by_cases hd : z.f2 = y.f2
      · refine .inl ⟨us.set j true, acc ++ [(j : Int)], ?_, by simp [hu], ?_⟩
        · have hb : chS xs y.f2 (us, a) = some (.inl (us.set j true, z.f2)) := by
            simp only [chS, hne, if_true, e1, bd, hn0, eix, eix2, est, hd, bne_self_eq_false]
            cases z.f0 == 2 <;> rfl
          rw [iterN, hb]
          simp only [iterN, chS, hd, bne_self_eq_false]; rfl
        · simp only [iterN, chI, e2, bd, e3, eap, show (mOf xs (us.set j true)).f0 = xs from rfl, eix, hd, beq_self_eq_true, if_true]; rfl
      · have hd1 : (z.f2 == y.f2) = false := by simpa using hd
        have hd2 : (z.f2 != y.f2) = true := by simpa using hd
        by_cases hk : ((z.f0 == 2) && !ends) = true
        · simp only [Bool.and_eq_true, Bool.not_eq_true'] at hk
          rw [hk.2] at he
          have hh := he.symm
          simp only [Bool.or_eq_false_iff] at hh
          refine .inr ⟨us, [], mOf xs (us.set j true), ?_, hu, ?_⟩
          · have hto0 : (y.f2 != 0) = true := by simp only [bne, hh.1]; rfl
            have hb : chS xs y.f2 (us, a) = some (.inr (.inr (false, us))) := by
              simp only [chS, hne, if_true, e1, bd, hn0, eix, hk.1, hd2, hto0, e5, hh.2]; rfl
            rw [iterN, hb]
          · simp only [iterN, chI, e2, bd, e3, eap, show (mOf xs (us.set j true)).f0 = xs from rfl, eix, hd1, hk.1, hk.2]; rfl
        · have hS' : chS xs y.f2 (us, a) = some (.inl (us.set j true, z.f2)) := by
            simp only [chS, hne, if_true, e1, bd, hn0, eix, eix2, est, hd2, e5]
            cases h2 : z.f0 == 2 with
            | false => rfl
            | true =>
              rw [h2, Bool.true_and] at hk
              have hen : ends = true := by simpa using hk
              rw [hen] at he
              have hh := he.symm
              cases h0 : (y.f2 == 0) with
              | true => simp only [bne, h0]; rfl
              | false =>
                rw [h0, Bool.false_or] at hh
                simp only [bne, h0, hh]; rfl
          have hI' : chI y ends (mOf xs us, acc, a) = some (.inl (mOf xs (us.set j true), acc ++ [(j : Int)], z.f2)) := by
            simp only [chI, e2, bd, e3, eap, show (mOf xs (us.set j true)).f0 = xs from rfl, eix, hd1]
            cases h2 : z.f0 == 2 with
            | false => rfl
            | true =>
              rw [h2, Bool.true_and] at hk
              have hen : ends = true := by simpa using hk
              simp only [hen]; rfl
          rw [iterN, hS', iterN, hI']
          exact ih (us.set j true) z.f2 (acc ++ [(j : Int)]) (by simp [hu]) (by omega) hd (by simp; omega)
end Go.Sep.Y
