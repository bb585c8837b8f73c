/- Draws of calls; the law. -/
import Derived.Test.YtkchimbalpiilaaGreatLawO
set_option linter.all false
set_option linter.deprecated false
namespace Go.Sep.Y
open Go Go.Sep

theorem f39_eq (a : T25) (h : Sz 1000 a.f0 a.f1) : f39 a = some (a.f0, a.f1) := by
  simp only [f39, f27_eq a (⟨[], []⟩ : T25) (by have := h.1; simp; omega) (by have := h.2; simp; omega), bdS, List.append_nil]

theorem f103_ok (a : T25) (i j : Int) (x : T60) (h : Sz 1000 a.f0 a.f1) : Ok (f103 a i j x) fun r => r.1 = a.f0 ∧ r.2.length ≤ a.f1.length + 1 := by
  unfold f103
  rw [apn (n := 24) (by omega) (by have := h.1; omega)]
  simp only [bdS]
  refine Ok.jn (fun v => v.length ≤ a.f1.length + 1) (Ok.iter a.f1.length (fun (s : List T60) i => (s, (i : Int))) (fun s i => s.length ≤ i + 1) [x] 0 rfl (by simp) (by omega) (by have := h.2; rw [LFe]; omega) ?_ ?_) fun v hv => Ok.some ⟨rfl, hv⟩
  · intro s k hI hi e
    obtain ⟨y, hy⟩ : ∃ y, a.f1[k]? = some y := ⟨a.f1[k], by simp [hi]⟩
    have hk : s.length ≤ 100000 := by have := h.2; omega
    simp only [ltT hi, if_true, ix_nat (xs := a.f1), hy, bdS, e, apz (xs := s) (y := y) (n := 24) (by omega) hk]
    refine Ok.jn (fun _ => True) ?_ fun v _ => ?_
    · refine Ok.ite (fun _ => ⟨.inl _, rfl, trivial⟩) (fun _ => ⟨.inl _, rfl, trivial⟩)
    · refine Ok.ite (fun _ => ⟨.inl (s ++ [y], ((k + 1 : Nat) : Int)), rfl, _, rfl, by simp; omega⟩) (fun _ => ⟨.inl (s, ((k + 1 : Nat) : Int)), rfl, _, rfl, by omega⟩)
  · intro s hI
    exact ⟨.inl s, by simp only [ltF]; rfl, hI⟩

theorem f86_ok (a : T25) (h : Sz 1000 a.f0 a.f1) : Ok (f86 a) fun r => r.2.2 = true → Sz 20 r.1 r.2.1 := by
  unfold f86
  rw [f22_eq a (by have := h.1; rw [LFe]; omega) (by have := h.2; rw [LFe]; omega)]
  simp only [bdS]
  cases hv : valid a with
  | false => exact ⟨([], [], false), rfl, fun h => by cases h⟩
  | true =>
    obtain ⟨a1, a2, _, _⟩ := valid_facts hv
    simp only [Bool.not_true, Bool.false_eq_true, if_false]
    refine Ok.jn (fun _ => True) (Ok.iter a.f1.length (fun (_ : Unit) i => (i : Int)) (fun _ _ => True) () 0 rfl trivial (by omega) (by rw [LFe]; omega) ?_ ?_) fun _ _ => Ok.some fun h => by cases h
    · intro _ i _ hi e
      obtain ⟨y, hy⟩ : ∃ y, a.f1[i]? = some y := ⟨a.f1[i], by simp [hi]⟩
      simp only [ltT hi, if_true]
      refine Ok.jn (fun _ => True) (Ok.iter a.f1.length (fun (_ : Unit) i => (i : Int)) (fun _ _ => True) () 0 rfl trivial (by omega) (by rw [LFe]; omega) ?_ ?_) fun _ _ => ⟨.inl _, rfl, (), by rw [e], trivial⟩
      · intro _ j _ hj e'
        obtain ⟨z, hz⟩ : ∃ z, a.f1[j]? = some z := ⟨a.f1[j], by simp [hj]⟩
        simp only [ltT hj, if_true, ix_nat (xs := a.f1), hy, hz, bdS]
        refine Ok.jn (fun _ => True) (Ok.jn (fun _ => True) ?_ fun _ _ => ?_) fun _ _ => ⟨.inl _, rfl, (), by rw [e'], trivial⟩
        · refine Ok.ite (fun _ => ⟨.inr (.inl ()), rfl, trivial⟩) (fun _ => ?_)
          refine Ok.ite (fun _ => ⟨.inr (.inl ()), rfl, trivial⟩) (fun _ => ⟨.inl (), rfl, trivial⟩)
        · refine Ok.bd (f103_ok a _ _ _ h) fun v116 h116 => ?_
          have hl1 : v116.1.length = a.f0.length := by rw [h116.1]
          rw [f54_eq (a := a) (b := ⟨v116.1, v116.2⟩) (by rw [LFe]; omega) (by rw [LFe]; omega) (by show v116.1.length < LF; rw [LFe]; omega) (by have := h116.2; show v116.2.length < LF; rw [LFe]; omega)]
          simp only [bdS]
          refine Ok.ite (fun _ => ⟨.inr (.inr (.inr (.inr (.inr (v116.1, v116.2, true))))), rfl, fun _ => ⟨?_, ?_⟩⟩) (fun _ => ⟨.inl (), rfl, trivial⟩)
          · show v116.1.length ≤ 20
            omega
          · show v116.2.length ≤ 20
            have := h116.2; omega
      · intro _ _
        exact ⟨.inl (), by simp only [ltF]; rfl, trivial⟩
    · intro _ _
      exact ⟨.inl (), by simp only [ltF]; rfl, trivial⟩

theorem f63_ok {q : Nat} {a : T25} {s : T74} (ha : Sz 100 a.f0 a.f1) (h : Dr q s) (hq : q ≤ 100000000) : Ok (f63 a s) fun r => Sz 100 r.1 r.2.1 ∧ Dr (q + 5) r.2.2 := by
  unfold f63
  rw [f39_eq a (ha.up (by omega))]
  simp only [bdS]
  refine Ok.jn (fun v => Dr (q + 1) v.1 ∧ Sz 100 v.2.1 v.2.2) (Ok.bd (f38_ok h (by omega) (by omega)) fun v6 h6 => ?_) fun v3 h3 => ?_
  · obtain ⟨m, hm, hm3⟩ : ∃ m : Nat, v6.1 = m ∧ m < 3 := ⟨v6.1.toNat, by have := h6.1; omega, by have := h6.2.1; omega⟩
    refine Ok.down (fun v => v.2.2) (fun v m => Sz 100 v.1 v.2.1 ∧ m < 3) m (by rw [LFe]; omega) hm ⟨ha, hm3⟩ ?_ ?_
    · rintro ⟨w1, w2, w4⟩ m ⟨d, k⟩ hc
      simp only at d hc ⊢
      subst hc
      have eg : decide (((m + 1 : Nat) : Int) > 0) = true := decide_eq_true (by omega)
      simp only [eg, if_true, sb1 m (by omega)]
      refine Ok.bd (f86_ok ⟨w1, w2⟩ (d.up (by omega))) fun v19 h19 => ?_
      refine Ok.ite (fun hc => ⟨.inl (v19.1, v19.2.1, (m : Int)), rfl, ⟨(h19 hc).up (by omega), by omega⟩, rfl⟩) (fun _ => ⟨.inl (w1, w2, (m : Int)), rfl, ⟨d, by omega⟩, rfl⟩)
    · rintro ⟨w1, w2, w4⟩ ⟨d, k⟩ hc
      simp only at d hc ⊢
      subst hc
      exact ⟨.inr (.inl (v6.2, w1, w2)), rfl, h6.2.2, d⟩
  refine Ok.jn (fun v => Dr (q + 2) v.1 ∧ v.2.length ≤ 100) ?_ fun v22 h22 => ?_
  · refine Ok.ite (fun hc => ?_) (fun _ => ⟨.inl (v3.1, v3.2.1), rfl, h3.1.up (by omega), h3.2.1⟩)
    refine Ok.bd (f38_ok h3.1 (by omega) (by omega)) fun v26 h26 => ?_
    refine Ok.ite (fun _ => ?_) (fun _ => ⟨.inl (v26.2, v3.2.1), rfl, h26.2.2, h3.2.1⟩)
    have hc' : ln v3.2.1 > 0 := of_decide_eq_true hc
    have e : sl v3.2.1 1 (ln v3.2.1) = some ((v3.2.1.take (ln v3.2.1).toNat).drop 1) := by
      unfold sl
      rw [if_pos ⟨by omega, by omega, by unfold ln; omega⟩]; rfl
    simp only [e, bdS]
    exact ⟨.inl (v26.2, _), rfl, h26.2.2, by simp; have := h3.2.1; omega⟩
  refine Ok.jn (fun v => Dr (q + 4) v.1 ∧ v.2.length ≤ 100) ?_ fun v33 h33 => ?_
  · refine Ok.jn (fun v => Dr (q + 3) v.2 ∧ (v.1 = true → ln v3.2.2 > 0)) ?_ fun v36 h36 => ?_
    · refine Ok.ite (fun hc => Ok.bd (f38_ok h22.1 (by omega) (by omega)) fun v40 h40 => ⟨.inl (v40.1 == 0, v40.2), rfl, h40.2.2, fun _ => of_decide_eq_true hc⟩) (fun _ => ⟨.inl (false, v22.1), rfl, h22.1.up (by omega), fun h => by cases h⟩)
    · refine Ok.ite (fun hc => ?_) (fun _ => ⟨.inl (v36.2, v3.2.2), rfl, h36.1.up (by omega), h3.2.2⟩)
      have hpos := h36.2 hc
      refine Ok.bd (f38_ok h36.1 (by omega) (by omega)) fun v43 h43 => ?_
      obtain ⟨n, hn⟩ := Int.eq_ofNat_of_zero_le h43.1
      have hnl : n < v3.2.2.length := by have := h43.2.1; rw [hn] at this; exact Int.ofNat_lt.mp this
      obtain ⟨y, ey, _⟩ := ix_int h43.1 h43.2.1
      simp only [ey, bdS]
      rw [hn, st_ok hnl]
      exact ⟨.inl (v43.2, _), rfl, h43.2.2, by simp; exact h3.2.2⟩
  refine Ok.jn (fun v => Dr (q + 5) v.2 ∧ (v.1 = true → ln v33.2 > 1)) ?_ fun v49 h49 => ?_
  · refine Ok.ite (fun hc => Ok.bd (f38_ok h33.1 (by omega) (by omega)) fun v53 h53 => ⟨.inl (v53.1 == 0, v53.2), rfl, h53.2.2, fun _ => of_decide_eq_true hc⟩) (fun _ => ⟨.inl (false, v33.1), rfl, h33.1.up (by omega), fun h => by cases h⟩)
  refine Ok.ite (fun hc => ?_) (fun _ => Ok.some ⟨⟨h22.2, h33.2⟩, h49.1⟩)
  have hpos := h49.2 hc
  have e : sl v33.2 1 (ln v33.2) = some ((v33.2.take (ln v33.2).toNat).drop 1) := by
    unfold sl
    rw [if_pos ⟨by omega, by omega, by unfold ln; omega⟩]; rfl
  obtain ⟨y, ey, _⟩ := ix_int (xs := v33.2) (i := 0) (by omega) (by omega)
  have hl : ((v33.2.take (ln v33.2).toNat).drop 1).length = v33.2.length - 1 := by unfold ln; simp
  have hlen : 1 < v33.2.length := by unfold ln at hpos; omega
  have hl2 := h33.2
  simp only [e, bdS, ey, apn (n := 24) (xs := (v33.2.take (ln v33.2).toNat).drop 1) (by omega) (by rw [hl]; omega), apz (n := 24) (xs := (v33.2.take (ln v33.2).toNat).drop 1) (y := y) (by omega) (by rw [hl]; omega)]
  exact Ok.some ⟨⟨h22.2, by rw [List.length_append, hl]; simp; omega⟩, h49.1⟩

def chkRow (r : List (List UInt8)) : Bool := match r with
  | [p, c, q] => chkA p && (chkP c && chkA q)
  | _ => false
theorem chkRow_ok {r : List (List UInt8)} (h : chkRow r = true) : ∃ p c q, r = [p, c, q] ∧ chkA p = true ∧ chkP c = true ∧ chkA q = true := by
  unfold chkRow at h
  split at h
  · simp only [Bool.and_eq_true] at h
    exact ⟨_, _, _, rfl, h.1, h.2.1, h.2.2⟩
  · cases h

theorem f36_ok {q : Nat} {s : T74} (h : Dr q s) (hq : q ≤ 1000) : Ok (f36 s) fun r => Sz 100 r.1 r.2.1 ∧ Bp 4 r.2.2.1 ∧ Sz 100 r.2.2.2.1 r.2.2.2.2.1 ∧ Dr (q + 10000000) r.2.2.2.2.2 := by
  unfold f36
  refine Ok.bd (f38_ok h (by omega) (by simp [ln])) fun v1 h1 => ?_
  obtain ⟨row, er, hr⟩ := ix_int h1.1 h1.2.1
  obtain ⟨p, c, q', rfl, k1, k2, k3⟩ := chkRow_ok (all_mem hr (by kernel_rfl))
  simp only [er, bdS]
  have i0 : ix [p, c, q'] 0 = some p := rfl
  have i1 : ix [p, c, q'] 1 = some c := rfl
  have i2 : ix [p, c, q'] 2 = some q' := rfl
  simp only [i0, i1, i2, bdS]
  refine Ok.bd (chkA_ok k1) fun v7 h7 => ?_
  refine Ok.bd (chkP_ok k2) fun v13 h13 => ?_
  refine Ok.bd (chkA_ok k3) fun v19 h19 => ?_
  refine Ok.jn (Dr (q + 2)) (Ok.jn (fun v => Dr (q + 2) v.2) ?_ fun v24 h24 => ?_) fun v21 h21 => ?_
  · refine Ok.ite (fun _ => ⟨.inl (true, v1.2), rfl, h1.2.2.up (by omega)⟩) (fun _ => ?_)
    refine Ok.ite (fun _ => ⟨.inl (true, v1.2), rfl, h1.2.2.up (by omega)⟩) (fun _ => ?_)
    refine Ok.ite (fun _ => ⟨.inl (true, v1.2), rfl, h1.2.2.up (by omega)⟩) (fun _ => ?_)
    exact Ok.bd (f38_ok h1.2.2 (by omega) (by omega)) fun v30 h30 => ⟨.inl (v30.1 == 0, v30.2), rfl, h30.2.2⟩
  · refine Ok.ite (fun _ => ?_) (fun _ => ⟨.inl v24.2, rfl, h24⟩)
    refine Ok.bd (f61_ok h24 (by omega)) fun v33 h33 => ?_
    refine Ok.bd (f62_ok h33.2 (by omega)) fun v35 h35 => ?_
    refine Ok.bd (f61_ok h35.2 (by omega)) fun v37 h37 => ?_
    refine Ok.bd (f63_ok (a := ⟨v37.1, v37.2.1⟩) (h37.1.up (by omega)) h37.2 (by omega)) fun v39 h39 => ?_
    exact ⟨.inr (v33.1, v33.2.1, v35.1, v39.1, v39.2.1, v39.2.2), rfl, h33.1.up (by omega), h35.1, h39.1, h39.2.up (by omega)⟩
  · refine Ok.bd (f38_ok h21 (by omega) (by omega)) fun v41 h41 => ?_
    refine Ok.ite (fun _ => ?_) (fun _ => Ok.some ⟨h7.up (by omega), h13, h19.up (by omega), h41.2.2.up (by omega)⟩)
    exact Ok.bd (f63_ok (a := ⟨v19.1, v19.2.1⟩) (h19.up (by omega)) h41.2.2 (by omega)) fun v48 h48 => Ok.some ⟨h7.up (by omega), h13, h48.1, h48.2.up (by omega)⟩

theorem f10_ok {q : Nat} {s : T74} (h : Dr q s) (hq : q ≤ 1000) : Ok (f10 s) fun r => Sz 100 r.2.1 r.2.2.1 ∧ Sz 100 r.2.2.2.1 r.2.2.2.2.1 ∧ r.2.2.2.2.2.1.length ≤ 9 ∧ Dr (q + 10000001) r.2.2.2.2.2.2 := by
  unfold f10
  refine Ok.bd (f36_ok h hq) fun v1 h1 => ?_
  refine Ok.bd (f37_ok h1.2.1) fun v3 h3 => ?_
  refine Ok.bd (f38_ok h1.2.2.2 (by omega) (by omega)) fun v5 h5 => ?_
  refine Ok.ite (fun _ => Ok.some ⟨h1.1, h1.2.2.1, by simp, h5.2.2⟩) (fun _ => ?_)
  exact Ok.ite (fun _ => Ok.some ⟨h1.1, h1.2.2.1, by simp, h5.2.2⟩) (fun _ => Ok.some ⟨h1.1, h1.2.2.1, h3, h5.2.2⟩)
end Go.Sep.Y
