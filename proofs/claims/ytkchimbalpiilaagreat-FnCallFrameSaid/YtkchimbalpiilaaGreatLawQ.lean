/- The law of FnCallFrame. -/
import Derived.Test.YtkchimbalpiilaaGreatLawP
set_option linter.all false
set_option linter.deprecated false
namespace Go.Sep.Y
open Go Go.Sep

theorem f40_ok {q : Nat} {l : List T53} {s : T74} (hl : l.length ≤ 1000) (h : Dr q s) (hq : q ≤ 200000000) : Ok (f40 l s) fun r => r.1.length ≤ 1100 ∧ Dr (q + 2) r.2 := by
  unfold f40
  rw [apn (n := 24) (by omega) (by omega)]
  simp only [bdS]
  refine Ok.jn (fun v => v.1.length ≤ 1100 ∧ Dr (q + 2) v.2) (Ok.bd (f38_ok h (by omega) (by omega)) fun v6 h6 => ?_) fun v hv => Ok.some hv
  refine Ok.ite (fun _ => ?_) (fun _ => ?_)
  · refine Ok.bd (f41_ok h6.2.2 (by omega) (by simp)) fun v9 h9 => ?_
    simp only [apz (xs := l) (n := 24) (by omega) (by omega), bdS]
    exact ⟨.inl (_, v9.2), rfl, by simp; omega, h9.2⟩
  · refine Ok.ite (fun _ => ?_) (fun _ => ⟨.inl (l, v6.2), rfl, by show l.length ≤ 1100; omega, h6.2.2.up (by omega)⟩)
    refine Ok.whl (fun v => v.length ≤ 1000 ∨ v.length ≤ 13) (fun v => 13 - v.length) (.inl hl) (Nat.lt_of_le_of_lt (Nat.sub_le 13 _) (by rw [LFe]; omega)) fun v hv => ?_
    refine Ok.ite (fun hc => ?_) (fun _ => ⟨.inr (.inl (v, v6.2)), rfl, by show v.length ≤ 1100; omega, h6.2.2.up (by omega)⟩)
    have hc' : ln v ≤ 12 := of_decide_eq_true hc
    unfold ln at hc'
    simp only [apz (xs := v) (n := 24) (by omega) (by omega), bdS]
    exact ⟨.inl _, rfl, by simp; omega, by simp; omega⟩

theorem f11_ok {q : Nat} {a : T25} {s : T74} (ha : Sz 500 a.f0 a.f1) (h : Dr q s) (hq : q ≤ 100000000) : Ok (f11 a s) fun r => Sz 2000 r.1 r.2.1 ∧ Dr (q + 5) r.2.2 := by
  have ha1 := ha.1
  have ha2 := ha.2
  unfold f11
  rw [f39_eq a (ha.up (by omega))]
  simp only [bdS]
  refine Ok.jn (fun v => Dr (q + 5) v.1 ∧ Sz 2000 v.2.1 v.2.2) (Ok.bd (f38_ok h (by omega) (by omega)) fun v6 h6 => ?_) fun v hv => Ok.some ⟨hv.2, hv.1⟩
  refine Ok.ite (fun _ => ?_) (fun _ => ?_)
  · simp only [apz (xs := a.f0) (n := 24) (by omega) (by omega), bdS]
    refine Ok.bd (f40_ok (by simp; omega) h6.2.2 (by omega)) fun v15 h15 => ?_
    exact ⟨.inl (v15.2, v15.1, a.f1), rfl, h15.2.up (by omega), by show v15.1.length ≤ 2000; have := h15.1; omega, by show a.f1.length ≤ 2000; omega⟩
  refine Ok.ite (fun _ => ?_) (fun _ => ?_)
  · refine Ok.bd (f41_ok h6.2.2 (by omega) (by simp)) fun v18 h18 => ?_
    refine Ok.bd (f41_ok h18.2 (by omega) (by simp)) fun v20 h20 => ?_
    simp only [apz (xs := a.f1) (n := 24) (by omega) (by omega), bdS]
    exact ⟨.inl (v20.2, a.f0, _), rfl, h20.2.up (by omega), by show a.f0.length ≤ 2000; omega, by simp; omega⟩
  refine Ok.ite (fun _ => ?_) (fun _ => ⟨.inl (v6.2, a.f0, a.f1), rfl, h6.2.2.up (by omega), by show a.f0.length ≤ 2000; omega, by show a.f1.length ≤ 2000; omega⟩)
  refine Ok.whl (fun v => v.length ≤ 1000) (fun v => 13 - v.length) (by show a.f1.length ≤ 1000; omega) (Nat.lt_of_le_of_lt (Nat.sub_le 13 _) (by rw [LFe]; omega)) fun v hv => ?_
  refine Ok.ite (fun hc => ?_) (fun _ => ⟨.inr (.inl (v6.2, a.f0, v)), rfl, h6.2.2.up (by omega), by show a.f0.length ≤ 2000; omega, by show v.length ≤ 2000; omega⟩)
  have hc' : ln v ≤ 6 := of_decide_eq_true hc
  unfold ln at hc'
  simp only [apz (xs := v) (n := 24) (by omega) (by omega), bdS]
  exact ⟨.inl _, rfl, by simp; omega, by simp; omega⟩

theorem f12_ok {q : Nat} {k : T28} {s : T74} (ha : Sz 100 k.f0.f0 k.f0.f1) (h : Dr q s) (hq : q ≤ 100000000) : Ok (f12 k s) fun r => Sz 200 r.1 r.2.1 ∧ Dr (q + 5) r.2.2 := by
  have ha1 := ha.1
  have ha2 := ha.2
  unfold f12
  rw [f39_eq k.f0 (ha.up (by omega))]
  simp only [bdS]
  refine Ok.jn (fun v => Dr (q + 5) v.1 ∧ Sz 200 v.2.1 v.2.2) (Ok.bd (f38_ok h (by omega) (by omega)) fun v6 h6 => ?_) fun v hv => Ok.some ⟨hv.2, hv.1⟩
  refine Ok.ite (fun _ => ?_) (fun _ => ?_)
  · simp only [apz (xs := k.f0.f1) (n := 24) (by omega) (by omega), bdS]
    exact ⟨.inl (v6.2, k.f0.f0, _), rfl, h6.2.2.up (by omega), by show k.f0.f0.length ≤ 200; omega, by simp; omega⟩
  refine Ok.ite (fun _ => ?_) (fun _ => ?_)
  · refine Ok.bd (f41_ok h6.2.2 (by omega) (by simp)) fun v18 h18 => ?_
    simp only [apz (xs := k.f0.f1) (n := 24) (by omega) (by omega), bdS]
    exact ⟨.inl (v18.2, k.f0.f0, _), rfl, h18.2.up (by omega), by show k.f0.f0.length ≤ 200; omega, by simp; omega⟩
  refine Ok.ite (fun _ => ?_) (fun _ => ⟨.inl (v6.2, k.f0.f0, k.f0.f1), rfl, h6.2.2.up (by omega), by show k.f0.f0.length ≤ 200; omega, by show k.f0.f1.length ≤ 200; omega⟩)
  refine Ok.bd (f41_ok h6.2.2 (by omega) (by simp)) fun v18 h18 => ?_
  simp only [apz (xs := k.f0.f0) (n := 24) (by omega) (by omega), bdS]
  exact ⟨.inl (v18.2, _, k.f0.f1), rfl, h18.2.up (by omega), by simp; omega, by show k.f0.f1.length ≤ 200; omega⟩

theorem f13_ok {q : Nat} {k : T28} {s : T74} (ha : Sz 100 k.f0.f0 k.f0.f1) (hb : Sz 100 k.f1.f0 k.f1.f1) (hm : k.f2.length ≤ 100) (h : Dr q s) (hq : q ≤ 100000000) :
    Ok (f13 k s) fun r => Sz 200 r.1 r.2.1 ∧ Sz 200 r.2.2.1 r.2.2.2.1 ∧ r.2.2.2.2.1.length ≤ 200 ∧ Dr (q + 5) r.2.2.2.2.2 := by
  have ha1 := ha.1
  have ha2 := ha.2
  have hb1 := hb.1
  have hb2 := hb.2
  unfold f13
  rw [f39_eq k.f0 (ha.up (by omega)), f39_eq k.f1 (hb.up (by omega)), apn (n := 8) (xs := k.f2) (by omega) (by omega)]
  simp only [bdS]
  refine Ok.jn (fun v => Dr (q + 5) v.1 ∧ v.2.1.length ≤ 200 ∧ v.2.2.1.length ≤ 200 ∧ v.2.2.2.length ≤ 200) (Ok.bd (f38_ok h (by omega) (by omega)) fun v6 h6 => ?_)
    fun v hv => Ok.some ⟨⟨by show k.f0.f0.length ≤ 200; omega, hv.2.1⟩, ⟨hv.2.2.1, by show k.f1.f1.length ≤ 200; omega⟩, hv.2.2.2, hv.1⟩
  refine Ok.ite (fun _ => ?_) (fun _ => ?_)
  · refine Ok.bd (f41_ok h6.2.2 (by omega) (by simp)) fun v18 h18 => ?_
    simp only [apz (xs := k.f2) (n := 8) (by omega) (by omega), bdS]
    exact ⟨.inl (v18.2, k.f0.f1, k.f1.f0, _), rfl, h18.2.up (by omega), by show k.f0.f1.length ≤ 200; omega, by show k.f1.f0.length ≤ 200; omega, by simp; omega⟩
  refine Ok.ite (fun _ => ?_) (fun _ => ?_)
  · simp only [apz (xs := k.f0.f1) (n := 24) (by omega) (by omega), bdS]
    exact ⟨.inl (v6.2, _, k.f1.f0, k.f2), rfl, h6.2.2.up (by omega), by simp; omega, by show k.f1.f0.length ≤ 200; omega, by show k.f2.length ≤ 200; omega⟩
  refine Ok.ite (fun _ => ?_) (fun _ => ⟨.inl (v6.2, k.f0.f1, k.f1.f0, k.f2), rfl, h6.2.2.up (by omega), by show k.f0.f1.length ≤ 200; omega, by show k.f1.f0.length ≤ 200; omega, by show k.f2.length ≤ 200; omega⟩)
  simp only [apz (xs := k.f1.f0) (n := 24) (by omega) (by omega), bdS]
  exact ⟨.inl (v6.2, k.f0.f1, _, k.f2), rfl, h6.2.2.up (by omega), by show k.f0.f1.length ≤ 200; omega, by simp; omega, by show k.f2.length ≤ 200; omega⟩

theorem f14_ok {q : Nat} {s : T74} (h : Dr q s) (hq : q ≤ 100000000) : Ok (f14 s) fun r => r.1.length ≤ 10 := by
  unfold f14
  refine Ok.jn (fun v => v.1.length ≤ 10) (Ok.bd (f41_ok h (by omega) (by simp)) fun v4 h4 => ?_) fun v hv => Ok.some hv
  obtain ⟨m, hm, hm2⟩ : ∃ m : Nat, v4.1 = m ∧ m ≤ 2 := ⟨v4.1.toNat, by have := h4.1; simp at this; omega, by have := h4.1; simp at this; omega⟩
  refine Ok.down (fun v => v.2.2) (fun v m => Dr (q + 1 + (2 - m)) v.1 ∧ v.2.1.length + m ≤ 2 ∧ m ≤ 2) m (by rw [LFe]; omega) hm ⟨h4.2.up (by omega), by simp; omega, hm2⟩ ?_ ?_
  · rintro ⟨w1, w2, w4⟩ m ⟨d, l, k⟩ hc
    simp only at d l hc ⊢
    subst hc
    have eg : decide (((m + 1 : Nat) : Int) > 0) = true := decide_eq_true (by omega)
    simp only [eg, if_true]
    refine Ok.bd (f41_ok d (by omega) (by simp)) fun v18 h18 => ?_
    simp only [apz (xs := w2) (n := 8) (by omega) (by omega), bdS, sb1 m (by omega)]
    exact ⟨.inl _, rfl, ⟨h18.2.up (by omega), by simp; omega, by omega⟩, rfl⟩
  · rintro ⟨w1, w2, w4⟩ ⟨d, l, k⟩ hc
    simp only at d l hc ⊢
    subst hc
    exact ⟨.inr (.inl (w2, w1)), rfl, by show w2.length ≤ 10; omega⟩

theorem f4_ok {x : List Int} (h : ∀ v ∈ x, 0 ≤ v ∧ v < 256) : Ok (f4 x) fun r => Sz 2000 r.1 r.2.1 ∧ Sz 200 r.2.2.1 r.2.2.2.1 ∧ Sz 200 r.2.2.2.2.1 r.2.2.2.2.2.1 ∧ r.2.2.2.2.2.2.1.length ≤ 200 ∧ r.2.2.2.2.2.2.2.length ≤ 10 := by
  unfold f4
  refine Ok.bd (f9_ok h) fun v1 h1 => ?_
  refine Ok.bd (f10_ok h1 (by omega)) fun v3 h3 => ?_
  refine Ok.bd (f12_ok h3.1 h3.2.2.2 (by omega)) fun v11 h11 => ?_
  refine Ok.bd (f11_ok (h11.1.up (by omega)) h11.2 (by omega)) fun v13 h13 => ?_
  refine Ok.bd (f13_ok h3.1 h3.2.1 (by have := h3.2.2.1; show v3.2.2.2.2.2.1.length ≤ 100; omega) h13.2 (by omega)) fun v15 h15 => ?_
  exact Ok.bd (f14_ok h15.2.2.2 (by omega)) fun v17 h17 => Ok.some ⟨h13.1, h15.1, h15.2.1, h15.2.2.1, h17⟩

theorem law {x : List Int} (h : ∀ v ∈ x, 0 ≤ v ∧ v < 256) : f3 x = some true := by
  refine Exists.elim (?_ : Ok (f3 x) fun r => r = true) fun r hr => hr.2 ▸ hr.1
  unfold f3
  refine Ok.ite (fun _ => Ok.some rfl) (fun _ => ?_)
  refine Ok.bd (f4_ok h) fun v2 h2 => ?_
  obtain ⟨v2a, v2b, v2c, v2d, v2e, v2f, v2g, v2h⟩ := v2
  obtain ⟨⟨s1, s2⟩, ⟨s3, s4⟩, ⟨s5, s6⟩, s7, s8⟩ := h2
  simp only at s1 s2 s3 s4 s5 s6 s7 s8
  obtain ⟨r, e5, e6, l1, l2, hk⟩ := callpost ⟨v2a, v2b⟩ ⟨⟨v2c, v2d⟩, ⟨v2e, v2f⟩, v2g⟩ v2h (by show v2a.length ≤ _; omega) (by show v2b.length ≤ _; omega) (by show v2c.length ≤ _; omega) (by show v2d.length ≤ _; omega) (by show v2e.length ≤ _; omega) (by show v2f.length ≤ _; omega) (by show v2g.length ≤ _; omega) (by omega)
  obtain ⟨r1, r2, r3⟩ := r
  have e7 := f7_refl (⟨r1, r2⟩ : T25) (⟨r1, r2⟩ : T25) rfl rfl l1 l2
  simp only [e5, e6, bdS, e7, beq_self_eq_true, Bool.not_true, Bool.false_eq_true, if_false]
  cases r3 with
  | false => exact ⟨true, rfl, rfl⟩
  | true =>
    obtain ⟨ha, hp, hf, hl, l, hat, hal⟩ := hk rfl
    simp only at ha hp hf hl hat hal
    have e8 := f8_eq ha hp
    refine Ok.jn (fun _ => True) ⟨.inl (), rfl, trivial⟩ fun _ _ => ?_
    subst hat
    have esl : sl (v2f ++ l) 0 (ln v2f) = some v2f := by
      unfold sl ln
      rw [if_pos ⟨by omega, by omega, by simp only [List.length_append]; omega⟩]
      simp
    have hfl := (frm_facts (p := (⟨v2c, v2d⟩ : T25)) ha).2.1
    have e9 : (ln (v2f ++ l) == ad (ln v2f) (ln (frm (⟨v2a, v2b⟩ : T25) (⟨v2c, v2d⟩ : T25)).2.1)) = true := by
      rw [lns _ _ (by simp only at hfl; omega)]
      simp only [ln, List.length_append, beq_iff_eq]
      omega
    have e10 : (ln r1 == ad (ln v2a) (ln v2e)) = true := by
      rw [lns _ _ (by omega)]
      simp only [ln, beq_iff_eq]
      omega
    have e11 := f7_refl (⟨[], v2f⟩ : T25) (⟨[], v2f⟩ : T25) rfl rfl (by rw [LFe]; simp) (by show v2f.length < LF; rw [LFe]; omega)
    simp only [e8, bdS, esl, hf, if_true, e9, e10, e11]
    exact Ok.some rfl
end Go.Sep.Y
