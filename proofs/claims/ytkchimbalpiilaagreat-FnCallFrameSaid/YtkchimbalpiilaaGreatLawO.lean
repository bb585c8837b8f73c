/- Draws. -/
import Derived.Test.YtkchimbalpiilaaGreatLawN
set_option linter.all false
set_option linter.deprecated false
namespace Go.Sep.Y
open Go Go.Sep

def chkA (x : List UInt8) : Bool := match f59 x with
  | some r => decide (r.1.length ≤ 20) && decide (r.2.1.length ≤ 20)
  | none => false
def bpB : Nat → List T128 → Bool
  | 0, l => l.isEmpty
  | n + 1, l => decide (l.length ≤ 100) && l.all fun c => (decide (c.f4.f0.length ≤ 100) && decide (c.f4.f1.length ≤ 100)) && (bpB n c.f5 && bpB n c.f6)
theorem bpB_ok : ∀ (n : Nat) (l : List T128), bpB n l = true → Bp n l
  | 0, l, h => by
    show l = []
    simpa [bpB] using h
  | n + 1, l, h => by
    simp only [bpB, Bool.and_eq_true, decide_eq_true_eq] at h
    refine ⟨h.1, fun c hc => ?_⟩
    have := List.all_eq_true.mp h.2 c hc
    simp only [Bool.and_eq_true, decide_eq_true_eq] at this
    exact ⟨⟨this.1.1, this.1.2⟩, bpB_ok n _ this.2.1, bpB_ok n _ this.2.2⟩
def chkP (x : List UInt8) : Bool := match f60 x with
  | some r => bpB 4 r.1
  | none => false
theorem chkA_ok {x : List UInt8} (h : chkA x = true) : Ok (f59 x) fun r => Sz 20 r.1 r.2.1 := by
  unfold chkA at h
  cases hf : f59 x with
  | none => rw [hf] at h; cases h
  | some r =>
    rw [hf] at h
    simp only [Bool.and_eq_true, decide_eq_true_eq] at h
    exact ⟨r, rfl, h⟩
theorem chkP_ok {x : List UInt8} (h : chkP x = true) : Ok (f60 x) fun r => Bp 4 r.1 := by
  unfold chkP at h
  cases hf : f60 x with
  | none => rw [hf] at h; cases h
  | some r => rw [hf] at h; exact ⟨r, rfl, bpB_ok 4 _ h⟩
theorem all_mem {α : Type} {p : α → Bool} {x : α} {l : List α} (h : x ∈ l) (hl : l.all p = true) : p x = true := List.all_eq_true.mp hl x h

theorem f84_ok {q : Nat} {s : T74} (h : Dr q s) (hq : q ≤ 900000000) : Ok (f84 s) fun r => Sz 20 r.1 r.2.1 ∧ Dr (q + 20) r.2.2 := by
  unfold f84
  refine Ok.bd (f41_ok h (by omega) (by simp)) fun v1 h1 => ?_
  refine Ok.jn (fun v => v.2.length ≤ 4 ∧ Dr (q + 10) v.1) (Ok.bd (f41_ok h1.2 (by omega) (by simp)) fun v53 h53 => ?_) fun v50 h50 => ?_
  · obtain ⟨m, hm, hm4⟩ : ∃ m : Nat, v53.1 = m ∧ m ≤ 4 := ⟨v53.1.toNat, by have := h53.1; simp at this; omega, by have := h53.1; simp at this; omega⟩
    refine Ok.down (fun v => v.2.2.2) (fun v m => Dr (q + 2 + 2 * (4 - m)) v.1 ∧ v.2.1.length + m ≤ 4 ∧ m ≤ 4) m (by rw [LFe]; omega) hm ⟨h53.2.up (by omega), by simp; omega, hm4⟩ ?_ ?_
    · rintro ⟨w1, w2, w3, w4⟩ m ⟨d, l, k⟩ hc
      simp only at d l hc ⊢
      subst hc
      have eg : decide (((m + 1 : Nat) : Int) > 0) = true := decide_eq_true (by omega)
      simp only [eg, if_true]
      refine Ok.bd (f41_ok d (by omega) (by simp)) fun v73 h73 => ?_
      refine Ok.jn (fun v => Dr (q + 2 + 2 * (4 - m)) v.1) ?_ fun v75 h75 => ?_
      · refine Ok.bd (f38_ok h73.2 (by omega) (by omega)) fun v78 h78 => ?_
        have hd := h78.2.2.up (show q + 2 + 2 * (4 - (m + 1)) + 1 + 1 ≤ q + 2 + 2 * (4 - m) by omega)
        refine Ok.ite (fun _ => ⟨.inl (v78.2, 2), rfl, hd⟩) (fun _ => ⟨.inl (v78.2, 1), rfl, hd⟩)
      · simp only [apz (xs := w2) (n := 24) (by omega) (by omega), bdS, sb1 m (by omega)]
        exact ⟨.inl _, rfl, ⟨h75, by simp; omega, by omega⟩, rfl⟩
    · rintro ⟨w1, w2, w3, w4⟩ ⟨d, l, k⟩ hc
      simp only at d l hc ⊢
      subst hc
      exact ⟨.inr (.inl (w1, w2)), rfl, by omega, d.up (by omega)⟩
  · refine Ok.bd (f38_ok h50.2 (by omega) (by omega)) fun v83 h83 => ?_
    refine Ok.ite (fun _ => ?_) (fun _ => Ok.some ⟨⟨by simp, by have := h50.1; show v50.2.length ≤ 20; omega⟩, h83.2.2.up (by omega)⟩)
    refine Ok.bd (f41_ok h83.2.2 (by omega) (by simp)) fun v86 h86 => ?_
    refine Ok.bd (f41_ok h86.2 (by omega) (by simp)) fun v88 h88 => ?_
    simp only [apz (xs := ([] : List T53)) (n := 24) (by omega) (by simp), bdS]
    exact Ok.some ⟨⟨by simp, by have := h50.1; show v50.2.length ≤ 20; omega⟩, h88.2.up (by omega)⟩

theorem f61_ok {q : Nat} {s : T74} (h : Dr q s) (hq : q ≤ 10000000) : Ok (f61 s) fun r => Sz 20 r.1 r.2.1 ∧ Dr (q + 30) r.2.2 := by
  unfold f61
  refine Ok.bd (f83_ok h (by omega) (by simp)) fun v1 h1 => ?_
  refine Ok.bd (chkA_ok (all_mem h1.1 (by kernel_rfl))) fun v3 h3 => ?_
  refine Ok.ite (fun _ => ?_) (fun _ => ?_)
  · refine Ok.bd (f38_ok h1.2 (by omega) (by omega)) fun v6 h6 => ?_
    refine Ok.ite (fun _ => Ok.some ⟨h3, h6.2.2.up (by omega)⟩) (fun _ => ?_)
    exact Ok.bd (f84_ok h6.2.2 (by omega)) fun v9 h9 => Ok.some ⟨h9.1, h9.2.up (by omega)⟩
  · exact Ok.bd (f84_ok h1.2 (by omega)) fun v9 h9 => Ok.some ⟨h9.1, h9.2.up (by omega)⟩

def Bs (c : T128) : Prop := c.f4 = ⟨[], []⟩ ∧ c.f5 = [] ∧ c.f6 = []
theorem f122_ok {q : Nat} {s : T74} (h : Dr q s) (hq : q ≤ 900000000) : Ok (f122 s) fun r => Bs r.1 ∧ Dr (q + 3) r.2 := by
  unfold f122
  refine Ok.bd (f38_ok h (by omega) (by omega)) fun v1 h1 => ?_
  refine Ok.bd (f41_ok h1.2.2 (by omega) (by simp)) fun v3 h3 => ?_
  refine Ok.bd (f41_ok h3.2 (by omega) (by simp)) fun v5 h5 => ?_
  repeat' refine Ok.ite (fun _ => ?_) (fun _ => ?_)
  all_goals exact Ok.some ⟨⟨rfl, rfl, rfl⟩, h5.2⟩
theorem f123_ok {q : Nat} {s : T74} (h : Dr q s) (hq : q ≤ 900000000) : Ok (f123 s) fun r => Dr (q + 3) r.2 := by
  unfold f123
  refine Ok.bd (f38_ok h (by omega) (by omega)) fun v1 h1 => ?_
  refine Ok.bd (f41_ok h1.2.2 (by omega) (by simp)) fun v3 h3 => ?_
  exact Ok.bd (f41_ok h3.2 (by omega) (by simp)) fun v5 h5 => Ok.some h5.2
theorem f128_ok {q : Nat} {s : T74} (h : Dr q s) (hq : q ≤ 900000000) : Ok (f128 s) fun r => Dr (q + 3) r.2 := by
  unfold f128
  refine Ok.bd (f41_ok h (by omega) (by simp)) fun v1 h1 => ?_
  refine Ok.bd (f41_ok h1.2 (by omega) (by simp)) fun v3 h3 => ?_
  refine Ok.bd (f38_ok h3.2 (by omega) (by omega)) fun v5 h5 => ?_
  refine Ok.ite (fun _ => Ok.some h5.2.2) (fun _ => Ok.some h5.2.2)

theorem f124_ok {q : Nat} {s : T74} (h : Dr q s) (hq : q ≤ 800000000) : Ok (f124 s) fun r => Sz 20 r.1 r.2.1 ∧ Dr (q + 20) r.2.2 := by
  unfold f124
  refine Ok.jn (fun v => v.2.length ≤ 4 ∧ Dr (q + 7) v.1) (Ok.bd (f41_ok h (by omega) (by simp)) fun v45 h45 => ?_) fun v42 h42 => ?_
  · obtain ⟨m, hm, hm4⟩ : ∃ m : Nat, v45.1 = m ∧ m ≤ 2 := ⟨v45.1.toNat, by have := h45.1; simp at this; omega, by have := h45.1; simp at this; omega⟩
    refine Ok.down (fun v => v.2.2) (fun v m => Dr (q + 1 + 3 * (2 - m)) v.1 ∧ v.2.1.length + m ≤ 2 ∧ m ≤ 2) m (by rw [LFe]; omega) hm ⟨h45.2.up (by omega), by simp; omega, hm4⟩ ?_ ?_
    · rintro ⟨w1, w2, w4⟩ m ⟨d, l, k⟩ hc
      simp only at d l hc ⊢
      subst hc
      have eg : decide (((m + 1 : Nat) : Int) > 0) = true := decide_eq_true (by omega)
      simp only [eg, if_true]
      refine Ok.bd (f38_ok d (by omega) (by omega)) fun v63 h63 => ?_
      refine Ok.bd (f41_ok h63.2.2 (by omega) (by simp)) fun v65 h65 => ?_
      refine Ok.bd (f41_ok h65.2 (by omega) (by simp)) fun v67 h67 => ?_
      simp only [apz (xs := w2) (n := 24) (by omega) (by omega), bdS, sb1 m (by omega)]
      exact ⟨.inl _, rfl, ⟨h67.2.up (by omega), by simp; omega, by omega⟩, rfl⟩
    · rintro ⟨w1, w2, w4⟩ ⟨d, l, k⟩ hc
      simp only at d l hc ⊢
      subst hc
      exact ⟨.inr (.inl (w1, w2)), rfl, by show w2.length ≤ 4; omega, d.up (by omega)⟩
  refine Ok.jn (fun v => v.2.length ≤ 4 ∧ Dr (q + 20) v.1) (Ok.bd (f41_ok h42.2 (by omega) (by simp)) fun v103 h103 => ?_) fun v100 h100 => ?_
  · obtain ⟨m, hm, hm4⟩ : ∃ m : Nat, v103.1 = m ∧ m ≤ 4 := ⟨v103.1.toNat, by have := h103.1; simp at this; omega, by have := h103.1; simp at this; omega⟩
    refine Ok.down (fun v => v.2.2) (fun v m => Dr (q + 8 + 3 * (4 - m)) v.1 ∧ v.2.1.length + m ≤ 4 ∧ m ≤ 4) m (by rw [LFe]; omega) hm ⟨h103.2.up (by omega), by simp; omega, hm4⟩ ?_ ?_
    · rintro ⟨w1, w2, w4⟩ m ⟨d, l, k⟩ hc
      simp only at d l hc ⊢
      subst hc
      have eg : decide (((m + 1 : Nat) : Int) > 0) = true := decide_eq_true (by omega)
      simp only [eg, if_true]
      refine Ok.bd (f128_ok d (by omega)) fun v117 h117 => ?_
      simp only [apz (xs := w2) (n := 24) (by omega) (by omega), bdS, sb1 m (by omega)]
      exact ⟨.inl _, rfl, ⟨h117.up (by omega), by simp; omega, by omega⟩, rfl⟩
    · rintro ⟨w1, w2, w4⟩ ⟨d, l, k⟩ hc
      simp only at d l hc ⊢
      subst hc
      exact ⟨.inr (.inl (w1, w2)), rfl, by show w2.length ≤ 4; omega, d.up (by omega)⟩
  exact Ok.some ⟨⟨by have := h42.1; show v42.2.length ≤ 20; omega, by have := h100.1; show v100.2.length ≤ 20; omega⟩, h100.2⟩

def GoodL (d : Nat) (l : List T128) : Prop := ∀ c ∈ l, Sz 100 c.f4.f0 c.f4.f1 ∧ Bp d c.f5 ∧ Bp d c.f6
theorem GoodL_snoc {d : Nat} {l : List T128} {c : T128} (h : GoodL d l) (hc : Sz 100 c.f4.f0 c.f4.f1 ∧ Bp d c.f5 ∧ Bp d c.f6) : GoodL d (l ++ [c]) := fun x hx => by
  rcases List.mem_append.mp hx with hx | hx
  · exact h x hx
  · simp at hx; subst hx; exact hc
theorem Sz.up {n m : Nat} {f : List T53} {a : List T60} (h : Sz n f a) (hm : n ≤ m) : Sz m f a := ⟨Nat.le_trans h.1 hm, Nat.le_trans h.2 hm⟩

/-- A program of depth d + 1, when programs of depth d can be drawn. -/
theorem f102o_ok {rec : Int → T74 → Option ((List T128) × T74)} (d C : Nat) (x0 : Int) (hC : 1000 ≤ C)
    (sub : decide (x0 > 1) = true → ∀ q s, Dr q s → q + C ≤ 500000000 → Ok (rec (sb x0 1) s) fun r => Bp d r.1 ∧ Dr (q + C) r.2)
    {q : Nat} {s : T74} (h : Dr q s) (hq : q + 20 * C ≤ 500000000) : Ok (f102o rec x0 s) fun r => Bp (d + 1) r.1 ∧ 1 ≤ r.1.length ∧ Dr (q + 20 * C) r.2 := by
  unfold f102o
  refine Ok.jn (fun v => Bp (d + 1) v.1 ∧ 1 ≤ v.1.length ∧ Dr (q + 20 * C) v.2) (Ok.bd (f41_ok h (by omega) (by simp)) fun v4 h4 => ?_) fun v hv => Ok.some hv
  obtain ⟨M, hM, hM3, hM1⟩ : ∃ m : Nat, v4.1 = m ∧ m ≤ 3 ∧ 1 ≤ m := ⟨v4.1.toNat, by have := h4.1; simp at this; omega, by have := h4.1; simp at this; omega, by have := h4.1; simp at this; omega⟩
  refine Ok.down (fun v => v.2.2) (fun v m => ∃ j, M = j + m ∧ v.2.1.length = j ∧ GoodL d v.2.1 ∧ Dr (q + 1 + (3 * C + 40) * j) v.1) M (by rw [LFe]; omega) hM ⟨0, by omega, rfl, (fun c hc => by cases hc), h4.2.up (by omega)⟩ ?_ ?_
  · rintro ⟨w1, w2, w4⟩ m ⟨j, hj, hl, hg, hd⟩ hc
    simp only at hl hg hd hc ⊢
    subst hc
    have eg : decide (((m + 1 : Nat) : Int) > 0) = true := decide_eq_true (by omega)
    simp only [eg, if_true]
    have hQ : q + 1 + (3 * C + 40) * j + 3 * C + 40 ≤ 500000000 := by
      have : (3 * C + 40) * j ≤ (3 * C + 40) * 2 := Nat.mul_le_mul_left _ (by omega)
      omega
    have hQ' : q + 1 + (3 * C + 40) * (j + 1) = q + 1 + (3 * C + 40) * j + 3 * C + 40 := by rw [Nat.mul_succ]; omega
    generalize hQe : q + 1 + (3 * C + 40) * j = Q at hd hQ hQ'
    refine Ok.jn (fun v => Dr (Q + 3 * C + 40) v.1 ∧ v.2.length = j + 1 ∧ GoodL d v.2) ?_ fun v55 h55 => ⟨.inl (v55.1, v55.2, sb ((m + 1 : Nat) : Int) 1), rfl, ⟨j + 1, by omega, h55.2.1, h55.2.2, by rw [hQ']; exact h55.1⟩, sb1 m (by omega)⟩
    refine Ok.bd (f122_ok hd (by omega)) fun v58 h58 => ?_
    obtain ⟨⟨b1, b2, b3⟩, d58⟩ := h58
    refine Ok.jn (fun v : T74 × Int × Int × Int × T53 × (List T53) × (List T60) × (List T128) × (List T128) => Dr (Q + 2 * C + 8) v.1 ∧ Sz 100 v.2.2.2.2.2.1 v.2.2.2.2.2.2.1 ∧ Bp d v.2.2.2.2.2.2.2.1 ∧ Bp d v.2.2.2.2.2.2.2.2) ?_ fun v60 h60 => ?_
    · refine Ok.jn (fun v => Dr (Q + 4) v.2 ∧ (v.1 = true → decide (x0 > 1) = true)) ?_ fun v63 h63 => ?_
      · refine Ok.ite (fun hx => Ok.bd (f38_ok d58 (by omega) (by omega)) fun v67 h67 => ⟨.inl (v67.1 == 0, v67.2), rfl, h67.2.2, fun _ => hx⟩) (fun _ => ⟨.inl (false, v58.2), rfl, d58.up (by omega), fun h => by cases h⟩)
      · refine Ok.ite (fun hx => ?_) (fun _ => ?_)
        · refine Ok.bd (f123_ok h63.1 (by omega)) fun v70 h70 => ?_
          refine Ok.bd (sub (h63.2 hx) _ _ h70 (by omega)) fun v72 h72 => ?_
          refine Ok.bd (f38_ok h72.2 (by omega) (by omega)) fun v74 h74 => ?_
          refine Ok.ite (fun _ => ?_) (fun _ => ?_)
          · refine Ok.bd (sub (h63.2 hx) _ _ h74.2.2 (by omega)) fun v77 h77 => ?_
            exact ⟨.inl (v77.2, 6, 0, 0, v70.1, [], [], v72.1, v77.1), rfl, h77.2.up (by omega), ⟨by simp, by simp⟩, h72.1, h77.1⟩
          · exact ⟨.inl (v74.2, 6, 0, 0, v70.1, [], [], v72.1, []), rfl, h74.2.2.up (by omega), ⟨by simp, by simp⟩, h72.1, Bp_nil d⟩
        · refine ⟨.inl (v63.2, v58.1.f0, v58.1.f1, v58.1.f2, v58.1.f3, v58.1.f4.f0, v58.1.f4.f1, v58.1.f5, v58.1.f6), rfl, h63.1.up (by omega), ?_, ?_, ?_⟩
          · show Sz 100 v58.1.f4.f0 v58.1.f4.f1
            rw [b1]; exact ⟨by simp, by simp⟩
          · show Bp d v58.1.f5
            rw [b2]; exact Bp_nil d
          · show Bp d v58.1.f6
            rw [b3]; exact Bp_nil d
    · refine Ok.jn (fun v => Dr (Q + 2 * C + 9) v.2 ∧ (v.1 = true → decide (x0 > 1) = true)) ?_ fun v79 h79 => ?_
      · refine Ok.ite (fun hx => Ok.bd (f38_ok h60.1 (by omega) (by omega)) fun v67 h67 => ⟨.inl (v67.1 == 0, v67.2), rfl, h67.2.2, fun _ => hx⟩) (fun _ => ⟨.inl (false, v60.1), rfl, h60.1.up (by omega), fun h => by cases h⟩)
      · refine Ok.ite (fun hx => ?_) (fun _ => ?_)
        · refine Ok.bd (f123_ok h79.1 (by omega)) fun v86 h86 => ?_
          refine Ok.bd (f124_ok h86 (by omega)) fun v88 h88 => ?_
          refine Ok.bd (sub (h79.2 hx) _ _ h88.2 (by omega)) fun v90 h90 => ?_
          simp only [apz (xs := w2) (n := 144) (by omega) (by omega), bdS]
          exact ⟨.inl (v90.2, _), rfl, h90.2.up (by omega), by simp; omega, GoodL_snoc hg ⟨h88.1.up (by omega), h90.1, Bp_nil d⟩⟩
        · simp only [apz (xs := w2) (n := 144) (by omega) (by omega), bdS]
          exact ⟨.inl (v79.2, _), rfl, h79.1.up (by omega), by simp; omega, GoodL_snoc hg h60.2⟩
  · rintro ⟨w1, w2, w4⟩ ⟨j, hj, hl, hg, hd⟩ hc
    simp only at hl hg hd hc ⊢
    subst hc
    refine ⟨.inr (.inl (w2, w1)), rfl, ⟨by show w2.length ≤ 100; omega, hg⟩, by show 1 ≤ w2.length; omega, hd.up ?_⟩
    have : (3 * C + 40) * j ≤ (3 * C + 40) * 3 := Nat.mul_le_mul_left _ (by omega)
    omega

theorem f102_ok : ∀ (d : Nat), d ≤ 2 → ∀ fuel, d < fuel → ∀ q s, Dr q s → q + 1000 * 20 ^ (d + 1) ≤ 500000000 → Ok (f102n fuel ((d + 1 : Nat) : Int) s) fun r => Bp (d + 1) r.1 ∧ 1 ≤ r.1.length ∧ Dr (q + 1000 * 20 ^ (d + 1)) r.2 := by
  intro d
  induction d with
  | zero =>
    intro _ fuel hf q s h hq
    obtain ⟨fuel, rfl⟩ : ∃ k, fuel = k + 1 := ⟨fuel - 1, by omega⟩
    have := f102o_ok (rec := f102n fuel) 0 1000 1 (by omega) (fun h => by simp at h) h (by simpa using hq)
    simpa [f102n] using this
  | succ d ih =>
    intro hd fuel hf q s h hq
    obtain ⟨fuel, rfl⟩ : ∃ k, fuel = k + 1 := ⟨fuel - 1, by omega⟩
    have hp : 1000 ≤ 1000 * 20 ^ (d + 1) := Nat.le_mul_of_pos_right _ (Nat.pow_pos (by omega))
    have e : 1000 * 20 ^ (d + 1 + 1) = 20 * (1000 * 20 ^ (d + 1)) := by rw [Nat.pow_succ 20 (d + 1)]; omega
    rw [e] at hq ⊢
    unfold f102n
    refine f102o_ok (rec := f102n fuel) (d + 1) (1000 * 20 ^ (d + 1)) _ hp (fun _ q s h hq => ?_) h hq
    rw [sb1 (d + 1) (by omega)]
    exact (ih (by omega) fuel (by omega) q s h hq).mono fun r hr => ⟨hr.1, hr.2.2⟩

theorem f85_ok {q : Nat} {s : T74} (h : Dr q s) (hq : q ≤ 100000000) : Ok (f85 s) fun r => Bp 4 r.1 ∧ Dr (q + 9000000) r.2 := by
  unfold f85
  refine Ok.bd (f41_ok h (by omega) (by simp)) fun v1 h1 => ?_
  obtain ⟨d, hd, hd2⟩ : ∃ d : Nat, v1.1 = ((d + 1 : Nat) : Int) ∧ d ≤ 2 := ⟨v1.1.toNat - 1, by have := h1.1; simp at this; omega, by have := h1.1; simp at this; omega⟩
  have hp : 1000 * 20 ^ (d + 1) ≤ 8000000 := by
    have : d = 0 ∨ d = 1 ∨ d = 2 := by omega
    rcases this with h | h | h <;> subst h <;> decide
  rw [hd]
  unfold f102
  refine Ok.bd (f102_ok d hd2 LF (by rw [LFe]; omega) _ _ h1.2 (by omega)) fun v3 h3 => ?_
  have hb := Bp_ups _ _ h3.1 4 (by omega)
  refine Ok.bd (f64_ok hb) fun v5 _ => ?_
  refine Ok.ite (fun _ => Ok.some ⟨hb, h3.2.2.up (by omega)⟩) (fun _ => ?_)
  have e : ∃ y, ix v3.1 0 = some y ∧ y ∈ v3.1 := ix_int (by omega) (by unfold ln; have := h3.2.1; omega)
  obtain ⟨y, ey, hy⟩ := e
  simp only [ey, bdS]
  exact Ok.some ⟨⟨by simp, fun c hc => by simp at hc; subst hc; exact hb.2 c hy⟩, h3.2.2.up (by omega)⟩

theorem f62_ok {q : Nat} {s : T74} (h : Dr q s) (hq : q ≤ 10000000) : Ok (f62 s) fun r => Bp 4 r.1 ∧ Dr (q + 9000010) r.2 := by
  unfold f62
  refine Ok.bd (f83_ok h (by omega) (by simp)) fun v1 h1 => ?_
  refine Ok.bd (chkP_ok (all_mem h1.1 (by kernel_rfl))) fun v3 h3 => ?_
  refine Ok.ite (fun _ => ?_) (fun _ => ?_)
  · refine Ok.bd (f38_ok h1.2 (by omega) (by omega)) fun v6 h6 => ?_
    refine Ok.ite (fun _ => Ok.some ⟨h3, h6.2.2.up (by omega)⟩) (fun _ => ?_)
    exact Ok.bd (f85_ok h6.2.2 (by omega)) fun v9 h9 => Ok.some ⟨h9.1, h9.2.up (by omega)⟩
  · exact Ok.bd (f85_ok h1.2 (by omega)) fun v9 h9 => Ok.some ⟨h9.1, h9.2.up (by omega)⟩
end Go.Sep.Y
