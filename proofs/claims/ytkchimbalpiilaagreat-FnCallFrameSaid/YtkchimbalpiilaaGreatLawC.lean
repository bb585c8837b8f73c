/- Sets of terms, as bits and as rows. -/
import Derived.Test.YtkchimbalpiilaaGreatLawB
set_option linter.all false
set_option linter.deprecated false
namespace Go.Sep.Y
open Go Go.Sep

def isR (bits : Int) (P : Nat → Bool) : Prop := ∃ n : Nat, bits = n ∧ n < 65536 ∧ ∀ i, i < 9 → n.testBit i = P i

theorem bor16 {a b : Nat} (ha : a < 65536) (hb : b < 65536) : bor .u16 (a : Int) (b : Int) = ((a ||| b : Nat) : Int) ∧ (a ||| b) < 65536 := by
  have h2 : a ||| b < 65536 := Nat.or_lt_two_pow (n := 16) ha hb
  refine ⟨?_, h2⟩
  have e : (BitVec.ofInt IntKind.u16.bits (a : Int) ||| BitVec.ofInt IntKind.u16.bits (b : Int)).toNat = a ||| b := by
    show (BitVec.ofInt 16 (a : Int) ||| BitVec.ofInt 16 (b : Int)).toNat = a ||| b
    rw [BitVec.toNat_or, BitVec.ofInt_natCast, BitVec.ofInt_natCast, BitVec.toNat_ofNat, BitVec.toNat_ofNat, Nat.mod_eq_of_lt ha, Nat.mod_eq_of_lt hb]
  unfold bor
  rw [e]
  simp only [IntKind.wrap, IntKind.bits, IntKind.signed, Bool.false_and, Bool.false_eq_true, if_false]
  omega

theorem R_or {a b : Int} {P Q : Nat → Bool} (ha : isR a P) (hb : isR b Q) : isR (bor .u16 a b) (fun i => P i || Q i) := by
  obtain ⟨n, rfl, hn, hp⟩ := ha
  obtain ⟨m, rfl, hm, hq⟩ := hb
  obtain ⟨e, l⟩ := bor16 hn hm
  exact ⟨n ||| m, e, l, fun i hi => by rw [Nat.testBit_or, hp i hi, hq i hi]⟩

theorem R_zero : isR 0 (fun _ => false) := ⟨0, rfl, by omega, fun i _ => by simp⟩

theorem R_cong {a : Int} {P Q : Nat → Bool} (h : isR a P) (e : ∀ i, i < 9 → P i = Q i) : isR a Q := by
  obtain ⟨n, h1, h2, h3⟩ := h
  exact ⟨n, h1, h2, fun i hi => by rw [h3 i hi, e i hi]⟩

theorem okT_nat {t : Int} (h : okT t = true) : ∃ k : Nat, t = k ∧ k < 9 := by
  simp only [okT, Bool.and_eq_true, decide_eq_true_eq] at h
  exact ⟨t.toNat, by omega, by omega⟩
theorem nat_okT {k : Nat} (h : k < 9) : okT (k : Int) = true := by
  simp only [okT, Bool.and_eq_true, decide_eq_true_eq]; omega

theorem f45_eq {a t : Int} {P : Nat → Bool} (ha : isR a P) : ∃ b, f45 a t = some b ∧ isR b (fun i => P i || decide ((i : Int) = t)) := by
  unfold f45
  rw [f68_eq]
  simp only [bd]
  cases ht : okT t with
  | false =>
    refine ⟨a, by simp, R_cong ha fun i hi => ?_⟩
    have : (i : Int) ≠ t := by rintro rfl; rw [nat_okT hi] at ht; cases ht
    simp [this]
  | true =>
    obtain ⟨k, rfl, hk⟩ := okT_nat ht
    have e : shl .u16 1 (k : Int) = some ((2 ^ k : Nat) : Int) := by
      simp only [shl, Int.natCast_nonneg, if_true, Int.toNat_natCast, IntKind.bits]
      rw [Nat.min_eq_left (by omega)]
      have : k = 0 ∨ k = 1 ∨ k = 2 ∨ k = 3 ∨ k = 4 ∨ k = 5 ∨ k = 6 ∨ k = 7 ∨ k = 8 := by omega
      rcases this with h | h | h | h | h | h | h | h | h <;> subst h <;> rfl
    have l : (2 ^ k : Nat) < 65536 := Nat.lt_of_le_of_lt (Nat.pow_le_pow_right (by omega) (show k ≤ 8 by omega)) (by decide)
    refine ⟨bor .u16 a ((2 ^ k : Nat) : Int), by simp [e], R_or ha ⟨2 ^ k, rfl, l, fun i hi => ?_⟩⟩
    rw [Nat.testBit_two_pow]
    by_cases hik : k = i
    · simp [hik]
    · have : ¬ ((i : Int) = (k : Int)) := by omega
      simp [hik, this]

theorem f46_eq {a t : Int} {P : Nat → Bool} (ha : isR a P) : f46 a t = some (okT t && P t.toNat) := by
  unfold f46
  rw [f68_eq]
  simp only [bd]
  cases ht : okT t with
  | false => simp
  | true =>
    obtain ⟨k, rfl, hk⟩ := okT_nat ht
    obtain ⟨n, rfl, hn, hp⟩ := ha
    have e : shr .u16 (n : Int) (k : Int) = some ((n / 2 ^ k : Nat) : Int) := by
      simp only [shr, Int.natCast_nonneg, if_true, Int.toNat_natCast, IntKind.bits]
      rw [Nat.min_eq_left (by omega), Int.fdiv_eq_ediv_of_nonneg _ (Int.le_of_lt (Int.pow_pos (by omega))), Int.natCast_ediv, Int.natCast_pow]
      rfl
    have l : n / 2 ^ k < 65536 := Nat.lt_of_le_of_lt (Nat.div_le_self _ _) hn
    have e2 : band .u16 ((n / 2 ^ k : Nat) : Int) 1 = ((n / 2 ^ k % 2 : Nat) : Int) := by
      have e3 : (BitVec.ofInt IntKind.u16.bits ((n / 2 ^ k : Nat) : Int) &&& BitVec.ofInt IntKind.u16.bits 1).toNat = n / 2 ^ k % 2 := by
        show (BitVec.ofInt 16 ((n / 2 ^ k : Nat) : Int) &&& BitVec.ofInt 16 ((1 : Nat) : Int)).toNat = _
        rw [BitVec.toNat_and, BitVec.ofInt_natCast, BitVec.ofInt_natCast, BitVec.toNat_ofNat, BitVec.toNat_ofNat, Nat.mod_eq_of_lt l]
        exact Nat.and_one_is_mod _
      unfold band
      rw [e3]
      simp only [IntKind.wrap, IntKind.bits, IntKind.signed, Bool.false_and, Bool.false_eq_true, if_false]
      omega
    simp only [if_true, e, e2, Int.toNat_natCast, Bool.true_and]
    rw [← hp k hk, Nat.testBit_eq_decide_div_mod_eq]
    congr 1
    by_cases h : n / 2 ^ k % 2 = 1
    · simp [h]
    · have : n / 2 ^ k % 2 = 0 := by omega
      simp [this]

/-- Rows of nine. -/
def isB (us : List Bool) (P : Nat → Bool) : Prop := us.length = 9 ∧ ∀ i, i < 9 → us[i]? = some (P i)
theorem B_set {us : List Bool} {P : Nat → Bool} {k : Nat} (h : isB us P) : isB (us.set k true) (fun i => P i || decide ((i : Int) = (k : Int))) := by
  refine ⟨by simp [h.1], fun i hi => ?_⟩
  by_cases hik : k = i
  · subst hik; simp [h.1, hi]
  · rw [List.getElem?_set_ne hik, h.2 i hi]
    have : ¬ ((i : Int) = (k : Int)) := by omega
    simp [this]
theorem B_cong {a : List Bool} {P Q : Nat → Bool} (h : isB a P) (e : ∀ i, i < 9 → P i = Q i) : isB a Q :=
  ⟨h.1, fun i hi => by rw [h.2 i hi, e i hi]⟩
theorem B_zero : isB (List.replicate 9 false) (fun _ => false) := ⟨rfl, fun i hi => by rw [List.getElem?_replicate, if_pos hi]⟩
theorem B_ix {us : List Bool} {P : Nat → Bool} {k : Nat} (h : isB us P) (hk : k < 9) : ix us (k : Int) = some (P k) := by rw [ix_nat, h.2 k hk]
theorem B_st {us : List Bool} {P : Nat → Bool} {k : Nat} (h : isB us P) (hk : k < 9) (v : Bool) : st us (k : Int) v = some (us.set k v) := st_ok (by rw [h.1]; exact hk)

/-- The terms of facts, of atoms, of an assertion. -/
def oF (l : List T53) (i : Nat) : Bool := l.any fun f => decide ((i : Int) = f.f1) || decide ((i : Int) = f.f2)
def oA (l : List T60) (i : Nat) : Bool := l.any fun f => decide ((i : Int) = f.f1) || decide ((i : Int) = f.f2)
def occ (a : T25) (i : Nat) : Bool := oF a.f0 i || oA a.f1 i

theorem f17_eq (a : T25) (h : a.f0.length < LF) (h' : a.f1.length < LF) : ∃ b, f17 a = some b ∧ isR b (occ a) := by
  unfold f17
  refine Ok.jn (fun b => isR b (oF a.f0)) (Ok.iter a.f0.length (fun s i => (s, (i : Int))) (fun s i => isR s (oF (a.f0.take i))) 0 0 rfl (R_cong R_zero fun i _ => by simp [oF]) (by omega) h ?_ ?_) ?_
  · intro s i hI hi e
    obtain ⟨y, hy⟩ : ∃ y, a.f0[i]? = some y := ⟨a.f0[i], by simp [hi]⟩
    obtain ⟨b1, e1, r1⟩ := f45_eq (t := y.f1) hI
    obtain ⟨b2, e2, r2⟩ := f45_eq (t := y.f2) r1
    refine ⟨.inl (b2, ((i + 1 : Nat) : Int)), by simp only [ltT hi, if_true, ix_nat, hy, bd, e1, e2, e], b2, rfl, R_cong r2 fun k _ => ?_⟩
    rw [List.take_add_one, hy]
    simp [oF, Bool.or_assoc]
  · intro s hI
    exact ⟨.inl s, by simp only [ltF]; rfl, R_cong hI fun k _ => by simp⟩
  intro b hb
  refine Ok.jn (fun b => isR b (occ a)) (Ok.iter a.f1.length (fun s i => (s, (i : Int))) (fun s i => isR s (fun k => oF a.f0 k || oA (a.f1.take i) k)) b 0 rfl (R_cong hb fun i _ => by simp [oA]) (by omega) h' ?_ ?_) ?_
  · intro s i hI hi e
    obtain ⟨y, hy⟩ : ∃ y, a.f1[i]? = some y := ⟨a.f1[i], by simp [hi]⟩
    obtain ⟨b1, e1, r1⟩ := f45_eq (t := y.f1) hI
    obtain ⟨b2, e2, r2⟩ := f45_eq (t := y.f2) r1
    refine ⟨.inl (b2, ((i + 1 : Nat) : Int)), by simp only [ltT hi, if_true, ix_nat, hy, bd, e1, e2, e], b2, rfl, R_cong r2 fun k _ => ?_⟩
    rw [List.take_add_one, hy]
    simp [oA, Bool.or_assoc]
  · intro s hI
    exact ⟨.inl s, by simp only [ltF]; rfl, R_cong hI fun k _ => by simp [occ]⟩
  intro b hb
  exact Ok.some hb

/-- All terms are terms. -/
def tmF (l : List T53) : Prop := ∀ f ∈ l, okT f.f1 = true ∧ okT f.f2 = true
def tmA (l : List T60) : Prop := ∀ f ∈ l, okT f.f1 = true ∧ okT f.f2 = true
def tm (a : T25) : Prop := tmF a.f0 ∧ tmA a.f1

theorem f26_eq (a : T25) (ht : tm a) (h : a.f0.length < LF) (h' : a.f1.length < LF) : Ok (f26 a) fun us => isB us (occ a) := by
  unfold f26
  refine Ok.bd (P := fun v => isB v fun _ => false) ⟨_, mk_ok (n := 1) (l := 9) (c := 9) (by omega) (by omega) (by omega), B_zero⟩ fun us hus => ?_
  refine Ok.jn (fun b => isB b (oF a.f0)) (Ok.iter a.f0.length (fun s i => (s, (i : Int))) (fun s i => isB s (oF (a.f0.take i))) us 0 rfl (B_cong hus fun i _ => by simp [oF]) (by omega) h ?_ ?_) ?_
  · intro s i hI hi e
    obtain ⟨y, hy⟩ : ∃ y, a.f0[i]? = some y := ⟨a.f0[i], by simp [hi]⟩
    obtain ⟨t1, t2⟩ := ht.1 y (List.mem_of_getElem? hy)
    obtain ⟨k1, e1, l1⟩ := okT_nat t1
    obtain ⟨k2, e2, l2⟩ := okT_nat t2
    have r1 := B_set (k := k1) hI
    have r2 := B_set (k := k2) r1
    refine ⟨.inl ((s.set k1 true).set k2 true, ((i + 1 : Nat) : Int)), by simp only [ltT hi, if_true, ix_nat (xs := a.f0), hy, bd, e1, e2, B_ix hI l1, B_st hI l1, B_ix r1 l2, B_st r1 l2, e], _, rfl, B_cong r2 fun k _ => ?_⟩
    rw [List.take_add_one, hy]
    simp [oF, Bool.or_assoc, e1, e2]
  · intro s hI
    exact ⟨.inl s, by simp only [ltF]; rfl, B_cong hI fun k _ => by simp⟩
  intro b hb
  refine Ok.jn (fun b => isB b (occ a)) (Ok.iter a.f1.length (fun s i => (s, (i : Int))) (fun s i => isB s (fun k => oF a.f0 k || oA (a.f1.take i) k)) b 0 rfl (B_cong hb fun i _ => by simp [oA]) (by omega) h' ?_ ?_) ?_
  · intro s i hI hi e
    obtain ⟨y, hy⟩ : ∃ y, a.f1[i]? = some y := ⟨a.f1[i], by simp [hi]⟩
    obtain ⟨t1, t2⟩ := ht.2 y (List.mem_of_getElem? hy)
    obtain ⟨k1, e1, l1⟩ := okT_nat t1
    obtain ⟨k2, e2, l2⟩ := okT_nat t2
    have r1 := B_set (k := k1) hI
    have r2 := B_set (k := k2) r1
    refine ⟨.inl ((s.set k1 true).set k2 true, ((i + 1 : Nat) : Int)), by simp only [ltT hi, if_true, ix_nat (xs := a.f1), hy, bd, e1, e2, B_ix hI l1, B_st hI l1, B_ix r1 l2, B_st r1 l2, e], _, rfl, B_cong r2 fun k _ => ?_⟩
    rw [List.take_add_one, hy]
    simp [oA, Bool.or_assoc, e1, e2]
  · intro s hI
    exact ⟨.inl s, by simp only [ltF]; rfl, B_cong hI fun k _ => by simp [occ]⟩
  intro b hb
  exact Ok.some hb
end Go.Sep.Y
