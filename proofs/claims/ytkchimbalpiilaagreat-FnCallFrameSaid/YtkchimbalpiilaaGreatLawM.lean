/- Draws: picks. -/
import Derived.Test.YtkchimbalpiilaaGreatLawL
set_option linter.all false
set_option linter.deprecated false
namespace Go.Sep.Y
open Go Go.Sep

/-- A state of the reader: so many picks at most. -/
def Dr (q : Nat) (s : T74) : Prop := s.f0.length ≤ 2000 ∧ (∀ v ∈ s.f0, 0 ≤ v ∧ v < 256) ∧ 0 ≤ s.f1 ∧ s.f1 ≤ q
theorem Dr.up {q r : Nat} {s : T74} (h : Dr q s) (hq : q ≤ r) : Dr r s := ⟨h.1, h.2.1, h.2.2.1, by have := h.2.2.2; omega⟩

theorem muI {a b : Int} (h : -9223372036854775808 ≤ a * b) (h' : a * b < 9223372036854775808) : mu a b = a * b := wr h h'

theorem bxor_nn {a b : Int} (ha : 0 ≤ a) (ha' : a < 4611686018427387904) (hb : 0 ≤ b) (hb' : b < 4611686018427387904) : 0 ≤ bxor .i64 a b := by
  obtain ⟨n, rfl⟩ := Int.eq_ofNat_of_zero_le ha
  obtain ⟨m, rfl⟩ := Int.eq_ofNat_of_zero_le hb
  have hn : n < 2 ^ 62 := by omega
  have hm : m < 2 ^ 62 := by omega
  have e : (BitVec.ofInt IntKind.i64.bits (n : Int) ^^^ BitVec.ofInt IntKind.i64.bits (m : Int)).toNat = n ^^^ m := by
    show (BitVec.ofInt 64 (n : Int) ^^^ BitVec.ofInt 64 (m : Int)).toNat = n ^^^ m
    rw [BitVec.toNat_xor, BitVec.ofInt_natCast, BitVec.ofInt_natCast, BitVec.toNat_ofNat, BitVec.toNat_ofNat, Nat.mod_eq_of_lt (by omega), Nat.mod_eq_of_lt (by omega)]
  have h2 := Nat.xor_lt_two_pow hn hm
  show 0 ≤ IntKind.i64.wrap (BitVec.ofInt IntKind.i64.bits (n : Int) ^^^ BitVec.ofInt IntKind.i64.bits (m : Int)).toNat
  rw [e, wr (by omega) (by omega)]
  omega

theorem rmd_ok {a b : Int} (ha : 0 ≤ a) (hb : 0 < b) : Ok (rmd .i64 a b) fun r => 0 ≤ r ∧ r < b :=
  ⟨a.tmod b, if_neg (by omega), Int.tmod_nonneg _ ha, Int.tmod_lt_of_pos _ hb⟩

theorem ix_int {α : Type} {xs : List α} {i : Int} (h : 0 ≤ i) (h' : i < ln xs) : ∃ y, ix xs i = some y ∧ y ∈ xs := by
  obtain ⟨n, rfl⟩ := Int.eq_ofNat_of_zero_le h
  have hn : n < xs.length := Int.ofNat_lt.mp h'
  exact ⟨xs[n], by rw [ix_nat]; simp [hn], List.getElem_mem hn⟩

theorem f38_ok {q : Nat} {n : Int} {s : T74} (h : Dr q s) (hq : q ≤ 1000000000) (h1 : 1 ≤ n) : Ok (f38 n s) fun r => 0 ≤ r.1 ∧ r.1 < n ∧ Dr (q + 1) r.2 := by
  obtain ⟨l1, l2, l3, l4⟩ := h
  have ea : ad s.f1 1 = s.f1 + 1 := adI (by omega) (by omega)
  have es : sb (s.f1 + 1) 1 = s.f1 := by rw [sbI (by omega) (by omega)]; omega
  have hd : Dr (q + 1) ⟨s.f0, s.f1 + 1⟩ := ⟨l1, l2, by show 0 ≤ s.f1 + 1; omega, by show s.f1 + 1 ≤ _; omega⟩
  simp only [f38, ea, es]
  have c1 : decide (n < 1) = false := decide_eq_false (by omega)
  simp only [c1, Bool.false_eq_true, if_false]
  cases c2 : (ln s.f0 == 0) with
  | true => exact ⟨(0, ⟨s.f0, s.f1 + 1⟩), rfl, by show (0 : Int) ≤ 0; omega, by show (0 : Int) < n; omega, hd⟩
  | false =>
  have hln : 0 < ln s.f0 := by
    have : ¬ (ln s.f0 = 0) := by simpa using c2
    unfold ln at this ⊢
    omega
  have hln2 : ln s.f0 ≤ 2000 := by unfold ln; omega
  simp only [Bool.false_eq_true, if_false, jn]
  refine Ok.ite (fun hc => ?_) (fun hc => ?_)
  · obtain ⟨y, ey, hy⟩ := ix_int l3 (of_decide_eq_true hc)
    obtain ⟨y1, y2⟩ := l2 y hy
    simp only [ey, bdS, wr (n := y) (by omega) (by omega)]
    exact Ok.bd (rmd_ok y1 (by omega)) fun v hv => Ok.some ⟨hv.1, hv.2, hd⟩
  · refine Ok.bd (rmd_ok l3 hln) fun v11 h11 => ?_
    obtain ⟨y, ey, hy⟩ := ix_int h11.1 h11.2
    obtain ⟨y1, y2⟩ := l2 y hy
    have m7 : mu s.f1 7 = s.f1 * 7 := muI (by omega) (by omega)
    have a3 : ad (s.f1 * 7) 3 = s.f1 * 7 + 3 := adI (by omega) (by omega)
    simp only [ey, bdS, m7, a3]
    refine Ok.bd (rmd_ok (by omega) hln) fun v15 h15 => ?_
    obtain ⟨z, ez, hz⟩ := ix_int h15.1 h15.2
    obtain ⟨z1, z2⟩ := l2 z hz
    have hq1 : 0 ≤ s.f1.tdiv (ln s.f0) := Int.tdiv_nonneg l3 (by omega)
    have hq2 : s.f1.tdiv (ln s.f0) ≤ s.f1 := by
      rw [Int.tdiv_eq_ediv_of_nonneg l3]
      exact Int.ediv_le_self _ l3
    have eq1 : quo .i64 s.f1 (ln s.f0) = some (s.f1.tdiv (ln s.f0)) := by
      unfold quo
      rw [if_neg (by omega), wr (by omega) (by omega)]
    simp only [ez, bdS, eq1]
    generalize s.f1.tdiv (ln s.f0) = d at hq1 hq2
    have e1 : mu (IntKind.wrap .i64 y) 131 = y * 131 := by rw [wr (n := y) (by omega) (by omega)]; exact muI (by omega) (by omega)
    have e2 : mu (IntKind.wrap .i64 z) 1117 = z * 1117 := by rw [wr (n := z) (by omega) (by omega)]; exact muI (by omega) (by omega)
    have e3 : mu s.f1 29 = s.f1 * 29 := muI (by omega) (by omega)
    have e4 : mu d 53 = d * 53 := muI (by omega) (by omega)
    have e5 : ad (y * 131) (z * 1117) = y * 131 + z * 1117 := adI (by omega) (by omega)
    have e6 : ad (y * 131 + z * 1117) (s.f1 * 29) = y * 131 + z * 1117 + s.f1 * 29 := adI (by omega) (by omega)
    have e7 : ad (y * 131 + z * 1117 + s.f1 * 29) (d * 53) = y * 131 + z * 1117 + s.f1 * 29 + d * 53 := adI (by omega) (by omega)
    simp only [e1, e2, e3, e4, e5, e6, e7]
    have hb1 : 0 ≤ y * 131 + z * 1117 + s.f1 * 29 + d * 53 := by omega
    have hb2 : y * 131 + z * 1117 + s.f1 * 29 + d * 53 < 4611686018427387904 := by omega
    generalize y * 131 + z * 1117 + s.f1 * 29 + d * 53 = w at hb1 hb2
    have hw1 : 0 ≤ w.tdiv 64 := Int.tdiv_nonneg hb1 (by omega)
    have hw2 : w.tdiv 64 ≤ w := by
      rw [Int.tdiv_eq_ediv_of_nonneg hb1]
      exact Int.ediv_le_self _ hb1
    have eq2 : quo .i64 w 64 = some (w.tdiv 64) := by
      unfold quo
      rw [if_neg (by omega), wr (by omega) (by omega)]
    simp only [eq2, bdS]
    exact Ok.bd (rmd_ok (bxor_nn hb1 hb2 hw1 (by omega)) (by omega)) fun v hv => Ok.some ⟨hv.1, hv.2, hd⟩

theorem f41_ok {q : Nat} {xs : List Int} {s : T74} (h : Dr q s) (hq : q ≤ 1000000000) (h1 : 1 ≤ xs.length) : Ok (f41 xs s) fun r => r.1 ∈ xs ∧ Dr (q + 1) r.2 := by
  unfold f41
  refine Ok.bd (f38_ok h hq (by unfold ln; omega)) fun v hv => ?_
  obtain ⟨y, ey, hy⟩ := ix_int hv.1 hv.2.1
  simp only [ey, bdS]
  exact Ok.some ⟨hy, hv.2.2⟩
theorem f83_ok {q : Nat} {xs : List (List UInt8)} {s : T74} (h : Dr q s) (hq : q ≤ 1000000000) (h1 : 1 ≤ xs.length) : Ok (f83 xs s) fun r => r.1 ∈ xs ∧ Dr (q + 1) r.2 := by
  unfold f83
  refine Ok.bd (f38_ok h hq (by unfold ln; omega)) fun v hv => ?_
  obtain ⟨y, ey, hy⟩ := ix_int hv.1 hv.2.1
  simp only [ey, bdS]
  exact Ok.some ⟨hy, hv.2.2⟩

theorem f9_ok {x : List Int} (h : ∀ v ∈ x, 0 ≤ v ∧ v < 256) : Ok (f9 x) (Dr 0) := by
  unfold f9
  refine Ok.ite (fun hc => ?_) (fun hc => ?_)
  · have hc' : ln x > 2000 := of_decide_eq_true hc
    have e : sl x 0 2000 = some (x.take 2000) := by
      unfold sl
      unfold ln at hc'
      rw [if_pos ⟨by omega, by omega, by omega⟩]
      simp
    simp only [e, bdS]
    exact Ok.some ⟨by simp; omega, fun v hv => h v (List.mem_of_mem_take hv), Int.le_refl _, Int.le_refl _⟩
  · have hc' : ¬ (ln x > 2000) := of_decide_eq_false hc
    unfold ln at hc'
    exact Ok.some ⟨by show x.length ≤ 2000; omega, h, Int.le_refl _, Int.le_refl _⟩

/-- Sizes. -/
def Sz (n : Nat) (f : List T53) (a : List T60) : Prop := f.length ≤ n ∧ a.length ≤ n

theorem apz {α : Type} {xs : List α} {y : α} {n : Nat} (hn : n ≤ 1000) (h : xs.length ≤ 100000) : ap n xs [y] = some (xs ++ [y]) := ap_ok (by
    have : (xs.length + 1) * n ≤ 100001 * 1000 := Nat.mul_le_mul (by omega) hn
    simp only [List.length_singleton]; omega) (by simp only [List.length_singleton]; omega)
theorem apn {α : Type} {xs : List α} {n : Nat} (hn : n ≤ 1000) (h : xs.length ≤ 100000) : ap n ([] : List α) xs = some xs := by
  rw [ap_ok (by
    have : (xs.length) * n ≤ 100000 * 1000 := Nat.mul_le_mul (by omega) hn
    simp only [List.length_nil, Nat.zero_add]; omega) (by simp; omega)]
  rfl

/-- A loop that counts down. -/
theorem Ok.down {V W : Type} {b : V → Option (V ⊕ W)} {v : V} {P : W → Prop} (cnt : V → Int) (I : V → Nat → Prop) (n : Nat) (hn : n < LF) (hv : cnt v = n) (h0 : I v n)
    (hs : ∀ v m, I v (m + 1) → cnt v = ((m + 1 : Nat) : Int) → Ok (b v) (LR (fun v' => I v' m ∧ cnt v' = m) P))
    (he : ∀ v, I v 0 → cnt v = 0 → Ok (b v) (LR (fun _ => False) P)) : Ok (Go.Sep.iter b v) P := by
  refine Ok.whl (fun v => ∃ m : Nat, cnt v = m ∧ I v m) (fun v => (cnt v).toNat) ⟨n, hv, h0⟩ (by rw [hv]; simpa using hn) ?_
  rintro v ⟨m, hm, hI⟩
  cases m with
  | zero =>
    refine (he v hI hm).mono fun w hw => ?_
    rcases w with v' | r
    · exact hw.elim
    · exact hw
  | succ m =>
    refine (hs v m hI hm).mono fun w hw => ?_
    rcases w with v' | r
    · exact ⟨⟨m, hw.2, hw.1⟩, by rw [hw.2, hm]; simp⟩
    · exact hw
theorem sb1 (m : Nat) (h : m < 1000000) : sb ((m + 1 : Nat) : Int) 1 = (m : Int) := by rw [sbI (by omega) (by omega)]; omega
end Go.Sep.Y
