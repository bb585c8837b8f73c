/- Loops, joints, and what may be forgotten or seen otherwise. -/
import Derived.Test.YtkchimbalpiilaaGreatSepQ
set_option linter.all false
set_option linter.deprecated false
namespace Go.Sep
open Go

/-! Iteration. -/
def iterN {V W : Type} (b : V → Option (V ⊕ W)) : Nat → V → Option W
  | 0, _ => none
  | n + 1, v => match b v with
    | none => none
    | some (.inl v') => iterN b n v'
    | some (.inr r) => some r

/-- More rounds than there will be. -/
def LF : Nat := 4611686018427387904
/-- b, again and again, until it ends. -/
def iter {V W : Type} (b : V → Option (V ⊕ W)) (v : V) : Option W := iterN b LF v

theorem iterN_mono {V W : Type} {b : V → Option (V ⊕ W)} : ∀ (n m : Nat) (v : V) (r : W), iterN b n v = some r → n ≤ m → iterN b m v = some r
  | 0, _, v, r, h, _ => by simp [iterN] at h
  | n + 1, 0, v, r, h, hm => by omega
  | n + 1, m + 1, v, r, h, hm => by
    simp only [iterN] at h ⊢
    cases hb : b v with
    | none => rw [hb] at h; cases h
    | some u =>
      rw [hb] at h
      cases u with
      | inl v' => exact iterN_mono n m v' r h (by omega)
      | inr r' => exact h

theorem iter_some {V W : Type} {b : V → Option (V ⊕ W)} {v : V} {r : W} (h : iter b v = some r) : ∃ n, iterN b n v = some r := ⟨LF, h⟩

/-- Go on with k, unless the end has come. -/
def jn {V R : Type} (m : Option (V ⊕ R)) (k : V → Option R) : Option R :=
  match m with
  | none => none
  | some (.inl v) => k v
  | some (.inr r) => some r

section
variable {C : Cx} {E : En} {N : Nat} {Q : Exit → Act → World → Prop}

/-- Where a part of the code ends: either it goes on, with v, or it leaves. -/
def LQ (C : Cx) (E : En) (N : Nat) {V R : Type} (st : V → S) (Q : Exit → Act → World → Prop) : V ⊕ R → Exit → Act → World → Prop
  | .inl v, .normal, a, w => St C E N (st v) a w
  | .inl _, _, _, _ => False
  | .inr _, .normal, _, _ => False
  | .inr _, e, a, w => Q e a w

theorem least {p : Nat → Prop} {n : Nat} (h : p n) : ∃ k, p k ∧ ∀ j, j < k → ¬ p j := by
  induction n using Nat.strongRecOn with
  | _ n ih =>
    by_cases hj : ∃ j, j < n ∧ p j
    · obtain ⟨j, hlt, hp⟩ := hj
      exact ih j hlt hp
    · exact ⟨n, h, fun j hlt hp => hj ⟨j, hlt, hp⟩⟩

open Classical in
noncomputable def low (p : Nat → Prop) : Nat := if h : ∃ k, p k ∧ ∀ j, j < k → ¬ p j then h.choose else 0

theorem low_le {p : Nat → Prop} {n : Nat} (h : p n) : p (low p) ∧ low p ≤ n := by
  have hh := least h
  unfold low
  rw [dif_pos hh]
  exact ⟨hh.choose_spec.1, Nat.le_of_not_lt fun hl => hh.choose_spec.2 n hl h⟩

theorem CD.loop {V R : Type} {b : V → Option (V ⊕ R)} (st : V → S) {v0 : V} {r : R} {body : Code} (h : iter b v0 = some r)
    (round : ∀ v u, b v = some u → (∀ r', u = .inr r' → r' = r) → CD C E N body (st v) (LQ C E N st Q u)) : CD C E N (.loop body) (st v0) Q := by
  obtain ⟨n, hn⟩ := iter_some h
  intro a w hs
  refine wpIn_loop (fun a w => ∃ n v, iterN b n v = some r ∧ St C E N (st v) a w) (fun a w => low fun n => ∃ v, iterN b n v = some r ∧ St C E N (st v) a w) ⟨n, v0, hn, hs⟩ ?_
  rintro a w ⟨n, v, hn, hs⟩
  obtain ⟨⟨v, hv, hsv⟩, _⟩ := low_le (p := fun n => ∃ v, iterN b n v = some r ∧ St C E N (st v) a w) ⟨v, hn, hs⟩
  generalize low (fun n => ∃ v, iterN b n v = some r ∧ St C E N (st v) a w) = k at hv
  cases k with
  | zero => simp [iterN] at hv
  | succ k =>
    simp only [iterN] at hv
    cases hb : b v with
    | none => rw [hb] at hv; cases hv
    | some u =>
      rw [hb] at hv
      refine wpIn_mono (round v u hb (fun r' e => by subst e; simpa using hv) a w hsv) (fun e a' w' hq => ?_)
      cases u with
      | inl v' =>
        cases e with
        | normal =>
          simp only at hv
          have := low_le (p := fun n => ∃ v, iterN b n v = some r ∧ St C E N (st v) a' w') (n := k) ⟨v', hv, hq⟩
          exact ⟨⟨k, v', hv, hq⟩, by have := this.2; omega⟩
        | _ => exact hq.elim
      | inr r' =>
        cases e with
        | normal => exact hq.elim
        | _ => exact hq

theorem CD.join {V R : Type} {m : Option (V ⊕ R)} {k : V → Option R} (st : V → S) {r : R} {x y : Code} {s : S} (h : jn m k = some r)
    (hx : ∀ u, m = some u → (∀ r', u = .inr r' → r' = r) → CD C E N x s (LQ C E N st Q u)) (hy : ∀ v, k v = some r → CD C E N y (st v) Q) : CD C E N (.seq x y) s Q := by
  intro a w hs
  refine wpIn_seq ?_
  unfold jn at h
  split at h
  · cases h
  · rename_i v
    refine wpIn_mono (hx (.inl v) rfl (fun r' e => by cases e) a w hs) (fun e a' w' hq => ?_)
    cases e with
    | normal => exact hy v h a' w' hq
    | _ => exact hq.elim
  · rename_i r'
    cases h
    refine wpIn_mono (hx (.inr r) rfl (fun r' e => by cases e; rfl) a w hs) (fun e a' w' hq => ?_)
    cases e with
    | normal => exact hq.elim
    | _ => exact hq

/-! Leaves. -/
theorem NX.brk {s : S} {id : Nat} (h : NX C E N s (Q .normal)) : NX C E N s (Exit.inBlock id Q (.exit id)) := fun a w hs => by
  simp only [Exit.inBlock, if_true]
  exact h a w hs
theorem NX.out {s : S} {id id' : Nat} (hne : Nat.beq id' id = false) (h : NX C E N s (Q (.exit id'))) : NX C E N s (Exit.inBlock id Q (.exit id')) := fun a w hs => by
  have : id' ≠ id := by rintro rfl; simp at hne
  simp only [Exit.inBlock, if_neg this]
  exact h a w hs

/-! To forget. -/
def pickS (o : List (Nat × Ob)) : List Nat → Option (List (Nat × Ob))
  | [] => some []
  | k :: l => match lk o k with
    | none => none
    | some c => match pickS o l with
      | none => none
      | some r => some ((k, c) :: r)

theorem pickS_lk {o : List (Nat × Ob)} (k : Nat) : ∀ (l : List Nat) (r : List (Nat × Ob)), pickS o l = some r → lk r k = if memB k l then lk o k else none
  | [], r, h => by simp only [pickS, Option.some.injEq] at h; subst h; rfl
  | a :: l, r, h => by
    simp only [pickS] at h
    split at h
    · cases h
    · rename_i c hc
      split at h
      · cases h
      · rename_i r' hr
        simp only [Option.some.injEq] at h
        subst h
        simp only [lk, memB]
        by_cases hak : a = k
        · subst hak; simp [hc]
        · simp only [beq_false hak, Bool.false_eq_true, if_false, Bool.false_or]
          exact pickS_lk k l r' hr

/-- Objects that are forgotten were made here. -/
def dropOk (os : List Nat) : List (Nat × Ob) → Bool
  | [] => true
  | (i, _) :: l => (memB i os || Nat.ble 900 i) && dropOk os l

theorem dropOk_at {os : List Nat} {i : Nat} (hi : memB i os = false) : ∀ (l : List (Nat × Ob)) (c : Ob), dropOk os l = true → lk l i = some c → 900 ≤ i
  | [], c, _, h => by cases h
  | (j, _) :: l, c, hd, h => by
    simp only [dropOk, Bool.and_eq_true, Bool.or_eq_true] at hd
    simp only [lk] at h
    by_cases hji : j = i
    · subst hji
      rcases hd.1 with h | h
      · rw [hi] at h; cases h
      · exact Nat.le_of_ble_eq_true h
    · simp only [beq_false hji, Bool.false_eq_true, if_false] at h
      exact dropOk_at hi l c hd.2 h

def lostB (os : List Nat) : Nat → Bool := fun i => !(memB i os)

def Ob.clear (bad : Nat → Bool) : Ob → Bool
  | .box c => AV.clear bad bad c
  | .raw _ sl => AV.clears bad bad sl
  | _ => true

def clearT (bad : Nat → Bool) : List (Nat × AV) → Bool
  | [] => true
  | (_, x) :: l => AV.clear bad bad x && clearT bad l
def clearO (bad : Nat → Bool) : List (Nat × Ob) → Bool
  | [] => true
  | (_, x) :: l => x.clear bad && clearO bad l

theorem clearT_at {bad : Nat → Bool} : ∀ (l : List (Nat × AV)) (k : Nat), clearT bad l = true → AV.clear bad bad (at' l k) = true
  | [], k, _ => by simp only [at', lk, AV.clear]
  | (i, x) :: l, k, h => by
    simp only [clearT, Bool.and_eq_true] at h
    by_cases hik : i = k
    · subst hik; simpa [at', lk] using h.1
    · have := clearT_at l k h.2
      simpa only [at', lk, beq_false hik, Bool.false_eq_true, if_false] using this
theorem clearO_at {bad : Nat → Bool} : ∀ (l : List (Nat × Ob)) (k : Nat) (c : Ob), clearO bad l = true → lk l k = some c → c.clear bad = true
  | [], k, c, _, h => by cases h
  | (i, x) :: l, k, c, h, hc => by
    simp only [clearO, Bool.and_eq_true] at h
    simp only [lk] at hc
    by_cases hik : i = k
    · subst hik; simp only [beq_same, if_true, Option.some.injEq] at hc; subst hc; exact h.1
    · simp only [beq_false hik, Bool.false_eq_true, if_false] at hc
      exact clearO_at l k c h.2 hc

def keepC (s : S) (ts os : List Nat) : Option S :=
  match pickS s.o os with
  | none => none
  | some o => match pickT s.t ts with
    | t => if (memB 998 os || (lk s.o 998).isNone) && dropOk os s.o && (clearT (lostB os) t && clearO (lostB os) o) then some ⟨t, o⟩ else none

theorem NX.keep {s : S} (s' : S) {K : Act → World → Prop} (h : keepC s (keysOf s'.t) (keysOf s'.o) = some s') (k : NX C E N s' K) : NX C E N s K := by
  rintro a w ⟨hE, h1, m, I, h2, hm, hl, ht⟩
  refine k a w ⟨hE, h1, m, I, ?_⟩
  unfold keepC at h
  split at h
  · cases h
  · rename_i o ho
    simp only at h
    split at h
    · rename_i hc
      simp only [Bool.and_eq_true] at hc
      simp only [Option.some.injEq] at h
      generalize keysOf s'.t = ts at h hc
      generalize keysOf s'.o = os at h hc ho
      subst h
      have hlk : ∀ i, lk o i = if memB i os then lk s.o i else none := fun i => pickS_lk i os o ho
      have hsub : ∀ i c, lk o i = some c → lk s.o i = some c ∧ memB i os = true := by
        intro i c hi
        rw [hlk] at hi
        split at hi
        · rename_i hh; exact ⟨hi, hh⟩
        · cases hi
      have hkeep : ∀ i, lostB os i = false → lk o i = lk s.o i := by
        intro i hi
        rw [hlk, if_pos (by simpa [lostB] using hi)]
      have hL : Later (lk s.o) m I w (lk o) m I w (lostB os) := by
        refine ⟨fun _ h => h, fun _ _ _ _ h => h, fun _ _ _ h _ => h, ?_, ?_, ?_⟩
        · intro i p k hi hp; simp only [gh, hkeep i hi] at hp ⊢; exact hp
        · intro i n hi hp; simp only [gh, hkeep i hi] at hp ⊢; exact ⟨n, hp, Nat.le_refl _, fun _ => trivial⟩
        · intro i j p k hi hp; simp only [gh, hkeep i hi] at hp ⊢; exact hp
      have hdf : DF (lk o) m a := h2.on rfl (fun h9 => ⟨by
        rw [hlk, if_pos]
        · exact h9
        · have h99 := hc.1.1
          have h9' : lk s.o 998 = some (.raw dfr []) := h9
          simp only [h9', Option.isNone_some, Bool.or_false] at h99
          exact h99, fun D hD => hD⟩) (fun h9 => by rw [hlk]; split <;> first | exact h9 | rfl)
      refine ⟨hdf, ⟨?_, fun i j ci cj b hi hj => hm.inj i j ci cj b (hsub i ci hi).1 (hsub j cj hj).1, fun b hb => ⟨(hm.im b hb).1, fun i c hi => (hm.im b hb).2 i c (hsub i c hi).1⟩, hm.im0, hm.imn,
        fun i c b hi => hm.old i c b (hsub i c hi).1, hm.size, hm.frame, hm.gl, hm.sys⟩, ?_, fun t => ?_⟩
      · intro i c hi
        have := hm.obj i c (hsub i c hi).1
        cases c with
        | box c =>
          obtain ⟨b, cs, t, e1, e2, e3⟩ := this
          exact ⟨b, cs, t, e1, e2, hL.cells' (clearO_at o i _ hc.2.2 hi) e3⟩
        | raw mk sl =>
          obtain ⟨b, tm, e1, e2, ez, e3⟩ := this
          refine ⟨b, tm, e1, e2, ez, fun t => hL.val ?_ (e3 t)⟩
          have hcl : AV.clears (lostB os) (lostB os) sl = true := clearO_at o i _ hc.2.2 hi
          have key : ∀ (sl : List AV) (t : Nat), AV.clears (lostB os) (lostB os) sl = true → AV.clear (lostB os) (lostB os) (sl.getD t .any) = true := by
            intro sl
            induction sl with
            | nil => intro t _; rw [List.getD_nil]; rfl
            | cons x sl ih =>
              intro t h
              simp only [AV.clears, Bool.and_eq_true] at h
              cases t with
              | zero => rw [List.getD_cons_zero]; exact h.1
              | succ t => rw [List.getD_cons_succ]; exact ih t h.2
          exact key sl t hcl
        | row t sh xs => exact this
        | frz t sh xs => exact this
      · -- what was there at the beginning is kept
        have hold : ∀ i c, E.o0 i = some c → i < 900 := fun i c hi => Nat.lt_of_not_le fun hh => by rw [hE i hh] at hi; cases hi
        have hkept : ∀ i c d, E.o0 i = some c → lk s.o i = some d → lk o i = some d := by
          intro i c d hi hd
          cases hmm : memB i os with
          | true => rw [hlk, hmm, if_pos rfl]; exact hd
          | false => have := dropOk_at hmm s.o d hc.1.2 hd; have := hold i c hi; omega
        have hgh : ∀ i, (∃ c, E.o0 i = some c) → (gh (lk s.o) m).off i = (gh (lk o) m).off i ∧ (gh (lk s.o) m).len i = (gh (lk o) m).len i ∧ (gh (lk s.o) m).roff i = (gh (lk o) m).roff i := by
          rintro i ⟨c, hi⟩
          cases hd : lk s.o i with
          | some d =>
            have := hkept i c d hi hd
            simp only [gh, hd, this]; exact ⟨trivial, trivial, trivial⟩
          | none =>
            have : lk o i = none := by
              rw [hlk]; split
              · exact hd
              · rfl
            simp only [gh, hd, this]; exact ⟨trivial, trivial, trivial⟩
        have hex : ∀ {i : Nat}, (∀ c, E.o0 i ≠ some c) → E.o0 i = none := fun {i} h => by
          cases hh : E.o0 i with
          | none => rfl
          | some c => exact absurd hh (h c)
        refine ⟨hl.im, hl.cells, hl.blk, ?_, ?_, ?_⟩
        · intro i p k hb hp
          have hc' : ∃ c, E.o0 i = some c := by
            cases hh : E.o0 i with
            | none => simp [gh, hh] at hp
            | some c => exact ⟨c, rfl⟩
          show (gh (lk o) m).off i p = some k
          rw [← (hgh i hc').1]
          exact hl.off i p k hb hp
        · intro i n hb hp
          have hc' : ∃ c, E.o0 i = some c := by
            cases hh : E.o0 i with
            | none => simp [gh, hh] at hp
            | some c => exact ⟨c, rfl⟩
          show ∃ n', (gh (lk o) m).len i = some n' ∧ n ≤ n' ∧ (n = n' → m i = E.m0 i)
          rw [← (hgh i hc').2.1]
          exact hl.len i n hb hp
        · intro i j p k hb hp
          have hc' : ∃ c, E.o0 i = some c := by
            cases hh : E.o0 i with
            | none => simp [gh, hh] at hp
            | some c => exact ⟨c, rfl⟩
          show (gh (lk o) m).roff i j p = some k
          rw [← (hgh i hc').2.2]
          exact hl.roff i j p k hb hp
      · refine hL.val (clearT_at _ t hc.2.1) ?_
        simp only [S.sf]
        have := pickT_at s.t t ts
        simp only [at', this]
        split
        · rename_i x hx
          split at hx
          · cases hx; exact ht t
          · cases hx
        · simp only [AV.val]
    · cases h

/-! A row that is written no more. -/
theorem NX.freeze {s : S} (i : Nat) {t : TypeId} {sh : Sh} {xs : List D} {K : Act → World → Prop} (h : lk s.o i = some (.row t sh xs)) (k : NX C E N ⟨s.t, (i, .frz t sh xs) :: s.o⟩ K) : NX C E N s K := by
  rintro a w ⟨hE, h1, m, I, h2, hm, hl, ht⟩
  obtain ⟨I', g1, g2⟩ := freeze_mem hm h
  refine k a w ⟨hE, h1, m, I', ?_⟩
  simp only [S.sf, lk_cons]
  exact ⟨h2.on rfl (fun h9 => ⟨by
    rw [upd_other]
    · exact h9
    · rintro rfl
      have h9' : lk s.o 998 = some (.raw dfr []) := h9
      rw [h] at h9'
      exact absurd h9' (by simp), fun D hD => hD⟩) (fun h9 => by
    rw [upd_other]
    · exact h9
    · rintro rfl
      have h9' : lk s.o 998 = none := h9
      rw [h] at h9'
      exact absurd h9' (by simp)), g1, hl.trans g2, fun t => g2.val (AV.clear_none _) (ht t)⟩

/-- What is said of the state may be said in other words. -/
theorem NX.eq {s : S} (s' : S) {K : Act → World → Prop} (h : s = s') (k : NX C E N s' K) : NX C E N s K := h ▸ k

/-- No slice is longer than 'lim'. -/
theorem NX.lim {s : S} (i : Nat) {sh : Sh} {xs : List D} {K : Act → World → Prop} (h : at' s.t i = .d (.sl sh xs)) (k : xs.length ≤ lim → NX C E N s K) : NX C E N s K := by
  intro a w hs
  refine k ?_ a w hs
  obtain ⟨_, _, m, I, _, _, _, ht⟩ := hs
  have := ht i
  simp only [S.sf] at this
  rw [h] at this
  rw [val_sl] at this
  obtain ⟨_, _, _, _, h2, _⟩ := this
  exact h2
end
end Go.Sep
