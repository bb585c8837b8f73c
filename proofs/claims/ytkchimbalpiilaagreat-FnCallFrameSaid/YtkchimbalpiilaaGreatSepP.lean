/- Regions whose operations come in any order that is allowed: the theorem. -/
import Derived.Test.YtkchimbalpiilaaGreatSepO
set_option linter.all false
set_option linter.deprecated false
namespace Go.Sep
open Go

/-! What must come before an operation, as a mask. -/
def maskE (acc : List Nat) : List Edge → Nat
  | [] => 0
  | e :: l => if Region.binds .any e then (2 ^ e.on ||| acc.getD e.on 0) ||| maskE acc l else maskE acc l

def ancs : List Oper → List Nat → List Nat
  | [], acc => acc
  | o :: l, acc => ancs l (acc ++ [maskE acc o.after.toList])

theorem ancs_at : ∀ (l : List Oper) (acc : List Nat), ∃ r, ancs l acc = acc ++ r ∧ r.length = l.length ∧ ∀ (j : Nat) o, l[j]? = some o → r[j]? = some (maskE (acc ++ r.take j) o.after.toList)
  | [], acc => ⟨[], by simp [ancs], rfl, fun j o h => by simp at h⟩
  | o :: l, acc => by
    obtain ⟨r, h1, h2, h3⟩ := ancs_at l (acc ++ [maskE acc o.after.toList])
    refine ⟨maskE acc o.after.toList :: r, by simp [ancs, h1], by simp [h2], fun j o' h => ?_⟩
    cases j with
    | zero => simp only [List.getElem?_cons_zero, Option.some.injEq] at h; subst h; simp
    | succ j =>
      have := h3 j o' (by simpa using h)
      simp only [List.getElem?_cons_succ, List.take_succ_cons]
      rw [this]
      simp

theorem maskE_bit {acc : List Nat} {k : Nat} : ∀ (l : List Edge), (maskE acc l).testBit k = true → ∃ e ∈ l, Region.binds .any e = true ∧ (e.on = k ∨ ∃ m, acc[e.on]? = some m ∧ m.testBit k = true)
  | [], h => by simp [maskE] at h
  | e :: l, h => by
    simp only [maskE] at h
    split at h
    · rename_i hb
      rw [Nat.testBit_or, Bool.or_eq_true, Nat.testBit_or, Bool.or_eq_true] at h
      rcases h with (h | h) | h
      · rw [Nat.testBit_two_pow] at h
        exact ⟨e, by simp, hb, .inl (by simpa using h)⟩
      · rw [List.getD_eq_getElem?_getD] at h
        cases hm : acc[e.on]? with
        | none => rw [hm] at h; simp at h
        | some m => rw [hm] at h; exact ⟨e, by simp, hb, .inr ⟨m, hm, h⟩⟩
      · obtain ⟨e', h1, h2⟩ := maskE_bit l h
        exact ⟨e', by simp [h1], h2⟩
    · obtain ⟨e', h1, h2⟩ := maskE_bit l h
      exact ⟨e', by simp [h1], h2⟩

/-- Bit i of m, by arithmetic alone. -/
def bitB (m i : Nat) : Bool := Nat.beq ((m / 2 ^ i) % 2) 1

theorem bitB_eq (m i : Nat) (h : bitB m i = true) : m.testBit i = true := by
  rw [Nat.testBit_eq_decide_div_mod_eq]
  simpa [bitB] using h

def okP (its : List Item) (A : List Nat) (i j : Nat) : Bool :=
  match its[i]?, its[j]?, A[j]? with
  | some x, some y, some m => bitB m i || x.apart y
  | _, _, _ => false

def downB (i : Nat) : List Edge → Bool
  | [] => true
  | e :: l => (!(Region.binds .any e) || Nat.blt e.on i) && downB i l

def downAll : Nat → List Oper → Bool
  | _, [] => true
  | i, o :: l => downB i o.after.toList && downAll (i + 1) l

def allLt (p : Nat → Bool) : Nat → Bool
  | 0 => true
  | n + 1 => p n && allLt p n

theorem allLt_at {p : Nat → Bool} : ∀ {n : Nat}, allLt p n = true → ∀ i, i < n → p i = true
  | 0, _, i, h => by omega
  | n + 1, hp, i, h => by
    simp only [allLt, Bool.and_eq_true] at hp
    by_cases hi : i = n
    · subst hi; exact hp.1
    · exact allLt_at hp.2 i (by omega)

def ordOk (ops : List Oper) (its : List Item) : Bool :=
  match ancs ops [] with
  | A => downAll 0 ops && allLt (fun j => allLt (fun i => okP its A i j) j) ops.length

theorem downB_at {i : Nat} : ∀ (l : List Edge), downB i l = true → ∀ e ∈ l, Region.binds .any e = true → e.on < i
  | [], _, e, h, _ => by cases h
  | x :: l, hd, e, h, hb => by
    simp only [downB, Bool.and_eq_true, Bool.or_eq_true, Bool.not_eq_true'] at hd
    cases h with
    | head =>
      rcases hd.1 with h | h
      · rw [hb] at h; cases h
      · simpa [Nat.blt_eq] using h
    | tail _ h => exact downB_at l hd.2 e h hb

theorem downAll_at : ∀ (l : List Oper) (i : Nat), downAll i l = true → ∀ j o, l[j]? = some o → ∀ e ∈ o.after, Region.binds .any e = true → e.on < i + j
  | [], i, _, j, o, h => by simp at h
  | x :: l, i, hd, j, o, h => by
    simp only [downAll, Bool.and_eq_true] at hd
    cases j with
    | zero =>
      simp only [List.getElem?_cons_zero, Option.some.injEq] at h
      subst h
      intro e he hb
      exact downB_at _ hd.1 e (by simpa using he) hb
    | succ j =>
      intro e he hb
      have := downAll_at l (i + 1) hd.2 j o (by simpa using h) e he hb
      omega

section
variable {C : Cx} {E : En} {N : Nat} {ops : Array Oper}

def slotsOf (ops : List Oper) (o : Oper) : List Nat :=
  tmpsOf o.op.operands.toList ++ (match o.guard with
   | some (g, _) => match ops[g]? with
      | some og => match og.dst with
        | some d => [d]
        | none => []
      | none => []
   | none => [])
where tmpsOf : List Operand → List Nat
  | [] => []
  | .tmp t :: l => t :: tmpsOf l
  | _ :: l => tmpsOf l

def restrT (keys : List Nat) (t : List (Nat × AV)) : Nat → AV := fun k => if memB k keys then at' t k else .any
def restrO (keys : List Nat) (o : List (Nat × Ob)) : Nat → Option Ob := fun k => if memB k keys then lk o k else none

/-- The text's run, where each operation sees only what it reads. -/
def goD (C : Cx) (N : Nat) (ops : List Oper) (hs : List (Nat × RH)) : Nat → List Oper → S → Option (List Item × S × List Prop)
  | _, [], s => some ([], s, [])
  | i, o :: l, s => match stepR C N ops (restrT (slotsOf ops o) s.t) (restrO (hintAt hs i).rd s.o) o (hintAt hs i) with
    | none => none
    | some (r, ps) => if allNone (lk s.o) r.fr then match goD C N ops hs (i + 1) l (appS o r s) with
        | none => none
        | some (its, s', qs) => some (⟨o, r, slotsOf ops o, (hintAt hs i).rd ++ r.fr⟩ :: its, s', ps ++ qs)
      else none

theorem goD_at {ops : List Oper} {hs : List (Nat × RH)} : ∀ (l : List Oper) (i : Nat) (s s' : S) (its : List Item) (ps : List Prop), goD C N ops hs i l s = some (its, s', ps) → All ps →
    its.length = l.length ∧ s'.sf = runs its s.sf ∧ ∀ j o, l[j]? = some o → ∃ x p S1, its[j]? = some x ∧ x.o = o ∧ All p ∧ x.rt = slotsOf ops o ∧ x.ro = (hintAt hs (i + j)).rd ++ x.r.fr ∧
      S.sf S1 = runs (its.take j) s.sf ∧ stepR C N ops (restrT (slotsOf ops o) S1.t) (restrO (hintAt hs (i + j)).rd S1.o) o (hintAt hs (i + j)) = some (x.r, p) ∧ ∀ b ∈ x.r.fr, S1.sf.o b = none
  | [], i, s, s', its, ps, h, _ => by
    simp only [goD, Option.some.injEq, Prod.mk.injEq] at h
    obtain ⟨rfl, rfl, _⟩ := h
    exact ⟨rfl, rfl, fun j o h => by simp at h⟩
  | o :: l, i, s, s', its, ps, h, hp => by
    simp only [goD] at h
    split at h
    · cases h
    · rename_i r p1 h1
      split at h
      · rename_i hfr
        split at h
        · cases h
        · rename_i its' s1 p2 h2
          simp only [Option.some.injEq, Prod.mk.injEq] at h
          obtain ⟨rfl, rfl, rfl⟩ := h
          obtain ⟨ha, hb⟩ := all_app _ _ hp
          obtain ⟨e1, e2, e3⟩ := goD_at l (i + 1) (appS o r s) s1 its' p2 h2 hb
          refine ⟨by simp [e1], by rw [e2, appS_sf]; rfl, fun j o' hj => ?_⟩
          cases j with
          | zero =>
            simp only [List.getElem?_cons_zero, Option.some.injEq] at hj
            subst hj
            exact ⟨_, p1, s, rfl, rfl, ha, rfl, rfl, rfl, h1, allNone_at _ hfr⟩
          | succ j =>
            obtain ⟨x, p, S1, g1, g2, g3, g4, g5, g6, g7, g8⟩ := e3 j o' (by simpa using hj)
            have hij : i + 1 + j = i + (j + 1) := by omega
            rw [hij] at g5 g7
            refine ⟨x, p, S1, by simpa using g1, g2, g3, g4, g5, ?_, g7, g8⟩
            rw [g6, appS_sf]
            rfl
      · cases h

def Lof (listed : Array Bool) : Nat → Bool := fun j => listed.getD j false

theorem getD_lt {listed : Array Bool} {j : Nat} (h : j < listed.size) (d d' : Bool) : listed.getD j d = listed.getD j d' := by
  simp [Array.getD_eq_getD_getElem?, h]

theorem Lof_set {listed : Array Bool} {i : Nat} (h : i < listed.size) (j : Nat) : Lof (listed.setIfInBounds i true) j = if j = i then true else Lof listed j := by
  unfold Lof
  by_cases hj : j = i
  · subst hj; simp [Array.getD_eq_getD_getElem?, h]
  · simp [Array.getD_eq_getD_getElem?, Array.getElem?_setIfInBounds_ne (Ne.symm hj), hj]

/-- How many are not yet listed. -/
def left (L : Nat → Bool) : Nat → Nat
  | 0 => 0
  | n + 1 => (if L n then 0 else 1) + left L n

theorem left_congr {L L' : Nat → Bool} : ∀ {n : Nat}, (∀ j, j < n → L j = L' j) → left L n = left L' n
  | 0, _ => rfl
  | n + 1, h => by simp only [left]; rw [h n (by omega), left_congr (fun j hj => h j (by omega))]

theorem left_set {L L' : Nat → Bool} {i : Nat} (h0 : L i = false) (h1 : L' i = true) (he : ∀ k, k ≠ i → L' k = L k) : ∀ {n : Nat}, i < n → left L n = left L' n + 1
  | 0, h => by omega
  | n + 1, h => by
    simp only [left]
    by_cases hi : i = n
    · subst hi
      rw [h0, h1, left_congr (L := L') (L' := L) (fun j hj => he j (by omega))]
      simp; omega
    · rw [he n (fun e => hi e.symm), left_set h0 h1 he (n := n) (by omega)]
      omega

theorem left_zero {L : Nat → Bool} : ∀ {n : Nat}, left L n = 0 → ∀ j, j < n → L j = true
  | 0, _, j, h => by omega
  | n + 1, hl, j, h => by
    simp only [left] at hl
    by_cases hj : j = n
    · subst hj
      cases hL : L j with
      | true => rfl
      | false => rw [hL] at hl; simp at hl
    · exact left_zero (n := n) (by omega) j (by omega)

theorem ready_nil {listed : Array Bool} (hsz : listed.size = ops.size) (hd : downAll 0 ops.toList = true) (h : Region.ready .any ops listed = []) : ∀ j, j < ops.size → Lof listed j = true := by
  intro j
  induction j using Nat.strongRecOn with
  | _ j ih =>
    intro hj
    cases hL : Lof listed j with
    | true => rfl
    | false =>
      have : j ∈ Region.ready .any ops listed := by
        rw [mem_ready]
        refine ⟨?_, ops[j], by simp [hj], fun e he hb => ?_⟩
        · rw [getD_lt (by omega) true false]; exact hL
        · have := downAll_at _ 0 hd j ops[j] (by simp [hj]) e he hb
          exact ih e.on (by omega) (by omega)
      rw [h] at this
      cases this

theorem any_wp {rd : Option Nat} {hs : List (Nat × RH)} {Q : Exit → Act → World → Prop} {s s' : S} {its : List Item} {ps : List Prop} (hgo : goD C N ops.toList hs 0 ops.toList s = some (its, s', ps)) (hp : All ps)
    (hord : ordOk ops.toList its = true) (hQ : ∀ a' w', Rel C E N s'.sf a' w' → Q .normal a' w') : ∀ (fuel : Nat) (listed : Array Bool) (a : Act) (w : World), listed.size = ops.size →
    (∀ (j m : Nat), (ancs ops.toList [])[j]? = some m → Lof listed j = true → ∀ k, m.testBit k = true → Lof listed k = true) → left (Lof listed) ops.size ≤ fuel →
    Rel C E N (stL (Lof listed) 0 its s.sf) a w → wpAnyIn (fen rd) 0 C.P .any ops Q fuel listed a w := by
  obtain ⟨hlen, hfin, hat⟩ := goD_at _ _ _ _ _ _ hgo hp
  simp only [Array.length_toList] at hlen
  unfold ordOk at hord
  simp only [Bool.and_eq_true] at hord
  obtain ⟨hdown, hpairs⟩ := hord
  obtain ⟨A, hA, hAlen, hAat⟩ := ancs_at ops.toList []
  simp only [List.nil_append, Array.length_toList] at hA hAlen hAat
  rw [hA] at hpairs ⊢
  have pair : ∀ (i j : Nat) (x y : Item), i < j → its[i]? = some x → its[j]? = some y → (∃ m : Nat, A[j]? = some m ∧ m.testBit i = true) ∨ x.apart y = true := by
    intro i j x y hij hx hy
    have hj : j < ops.size := by
      have := (List.getElem?_eq_some_iff.1 hy).1
      omega
    have := allLt_at (allLt_at hpairs j (by simpa using hj)) i hij
    unfold okP at this
    rw [hx, hy] at this
    cases hm : A[j]? with
    | none => rw [hm] at this; cases this
    | some m =>
      rw [hm] at this
      simp only [Bool.or_eq_true] at this
      rcases this with h | h
      · exact .inl ⟨m, rfl, bitB_eq m i h⟩
      · exact .inr h
  have fin : ∀ (listed : Array Bool) a w, (∀ j, j < ops.size → Lof listed j = true) → Rel C E N (stL (Lof listed) 0 its s.sf) a w → Q .normal a w := by
    intro listed a w hall hR
    refine hQ a w ?_
    rw [hfin]
    rw [stL_congr (L' := fun j => decide (j < its.length)) its 0 s.sf (fun j hj => by rw [hall _ (by omega)]; simp [hj]), stL_runs its 0 its.length s.sf (fun j => by simp), List.take_length] at hR
    exact hR
  intro fuel
  induction fuel with
  | zero =>
    intro listed a w hsz hcl hleft hR
    have hall := left_zero (L := Lof listed) (n := ops.size) (by omega)
    refine ⟨?_, fin listed a w hall hR⟩
    cases hr : Region.ready .any ops listed with
    | nil => rfl
    | cons x xs =>
      have hx : x ∈ Region.ready .any ops listed := by rw [hr]; simp
      obtain ⟨h0, o, ho, _⟩ := mem_ready.1 hx
      have hxl : x < ops.size := (Array.getElem?_eq_some_iff.1 ho).1
      have := hall x hxl
      unfold Lof at this
      rw [getD_lt (by omega) true false] at h0
      rw [h0] at this
      cases this
  | succ fuel ih =>
    intro listed a w hsz hcl hleft hR
    refine ⟨fun hr => fin listed a w (ready_nil hsz hdown hr) hR, fun i hi => ?_⟩
    obtain ⟨h0, o, ho, hedges⟩ := mem_ready.1 hi
    have hil : i < ops.size := (Array.getElem?_eq_some_iff.1 ho).1
    have hLi : Lof listed i = false := by unfold Lof; rw [getD_lt (by omega) false true]; exact h0
    obtain ⟨x, p, S1, g1, g2, g3, g4, g5, g6, g7, g8⟩ := hat i o (by simpa using ho)
    simp only [Nat.zero_add] at g5 g7
    -- what must come before i has come
    have hanc : ∀ m, A[i]? = some m → ∀ k, m.testBit k = true → Lof listed k = true := by
      intro m hm k hk
      have h1 := hAat i o (by simpa using ho)
      rw [hm] at h1
      cases h1
      obtain ⟨e, he, hb, hk'⟩ := maskE_bit _ hk
      have hle : Lof listed e.on = true := hedges e (by simpa using he) hb
      rcases hk' with rfl | ⟨m', hm', hbit⟩
      · exact hle
      · have hlt : e.on < i := by
          have := (List.getElem?_eq_some_iff.1 hm').1
          rw [List.length_take] at this
          omega
        refine hcl e.on m' ?_ hle k hbit
        rw [List.getElem?_take_of_lt hlt] at hm'
        exact hm'
    have before : ∀ (j : Nat) (y : Item), j < i → its[j]? = some y → Lof listed j = true ∨ y.apart x = true := by
      intro j y hji hy
      rcases pair j i y x hji hy g1 with ⟨m, hm, hb⟩ | h
      · exact .inl (hanc m hm j hb)
      · exact .inr h
    have later : ∀ (j : Nat) (y : Item), i < j → its[j]? = some y → Lof listed j = false ∨ x.apart y = true := by
      intro j y hij hy
      rcases pair i j x y hij g1 hy with ⟨m, hm, hb⟩ | h
      · left
        cases hL : Lof listed j with
        | false => rfl
        | true => rw [hcl j m hm hL i hb] at hLi; cases hLi
      · exact .inr h
    have sees : ∀ (k : Nat), k ∈ x.rt → (stL (Lof listed) 0 its s.sf).t k = S1.sf.t k := by
      intro k hk
      rw [g6, ← stL_runs (L := fun j => decide (j < i)) its 0 i s.sf (fun j => by simp)]
      refine stL_t its 0 _ _ (fun j y hy hw => ?_) rfl
      simp only [Nat.zero_add]
      by_cases hji : j < i
      · rcases before j y hji hy with h | h
        · rw [h]; simp [hji]
        · exact absurd hk ((Item.apart_spec h).1 k hw)
      · by_cases hj : j = i
        · subst hj; rw [hLi]; simp
        · rcases later j y (by omega) hy with h | h
          · rw [h]; simp [hji]
          · exact absurd hw ((Item.apart_spec h).2.2.1 k hk)
    have seesO : ∀ (k : Nat), k ∈ x.ro → (stL (Lof listed) 0 its s.sf).o k = S1.sf.o k := by
      intro k hk
      rw [g6, ← stL_runs (L := fun j => decide (j < i)) its 0 i s.sf (fun j => by simp)]
      refine stL_o its 0 _ _ (fun j y hy hw => ?_) rfl
      simp only [Nat.zero_add]
      by_cases hji : j < i
      · rcases before j y hji hy with h | h
        · rw [h]; simp [hji]
        · exact absurd hk ((Item.apart_spec h).2.2.2.1 k hw)
      · by_cases hj : j = i
        · subst hj; rw [hLi]; simp
        · rcases later j y (by omega) hy with h | h
          · rw [h]; simp [hji]
          · exact absurd hw ((Item.apart_spec h).2.2.2.2.2 k hk)
    have hset := Lof_set (listed := listed) (i := i) (by omega)
    refine step_op (i := i) ho hR (look := restrT (slotsOf ops.toList o) S1.t) (ol := restrO (hintAt hs i).rd S1.o) (fun t => ?_) (fun b c hbc => ?_) g7 g3 (fun b hb => ?_) (fun a' w' hR' => ?_)
    · unfold restrT
      split
      · rename_i hm
        left
        rw [sees t (by rw [g4]; exact memB_iff.1 hm)]
        rfl
      · exact .inr rfl
    · unfold restrO at hbc
      split at hbc
      · rename_i hm
        rw [seesO b (by rw [g5]; exact List.mem_append_left _ (memB_iff.1 hm))]
        exact hbc
      · cases hbc
    · rw [seesO b (by rw [g5]; exact List.mem_append_right _ hb)]
      exact g8 b hb
    · refine ih (listed.setIfInBounds i true) a' w' (by simpa using hsz) (fun j m hm hL k hk => ?_) ?_ ?_
      · rw [hset] at hL ⊢
        split
        · rfl
        · split at hL
          · rename_i hji
            subst hji
            exact hanc m hm k hk
          · exact hcl j m hm hL k hk
      · have := left_set (L := Lof listed) (L' := Lof (listed.setIfInBounds i true)) (i := i) hLi (by rw [hset]; simp) (fun k hk => by rw [hset, if_neg hk]) (n := ops.size) hil
        omega
      · rw [stL_list (L := Lof listed) (x := x) its 0 i s.sf g1 (by simpa using hLi) (by rw [hset]; simp) (fun k hk => by rw [hset, if_neg (by simpa using hk)]) (fun k y hy hik hL => by
          rcases later k y hik hy with h | h
          · rw [Nat.zero_add] at hL; rw [h] at hL; cases hL
          · exact ⟨(Item.apart_spec h).2.1, (Item.apart_spec h).2.2.2.2.1⟩), g2]
        exact hR'
end
end Go.Sep
