/- Code: what it does from a state; functions. -/
import Derived.Test.YtkchimbalpiilaaGreatSepP
import Derived.Laws.Sem
set_option linter.all false
set_option linter.deprecated false
namespace Go.Sep
open Go

/-- A state holds. -/
def St (C : Cx) (E : En) (N : Nat) (s : S) (a : Act) (w : World) : Prop := (∀ i, 900 ≤ i → E.o0 i = none) ∧ Rel C E N s.sf a w

def NX (C : Cx) (E : En) (N : Nat) (s : S) (K : Act → World → Prop) : Prop := ∀ a w, St C E N s a w → K a w

abbrev CD (C : Cx) (E : En) (N : Nat) (c : Code) (s : S) (Q : Exit → Act → World → Prop) : Prop := NX C E N s (c.wpIn (fen E.rd) 0 C.P Q)

section
variable {C : Cx} {E : En} {N : Nat}

/-! The world's count of draws is nowhere asked. -/
theorem ownsRow_drew {w : World} {n e t : Nat} {v : Value} {k : Nat} {vs : List Value} (d : Nat) (h : w.ownsRow n t e v k vs) : ({ w with drawn := d } : World).ownsRow n t e v k vs := h

theorem rel_drew {f : SF} {a : Act} {w : World} (d : Nat) (h : Rel C E N f a w) : Rel C E N f a { w with drawn := d } := by
  obtain ⟨h1, m, I, h2, hm, hl, ht⟩ := h
  have hc : ∀ (b k : Nat) (v : Value), I b → w.cell? ⟨b, k, none⟩ = some v → ({ w with drawn := d } : World).cell? ⟨b, k, none⟩ = some v := fun b k v _ h => h
  have hL : Later f.o m I w f.o m I { w with drawn := d } bad0 :=
    ⟨fun _ h => h, hc, fun _ _ _ h _ => h, fun _ _ _ _ h => h, fun _ n _ h => ⟨n, h, Nat.le_refl _, fun _ => rfl⟩, fun _ _ _ _ _ h => h⟩
  refine ⟨h1, m, I, h2, ⟨?_, hm.inj, hm.im, hm.im0, hm.imn, hm.old, hm.size, hm.frame, ?_, hm.sys⟩, hl.trans hL, fun t => hL.val (AV.clear_none _) (ht t)⟩
  · intro i c hi
    have := hm.obj i c hi
    cases c with
    | box c => obtain ⟨b, cs, t, e1, e2, e3⟩ := this; exact ⟨b, cs, t, e1, e2, hL.cells' (AV.clear_none _) e3⟩
    | raw mk sl => obtain ⟨b, tm, e1, e2, ez, e3⟩ := this; exact ⟨b, tm, e1, e2, ez, fun t => hL.val (AV.clear_none _) (e3 t)⟩
    | row t sh xs => obtain ⟨e1, vs, e2, e3⟩ := this; exact ⟨e1, vs, ownsRow_drew d e2, D.cellsL_mono hL.im hL.cells sh xs vs e3⟩
    | frz t sh xs => obtain ⟨e1, ⟨vs, e2, e3⟩, e4⟩ := this; exact ⟨e1, ⟨vs, ownsRow_drew d e2, D.cellsL_mono hL.im hL.cells sh xs vs e3⟩, e4⟩
  · intro g x hg
    obtain ⟨e1, vs, e2, e3⟩ := hm.gl g x hg
    exact ⟨e1, vs, e2, hL.dcells e3⟩

/-! Regions. -/
def keysOf {α : Type} : List (Nat × α) → List Nat
  | [] => []
  | (k, _) :: l => k :: keysOf l

/-- The written slots that are kept; what is written and not kept must not be in the state before. -/
def pickT (t : List (Nat × AV)) : List Nat → List (Nat × AV)
  | [] => []
  | k :: l => (k, at' t k) :: pickT t l
/-- Does the longer list say of every slot what the kept ones and the state before say, or more? -/
def sameT (t0 : List (Nat × AV)) (ks : List Nat) : List Nat → Bool
  | [] => true
  | d :: l => (memB d ks || (match lk t0 d with
    | none => true
    | some _ => false)) && sameT t0 ks l

def dsts : List Oper → List Nat
  | [] => []
  | o :: l => match o.dst with
    | some d => d :: dsts l
    | none => dsts l

/-- Slots of t that are of interest: 'dt' first, then those before. -/
theorem pickT_at (t : List (Nat × AV)) (k : Nat) : ∀ (l : List Nat), lk (pickT t l) k = if memB k l then some (at' t k) else none
  | [] => rfl
  | a :: l => by
    simp only [pickT, lk, memB]
    by_cases h : a = k
    · subst h; simp
    · simp only [beq_false h, Bool.false_eq_true, if_false, Bool.false_or]
      exact pickT_at t k l

theorem lk_append {α : Type} (a b : List (Nat × α)) (k : Nat) : lk (a ++ b) k = match lk a k with
    | some x => some x
    | none => lk b k := by
  induction a with
  | nil => rfl
  | cons x a ih =>
    obtain ⟨i, x⟩ := x
    simp only [List.cons_append, lk]
    split
    · rfl
    · exact ih

theorem sameT_at {t0 : List (Nat × AV)} {ks : List Nat} {d : Nat} : ∀ {l : List Nat}, sameT t0 ks l = true → d ∈ l → memB d ks = true ∨ lk t0 d = none
  | [], _, h => by cases h
  | a :: l, hs, h => by
    simp only [sameT, Bool.and_eq_true, Bool.or_eq_true] at hs
    cases h with
    | head =>
      rcases hs.1 with h | h
      · exact .inl h
      · right
        cases hh : lk t0 d with
        | none => rfl
        | some x => rw [hh] at h; cases h
    | tail _ h => exact sameT_at hs.2 h

/-- A slot that no operation writes is as before. -/
theorem goT_t {ops : List Oper} {hs : List (Nat × RH)} {k : Nat} : ∀ (l : List Oper) (i : Nat) (s s' : S) (ps : List Prop), goT C N ops hs i l s = some (s', ps) → k ∉ dsts l → at' s'.t k = at' s.t k
  | [], i, s, s', ps, h, _ => by
    simp only [goT, Option.some.injEq, Prod.mk.injEq] at h
    rw [h.1]
  | o :: l, i, s, s', ps, h, hk => by
    simp only [goT] at h
    split at h
    · cases h
    · split at h
      · cases h
      · rename_i s1 p2 h2
        simp only [Option.some.injEq, Prod.mk.injEq] at h
        obtain ⟨rfl, _⟩ := h
        simp only [dsts] at hk
        cases hd : o.dst with
        | none =>
          rw [hd] at hk
          rw [goT_t l _ _ _ _ h2 hk]
          simp only [appS, hd, consT]
        | some d =>
          rw [hd] at hk
          simp only [List.mem_cons, not_or] at hk
          rw [goT_t l _ _ _ _ h2 hk.2]
          simp only [appS, hd, consT, at_cons, upd_other _ _ hk.1]

theorem goD_t {ops : List Oper} {hs : List (Nat × RH)} {k : Nat} : ∀ (l : List Oper) (i : Nat) (s s' : S) (its : List Item) (ps : List Prop), goD C N ops hs i l s = some (its, s', ps) → k ∉ dsts l → at' s'.t k = at' s.t k
  | [], i, s, s', its, ps, h, _ => by
    simp only [goD, Option.some.injEq, Prod.mk.injEq] at h
    rw [h.2.1]
  | o :: l, i, s, s', its, ps, h, hk => by
    simp only [goD] at h
    split at h
    · cases h
    · split at h
      · split at h
        · cases h
        · rename_i its' s1 p2 h2
          simp only [Option.some.injEq, Prod.mk.injEq] at h
          obtain ⟨_, rfl, _⟩ := h
          simp only [dsts] at hk
          cases hd : o.dst with
          | none =>
            rw [hd] at hk
            rw [goD_t l _ _ _ _ _ h2 hk]
            simp only [appS, hd, consT]
          | some d =>
            rw [hd] at hk
            simp only [List.mem_cons, not_or] at hk
            rw [goD_t l _ _ _ _ _ h2 hk.2]
            simp only [appS, hd, consT, at_cons, upd_other _ _ hk.1]
      · cases h

/-- The objects that were written, the last value first: a list before which nothing is lost. -/
def newO (n : Nat) (o : List (Nat × Ob)) : List (Nat × Ob) := o.take (o.length - n)

def dedup (seen : List Nat) : List Nat → List Nat
  | [] => []
  | a :: l => if memB a seen then dedup seen l else a :: dedup (a :: seen) l

/-- Of written objects, each once. -/
def lastO (seen : List Nat) : List (Nat × Ob) → List (Nat × Ob)
  | [] => []
  | (i, c) :: l => if memB i seen then lastO seen l else (i, c) :: lastO (i :: seen) l

theorem lastO_lk (k : Nat) : ∀ (l : List (Nat × Ob)) (seen : List Nat), lk (lastO seen l) k = if memB k seen then none else lk l k
  | [], seen => by simp [lastO, lk]
  | (i, c) :: l, seen => by
    simp only [lastO]
    by_cases hik : i = k
    · subst hik
      cases hm : memB i seen with
      | true => simp only [if_true, lastO_lk i l seen, hm]
      | false => simp [lk]
    · cases hm : memB i seen with
      | true => simp only [if_true, lastO_lk k l seen, lk, beq_false hik, Bool.false_eq_true, if_false]
      | false =>
        simp only [Bool.false_eq_true, if_false, lk, beq_false hik, lastO_lk k l (i :: seen), memB, Bool.false_or]

theorem pushO_pre : ∀ (l o : List (Nat × Ob)), ∃ p, pushO l o = p ++ o
  | [], o => ⟨[], rfl⟩
  | (i, c) :: l, o => by
    obtain ⟨p, hp⟩ := pushO_pre l ((i, c) :: o)
    exact ⟨p ++ [(i, c)], by rw [pushO, hp]; simp⟩

theorem goT_o {ops : List Oper} {hs : List (Nat × RH)} : ∀ (l : List Oper) (i : Nat) (s s' : S) (ps : List Prop), goT C N ops hs i l s = some (s', ps) → ∃ p, s'.o = p ++ s.o
  | [], i, s, s', ps, h => by
    simp only [goT, Option.some.injEq, Prod.mk.injEq] at h
    exact ⟨[], by rw [h.1]; rfl⟩
  | o :: l, i, s, s', ps, h => by
    simp only [goT] at h
    split at h
    · cases h
    · rename_i r _ _
      split at h
      · cases h
      · rename_i s1 p2 h2
        simp only [Option.some.injEq, Prod.mk.injEq] at h
        obtain ⟨rfl, _⟩ := h
        obtain ⟨p, hp⟩ := goT_o l _ _ _ _ h2
        obtain ⟨q, hq⟩ := pushO_pre r.ow s.o
        exact ⟨p ++ q, by rw [hp]; simp only [appS, hq, List.append_assoc]⟩

theorem goD_o {ops : List Oper} {hs : List (Nat × RH)} : ∀ (l : List Oper) (i : Nat) (s s' : S) (its : List Item) (ps : List Prop), goD C N ops hs i l s = some (its, s', ps) → ∃ p, s'.o = p ++ s.o
  | [], i, s, s', its, ps, h => by
    simp only [goD, Option.some.injEq, Prod.mk.injEq] at h
    exact ⟨[], by rw [h.2.1]; rfl⟩
  | o :: l, i, s, s', its, ps, h => by
    simp only [goD] at h
    split at h
    · cases h
    · rename_i r _ _
      split at h
      · split at h
        · cases h
        · rename_i its' s1 p2 h2
          simp only [Option.some.injEq, Prod.mk.injEq] at h
          obtain ⟨_, rfl, _⟩ := h
          obtain ⟨p, hp⟩ := goD_o l _ _ _ _ _ h2
          obtain ⟨q, hq⟩ := pushO_pre r.ow s.o
          exact ⟨p ++ q, by rw [hp]; simp only [appS, hq, List.append_assoc]⟩
      · cases h

/-- What a region does. -/
def regC (C : Cx) (N : Nat) (dr : Bool) (ops : List Oper) (hs : List (Nat × RH)) (s : S) (ks : List Nat) : Option (List (Nat × AV) × List (Nat × Ob) × List Prop) :=
  match dr with
  | false => match goT C N ops hs 0 ops s with
    | none => none
    | some (s', ps) => if sameT s.t ks (dsts ops) then some (pickT s'.t ks, lastO [] (newO s.o.length s'.o), ps) else none
  | true => match goD C N ops hs 0 ops s with
    | none => none
    | some (its, s', ps) => if sameT s.t ks (dsts ops) && ordOk ops its then some (pickT s'.t ks, lastO [] (newO s.o.length s'.o), ps) else none

/-- Less is said. -/
theorem rel_less {f g : SF} {a : Act} {w : World} (ho : f.o = g.o) (ht : ∀ t, g.t t = f.t t ∨ g.t t = .any) (h : Rel C E N f a w) : Rel C E N g a w := by
  obtain ⟨h1, m, I, h2, h3, h4, h5⟩ := h
  rw [ho] at h2 h3 h4 h5
  refine ⟨h1, m, I, h2, h3, h4, fun t => ?_⟩
  rcases ht t with h | h
  · rw [h]; exact h5 t
  · rw [h]; simp only [AV.val]

theorem reg_rel {s s' : S} {ks : List Nat} {ops : List Oper} (ht : ∀ k, k ∉ dsts ops → at' s'.t k = at' s.t k) (ho : ∃ p, s'.o = p ++ s.o) (hs : sameT s.t ks (dsts ops) = true)
    {a : Act} {w : World} (h : Rel C E N s'.sf a w) : Rel C E N (S.sf ⟨pickT s'.t ks ++ s.t, lastO [] (newO s.o.length s'.o) ++ s.o⟩) a w := by
  refine rel_less ?_ ?_ h
  · obtain ⟨p, hp⟩ := ho
    funext k
    simp only [S.sf, lk_append, lastO_lk, memB, Bool.false_eq_true, if_false, newO, hp]
    simp
  · intro k
    simp only [S.sf]
    by_cases hm : memB k ks = true
    · left
      simp only [at', lk_append, pickT_at, hm, if_true]
    · have hm' : memB k ks = false := by simpa using hm
      have e : at' (pickT s'.t ks ++ s.t) k = at' s.t k := by
        simp only [at', lk_append, pickT_at, hm', Bool.false_eq_true, if_false]
      rw [e]
      by_cases hk : k ∈ dsts ops
      · rcases sameT_at hs hk with h | h
        · exact absurd h hm
        · right; simp only [at', h]
      · left; rw [ht k hk]

variable {Q : Exit → Act → World → Prop}
/-- A REGION: from s, by the hints, to the slots dt and the objects od on top of those of s. -/
theorem CD.reg (hmix : C.P.follows .mixedOrders = true) {s : S} {id : Nat} {ops : Array Oper} {dr : Bool} (hs : List (Nat × RH)) (dt : List (Nat × AV)) (od : List (Nat × Ob)) {ps : List Prop} (hp : All ps)
    (h : regC C N dr ops.toList hs s (keysOf dt) = some (dt, od, ps)) (k : NX C E N ⟨dt ++ s.t, od ++ s.o⟩ (Q .normal)) : CD C E N (.region id ops dr) s Q := by
  rintro a w ⟨hE, hR⟩
  unfold regC at h
  cases dr with
  | false =>
    simp only at h
    split at h
    · cases h
    · rename_i s' ps' hgo
      split at h
      · rename_i hsame
        simp only [Option.some.injEq, Prod.mk.injEq] at h
        obtain ⟨h1, h2, rfl⟩ := h
        apply wpIn_region
        rw [List.range_eq_range', ← Array.length_toList]
        refine goT_wp ops.toList 0 s s' ps' a w (by simp) hgo hp hR (fun a' w' hR' => k a' w' ⟨hE, ?_⟩)
        have := reg_rel (fun k hk => goT_t _ _ _ _ _ hgo hk) (goT_o _ _ _ _ _ hgo) hsame hR'
        rw [h1, h2] at this
        exact this
      · cases h
  | true =>
    simp only at h
    split at h
    · cases h
    · rename_i its s' ps' hgo
      split at h
      · rename_i hc
        simp only [Bool.and_eq_true] at hc
        simp only [Option.some.injEq, Prod.mk.injEq] at h
        obtain ⟨h1, h2, rfl⟩ := h
        apply wpIn_region_any hmix
        have hz : ∀ j, Lof (Array.replicate ops.size false) j = false := by
          intro j
          unfold Lof
          by_cases hj : j < ops.size <;> simp [Array.getD_eq_getD_getElem?, hj]
        refine any_wp (E := E) hgo hp hc.2 (fun a' w' hR' => k a' w' ⟨hE, ?_⟩) ops.size _ a _ (by simp) (fun j m _ hL => by rw [hz] at hL; cases hL) ?_ ?_
        · have := reg_rel (fun k hk => goD_t _ _ _ _ _ _ hgo hk) (goD_o _ _ _ _ _ _ hgo) hc.1 hR'
          rw [h1, h2] at this
          exact this
        · have : ∀ (L : Nat → Bool) n, left L n ≤ n := by
            intro L n
            induction n with
            | zero => simp [left]
            | succ n ih => simp only [left]; split <;> omega
          exact this _ _
        · have e : stL (Lof (Array.replicate ops.size false)) 0 its s.sf = s.sf := by
            rw [stL_runs its 0 0 s.sf (fun j => by rw [hz]; simp)]
            simp [runs]
          rw [e]
          exact rel_drew _ hR
      · cases h

theorem CD.seq {x y : Code} {s : S} (h : CD C E N x s (Exit.then (y.wpIn (fen E.rd) 0 C.P Q) Q)) : CD C E N (.seq x y) s Q := fun a w hs => wpIn_seq (h a w hs)

theorem CD.skip {s : S} (h : NX C E N s (Q .normal)) : CD C E N .skip s Q := fun a w hs => wpIn_skip (h a w hs)
theorem CD.exit {s : S} {id : Nat} (h : NX C E N s (Q (.exit id))) : CD C E N (.exit id) s Q := fun a w hs => wpIn_exit (h a w hs)
theorem CD.ret {s : S} (h : NX C E N s (Q .ret)) : CD C E N .ret s Q := fun a w hs => wpIn_ret (h a w hs)
theorem CD.block {id : Nat} {c : Code} {s : S} (h : CD C E N c s (Exit.inBlock id Q)) : CD C E N (.block id c) s Q := fun a w hs => wpIn_block (h a w hs)

theorem cond_eval {s : S} {c : Operand} {b : Bool} (hc : evA C (at' s.t) 0 c = some (.d (.bool b))) {a : Act} {w : World} (hs : St C E N s a w) : a.eval c = .bool b := by
  obtain ⟨_, _, m, I, _, hm, _, ht⟩ := hs
  exact val_bool.1 (evA_val hm ht hc)

theorem CD.cond {s : S} {c : Operand} {x y : Code} {b : Bool} (hc : evA C (at' s.t) 0 c = some (.d (.bool b))) (ht : b = true → CD C E N x s Q) (hf : b = false → CD C E N y s Q) : CD C E N (.cond c x y) s Q :=
  fun a w hs => wpIn_cond_split (cond_eval hc hs) (fun h => ht h a w hs) (fun h => hf h a w hs)

end
end Go.Sep
