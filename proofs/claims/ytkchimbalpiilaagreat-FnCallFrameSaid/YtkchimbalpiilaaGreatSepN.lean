/- Regions: the operations in the order of the text, or in any order that is allowed. -/
import Derived.Test.YtkchimbalpiilaaGreatSepM
import Derived.OrdersIn
set_option linter.all false
set_option linter.deprecated false
namespace Go.Sep
open Go

/-- A state, as a list of slots and a list of objects. -/
structure S where
  t : List (Nat × AV)
  o : List (Nat × Ob)

def at' (t : List (Nat × AV)) (k : Nat) : AV := match lk t k with
  | some x => x
  | none => .any

def S.sf (s : S) : SF := ⟨at' s.t, lk s.o⟩

/-- What is told of one operation: its hint, what its results are called, and (where any order is allowed) the objects that it reads. -/
structure RH where
  h : Hint
  y : Option (AV × List (Nat × Ob))
  rd : List Nat

def rh0 : RH := ⟨.v .no, none, []⟩

def hintAt (hs : List (Nat × RH)) (i : Nat) : RH := match lk hs i with
  | some h => h
  | none => rh0

def guardD (ops : List Oper) (t : Nat → AV) (o : Oper) : Option Bool :=
  match o.guard with
  | none => some true
  | some (g, want) => match ops[g]? with
    | none => none
    | some og => match og.dst with
      | none => none
      | some d => match t d with
        | .d (.bool b) => some (match b, want with
          | true, true => true
          | false, false => true
          | _, _ => false)
        | .tup [] => some false
        | _ => none

def dstOk (N : Nat) : Option Nat → Bool
  | none => true
  | some d => Nat.blt d N

def allNone (ol : Nat → Option Ob) : List Nat → Bool
  | [] => true
  | i :: l => (match ol i with
    | none => true
    | some _ => false) && allNone ol l

def no998 : List (Nat × Ob) → Bool
  | [] => true
  | (i, _) :: l => !(Nat.beq i 998) && no998 l
theorem ups_998 : ∀ (l : List (Nat × Ob)) (o : Nat → Option Ob), no998 l = true → ups o l 998 = o 998
  | [], _, _ => rfl
  | (i, c) :: l, o, h => by
    simp only [no998, Bool.and_eq_true] at h
    simp only [ups]
    rw [ups_998 l _ h.2, upd_other _ _ (by rintro rfl; simp at h)]

theorem allNone_at {ol : Nat → Option Ob} : ∀ (l : List Nat), allNone ol l = true → ∀ i ∈ l, ol i = none
  | [], _, i, h => by cases h
  | a :: l, hl, i, h => by
    simp only [allNone, Bool.and_eq_true] at hl
    cases h with
    | head =>
      cases hc : ol a with
      | none => rfl
      | some c => rw [hc] at hl; cases hl.1
    | tail _ h => exact allNone_at l hl.2 i h

/-- What an operation writes. -/
structure Rc where
  v : AV
  ow : List (Nat × Ob)
  fr : List Nat

def stepR (C : Cx) (N : Nat) (ops : List Oper) (look : Nat → AV) (ol : Nat → Option Ob) (o : Oper) (rh : RH) : Option (Rc × List Prop) :=
  if dstOk N o.dst then match guardD ops look o with
    | none => none
    | some false => some (⟨.tup [], [], []⟩, [])
    | some true => match stepOp C look ol o rh.h with
      | none => none
      | some (val, ow, p) => match freshOf C look o rh.h with
        | fr => if allNone ol fr && no998 ow then match rh.y with
            | none => some (⟨val, ow, fr⟩, sideL C look ol o rh.h p)
            | some (y, ow') => some (⟨y, ow', fr⟩, [val = y ∧ ow = ow' ∧ p])
          else none
  else none

def putT (t : Nat → AV) (dst : Option Nat) (v : AV) : Nat → AV := match dst with
  | some d => upd t d v
  | none => t

def app (o : Oper) (r : Rc) (f : SF) : SF := ⟨putT f.t o.dst r.v, ups f.o r.ow⟩

section
variable {C : Cx} {E : En} {N : Nat} {f : SF} {a : Act} {w : World} {ops : Array Oper}

theorem getD_put {a : Act} {d : Nat} {v : Value} (hd : d < a.tmps.size) (t : Nat) : (a.put (some d) v).tmps.getD t undef = if t = d then v else a.tmps.getD t undef := by
  simp only [Act.put]
  by_cases h : t = d
  · subst h
    simp [Array.getD_eq_getD_getElem?, hd]
  · simp [Array.getD_eq_getD_getElem?, Array.getElem?_setIfInBounds_ne (Ne.symm h), h]

theorem rel_put {f : SF} {o : Oper} {r : Rc} {v : Value} {w' : World} (hN : a.tmps.size = N) {m : Nat → Value} {I : Nat → Prop} (hdf : DF f.o m a) (hno : no998 r.ow = true) (hd : dstOk N o.dst = true)
    (hl0 : Later E.o0 E.m0 E.I0 E.w0 f.o m I w bad0) (ht : ∀ t, AV.val (gh f.o m) I w (f.t t) (a.tmps.getD t undef))
    (h : Done C E f.o m I w r.v r.ow v w') : Rel C E N (app o r f) (a.put o.dst v) w' := by
  obtain ⟨m', I', h1, h2, h3⟩ := h
  have keep : ∀ t, AV.val (gh (ups f.o r.ow) m') I' w' (f.t t) (a.tmps.getD t undef) := fun t => h2.val (AV.clear_none _) (ht t)
  refine ⟨?_, m', I', hdf.on ?_ (fun h9 => ⟨(ups_998 r.ow f.o hno).trans h9, fun D hD => h2.blk 998 D rfl hD ⟨[], 0, ?_⟩⟩) (fun h9 => (ups_998 r.ow f.o hno).trans h9), h1, hl0.trans h2, ?_⟩
  · cases hdst : o.dst <;> simp [Act.put, hN]
  · cases hdst : o.dst <;> simp [Act.put]
  · simp only [gh, h9]
  · intro t
    cases hdst : o.dst with
    | none => simp only [app, putT, hdst, Act.put]; exact keep t
    | some d =>
      rw [hdst] at hd
      have hlt : d < a.tmps.size := by rw [hN]; simpa [dstOk, Nat.blt_eq] using hd
      rw [getD_put hlt]
      simp only [app, putT, hdst]
      by_cases htd : t = d
      · subst htd; rw [upd_same, if_pos rfl]; exact h3
      · rw [upd_other _ _ htd, if_neg htd]; exact keep t

theorem guardD_ok {look : Nat → AV} {o : Oper} {b : Bool} {G : Gh} {I : Nat → Prop} (ht : ∀ t, AV.val G I w (look t) (a.tmps.getD t undef)) (h : guardD ops.toList look o = some b) :
    Region.wanted o (yielded ops a.tmps) = b := by
  unfold guardD at h
  unfold Region.wanted
  split at h
  · rename_i hg
    rw [hg]
    simpa using h
  · rename_i g want hg
    rw [hg]
    simp only
    split at h
    · cases h
    · rename_i og hog
      split at h
      · cases h
      · rename_i d hd
        have hops : ops[g]? = some og := by simpa using hog
        have hy : yielded ops a.tmps g = match a.tmps[d]? with
            | some (.bool b) => some b
            | _ => none := by
          unfold yielded
          rw [hops]
          simp only [Option.bind_some, hd]
          rfl
        have hv := ht d
        split at h
        · rename_i bb hl
          rw [hl, val_bool] at hv
          have hsome : a.tmps[d]? = some (.bool bb) := by
            rw [Array.getD_eq_getD_getElem?] at hv
            cases hh : a.tmps[d]? with
            | none => rw [hh] at hv; simp [undef] at hv
            | some v => rw [hh] at hv; simpa using hv
          rw [hy, hsome]
          simp only
          cases bb <;> cases want <;> simpa using h
        · rename_i hl
          rw [hl, val_tup] at hv
          obtain ⟨vs, hv, hvs⟩ := hv
          simp only [AV.vals] at hvs
          subst hvs
          have hne : ∀ b, a.tmps[d]? ≠ some (.bool b) := by
            intro b hb
            rw [Array.getD_eq_getD_getElem?, hb] at hv
            cases hv
          simp only [Option.some.injEq] at h
          subst h
          rw [hy]
          split
          · rename_i b hb; exact absurd hb (hne b)
          · rfl
        · cases h

/-- One operation of a region. -/
theorem step_op {look : Nat → AV} {ol : Nat → Option Ob} {i : Nat} {o : Oper} {rh : RH} {r : Rc} {ps : List Prop} {Q : Exit → Act → World → Prop} {K : Act → World → Prop}
    (hi : ops[i]? = some o) (hR : Rel C E N f a w) (hlook : ∀ t, look t = f.t t ∨ look t = .any) (hle : ∀ b c, ol b = some c → f.o b = some c)
    (hs : stepR C N ops.toList look ol o rh = some (r, ps)) (hp : All ps) (hfr : ∀ b ∈ r.fr, f.o b = none)
    (hK : ∀ a' w', Rel C E N (app o r f) a' w' → K a' w') {rd : Option Nat} : wpOpIn (fen rd) 0 C.P ops Q i K a w := by
  obtain ⟨hN, m, I, hdf, hm, hl0, ht⟩ := hR
  have hlk : Looks (gh f.o m) I w look a := fun t => by
    rcases hlook t with h | h
    · rw [h]; exact ht t
    · rw [h]; simp only [AV.val]
  unfold stepR at hs
  unfold wpOpIn
  rw [hi]
  simp only
  split at hs
  · rename_i hdok
    split at hs
    · cases hs
    · rename_i hg
      simp only [Option.some.injEq, Prod.mk.injEq] at hs
      obtain ⟨rfl, rfl⟩ := hs
      rw [guardD_ok hlk hg]
      simp only [Bool.false_eq_true, if_false]
      exact ⟨fun _ _ => trivial, hK _ _ (rel_put hN hdf rfl hdok hl0 ht (Done.same hm (val_tup.2 ⟨[], rfl, by simp only [AV.vals]⟩)))⟩
    · rename_i hg
      rw [guardD_ok hlk hg]
      simp only [if_true]
      split at hs
      · cases hs
      · rename_i val ow p hst
        simp only at hs
        split at hs
        · rename_i hfn
          simp only [Bool.and_eq_true] at hfn
          have hst' := stepOp_le hle hst
          have key : p → (∀ b ∈ freshOf C look o rh.h, f.o b = none) → val = r.v → ow = r.ow → o.wpIn (fen rd) 0 C.P a w K Q := by
            intro hp hfr' e1 e2
            refine step_wp hm hlk hst' hp hfr' (fun v w' hd => hK _ _ ?_)
            rw [e1, e2] at hd
            exact rel_put hN hdf (e2 ▸ hfn.2) hdok hl0 ht hd
          split at hs
          · simp only [Option.some.injEq, Prod.mk.injEq] at hs
            obtain ⟨rfl, rfl⟩ := hs
            exact key (sideL_ok hst hp) hfr rfl rfl
          · simp only [Option.some.injEq, Prod.mk.injEq] at hs
            obtain ⟨rfl, rfl⟩ := hs
            exact key hp.1.2.2 hfr hp.1.1 hp.1.2.1
        · cases hs
  · cases hs

/-! States as lists. -/
def consT (dst : Option Nat) (v : AV) (t : List (Nat × AV)) : List (Nat × AV) := match dst with
  | some d => (d, v) :: t
  | none => t
def pushO : List (Nat × Ob) → List (Nat × Ob) → List (Nat × Ob)
  | [], o => o
  | (i, c) :: l, o => pushO l ((i, c) :: o)
def appS (o : Oper) (r : Rc) (s : S) : S := ⟨consT o.dst r.v s.t, pushO r.ow s.o⟩

theorem beq_false {a b : Nat} (h : a ≠ b) : Nat.beq a b = false := by
  cases hb : Nat.beq a b with
  | false => rfl
  | true => exact absurd (Nat.eq_of_beq_eq_true hb) h

theorem beq_same (a : Nat) : Nat.beq a a = true := by simp

theorem lk_cons {α : Type} (d : Nat) (v : α) (t : List (Nat × α)) : lk ((d, v) :: t) = upd (lk t) d (some v) := by
  funext k
  simp only [lk]
  by_cases h : k = d
  · subst h; rw [upd_same]; simp
  · rw [upd_other _ _ h, beq_false (Ne.symm h)]; simp

theorem at_cons (d : Nat) (v : AV) (t : List (Nat × AV)) : at' ((d, v) :: t) = upd (at' t) d v := by
  funext k
  simp only [at', lk_cons]
  by_cases h : k = d
  · subst h; rw [upd_same, upd_same]
  · rw [upd_other _ _ h, upd_other _ _ h]; rfl

theorem lk_push : ∀ (l o : List (Nat × Ob)), lk (pushO l o) = ups (lk o) l
  | [], o => rfl
  | (i, c) :: l, o => by
    simp only [pushO, ups]
    rw [lk_push l, lk_cons]

theorem appS_sf (o : Oper) (r : Rc) (s : S) : (appS o r s).sf = app o r s.sf := by
  simp only [S.sf, appS, app, lk_push, SF.mk.injEq]
  refine ⟨?_, trivial⟩
  cases h : o.dst with
  | none => rfl
  | some d => simp only [consT, putT, at_cons]

/-! Text order. -/
def goT (C : Cx) (N : Nat) (ops : List Oper) (hs : List (Nat × RH)) : Nat → List Oper → S → Option (S × List Prop)
  | _, [], s => some (s, [])
  | i, o :: l, s => match stepR C N ops (at' s.t) (lk s.o) o (hintAt hs i) with
    | none => none
    | some (r, ps) => match goT C N ops hs (i + 1) l (appS o r s) with
      | none => none
      | some (s', qs) => some (s', ps ++ qs)

theorem stepR_fresh {look : Nat → AV} {ol : Nat → Option Ob} {o : Oper} {rh : RH} {r : Rc} {ps : List Prop} {ops : List Oper} (hs : stepR C N ops look ol o rh = some (r, ps)) : ∀ b ∈ r.fr, ol b = none := by
  unfold stepR at hs
  split at hs
  · split at hs
    · cases hs
    · simp only [Option.some.injEq, Prod.mk.injEq] at hs
      obtain ⟨rfl, _⟩ := hs
      intro b hb; cases hb
    · split at hs
      · cases hs
      · simp only at hs
        split at hs
        · rename_i hn
          simp only [Bool.and_eq_true] at hn
          split at hs
          · simp only [Option.some.injEq, Prod.mk.injEq] at hs
            obtain ⟨rfl, _⟩ := hs
            exact allNone_at _ hn.1
          · simp only [Option.some.injEq, Prod.mk.injEq] at hs
            obtain ⟨rfl, _⟩ := hs
            exact allNone_at _ hn.1
        · cases hs
  · cases hs

theorem goT_wp {rd : Option Nat} {hs : List (Nat × RH)} {Q : Exit → Act → World → Prop} : ∀ (l : List Oper) (i : Nat) (s s' : S) (ps : List Prop) (a : Act) (w : World), ops.toList.drop i = l → goT C N ops.toList hs i l s = some (s', ps) → All ps →
    Rel C E N s.sf a w → (∀ a' w', Rel C E N s'.sf a' w' → Q .normal a' w') → wpOpsIn (fen rd) 0 C.P ops Q (List.range' i l.length) a w
  | [], i, s, s', ps, a, w, _, h, _, hR, hQ => by
    simp only [goT, Option.some.injEq, Prod.mk.injEq] at h
    obtain ⟨rfl, _⟩ := h
    simp only [List.length_nil, List.range'_zero, wpOpsIn]
    exact hQ a w hR
  | o :: l, i, s, s', ps, a, w, hd, h, hp, hR, hQ => by
    simp only [goT] at h
    split at h
    · cases h
    · rename_i r p1 h1
      split at h
      · cases h
      · rename_i s1 p2 h2
        simp only [Option.some.injEq, Prod.mk.injEq] at h
        obtain ⟨rfl, rfl⟩ := h
        obtain ⟨ha, hb⟩ := all_app _ _ hp
        have hi : ops[i]? = some o := by
          have := congrArg (fun l => l[0]?) hd
          simpa using this
        have hd' : ops.toList.drop (i + 1) = l := by
          have := congrArg List.tail hd
          simpa using this
        rw [List.length_cons, List.range'_succ, wpOpsIn_cons]
        refine step_op hi hR (fun t => .inl rfl) (fun b c hbc => hbc) h1 ha (stepR_fresh h1) (fun a' w' hR' => ?_)
        rw [← appS_sf] at hR'
        exact goT_wp l (i + 1) (appS o r s) _ p2 a' w' hd' h2 hb hR' hQ
end
end Go.Sep
