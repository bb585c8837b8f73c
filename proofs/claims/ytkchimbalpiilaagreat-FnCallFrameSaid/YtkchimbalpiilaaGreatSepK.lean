/- One operation: what it gives in a state, and that the machine does so. -/
import Derived.Test.YtkchimbalpiilaaGreatSepEq
set_option linter.all false
set_option linter.deprecated false
namespace Go.Sep
open Go

/-- What is told of one operation beside its text. -/
inductive Hint where
  | v (c : Oc)
  | row
  | call (r : AV) (os' : List Ob) (ids news : List Nat)

def nm (dst : Option Nat) : Nat := match dst with | some d => 1000 + d | none => 999

def constA (T : Tab) (t : TypeId) : Value → Option AV
  | .int k n => some (.d (.int k n))
  | .bool b => some (.d (.bool b))
  | .string s => some (.d (.str s.data.toList))
  | .slice none 0 0 => match lk T t with
    | some e => match e.td with
      | .slice el => match lk T el with
        | some ee => some (.nils ee.sh)
        | none => none
      | _ => none
    | none => none
  | _ => some .any

def evA (C : Cx) (look : Nat → AV) (t : TypeId) : Operand → Option AV
  | .tmp n => some (look n)
  | .const v => constA C.T t v
  | .global g => match lk C.gl g with
    | some x => some (.cp x)
    | none => none
  | .func f => some (.fn f [])

def evL (C : Cx) (look : Nat → AV) : List Operand → List TypeId → Option (List AV)
  | [], [] => some []
  | x :: xs, t :: ts => match evA C look t x with
    | none => none
    | some y => match evL C look xs ts with
      | none => none
      | some ys => some (y :: ys)
  | _, _ => none

section
variable {C : Cx} {E : En} {o : Nat → Option Ob} {m : Nat → Value} {I : Nat → Prop} {w : World} {look : Nat → AV} {a : Act}

/-- The slots are as told. -/
def Looks (G : Gh) (I : Nat → Prop) (w : World) (look : Nat → AV) (a : Act) : Prop := ∀ t, AV.val G I w (look t) (a.tmps.getD t undef)

theorem evA_val (hm : Mem C E o m I w) (hl : Looks (gh o m) I w look a) {t : TypeId} {x : Operand} {y : AV} (h : evA C look t x = some y) : AV.val (gh o m) I w y (a.eval x) := by
  cases x with
  | tmp n =>
    simp only [evA, Option.some.injEq] at h
    subst h
    exact hl n
  | const v =>
    simp only [evA] at h
    unfold constA at h
    split at h
    · cases h; exact val_int.2 rfl
    · cases h; exact val_bool.2 rfl
    · cases h; exact val_str.2 rfl
    · split at h
      · split at h
        · split at h
          · cases h; exact val_nils.2 rfl
          · cases h
        · cases h
      · cases h
    · cases h; simp only [AV.val]
  | global g =>
    simp only [evA] at h
    split at h
    · rename_i x hg
      cases h
      obtain ⟨h1, vs, h2, h3⟩ := hm.gl g x hg
      exact val_cp.2 ⟨g, 0, vs, h1, rfl, fun j v hj => by rw [Nat.zero_add]; exact h2 j v hj, h3⟩
    · cases h
  | func f =>
    simp only [evA, Option.some.injEq] at h
    subst h
    exact val_fn.2 ⟨[], rfl, by simp only [AV.vals]⟩

inductive Vals (G : Gh) (I : Nat → Prop) (w : World) : List AV → List Value → Prop where
  | nil : Vals G I w [] []
  | cons {x : AV} {v : Value} {l : List AV} {l' : List Value} : AV.val G I w x v → Vals G I w l l' → Vals G I w (x :: l) (v :: l')

theorem evL_vals (hm : Mem C E o m I w) (hl : Looks (gh o m) I w look a) : ∀ (xs : List Operand) (ts : List TypeId) (ys : List AV), evL C look xs ts = some ys → Vals (gh o m) I w ys (xs.map a.eval)
  | [], [], ys, h => by simp only [evL, Option.some.injEq] at h; subst h; exact .nil
  | x :: xs, t :: ts, ys, h => by
    simp only [evL] at h
    split at h
    · cases h
    · rename_i y hy
      split at h
      · cases h
      · rename_i ys' hys
        cases h
        exact .cons (evA_val hm hl hy) (evL_vals hm hl xs ts ys' hys)
  | [], _ :: _, ys, h => by simp only [evL] at h; cases h
  | _ :: _, [], ys, h => by simp only [evL] at h; cases h
end

/-- Parts of a literal: by their place. -/
def evP (C : Cx) (look : Nat → AV) (ty : Nat → TypeId) : List (Nat × Operand) → Option (List (Nat × AV))
  | [] => some []
  | (i, x) :: l => match evA C look (ty i) x with
    | none => none
    | some y => match evP C look ty l with
      | none => none
      | some ys => some ((i, y) :: ys)

theorem evP_parts {C : Cx} {E : En} {o : Nat → Option Ob} {m : Nat → Value} {I : Nat → Prop} {w : World} {look : Nat → AV} {a : Act} (hm : Mem C E o m I w) (hl : Looks (gh o m) I w look a) (ty : Nat → TypeId) :
    ∀ (l : List (Nat × Operand)) (ys : List (Nat × AV)), evP C look ty l = some ys → Parts (gh o m) I w ys (l.map fun q => (q.1, a.eval q.2))
  | [], ys, h => by simp only [evP, Option.some.injEq] at h; subst h; exact .nil
  | (i, x) :: l, ys, h => by
    simp only [evP] at h
    split at h
    · cases h
    · rename_i y hy
      split at h
      · cases h
      · rename_i ys' hys
        cases h
        exact .cons (evA_val hm hl hy) (evP_parts hm hl ty l ys' hys)

def partTy (T : Tab) (t : TypeId) (i : Nat) : TypeId :=
  match lk T t with
  | some e => match e.td with
    | .struct fs => fs.getD i 0
    | .arr _ el => el
    | .slice el => el
    | _ => 0
  | none => 0

def zipNames : List Nat → List Ob → List (Nat × Ob)
  | i :: l, c :: cs => (i, c) :: zipNames l cs
  | _, _ => []

abbrev Res := Option (AV × List (Nat × Ob) × Prop)

def val1 (r : Option AV) : Res := match r with
  | some x => some (x, [], True)
  | none => none
def valP (r : Option (AV × Prop)) : Res := match r with
  | some (x, p) => some (x, [], p)
  | none => none

def ocOf : Hint → Oc
  | .v c => c
  | _ => .no

/-- A call of a function, by its contract. -/
def callF (C : Cx) (ol : Nat → Option Ob) (f : AV) (args : List AV) (h : Hint) : Res :=
  match f, h with
  | .fn k caps, .call r os' ids news =>
    match convObs ol ids ids with
    | none => none
    | some (os, p1) => match convs ol ids (args ++ caps) with
      | none => none
      | some (cargs, p2) =>
        if C.fns k && nodupB (ids ++ news) && Nat.beq os'.length (ids ++ news).length then
          some (r.ren (nameOf (ids ++ news)), zipNames (ids ++ news) (os'.map (Ob.ren (nameOf (ids ++ news)))), p1 ∧ p2 ∧ (seens' ol ids (args ++ caps) = true → r.plain = true ∧ allPlain os' = true) ∧ FnD C k cargs os r os')
        else none
  | _, _ => none

/-- A call of yield, by the contract of a round. -/
def callY (C : Cx) (ol : Nat → Option Ob) (b : Nat) (args : List AV) (h : Hint) : Res :=
  match h with
  | .call r os' ids news =>
    match convObs ol ids ids with
    | none => none
    | some (os, p1) => match convs ol ids args with
      | none => none
      | some (cargs, p2) => match posIn ids b with
        | none => none
        | some j =>
          if nodupB (ids ++ news) && Nat.beq os'.length (ids ++ news).length then
            some (r.ren (nameOf (ids ++ news)), zipNames (ids ++ news) (os'.map (Ob.ren (nameOf (ids ++ news)))), p1 ∧ p2 ∧ (seens' ol ids args = true → r.plain = true ∧ allPlain os' = true) ∧ YD C j cargs os r os')
          else none
  | _ => none

/-- Append, where what comes out is written no more. -/
def frzApp (r : Res) (h : Hint) : Res := match h with
  | .row => match r with
    | some (.own b n, [(b', .row ty sh zs)], p) => if Nat.beq b b' then some (.d (.sl sh zs), [(b', .frz ty sh zs)], p ∧ n = zs.length) else none
    | _ => none
  | _ => r

def stepOp (C : Cx) (look : Nat → AV) (ol : Nat → Option Ob) (o : Oper) (h : Hint) : Res :=
  match o.op with
  | .move x => val1 (evA C look o.type x)
  | .assign x => val1 (evA C look o.type x)
  | .pick c a b => match evA C look 0 c with
    | some (.d (.bool true)) => val1 (evA C look o.type a)
    | some (.d (.bool false)) => val1 (evA C look o.type b)
    | _ => none
  | .box t x => match evA C look t x with
    | some y => if y.one then some (.ref (nm o.dst) [], [(nm o.dst, .box y)], True) else none
    | none => none
  | .alloc t => match lk C.T t with
    | some e => some (.ref (nm o.dst) [], [(nm o.dst, .box e.zero)], True)
    | none => none
  | .build t parts => match evP C look (partTy C.T t) parts.toList with
    | some l => val1 (buildD C.T t l)
    | none => none
  | .buildSlice t n parts => match evP C look (partTy C.T t) parts.toList with
    | some l => match litD C.T ol t n l with
      | some (el, sh, ys, p) => match h with
        | .row => some (.own (nm o.dst) ys.length, [(nm o.dst, .row el sh ys)], p)
        | _ => some (.d (.sl sh ys), [], p)
      | none => none
    | none => none
  | .load t x => match evA C look 0 x with
    | some y => valP (loadD C.T ol t y (ocOf h))
    | none => none
  | .store t x y => match evA C look 0 x, evA C look t y with
    | some x', some y' => match storeD C.T ol t x' y' (ocOf h) with
      | some (ow, p) => some (.any, ow, p)
      | none => none
    | _, _ => none
  | .nilCheck x => match evA C look 0 x with
    | some (.ref b p) => some (.ref b p, [], True)
    | some (.cp y) => some (.cp y, [], True)
    | some (.rref b k i p) => some (.rref b k i p, [], True)
    | some (.fn f l) => some (.fn f l, [], True)
    | some (.yd b) => some (.yd b, [], True)
    | _ => none
  | .binOp op t x y _ => match evA C look t x, evA C look t y with
    | some (.d (.agg x')), some (.d (.agg y')) => match eqD C t op x' y' with
      | some (d, p) => some (.d d, [], p)
      | none => none
    | some (.d x'), some (.d y') => match lk C.T t with
      | some e => match e.td, x' with
        | .bool, _ => match binD op x' y' with
          | some (d, p) => some (.d d, [], p)
          | none => none
        | _, .bool _ => none
        | _, _ => match binD op x' y' with
          | some (d, p) => some (.d d, [], p)
          | none => none
      | none => none
    | _, _ => none
  | .unOp op t x => match evA C look t x with
    | some y => val1 (unD op y)
    | none => none
  | .convert src dst x => match evA C look src x with
    | some y => val1 (convD C.T src dst y)
    | none => none
  | .makeFunc (.func f) first caps => if Nat.beq first.size 0 then match evL C look caps.toList (caps.toList.map fun _ => 0) with
      | some l => if l.all AV.one then some (.fn f l, [], True) else none
      | none => none
    else none
  | .makeSlice t l c => match evA C look 0 l, evA C look 0 c with
    | some l', some c' => match makeD C.T ol t l' c' with
      | some (el, sh, ys, p) => some (.own (nm o.dst) ys.length, [(nm o.dst, .row el sh ys)], p)
      | none => none
    | _, _ => none
  | .slice t x lo hi none => match evA C look t x with
    | some y => match lo, hi with
      | none, none => valP (sliceD C.T ol t y none none)
      | some l, none => match evA C look 0 l with
        | some l' => valP (sliceD C.T ol t y (some l') none)
        | none => none
      | none, some u => match evA C look 0 u with
        | some u' => valP (sliceD C.T ol t y none (some u'))
        | none => none
      | some l, some u => match evA C look 0 l, evA C look 0 u with
        | some l', some u' => valP (sliceD C.T ol t y (some l') (some u'))
        | _, _ => none
    | none => none
  | .fieldAddr s x f => match evA C look 0 x with
    | some y => valP (fieldAddrD C.T ol s y f)
    | none => none
  | .field t x f => match evA C look t x with
    | some y => val1 (fieldD C.T t y f)
    | none => none
  | .indexAddr t x i => match evA C look t x, evA C look 0 i with
    | some y, some z => valP (indexAddrD C.T ol t y z (ocOf h))
    | _, _ => none
  | .index t x i => match evA C look t x, evA C look 0 i with
    | some y, some z => valP (indexD C.T t y z (ocOf h))
    | _, _ => none
  | .extract t i => match evA C look 0 t with
    | some y => val1 (extractD y i)
    | none => none
  | .call c => match c.callee with
    | .builtin .len => match c.args.toList, c.argTypes.toList with
      | [x], [t] => match evA C look t x with
        | some y => val1 (lenD C.T t y)
        | none => none
      | _, _ => none
    | .builtin .append => match c.args.toList, c.argTypes.toList with
      | [x, y], [t, t'] => if Nat.beq t t' then match evA C look t x, evA C look t y with
          | some x', some y' => frzApp (appD C.T ol t (nm o.dst) x' y') h
          | _, _ => none
        else none
      | _, _ => none
    | .value f => match evA C look 0 f with
      | some (.yd b) => match evL C look c.args.toList c.argTypes.toList with
        | some args => callY C ol b args h
        | none => none
      | some f' => match evL C look c.args.toList c.argTypes.toList with
        | some args => callF C ol f' args h
        | none => none
      | none => none
    | _ => none
  | _ => none

section
variable {C : Cx} {E : En} {ol : Nat → Option Ob} {m : Nat → Value} {I : Nat → Prop} {w : World} {look : Nat → AV} {a : Act} {o : Oper}

/-- The fence of an activation: any function, as deep as may be; in a round, the round's. -/
def fen (r : Option Nat) : Fence := { Fence.wide with round := r }
theorem fen_room (r : Option Nat) (n : Nat) : (fen r).room n := fun _ h => by cases h

theorem wp_value {K : Act → World → Prop} {Q : Exit → Act → World → Prop} {v : Value} {w' : World} {rd : Option Nat} (hd : ∀ c, o.op ≠ .defer c) (h : (execOp a.eval o).run C.P w = .ok (.value v) w') (hk : K (a.put o.dst v) w') : o.wpIn (fen rd) 0 C.P a w K Q := by
  refine ⟨fun _ _ => trivial, ?_⟩
  rw [Oper.semAt_eq _ _ _ hd, h, Oper.uponIn_value]
  exact hk

theorem Vals.one_vals {G : Gh} {l : List AV} {l' : List Value} (h : Vals G I w l l') (h1 : l.all AV.one = true) : AV.vals G I w l l' := by
  induction h with
  | nil => simp only [AV.vals]
  | cons hv _ ih =>
    simp only [List.all_cons, Bool.and_eq_true] at h1
    obtain ⟨cs, hc, e⟩ := cells_of_val h1.1 hv
    simp only [AV.vals]
    exact ⟨cs, _, _, rfl, hc, e, ih h1.2⟩

theorem Vals.app {G : Gh} {l l2 : List AV} {l' l2' : List Value} (h : Vals G I w l l') (h2 : Vals G I w l2 l2') : Vals G I w (l ++ l2) (l' ++ l2') := by
  induction h with
  | nil => exact h2
  | cons hv _ ih => exact .cons hv ih

theorem vals_Vals {G : Gh} : ∀ (l : List AV) (vs : List Value), AV.vals G I w l vs → Vals G I w l vs
  | [], vs, h => by simp only [AV.vals] at h; subst h; exact .nil
  | x :: l, vs, h => by
    simp only [AV.vals] at h
    obtain ⟨cs, v, vs', rfl, h1, rfl, h2⟩ := h
    exact .cons (val_of_cells h1) (vals_Vals l vs' h2)

theorem map_toArray (f : Operand → Value) (A : Array Operand) : A.map f = (A.toList.map f).toArray := by
  apply Array.ext'
  simp

theorem ups_zip : ∀ (names : List Nat) (os : List Ob) (o : Nat → Option Ob) (b : Nat), nodupB names = true → os.length = names.length →
    ups o (zipNames names os) b = match posIn names b with
      | some j => os[j]?
      | none => o b
  | [], [], o, b, _, _ => by simp [zipNames, ups, posIn]
  | [], _ :: _, o, b, _, h => by simp at h
  | _ :: _, [], o, b, _, h => by simp at h
  | i :: l, c :: os, o, b, hn, hl => by
    simp only [nodupB, Bool.and_eq_true, Option.isNone_iff_eq_none] at hn
    simp only [zipNames, ups]
    rw [ups_zip l os (upd o i (some c)) b hn.2 (by simpa using hl)]
    simp only [posIn]
    by_cases hib : i = b
    · subst hib
      rw [hn.1]
      simp [upd_same]
    · have hbe : Nat.beq i b = false := by
        cases hb : Nat.beq i b with
        | false => rfl
        | true => exact absurd (Nat.eq_of_beq_eq_true hb) hib
      rw [if_neg (by rw [hbe]; simp)]
      cases posIn l b with
      | none => simp [upd_other _ _ (Ne.symm hib)]
      | some j => simp

theorem ups_after (o : Nat → Option Ob) {names : List Nat} {os' : List Ob} (hn : nodupB names = true) (hl : os'.length = names.length) :
    ups o (zipNames names (os'.map (Ob.ren (nameOf names)))) = after o names os' := by
  funext b
  rw [ups_zip names _ o b hn (by simpa using hl)]
  unfold after
  cases posIn names b <;> simp

/-- The objects that an operation makes. -/
def freshOf (C : Cx) (look : Nat → AV) (o : Oper) (h : Hint) : List Nat :=
  match o.op with
  | .box _ _ => [nm o.dst]
  | .alloc _ => [nm o.dst]
  | .makeSlice _ _ _ => [nm o.dst]
  | .buildSlice _ _ _ => match h with
    | .row => [nm o.dst]
    | _ => []
  | .call c => match c.callee with
    | .builtin .append => match c.args.toList, c.argTypes.toList with
      | [x, _], [t, _] => match evA C look t x with
        | some (.nils _) => [nm o.dst]
        | _ => []
      | _, _ => []
    | .value _ => match h with
      | .call _ _ _ news => news
      | _ => []
    | _ => []
  | _ => []

theorem res_val1 {r : Option AV} {val : AV} {ow : List (Nat × Ob)} {p : Prop} (h : val1 r = some (val, ow, p)) : r = some val ∧ ow = [] ∧ p = True := by
  unfold val1 at h
  split at h
  · cases h; exact ⟨rfl, rfl, rfl⟩
  · cases h
theorem res_valP {r : Option (AV × Prop)} {val : AV} {ow : List (Nat × Ob)} {p : Prop} (h : valP r = some (val, ow, p)) : r = some (val, p) ∧ ow = [] := by
  unfold valP at h
  split at h
  · cases h; exact ⟨rfl, rfl⟩
  · cases h

theorem run_v (s : Sem Value) {v : Value} {w' : World} (h : s.run C.P w = .ok v w') : (do pure (Next.value (← s)) : Sem Next).run C.P w = .ok (.value v) w' := by
  rw [Sem.run_bind, h]
  rfl

theorem convs_ones {ol : Nat → Option Ob} {ids : List Nat} : ∀ (xs ys : List AV) (q : Prop), convs ol ids xs = some (ys, q) → xs.all AV.one = true
  | [], _, _, _ => rfl
  | x :: xs, ys, q, hx => by
    simp only [convs] at hx
    split at hx
    · cases hx
    · rename_i y q1 hy
      split at hx
      · cases hx
      · rename_i ys' q2 hys
        rw [List.all_cons, convs_ones xs ys' q2 hys, Bool.and_true]
        cases x <;> first | rfl | (simp only [conv] at hy; cases hy)

/-- What a call of a function does, by its contract. -/
theorem callF_calls (hm : Mem C E ol m I w) {f : AV} {fv : Value} {args : List AV} {vs : List Value} {h : Hint} {val : AV} {ow : List (Nat × Ob)} {p : Prop} (hc : callF C ol f args h = some (val, ow, p)) (hp : p)
    (hf : AV.val (gh ol m) I w f fv) (hv : Vals (gh ol m) I w args vs) (hfr : ∀ r os' ids news, h = .call r os' ids news → ∀ i ∈ news, ol i = none) :
    ∃ k cvs, fv = .func (.func k) #[] cvs.toArray ∧ (∃ fn, C.P.funcs[k]? = some fn ∧ fn.body.isSome = true ∧ (fn.name == "runtime.NumGoroutine") = false) ∧
      Calls C.P k (vs ++ cvs).toArray w (fun e w' => ∃ v, e = .returned v ∧ Done C E ol m I w val ow v w') := by
  unfold callF at hc
  split at hc
  · rename_i k caps r os' ids news
    split at hc
    · cases hc
    · rename_i os p1 hos
      split at hc
      · cases hc
      · rename_i cargs p2 hargs
        split at hc
        · rename_i hcond
          simp only [Bool.and_eq_true] at hcond
          obtain ⟨⟨hfk, hnd⟩, hlen⟩ := hcond
          simp only [Option.some.injEq, Prod.mk.injEq] at hc
          obtain ⟨rfl, rfl, rfl⟩ := hc
          obtain ⟨hp1, hp2, hpl, hfnd⟩ := hp
          rw [val_fn] at hf
          obtain ⟨cvs, rfl, hcv⟩ := hf
          have hlen' := Nat.eq_of_beq_eq_true hlen
          have hall : Vals (gh ol m) I w (args ++ caps) (vs ++ cvs) := hv.app (vals_Vals caps cvs hcv)
          have hvals := hall.one_vals (convs_ones _ _ _ hargs)
          have hm' := callee_mem (sees := seens' ol ids (args ++ caps)) hm (nodup_left ids news hnd) hos hp1
          have hcvals := convs_vals hm hos hp1 (seens' ol ids (args ++ caps)) (args ++ caps) cargs p2 (vs ++ cvs) hargs hp2 (fun h => h) hvals
          refine ⟨k, cvs, rfl, C.okf k hfk, (hfnd w (fun j => m (nameOf ids j)) (seenI ol m I ids (seens' ol ids (args ++ caps))) (vs ++ cvs) hm' hcvals).mono ?_⟩
          rintro e w' ⟨v, m', I', rfl, h1, h2, h3⟩
          obtain ⟨I2, g1, g2, g3⟩ := call_back hm hnd hos hp1 (hfr r os' ids news rfl) hlen' hpl h1 h2 h3
          refine ⟨v, rfl, afterM m (ids ++ news) m', I2, ?_⟩
          rw [ups_after ol hnd hlen']
          exact ⟨g1, g2, g3⟩
        · cases hc
  · cases hc

theorem call_wp (hm : Mem C E ol m I w) {f : AV} {fv : Value} {args : List AV} {vs : List Value} {h : Hint} {val : AV} {ow : List (Nat × Ob)} {p : Prop} (hc : callF C ol f args h = some (val, ow, p)) (hp : p)
    (hf : AV.val (gh ol m) I w f fv) (hv : Vals (gh ol m) I w args vs) (hfr : ∀ r os' ids news, h = .call r os' ids news → ∀ i ∈ news, ol i = none)
    {K : Act → World → Prop} {Q : Exit → Act → World → Prop} (hK : ∀ v w', Done C E ol m I w val ow v w' → K (a.put o.dst v) w')
    {rd : Option Nat} (hd : ∀ c, o.op ≠ .defer c) (hop : ∀ r, (do let d ← Deferred.ofValue fv vs.toArray; invoke d.target d.args : Sem Next).run C.P w = r → (execOp a.eval o).run C.P w = r) : o.wpIn (fen rd) 0 C.P a w K Q := by
  obtain ⟨k, cvs, rfl, ⟨fn, hfn1, hfn2, hfn3⟩, hcalls⟩ := callF_calls hm hc hp hf hv hfr
  have hrun : (execOp a.eval o).run C.P w = .ok (.enter k (vs ++ cvs).toArray) w := by
    apply hop
    simp only [Deferred.ofValue, Sem.run_bind, Sem.run_pure, Result.andThen_ok, invoke, callFunc, run_program, hfn1, hfn3, Bool.false_eq_true, if_false]
    have : fn.body.isNone = false := by cases hb : fn.body <;> simp_all
    simp [this]
  refine ⟨fun _ _ => trivial, ?_⟩
  rw [Oper.semAt_eq _ _ _ hd, hrun, Oper.uponIn_enter]
  refine ⟨fun h => absurd h (by simp [fen, Fence.wide]), ?_⟩
  have hcalls' : CallsIn (fen rd) 0 C.P k (vs ++ cvs).toArray w _ := (callsIn_wide (n := 0)).2 hcalls
  refine hcalls'.mono ?_
  rintro e w' ⟨v, rfl, hd⟩
  exact hK v w' hd

theorem callY_wp (hm : Mem C E ol m I w) {b : Nat} {fv : Value} {args : List AV} {vs : List Value} {h : Hint} {val : AV} {ow : List (Nat × Ob)} {p : Prop} (hc : callY C ol b args h = some (val, ow, p)) (hp : p)
    (hf : AV.val (gh ol m) I w (.yd b) fv) (hv : Vals (gh ol m) I w args vs) (hfr : ∀ r os' ids news, h = .call r os' ids news → ∀ i ∈ news, ol i = none)
    {K : Act → World → Prop} {Q : Exit → Act → World → Prop} (hK : ∀ v w', Done C E ol m I w val ow v w' → K (a.put o.dst v) w')
    {rd : Option Nat} (hd : ∀ c, o.op ≠ .defer c) (hop : ∀ r, (do let d ← Deferred.ofValue fv vs.toArray; invoke d.target d.args : Sem Next).run C.P w = r → (execOp a.eval o).run C.P w = r) : o.wpIn (fen rd) 0 C.P a w K Q := by
  unfold callY at hc
  split at hc
  · rename_i r os' ids news
    split at hc
    · cases hc
    · rename_i os p1 hos
      split at hc
      · cases hc
      · rename_i cargs p2 hargs
        split at hc
        · cases hc
        · rename_i j hj
          split at hc
          · rename_i hcond
            simp only [Bool.and_eq_true] at hcond
            obtain ⟨hnd, hlen⟩ := hcond
            simp only [Option.some.injEq, Prod.mk.injEq] at hc
            obtain ⟨rfl, rfl, rfl⟩ := hc
            obtain ⟨hp1, hp2, hpl, hyd⟩ := hp
            rw [val_yd] at hf
            obtain ⟨blk, k, hblk, _, rfl⟩ := hf
            have hlen' := Nat.eq_of_beq_eq_true hlen
            have hones : ∀ (xs : List AV) (ys : List AV) (q : Prop), convs ol ids xs = some (ys, q) → xs.all AV.one = true := by
              intro xs
              induction xs with
              | nil => intros; rfl
              | cons x xs ih =>
                intro ys q hx
                simp only [convs] at hx
                split at hx
                · cases hx
                · rename_i y q1 hy
                  split at hx
                  · cases hx
                  · rename_i ys' q2 hys
                    rw [List.all_cons, ih ys' q2 hys, Bool.and_true]
                    cases x <;> first | rfl | (simp only [conv] at hy; cases hy)
            have hvals := hv.one_vals (hones _ _ _ hargs)
            have hm' := callee_mem (sees := seens' ol ids args) hm (nodup_left ids news hnd) hos hp1
            have hcvals := convs_vals hm hos hp1 (seens' ol ids args) args cargs p2 vs hargs hp2 (fun h => h) hvals
            obtain ⟨blk', hblk', fn, tmps, assign, body, hy, hround⟩ := hyd w (fun j => m (nameOf ids j)) (seenI ol m I ids (seens' ol ids args)) vs hm' hcvals
            have hnm : nameOf ids j = b := by rw [nameOf, List.getD_eq_getElem?_getD, posIn_at ids b j hj]; rfl
            simp only [hnm] at hblk'
            simp only [gh] at hblk
            rw [hblk] at hblk'
            cases hblk'
            have hrun : (execOp a.eval o).run C.P w = .ok (.round blk fn tmps assign body) w := by
              apply hop
              simp only [Deferred.ofValue, Sem.run_bind, Sem.run_pure, Result.andThen_ok, invoke]
              simpa using hy
            refine ⟨fun _ _ => trivial, ?_⟩
            rw [Oper.semAt_eq _ _ _ hd, hrun, Oper.uponIn_round]
            refine ⟨fun h => absurd h (by simp [fen, Fence.wide]), ?_⟩
            have hround' : RoundIn (fen rd) 0 C.P blk fn tmps assign body w _ := hround
            refine hround'.mono ?_
            rintro e w' ⟨v, m', I', rfl, h1, h2, h3⟩
            obtain ⟨I2, g1, g2, g3⟩ := call_back hm hnd hos hp1 (hfr r os' ids news rfl) hlen' hpl h1 h2 h3
            refine hK v w' ⟨afterM m (ids ++ news) m', I2, ?_⟩
            rw [ups_after ol hnd hlen']
            exact ⟨g1, g2, g3⟩
          · cases hc
  · cases hc

theorem frzApp_done {r : Res} {h : Hint} {val : AV} {ow : List (Nat × Ob)} {p : Prop} (hs : frzApp r h = some (val, ow, p)) (hp : p) :
    ∃ val0 ow0 p0, r = some (val0, ow0, p0) ∧ p0 ∧ ∀ v w', Done C E ol m I w val0 ow0 v w' → Done C E ol m I w val ow v w' := by
  unfold frzApp at hs
  split at hs
  · split at hs
    · rename_i b n b' ty sh zs q
      split at hs
      · rename_i hb
        have hb := Nat.eq_of_beq_eq_true hb
        subst hb
        simp only [Option.some.injEq, Prod.mk.injEq] at hs
        obtain ⟨rfl, rfl, rfl⟩ := hs
        refine ⟨_, _, _, rfl, hp.1, ?_⟩
        rintro v w' ⟨m', I', h1, h2, h3⟩
        simp only [ups] at h1 h2 h3
        obtain ⟨I2, h4, h5⟩ := freeze_mem h1 (upd_same _ _ _)
        have e : upd (upd ol b (some (.row ty sh zs))) b (some (.frz ty sh zs)) = upd ol b (some (.frz ty sh zs)) := by
          funext j
          by_cases hj : j = b
          · subst hj; rw [upd_same, upd_same]
          · rw [upd_other _ _ hj, upd_other _ _ hj, upd_other _ _ hj]
        rw [e] at h4 h5
        refine ⟨m', I2, h4, h2.trans h5, ?_⟩
        rw [val_own] at h3
        obtain ⟨a0, c0, k, rfl, g1, g2, g3⟩ := h3
        have hk : k = zs.length := by simpa only [gh, upd_same, Option.some.injEq] using g1.symm
        have hv : Value.slice a0 n c0 = m' b := g3 (by rw [hk]; exact hp.2)
        rw [hv]
        have := frz_cells h4 (b := b) (upd_same _ _ _)
        have h6 : AV.cells (gh (upd ol b (some (.frz ty sh zs))) m') I2 w' (.d (.sl sh zs)) [m' b] := by simp only [AV.cells]; exact this
        exact val_of_cells h6
      · cases hs
    · cases hs
  · exact ⟨val, ow, p, hs, hp, fun _ _ h => h⟩

theorem step_wp (hm : Mem C E ol m I w) (hl : Looks (gh ol m) I w look a) {h : Hint} {val : AV} {ow : List (Nat × Ob)} {p : Prop} (hs : stepOp C look ol o h = some (val, ow, p)) (hp : p)
    (hfr : ∀ i ∈ freshOf C look o h, ol i = none)
    {K : Act → World → Prop} {Q : Exit → Act → World → Prop} (hK : ∀ v w', Done C E ol m I w val ow v w' → K (a.put o.dst v) w') {rd : Option Nat} : o.wpIn (fen rd) 0 C.P a w K Q := by
  unfold stepOp at hs
  unfold freshOf at hfr
  cases hop : o.op <;> rw [hop] at hs hfr <;> try (simp only at hs; cases hs; done)
  all_goals have hd : ∀ c, o.op ≠ .defer c := by intro c e; rw [hop] at e; cases e
  case move x =>
    obtain ⟨h1, rfl, rfl⟩ := res_val1 hs
    exact wp_value (v := a.eval x) hd (by unfold execOp; rw [hop]; rfl) (hK _ _ (Done.same hm (evA_val hm hl h1)))
  case assign x =>
    obtain ⟨h1, rfl, rfl⟩ := res_val1 hs
    exact wp_value (v := a.eval x) hd (by unfold execOp; rw [hop]; rfl) (hK _ _ (Done.same hm (evA_val hm hl h1)))
  case pick c x y =>
    simp only at hs
    split at hs
    · rename_i hc
      obtain ⟨h1, rfl, rfl⟩ := res_val1 hs
      have hcv := evA_val hm hl hc
      rw [val_bool] at hcv
      exact wp_value (v := a.eval x) hd (by unfold execOp; rw [hop]; simp [hcv, asBool]) (hK _ _ (Done.same hm (evA_val hm hl h1)))
    · rename_i hc
      obtain ⟨h1, rfl, rfl⟩ := res_val1 hs
      have hcv := evA_val hm hl hc
      rw [val_bool] at hcv
      exact wp_value (v := a.eval y) hd (by unfold execOp; rw [hop]; simp [hcv, asBool]) (hK _ _ (Done.same hm (evA_val hm hl h1)))
    · cases hs
  case box t x =>
    simp only at hs
    split at hs
    · rename_i y hy
      split at hs
      · rename_i h1
        simp only [Option.some.injEq, Prod.mk.injEq] at hs
        obtain ⟨rfl, rfl, rfl⟩ := hs
        obtain ⟨cs, hc, hv⟩ := cells_of_val h1 (evA_val hm hl hy)
        refine wp_value hd (by unfold execOp; rw [hop]; exact run_v _ (run_box t (a.eval x))) (hK _ _ (done_box hm (hfr (nm o.dst) (by simp)) ?_))
        rw [hv, vOf_cells hc]
        exact hc
      · cases hs
    · cases hs
  case alloc t =>
    simp only at hs
    split at hs
    · rename_i e he
      simp only [Option.some.injEq, Prod.mk.injEq] at hs
      obtain ⟨rfl, rfl, rfl⟩ := hs
      obtain ⟨A, h1, h2, _⟩ := run_alloc (o := ol) (m := m) (I := I) (w := w) he
      exact wp_value hd (by unfold execOp; rw [hop]; exact run_v _ h1) (hK _ _ (done_box hm (hfr (nm o.dst) (by simp)) h2))
    · cases hs
  case build t parts =>
    simp only at hs
    split at hs
    · rename_i l hl'
      obtain ⟨h1, rfl, rfl⟩ := res_val1 hs
      have hparts := evP_parts hm hl (partTy C.T t) parts.toList l hl'
      obtain ⟨z, h2, h3⟩ := run_buildD (w := w) (parts := parts.map fun (i, x) => (i, a.eval x)) h1 (by simpa using hparts)
      exact wp_value hd (by unfold execOp; rw [hop]; exact run_v _ h2) (hK _ _ (Done.same hm h3))
    · cases hs
  case buildSlice t n parts =>
    simp only at hs
    split at hs
    · rename_i l hl'
      split at hs
      · rename_i el sh ys q hlit
        have hparts := evP_parts hm hl (partTy C.T t) parts.toList l hl'
        split at hs
        · simp only [Option.some.injEq, Prod.mk.injEq] at hs
          obtain ⟨rfl, rfl, rfl⟩ := hs
          obtain ⟨A, h1, h2, h3, h4, h5⟩ := run_litD (parts := parts.map fun (i, x) => (i, a.eval x)) hm hlit hp (by simpa using hparts)
          have hA := D.cellsL_length _ _ _ h2
          refine wp_value hd (by unfold execOp; rw [hop]; exact run_v _ h1) (hK _ _ ?_)
          have := done_row hm (hfr (nm o.dst) (by simp)) (A := A) (el := el) (cap := n) (r := A.toList) (by rw [← hA, List.take_length]) h2 (by rw [← Array.length_toList, hA, h3]) (by omega) (by unfold maxLen; omega) (by unfold lim; omega)
          rw [h3] at this ⊢
          exact this
        · simp only [Option.some.injEq, Prod.mk.injEq] at hs
          obtain ⟨rfl, rfl, rfl⟩ := hs
          obtain ⟨A, h1, h2, h3, h4, h5⟩ := run_litD (parts := parts.map fun (i, x) => (i, a.eval x)) hm hlit hp (by simpa using hparts)
          have hA := D.cellsL_length _ _ _ h2
          refine wp_value hd (by unfold execOp; rw [hop]; exact run_v _ h1) (hK _ _ ?_)
          have := done_data hm (A := A) (el := el) (cap := n) (r := A.toList) (by rw [← hA, List.drop_length, List.append_nil]) h2 (by omega) (by unfold lim; omega)
          rw [h3] at this
          exact this
      · cases hs
    · cases hs
  case load t x =>
    simp only at hs
    split at hs
    · rename_i y hy
      obtain ⟨h1, rfl⟩ := res_valP hs
      obtain ⟨z, h2, h3⟩ := run_loadD hm h1 hp (evA_val hm hl hy)
      exact wp_value hd (by unfold execOp; rw [hop]; exact run_v _ h2) (hK _ _ (Done.same hm h3))
    · cases hs
  case store t x y =>
    simp only at hs
    split at hs
    · rename_i x' y' hx hy
      split at hs
      · rename_i ow' q h1
        simp only [Option.some.injEq, Prod.mk.injEq] at hs
        obtain ⟨rfl, rfl, rfl⟩ := hs
        obtain ⟨w', h2, h3⟩ := run_storeD hm h1 hp (evA_val hm hl hx) (evA_val hm hl hy)
        have : (execOp a.eval o).run C.P w = .ok .skip w' := by
          unfold execOp
          rw [hop]
          simp only [Sem.run_bind, h2, Result.andThen_ok]
          rfl
        refine ⟨fun _ _ => trivial, ?_⟩
        rw [Oper.semAt_eq _ _ _ hd, this, Oper.uponIn_skip]
        exact hK _ _ h3
      · cases hs
    · cases hs
  case nilCheck x =>
    simp only at hs
    split at hs <;> first | (cases hs; done) | skip
    · rename_i b q hx
      simp only [Option.some.injEq, Prod.mk.injEq] at hs
      obtain ⟨rfl, rfl, rfl⟩ := hs
      have hv := evA_val hm hl hx
      obtain ⟨blk, k, _, _, e⟩ := val_ref.1 hv
      exact wp_value (v := a.eval x) hd (by unfold execOp; rw [hop]; simp only [e]; rfl) (hK _ _ (Done.same hm hv))
    · rename_i y hx
      simp only [Option.some.injEq, Prod.mk.injEq] at hs
      obtain ⟨rfl, rfl, rfl⟩ := hs
      have hv := evA_val hm hl hx
      obtain ⟨blk, k, vs, _, e, _⟩ := val_cp.1 hv
      exact wp_value (v := a.eval x) hd (by unfold execOp; rw [hop]; simp only [e]; rfl) (hK _ _ (Done.same hm hv))
    · rename_i b k i q hx
      simp only [Option.some.injEq, Prod.mk.injEq] at hs
      obtain ⟨rfl, rfl, rfl⟩ := hs
      have hv := evA_val hm hl hx
      obtain ⟨ad, n, e, _⟩ := val_rref.1 hv
      exact wp_value (v := a.eval x) hd (by unfold execOp; rw [hop]; simp only [e]; rfl) (hK _ _ (Done.same hm hv))
    · rename_i f l hx
      simp only [Option.some.injEq, Prod.mk.injEq] at hs
      obtain ⟨rfl, rfl, rfl⟩ := hs
      have hv := evA_val hm hl hx
      obtain ⟨vs, e, _⟩ := val_fn.1 hv
      exact wp_value (v := a.eval x) hd (by unfold execOp; rw [hop]; simp only [e]; rfl) (hK _ _ (Done.same hm hv))
    · rename_i b hx
      simp only [Option.some.injEq, Prod.mk.injEq] at hs
      obtain ⟨rfl, rfl, rfl⟩ := hs
      have hv := evA_val hm hl hx
      obtain ⟨blk, k, _, _, e⟩ := val_yd.1 hv
      exact wp_value (v := a.eval x) hd (by unfold execOp; rw [hop]; simp only [e]; rfl) (hK _ _ (Done.same hm hv))
  case binOp op t x y yt =>
    simp only at hs
    split at hs
    · rename_i x' y' hx hy
      split at hs
      · rename_i d q h1
        simp only [Option.some.injEq, Prod.mk.injEq] at hs
        obtain ⟨rfl, rfl, rfl⟩ := hs
        obtain ⟨z, h4, h5⟩ := run_eqD (ox := x) (oy := y) h1 hp (evA_val hm hl hx) (evA_val hm hl hy)
        exact wp_value hd (by unfold execOp; rw [hop]; exact run_v _ h4) (hK _ _ (Done.same hm h5))
      · cases hs
    · rename_i x' y' _ hx hy
      split at hs
      · rename_i e he
        have key : ∀ d q, binD op x' y' = some (d, q) → q → (e.td = .bool ∨ ∀ b, x' ≠ .bool b) → val = .d d → ow = [] → o.wpIn (fen rd) 0 C.P a w K Q := by
          rintro d q h1 h2 h3 rfl rfl
          obtain ⟨z, h4, h5⟩ := run_binD (ox := x) (oy := y) he h3 h1 h2 (evA_val hm hl hx) (evA_val hm hl hy)
          exact wp_value hd (by unfold execOp; rw [hop]; exact run_v _ h4) (hK _ _ (Done.same hm h5))
        split at hs
        · rename_i hb _
          split at hs
          · rename_i d q h1
            simp only [Option.some.injEq, Prod.mk.injEq] at hs
            exact key d q h1 (hs.2.2 ▸ hp) (.inl hb) hs.1.symm hs.2.1.symm
          · cases hs
        · cases hs
        · rename_i hb1 hb2 _
          split at hs
          · rename_i d q h1
            simp only [Option.some.injEq, Prod.mk.injEq] at hs
            exact key d q h1 (hs.2.2 ▸ hp) (.inr (fun b e => hb1 b e)) hs.1.symm hs.2.1.symm
          · cases hs
      · cases hs
    · cases hs
  case unOp op t x =>
    simp only at hs
    split at hs
    · rename_i y hy
      obtain ⟨h1, rfl, rfl⟩ := res_val1 hs
      obtain ⟨z, h2, h3⟩ := run_unD (C := C) h1 (evA_val hm hl hy)
      exact wp_value hd (by unfold execOp; rw [hop]; exact run_v _ h2) (hK _ _ (Done.same hm h3))
    · cases hs
  case convert src dst x =>
    simp only at hs
    split at hs
    · rename_i y hy
      obtain ⟨h1, rfl, rfl⟩ := res_val1 hs
      obtain ⟨z, h2, h3⟩ := run_convD h1 (evA_val hm hl hy)
      exact wp_value hd (by unfold execOp; rw [hop]; exact run_v _ h2) (hK _ _ (Done.same hm h3))
    · cases hs
  case makeFunc fn first caps =>
    cases fn <;> try (simp only at hs; cases hs; done)
    rename_i f
    simp only at hs
    split at hs
    · rename_i h0
      split at hs
      · rename_i l hl'
        split at hs
        · rename_i hone
          simp only [Option.some.injEq, Prod.mk.injEq] at hs
          obtain ⟨rfl, rfl, rfl⟩ := hs
          have hvals := (evL_vals hm hl _ _ l hl').one_vals hone
          have hfirst : first = #[] := by
            have := Nat.eq_of_beq_eq_true h0
            exact Array.eq_empty_of_size_eq_zero this
          subst hfirst
          refine wp_value (v := .func (.func f) #[] (caps.toList.map a.eval).toArray) hd ?_ (hK _ _ (Done.same hm (val_fn.2 ⟨_, rfl, hvals⟩)))
          unfold execOp
          rw [hop]
          refine run_v _ ?_
          simp only [Instr.makeFunc, List.map_toArray, List.map_nil, Sem.run_pure]
          rw [← map_toArray]
        · cases hs
      · cases hs
    · cases hs
  case makeSlice t l c =>
    simp only at hs
    split at hs
    · rename_i l' c' hl' hc'
      split at hs
      · rename_i el sh ys q h1
        simp only [Option.some.injEq, Prod.mk.injEq] at hs
        obtain ⟨rfl, rfl, rfl⟩ := hs
        obtain ⟨v, w', h2, h3⟩ := run_makeD hm (hfr (nm o.dst) (by simp)) h1 hp (evA_val hm hl hl') (evA_val hm hl hc')
        exact wp_value hd (by unfold execOp; rw [hop]; exact run_v _ h2) (hK _ _ h3)
      · cases hs
    · cases hs
  case slice t x lo hi mx =>
    cases mx <;> try (simp only at hs; cases hs; done)
    simp only at hs
    split at hs
    · rename_i y hy
      have hx := evA_val hm hl hy
      cases lo with
      | none =>
        cases hi with
        | none =>
          simp only at hs
          obtain ⟨h1, rfl⟩ := res_valP hs
          obtain ⟨z, h2, h3⟩ := run_sliceD (lv := none) (hv := none) hm h1 hp hx trivial trivial
          exact wp_value hd (by unfold execOp; rw [hop]; exact run_v _ h2) (hK _ _ (Done.same hm h3))
        | some u =>
          simp only at hs
          split at hs
          · rename_i u' hu
            obtain ⟨h1, rfl⟩ := res_valP hs
            obtain ⟨z, h2, h3⟩ := run_sliceD (lv := none) (hv := some (a.eval u)) hm h1 hp hx trivial (evA_val hm hl hu)
            exact wp_value hd (by unfold execOp; rw [hop]; exact run_v _ h2) (hK _ _ (Done.same hm h3))
          · cases hs
      | some l =>
        cases hi with
        | none =>
          simp only at hs
          split at hs
          · rename_i l' hl'
            obtain ⟨h1, rfl⟩ := res_valP hs
            obtain ⟨z, h2, h3⟩ := run_sliceD (lv := some (a.eval l)) (hv := none) hm h1 hp hx (evA_val hm hl hl') trivial
            exact wp_value hd (by unfold execOp; rw [hop]; exact run_v _ h2) (hK _ _ (Done.same hm h3))
          · cases hs
        | some u =>
          simp only at hs
          split at hs
          · rename_i l' u' hl' hu
            obtain ⟨h1, rfl⟩ := res_valP hs
            obtain ⟨z, h2, h3⟩ := run_sliceD (lv := some (a.eval l)) (hv := some (a.eval u)) hm h1 hp hx (evA_val hm hl hl') (evA_val hm hl hu)
            exact wp_value hd (by unfold execOp; rw [hop]; exact run_v _ h2) (hK _ _ (Done.same hm h3))
          · cases hs
    · cases hs
  case fieldAddr s x f =>
    simp only at hs
    split at hs
    · rename_i y hy
      obtain ⟨h1, rfl⟩ := res_valP hs
      obtain ⟨z, h2, h3⟩ := run_fieldAddrD hm h1 hp (evA_val hm hl hy)
      exact wp_value hd (by unfold execOp; rw [hop]; exact run_v _ h2) (hK _ _ (Done.same hm h3))
    · cases hs
  case field t x f =>
    simp only at hs
    split at hs
    · rename_i y hy
      obtain ⟨h1, rfl, rfl⟩ := res_val1 hs
      obtain ⟨z, h2, h3⟩ := run_fieldD h1 (evA_val hm hl hy)
      exact wp_value hd (by unfold execOp; rw [hop]; exact run_v _ h2) (hK _ _ (Done.same hm h3))
    · cases hs
  case indexAddr t x i =>
    simp only at hs
    split at hs
    · rename_i y z hy hz
      obtain ⟨h1, rfl⟩ := res_valP hs
      obtain ⟨u, h2, h3⟩ := run_indexAddrD hm h1 hp (evA_val hm hl hy) (evA_val hm hl hz)
      exact wp_value hd (by unfold execOp; rw [hop]; exact run_v _ h2) (hK _ _ (Done.same hm h3))
    · cases hs
  case index t x i =>
    simp only at hs
    split at hs
    · rename_i y z hy hz
      obtain ⟨h1, rfl⟩ := res_valP hs
      obtain ⟨u, h2, h3⟩ := run_indexD h1 hp (evA_val hm hl hy) (evA_val hm hl hz)
      exact wp_value hd (by unfold execOp; rw [hop]; exact run_v _ h2) (hK _ _ (Done.same hm h3))
    · cases hs
  case extract t i =>
    simp only at hs
    split at hs
    · rename_i y hy
      obtain ⟨h1, rfl, rfl⟩ := res_val1 hs
      obtain ⟨z, h2, h3⟩ := run_extractD (C := C) h1 (evA_val hm hl hy)
      exact wp_value hd (by unfold execOp; rw [hop]; exact run_v _ h2) (hK _ _ (Done.same hm h3))
    · cases hs
  case call c =>
    simp only at hs hfr
    obtain ⟨callee, args, argTypes⟩ := c
    simp only at hs hfr
    cases callee with
    | value f =>
      simp only at hs hfr
      split at hs
      · rename_i b hf'
        split at hs
        · rename_i args' hargs'
          refine callY_wp hm hs hp (evA_val hm hl hf') (evL_vals hm hl _ _ args' hargs') (fun r os' ids news e => by subst e; exact hfr) hK hd (fun r hr => ?_)
          rw [← hr, ← map_toArray]
          unfold execOp
          rw [hop]
          simp only [resolve]
        · cases hs
      · rename_i f' _ hf'
        split at hs
        · rename_i args' hargs'
          refine call_wp hm hs hp (evA_val hm hl hf') (evL_vals hm hl _ _ args' hargs') (fun r os' ids news e => by subst e; exact hfr) hK hd (fun r hr => ?_)
          rw [← hr, ← map_toArray]
          unfold execOp
          rw [hop]
          simp only [resolve]
        · cases hs
      · cases hs
    | invoke recv n => simp only at hs; cases hs
    | builtin b =>
      cases b <;> try (simp only at hs; cases hs; done)
      case len =>
        simp only at hs
        split at hs
        · rename_i x t hx ht
          split at hs
          · rename_i y hy
            obtain ⟨h1, rfl, rfl⟩ := res_val1 hs
            have hargs : args = #[x] := by apply Array.ext'; exact hx
            have htys : argTypes = #[t] := by apply Array.ext'; exact ht
            subst hargs htys
            obtain ⟨z, h2, h3⟩ := run_lenD (ty := o.type) h1 (evA_val hm hl hy)
            refine wp_value (v := z) hd ?_ (hK _ _ (Done.same hm h3))
            unfold execOp
            rw [hop]
            simp [resolve, invoke, builtin, h2]
          · cases hs
        · cases hs
      case append =>
        simp only at hs hfr
        split at hs
        · rename_i x y t t' hx ht
          split at hs
          · rename_i htt
            have htt := Nat.eq_of_beq_eq_true htt
            subst htt
            split at hs
            · rename_i x' y' hx' hy'
              have hargs : args = #[x, y] := by apply Array.ext'; exact hx
              have htys : argTypes = #[t, t] := by apply Array.ext'; exact ht
              subst hargs htys
              obtain ⟨val0, ow0, p0, hs0, hp0, hdone⟩ := frzApp_done (C := C) (E := E) (ol := ol) (m := m) (I := I) (w := w) hs hp
              obtain ⟨v, w', h2, h3⟩ := run_appD (ty := o.type) hm hs0 hp0 (fun ⟨sh, e⟩ => by subst e; simp only [hx'] at hfr; exact hfr _ (by simp)) (evA_val hm hl hx') (evA_val hm hl hy')
              refine wp_value (v := v) hd ?_ (hK _ _ (hdone _ _ h3))
              unfold execOp
              rw [hop]
              simp [resolve, invoke, builtin, h2]
            · cases hs
          · cases hs
        · cases hs
end
end Go.Sep
