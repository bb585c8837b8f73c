/- Loops over a function: the loop; its rounds. -/
import Derived.Test.YtkchimbalpiilaaGreatSepV
import Derived.RangeFuncIn
set_option linter.all false
set_option linter.deprecated false
namespace Go.Sep
open Go

/-- The record of a loop. -/
def rcd (fn : FuncId) (ps : Array Tmp) (ag bg : Code) (D : Nat) (st : LoopState) (pe : Option Code) : Array Value → Obj :=
  fun tm => .loop { state := st, pending := pe, fn, tmps := tm, params := ps, assign := ag, body := bg, defers := D }

/-- Some slots of a state, the others unknown. -/
def mkSl (t : List (Nat × AV)) (keys : List Nat) : Nat → Nat → List AV
  | _, 0 => []
  | i, n + 1 => (if memB i keys then at' t i else .any) :: mkSl t keys (i + 1) n
theorem mkSl_length (t : List (Nat × AV)) (keys : List Nat) : ∀ (n i : Nat), (mkSl t keys i n).length = n
  | 0, _ => rfl
  | n + 1, i => by simp only [mkSl, List.length_cons, mkSl_length t keys n]
theorem mkSl_get (t : List (Nat × AV)) (keys : List Nat) : ∀ (n i k : Nat), (mkSl t keys i n).getD k .any = at' t (i + k) ∨ (mkSl t keys i n).getD k .any = .any
  | 0, i, k => by right; simp [mkSl]
  | n + 1, i, 0 => by
    simp only [mkSl, List.getD_cons_zero, Nat.add_zero]
    split
    · exact .inl rfl
    · exact .inr rfl
  | n + 1, i, k + 1 => by
    simp only [mkSl, List.getD_cons_succ]
    have := mkSl_get t keys n (i + 1) k
    rwa [show i + 1 + k = i + (k + 1) by omega] at this
/-- The slots that are told, the others unknown. -/
def slN (n : Nat) (l : List (Nat × AV)) : List AV := mkSl l (keysOf l) 0 n
def keysLt (n : Nat) : List (Nat × AV) → Bool
  | [] => true
  | (k, _) :: l => Nat.blt k n && keysLt n l
theorem keysLt_at {n k : Nat} : ∀ {l : List (Nat × AV)}, keysLt n l = true → memB k (keysOf l) = true → k < n
  | [], _, h => by simp [keysOf, memB] at h
  | (i, x) :: l, hl, h => by
    simp only [keysLt, Bool.and_eq_true] at hl
    simp only [keysOf, memB, Bool.or_eq_true] at h
    rcases h with h | h
    · have := Nat.eq_of_beq_eq_true h
      subst this
      simpa [Nat.blt_eq] using hl.1
    · exact keysLt_at hl.2 h
theorem at_keys {k : Nat} : ∀ {l : List (Nat × AV)}, memB k (keysOf l) = false → at' l k = .any
  | [], _ => rfl
  | (i, x) :: l, h => by
    simp only [keysOf, memB, Bool.or_eq_false_iff] at h
    rw [at_cons, upd_other _ _ (by rintro rfl; simp at h)]
    exact at_keys h.2
theorem mkSl_get' (t : List (Nat × AV)) (keys : List Nat) : ∀ (n i k : Nat), k < n → memB (i + k) keys = true → (mkSl t keys i n).getD k .any = at' t (i + k)
  | 0, i, k, h, _ => by omega
  | n + 1, i, 0, _, h => by simp only [mkSl, List.getD_cons_zero, Nat.add_zero] at h ⊢; rw [if_pos h]
  | n + 1, i, k + 1, hk, h => by
    simp only [mkSl, List.getD_cons_succ]
    have := mkSl_get' t keys n (i + 1) k (by omega) (by rw [show i + 1 + k = i + (k + 1) by omega]; exact h)
    rwa [show i + 1 + k = i + (k + 1) by omega] at this
theorem slN_val {G : Gh} {I : Nat → Prop} {w : World} {n k : Nat} {l : List (Nat × AV)} {v : Value} (hl : keysLt n l = true) (h : AV.val G I w ((slN n l).getD k .any) v) : AV.val G I w (at' l k) v := by
  cases hm : memB k (keysOf l) with
  | false => rw [at_keys hm]; simp only [AV.val]
  | true =>
    have := mkSl_get' l (keysOf l) n 0 k (keysLt_at hl hm) (by rw [Nat.zero_add]; exact hm)
    rw [Nat.zero_add] at this
    unfold slN at h
    rwa [this] at h

section
variable {C : Cx} {E : En} {N : Nat} {o : Nat → Option Ob} {m : Nat → Value} {I : Nat → Prop} {w : World}

theorem alloc_old (w : World) (ob : Obj) (b : Nat) (hb : b < w.heap.size) : (w.alloc ob).heap[b]? = w.heap[b]? := by
  show (w.heap.push ob)[b]? = _
  rw [Array.getElem?_push_lt hb, Array.getElem?_eq_getElem hb]

theorem raw_new (hm : Mem C E o m I w) {i : Nat} (hi : o i = none) (mk : Array Value → Obj) (sl : List AV) (tm : Array Value) (hz : tm.size = sl.length) (ht : ∀ t, AV.val (gh o m) I w (sl.getD t .any) (tm.getD t undef)) :
    Mem C E (upd o i (some (.raw mk sl))) (upd m i (.pointer (some ⟨w.heap.size, 0, none⟩))) I (w.alloc (mk tm)) ∧
    Later o m I w (upd o i (some (.raw mk sl))) (upd m i (.pointer (some ⟨w.heap.size, 0, none⟩))) I (w.alloc (mk tm)) bad0 := by
  have hs : Spares o m w (w.alloc (mk tm)) i := ⟨by simp, fun b hb _ => alloc_old w _ b hb, ⟨rfl, rfl, rfl⟩⟩
  have hl : Later o m I w (upd o i (some (.raw mk sl))) (upd m i (.pointer (some ⟨w.heap.size, 0, none⟩))) I (w.alloc (mk tm)) bad0 := Later.new hm hs (fun _ h => h) hi
  refine ⟨Mem.put hm hs (fun _ h => h) (fun _ h => .inl h) hl ⟨w.heap.size, tm, rfl, World.alloc_heap_new w _, hz, fun t => hl.val (AV.clear_none _) (ht t)⟩ (fun _ b hb => .inr ?_), hl⟩
  simp only [Value.block?, Option.some.injEq] at hb
  subst hb
  simp

theorem lk_zip : ∀ (names : List Nat) (os : List Ob) (b : Nat), os.length = names.length → lk (zipNames names os) b = match posIn names b with
    | some j => os[j]?
    | none => none
  | [], [], b, _ => by simp [zipNames, lk, posIn]
  | [], _ :: _, _, h => by simp at h
  | _ :: _, [], _, h => by simp at h
  | i :: l, c :: os, b, h => by
    simp only [zipNames, lk, posIn]
    cases hb : Nat.beq i b with
    | true => simp
    | false =>
      simp only [Bool.false_eq_true, if_false]
      rw [lk_zip l os b (by simpa using h)]
      cases posIn l b <;> simp

def baseO (s : S) (mk : Array Value → Obj) (sl : List AV) : List (Nat × Ob) := (997, .raw mk sl) :: (998, .raw dfr []) :: s.o

/-- What a loop over a function does: the objects behind it (the record first), and what is to be shown. -/
def rangeC (C : Cx) (s : S) (K : FuncId) (caps : List AV) (mk : Array Value → Obj) (sl : List AV) (r : AV) (os' : List Ob) (ids : List Nat) : Option (List (Nat × Ob) × List Prop) :=
  match lk (baseO s mk sl) with
  | ol => if seens' ol (997 :: ids) ([.yd 997] ++ caps) then none else match callF C ol (.fn K caps) [.yd 997] (.call r os' (997 :: ids) []) with
    | none => none
    | some (_, ow, _) => if no998 ow then match convObs ol (997 :: ids) (997 :: ids), convs ol (997 :: ids) ([.yd 997] ++ caps) with
        | some (os, _), some (cargs, _) => some (ow, convObsPs ol (997 :: ids) (997 :: ids) ++ (convPss ol (997 :: ids) ([.yd 997] ++ caps) ++ [FnD C K cargs os r os']))
        | _, _ => none
      else none

theorem rangeC_ok {s : S} {K : FuncId} {caps : List AV} {mk : Array Value → Obj} {sl : List AV} {r : AV} {os' : List Ob} {ids : List Nat} {ow : List (Nat × Ob)} {ps : List Prop}
    (h : rangeC C s K caps mk sl r os' ids = some (ow, ps)) (hp : All ps) : ∃ val p, callF C (lk (baseO s mk sl)) (.fn K caps) [.yd 997] (.call r os' (997 :: ids) []) = some (val, ow, p) ∧ p ∧ no998 ow = true ∧
      ow = zipNames (997 :: ids) (os'.map (Ob.ren (nameOf (997 :: ids)))) ∧ os'.length = (997 :: ids).length ∧ nodupB (997 :: ids) = true := by
  unfold rangeC at h
  simp only at h
  split at h
  · cases h
  · rename_i hsn
    split at h
    · cases h
    · rename_i val ow' p hc
      split at h
      · rename_i hno
        split at h
        · rename_i os p1 cargs p2 hos hargs
          simp only [Option.some.injEq, Prod.mk.injEq] at h
          obtain ⟨rfl, rfl⟩ := h
          obtain ⟨a1, a2⟩ := all_app _ _ hp
          obtain ⟨a3, a4⟩ := all_app _ _ a2
          refine ⟨val, p, hc, ?_, hno, ?_⟩
          · unfold callF at hc
            simp only [hos, hargs] at hc
            split at hc
            · simp only [Option.some.injEq, Prod.mk.injEq] at hc
              obtain ⟨_, _, rfl⟩ := hc
              exact ⟨convObsPs_ok _ _ _ hos a1, convPss_ok _ _ _ hargs a3, fun h => absurd h hsn, a4.1⟩
            · cases hc
          · unfold callF at hc
            simp only [hos, hargs] at hc
            split at hc
            · rename_i hcond
              simp only [Bool.and_eq_true, List.append_nil] at hcond
              simp only [Option.some.injEq, Prod.mk.injEq, List.append_nil] at hc
              obtain ⟨_, rfl, _⟩ := hc
              exact ⟨rfl, Nat.eq_of_beq_eq_true hcond.2, hcond.1.2⟩
            · cases hc
        · cases h
      · cases h

/-- Behind a loop over a function: it went through, or a round has left a jump. -/
def AfterL (C : Cx) (E : En) (N : Nat) (s : S) (od : List (Nat × Ob)) (Q : Exit → Act → World → Prop) : Option Code → Prop
  | none => NX C E N ⟨s.t, od ++ (998, .raw dfr []) :: s.o⟩ (Q .normal)
  | some c => CD C E N c ⟨s.t, od ++ (998, .raw dfr []) :: s.o⟩ Q

def RG (C : Cx) (E : En) (N : Nat) (s : S) (ps : Array Tmp) (ag bg : Code) (K : FuncId) (caps : List AV) (Q : Exit → Act → World → Prop) (fn : FuncId) (D : Nat) : Prop :=
  ∃ keys r os' ids ow pl st pe sl', rangeC C s K caps (rcd fn ps ag bg D .ready none) (mkSl s.t keys 0 N) r os' ids = some (ow, pl) ∧ All pl ∧ lk ow 997 = some (.raw (rcd fn ps ag bg D st pe) sl') ∧ (st ≠ LoopState.busy) ∧
    AfterL C E N s ((997, .raw (rcd fn ps ag bg D .exhausted pe) sl') :: ow) Q pe

theorem lk_base998 (s : S) (od : List (Nat × Ob)) (h : no998 od = true) : lk (od ++ (998, Ob.raw dfr []) :: s.o) 998 = some (.raw dfr []) := by
  induction od with
  | nil => rfl
  | cons x od ih =>
    obtain ⟨i, c⟩ := x
    simp only [no998, Bool.and_eq_true, Bool.not_eq_true'] at h
    simp only [List.cons_append, lk, h.1, Bool.false_eq_true, if_false]
    exact ih h.2

/-- A LOOP OVER A FUNCTION. -/
theorem CD.range (hrd : E.rd = none) {s : S} {g : Operand} {ps : Array Tmp} {ag bg : Code} {Q : Exit → Act → World → Prop} (K : FuncId) (caps : List AV) (hfr : (freshO s.o 997 && (match lk s.o 998 with
      | none => true
      | some _ => false)) = true)
    (hg : evA C (at' s.t) 0 g = some (.fn K caps)) (h : ∀ fn D, RG C E N s ps ag bg K caps Q fn D) : CD C E N (.rangeFunc g ps ag bg) s Q := by
  rintro a w ⟨hE, hN, m, I, hdf, hm, hl, ht⟩
  simp only [Bool.and_eq_true] at hfr
  have h7 := (freshO_ok hfr.1).1
  have h8 : lk s.o 998 = none := by
    cases hh : lk s.o 998 with
    | none => rfl
    | some c => rw [hh] at hfr; exact absurd hfr.2 (by simp)
  have hdef : a.defers = [] := by
    rcases hdf with ⟨h, _⟩ | ⟨D, _, h9, _⟩
    · exact h
    · have h9' : lk s.o 998 = some (.raw dfr []) := h9
      rw [h8] at h9'; cases h9'
  have hfen : fen E.rd = Fence.wide := by rw [hrd]; rfl
  show (Code.rangeFunc g ps ag bg).wpIn (fen E.rd) 0 C.P Q a w
  rw [hfen]
  refine wpIn_rangeFunc fun fn _ => ?_
  obtain ⟨keys, r, os', ids, ow, pl, st, pe, sl', hC, hpl, h997, hst, hafter⟩ := h fn w.heap.size
  obtain ⟨val, p, hcall, hp, hno, how, hlen, hnd⟩ := rangeC_ok hC hpl
  -- the block for deferred calls, and the record
  have hm1 := raw_new hm (i := 998) h8 dfr [] #[] rfl (fun t => by simp only [List.getD_nil, AV.val])
  obtain ⟨hm1, hl1⟩ := hm1
  have h7' : upd s.sf.o 998 (some (.raw dfr [])) 997 = none := by rw [upd_other _ _ (by decide)]; exact h7
  have hslots : ∀ t, AV.val (gh (upd s.sf.o 998 (some (.raw dfr []))) (upd m 998 (.pointer (some ⟨w.heap.size, 0, none⟩)))) I (w.alloc (dfr #[])) ((mkSl s.t keys 0 N).getD t .any) (a.tmps.getD t undef) := by
    intro t
    rcases mkSl_get s.t keys N 0 t with h | h
    · rw [h, Nat.zero_add]; exact hl1.val (AV.clear_none _) (ht t)
    · rw [h]; simp only [AV.val]
  have hm2 := raw_new hm1 (i := 997) h7' (rcd fn ps ag bg w.heap.size .ready none) (mkSl s.t keys 0 N) a.tmps (by rw [mkSl_length]; exact hN) hslots
  obtain ⟨hm2, hl2⟩ := hm2
  have hbase : upd (upd s.sf.o 998 (some (.raw dfr []))) 997 (some (.raw (rcd fn ps ag bg w.heap.size .ready none) (mkSl s.t keys 0 N))) = lk (baseO s (rcd fn ps ag bg w.heap.size .ready none) (mkSl s.t keys 0 N)) := by
    simp only [baseO, lk_cons]; rfl
  rw [hbase] at hm2 hl2
  have hsz1 : (w.alloc (dfr #[])).heap.size = w.heap.size + 1 := by simp
  rw [hsz1] at hm2 hl2
  obtain ⟨m2, hm2e⟩ : ∃ m2, m2 = upd (upd m 998 (.pointer (some ⟨w.heap.size, 0, none⟩))) 997 (.pointer (some ⟨w.heap.size + 1, 0, none⟩)) := ⟨_, rfl⟩
  rw [← hm2e] at hm2 hl2
  have hm997 : m2 997 = .pointer (some ⟨w.heap.size + 1, 0, none⟩) := by rw [hm2e, upd_same]
  have hm998 : m2 998 = .pointer (some ⟨w.heap.size, 0, none⟩) := by rw [hm2e, upd_other _ _ (by decide), upd_same]
  have hev := evA_val (C := C) (look := at' s.t) (a := a) hm (fun t => ht t) hg
  have hev2 := hl2.val (AV.clear_none _) (hl1.val (AV.clear_none _) hev)
  have hyd : AV.val (gh (lk (baseO s (rcd fn ps ag bg w.heap.size .ready none) (mkSl s.t keys 0 N))) m2) I ((w.alloc (dfr #[])).alloc (rcd fn ps ag bg w.heap.size .ready none a.tmps)) (.yd 997) (.func (.yield (w.heap.size + 1)) #[] #[]) := by
    rw [val_yd]
    refine ⟨w.heap.size + 1, 0, ?_, ?_, rfl⟩
    · simp only [gh, hm997]; rfl
    · simp only [gh, baseO, lk]; rfl
  obtain ⟨k, cvs, hfv, ⟨fnk, hk1, hk2, hk3⟩, hcalls⟩ := callF_calls (vs := [.func (.yield (w.heap.size + 1)) #[] #[]]) hm2 hcall hp hev2 (.cons hyd .nil) (fun r os' ids news e i hi => by cases e; cases hi)
  refine ⟨w.heap.size + 1, [{ target := .collected w.heap.size, args := #[] }], (w.alloc (dfr #[])).alloc (rcd fn ps ag bg w.heap.size .ready none a.tmps),
    { target := .fn (.func k) cvs.toArray, args := #[.func (.yield (w.heap.size + 1)) #[] #[]] }, (w.alloc (dfr #[])).alloc (rcd fn ps ag bg w.heap.size .ready none a.tmps), k,
    ([Value.func (.yield (w.heap.size + 1)) #[] #[]] ++ cvs).toArray, (w.alloc (dfr #[])).alloc (rcd fn ps ag bg w.heap.size .ready none a.tmps), ?_, ?_, fun _ _ => trivial, ?_, fun h => by simp [Fence.wide] at h, ?_⟩
  · exact run_enterLoop_outer _ _ _ _ _
  · simp only [resolve, hfv]
    simp [Deferred.ofValue, Act.eval]
  · simp only [Sem.run_bind, Sem.run_pure, Result.andThen_ok, invoke, callFunc, run_program, hk1, hk3, Bool.false_eq_true, if_false]
    have : fnk.body.isNone = false := by cases hb : fnk.body <;> simp_all
    simp [this]
  · refine ((callsIn_wide (n := 0)).2 hcalls).mono ?_
    rintro e w3 ⟨v, rfl, m3, I3, g1, g2, g3⟩
    -- the record behind the call
    have hups : ups (lk (baseO s (rcd fn ps ag bg w.heap.size .ready none) (mkSl s.t keys 0 N))) ow = lk (ow ++ baseO s (rcd fn ps ag bg w.heap.size .ready none) (mkSl s.t keys 0 N)) := by
      funext b
      have e1 : (os'.map (Ob.ren (nameOf (997 :: ids)))).length = (997 :: ids).length := by simpa using hlen
      rw [lk_append, how, ups_zip _ _ _ _ hnd e1, lk_zip _ _ _ e1]
      cases hpos : posIn (997 :: ids) b with
      | none => rfl
      | some j =>
        have hlt : j < (997 :: ids).length := by
          have := posIn_at _ b j hpos
          exact (List.getElem?_eq_some_iff.1 this).1
        cases hh : (os'.map (Ob.ren (nameOf (997 :: ids))))[j]? with
        | none => rw [List.getElem?_eq_none_iff] at hh; omega
        | some c => simp only [hh]
    rw [hups] at g1 g2
    have hrec : lk (ow ++ baseO s (rcd fn ps ag bg w.heap.size .ready none) (mkSl s.t keys 0 N)) 997 = some (.raw (rcd fn ps ag bg w.heap.size st pe) sl') := by
      rw [lk_append, h997]
    have hblk : Value.block? (m3 997) = some (w.heap.size + 1) := g2.blk 997 _ rfl (by rw [hm997]; rfl) ⟨[], 0, by simp only [gh, baseO, lk]; rfl⟩
    have hblk8 : Value.block? (m3 998) = some w.heap.size := g2.blk 998 _ rfl (by rw [hm998]; rfl) ⟨[], 0, by simp only [gh, baseO, lk]; rfl⟩
    obtain ⟨b', tm3, f1, f2, f3, f4⟩ := g1.obj 997 _ hrec
    have hb' : b' = w.heap.size + 1 := by rw [f1] at hblk; simpa [Value.block?] using hblk
    subst hb'
    obtain ⟨q1, q2⟩ := raw_put (mk' := rcd fn ps ag bg w.heap.size .exhausted pe) (sl' := sl') g1 hrec hblk tm3 f3 f4
    have hend : (Instr.endLoop (w.heap.size + 1)).run C.P w3 = .ok pe (w3.putObj (w.heap.size + 1) (rcd fn ps ag bg w.heap.size .exhausted pe tm3)) := run_endLoop f2 hst
    refine ⟨pe, _, hend, ?_⟩
    have hstate : St C E N ⟨s.t, ((997, .raw (rcd fn ps ag bg w.heap.size .exhausted pe) sl') :: ow) ++ (998, .raw dfr []) :: s.o⟩ { a with defers := [{ target := .collected w.heap.size, args := #[] }] ++ a.defers }
        (w3.putObj (w.heap.size + 1) (rcd fn ps ag bg w.heap.size .exhausted pe tm3)) := by
      have hobj : upd (lk (ow ++ baseO s (rcd fn ps ag bg w.heap.size .ready none) (mkSl s.t keys 0 N))) 997 (some (.raw (rcd fn ps ag bg w.heap.size .exhausted pe) sl')) =
          lk (((997, .raw (rcd fn ps ag bg w.heap.size .exhausted pe) sl') :: ow) ++ (998, .raw dfr []) :: s.o) := by
        rw [List.cons_append, lk_cons]
        funext b
        by_cases hb : b = 997
        · subst hb; rw [upd_same, upd_same]
        · rw [upd_other _ _ hb, upd_other _ _ hb, lk_append, lk_append]
          split
          · rfl
          · simp only [baseO, lk, beq_false (Ne.symm hb), Bool.false_eq_true, if_false]
      rw [hobj] at q1 q2
      refine ⟨hE, hN, m3, I3, .inr ⟨w.heap.size, by rw [hdef]; rfl, ?_, hblk8⟩, q1, hl.trans (hl1.trans (hl2.trans (g2.trans q2))), fun t => ?_⟩
      · exact lk_base998 s _ (by simp only [no998, hno]; rfl)
      · exact (hl1.trans (hl2.trans (g2.trans q2))).val (AV.clear_none _) (ht t)
    cases pe with
    | none => exact hafter _ _ hstate
    | some c =>
      have := hafter _ _ hstate
      rw [hfen] at this
      exact this

theorem RG.intro {s : S} {ps : Array Tmp} {ag bg : Code} {K : FuncId} {caps : List AV} {Q : Exit → Act → World → Prop} {fn : FuncId} {D : Nat} (keys : List Nat) (r : AV) (os' : List Ob) (ids : List Nat) {od : List (Nat × Ob)} {sl' : List AV} {pl : List Prop} (hp : All pl) (st : LoopState) (pe : Option Code)
    (h : rangeC C s K caps (rcd fn ps ag bg D .ready none) (mkSl s.t keys 0 N) r os' ids = some ((997, .raw (rcd fn ps ag bg D st pe) sl') :: od, pl)) (hst : st ≠ .busy)
    (k : AfterL C E N s ((997, .raw (rcd fn ps ag bg D .exhausted pe) sl') :: (997, .raw (rcd fn ps ag bg D st pe) sl') :: od) Q pe) : RG C E N s ps ag bg K caps Q fn D :=
  ⟨keys, r, os', ids, _, pl, st, pe, sl', h, hp, by simp [lk], hst, k⟩

/-! A round. -/
/-- The activation of a round of the loop whose record is object 0, at block b. -/
def RDok (E : En) (b : Nat) : Prop := E.rd = some b ∧ Value.block? (E.m0 0) = some b ∧ ∃ mk sl, E.o0 0 = some (.raw mk sl)

def jumpOf : Exit → Option (Option Code)
  | .normal => some none
  | .ret => some (some .ret)
  | .exit id => some (some (.exit id))
  | _ => none

/-- The objects behind a round. -/
def rndC (s : S) (mk : Array Value → Obj) (sl : List AV) (n : Nat) (ids : List Nat) : Option (List Ob × List Prop) :=
  match lk ((0, .raw mk sl) :: s.o) with
  | ol => if firstN 0 n ids && nodupB ids then match convObs ol ids ids with
    | none => none
    | some (os, _) => some (os, convObsPs ol ids ids)
    else none

def RQ (C : Cx) (E : En) (N n : Nat) (os' : List Ob) (r : AV) (e : Exit) (a : Act) (w : World) : Prop :=
  ∃ fn ps ag bg D sl s ids pl jump, jumpOf e = some jump ∧ St C E N s a w ∧ lk s.o 0 = some (.raw (rcd fn ps ag bg D .busy none) sl) ∧
    rndC s (rcd fn ps ag bg D (if jump.isNone then .ready else .done) jump) sl n ids = some (os', pl) ∧ All pl ∧ r = .d (.bool jump.isNone)

def BQ (C : Cx) (E : En) (N b : Nat) (bg : Code) (Q : Exit → Act → World → Prop) : Exit → Act → World → Prop :=
  Exit.then (fun a w => ∃ w', (Instr.beginRound b).run C.P w = .ok () w' ∧ bg.wpIn (fen E.rd) 0 C.P Q a w') (fun _ _ _ => False)

theorem rd_blk {b : Nat} {o : Nat → Option Ob} {m : Nat → Value} {I : Nat → Prop} {w : World} (hR : RDok E b) (hl : Later E.o0 E.m0 E.I0 E.w0 o m I w bad0) : Value.block? (m 0) = some b := by
  obtain ⟨_, h1, mk, sl, h2⟩ := hR
  exact hl.blk 0 b rfl h1 ⟨[], 0, by simp only [gh, h2]⟩

theorem St.put0 {s : S} {a : Act} {w : World} {b : Nat} {mk mk' : Array Value → Obj} {sl : List AV} (hR : RDok E b) (h0 : lk s.o 0 = some (.raw mk sl)) (h : St C E N s a w) :
    ∃ tm, w.heap[b]? = some (mk tm) ∧ St C E N ⟨s.t, (0, .raw mk' sl) :: s.o⟩ a (w.putObj b (mk' tm)) := by
  obtain ⟨hE, hN, m, I, hdf, hm, hl, ht⟩ := h
  have hb := rd_blk hR hl
  obtain ⟨b', tm, f1, f2, f3, f4⟩ := hm.obj 0 _ h0
  have hb' : b' = b := by rw [f1] at hb; simpa [Value.block?] using hb
  subst hb'
  obtain ⟨q1, q2⟩ := raw_put (mk' := mk') (sl' := sl) hm h0 hb tm f3 f4
  refine ⟨tm, f2, hE, hN, m, I, ?_, ?_, ?_, fun t => ?_⟩
  · exact hdf.on rfl (fun h9 => ⟨by simp only [S.sf, lk_cons]; rw [upd_other _ _ (by decide)]; exact h9, fun _ h => h⟩) (fun h9 => by simp only [S.sf, lk_cons]; rw [upd_other _ _ (by decide)]; exact h9)
  · simp only [S.sf, lk_cons]; exact q1
  · simp only [S.sf, lk_cons]; exact hl.trans q2
  · simp only [S.sf, lk_cons]; exact q2.val (AV.clear_none _) (ht t)

/-- The body begins. -/
theorem NX.begin {b : Nat} {s : S} {fn : FuncId} {ps : Array Tmp} {ag bg bg' : Code} {D : Nat} {sl : List AV} {Q : Exit → Act → World → Prop} (hR : RDok E b) (h0 : lk s.o 0 = some (.raw (rcd fn ps ag bg D .ready none) sl))
    (k : CD C E N bg' ⟨s.t, (0, .raw (rcd fn ps ag bg D .busy none) sl) :: s.o⟩ Q) : NX C E N s (BQ C E N b bg' Q .normal) := by
  intro a w hs
  obtain ⟨tm, f, hs'⟩ := hs.put0 (mk' := rcd fn ps ag bg D .busy none) hR h0
  exact ⟨_, run_beginRound f rfl, k a _ hs'⟩

/-- A round ends. -/
theorem NX.rnd {s : S} {fn : FuncId} {ps : Array Tmp} {ag bg : Code} {D n : Nat} {sl : List AV} {os' : List Ob} {r : AV} {e : Exit} (ids : List Nat) {pl : List Prop} (hp : All pl) (jump : Option Code) (hj : jumpOf e = some jump) (h0 : lk s.o 0 = some (.raw (rcd fn ps ag bg D .busy none) sl))
    (h : rndC s (rcd fn ps ag bg D (if jump.isNone then .ready else .done) jump) sl n ids = some (os', pl)) (hr : r = .d (.bool jump.isNone)) : NX C E N s (RQ C E N n os' r e) :=
  fun _ _ hs => ⟨fn, ps, ag, bg, D, sl, s, ids, pl, jump, hj, hs, h0, h, hp, hr⟩

theorem mem_rd {r : Option Nat} {w0 : World} {os0 : List Ob} {m0 : Nat → Value} {I0 : Nat → Prop} (h : Mem C { en w0 I0 os0 m0 with rd := r } o m I w) : Mem C (en w0 I0 os0 m0) o m I w :=
  ⟨h.obj, h.inj, h.im, h.im0, h.imn, h.old, h.size, h.frame, h.gl, h.sys⟩
theorem mem_rd' {r : Option Nat} {w0 : World} {os0 : List Ob} {m0 : Nat → Value} {I0 : Nat → Prop} (h : Mem C (en w0 I0 os0 m0) o m I w) : Mem C { en w0 I0 os0 m0 with rd := r } o m I w :=
  ⟨h.obj, h.inj, h.im, h.im0, h.imn, h.old, h.size, h.frame, h.gl, h.sys⟩

/-- THE CONTRACT OF A ROUND, out of its code. -/
theorem yd_intro {fn : FuncId} {p : Tmp} {ag bg : Code} {D : Nat} {x : AV} (N : Nat) (l : List (Nat × AV)) {os os' : List Ob} {r : AV} (hp : (Nat.blt p N && keysLt N l) = true) (hn : Nat.ble (os.length + 1) 900 = true)
    (h : ∀ E b, RDok E b → CD C E N ag ⟨(p, x) :: l, number 0 (.raw (rcd fn #[p] ag bg D .ready none) (slN N l) :: os)⟩ (BQ C E N b bg (RQ C E N (os.length + 1) os' r))) :
    YD C 0 [x] (.raw (rcd fn #[p] ag bg D .ready none) (slN N l) :: os) r os' := by
  simp only [Bool.and_eq_true] at hp
  obtain ⟨sl, hsl⟩ : ∃ sl, sl = slN N l := ⟨_, rfl⟩
  have hlenN : sl.length = N := by rw [hsl]; exact mkSl_length _ _ _ _
  rw [← hsl]
  rw [← hsl] at h
  intro w m I vs hm hv
  have h0 : olist (.raw (rcd fn #[p] ag bg D .ready none) sl :: os) 0 = some (.raw (rcd fn #[p] ag bg D .ready none) sl) := rfl
  obtain ⟨b, tm, e1, e2, e3, e4⟩ := hm.obj 0 _ h0
  simp only [AV.vals] at hv
  obtain ⟨cs, v, vs', rfl, hv1, rfl, rfl⟩ := hv
  have hblk : Value.block? (m 0) = some b := by rw [e1]; rfl
  refine ⟨b, hblk, fn, (#[p].zip #[vOf x.sh cs]).foldl (fun tmps (t, a) => tmps.setIfInBounds t a) tm, ag, bg, ?_, ?_⟩
  · exact run_yield (r := { state := .ready, pending := none, fn, tmps := tm, params := #[p], assign := ag, body := bg, defers := D }) e2 (by simp)
  · have hp' : p < tm.size := by rw [e3, hlenN]; simpa [Nat.blt_eq] using hp.1
    have htm : (#[p].zip #[vOf x.sh cs]).foldl (fun tmps (t, a) => tmps.setIfInBounds t a) tm = tm.setIfInBounds p (vOf x.sh cs) := by
      have hz : #[p].zip #[vOf x.sh cs] = #[(p, vOf x.sh cs)] := by
        apply Array.ext'
        rw [Array.toList_zip]
        rfl
      rw [hz]
      simp
    rw [htm]
    obtain ⟨E, hE⟩ : ∃ E : En, E = { en w I (.raw (rcd fn #[p] ag bg D .ready none) sl :: os) m with rd := some b } := ⟨_, rfl⟩
    have hR : RDok E b := by subst hE; exact ⟨rfl, hblk, _, _, rfl⟩
    have hlen9 : os.length + 1 ≤ 900 := Nat.le_of_ble_eq_true hn
    have hob : lk (number 0 (.raw (rcd fn #[p] ag bg D .ready none) sl :: os)) = olist (.raw (rcd fn #[p] ag bg D .ready none) sl :: os) := by
      funext k
      rw [number_lk]
      simp [olist]
    have hst : St C E N ⟨(p, x) :: l, number 0 (.raw (rcd fn #[p] ag bg D .ready none) sl :: os)⟩ { tmps := tm.setIfInBounds p (vOf x.sh cs), defers := [] } w := by
      subst hE
      refine ⟨fun i hi => ?_, by simp [e3, hlenN], m, I, .inl ⟨rfl, ?_⟩, ?_, ?_, fun t => ?_⟩
      · show (Ob.raw (rcd fn #[p] ag bg D .ready none) sl :: os)[i]? = none
        rw [List.getElem?_eq_none_iff, List.length_cons]; omega
      · simp only [S.sf, hob]
        show (Ob.raw (rcd fn #[p] ag bg D .ready none) sl :: os)[998]? = none
        rw [List.getElem?_eq_none_iff, List.length_cons]; omega
      · simp only [S.sf, hob]; exact mem_rd' hm
      · simp only [S.sf, hob]; exact Later.refl _ _ _ _
      · simp only [S.sf, hob, at_cons]
        by_cases htp : t = p
        · subst htp
          rw [upd_same]
          have : (tm.setIfInBounds t (vOf x.sh cs)).getD t undef = vOf x.sh cs := by simp [Array.getD_eq_getD_getElem?, hp']
          rw [this]
          exact val_of_cells hv1
        · rw [upd_other _ _ htp]
          have : (tm.setIfInBounds p (vOf x.sh cs)).getD t undef = tm.getD t undef := by simp [Array.getD_eq_getD_getElem?, Array.getElem?_setIfInBounds_ne (Ne.symm htp)]
          rw [this]
          have h4 := e4 t
          rw [hsl] at h4 ⊢
          exact slN_val hp.2 h4
    have hfen : fen E.rd = Fence.wide.inRound b := by rw [hR.1]; rfl
    have hcode := h E b hR _ w hst
    rw [hfen] at hcode
    have hR' := hR
    refine roundIn_of_wpIn trivial (wpIn_mono hcode (fun e a1 w1 hq => ?_))
    cases e <;> try exact hq.elim
    obtain ⟨w2, hb2, hbody⟩ := hq
    rw [hfen] at hbody
    refine ⟨w2, hb2, wpIn_mono hbody (fun e a2 w3 hq => ?_)⟩
    obtain ⟨fn', ps', ag', bg', D', sl', s, ids, pl, jump, hj, hs, h0', hc, hpl, rfl⟩ := hq
    obtain ⟨tm', g1, hs'⟩ := hs.put0 (mk' := rcd fn' ps' ag' bg' D' (if jump.isNone then .ready else .done) jump) hR h0'
    have hend : (Instr.endRound b jump).run C.P w3 = .ok (.bool jump.isNone) (w3.putObj b (rcd fn' ps' ag' bg' D' (if jump.isNone then .ready else .done) jump tm')) := run_endRound jump g1
    obtain ⟨_, _, m', I', _, hm', hl', _⟩ := hs'
    unfold rndC at hc
    simp only at hc
    have fin : ∃ m'' I'', Mem C (en w I (.raw (rcd fn #[p] ag bg D .ready none) sl :: os) m) (olist os') m'' I'' (w3.putObj b (rcd fn' ps' ag' bg' D' (if jump.isNone then .ready else .done) jump tm')) ∧
        Later (olist (.raw (rcd fn #[p] ag bg D .ready none) sl :: os)) m I w (olist os') m'' I'' (w3.putObj b (rcd fn' ps' ag' bg' D' (if jump.isNone then .ready else .done) jump tm')) bad0 := by
      split at hc
      · rename_i hcc
        simp only [Bool.and_eq_true] at hcc
        split at hc
        · cases hc
        · rename_i os1 p1 hos1
          simp only [Option.some.injEq, Prod.mk.injEq] at hc
          obtain ⟨rfl, rfl⟩ := hc
          subst hE
          obtain ⟨k1, k2⟩ := ret_mem (os0 := .raw (rcd fn #[p] ag bg D .ready none) sl :: os) rfl hm' hl' hcc.2 hos1 (convObsPs_ok _ _ _ hos1 hpl) hcc.1
          exact ⟨_, _, mem_rd k1, k2⟩
      · cases hc
    obtain ⟨m'', I'', k1, k2⟩ := fin
    have post : ∃ v w', (Instr.endRound b jump).run C.P w3 = .ok v w' ∧ ∃ v' m' I', Ending.returned v = .returned v' ∧ Mem C (en w I (.raw (rcd fn #[p] ag bg D .ready none) sl :: os) m) (olist os') m' I' w' ∧
        Later (olist (.raw (rcd fn #[p] ag bg D .ready none) sl :: os)) m I w (olist os') m' I' w' bad0 ∧ AV.val (gh (olist os') m') I' w' (.d (.bool jump.isNone)) v' :=
      ⟨_, _, hend, _, m'', I'', rfl, k1, k2, val_bool.2 rfl⟩
    cases e <;> simp only [jumpOf, Option.some.injEq] at hj <;> first | (cases hj; done) | (subst hj; exact post)
end
end Go.Sep
