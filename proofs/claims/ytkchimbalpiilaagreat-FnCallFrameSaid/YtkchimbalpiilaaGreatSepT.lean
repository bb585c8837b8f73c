/- From the code of a function to its contract. -/
import Derived.Test.YtkchimbalpiilaaGreatSepS
import Derived.RangeFuncRecord
set_option linter.all false
set_option linter.deprecated false
namespace Go.Sep
open Go

def oneV : List Value → Value
  | [v] => v
  | vs => .tuple vs.toArray
def oneA : List AV → AV
  | [x] => x
  | xs => .tup xs

theorem run_results {P : Program} {fn : Func} {tmps : Array Value} {w : World} {vs : List Value} (h : (fn.results.toList.mapM fun (r : ResultVar) => match r with
      | .tmp t => (pure (tmps.getD t undef) : Sem Value)
      | .cell b t => do loadVar t (← asAddr (tmps.getD b undef))).run P w = .ok vs w) : (results fn tmps).run P w = .ok (oneV vs) w := by
  unfold results
  rw [Sem.run_bind, Array.mapM_eq_mapM_toList, map_eq_pure_bind, Sem.run_bind]
  erw [h]
  simp only [Result.andThen_ok, Sem.run_pure]
  congr 1
  match vs with
  | [] => rfl
  | [v] => rfl
  | _ :: _ :: _ => simp [oneV]

/-- The first n names are 0, 1, .. -/
def firstN : Nat → Nat → List Nat → Bool
  | _, 0, _ => true
  | i, n + 1, k :: l => Nat.beq k i && firstN (i + 1) n l
  | _, _ + 1, [] => false

theorem firstN_at : ∀ (n i : Nat) (l : List Nat), firstN i n l = true → ∀ j, j < n → l[j]? = some (i + j)
  | 0, i, l, _, j, hj => by omega
  | n + 1, i, [], h, j, hj => by simp [firstN] at h
  | n + 1, i, k :: l, h, j, hj => by
    simp only [firstN, Bool.and_eq_true] at h
    cases j with
    | zero => simp [Nat.eq_of_beq_eq_true h.1]
    | succ j =>
      have := firstN_at n (i + 1) l h.2 j (by omega)
      rw [List.getElem?_cons_succ, this]
      congr 1
      omega

/-- What a function hands back: the objects, the results, and what is to be shown. -/
def retC (C : Cx) (s : S) (rs : List ResultVar) (n : Nat) (ids : List Nat) : Option (List Ob × AV × List Prop) :=
  if firstN 0 n ids && nodupB ids then match resL C s rs with
    | none => none
    | some xs => match convObs (lk s.o) ids ids with
      | none => none
      | some (os, _) => match convs (lk s.o) ids xs with
        | none => none
        | some (ys, _) => some (os, oneA ys, convObsPs (lk s.o) ids ids ++ convPss (lk s.o) ids xs)
  else none

/-- The block for deferred calls, shut. -/
def shut : Array Value → Obj := fun _ => .deferred none
def closeS (s : S) : S := match lk s.o 998 with
  | none => s
  | some _ => ⟨s.t, (998, .raw shut []) :: s.o⟩

def RT (C : Cx) (E : En) (N : Nat) (rs : List ResultVar) (n : Nat) (os' : List Ob) (r : AV) : Exit → Act → World → Prop
  | .ret, a, w => ∃ s ids ps, St C E N s a w ∧ retC C (closeS s) rs n ids = some (os', r, ps) ∧ All ps
  | .normal, a, w => ∃ s ids ps, St C E N s a w ∧ retC C (closeS s) rs n ids = some (os', r, ps) ∧ All ps
  | _, _, _ => False

section
variable {C : Cx} {E : En} {N : Nat} {o : Nat → Option Ob} {m : Nat → Value} {I : Nat → Prop} {w : World}

theorem NX.ret {s : S} {rs : List ResultVar} {n : Nat} {os' : List Ob} {r : AV} (ids : List Nat) {ps : List Prop} (hp : All ps) (h : retC C (closeS s) rs n ids = some (os', r, ps)) : NX C E N s (RT C E N rs n os' r .ret) :=
  fun _ _ hs => ⟨s, ids, ps, hs, h, hp⟩
theorem NX.fin {s : S} {rs : List ResultVar} {n : Nat} {os' : List Ob} {r : AV} (ids : List Nat) {ps : List Prop} (hp : All ps) (h : retC C (closeS s) rs n ids = some (os', r, ps)) : NX C E N s (RT C E N rs n os' r .normal) :=
  fun _ _ hs => ⟨s, ids, ps, hs, h, hp⟩

theorem ret_mem {os0 : List Ob} (hE : E.o0 = olist os0) (hm : Mem C E o m I w) (hl : Later E.o0 E.m0 E.I0 E.w0 o m I w bad0) {ids : List Nat} (hn : nodupB ids = true) {os' : List Ob} {p : Prop} (hos : convObs o ids ids = some (os', p)) (hp : p)
    (hfirst : firstN 0 os0.length ids = true) :
    Mem C E (olist os') (fun j => m (nameOf ids j)) (seenI o m I ids true) w ∧ Later E.o0 E.m0 E.I0 E.w0 (olist os') (fun j => m (nameOf ids j)) (seenI o m I ids true) w bad0 := by
  obtain ⟨hlen, hat⟩ := convObs_at ids os' p hos hp
  have hm' := callee_mem (sees := true) hm hn hos hp
  have hname : ∀ i, i < os0.length → nameOf ids i = i ∧ ids[i]? = some i := by
    intro i hi
    have := firstN_at _ 0 ids hfirst i hi
    rw [Nat.zero_add] at this
    exact ⟨by simp [nameOf, List.getD_eq_getElem?_getD, this], this⟩
  have hsome : ∀ i, (∃ c, E.o0 i = some c) → i < os0.length := by
    rintro i ⟨c, hc⟩
    rw [hE] at hc
    exact (List.getElem?_eq_some_iff.1 hc).1
  refine ⟨⟨hm'.obj, hm'.inj, hm'.im, fun b hb => .inl (hm.im0 b hb), ?_, ?_, hm.size, hm.frame, hm'.gl, hm.sys⟩, ?_⟩
  · rintro b (hb | ⟨_, i, t, sh, xs, h1, h2, h3⟩)
    · exact hm.imn b hb
    · have := hm.old i _ b h1 rfl h3
      exact .inr this.2
  · intro j c b hj hlv hb
    have hlt : j < ids.length := by rw [← hlen]; exact (List.getElem?_eq_some_iff.1 hj).1
    obtain ⟨c0, c', q, h1, h2, h3, h4⟩ := hat j ids[j] (by simp [hlt])
    have hj' : os'[j]? = some c := hj
    rw [hj'] at h4
    cases h4
    have hnm : nameOf ids j = ids[j] := by simp [nameOf, List.getD_eq_getElem?_getD, hlt]
    simp only [hnm] at hb
    exact hm.old ids[j] c0 b h1 (by rw [← live_conv h2]; exact hlv) hb
  · -- what was there is there under the same names
    have same : ∀ i, (∃ c, E.o0 i = some c) → ∀ c0, o i = some c0 → ∃ c1, os'[i]? = some c1 ∧
        (∀ p k, (gh o m).off i p = some k → (gh (olist os') (fun j => m (nameOf ids j))).off i p = some k) ∧
        (∀ n, (gh o m).len i = some n → (gh (olist os') (fun j => m (nameOf ids j))).len i = some n) ∧
        (∀ j p k, (gh o m).roff i j p = some k → (gh (olist os') (fun j => m (nameOf ids j))).roff i j p = some k) := by
      intro i hi c0 hc0
      obtain ⟨hnm, hid⟩ := hname i (hsome i hi)
      obtain ⟨c, c', q, h1, h2, h3, h4⟩ := hat i i hid
      rw [hc0] at h1
      cases h1
      refine ⟨c', h4, ?_, ?_, ?_⟩
      · intro p k hpk; rw [off_conv (m := m) hc0 h2 h4]; exact hpk
      · intro n hpk; rw [len_conv (m := m) hc0 h2 h4]; exact hpk
      · intro j p k hpk; rw [roff_conv (m := m) hc0 h2 h4]; exact hpk
    have ex : ∀ {i : Nat} {c : Ob}, (gh o m).off i = (gh o m).off i → o i = some c → ∃ c, o i = some c := fun _ h => ⟨_, h⟩
    refine ⟨fun b hb => .inl (hl.im b hb), hl.cells, ?_, ?_, ?_, ?_⟩
    · intro i b hb hv hp
      have hi : ∃ c, E.o0 i = some c := by
        obtain ⟨p, k, hpk⟩ := hp
        cases hh : E.o0 i with
        | none => simp [gh, hh] at hpk
        | some c => exact ⟨c, rfl⟩
      show Value.block? (m (nameOf ids i)) = some b
      rw [(hname i (hsome i hi)).1]
      exact hl.blk i b hb hv hp
    · intro i p k hb hpk
      have hi : ∃ c, E.o0 i = some c := by
        cases hh : E.o0 i with
        | none => simp [gh, hh] at hpk
        | some c => exact ⟨c, rfl⟩
      have h1 := hl.off i p k hb hpk
      have hc0 : ∃ c0, o i = some c0 := by
        cases hh : o i with
        | none => simp [gh, hh] at h1
        | some c => exact ⟨c, rfl⟩
      obtain ⟨c0, hc0⟩ := hc0
      obtain ⟨_, _, g, _, _⟩ := same i hi c0 hc0
      exact g p k h1
    · intro i n hb hpk
      have hi : ∃ c, E.o0 i = some c := by
        cases hh : E.o0 i with
        | none => simp [gh, hh] at hpk
        | some c => exact ⟨c, rfl⟩
      obtain ⟨n', h1, h2, h3⟩ := hl.len i n hb hpk
      have hc0 : ∃ c0, o i = some c0 := by
        cases hh : o i with
        | none => simp [gh, hh] at h1
        | some c => exact ⟨c, rfl⟩
      obtain ⟨c0, hc0⟩ := hc0
      obtain ⟨_, _, _, g, _⟩ := same i hi c0 hc0
      refine ⟨n', g n' h1, h2, fun e => ?_⟩
      show m (nameOf ids i) = E.m0 i
      rw [(hname i (hsome i hi)).1]
      exact h3 e
    · intro i j p k hb hpk
      have hi : ∃ c, E.o0 i = some c := by
        cases hh : E.o0 i with
        | none => simp [gh, hh] at hpk
        | some c => exact ⟨c, rfl⟩
      have h1 := hl.roff i j p k hb hpk
      have hc0 : ∃ c0, o i = some c0 := by
        cases hh : o i with
        | none => simp [gh, hh] at h1
        | some c => exact ⟨c, rfl⟩
      obtain ⟨c0, hc0⟩ := hc0
      obtain ⟨_, _, _, _, g⟩ := same i hi c0 hc0
      exact g j p k h1

def number {α : Type} : Nat → List α → List (Nat × α)
  | _, [] => []
  | i, x :: l => (i, x) :: number (i + 1) l

theorem number_lk {α : Type} : ∀ (l : List α) (i k : Nat), lk (number i l) k = if i ≤ k then l[k - i]? else none
  | [], i, k => by simp [number, lk]
  | x :: l, i, k => by
    simp only [number, lk]
    by_cases h : i = k
    · subst h; simp
    · rw [beq_false h]
      simp only [Bool.false_eq_true, if_false, number_lk l (i + 1) k]
      by_cases hik : i + 1 ≤ k
      · rw [if_pos hik, if_pos (by omega)]
        rw [show k - i = (k - (i + 1)) + 1 by omega, List.getElem?_cons_succ]
      · rw [if_neg hik, if_neg (by omega)]

theorem convs_one {ol : Nat → Option Ob} {ids : List Nat} : ∀ (xs ys : List AV) (q : Prop), convs ol ids xs = some (ys, q) → xs.all AV.one = true
  | [], _, _, _ => rfl
  | x :: xs, ys, q, h => by
    simp only [convs] at h
    split at h
    · cases h
    · rename_i y q1 hy
      split at h
      · cases h
      · rename_i ys' q2 hys
        rw [List.all_cons, convs_one xs ys' q2 hys, Bool.and_true]
        cases x <;> first | rfl | (simp only [conv] at hy; cases hy)

theorem vals_nth {G : Gh} : ∀ (xs : List AV) (vs : List Value), AV.vals G I w xs vs → vs.length = xs.length ∧ ∀ (i : Nat) (x : AV), xs[i]? = some x → ∃ v : Value, vs[i]? = some v ∧ AV.val G I w x v
  | [], vs, h => by simp only [AV.vals] at h; subst h; exact ⟨rfl, fun i x h => by simp at h⟩
  | x :: xs, vs, h => by
    simp only [AV.vals] at h
    obtain ⟨cs, v, vs', rfl, h1, rfl, h2⟩ := h
    obtain ⟨h3, h4⟩ := vals_nth xs vs' h2
    refine ⟨by simp [h3], fun i y hy => ?_⟩
    cases i with
    | zero => simp only [List.getElem?_cons_zero, Option.some.injEq] at hy; subst hy; exact ⟨_, rfl, val_of_cells h1⟩
    | succ i => exact h4 i y (by simpa using hy)

theorem one_val {G : Gh} {xs : List AV} {vs : List Value} (h : AV.vals G I w xs vs) : AV.val G I w (oneA xs) (oneV vs) := by
  match xs, vs, h with
  | [], vs, h => simp only [AV.vals] at h; subst h; exact val_tup.2 ⟨[], rfl, by simp only [AV.vals]⟩
  | [x], vs, h =>
    simp only [AV.vals] at h
    obtain ⟨cs, v, vs', rfl, h1, rfl, rfl⟩ := h
    exact val_of_cells h1
  | x :: y :: l, vs, h =>
    have hl := (vals_nth _ _ h).1
    match vs, hl with
    | v :: u :: vs', _ => exact val_tup.2 ⟨_, rfl, h⟩

/-- A book-keeping block is written. -/
theorem raw_put (hm : Mem C E o m I w) {i b : Nat} {mk mk' : Array Value → Obj} {sl sl' : List AV} (hi : o i = some (.raw mk sl)) (hb : Value.block? (m i) = some b) (tm : Array Value) (hz : tm.size = sl'.length) (hs : ∀ t, AV.val (gh o m) I w (sl'.getD t .any) (tm.getD t undef)) :
    Mem C E (upd o i (some (.raw mk' sl'))) m I (w.putObj b (mk' tm)) ∧ Later o m I w (upd o i (some (.raw mk' sl'))) m I (w.putObj b (mk' tm)) bad0 := by
  obtain ⟨b', tm0, e1, e2, _, e3⟩ := hm.obj i _ hi
  have e1' : m i = .pointer (some ⟨b', 0, none⟩) := e1
  rw [e1'] at hb
  cases hb
  have hlt : b' < w.heap.size := (Array.getElem?_eq_some_iff.1 e2).1
  have hsz : (w.putObj b' (mk' tm)).heap.size = w.heap.size := by simp [World.putObj]
  have hsp : Spares o m w (w.putObj b' (mk' tm)) i := ⟨by rw [hsz]; exact Nat.le_refl _, fun k _ hk => World.putObj_heap_other (by rintro rfl; exact hk _ hi rfl (by rw [e1']; rfl)), ⟨rfl, rfl, rfl⟩⟩
  have hl : Later o m I w (upd o i (some (.raw mk' sl'))) m I (w.putObj b' (mk' tm)) bad0 := by
    refine ⟨fun _ h => h, hsp.cells hm, fun _ _ _ h _ => h, ?_, ?_, ?_⟩
    · intro j p k _ hp
      by_cases hj : j = i
      · subst hj; simpa only [gh, upd_same, hi] using hp
      · simpa [gh, upd_other _ _ hj] using hp
    · intro j n _ hp
      have hj : j ≠ i := by rintro rfl; simp [gh, hi] at hp
      exact ⟨n, by simpa [gh, upd_other _ _ hj] using hp, Nat.le_refl _, fun _ => rfl⟩
    · intro j q p k _ hp
      have hj : j ≠ i := by rintro rfl; simp [gh, hi] at hp
      simpa [gh, upd_other _ _ hj] using hp
  have hself : upd m i (m i) = m := by
    funext j
    by_cases hj : j = i
    · subst hj; rw [upd_same]
    · rw [upd_other _ _ hj]
  have hl' : Later o m I w (upd o i (some (.raw mk' sl'))) (upd m i (m i)) I (w.putObj b' (mk' tm)) bad0 := by rw [hself]; exact hl
  have hm2 := Mem.put hm hsp (fun _ h => h) (fun _ h => .inl h) hl' (c' := .raw mk' sl') (by
    rw [hself]
    exact ⟨b', tm, e1', World.putObj_heap_same hlt, hz, fun t => hl.val (AV.clear_none _) (hs t)⟩) (fun _ k hk => .inl ⟨_, hi, rfl, hk⟩)
  rw [hself] at hm2
  exact ⟨hm2, hl⟩

theorem fnD_introR {f : FuncId} {fn : Func} {c : Code} {args : List AV} {os os' : List Ob} {r : AV} (hf : C.P.funcs[f]? = some fn) (hb : fn.body = some c) (hN : Nat.ble args.length fn.ntmps = true) (ho : Nat.ble os.length 900 = true)
    (h : ∀ E, E.rd = none → CD C E fn.ntmps c ⟨number 0 args, number 0 os⟩ (RT C E fn.ntmps fn.results.toList os.length os' r)) : FnD C f args os r os' := by
  intro w m I vs hm hv
  refine (callsIn_wide (n := 0)).1 ?_
  refine callsIn_of_wp_marks hf hb trivial ?_
  obtain ⟨hlen, hvat⟩ := vals_nth _ _ hv
  have hN := Nat.le_of_ble_eq_true hN
  have ho := Nat.le_of_ble_eq_true ho
  have hob : lk (number 0 os) = olist os := by
    funext k
    rw [number_lk]
    simp [olist]
  have hst : St C (en w I os m) fn.ntmps ⟨number 0 args, number 0 os⟩ { tmps := vs.toArray ++ Array.replicate (fn.ntmps - vs.toArray.size) undef, defers := [] } w := by
    refine ⟨fun i hi => ?_, ?_, m, I, .inl ⟨rfl, ?_⟩, ?_, ?_, fun t => ?_⟩
    · show os[i]? = none
      simp; omega
    · simp; omega
    · simp only [S.sf, hob]; show os[998]? = none; simp; omega
    · simp only [S.sf, hob]; exact hm
    · simp only [S.sf, hob]; exact Later.refl _ _ _ _
    · simp only [S.sf, at', number_lk, Nat.zero_le, if_true, Nat.sub_zero]
      cases hx : args[t]? with
      | none => simp only [AV.val]
      | some x =>
        obtain ⟨v, h1, h2⟩ := hvat t x hx
        have : (vs.toArray ++ Array.replicate (fn.ntmps - vs.toArray.size) undef).getD t undef = v := by
          have hlt := (List.getElem?_eq_some_iff.1 h1).1
          rw [Array.getD_eq_getD_getElem?, Array.getElem?_append_left (by simpa using hlt)]
          simp [h1]
        simp only [this, hob]
        exact h2
  refine wpIn_mono (h (en w I os m) rfl _ w hst) (fun e a' w' hq => ?_)
  have key : ∀ (s : S) (ids : List Nat) (ps : List Prop) (m1 : Nat → Value) (I1 : Nat → Prop) (w' : World), Mem C (en w I os m) (lk s.o) m1 I1 w' → Later (olist os) m I w (lk s.o) m1 I1 w' bad0 → (∀ t, AV.val (gh (lk s.o) m1) I1 w' (at' s.t t) (a'.tmps.getD t undef)) →
      retC C s fn.results.toList os.length ids = some (os', r, ps) → All ps →
      ∃ v, (results fn a'.tmps).run C.P w' = .ok v w' ∧ ∃ v' m' I', Ending.returned v = .returned v' ∧ Mem C (en w I os m) (olist os') m' I' w' ∧ Later (olist os) m I w (olist os') m' I' w' bad0 ∧
        AV.val (gh (olist os') m') I' w' r v' := by
    intro s ids ps m1 I1 w' hm1 hl1 ht1 hret hps
    unfold retC at hret
    split at hret
    · rename_i hc
      simp only [Bool.and_eq_true] at hc
      split at hret
      · cases hret
      · rename_i xs hxs
        split at hret
        · cases hret
        · rename_i os1 p1 hos1
          split at hret
          · cases hret
          · rename_i ys p2 hys
            simp only [Option.some.injEq, Prod.mk.injEq] at hret
            obtain ⟨rfl, rfl, rfl⟩ := hret
            obtain ⟨ha, hb'⟩ := all_app _ _ hps
            have hp1 := convObsPs_ok _ _ _ hos1 ha
            have hp2 := convPss_ok _ _ _ hys hb'
            obtain ⟨vs', hrun, hvals⟩ := resL_run (s := s) (a := a') hm1 ht1 _ _ hxs
            have hv1 := hvals.one_vals (convs_one _ _ _ hys)
            have hv2 := convs_vals hm1 hos1 hp1 true xs ys p2 vs' hys hp2 (fun _ => rfl) hv1
            obtain ⟨g1, g2⟩ := ret_mem (E := en w I os m) (os0 := os) rfl hm1 hl1 hc.2 hos1 hp1 hc.1
            exact ⟨oneV vs', run_results hrun, _, _, _, rfl, g1, g2, one_val hv2⟩
    · cases hret
  have fin : (∃ s ids ps, St C (en w I os m) fn.ntmps s a' w' ∧ retC C (closeS s) fn.results.toList os.length ids = some (os', r, ps) ∧ All ps) →
      LeavesInM Fence.wide 0 C.P fn a'.tmps (fun e w' => ∃ v m' I', e = .returned v ∧ Mem C (en w I os m) (olist os') m' I' w' ∧ Later (olist os) m I w (olist os') m' I' w' bad0 ∧ AV.val (gh (olist os') m') I' w' r v) a'.defers .returning w' := by
    rintro ⟨s, ids, ps, ⟨_, _, m1, I1, hdf, hm1, hl1, ht1⟩, hret, hps⟩
    rcases hdf with ⟨hd, h9⟩ | ⟨D, hd, h9, hblk⟩
    · have h9' : lk s.o 998 = none := h9
      simp only [closeS, h9'] at hret
      rw [hd]
      obtain ⟨v, h1, h2⟩ := key s ids ps m1 I1 w' hm1 hl1 ht1 hret hps
      exact ⟨v, h1, h2⟩
    · have h9' : lk s.o 998 = some (.raw dfr []) := h9
      simp only [closeS, h9'] at hret
      rw [hd]
      obtain ⟨b', tm0, e1, e2, _, e3⟩ := hm1.obj 998 _ h9
      have e1' : m1 998 = .pointer (some ⟨b', 0, none⟩) := e1
      rw [e1'] at hblk
      cases hblk
      have htake : (Instr.takeDeferred b').run C.P w' = .ok [] (w'.putObj b' (shut #[])) := run_takeDeferred (ds := []) e2
      obtain ⟨g1, g2⟩ := raw_put (mk' := shut) (sl' := []) hm1 h9 (by rw [e1']; rfl) #[] rfl (fun t => by rw [List.getD_nil]; simp only [AV.val])
      have hlk : lk ((998, Ob.raw shut []) :: s.o) = upd (lk s.o) 998 (some (.raw shut [])) := lk_cons _ _ _
      obtain ⟨v, h1, h2⟩ := key ⟨s.t, (998, .raw shut []) :: s.o⟩ ids ps m1 I1 (w'.putObj b' (shut #[])) (by rw [hlk]; exact g1) (by rw [hlk]; exact hl1.trans g2)
        (fun t => by rw [hlk]; exact g2.val (AV.clear_none _) (ht1 t)) hret hps
      exact ⟨by simp, .inl ⟨b', _, rfl, htake, v, h1, h2⟩⟩
  cases e with
  | normal => exact fin hq
  | ret => exact fin hq
  | exit id => exact hq.elim
  | goto l => exact hq.elim
  | panic ch => exact hq.elim
  | outgrown => exact hq.elim

theorem fnD_intro {f : FuncId} {fn : Func} {c : Code} {args : List AV} {os os' : List Ob} {r : AV} (hf : C.P.funcs[f]? = some fn) (hb : fn.body = some c) (hN : Nat.ble args.length fn.ntmps = true) (ho : Nat.ble os.length 900 = true)
    (h : ∀ E, CD C E fn.ntmps c ⟨number 0 args, number 0 os⟩ (RT C E fn.ntmps fn.results.toList os.length os' r)) : FnD C f args os r os' := fnD_introR hf hb hN ho fun E _ => h E

theorem vals_oneA {G : Gh} {xs : List AV} {v : Value} (h1 : xs.all AV.one = true) (h : AV.val G I w (oneA xs) v) : ∃ vs, v = oneV vs ∧ AV.vals G I w xs vs := by
  match xs, h1, h with
  | [], _, h =>
    obtain ⟨vs, e, h2⟩ := val_tup.1 h
    subst e
    have h' := h2
    simp only [AV.vals] at h'
    subst h'
    exact ⟨[], rfl, h2⟩
  | [x], h1, h =>
    simp only [List.all_cons, List.all_nil, Bool.and_true] at h1
    obtain ⟨cs, hc, rfl⟩ := cells_of_val h1 h
    exact ⟨[_], rfl, by simp only [AV.vals]; exact ⟨cs, _, [], rfl, hc, rfl, rfl⟩⟩
  | x :: y :: l, _, h =>
    obtain ⟨vs, e, h2⟩ := val_tup.1 h
    subst e
    have hl := (vals_nth _ _ h2).1
    match vs, hl, h2 with
    | v :: u :: vs', _, h2 => exact ⟨_, rfl, h2⟩

/-- What is handed back as rows of one's own may be taken as data. -/
theorem FnD.data {f : FuncId} {args : List AV} {os os1 os2 : List Ob} {xs ys : List AV} {p q : Prop} (h : FnD C f args os (oneA xs) os1) (ids : List Nat) (hc : (firstN 0 os.length ids && nodupB ids) = true)
    (hos : convObs (olist os1) ids ids = some (os2, p)) (hp : All (convObsPs (olist os1) ids ids)) (hr : convs (olist os1) ids xs = some (ys, q)) (hq : All (convPss (olist os1) ids xs)) : FnD C f args os (oneA ys) os2 := by
  intro w m I vs hm hv
  simp only [Bool.and_eq_true] at hc
  refine (h w m I vs hm hv).mono ?_
  rintro e w' ⟨v, m', I', rfl, h1, h2, h3⟩
  have hp' := convObsPs_ok _ _ _ hos hp
  have hq' := convPss_ok _ _ _ hr hq
  obtain ⟨vs', rfl, hvs⟩ := vals_oneA (convs_one _ _ _ hr) h3
  obtain ⟨g1, g2⟩ := ret_mem (E := en w I os m) (os0 := os) rfl h1 h2 hc.2 hos hp' hc.1
  have hv2 := convs_vals h1 hos hp' true xs ys q vs' hr hq' (fun _ => rfl) hvs
  exact ⟨oneV vs', _, _, rfl, g1, g2, one_val hv2⟩
end
end Go.Sep
