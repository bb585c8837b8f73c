/- Slices that are made, appended to, written no more. -/
import Derived.Test.YtkchimbalpiilaaGreatSepG
import Derived.Laws.Rows
set_option linter.all false
set_option linter.deprecated false
namespace Go.Sep
open Go

section
variable {C : Cx} {E : En} {o : Nat → Option Ob} {m : Nat → Value} {I : Nat → Prop} {w : World}

/-! A row that is written no more. -/
theorem freeze_mem (hm : Mem C E o m I w) {b : Nat} {t : TypeId} {sh : Sh} {xs : List D} (hb : o b = some (.row t sh xs)) :
    ∃ I', Mem C E (upd o b (some (.frz t sh xs))) m I' w ∧ Later o m I w (upd o b (some (.frz t sh xs))) m I' w bad0 := by
  refine ⟨fun k => I k ∨ Value.block? (m b) = some k, ?_, ?_⟩
  case refine_2 =>
    refine ⟨fun _ h => .inl h, fun _ _ _ _ h => h, fun _ _ _ h _ => h, ?_, ?_, ?_⟩
    · intro j p k _ hp
      have hj : j ≠ b := by rintro rfl; simp [gh, hb] at hp
      simpa [gh, upd_other _ _ hj] using hp
    · intro j n _ hp
      by_cases hj : j = b
      · subst hj
        simp only [gh, hb, Option.some.injEq] at hp
        exact ⟨n, by simp [gh, upd_same, hp], Nat.le_refl _, fun _ => rfl⟩
      · exact ⟨n, by simpa [gh, upd_other _ _ hj] using hp, Nat.le_refl _, fun _ => rfl⟩
    · intro j q p k _ hp
      by_cases hj : j = b
      · subst hj; simp only [gh, upd_same]; simpa only [gh, hb] using hp
      · simpa [gh, upd_other _ _ hj] using hp
  case refine_1 =>
    have hl : Later o m I w (upd o b (some (.frz t sh xs))) m (fun k => I k ∨ Value.block? (m b) = some k) w bad0 := by
      refine ⟨fun _ h => .inl h, fun _ _ _ _ h => h, fun _ _ _ h _ => h, ?_, ?_, ?_⟩
      · intro j p k _ hp
        have hj : j ≠ b := by rintro rfl; simp [gh, hb] at hp
        simpa [gh, upd_other _ _ hj] using hp
      · intro j n _ hp
        by_cases hj : j = b
        · subst hj
          simp only [gh, hb, Option.some.injEq] at hp
          exact ⟨n, by simp [gh, upd_same, hp], Nat.le_refl _, fun _ => rfl⟩
        · exact ⟨n, by simpa [gh, upd_other _ _ hj] using hp, Nat.le_refl _, fun _ => rfl⟩
      · intro j q p k _ hp
        by_cases hj : j = b
        · subst hj; simp only [gh, upd_same]; simpa only [gh, hb] using hp
        · simpa [gh, upd_other _ _ hj] using hp
    have old : ∀ j c, (upd o b (some (.frz t sh xs))) j = some c → c.live = true → j ≠ b ∧ o j = some c := by
      intro j c hc hl
      by_cases hj : j = b
      · subst hj; rw [upd_same] at hc; cases hc; cases hl
      · rw [upd_other _ _ hj] at hc; exact ⟨hj, hc⟩
    refine ⟨?_, ?_, ?_, fun k hk => .inl (hm.im0 k hk), ?_, ?_, hm.size, hm.frame, ?_, hm.sys⟩
    · intro j c hc
      by_cases hj : j = b
      · subst hj
        rw [upd_same] at hc
        cases hc
        obtain ⟨h1, vs, h2, h3⟩ := hm.obj j _ hb
        exact ⟨h1, ⟨vs, h2, D.cellsL_mono hl.im hl.cells sh xs vs h3⟩, fun k hk => .inr hk⟩
      · rw [upd_other _ _ hj] at hc
        exact (hm.obj j c hc).later hl (fun _ _ _ => rfl)
    · intro j k cj ck bb hj hk hlj hlk hbj hbk
      exact hm.inj j k cj ck bb (old j cj hj hlj).2 (old k ck hk hlk).2 hlj hlk hbj hbk
    · rintro k (hk | hk)
      · exact ⟨(hm.im k hk).1, fun j c hc hlv => (hm.im k hk).2 j c (old j c hc hlv).2 hlv⟩
      · refine ⟨(hm.old b _ k hb rfl hk).1, fun j c hc hlv e => (old j c hc hlv).1 ?_⟩
        exact hm.inj j b c _ k (old j c hc hlv).2 hb hlv rfl e hk
    · rintro k (hk | hk)
      · exact hm.imn k hk
      · exact .inr (hm.old b _ k hb rfl hk).2
    · intro j c bb hc hlv hbb
      exact hm.old j c bb (old j c hc hlv).2 hlv hbb
    · intro g x hg
      obtain ⟨h1, vs, h2, h3⟩ := hm.gl g x hg
      exact ⟨.inl h1, vs, h2, hl.dcells h3⟩

/-! Elements told one by one. -/
theorem fill_slice {G : Gh} (sh : Sh) : ∀ (l : List (Nat × AV)) (l' : List (Nat × Value)) (ys : List D) (p : Prop) (k : Nat) (done rest : List Value) (cells : Array Value),
    Parts G I w l l' → (∀ (j : Nat) q, l[j]? = some q → q.1 = k + j) → (∀ (x : AV) (y : D) (p : Prop) (v : Value), toD o x = some (y, p) → p → AV.val G I w x v → AV.val G I w (.d y) v) →
    toDs o (l.map (·.2)) = some (ys, p) → p → (∀ y ∈ ys, y.sh = sh) → cells.toList = done ++ rest → done.length = k * sh.size → rest.length = l.length * sh.size →
    ∃ cells' news, Instr.fill (fun i => some (i * sh.size, sh.size)) cells l' = some cells' ∧ cells'.toList = done ++ news ∧ D.cellsL I w sh ys news
  | [], [], ys, p, k, done, rest, cells, _, _, _, h, _, _, hc, hd, hr => by
    simp only [List.map_nil, toDs, Option.some.injEq, Prod.mk.injEq] at h
    obtain ⟨rfl, _⟩ := h
    have : rest = [] := List.eq_nil_of_length_eq_zero (by simpa using hr)
    subst this
    exact ⟨cells, [], rfl, hc, by simp only [D.cellsL]⟩
  | (i, x) :: l, _, ys, p, k, done, rest, cells, hp, hk, hval, h, hpp, hsh, hc, hd, hr => by
    cases hp with
    | cons hv hp =>
      rename_i v l'
      simp only [List.map_cons, toDs] at h
      cases hx : toD o x with
      | none => rw [hx] at h; cases h
      | some r1 =>
        obtain ⟨y, q1⟩ := r1
        rw [hx] at h
        simp only at h
        cases hxs : toDs o (l.map (·.2)) with
        | none => rw [hxs] at h; cases h
        | some r2 =>
          obtain ⟨ys', q2⟩ := r2
          rw [hxs] at h
          simp only [Option.some.injEq, Prod.mk.injEq] at h
          obtain ⟨rfl, rfl⟩ := h
          have hik : i = k := by simpa using hk 0 (i, x) rfl
          subst hik
          have hy := hval x y q1 v hx hpp.1 hv
          obtain ⟨cv, hcv, rfl⟩ := cells_of_val rfl hy
          have hcv' : D.cells I w y cv := by simpa only [AV.cells] using hcv
          have hys : y.sh = sh := hsh y (by simp)
          have hl : cv.length = sh.size := by rw [D.cells_length y cv hcv', hys]
          have hrl : rest.length = sh.size + l.length * sh.size := by rw [hr, List.length_cons, Nat.add_mul, Nat.one_mul, Nat.add_comm]
          have hsplit : rest = rest.take sh.size ++ rest.drop sh.size := (List.take_append_drop _ _).symm
          have hc2 : cells.toList = done ++ rest.take sh.size ++ rest.drop sh.size := by rw [hc, List.append_assoc, ← hsplit]
          have htl : (rest.take sh.size).length = sh.size := by simp; omega
          have hvs : (vOf (AV.d y).sh cv).cells.size = sh.size := by rw [← Array.length_toList, vOf_cells hcv, hl]
          have hpc := put_cells (v := vOf (AV.d y).sh cv) hc2 (by rw [hvs, htl])
          rw [vOf_cells hcv] at hpc
          have hlen : cells.size = (done ++ rest).length := by rw [← hc]; simp
          obtain ⟨cells', news, e1, e2, e3⟩ := fill_slice sh l l' ys' q2 (i + 1) (done ++ cv) (rest.drop sh.size) _ hp
            (fun j q hq => by have := hk (j + 1) q (by simpa using hq); omega) hval hxs hpp.2 (fun z hz => hsh z (by simp [hz])) hpc
            (by rw [List.length_append, hd, hl, Nat.add_mul, Nat.one_mul]) (by simp; omega)
          refine ⟨cells', cv ++ news, ?_, by rw [e2, List.append_assoc], ?_⟩
          · simp only [Instr.fill]
            rw [if_neg]
            · rw [← hd]; exact e1
            · rw [hvs, hlen, ← hd]
              simp only [List.length_append]
              simp
              omega
          · simp only [D.cellsL]
            exact ⟨cv, news, rfl, hys, hcv', e3⟩

/-- Every element has this shape. -/
def allSh (sh : Sh) : List D → Bool
  | [] => true
  | y :: ys => Sh.same y.sh sh && allSh sh ys
theorem allSh_mem {sh : Sh} : ∀ {ys : List D}, allSh sh ys = true → ∀ y ∈ ys, y.sh = sh
  | [], _, y, hy => by simp at hy
  | z :: ys, h, y, hy => by
    simp only [allSh, Bool.and_eq_true] at h
    rcases List.mem_cons.1 hy with rfl | hy
    · exact Sh.same_eq _ _ h.1
    · exact allSh_mem h.2 y hy

def inOrder : Nat → List (Nat × AV) → Bool
  | _, [] => true
  | k, (i, _) :: l => Nat.beq i k && inOrder (k + 1) l
theorem inOrder_at : ∀ (l : List (Nat × AV)) (k : Nat), inOrder k l = true → ∀ (j : Nat) q, l[j]? = some q → q.1 = k + j
  | [], _, _, j, q, h => by simp at h
  | (i, x) :: l, k, h, 0, q, hq => by
    simp only [inOrder, Bool.and_eq_true] at h
    simp only [List.getElem?_cons_zero, Option.some.injEq] at hq
    subst hq
    exact Nat.eq_of_beq_eq_true h.1
  | (i, x) :: l, k, h, j + 1, q, hq => by
    simp only [inOrder, Bool.and_eq_true] at h
    have := inOrder_at l (k + 1) h.2 j q (by simpa using hq)
    omega

/-- A slice literal: its elements. -/
def litD (T : Tab) (ol : Nat → Option Ob) (t : TypeId) (n : Nat) (l : List (Nat × AV)) : Option (TypeId × Sh × List D × Prop) :=
  match lk T t with
  | none => none
  | some e => match e.td with
    | .slice el => match lk T el with
      | none => none
      | some ee => match toDs ol (l.map (·.2)) with
        | none => none
        | some (ys, p) => if allSh ee.sh ys && inOrder 0 l && Nat.beq n l.length && Nat.ble (n * ee.sh.size) 16777216 then some (el, ee.sh, ys, p) else none
    | _ => none

theorem toDs_length : ∀ (xs : List AV) (ys : List D) (p : Prop), toDs o xs = some (ys, p) → ys.length = xs.length
  | [], ys, p, h => by
    simp only [toDs, Option.some.injEq, Prod.mk.injEq] at h
    obtain ⟨rfl, _⟩ := h
    rfl
  | x :: xs, ys, p, h => by
    simp only [toDs] at h
    cases hx : toD o x with
    | none => rw [hx] at h; cases h
    | some r =>
      rw [hx] at h
      simp only at h
      cases hxs : toDs o xs with
      | none => rw [hxs] at h; cases h
      | some r2 =>
        rw [hxs] at h
        simp only [Option.some.injEq, Prod.mk.injEq] at h
        obtain ⟨rfl, _⟩ := h
        simp [toDs_length xs r2.1 r2.2 hxs]

theorem parts_length {G : Gh} {l : List (Nat × AV)} {l' : List (Nat × Value)} (h : Parts G I w l l') : l.length = l'.length := by
  induction h with
  | nil => rfl
  | cons _ _ ih => simp [ih]

theorem run_litD (hm : Mem C E o m I w) {t el : TypeId} {n : Nat} {l : List (Nat × AV)} {parts : Array (Nat × Value)} {sh : Sh} {ys : List D} {p : Prop} (h : litD C.T o t n l = some (el, sh, ys, p)) (hp : p)
    (hv : Parts (gh o m) I w l parts.toList) :
    ∃ A : Array Value, (Instr.buildSlice t n parts).run C.P w = .ok (.slice (some ⟨w.heap.size, 0, none⟩) n n) (w.alloc (.cells A el)) ∧ D.cellsL I w sh ys A.toList ∧ ys.length = n ∧ 0 < sh.size ∧ n ≤ 16777216 := by
  unfold litD at h
  cases ht : lk C.T t with
  | none => rw [ht] at h; cases h
  | some e =>
    rw [ht] at h
    simp only at h
    have hu := (C.ok t e ht).und
    cases hd : e.td <;> rw [hd] at h hu <;> try (simp only at h; cases h; done)
    rename_i el'
    obtain ⟨u1, u2, ee', u3, u4⟩ := hu
    simp only at h
    rw [u3] at h
    simp only at h
    cases hds : toDs o (l.map (·.2)) with
    | none => rw [hds] at h; cases h
    | some r =>
      obtain ⟨ys', p'⟩ := r
      rw [hds] at h
      simp only at h
      split at h
      · rename_i hc
        simp only [Bool.and_eq_true] at hc
        simp only [Option.some.injEq, Prod.mk.injEq] at h
        obtain ⟨rfl, rfl, rfl, rfl⟩ := h
        obtain ⟨⟨⟨c1, c2⟩, c3⟩, c4⟩ := hc
        have hn := Nat.eq_of_beq_eq_true c3
        have hle := Nat.le_of_ble_eq_true c4
        obtain ⟨ie, ze, i1, i2, i3, i4, i5, i6⟩ := (C.ok _ _ u3).info
        have hylen : ys'.length = n := by rw [toDs_length _ _ _ hds, hn]; simp
        have hnle : n ≤ 16777216 := Nat.le_trans (Nat.le_mul_of_pos_right n u4) hle
        have hgt : ¬ n * ee'.sh.size > 2 ^ 24 := by omega
        have hval : ∀ (x : AV) (y : D) (p : Prop) (v : Value), toD o x = some (y, p) → p → AV.val (gh o m) I w x v → AV.val (gh o m) I w (.d y) v := fun x y p v h1 h2 h3 => toD_val hm h1 h2 h3
        by_cases hz : n * ee'.sh.size = 0
        · have hn0 : n = 0 := by
            rcases Nat.mul_eq_zero.1 hz with h | h
            · exact h
            · omega
          have hl0 : l = [] := List.eq_nil_of_length_eq_zero (by omega)
          subst hl0
          have hpl : parts.toList = [] := List.eq_nil_of_length_eq_zero (by rw [← parts_length hv]; rfl)
          obtain ⟨cells', news, e1, e2, e3⟩ := fill_slice (G := gh o m) (o := o) ee'.sh [] [] ys' p' 0 [] [] #[] .nil (by simp) hval hds hp (allSh_mem c1) rfl (by simp) (by simp)
          refine ⟨cells', ?_, by rw [e2]; exact e3, hylen, u4, hnle⟩
          subst hn0
          have : parts = #[] := by apply Array.ext'; exact hpl
          subst this
          simp only [Instr.fill, Option.some.injEq] at e1
          subst e1
          simp [Instr.buildSlice, run_underlying u1, sizeOf, typeInfo, i1, Instr.fill, newRow, Array.range_zero']
        · obtain ⟨cells', news, e1, e2, e3⟩ := fill_slice (G := gh o m) (o := o) ee'.sh l parts.toList ys' p' 0 [] ((Array.range (n * ee'.sh.size)).map (ze.cells[· % ze.cells.size]!)).toList ((Array.range (n * ee'.sh.size)).map (ze.cells[· % ze.cells.size]!)) hv (inOrder_at l 0 c2) hval hds hp (allSh_mem c1) rfl (by simp) (by simp [hn])
          refine ⟨cells', ?_, by rw [e2]; exact e3, hylen, u4, hnle⟩
          have hze : (zeroValue el').run C.P w = .ok ze w := by simp [zeroValue, typeInfo, i1, i4]
          unfold Instr.buildSlice
          simp only [Sem.run_bind, run_underlying u1, Result.andThen_ok, run_sizeOf' u3]
          rw [if_neg hgt]
          simp only [pure_bind, hz, if_false, Sem.run_bind, hze, Result.andThen_ok]
          rw [e1]
          simp [newRow]
      · cases h

/-- A new block of elements that is not written any more. -/
theorem done_data (hm : Mem C E o m I w) {sh : Sh} {ys : List D} {A : Array Value} {el : TypeId} {cap : Nat} {r : List Value} (hA : A.toList = r ++ A.toList.drop (ys.length * sh.size)) (hc : D.cellsL I w sh ys r)
    (hcap : ys.length ≤ cap) (hlim : ys.length ≤ lim) :
    Done C E o m I w (.d (.sl sh ys)) [] (.slice (some ⟨w.heap.size, 0, none⟩) ys.length cap) (w.alloc (.cells A el)) := by
  have hI : ∀ b, I b → (I b ∨ b = w.heap.size) := fun _ h => .inl h
  have hh : ∀ b, b < w.heap.size → (w.alloc (.cells A el)).heap[b]? = w.heap[b]? := fun b hb => heap_alloc_old w _ b hb
  have hl : Later o m I w o m (fun b => I b ∨ b = w.heap.size) (w.alloc (.cells A el)) bad0 := Later.none hm hI hh
  refine ⟨m, fun b => I b ∨ b = w.heap.size, Mem.grow hm ⟨rfl, rfl, rfl⟩ (by simp) hh hI (fun b hb => hb.imp id (fun e => by subst e; simp)), hl, ?_⟩
  show AV.val (gh o m) _ _ _ _
  rw [val_sl]
  refine ⟨_, cap, rfl, hcap, hlim, .inr ⟨w.heap.size, 0, r, rfl, .inr rfl, fun j v hj => ?_, D.cellsL_mono hl.im hl.cells sh ys r hc⟩⟩
  have hlt := (List.getElem?_eq_some_iff.1 hj).1
  rw [Nat.zero_add, cell_of_row _ _ j A el _ (heap_alloc_new w _), ← Array.getElem?_toList, hA, List.getElem?_append_left hlt]
  exact hj

/-- A new row of the activation's own. -/
theorem done_row (hm : Mem C E o m I w) {i : Nat} (hi : o i = none) {sh : Sh} {ys : List D} {A : Array Value} {el : TypeId} {cap : Nat} {r : List Value} (hA : A.toList.take (ys.length * sh.size) = r) (hc : D.cellsL I w sh ys r)
    (hsz : A.size = cap * sh.size) (hcap : ys.length ≤ cap) (hmax : cap ≤ maxLen) (hlim : ys.length ≤ lim) :
    Done C E o m I w (.own i ys.length) [(i, .row el sh ys)] (.slice (some ⟨w.heap.size, 0, none⟩) ys.length cap) (w.alloc (.cells A el)) := by
  have hs : Spares o m w (w.alloc (.cells A el)) i := ⟨by simp, fun b hb _ => heap_alloc_old w _ b hb, ⟨rfl, rfl, rfl⟩⟩
  have hl : Later o m I w (upd o i (some (.row el sh ys))) (upd m i (.slice (some ⟨w.heap.size, 0, none⟩) ys.length cap)) I (w.alloc (.cells A el)) bad0 := Later.new hm hs (fun _ h => h) hi
  refine ⟨_, I, Mem.put hm hs (fun _ h => h) (fun _ h => .inl h) hl ?_ ?_, hl, ?_⟩
  · exact ⟨hlim, r, ⟨D.cellsL_length sh ys r hc, .inr ⟨w.heap.size, cap, A, rfl, Nat.zero_le _, heap_alloc_new w _, hcap, hmax, hsz, hA⟩⟩, D.cellsL_mono hl.im hl.cells sh ys r hc⟩
  · intro _ b hb
    simp only [Value.block?, Option.some.injEq] at hb
    subst hb
    exact .inr ⟨Nat.le_refl _, by simp⟩
  · rw [val_own]
    refine ⟨_, cap, ys.length, rfl, ?_, Nat.le_refl _, fun _ => ?_⟩
    · simp [ups, gh, upd_same]
    · show _ = upd m i _ i
      rw [upd_same]

/-! make. -/
def makeD (T : Tab) (ol : Nat → Option Ob) (t : TypeId) (l c : AV) : Option (TypeId × Sh × List D × Prop) :=
  match lk T t, l, c with
  | some e, .d (.int _ n), .d (.int _ k) => match e.td with
    | .slice el => match lk T el with
      | some ee => match toD ol ee.zero with
        | some (z, p) => if Sh.same z.sh ee.sh then some (el, ee.sh, List.replicate n.toNat z, p ∧ 0 ≤ n ∧ n ≤ k ∧ (ee.bytes : Int) * k ≤ 281474976710656 ∧ k ≤ 281474976710656) else none
        | none => none
      | none => none
    | _ => none
  | _, _, _ => none

theorem cellsL_replicate {ok : Nat → Prop} {sh : Sh} {z : D} {cs : List Value} (hs : z.sh = sh) (hz : D.cells ok w z cs) : ∀ (n : Nat), D.cellsL ok w sh (List.replicate n z) (List.replicate n cs).flatten
  | 0 => by simp [D.cellsL]
  | n + 1 => by
    simp only [List.replicate_succ, List.flatten_cons, D.cellsL]
    exact ⟨cs, _, rfl, hs, hz, cellsL_replicate hs hz n⟩

theorem madeCells_eq (z : Array Value) (s : Nat) (hz : z.size = s) : ∀ (n : Nat), (madeCells z (n * s)).toList = (List.replicate n z.toList).flatten
  | 0 => by simp [madeCells, Array.range_zero']
  | n + 1 => by
    have ih := madeCells_eq z s hz n
    have e : List.replicate (n + 1) z.toList = List.replicate n z.toList ++ [z.toList] := List.replicate_succ' ..
    rw [e, List.flatten_append, ← ih]
    simp only [madeCells, Array.toList_map, Array.toList_range, List.flatten_cons, List.flatten_nil, List.append_nil]
    rw [Nat.add_mul, Nat.one_mul, List.range_add, List.map_append, List.map_map]
    congr 1
    apply List.ext_getElem?
    intro j
    by_cases hj : j < s
    · have h1 : (n * s + j) % s = j := by rw [Nat.mul_comm, Nat.mul_add_mod]; exact Nat.mod_eq_of_lt hj
      have h2 : j < z.size := by omega
      simp [hj, hz, h1, h2]
    · have h2 : ¬ j < z.size := by omega
      simp [hj, h2]

theorem run_makeD (hm : Mem C E o m I w) {t el : TypeId} {l c : AV} {sh : Sh} {ys : List D} {p : Prop} {vl vc : Value} {i : Nat} (hi : o i = none) (h : makeD C.T o t l c = some (el, sh, ys, p)) (hp : p)
    (hl : AV.val (gh o m) I w l vl) (hc : AV.val (gh o m) I w c vc) :
    ∃ v w', (Instr.makeSlice t vl vc).run C.P w = .ok v w' ∧ Done C E o m I w (.own i ys.length) [(i, .row el sh ys)] v w' := by
  unfold makeD at h
  split at h
  · rename_i e kn n kk k ht
    have hu := (C.ok t e ht).und
    split at h
    · rename_i el' hd
      rw [hd] at hu
      split at h
      · rename_i ee hee
        split at h
        · rename_i z q hz
          split at h
          · rename_i hsame
            simp only [Option.some.injEq, Prod.mk.injEq] at h
            obtain ⟨rfl, rfl, rfl, rfl⟩ := h
            obtain ⟨hq, h0, h1, h2, h3⟩ := hp
            rw [val_int] at hl hc
            subst hl hc
            obtain ⟨ie, ze, i1, i2, i3, i4, i5, i6⟩ := (C.ok _ _ hee).info
            have hzc : AV.cells (gh o m) I w ee.zero ze.cells.toList := AV.conc_cells _ _ i6
            have hzd := toD_cells hm ee.zero z q _ hz hq hzc
            have hzs := Sh.same_eq _ _ hsame
            have hzl : ze.cells.size = ee.sh.size := by
              rw [← Array.length_toList, D.cells_length z _ hzd.1, hzs]
            have hrun := run_make (P := C.P) w t el' ie ze hu.1 i1 i4 kn kk n k h0 h1 (by rw [i3]; exact h2) (by omega)
            have hlen : (List.replicate n.toNat z).length = n.toNat := by simp
            have hn : n.toNat ≤ k.toNat := by omega
            refine ⟨_, _, hrun, ?_⟩
            rw [i2]
            have hA : (madeCells ze.cells (k.toNat * ee.sh.size)).toList.take ((List.replicate n.toNat z).length * ee.sh.size) = (List.replicate n.toNat ze.cells.toList).flatten := by
              rw [hlen, ← madeCells_eq ze.cells ee.sh.size hzl n.toNat]
              have hkn : k.toNat = n.toNat + (k.toNat - n.toNat) := by omega
              rw [hkn]
              simp only [madeCells, Array.toList_map, Array.toList_range]
              rw [← List.map_take, List.take_range, Nat.add_mul]
              congr 2
              omega
            have hd := done_row hm hi (A := madeCells ze.cells (k.toNat * ee.sh.size)) (el := el') (cap := k.toNat) hA (cellsL_replicate hzs hzd.1 n.toNat) (size_madeCells _ _) (by rw [hlen]; exact hn)
              (by unfold maxLen; omega) (by rw [hlen]; unfold lim; omega)
            rw [hlen] at hd ⊢
            exact hd
          · cases h
        · cases h
      · cases h
    · cases h
  · cases h

/-! append. -/
/-- What is appended: elements. -/
def srcD (T : Tab) (ol : Nat → Option Ob) (el : TypeId) (ee : TE) (x : AV) : Option (List D × Prop) :=
  match x with
  | .own b k => match ol b with
    | some (.row ty sh xs) => if Nat.beq ty el && Sh.same sh ee.sh then some (xs, k = xs.length) else none
    | some (.frz _ sh xs) => if Sh.same sh ee.sh then some (xs, k = xs.length) else none
    | _ => none
  | x => match toD ol x with
    | some (.sl sh xs, p) => if Sh.same sh ee.sh then some (xs, p) else none
    | _ => none

theorem src_cells (hm : Mem C E o m I w) {el : TypeId} {ee : TE} {x : AV} {ys : List D} {p : Prop} {v : Value} (h : srcD C.T o el ee x = some (ys, p)) (hp : p) (hx : AV.val (gh o m) I w x v) :
    ∃ a cap, v = .slice a ys.length cap ∧ ys.length ≤ lim ∧ (ys = [] ∨ ∃ b off vs, a = some ⟨b, off, none⟩ ∧ (∀ (j : Nat) u, vs[j]? = some u → w.cell? ⟨b, off + j, none⟩ = some u) ∧ D.cellsL I w ee.sh ys vs) := by
  have dat : ∀ {sh : Sh} {q : Prop}, toD o x = some (.sl sh ys, q) → q → Sh.same sh ee.sh = true →
      ∃ a cap, v = .slice a ys.length cap ∧ ys.length ≤ lim ∧ (ys = [] ∨ ∃ b off vs, a = some ⟨b, off, none⟩ ∧ (∀ (j : Nat) u, vs[j]? = some u → w.cell? ⟨b, off + j, none⟩ = some u) ∧ D.cellsL I w ee.sh ys vs) := by
    intro sh q h1 h2 h3
    cases Sh.same_eq _ _ h3
    have hx' := toD_val hm h1 h2 hx
    rw [val_sl] at hx'
    obtain ⟨a, cap, rfl, h4, h5, h6⟩ := hx'
    refine ⟨a, cap, rfl, h5, ?_⟩
    rcases h6 with h6 | ⟨b, off, vs, e1, _, e2, e3⟩
    · exact .inl h6
    · exact .inr ⟨b, off, vs, e1, e2, e3⟩
  have gen : (match toD o x with
      | some (.sl sh xs, p) => if Sh.same sh ee.sh then some (xs, p) else none
      | _ => none) = some (ys, p) → ∃ a cap, v = .slice a ys.length cap ∧ ys.length ≤ lim ∧ (ys = [] ∨ ∃ b off vs, a = some ⟨b, off, none⟩ ∧ (∀ (j : Nat) u, vs[j]? = some u → w.cell? ⟨b, off + j, none⟩ = some u) ∧ D.cellsL I w ee.sh ys vs) := by
    intro h
    split at h
    · rename_i sh xs q hto
      split at h
      · rename_i hsame
        cases h
        exact dat hto hp hsame
      · cases h
    · cases h
  unfold srcD at h
  split at h
  · rename_i b k
    cases hb : o b with
    | none => rw [hb] at h; cases h
    | some ob =>
      rw [hb] at h
      cases ob <;> try (simp only at h; cases h; done)
      case row ty sh xs =>
        simp only at h
        split at h
        · rename_i hc
          simp only [Bool.and_eq_true] at hc
          cases Sh.same_eq _ _ hc.2
          cases h
          rw [val_own] at hx
          obtain ⟨a, c, n, rfl, h1, h2, h3⟩ := hx
          have hn : n = ys.length := by simpa only [gh, hb, Option.some.injEq] using h1.symm
          have hval : Value.slice a k c = m b := h3 (by omega)
          obtain ⟨hlim, vs, hown, hcs⟩ := hm.obj b _ hb
          subst hp
          refine ⟨a, c, rfl, hlim, ?_⟩
          rcases hown.2 with ⟨hn', hz⟩ | ⟨g, cap, cur, hn', _, hheap, hcap, _, _, htake⟩
          · exact .inl (List.eq_nil_of_length_eq_zero hz)
          · rw [hn'] at hval
            cases hval
            refine .inr ⟨g, 0, vs, rfl, fun j u hj => ?_, hcs⟩
            rw [Nat.zero_add, cell_of_row w g j cur _ _ hheap, ← Array.getElem?_toList]
            rw [← htake, List.getElem?_take] at hj
            split at hj
            · exact hj
            · cases hj
        · cases h
      case frz ty sh xs =>
        simp only at h
        split at h
        · rename_i hsame
          cases h
          exact dat (q := k = ys.length) (by simp only [toD, hb]) hp hsame
        · cases h
  · exact gen h

/-- append: to nothing (a row is made), or to a row of the activation's own. -/
def appD (T : Tab) (ol : Nat → Option Ob) (t : TypeId) (i : Nat) (s x : AV) : Option (AV × List (Nat × Ob) × Prop) :=
  match lk T t with
  | none => none
  | some e => match e.td with
    | .slice el => match lk T el with
      | none => none
      | some ee => match srcD T ol el ee x with
        | none => none
        | some (ys, p) => match s with
          | .nils _ => some (.own i ys.length, [(i, .row el ee.sh ys)], p ∧ ys.length * ee.bytes ≤ 140737488355328 ∧ ys.length ≤ 140737488355328)
          | .own b k => match ol b with
            | some (.row ty sh xs) => if Nat.beq ty el && Sh.same sh ee.sh then
                some (.own b (xs ++ ys).length, [(b, .row ty sh (xs ++ ys))], p ∧ k = xs.length ∧ (xs ++ ys).length * ee.bytes ≤ 140737488355328 ∧ (xs ++ ys).length ≤ 140737488355328)
              else none
            | _ => none
          | _ => none
    | _ => none

theorem oneCells {ok : Nat → Prop} {sh : Sh} {ys : List D} {vs : List Value} (h : D.cellsL ok w sh ys vs) : ∀ u ∈ vs, u.oneCell' = true := D.cellsL_one sh ys vs h

theorem run_append_zero {t ty el : TypeId} {e : TE} {ee : TE} (ht : lk C.T t = some e) (hd : e.td = .slice el) (he : lk C.T el = some ee) (base a : Option Addr) (n cap c : Nat) (hn : n ≤ cap) :
    (Builtin.append_ #[t, t] ty #[.slice base n cap, .slice a 0 c]).run C.P w = .ok (.slice base n cap) w := by
  have hu := (C.ok t e ht).und
  rw [hd] at hu
  have hs : (storeCells (⟨0, 0, none⟩ : Addr) [] 0).run C.P w = .ok () w := rfl
  cases a <;> cases base <;> simp [Builtin.append_, run_underlying hu.1, run_sizeOf' he, Builtin.lenOf, Builtin.firstCells, loadCells, loadCellsFrom, hn, storeCells]

/-- What append does to a row of the activation's own, or to nothing. -/
theorem run_append_cases {t ty el : TypeId} {e ee : TE} (ht : lk C.T t = some e) (hd : e.td = .slice el) (he : lk C.T el = some ee) (hpos : 0 < ee.sh.size)
    {v : Value} {n : Nat} {xs : List Value} (hown : w.ownsRow 0 el ee.sh.size v n xs) {b off mm c : Nat} {news : List Value} (hm0 : 0 < mm) (hl : news.length = mm * ee.sh.size)
    (hnews : ∀ (j : Nat) u, news[j]? = some u → w.cell? ⟨b, off + j, none⟩ = some u) (h1 : ∀ u ∈ news, u.oneCell' = true) (hmax : n + mm ≤ 140737488355328) (hbytes : (n + mm) * ee.bytes ≤ 140737488355328) :
    ∃ g cap w', (Builtin.append_ #[t, t] ty #[v, .slice (some ⟨b, off, none⟩) mm c]).run C.P w = .ok (.slice (some ⟨g, 0, none⟩) (n + mm) cap) w' ∧
      w'.ownsRow 0 el ee.sh.size (.slice (some ⟨g, 0, none⟩) (n + mm) cap) (n + mm) (xs ++ news) ∧ w.heap.size ≤ w'.heap.size ∧
      (∀ k, k < w.heap.size → Value.block? v ≠ some k → w'.heap[k]? = w.heap[k]?) ∧ (Value.block? v = some g ∨ (w.heap.size ≤ g ∧ g < w'.heap.size)) ∧ w'.os = w.os ∧ w'.output = w.output ∧ w'.tape = w.tape := by
  have hu := (C.ok t e ht).und
  rw [hd] at hu
  have hu1 := hu.1
  obtain ⟨i, z, i1, i2, i3, i4, i5, i6⟩ := (C.ok _ _ he).info
  have hzs : z.cells.size = ee.sh.size := by
    have hc : AV.cells ⟨fun _ => undef, fun _ _ => none, fun _ => none, fun _ _ _ => none⟩ (fun _ => False) w ee.zero z.cells.toList := AV.conc_cells _ _ i6
    rw [← Array.length_toList, AV.cells_length _ _ hc, i5]
  have hadd : ∀ j u, news[j]? = some u → w.cell? ((⟨b, off, none⟩ : Addr).add j) = some u := fun j u hj => by rw [add_none]; exact hnews j u hj
  rw [← i2] at hl hown hzs ⊢
  rw [← i3] at hbytes
  have hlen : (xs ++ news).length = (n + mm) * i.size := by rw [List.length_append, hown.1, hl, Nat.add_mul]
  have hmaxl : n + mm ≤ maxLen := by unfold maxLen; omega
  have grown : ∀ (old : Nat), old < n + mm →
      (w.drew.alloc (.cells (xs.toArray ++ news.toArray ++ Builtin.zeroCells z.cells (grownCap w (n + mm) old el - (n + mm))) el)).ownsRow 0 el i.size
        (.slice (some ⟨w.heap.size, 0, none⟩) (n + mm) (grownCap w (n + mm) old el)) (n + mm) (xs ++ news) := by
    intro old ho
    have hge := grownCap_ge w (n + mm) old el
    have hcm : grownCap w (n + mm) old el ≤ maxLen := grownCap_le_maxLen w (n + mm) old el hmaxl
    refine ⟨hlen, .inr ⟨w.heap.size, _, _, rfl, Nat.zero_le _, heap_alloc_new w.drew _, hge, hcm, ?_, ?_⟩⟩
    · simp only [Array.size_append, List.size_toArray, size_zeroCells, hzs, hown.1, hl, ← Nat.add_mul]
      congr 1
      omega
    · simp only [Array.toList_append, List.append_assoc]
      rw [← List.append_assoc, ← hlen]
      exact List.take_left
  rcases hown.2 with ⟨rfl, rfl⟩ | ⟨g, cap, cur, rfl, hbg, hg, hnc, hcm, hcs, htake⟩
  · have hx : xs = [] := List.eq_nil_of_length_eq_zero (by simpa using hown.1)
    subst hx
    have hr := run_append_nil (P := C.P) w t ty el i z hu1 i1 i4 ⟨b, off, none⟩ mm c news hl hadd (by omega) (by omega) (by have hb := hbytes; simp only [Nat.zero_add] at hb; omega)
    have hgr := grown 0 (by omega)
    simp only [Nat.zero_add, List.nil_append, Array.empty_append] at hgr ⊢
    exact ⟨_, _, _, hr, hgr, by simp, fun k hk _ => heap_alloc_old w.drew _ k hk, .inr ⟨Nat.le_refl _, by simp⟩, rfl, rfl, rfl⟩
  · by_cases hroom : n + mm ≤ cap
    · have hfit : n * i.size + news.length ≤ cur.size := by rw [hl, hcs, ← Nat.add_mul]; exact Nat.mul_le_mul_right _ hroom
      have hr := run_append_room (P := C.P) w t ty el i hu1 i1 g n cap cur hg ⟨b, off, none⟩ mm c news hl hadd h1 hroom hfit
      refine ⟨_, _, _, hr, ⟨hlen, .inr ⟨g, cap, _, rfl, hbg, setRow_heap w g cur _ el _ hg, hroom, hcm, ?_, ?_⟩⟩, by simp, fun k _ hk => setRow_other w g k _ (fun e => hk (by rw [e]; rfl)), .inl rfl, rfl, rfl, rfl⟩
      · simp only [List.size_toArray, List.length_append, List.length_take, List.length_drop, Array.length_toList]
        omega
      · rw [htake, ← hlen]
        exact List.take_left
    · have holds : ∀ j u, xs[j]? = some u → w.cell? ((⟨g, 0, none⟩ : Addr).add j) = some u := hown.cells (g := g) rfl
      have hr := run_append_grow (P := C.P) w t ty el i z hu1 i1 i4 ⟨g, 0, none⟩ n cap xs hown.1 holds ⟨b, off, none⟩ mm c news hl hadd (by omega) (by omega) (growslice_fits (by omega) hbytes)
      exact ⟨_, _, _, hr, grown cap (by omega), by simp, fun k hk _ => heap_alloc_old w.drew _ k hk, .inr ⟨Nat.le_refl _, by simp⟩, rfl, rfl, rfl⟩

theorem run_appD (hm : Mem C E o m I w) {t ty : TypeId} {i : Nat} {s x r : AV} {ow : List (Nat × Ob)} {p : Prop} {vs vx : Value} (h : appD C.T o t i s x = some (r, ow, p)) (hp : p) (hfr : (∃ sh, s = .nils sh) → o i = none)
    (hs : AV.val (gh o m) I w s vs) (hx : AV.val (gh o m) I w x vx) :
    ∃ v w', (Builtin.append_ #[t, t] ty #[vs, vx]).run C.P w = .ok v w' ∧ Done C E o m I w r ow v w' := by
  unfold appD at h
  cases ht : lk C.T t with
  | none => rw [ht] at h; cases h
  | some e =>
    rw [ht] at h
    simp only at h
    have hu := (C.ok t e ht).und
    cases hd : e.td <;> rw [hd] at h hu <;> try (simp only at h; cases h; done)
    rename_i el
    obtain ⟨u1, u2, ee, u3, u4⟩ := hu
    simp only at h
    rw [u3] at h
    simp only at h
    cases hsrc : srcD C.T o el ee x with
    | none => rw [hsrc] at h; cases h
    | some rr =>
      obtain ⟨ys, q⟩ := rr
      rw [hsrc] at h
      simp only at h
      cases s <;> try (simp only at h; cases h; done)
      case nils sh0 =>
        have hi : o i = none := hfr ⟨_, rfl⟩
        · simp only [Option.some.injEq, Prod.mk.injEq] at h
          obtain ⟨rfl, rfl, rfl⟩ := h
          obtain ⟨hq, hby, hle⟩ := hp
          obtain ⟨a, cap, rfl, hlim, hsrc'⟩ := src_cells hm hsrc hq hx
          rw [val_nils] at hs
          subst hs
          cases ys with
          | nil =>
            refine ⟨_, _, run_append_zero ht hd u3 none a 0 0 cap (Nat.le_refl _), ?_⟩
            have hsp : Spares o m w w i := ⟨Nat.le_refl _, fun _ _ _ => rfl, ⟨rfl, rfl, rfl⟩⟩
            have hl : Later o m I w (upd o i (some (.row el ee.sh []))) (upd m i (.slice none 0 0)) I w bad0 := Later.new hm hsp (fun _ h => h) hi
            refine ⟨_, I, Mem.put hm hsp (fun _ h => h) (fun _ h => .inl h) hl ?_ ?_, hl, ?_⟩
            · exact ⟨Nat.zero_le _, [], World.ownsRow_nil w 0 el ee.sh.size, by simp only [D.cellsL]⟩
            · intro _ b hb; simp only [Value.block?] at hb; cases hb
            · rw [val_own]
              refine ⟨none, 0, 0, rfl, by simp [ups, gh, upd_same], Nat.le_refl _, fun _ => ?_⟩
              show _ = upd m i _ i
              rw [upd_same]
              rfl
          | cons y ys =>
            rcases hsrc' with hsrc' | ⟨b, off, vs, rfl, hv, hcs⟩
            · cases hsrc'
            · have hlenv := D.cellsL_length ee.sh _ vs hcs
              obtain ⟨g, cap', w', hrun, hown', hsz, hheap, hblk, hsy⟩ := run_append_cases (ty := ty) (c := cap) ht hd u3 u4 (World.ownsRow_nil w 0 el ee.sh.size) (mm := (y :: ys).length) (by simp) hlenv hv (oneCells hcs) (by rw [Nat.zero_add]; exact hle) (by rw [Nat.zero_add]; exact hby)
              simp only [Nat.zero_add, List.nil_append] at hrun hown'
              refine ⟨_, _, hrun, ?_⟩
              have hsp : Spares o m w w' i := ⟨hsz, fun k hk _ => hheap k hk (by simp [Value.block?]), hsy⟩
              have hl : Later o m I w (upd o i (some (.row el ee.sh (y :: ys)))) (upd m i (.slice (some ⟨g, 0, none⟩) (y :: ys).length cap')) I w' bad0 := Later.new hm hsp (fun _ h => h) hi
              refine ⟨_, I, Mem.put hm hsp (fun _ h => h) (fun _ h => .inl h) hl ?_ ?_, hl, ?_⟩
              · exact ⟨hlim, vs, hown', D.cellsL_mono hl.im hl.cells ee.sh _ vs hcs⟩
              · intro _ bb hbb
                simp only [Value.block?, Option.some.injEq] at hbb
                subst hbb
                rcases hblk with hblk | hblk
                · simp [Value.block?] at hblk
                · exact .inr hblk
              · rw [val_own]
                refine ⟨_, _, _, rfl, by simp only [ups, gh, upd_same], Nat.le_refl _, fun _ => ?_⟩
                show _ = upd m i _ i
                rw [upd_same]
      case own b k =>
        simp only at h
        cases hb : o b with
        | none => rw [hb] at h; cases h
        | some ob =>
          rw [hb] at h
          cases ob <;> try (simp only at h; cases h; done)
          rename_i ty' sh xs
          simp only at h
          split at h
          · rename_i hc
            simp only [Bool.and_eq_true] at hc
            have hty := Nat.eq_of_beq_eq_true hc.1
            have hsh := Sh.same_eq _ _ hc.2
            subst hty hsh
            simp only [Option.some.injEq, Prod.mk.injEq] at h
            obtain ⟨rfl, rfl, rfl⟩ := h
            obtain ⟨hq, hk, hby, hle⟩ := hp
            obtain ⟨a, cap, rfl, hlim, hsrc'⟩ := src_cells hm hsrc hq hx
            obtain ⟨hlimx, vxs, hown, hcx⟩ := hm.obj b _ hb
            rw [val_own] at hs
            obtain ⟨a0, c0, n, rfl, h1, h2, h3⟩ := hs
            have hn : n = xs.length := by simpa only [gh, hb, Option.some.injEq] using h1.symm
            have hval : Value.slice a0 k c0 = m b := h3 (by omega)
            cases ys with
            | nil =>
              have hc0 : k ≤ c0 := by
                rcases hown.2 with ⟨hn', hz⟩ | ⟨g, cap', cur, hn', _, _, hcap, _⟩
                · rw [hn'] at hval; cases hval; exact Nat.le_refl _
                · rw [hn'] at hval; cases hval; exact hcap
              refine ⟨_, _, run_append_zero ht hd u3 a0 a k c0 cap hc0, ?_⟩
              have e0 : upd o b (some (.row ty' ee.sh (xs ++ []))) = o := by rw [List.append_nil, ← hb, upd_self]
              refine ⟨m, I, ?_, ?_, ?_⟩
              · simp only [ups]; rw [e0]; exact hm
              · simp only [ups]; rw [e0]; exact Later.refl o m I w
              · simp only [ups]
                rw [e0, val_own]
                refine ⟨a0, c0, n, by simp [hk], h1, by simp; omega, fun _ => ?_⟩
                simp only [List.append_nil, ← hk]
                exact hval
            | cons y ys =>
              rcases hsrc' with hsrc' | ⟨b', off, vs, rfl, hv, hcs⟩
              · cases hsrc'
              · have hlenv := D.cellsL_length ee.sh _ vs hcs
                rw [← hval] at hown
                subst hk
                have hle' : xs.length + (y :: ys).length ≤ 140737488355328 := by simpa using hle
                have hby' : (xs.length + (y :: ys).length) * ee.bytes ≤ 140737488355328 := by simpa using hby
                obtain ⟨g, cap', w', hrun, hown', hsz, hheap, hblk, hsy⟩ := run_append_cases (ty := ty) (c := cap) ht hd u3 u4 hown (mm := (y :: ys).length) (by simp) hlenv hv (oneCells hcs) hle' hby'
                have hlapp : xs.length + (y :: ys).length = (xs ++ y :: ys).length := by simp
                rw [hlapp] at hrun hown'
                refine ⟨_, _, hrun, ?_⟩
                have hsp : Spares o m w w' b := ⟨hsz, fun kk hkk hne => hheap kk hkk (by rw [hval]; exact hne _ hb rfl), hsy⟩
                have hl : Later o m I w (upd o b (some (.row ty' ee.sh (xs ++ y :: ys)))) (upd m b (.slice (some ⟨g, 0, none⟩) (xs ++ y :: ys).length cap')) I w' bad0 :=
                  Later.row hm hsp (fun _ h => h) hb (by simp) (fun e => by simp at e)
                refine ⟨_, I, Mem.put hm hsp (fun _ h => h) (fun _ h => .inl h) hl ?_ ?_, hl, ?_⟩
                · refine ⟨by unfold lim; omega, vxs ++ vs, hown', ?_⟩
                  have app : ∀ (l1 : List D) (c1 : List Value), D.cellsL I w ee.sh l1 c1 → D.cellsL I w ee.sh (l1 ++ y :: ys) (c1 ++ vs) := by
                    intro l1
                    induction l1 with
                    | nil => intro c1 h; simp only [D.cellsL] at h; subst h; exact hcs
                    | cons z l1 ih =>
                      intro c1 h
                      simp only [D.cellsL] at h
                      obtain ⟨d1, d2, rfl, e1, e2, e3⟩ := h
                      simp only [List.cons_append, D.cellsL]
                      exact ⟨d1, d2 ++ vs, by simp, e1, e2, ih d2 e3⟩
                  exact D.cellsL_mono hl.im hl.cells ee.sh _ _ (app xs vxs hcx)
                · intro _ bb hbb
                  simp only [Value.block?, Option.some.injEq] at hbb
                  subst hbb
                  rcases hblk with hblk | hblk
                  · exact .inl ⟨_, hb, rfl, by rw [← hval]; exact hblk⟩
                  · exact .inr hblk
                · rw [val_own]
                  refine ⟨_, _, _, rfl, by simp only [ups, gh, upd_same], Nat.le_refl _, fun _ => ?_⟩
                  show _ = upd m b _ b
                  rw [upd_same]
          · cases h
end
end Go.Sep
