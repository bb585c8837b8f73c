/- Operations that make or write memory. -/
import Derived.Test.YtkchimbalpiilaaGreatSepF
import Derived.Laws.MakeOwn
import Derived.Laws.AppendOwn
set_option linter.all false
set_option linter.deprecated false
namespace Go.Sep
open Go

def ups (o : Nat → Option Ob) : List (Nat × Ob) → Nat → Option Ob
  | [] => o
  | (i, c) :: l => ups (upd o i (some c)) l

theorem upd_self {α : Type} (f : Nat → α) (i : Nat) : upd f i (f i) = f := by
  funext j
  by_cases h : j = i
  · rw [h, upd_same]
  · rw [upd_other _ _ h]

section
variable {C : Cx} {E : En} {o : Nat → Option Ob} {m : Nat → Value} {I : Nat → Prop} {w : World}

/-- What an operation leaves: its value, the objects it wrote, a later memory. -/
def Done (C : Cx) (E : En) (o : Nat → Option Ob) (m : Nat → Value) (I : Nat → Prop) (w : World) (val : AV) (ow : List (Nat × Ob)) (v : Value) (w' : World) : Prop :=
  ∃ m' I', Mem C E (ups o ow) m' I' w' ∧ Later o m I w (ups o ow) m' I' w' bad0 ∧ AV.val (gh (ups o ow) m') I' w' val v

theorem Done.same (hm : Mem C E o m I w) {val : AV} {v : Value} (h : AV.val (gh o m) I w val v) : Done C E o m I w val [] v w :=
  ⟨m, I, hm, Later.refl o m I w, h⟩

/-! Boxes. -/
theorem done_box (hm : Mem C E o m I w) {i : Nat} (hi : o i = none) {x : AV} {A : Array Value} {t : TypeId} (hc : AV.cells (gh o m) I w x A.toList) :
    Done C E o m I w (.ref i []) [(i, .box x)] (.pointer (some ⟨w.heap.size, 0, none⟩)) (w.alloc (.cells A t)) := by
  have hs : Spares o m w (w.alloc (.cells A t)) i :=
    ⟨by simp, fun b hb _ => heap_alloc_old w _ b hb, ⟨rfl, rfl, rfl⟩⟩
  have hl : Later o m I w (upd o i (some (.box x))) (upd m i (.pointer (some ⟨w.heap.size, 0, none⟩))) I (w.alloc (.cells A t)) bad0 :=
    Later.new hm hs (fun _ h => h) hi
  refine ⟨_, I, Mem.put hm hs (fun _ h => h) (fun _ h => .inl h) hl ?_ ?_, hl, ?_⟩
  · exact ⟨w.heap.size, _, t, rfl, heap_alloc_new w _, hl.cells' (AV.clear_none x) hc⟩
  · intro _ b hb
    simp only [Value.block?, Option.some.injEq] at hb
    subst hb
    exact .inr ⟨Nat.le_refl _, by simp⟩
  · rw [val_ref]
    refine ⟨w.heap.size, 0, ?_, ?_, rfl⟩
    · show Value.block? (upd m i _ i) = _
      rw [upd_same]
      rfl
    · simp only [ups, gh, upd_same, Sh.offP, Option.map_some]

theorem run_box (t : TypeId) (v : Value) : (Instr.box t v).run C.P w = .ok (.pointer (some ⟨w.heap.size, 0, none⟩)) (w.alloc (.cells v.cells t)) := by
  simp [Instr.box, newVar, newRow]

theorem run_alloc {t : Nat} {e : TE} (h : lk C.T t = some e) : ∃ A : Array Value, (Instr.alloc t true (.tuple #[])).run C.P w = .ok (.pointer (some ⟨w.heap.size, 0, none⟩)) (w.alloc (.cells A t)) ∧
    AV.cells (gh o m) I w e.zero A.toList ∧ e.zero.sh = e.sh := by
  obtain ⟨i, z, h1, h2, h3, h4, h5, h6⟩ := (C.ok t e h).info
  refine ⟨z.cells, ?_, AV.conc_cells _ _ h6, h5⟩
  simp [Instr.alloc, zeroValue, typeInfo, h1, h4, newVar, newRow]

/-! Stores. -/
/-- Cells of a block are written over: the block is w's own, and not frozen. -/
theorem run_storeVar' {t : Nat} {e : TE} (ht : lk C.T t = some e) {b k : Nat} {cur : Array Value} {ty : TypeId} (hb : w.heap[b]? = some (.cells cur ty (0, 0)))
    {pre c post cv : List Value} (hcur : cur.toList = pre ++ c ++ post) (hk : k = pre.length) (hc : c.length = e.sh.size) {v : Value} (hv : v.cells.toList = cv) (hcv : cv.length = e.sh.size) (h1 : one' cv) :
    (Instr.storeAt t (.pointer (some ⟨b, k, none⟩)) v).run C.P w = .ok () (w.setRow b (pre ++ cv ++ post).toArray) := by
  have hsz : v.cells.size = e.sh.size := by rw [← hcv, ← hv]; simp
  have hst := run_storeCells_at C.P b k ty cv 0 cur w hb (by
    have : cur.size = (pre ++ c ++ post).length := by rw [← hcur]; simp
    rw [this, hk]
    simp only [List.length_append]
    omega) h1
  have e1 : cur.toList.take (k + 0) ++ cv ++ cur.toList.drop (k + 0 + cv.length) = pre ++ cv ++ post := by
    rw [hcur, hk, Nat.add_zero, List.append_assoc pre c post, List.take_left, ← List.drop_drop, List.drop_left, List.drop_left' (by rw [hc, hcv])]
  unfold Instr.storeAt storeVar
  simp only [Instr.sureAddr, pure_bind, Sem.run_bind, run_sizeOf' ht, Result.andThen_ok, hsz, ne_eq, not_true_eq_false, if_false, hv]
  rw [hst, e1]

def storeD (T : Tab) (ol : Nat → Option Ob) (t : TypeId) (x y : AV) (oc : Oc) : Option (List (Nat × Ob) × Prop) :=
  match lk T t with
  | none => none
  | some e => if Sh.same y.sh e.sh && y.one then match x with
    | .ref b p => match ol b with
      | some (.box c) => match oc with
        | .is c' => some ([(b, .box c')], (∃ u, AV.get p c = some u ∧ u.sh = e.sh) ∧ AV.set p c y = some c')
        | _ => match Sh.offP p c.sh with
          | some (_, u) => if Sh.same u e.sh then match AV.get p c with
              | some _ => match AV.set p c y with
                | some c' => some ([(b, .box c')], True)
                | none => none
              | none => none
            else none
          | none => none
      | _ => none
    | .rref b k i p => match ol b with
      | some (.row ty sh xs) => match oc with
        | .el z => match AV.get p (.d z) with
          | some u => if Sh.same u.sh e.sh then match AV.set p (.d z) y with
              | some (.d z') => some ([(b, .row ty sh (xs.set i z'))], k = xs.length ∧ xs[i]? = some z)
              | _ => none
            else none
          | none => none
        | _ => none
      | _ => none
    | _ => none
    else none

theorem block_pointer {v : Value} {a : Addr} (h : v = .pointer (some a)) : Value.block? v = some a.block := by subst h; rfl

theorem setRow_spares {b : Nat} {A : Array Value} {i : Nat} {ci : Ob} (hi : o i = some ci) (hl : ci.live = true) (hb : Value.block? (m i) = some b) : Spares o m w (w.setRow b A) i :=
  ⟨by simp, fun k hk h => setRow_other w b k A (fun e => h ci hi hl (by rw [hb, e])), ⟨rfl, rfl, rfl⟩⟩

theorem run_storeBox (hm : Mem C E o m I w) {t b : Nat} {e : TE} {p : List Nat} {c c' u y : AV} {v x : Value} (ht : lk C.T t = some e) (hb : o b = some (.box c)) (hg : AV.get p c = some u)
    (hs : u.sh = e.sh) (hset : AV.set p c y = some c') (hys : y.sh = e.sh) (hy1 : y.one = true)
    (hx : AV.val (gh o m) I w (.ref b p) x) (hy : AV.val (gh o m) I w y v) :
    ∃ w', (Instr.storeAt t x v).run C.P w = .ok () w' ∧ Done C E o m I w .any [(b, .box c')] undef w' := by
  rw [val_ref] at hx
  obtain ⟨blk, k, h1, h2, rfl⟩ := hx
  obtain ⟨b', cur, ty, hmb, hheap, hcs⟩ := hm.obj b _ hb
  change Value.block? (m b) = some blk at h1
  rw [hmb] at h1
  cases h1
  obtain ⟨cv, hcv, rfl⟩ := cells_of_val hy1 hy
  obtain ⟨pre, cu, post, hcur, ho, hu, hput⟩ := AV.get_at p hg hcs
  simp only [gh, hb, ho, Option.map_some, Option.some.injEq] at h2
  have h3 := hput y cv c' hcv (hys.trans hs.symm) hset
  have hrun := run_storeVar' (w := w) ht hheap hcur h2.symm (by rw [AV.cells_length u cu hu, hs]) (vOf_cells hcv) (by rw [AV.cells_length y cv hcv, hys]) (AV.cells_one y cv hcv)
  refine ⟨_, hrun, ?_⟩
  have hsp : Spares o m w (w.setRow b' (pre ++ cv ++ post).toArray) b := setRow_spares hb rfl (by rw [hmb]; rfl)
  have hl : Later o m I w (upd o b (some (.box c'))) m I (w.setRow b' (pre ++ cv ++ post).toArray) bad0 := Later.box hm hsp (fun _ h => h) hb h3.2
  have hupd : upd m b (m b) = m := upd_self m b
  have hl2 : Later o m I w (upd o b (some (.box c'))) (upd m b (m b)) I (w.setRow b' (pre ++ cv ++ post).toArray) bad0 := by rw [hupd]; exact hl
  have hmem := Mem.put (c' := .box c') (v' := m b) hm hsp (fun _ h => h) (fun _ h => .inl h) hl2 ?_ ?_
  · exact ⟨_, I, hmem, hl2, by simp only [AV.val]⟩
  · refine ⟨b', _, ty, hmb, setRow_heap w b' cur _ ty _ hheap, ?_⟩
    rw [hupd]
    exact hl.cells' (AV.clear_none c') h3.1
  · intro _ bb hbb
    exact .inl ⟨_, hb, rfl, hbb⟩

theorem run_storeRow (hm : Mem C E o m I w) {t b k i : Nat} {e : TE} {p : List Nat} {ty : TypeId} {sh : Sh} {xs : List D} {z z' : D} {u y : AV} {v x : Value} (ht : lk C.T t = some e) (hb : o b = some (.row ty sh xs))
    (hk : k = xs.length) (hz : xs[i]? = some z) (hg : AV.get p (.d z) = some u) (hs : u.sh = e.sh) (hset : AV.set p (.d z) y = some (.d z')) (hys : y.sh = e.sh) (hy1 : y.one = true)
    (hx : AV.val (gh o m) I w (.rref b k i p) x) (hy : AV.val (gh o m) I w y v) :
    ∃ w', (Instr.storeAt t x v).run C.P w = .ok () w' ∧ Done C E o m I w .any [(b, .row ty sh (xs.set i z'))] undef w' := by
  rw [val_rref] at hx
  obtain ⟨a, n, rfl, h1, h2, h3⟩ := hx
  have hn : n = xs.length := by simpa only [gh, hb, Option.some.injEq] using h1.symm
  obtain ⟨blk, off, h4, h5, rfl⟩ := h3 (by omega)
  obtain ⟨hlim, vs, hown, hcs⟩ := hm.obj b _ hb
  change Value.block? (m b) = some blk at h4
  rcases hown.2 with ⟨hn', _⟩ | ⟨g, cap, cur, hn', hbase, hheap, hcap, hmax, hsize, htake⟩
  · rw [hn'] at h4; cases h4
  · have h4' := h4
    rw [hn'] at h4
    cases h4
    obtain ⟨cv, hcv, rfl⟩ := cells_of_val hy1 hy
    obtain ⟨hzs, pre, cz, post, rfl, hp, hcz, hput⟩ := D.cellsL_at sh xs i z vs hz hcs
    have hcz' : AV.cells (gh o m) I w (.d z) cz := by simpa only [AV.cells] using hcz
    obtain ⟨pre2, cu, post2, rfl, ho, hu, hput2⟩ := AV.get_at p hg hcz'
    have hoff : off = i * sh.size + pre2.length := by
      simp only [AV.sh, hzs] at ho
      simp only [gh, hb, ho, Option.map_some, Option.some.injEq] at h5
      exact h5.symm
    have h6 := hput2 y cv _ hcv (hys.trans hs.symm) hset
    have h6c : D.cells I w z' (pre2 ++ cv ++ post2) := by simpa only [AV.cells] using h6.1
    have h6s : z'.sh = sh := by have := h6.2; simp only [AV.sh] at this; rw [this, hzs]
    have h7 := hput z' _ h6c h6s
    obtain ⟨rest, hrest⟩ : ∃ rest, cur.toList = (pre ++ (pre2 ++ cu ++ post2) ++ post) ++ rest := ⟨cur.toList.drop (xs.length * sh.size), by rw [← htake, List.take_append_drop]⟩
    have hcur : cur.toList = (pre ++ pre2) ++ cu ++ (post2 ++ post ++ rest) := by rw [hrest]; simp
    have hrun := run_storeVar' (w := w) ht hheap hcur (k := off) (by rw [hoff, List.length_append, hp]) (by rw [AV.cells_length u cu hu, hs]) (vOf_cells hcv) (by rw [AV.cells_length y cv hcv, hys]) (AV.cells_one y cv hcv)
    refine ⟨_, hrun, ?_⟩
    have hsp : Spares o m w (w.setRow g (pre ++ pre2 ++ cv ++ (post2 ++ post ++ rest)).toArray) b := setRow_spares hb rfl h4'
    have hupd : upd m b (m b) = m := upd_self m b
    have hl : Later o m I w (upd o b (some (.row ty sh (xs.set i z')))) (upd m b (m b)) I (w.setRow g (pre ++ pre2 ++ cv ++ (post2 ++ post ++ rest)).toArray) bad0 :=
      Later.row hm hsp (fun _ h => h) hb (by simp) (fun _ => rfl)
    have hlen : (pre2 ++ cv ++ post2).length = (pre2 ++ cu ++ post2).length := by
      simp only [List.length_append, AV.cells_length y cv hcv, AV.cells_length u cu hu, hys, hs]
    have hmem := Mem.put (c' := .row ty sh (xs.set i z')) (v' := m b) hm hsp (fun _ h => h) (fun _ h => .inl h) hl ?_ ?_
    · exact ⟨_, I, hmem, hl, by simp only [AV.val]⟩
    · refine ⟨by simpa using hlim, pre ++ (pre2 ++ cv ++ post2) ++ post, ⟨?_, .inr ⟨g, cap, _, by rw [hn', List.length_set], hbase, setRow_heap w g cur _ ty _ hheap, by simpa using hcap, hmax, ?_, ?_⟩⟩, D.cellsL_mono hl.im hl.cells sh _ _ h7⟩
      · have := hown.1
        simp only [List.length_append, List.length_set] at this ⊢ hlen
        omega
      · have h9 : cur.size = ((pre ++ pre2) ++ cu ++ (post2 ++ post ++ rest)).length := by rw [← hcur]; simp
        rw [← hsize, h9]
        simp only [List.size_toArray, List.length_append] at hlen ⊢
        omega
      · simp only [List.length_set]
        have h8 : (pre ++ (pre2 ++ cv ++ post2) ++ post).length = xs.length * sh.size := by
          have := hown.1
          simp only [List.length_append] at this ⊢ hlen
          omega
        have e2 : pre ++ pre2 ++ cv ++ (post2 ++ post ++ rest) = (pre ++ (pre2 ++ cv ++ post2) ++ post) ++ rest := by simp
        rw [e2, ← h8]
        exact List.take_left
    · intro _ bb hbb
      exact .inl ⟨_, hb, rfl, hbb⟩

theorem get_of_off {G : Gh} {c : AV} {cs : List Value} {p : List Nat} {u : AV} {k : Nat} {s : Sh} (hg : AV.get p c = some u) (hc : AV.cells G I w c cs) (ho : Sh.offP p c.sh = some (k, s)) : u.sh = s := by
  obtain ⟨pre, cu, post, _, h, _, _⟩ := AV.get_at p hg hc
  rw [ho] at h
  exact (Prod.mk.inj (Option.some.inj h)).2.symm

theorem run_storeD (hm : Mem C E o m I w) {t : TypeId} {x y : AV} {oc : Oc} {ow : List (Nat × Ob)} {q : Prop} {v z : Value} (h : storeD C.T o t x y oc = some (ow, q)) (hq : q)
    (hx : AV.val (gh o m) I w x v) (hy : AV.val (gh o m) I w y z) :
    ∃ w', (Instr.storeAt t v z).run C.P w = .ok () w' ∧ Done C E o m I w .any ow undef w' := by
  unfold storeD at h
  cases ht : lk C.T t with
  | none => rw [ht] at h; cases h
  | some e =>
    rw [ht] at h
    simp only at h
    split at h
    · rename_i hc
      simp only [Bool.and_eq_true] at hc
      have hys := Sh.same_eq _ _ hc.1
      cases x <;> try (simp only at h; cases h; done)
      case ref b p =>
        simp only at h
        cases hb : o b with
        | none => rw [hb] at h; cases h
        | some ob =>
          rw [hb] at h
          cases ob <;> try (simp only at h; cases h; done)
          rename_i c
          simp only at h
          obtain ⟨_, cur, _, _, _, hcs⟩ := hm.obj b _ hb
          have dflt : (match Sh.offP p c.sh with
              | some (_, u) => if Sh.same u e.sh then match AV.get p c with
                  | some _ => match AV.set p c y with
                    | some c' => some ([(b, Ob.box c')], True)
                    | none => none
                  | none => none
                else none
              | none => none) = some (ow, q) → ∃ w', (Instr.storeAt t v z).run C.P w = .ok () w' ∧ Done C E o m I w .any ow undef w' := by
            intro h
            cases hp : Sh.offP p c.sh with
            | none => rw [hp] at h; cases h
            | some qq =>
              obtain ⟨k, u⟩ := qq
              rw [hp] at h
              simp only at h
              split at h
              · rename_i hsame
                have hsh := Sh.same_eq _ _ hsame
                split at h
                · rename_i u' hu
                  split at h
                  · rename_i c' hset
                    cases h
                    exact run_storeBox hm ht hb hu ((get_of_off hu hcs hp).trans hsh) hset hys hc.2 hx hy
                  · cases h
                · cases h
              · cases h
          cases oc with
          | is c' =>
            simp only [Option.some.injEq, Prod.mk.injEq] at h
            obtain ⟨rfl, rfl⟩ := h
            obtain ⟨⟨u', hu, hs⟩, hset⟩ := hq
            exact run_storeBox hm ht hb hu hs hset hys hc.2 hx hy
          | no => exact dflt h
          | el y => exact dflt h
          | bt y => exact dflt h
      case rref b k i p =>
        simp only at h
        cases hb : o b with
        | none => rw [hb] at h; cases h
        | some ob =>
          rw [hb] at h
          cases ob <;> try (simp only at h; cases h; done)
          rename_i ty sh xs
          simp only at h
          cases oc <;> try (simp only at h; cases h; done)
          rename_i el
          simp only at h
          split at h
          · rename_i u hu
            split at h
            · rename_i hsame
              split at h
              · rename_i z' hset
                cases h
                exact run_storeRow hm ht hb hq.1 hq.2 hu (Sh.same_eq _ _ hsame) hset hys hc.2 hx hy
              · cases h
            · cases h
          · cases h
    · cases h

/-! Values put together. -/
theorem foldl_put (off : Nat) : ∀ (vs : List Value) (j : Nat) (cells : Array Value), off + j + vs.length ≤ cells.size →
    ((vs.zipIdx j).foldl (fun cs x => cs.setIfInBounds (off + x.2) x.1) cells).toList = cells.toList.take (off + j) ++ vs ++ cells.toList.drop (off + j + vs.length)
  | [], j, cells, _ => by simp
  | v :: vs, j, cells, h => by
    simp only [List.zipIdx_cons, List.foldl_cons]
    rw [foldl_put off vs (j + 1) (cells.setIfInBounds (off + j) v) (by simp at h ⊢; omega)]
    have e := list_seg_step cells.toList (off + j) v vs (by simp at h ⊢; omega)
    simpa [Array.toList_setIfInBounds, Nat.add_assoc] using e

theorem put_cells {v : Value} {cells : Array Value} {pre c post : List Value} (hc : cells.toList = pre ++ c ++ post) (hl : v.cells.size = c.length) :
    (v.cells.zipIdx.foldl (fun cs x => cs.setIfInBounds (pre.length + x.2) x.1) cells).toList = pre ++ v.cells.toList ++ post := by
  have hsz : cells.size = (pre ++ c ++ post).length := by rw [← hc]; simp
  rw [← Array.foldl_toList, Array.toList_zipIdx]
  rw [foldl_put pre.length v.cells.toList 0 cells (by rw [hsz]; simp; omega)]
  rw [hc]
  simp only [Nat.add_zero, Array.length_toList]
  rw [List.append_assoc pre c post, List.take_left, ← List.drop_drop, List.drop_left, hl, List.drop_left]

def buildGo : List (Nat × AV) → AV → Option AV
  | [], c => some c
  | (i, x) :: l, c => match c.kid i with
    | none => none
    | some y => if Sh.same x.sh y.sh && x.one then match c.putKid i x with
        | none => none
        | some c' => buildGo l c'
      else none

inductive Parts (G : Gh) (I : Nat → Prop) (w : World) : List (Nat × AV) → List (Nat × Value) → Prop where
  | nil : Parts G I w [] []
  | cons {i : Nat} {x : AV} {v : Value} {l : List (Nat × AV)} {l' : List (Nat × Value)} : AV.val G I w x v → Parts G I w l l' → Parts G I w ((i, x) :: l) ((i, v) :: l')

theorem fill_build {G : Gh} {place : Nat → Option (Nat × Nat)} {s0 : Sh} (hpl : ∀ i s k, Sh.offP [i] s0 = some (k, s) → place i = some (k, s.size)) :
    ∀ (l : List (Nat × AV)) (l' : List (Nat × Value)) (c r : AV) (cells : Array Value), Parts G I w l l' → c.sh = s0 → AV.cells G I w c cells.toList → buildGo l c = some r →
      ∃ cells', Instr.fill place cells l' = some cells' ∧ AV.cells G I w r cells'.toList ∧ r.sh = s0
  | [], [], c, r, cells, _, hs, hc, h => by
    simp only [buildGo, Option.some.injEq] at h
    subst h
    exact ⟨cells, rfl, hc, hs⟩
  | (i, x) :: l, l', c, r, cells, hp, hs, hc, h => by
    cases hp with
    | cons hv hp =>
      rename_i v l'
      simp only [buildGo] at h
      cases hk : c.kid i with
      | none => rw [hk] at h; cases h
      | some y =>
        rw [hk] at h
        simp only at h
        split at h
        · rename_i hcond
          simp only [Bool.and_eq_true] at hcond
          have hxs := Sh.same_eq _ _ hcond.1
          cases hput : c.putKid i x with
          | none => rw [hput] at h; cases h
          | some c' =>
            rw [hput] at h
            simp only at h
            obtain ⟨cv, hcv, rfl⟩ := cells_of_val hcond.2 hv
            obtain ⟨pre, cy, post, hcells, ho, hy, hset⟩ := AV.kid_at hk hc 0 y.sh [] rfl
            have h1 := hset x cv c' hcv hxs hput
            have hplace := hpl i y.sh pre.length (by rw [← hs]; simpa using ho)
            have hsz : (vOf x.sh cv).cells.size = y.sh.size := by
              rw [← Array.length_toList, vOf_cells hcv, AV.cells_length x cv hcv, hxs]
            have hcy : cy.length = y.sh.size := AV.cells_length y cy hy
            have hlen : cells.size = (pre ++ cy ++ post).length := by rw [← hcells]; simp
            have hfit : ¬ ((vOf x.sh cv).cells.size ≠ y.sh.size ∨ pre.length + (vOf x.sh cv).cells.size > cells.size) := by
              rw [hlen, hsz, ← hcy]
              simp only [List.length_append]
              omega
            have hfit' : (decide ((vOf x.sh cv).cells.size ≠ y.sh.size) || decide (pre.length + (vOf x.sh cv).cells.size > cells.size)) = false := by
              simp only [not_or] at hfit
              simp [hfit]
            have hpc := put_cells (v := vOf x.sh cv) hcells (by rw [hsz, hcy])
            rw [vOf_cells hcv] at hpc
            obtain ⟨cells', e1, e2, e3⟩ := fill_build hpl l l' c' r _ hp (h1.2.trans hs) (by rw [hpc]; exact h1.1) h
            refine ⟨cells', ?_, e2, e3⟩
            simp only [Instr.fill, hplace]
            rw [if_neg (by simpa using hfit)]
            exact e1
        · cases h

def buildD (T : Tab) (t : TypeId) (l : List (Nat × AV)) : Option AV :=
  match lk T t with
  | none => none
  | some e => match e.sh with
    | .cell => none
    | _ => buildGo l e.zero

theorem sizes_take_off {l : List Sh} {i k : Nat} {s : Sh} (h : Sh.offP [i] (.node l) = some (k, s)) : l[i]? = some s ∧ k = Sh.sizes (l.take i) := by
  simp only [Sh.offP] at h
  cases hl : l[i]? with
  | none => rw [hl] at h; cases h
  | some s' =>
    rw [hl] at h
    simp only [Nat.add_zero, Option.some.injEq, Prod.mk.injEq] at h
    exact ⟨by rw [h.2], h.1.symm⟩

theorem places_of {l : List Sh} {fields : Array Field} {fs : List TypeId} (hf : fields.size = fs.length) (hl : l.length = fs.length)
    (h5 : ∀ (j : Nat) (f : Field), fields[j]? = some f → fs[j]? = some f.type ∧ f.offset = Sh.sizes (l.take j) ∧ ∃ fe, lk C.T f.type = some fe ∧ l[j]? = some fe.sh ∧ 0 < fe.sh.size) :
    ∃ places : List (Nat × Nat), fields.toList.mapM (fun f => (C.P.info? f.type).map fun i => (f.offset, i.size)) = some places ∧ ∀ i s k, Sh.offP [i] (.node l) = some (k, s) → places[i]? = some (k, s.size) := by
  have key : ∀ (L : List Field) (d : Nat), (∀ (j : Nat) (f : Field), L[j]? = some f → ∃ fe, lk C.T f.type = some fe ∧ l[d + j]? = some fe.sh ∧ f.offset = Sh.sizes (l.take (d + j))) →
      ∃ places : List (Nat × Nat), L.mapM (fun f => (C.P.info? f.type).map fun i => (f.offset, i.size)) = some places ∧ ∀ (j : Nat) (s : Sh), j < L.length → l[d + j]? = some s → places[j]? = some (Sh.sizes (l.take (d + j)), s.size) := by
    intro L
    induction L with
    | nil => intro d _; exact ⟨[], rfl, fun j s hj => by simp at hj⟩
    | cons f L ih =>
      intro d h
      obtain ⟨fe, h1, h2, h3⟩ := h 0 f rfl
      obtain ⟨i, z, i1, i2, _⟩ := (C.ok _ _ h1).info
      obtain ⟨places, p1, p2⟩ := ih (d + 1) (fun j g hg => by have := h (j + 1) g (by simpa using hg); rwa [show d + (j + 1) = d + 1 + j by omega] at this)
      refine ⟨(f.offset, i.size) :: places, by simp [List.mapM_cons, i1, p1], fun j s hj hs => ?_⟩
      cases j with
      | zero =>
        rw [h2] at hs
        cases hs
        simp [h3, i2]
      | succ j =>
        have := p2 j s (by simpa using hj) (by rwa [show d + 1 + j = d + (j + 1) by omega])
        rw [List.getElem?_cons_succ, this, show d + 1 + j = d + (j + 1) by omega]
  obtain ⟨places, p1, p2⟩ := key fields.toList 0 (fun j f hj => by
    obtain ⟨_, h2, fe, h3, h4, _⟩ := h5 j f (by simpa using hj)
    exact ⟨fe, h3, by simpa using h4, by simpa using h2⟩)
  refine ⟨places, p1, fun i s k hi => ?_⟩
  obtain ⟨h1, h2⟩ := sizes_take_off hi
  have hlt : i < fields.toList.length := by
    rw [Array.length_toList, hf, ← hl]
    exact (List.getElem?_eq_some_iff.1 h1).1
  rw [p2 i s hlt (by simpa using h1), h2]
  simp

theorem run_buildD {t : TypeId} {l : List (Nat × AV)} {parts : Array (Nat × Value)} {r : AV} {G : Gh} (h : buildD C.T t l = some r) (hp : Parts G I w l parts.toList) :
    ∃ z, (Instr.build t parts).run C.P w = .ok z w ∧ AV.val G I w r z := by
  unfold buildD at h
  cases ht : lk C.T t with
  | none => rw [ht] at h; cases h
  | some e =>
    rw [ht] at h
    simp only at h
    have hu := (C.ok t e ht).und
    obtain ⟨i, z, h1, h2, h3, h4, h5, h6⟩ := (C.ok t e ht).info
    have hzc : AV.cells G I w e.zero z.cells.toList := AV.conc_cells _ _ h6
    cases hs : e.sh with
    | cell => rw [hs] at h; cases h
    | node sl =>
      rw [hs] at h
      simp only at h
      obtain ⟨fs, hd⟩ := node_struct ht hs
      rw [hd] at hu
      obtain ⟨fields, u1, u2, l', u3, u4, u5⟩ := hu
      rw [hs] at u3
      cases u3
      obtain ⟨places, p1, p2⟩ := places_of u2 u4 u5
      obtain ⟨cells, c1, c2, c3⟩ := fill_build (place := (places.toArray[·]?)) (s0 := .node sl) (fun i s k hi => by simpa using p2 i s k hi) l parts.toList e.zero r z.cells hp (h5.trans hs) hzc h
      refine ⟨.agg cells, run_build w t parts cells ?_, ?_⟩
      · unfold Program.built
        simp only [h1, u1, h4, p1]
        exact c1
      · have := val_of_cells c2
        rw [c3] at this
        simpa [vOf] using this
    | arr n s =>
      rw [hs] at h
      simp only at h
      cases hd : e.td <;> rw [hd] at hu
      case arr n' el =>
        obtain ⟨u1, ee, u2, u3, u4, _⟩ := hu
        rw [hs] at u3
        cases u3
        obtain ⟨ie, ze, i1, i2, _⟩ := (C.ok _ _ u2).info
        obtain ⟨cells, c1, c2, c3⟩ := fill_build (place := fun i => some (i * ie.size, ie.size)) (s0 := .arr n ee.sh) (fun i s k hi => by
          simp only [Sh.offP] at hi
          split at hi
          · simp only [Nat.add_zero, Option.some.injEq, Prod.mk.injEq] at hi
            rw [i2, ← hi.1, ← hi.2]
          · cases hi) l parts.toList e.zero r z.cells hp (h5.trans hs) hzc h
        refine ⟨.agg cells, run_build w t parts cells ?_, ?_⟩
        · unfold Program.built
          simp only [h1, u1, h4, i1]
          exact c1
        · have := val_of_cells c2
          rw [c3] at this
          simpa [vOf] using this
      case int => rw [hs] at hu; cases hu.2
      case bool => rw [hs] at hu; cases hu.2
      case str => rw [hs] at hu; cases hu.2
      case ptr => rw [hs] at hu; cases hu.2
      case func => rw [hs] at hu; cases hu.2
      case slice => rw [hs] at hu; cases hu.2.1
      case struct => obtain ⟨_, _, _, _, hh, _⟩ := hu; rw [hs] at hh; cases hh
end
end Go.Sep
