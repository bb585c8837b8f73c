/- Contracts of functions, and what a call by contract does. -/
import Derived.Test.YtkchimbalpiilaaGreatSepI
import Derived.RangeFuncSeq
import Derived.RangeFuncLeaves
set_option linter.all false
set_option linter.deprecated false
namespace Go.Sep
open Go

mutual
/-- No slice in it. -/
def D.flat : D → Bool
  | .sl _ _ => false
  | .agg xs => D.flats xs
  | .arr _ _ xs => D.flats xs
  | _ => true
def D.flats : List D → Bool
  | [] => true
  | x :: xs => D.flat x && D.flats xs
end
mutual
def AV.plain : AV → Bool
  | .d x => x.flat
  | .cp _ => false
  | .agg xs => AV.plains xs
  | .tup xs => AV.plains xs
  | .fn _ xs => AV.plains xs
  | _ => true
def AV.plains : List AV → Bool
  | [] => true
  | x :: xs => AV.plain x && AV.plains xs
end
def Ob.plain : Ob → Bool
  | .box c => c.plain
  | .row _ _ xs => D.flats xs
  | .frz _ _ _ => false
  | .raw _ sl => AV.plains sl
def allPlain : List Ob → Bool
  | [] => true
  | c :: l => c.plain && allPlain l

section
variable {G : Gh} {I I' : Nat → Prop} {w : World}
mutual
theorem D.cells_flat : ∀ (x : D) (cs : List Value), x.flat = true → D.cells I w x cs → D.cells I' w x cs
  | .int _ _, cs, _, h => by simpa only [D.cells] using h
  | .bool _, cs, _, h => by simpa only [D.cells] using h
  | .str _, cs, _, h => by simpa only [D.cells] using h
  | .sl _ _, cs, hf, h => by simp only [D.flat] at hf; cases hf
  | .agg xs, cs, hf, h => by simp only [D.cells] at h ⊢; exact D.cellsA_flat xs cs (by simpa only [D.flat] using hf) h
  | .arr sh n xs, cs, hf, h => by simp only [D.cells] at h ⊢; exact ⟨h.1, D.cellsL_flat sh xs cs (by simpa only [D.flat] using hf) h.2⟩
theorem D.cellsA_flat : ∀ (xs : List D) (cs : List Value), D.flats xs = true → D.cellsA I w xs cs → D.cellsA I' w xs cs
  | [], cs, _, h => by simpa only [D.cellsA] using h
  | x :: xs, cs, hf, h => by
    simp only [D.cellsA] at h ⊢
    simp only [D.flats, Bool.and_eq_true] at hf
    obtain ⟨c1, c2, rfl, h1, h2⟩ := h
    exact ⟨c1, c2, rfl, D.cells_flat x c1 hf.1 h1, D.cellsA_flat xs c2 hf.2 h2⟩
theorem D.cellsL_flat (sh : Sh) : ∀ (xs : List D) (cs : List Value), D.flats xs = true → D.cellsL I w sh xs cs → D.cellsL I' w sh xs cs
  | [], cs, _, h => by simpa only [D.cellsL] using h
  | x :: xs, cs, hf, h => by
    simp only [D.cellsL] at h ⊢
    simp only [D.flats, Bool.and_eq_true] at hf
    obtain ⟨c1, c2, rfl, hs, h1, h2⟩ := h
    exact ⟨c1, c2, rfl, hs, D.cells_flat x c1 hf.1 h1, D.cellsL_flat sh xs c2 hf.2 h2⟩
end
mutual
theorem AV.cells_plain : ∀ (x : AV) (cs : List Value), x.plain = true → AV.cells G I w x cs → AV.cells G I' w x cs
  | .any, _, _, h => by simp only [AV.cells] at h
  | .tup _, _, _, h => by simp only [AV.cells] at h
  | .d x, cs, hf, h => by simp only [AV.cells] at h ⊢; exact D.cells_flat x cs hf h
  | .nils _, cs, _, h => by simpa only [AV.cells] using h
  | .ref o p, cs, _, h => by simpa only [AV.cells] using h
  | .cp x, cs, hf, h => by simp only [AV.plain] at hf; cases hf
  | .own o k, cs, _, h => by simpa only [AV.cells] using h
  | .rref o k i p, cs, _, h => by simpa only [AV.cells] using h
  | .agg xs, cs, hf, h => by simp only [AV.cells] at h ⊢; exact AV.cellsA_plain xs cs (by simpa only [AV.plain] using hf) h
  | .yd o, cs, _, h => by simpa only [AV.cells] using h
  | .fn f xs, cs, hf, h => by
    simp only [AV.cells] at h ⊢
    obtain ⟨vs, rfl, h⟩ := h
    exact ⟨vs, rfl, AV.vals_plain xs vs (by simpa only [AV.plain] using hf) h⟩
theorem AV.cellsA_plain : ∀ (xs : List AV) (cs : List Value), AV.plains xs = true → AV.cellsA G I w xs cs → AV.cellsA G I' w xs cs
  | [], cs, _, h => by simpa only [AV.cellsA] using h
  | x :: xs, cs, hf, h => by
    simp only [AV.cellsA] at h ⊢
    simp only [AV.plains, Bool.and_eq_true] at hf
    obtain ⟨c1, c2, rfl, h1, h2⟩ := h
    exact ⟨c1, c2, rfl, AV.cells_plain x c1 hf.1 h1, AV.cellsA_plain xs c2 hf.2 h2⟩
theorem AV.vals_plain : ∀ (xs : List AV) (vs : List Value), AV.plains xs = true → AV.vals G I w xs vs → AV.vals G I' w xs vs
  | [], vs, _, h => by simpa only [AV.vals] using h
  | x :: xs, vs, hf, h => by
    simp only [AV.vals] at h ⊢
    simp only [AV.plains, Bool.and_eq_true] at hf
    obtain ⟨c1, v, vs', rfl, h1, rfl, h2⟩ := h
    exact ⟨c1, _, vs', rfl, AV.cells_plain x c1 hf.1 h1, rfl, AV.vals_plain xs vs' hf.2 h2⟩
end
theorem AV.val_plain {x : AV} {v : Value} (hf : x.plain = true) (h : AV.val G I w x v) : AV.val G I' w x v := by
  cases x with
  | any => simp only [AV.val]
  | tup xs =>
    simp only [AV.val] at h ⊢
    obtain ⟨vs, rfl, h⟩ := h
    exact ⟨vs, rfl, AV.vals_plain xs vs (by simpa only [AV.plain] using hf) h⟩
  | _ =>
    obtain ⟨cs, hc, rfl⟩ := cells_of_val rfl h
    exact val_of_cells (AV.cells_plain _ cs hf hc)
end

/-- The blocks of live objects. -/
def handed (o : Nat → Option Ob) (m : Nat → Value) : Nat → Prop := fun b => ∃ i c, o i = some c ∧ c.live = true ∧ Value.block? (m i) = some b

def en (w : World) (I : Nat → Prop) (os : List Ob) (m : Nat → Value) : En := ⟨w, none, I, handed (olist os) m, olist os, m⟩

/-- THE CONTRACT: called with these arguments, where the objects handed over are 'os', the function returns r and leaves the objects 'os'' (those handed over first). -/
def FnD (C : Cx) (f : FuncId) (args : List AV) (os : List Ob) (r : AV) (os' : List Ob) : Prop :=
  ∀ (w : World) (m : Nat → Value) (I : Nat → Prop) (vs : List Value), Mem C (en w I os m) (olist os) m I w → AV.vals (gh (olist os) m) I w args vs →
    Calls C.P f vs.toArray w (fun e w' => ∃ v m' I', e = .returned v ∧ Mem C (en w I os m) (olist os') m' I' w' ∧ Later (olist os) m I w (olist os') m' I' w' bad0 ∧
      AV.val (gh (olist os') m') I' w' r v)

/-- THE CONTRACT OF A ROUND: yield of the loop whose record is object j, called with these arguments. -/
def YD (C : Cx) (j : Nat) (args : List AV) (os : List Ob) (r : AV) (os' : List Ob) : Prop :=
  ∀ (w : World) (m : Nat → Value) (I : Nat → Prop) (vs : List Value), Mem C (en w I os m) (olist os) m I w → AV.vals (gh (olist os) m) I w args vs →
    ∃ b, Value.block? (m j) = some b ∧ YieldAt Fence.wide 0 C.P b vs.toArray w (fun e w' => ∃ v m' I', e = .returned v ∧ Mem C (en w I os m) (olist os') m' I' w' ∧ Later (olist os) m I w (olist os') m' I' w' bad0 ∧
      AV.val (gh (olist os') m') I' w' r v)

def nodupB : List Nat → Bool
  | [] => true
  | a :: l => (posIn l a).isNone && nodupB l

theorem posIn_none : ∀ (l : List Nat) (b : Nat), posIn l b = none → b ∉ l
  | [], b, _ => by simp
  | a :: l, b, h => by
    simp only [posIn] at h
    split at h
    · cases h
    · rename_i hab
      simp only [Option.map_eq_none_iff] at h
      have := posIn_none l b h
      simp only [List.mem_cons, not_or]
      exact ⟨fun e => by subst e; simp at hab, this⟩

theorem posIn_of_mem : ∀ (l : List Nat) (b : Nat), b ∈ l → ∃ j, posIn l b = some j := by
  intro l b hb
  cases h : posIn l b with
  | none => exact absurd hb (posIn_none l b h)
  | some j => exact ⟨j, rfl⟩

theorem posIn_nodup : ∀ (l : List Nat), nodupB l = true → ∀ (j b : Nat), l[j]? = some b → posIn l b = some j
  | [], _, j, b, h => by simp at h
  | a :: l, hn, j, b, h => by
    simp only [nodupB, Bool.and_eq_true, Option.isNone_iff_eq_none] at hn
    cases j with
    | zero =>
      simp only [List.getElem?_cons_zero, Option.some.injEq] at h
      subst h
      simp [posIn]
    | succ j =>
      simp only [List.getElem?_cons_succ] at h
      have ih := posIn_nodup l hn.2 j b h
      have hne : a ≠ b := by
        rintro rfl
        rw [hn.1] at ih
        cases ih
      have : Nat.beq a b = false := by
        cases hb : Nat.beq a b with
        | false => rfl
        | true => exact absurd (Nat.eq_of_beq_eq_true hb) hne
      simp [posIn, this, ih]

/-- The objects behind a call. -/
def after (o : Nat → Option Ob) (names : List Nat) (os' : List Ob) : Nat → Option Ob :=
  fun b => match posIn names b with
    | some j => (os'[j]?).map (Ob.ren (nameOf names))
    | none => o b

def afterM (m : Nat → Value) (names : List Nat) (m' : Nat → Value) : Nat → Value :=
  fun b => match posIn names b with
    | some j => m' j
    | none => m b

theorem Ob.ren_live (ρ : Nat → Nat) (c : Ob) : (c.ren ρ).live = c.live := by cases c <;> rfl

theorem gh_after {o : Nat → Option Ob} {m m' : Nat → Value} {names : List Nat} {os' : List Ob} (hn : nodupB names = true) (hl : os'.length = names.length) :
    Same (nameOf names) (gh (olist os') m') (gh (after o names os') (afterM m names m')) := by
  have key : ∀ (j : Nat) (c : Ob), os'[j]? = some c → posIn names (nameOf names j) = some j := by
    intro j c hj
    have hlt : j < names.length := by rw [← hl]; exact (List.getElem?_eq_some_iff.1 hj).1
    refine posIn_nodup names hn j _ ?_
    simp [nameOf, List.getD_eq_getElem?_getD, hlt]
  refine ⟨?_, ?_, ?_, ?_⟩
  · intro i b hb ⟨p, k, hp⟩
    simp only [gh, olist] at hp hb
    cases hc : os'[i]? with
    | none => rw [hc] at hp; cases hp
    | some c =>
      simp only [gh, afterM, key i c hc]
      exact hb
  · intro i p k hp
    simp only [gh, olist] at hp
    cases hc : os'[i]? with
    | none => rw [hc] at hp; cases hp
    | some c =>
      rw [hc] at hp
      cases c <;> try (simp only at hp; cases hp; done)
      all_goals
        simp only [gh, after, key i _ hc, hc, Option.map_some, Ob.ren, AV.ren_sh]
        exact hp
  · intro i n hp
    simp only [gh, olist] at hp
    cases hc : os'[i]? with
    | none => rw [hc] at hp; cases hp
    | some c =>
      rw [hc] at hp
      cases c <;> try (simp only at hp; cases hp; done)
      all_goals
        simp only [gh, after, afterM, key i _ hc, hc, Option.map_some, Ob.ren]
        exact ⟨hp, trivial⟩
  · intro i j p k hp
    simp only [gh, olist] at hp
    cases hc : os'[i]? with
    | none => rw [hc] at hp; cases hp
    | some c =>
      rw [hc] at hp
      cases c <;> try (simp only at hp; cases hp; done)
      all_goals
        simp only [gh, after, key i _ hc, hc, Option.map_some, Ob.ren]
        exact hp

section
variable {C : Cx} {E : En} {o : Nat → Option Ob} {m : Nat → Value} {I : Nat → Prop} {w : World} {ids news : List Nat} {os : List Ob} {p : Prop} {sees : Bool}

theorem callee_mem (hm : Mem C E o m I w) (hn : nodupB ids = true) (hos : convObs o ids ids = some (os, p)) (hp : p) :
    Mem C (en w (seenI o m I ids sees) os (fun j => m (nameOf ids j))) (olist os) (fun j => m (nameOf ids j)) (seenI o m I ids sees) w := by
  obtain ⟨hlen, hat⟩ := convObs_at ids os p hos hp
  have name : ∀ (j : Nat) (c : Ob), os[j]? = some c → ∃ b c0 q, ids[j]? = some b ∧ nameOf ids j = b ∧ posIn ids b = some j ∧ o b = some c0 ∧ convOb o ids c0 = some (c, q) ∧ q ∧ c.live = c0.live := by
    intro j c hj
    have hlt : j < ids.length := by rw [← hlen]; exact (List.getElem?_eq_some_iff.1 hj).1
    obtain ⟨c0, c', q, h1, h2, h3, h4⟩ := hat j ids[j] (by simp [hlt])
    rw [hj] at h4
    cases h4
    exact ⟨ids[j], c0, q, by simp [hlt], by simp [nameOf, List.getD_eq_getElem?_getD, hlt], posIn_nodup ids hn j _ (by simp [hlt]), h1, h2, h3, live_conv h2⟩
  refine ⟨?_, ?_, ?_, fun b hb => hb, fun b hb => .inl hb, ?_, Nat.le_refl _, fun _ _ _ => rfl, ?_, ⟨rfl, rfl, rfl⟩⟩
  · intro j c hj
    obtain ⟨b, c0, q, h1, h2, h3, h4, h5, h6, _⟩ := name j c hj
    have hob := hm.obj b c0 h4
    show ObR _ _ _ _ (m (nameOf ids j))
    rw [h2]
    cases c0 with
    | box c0 =>
      simp only [convOb] at h5
      split at h5
      · cases h5
      · rename_i hsn
        split at h5
        · rename_i y q' hy
          simp only [Option.some.injEq, Prod.mk.injEq] at h5
          obtain ⟨rfl, rfl⟩ := h5
          obtain ⟨bb, cs, t, e1, e2, e3⟩ := hob
          exact ⟨bb, cs, t, e1, e2, conv_cells hm hos hp sees c0 y _ _ hy h6 (fun h => absurd h hsn) e3⟩
        · cases h5
    | raw mk sl =>
      simp only [convOb] at h5
      split at h5
      · rename_i ys q' hy
        simp only [Option.some.injEq, Prod.mk.injEq] at h5
        obtain ⟨rfl, rfl⟩ := h5
        obtain ⟨bb, tm, e1, e2, ez, e3⟩ := hob
        refine ⟨bb, tm, e1, e2, ez.trans (convA_length _ _ _ hy).symm, fun t => ?_⟩
        have := convA_slots hm hos hp sees (fun t => tm.getD t undef) sl ys _ 0 hy h6 (fun t => by rw [Nat.zero_add]; exact e3 t) t
        rwa [Nat.zero_add] at this
      · cases h5
    | row t sh xs =>
      simp only [convOb, Option.some.injEq, Prod.mk.injEq] at h5
      obtain ⟨rfl, _⟩ := h5
      obtain ⟨e1, vs, e2, e3⟩ := hob
      exact ⟨e1, vs, e2, D.cellsL_mono (fun _ h => .inl h) (fun _ _ _ _ h => h) sh xs vs e3⟩
    | frz t sh xs =>
      simp only [convOb, Option.some.injEq, Prod.mk.injEq] at h5
      obtain ⟨rfl, _⟩ := h5
      obtain ⟨e1, ⟨vs, e2, e3⟩, e4⟩ := hob
      exact ⟨e1, ⟨vs, e2, D.cellsL_mono (fun _ h => .inl h) (fun _ _ _ _ h => h) sh xs vs e3⟩, fun b hb => .inl (e4 b hb)⟩
  · intro i j ci cj b hi hj hli hlj hbi hbj
    obtain ⟨bi, c0i, _, h1, h2, h3, h4, _, _, h5⟩ := name i ci hi
    obtain ⟨bj, c0j, _, g1, g2, g3, g4, _, _, g5⟩ := name j cj hj
    simp only [h2] at hbi
    simp only [g2] at hbj
    have := hm.inj bi bj c0i c0j b h4 g4 (by rw [← h5]; exact hli) (by rw [← g5]; exact hlj) hbi hbj
    subst this
    rw [h3] at g3
    exact Option.some.inj g3
  · rintro b (hb | ⟨_, i, t, sh, xs, h1, h2, h3⟩)
    · refine ⟨(hm.im b hb).1, fun j c hj hl e => ?_⟩
      obtain ⟨bj, c0, _, g1, g2, g3, g4, _, _, g5⟩ := name j c hj
      simp only [g2] at e
      exact (hm.im b hb).2 bj c0 g4 (by rw [← g5]; exact hl) e
    · refine ⟨(hm.old i _ b h1 rfl h3).1, fun j c hj hl e => ?_⟩
      obtain ⟨bj, c0, _, g1, g2, g3, g4, _, _, g5⟩ := name j c hj
      simp only [g2] at e
      have := hm.inj i bj _ c0 b h1 g4 rfl (by rw [← g5]; exact hl) h3 e
      subst this
      rw [h2] at g3
      cases g3
  · intro j c b hj hl hb
    obtain ⟨bj, c0, _, g1, g2, g3, g4, _, _, g5⟩ := name j c hj
    have hb' := hb
    simp only [g2] at hb
    exact ⟨(hm.old bj c0 b g4 (by rw [← g5]; exact hl) hb).1, .inr ⟨j, c, hj, hl, hb'⟩⟩
  · intro g x hg
    obtain ⟨h1, vs, h2, h3⟩ := hm.gl g x hg
    exact ⟨.inl h1, vs, h2, D.cells_mono (fun _ h => .inl h) (fun _ _ _ _ h => h) x vs h3⟩

theorem allPlain_at : ∀ (l : List Ob), allPlain l = true → ∀ (j : Nat) (c : Ob), l[j]? = some c → c.plain = true
  | [], _, j, c, h => by simp at h
  | a :: l, hp, j, c, h => by
    simp only [allPlain, Bool.and_eq_true] at hp
    cases j with
    | zero => simp only [List.getElem?_cons_zero, Option.some.injEq] at h; subst h; exact hp.1
    | succ j => exact allPlain_at l hp.2 j c (by simpa using h)

theorem ob_plain {G : Gh} {I I' : Nat → Prop} {c : Ob} {v : Value} (hc : c.plain = true) (h : ObR G I w c v) : ObR G I' w c v := by
  cases c with
  | box c => obtain ⟨b, cs, t, e1, e2, e3⟩ := h; exact ⟨b, cs, t, e1, e2, AV.cells_plain c _ hc e3⟩
  | row t sh xs => obtain ⟨e1, vs, e2, e3⟩ := h; exact ⟨e1, vs, e2, D.cellsL_flat sh xs vs hc e3⟩
  | frz t sh xs => cases hc
  | raw mk sl =>
    obtain ⟨b, tm, e1, e2, ez, e3⟩ := h
    refine ⟨b, tm, e1, e2, ez, fun t => AV.val_plain ?_ (e3 t)⟩
    have key : ∀ (sl : List AV) (t : Nat), AV.plains sl = true → (sl.getD t .any).plain = true := by
      intro sl
      induction sl with
      | nil => intro t _; rw [List.getD_nil]; rfl
      | cons x sl ih =>
        intro t h
        simp only [AV.plains, Bool.and_eq_true] at h
        cases t with
        | zero => rw [List.getD_cons_zero]; exact h.1
        | succ t => rw [List.getD_cons_succ]; exact ih t h.2
    exact key sl t hc

theorem ob_ren {ρ : Nat → Nat} {G G' : Gh} {I I' : Nat → Prop} (hs : Same ρ G G') (hI : ∀ b, I b → I' b) {c : Ob} {v : Value} (h : ObR G I w c v) : ObR G' I' w (c.ren ρ) v := by
  cases c with
  | box c => obtain ⟨b, cs, t, e1, e2, e3⟩ := h; exact ⟨b, cs, t, e1, e2, AV.cells_ren hs hI c _ e3⟩
  | row t sh xs => obtain ⟨e1, vs, e2, e3⟩ := h; exact ⟨e1, vs, e2, D.cellsL_mono hI (fun _ _ _ _ h => h) sh xs vs e3⟩
  | frz t sh xs => obtain ⟨e1, ⟨vs, e2, e3⟩, e4⟩ := h; exact ⟨e1, ⟨vs, e2, D.cellsL_mono hI (fun _ _ _ _ h => h) sh xs vs e3⟩, fun b hb => hI b (e4 b hb)⟩
  | raw mk sl => obtain ⟨b, tm, e1, e2, ez, e3⟩ := h; exact ⟨b, tm, e1, e2, by rw [AV.rens_length]; exact ez, AV.slots_ren hs hI e3⟩

theorem posIn_append_left : ∀ (a l : List Nat) (b j : Nat), posIn a b = some j → posIn (a ++ l) b = some j
  | [], l, b, j, h => by simp [posIn] at h
  | x :: a, l, b, j, h => by
    simp only [posIn, List.cons_append] at h ⊢
    split at h
    · rename_i hx; rw [if_pos hx]; exact h
    · rename_i hx
      rw [if_neg hx]
      simp only [Option.map_eq_some_iff] at h ⊢
      obtain ⟨j', h, rfl⟩ := h
      exact ⟨j', posIn_append_left a l b j' h, rfl⟩

theorem nodup_left : ∀ (a l : List Nat), nodupB (a ++ l) = true → nodupB a = true
  | [], _, _ => rfl
  | x :: a, l, h => by
    simp only [List.cons_append, nodupB, Bool.and_eq_true, Option.isNone_iff_eq_none] at h ⊢
    refine ⟨?_, nodup_left a l h.2⟩
    cases hx : posIn a x with
    | none => rfl
    | some j => rw [posIn_append_left a l x j hx] at h; exact absurd h.1 (by simp)

theorem call_back (hm : Mem C E o m I w) (hn : nodupB (ids ++ news) = true) (hos : convObs o ids ids = some (os, p)) (hp : p) (hfresh : ∀ b ∈ news, o b = none)
    {os' : List Ob} {r : AV} {v : Value} {m' : Nat → Value} {I' : Nat → Prop} {w' : World} (hlen' : os'.length = (ids ++ news).length) (hpl : sees = true → r.plain = true ∧ allPlain os' = true)
    (hm' : Mem C (en w (seenI o m I ids sees) os (fun j => m (nameOf ids j))) (olist os') m' I' w')
    (hl' : Later (olist os) (fun j => m (nameOf ids j)) (seenI o m I ids sees) w (olist os') m' I' w' bad0)
    (hr : AV.val (gh (olist os') m') I' w' r v) :
    ∃ I2, Mem C E (after o (ids ++ news) os') (afterM m (ids ++ news) m') I2 w' ∧ Later o m I w (after o (ids ++ news) os') (afterM m (ids ++ news) m') I2 w' bad0 ∧
      AV.val (gh (after o (ids ++ news) os') (afterM m (ids ++ news) m')) I2 w' (r.ren (nameOf (ids ++ news))) v := by
  obtain ⟨hlen, hat⟩ := convObs_at ids os p hos hp
  have hsame := gh_after (o := o) (m := m) (m' := m') hn hlen'
  -- what was handed over is the caller's
  have hand : ∀ b, (en w (seenI o m I ids sees) os (fun j => m (nameOf ids j))).M0 b → ∃ i c, o i = some c ∧ c.live = true ∧ Value.block? (m i) = some b ∧ ∃ j, posIn ids i = some j := by
    rintro b ⟨j, c, hj, hl, hb⟩
    have hlt : j < ids.length := by rw [← hlen]; exact (List.getElem?_eq_some_iff.1 hj).1
    obtain ⟨c0, c', q, h1, h2, h3, h4⟩ := hat j ids[j] (by simp [hlt])
    have hj' : os[j]? = some c := hj
    rw [hj'] at h4
    cases h4
    have hnm : nameOf ids j = ids[j] := by simp [nameOf, List.getD_eq_getElem?_getD, hlt]
    simp only [hnm] at hb
    exact ⟨ids[j], c0, h1, by rw [← live_conv h2]; exact hl, hb, posIn_of_mem ids _ (by simp)⟩
  have sizeOk : w.heap.size ≤ w'.heap.size := hm'.size
  have frame : ∀ b, b < w.heap.size → (∀ i c j, o i = some c → c.live = true → posIn ids i = some j → Value.block? (m i) ≠ some b) → w'.heap[b]? = w.heap[b]? := by
    intro b hb hne
    refine hm'.frame b hb (fun hh => ?_)
    obtain ⟨i, c, h1, h2, h3, j, h4⟩ := hand b hh
    exact hne i c j h1 h2 h4 h3
  have frameI : ∀ b, I b → w'.heap[b]? = w.heap[b]? := fun b hb => frame b (hm.im b hb).1 (fun i c _ hi hl _ => (hm.im b hb).2 i c hi hl)
  -- names
  have posIds : ∀ i j, posIn ids i = some j → posIn (ids ++ news) i = some j := fun i j h => posIn_append_left ids news i j h
  have notIds : ∀ i c, o i = some c → posIn (ids ++ news) i = none ∨ ∃ j, posIn ids i = some j ∧ posIn (ids ++ news) i = some j := by
    intro i c hi
    cases h : posIn (ids ++ news) i with
    | none => exact .inl rfl
    | some j =>
      right
      have hmem : i ∈ ids ++ news := List.mem_of_getElem? (posIn_at _ i j h)
      rcases List.mem_append.1 hmem with hh | hh
      · obtain ⟨j', hj'⟩ := posIn_of_mem ids i hh
        have := posIds i j' hj'
        rw [h] at this
        cases this
        exact ⟨j, hj', rfl⟩
      · rw [hfresh i hh] at hi; cases hi
  have notIds' : ∀ i, posIn (ids ++ news) i = none → posIn ids i = none := by
    intro i h
    cases hh : posIn ids i with
    | none => rfl
    | some j => rw [posIds i j hh] at h; cases h
  -- what is immutable now
  let I2 : Nat → Prop := fun b => I b ∨ (I' b ∧ (w.heap.size ≤ b ∨ (en w (seenI o m I ids sees) os (fun j => m (nameOf ids j))).M0 b))
  have hI2 : ∀ b, I b → I2 b := fun b h => .inl h
  have hI'2 : sees = false → ∀ b, I' b → I2 b := by
    intro hs b hb
    rcases hm'.imn b hb with h | h
    · rcases h with h | ⟨h, _⟩
      · exact .inl h
      · rw [hs] at h; cases h
    · exact .inr ⟨hb, h⟩
  have hII' : ∀ b, I b → I' b := fun b h => hm'.im0 b (.inl h)
  have cellsI : ∀ b k v, I b → w.cell? ⟨b, k, none⟩ = some v → w'.cell? ⟨b, k, none⟩ = some v := fun b k v hb hv => by rw [cell?_of_heap (frameI b hb) k]; exact hv
  have later : Later o m I w (after o (ids ++ news) os') (afterM m (ids ++ news) m') I2 w' bad0 := by
    refine ⟨hI2, cellsI, ?_, ?_, ?_, ?_⟩
    · intro i b _ hb ⟨q, k, hq⟩
      have hi : ∃ c, o i = some c := by
        cases hc : o i with
        | none => simp [gh, hc] at hq
        | some c => exact ⟨c, rfl⟩
      obtain ⟨c, hc⟩ := hi
      rcases notIds i c hc with h | ⟨j, h1, h2⟩
      · simp only [afterM, h]; exact hb
      · simp only [afterM, h2]
        have hnm : nameOf ids j = i := by simp [nameOf, List.getD_eq_getElem?_getD, posIn_at ids i j h1]
        have hbm : Value.block? (m (nameOf ids j)) = some b := by rw [hnm]; exact hb
        refine hl'.blk j b rfl hbm ⟨q, k, ?_⟩
        obtain ⟨c0, c', q', e1, e2, e3, e4⟩ := hat j i (posIn_at ids i j h1)
        rw [hc] at e1
        cases e1
        rw [off_conv (m := m) hc e2 e4]; exact hq
    · intro i q k _ hq
      have hi : ∃ c, o i = some c := by
        cases hc : o i with
        | none => simp [gh, hc] at hq
        | some c => exact ⟨c, rfl⟩
      obtain ⟨c, hc⟩ := hi
      rcases notIds i c hc with h | ⟨j, h1, h2⟩
      · simp only [gh, after, h]; exact hq
      · have hnm : nameOf (ids ++ news) j = i := by simp [nameOf, List.getD_eq_getElem?_getD, posIn_at _ i j h2]
        obtain ⟨c0, c', q', e1, e2, e3, e4⟩ := hat j i (posIn_at ids i j h1)
        rw [hc] at e1
        cases e1
        have h3 := hl'.off j q k rfl (by rw [off_conv (m := m) hc e2 e4]; exact hq)
        have := hsame.off j q k h3
        rwa [hnm] at this
    · intro i n _ hq
      have hi : ∃ c, o i = some c := by
        cases hc : o i with
        | none => simp [gh, hc] at hq
        | some c => exact ⟨c, rfl⟩
      obtain ⟨c, hc⟩ := hi
      rcases notIds i c hc with h | ⟨j, h1, h2⟩
      · exact ⟨n, by simp only [gh, after, h]; exact hq, Nat.le_refl _, fun _ => by simp only [afterM, h]⟩
      · have hnm : nameOf (ids ++ news) j = i := by simp [nameOf, List.getD_eq_getElem?_getD, posIn_at _ i j h2]
        have hnm1 : nameOf ids j = i := by simp [nameOf, List.getD_eq_getElem?_getD, posIn_at ids i j h1]
        obtain ⟨c0, c', q', e1, e2, e3, e4⟩ := hat j i (posIn_at ids i j h1)
        rw [hc] at e1
        cases e1
        have hlc : (gh (olist os) (fun j => m (nameOf ids j))).len j = some n := by rw [len_conv (m := m) hc e2 e4]; exact hq
        obtain ⟨n', g1, g2, g3⟩ := hl'.len j n rfl hlc
        obtain ⟨g4, g5⟩ := hsame.len j n' g1
        rw [hnm] at g4 g5
        refine ⟨n', g4, g2, fun e => ?_⟩
        rw [← hnm1, ← g3 e, hnm1]
        exact g5
    · intro i jj q k _ hq
      have hi : ∃ c, o i = some c := by
        cases hc : o i with
        | none => simp [gh, hc] at hq
        | some c => exact ⟨c, rfl⟩
      obtain ⟨c, hc⟩ := hi
      rcases notIds i c hc with h | ⟨j, h1, h2⟩
      · simp only [gh, after, h]; exact hq
      · have hnm : nameOf (ids ++ news) j = i := by simp [nameOf, List.getD_eq_getElem?_getD, posIn_at _ i j h2]
        obtain ⟨c0, c', q', e1, e2, e3, e4⟩ := hat j i (posIn_at ids i j h1)
        rw [hc] at e1
        cases e1
        have hlc : (gh (olist os) (fun j => m (nameOf ids j))).roff j jj q = some k := by rw [roff_conv (m := m) hc e2 e4]; exact hq
        have := hsame.roff j jj q k (hl'.roff j jj q k rfl hlc)
        rwa [hnm] at this
  -- objects behind the call: one of the callee's, or as before
  have cases2 : ∀ i c, after o (ids ++ news) os' i = some c → (∃ j c', posIn (ids ++ news) i = some j ∧ os'[j]? = some c' ∧ c = c'.ren (nameOf (ids ++ news))) ∨ (posIn (ids ++ news) i = none ∧ o i = some c) := by
    intro i c hc
    simp only [after] at hc
    cases h : posIn (ids ++ news) i with
    | none => rw [h] at hc; exact .inr ⟨rfl, hc⟩
    | some j =>
      rw [h] at hc
      simp only [Option.map_eq_some_iff] at hc
      obtain ⟨c', h1, h2⟩ := hc
      exact .inl ⟨j, c', rfl, h1, h2.symm⟩
  have oldNot : ∀ i c b, posIn (ids ++ news) i = none → o i = some c → c.live = true → Value.block? (m i) = some b → b < w.heap.size ∧ ¬ (en w (seenI o m I ids sees) os (fun j => m (nameOf ids j))).M0 b := by
    intro i c b hi hc hl hb
    refine ⟨(hm.old i c b hc hl hb).1, fun hh => ?_⟩
    obtain ⟨i', c', h1, h2, h3, j, h4⟩ := hand b hh
    have := hm.inj i i' c c' b hc h1 hl h2 hb h3
    subst this
    rw [posIds i j h4] at hi
    cases hi
  refine ⟨I2, ?_, later, ?_⟩
  · refine ⟨?_, ?_, ?_, fun b hb => .inl (hm.im0 b hb), ?_, ?_, Nat.le_trans hm.size sizeOk, ?_, ?_, ⟨hm'.sys.1.trans hm.sys.1, hm'.sys.2.1.trans hm.sys.2.1, hm'.sys.2.2.trans hm.sys.2.2⟩⟩
    · intro i c hc
      rcases cases2 i c hc with ⟨j, c', h1, h2, rfl⟩ | ⟨h1, h2⟩
      · have hob := hm'.obj j c' h2
        have hv : afterM m (ids ++ news) m' i = m' j := by simp only [afterM, h1]
        rw [hv]
        cases hs : sees with
        | false => exact ob_ren hsame (hI'2 hs) hob
        | true =>
          have hpc := allPlain_at os' (hpl hs).2 j c' h2
          exact ob_ren hsame (fun _ h => h) (ob_plain (I' := I2) hpc hob)
      · have hv : afterM m (ids ++ news) m' i = m i := by simp only [afterM, h1]
        rw [hv]
        refine (hm.obj i c h2).later later (fun b hb hbb => ?_)
        rcases hb with hb | hb
        · have := oldNot i c b h1 h2 hb hbb
          exact hm'.frame b this.1 this.2
        · exact frameI b hb
    · intro i k ci ck b hi hk hli hlk hbi hbk
      rcases cases2 i ci hi with ⟨j, c', h1, h2, rfl⟩ | ⟨h1, h2⟩ <;> rcases cases2 k ck hk with ⟨j2, c2', g1, g2, rfl⟩ | ⟨g1, g2⟩
      · simp only [afterM, h1] at hbi
        simp only [afterM, g1] at hbk
        rw [Ob.ren_live] at hli hlk
        have := hm'.inj j j2 c' c2' b h2 g2 hli hlk hbi hbk
        subst this
        have e1 := posIn_at _ i j h1
        have e2 := posIn_at _ k j g1
        rw [e1] at e2
        exact Option.some.inj e2
      · simp only [afterM, h1] at hbi
        simp only [afterM, g1] at hbk
        rw [Ob.ren_live] at hli
        have := oldNot k ck b g1 g2 hlk hbk
        rcases (hm'.old j c' b h2 hli hbi).2 with h | h
        · exact absurd this.1 (Nat.not_lt.2 h)
        · exact absurd h this.2
      · simp only [afterM, h1] at hbi
        simp only [afterM, g1] at hbk
        rw [Ob.ren_live] at hlk
        have := oldNot i ci b h1 h2 hli hbi
        rcases (hm'.old j2 c2' b g2 hlk hbk).2 with h | h
        · exact absurd this.1 (Nat.not_lt.2 h)
        · exact absurd h this.2
      · simp only [afterM, h1] at hbi
        simp only [afterM, g1] at hbk
        exact hm.inj i k ci ck b h2 g2 hli hlk hbi hbk
    · intro b hb
      have hlt : b < w'.heap.size := by
        rcases hb with hb | hb
        · exact Nat.lt_of_lt_of_le (hm.im b hb).1 sizeOk
        · exact (hm'.im b hb.1).1
      refine ⟨hlt, fun i c hc hl e => ?_⟩
      rcases cases2 i c hc with ⟨j, c', h1, h2, rfl⟩ | ⟨h1, h2⟩
      · simp only [afterM, h1] at e
        rw [Ob.ren_live] at hl
        have hI'b : I' b := by
          rcases hb with hb | hb
          · exact hII' b hb
          · exact hb.1
        exact (hm'.im b hI'b).2 j c' h2 hl e
      · simp only [afterM, h1] at e
        have := oldNot i c b h1 h2 hl e
        rcases hb with hb | ⟨_, hb | hb⟩
        · exact (hm.im b hb).2 i c h2 hl e
        · exact absurd this.1 (Nat.not_lt.2 hb)
        · exact this.2 hb
    · intro b hb
      rcases hb with hb | ⟨_, hb | hb⟩
      · exact hm.imn b hb
      · exact .inr (.inl (Nat.le_trans hm.size hb))
      · obtain ⟨i, c, h1, h2, h3, _⟩ := hand b hb
        exact .inr (hm.old i c b h1 h2 h3).2
    · intro i c b hc hl hb
      rcases cases2 i c hc with ⟨j, c', h1, h2, rfl⟩ | ⟨h1, h2⟩
      · simp only [afterM, h1] at hb
        rw [Ob.ren_live] at hl
        have := hm'.old j c' b h2 hl hb
        refine ⟨this.1, ?_⟩
        rcases this.2 with h | h
        · exact .inl (Nat.le_trans hm.size h)
        · obtain ⟨i', c0, g1, g2, g3, _⟩ := hand b h
          exact (hm.old i' c0 b g1 g2 g3).2
      · simp only [afterM, h1] at hb
        have := hm.old i c b h2 hl hb
        exact ⟨Nat.lt_of_lt_of_le this.1 sizeOk, this.2⟩
    · intro b hb hM
      have hnot : ¬ (en w (seenI o m I ids sees) os (fun j => m (nameOf ids j))).M0 b := by
        intro hh
        obtain ⟨i, c, h1, h2, h3, _⟩ := hand b hh
        rcases (hm.old i c b h1 h2 h3).2 with h | h
        · omega
        · exact hM h
      have e1 : w'.heap[b]? = w.heap[b]? := hm'.frame b (Nat.lt_of_lt_of_le hb hm.size) hnot
      rw [e1]
      exact hm.frame b hb hM
    · intro g x hg
      obtain ⟨h1, vs, h2, h3⟩ := hm.gl g x hg
      exact ⟨.inl h1, vs, fun j v hj => cellsI g j v h1 (h2 j v hj), D.cells_mono hI2 cellsI x vs h3⟩
  · cases hs : sees with
    | false => exact AV.val_ren hsame (hI'2 hs) hr
    | true => exact AV.val_ren hsame (fun _ h => h) (AV.val_plain (I' := I2) (hpl hs).1 hr)
end
end Go.Sep
