/- An empty slice seen as a row of one's own; functions. -/
import Derived.Test.YtkchimbalpiilaaGreatSepR
set_option linter.all false
set_option linter.deprecated false
namespace Go.Sep
open Go

section
variable {C : Cx} {E : En} {N : Nat} {o : Nat → Option Ob} {m : Nat → Value} {I : Nat → Prop} {w : World}

theorem DF.new {o : Nat → Option Ob} {m : Nat → Value} {a : Act} (h : DF o m a) {i : Nat} (hi : Nat.beq i 998 = false) (c : Ob) (v : Value) : DF (upd o i (some c)) (upd m i v) a := by
  have hne : (998 : Nat) ≠ i := by rintro rfl; simp at hi
  refine h.on rfl (fun h9 => ?_) (fun h9 => ?_)
  · rw [upd_other _ _ hne, upd_other _ _ hne]
    exact ⟨h9, fun _ h => h⟩
  · rw [upd_other _ _ hne]; exact h9
/-- Not there, and not the block for deferred calls. -/
def freshO (o : List (Nat × Ob)) (i : Nat) : Bool := (match lk o i with
  | none => true
  | some _ => false) && !(Nat.beq i 998)
theorem freshO_ok {o : List (Nat × Ob)} {i : Nat} (h : freshO o i = true) : lk o i = none ∧ Nat.beq i 998 = false := by
  simp only [freshO, Bool.and_eq_true, Bool.not_eq_true'] at h
  refine ⟨?_, h.2⟩
  cases hh : lk o i with
  | none => rfl
  | some c => rw [hh] at h; cases h.1
theorem DF.box {o : Nat → Option Ob} {m : Nat → Value} {a : Act} (h : DF o m a) {i : Nat} {c : AV} (hi : o i = some (.box c)) (c' : Ob) : DF (upd o i (some c')) m a :=
  h.on rfl (fun h9 => by
    have hne : (998 : Nat) ≠ i := by rintro rfl; rw [hi] at h9; cases h9
    rw [upd_other _ _ hne]
    exact ⟨h9, fun _ h => h⟩) (fun h9 => by
    have hne : (998 : Nat) ≠ i := by rintro rfl; rw [hi] at h9; cases h9
    rw [upd_other _ _ hne]
    exact h9)

theorem row0 (hm : Mem C E o m I w) {i : Nat} (hi : o i = none) (ty : TypeId) (sh : Sh) :
    Mem C E (upd o i (some (.row ty sh []))) (upd m i (.slice none 0 0)) I w ∧ Later o m I w (upd o i (some (.row ty sh []))) (upd m i (.slice none 0 0)) I w bad0 := by
  have hs : Spares o m w w i := ⟨Nat.le_refl _, fun _ _ _ => rfl, ⟨rfl, rfl, rfl⟩⟩
  have hl : Later o m I w (upd o i (some (.row ty sh []))) (upd m i (.slice none 0 0)) I w bad0 := Later.new hm hs (fun _ h => h) hi
  refine ⟨Mem.put hm hs (fun _ h => h) (fun _ h => .inl h) hl ?_ ?_, hl⟩
  · exact ⟨by simp, [], ⟨by simp, .inl ⟨rfl, rfl⟩⟩, by simp only [D.cellsL]⟩
  · intro _ b hb; cases hb

theorem own0_cells (o : Nat → Option Ob) (m : Nat → Value) (i : Nat) (ty : TypeId) (sh : Sh) : AV.cells (gh (upd o i (some (.row ty sh []))) (upd m i (.slice none 0 0))) I w (.own i 0) [.slice none 0 0] := by
  simp only [AV.cells]
  refine ⟨none, 0, 0, rfl, ?_, Nat.le_refl _, fun _ => ?_⟩
  · simp [gh, upd_same]
  · simp only [gh, upd_same]

/-- The nil slice of a slot as a row. -/
theorem NX.own0 {s : S} {K : Act → World → Prop} (k i : Nat) (ty : TypeId) {sh : Sh} (h : at' s.t k = .nils sh) (hi : freshO s.o i = true) (kk : NX C E N ⟨(k, .own i 0) :: s.t, (i, .row ty sh []) :: s.o⟩ K) : NX C E N s K := by
  rintro a w ⟨hE, h1, m, I, h2, hm, hl, ht⟩
  obtain ⟨hi, hi9⟩ := freshO_ok hi
  obtain ⟨g1, g2⟩ := row0 hm hi ty sh
  refine kk a w ⟨hE, h1, upd m i (.slice none 0 0), I, ?_⟩
  simp only [S.sf, lk_cons, at_cons]
  refine ⟨h2.new hi9 _ _, g1, hl.trans g2, fun t => ?_⟩
  by_cases htk : t = k
  · subst htk
    rw [upd_same]
    have hv := ht t
    simp only [S.sf] at hv
    rw [h, val_nils] at hv
    rw [hv]
    exact val_of_cells (own0_cells _ _ i ty sh)
  · rw [upd_other _ _ htk]
    exact g2.val (AV.clear_none _) (ht t)

/-- A nil slice within a slot as a row. -/
theorem NX.own0p {s : S} {K : Act → World → Prop} (k i : Nat) (p : List Nat) (ty : TypeId) {sh : Sh} {c c' : AV} (h : at' s.t k = c) (hg : AV.get p c = some (.nils sh)) (hset : AV.set p c (.own i 0) = some c')
    (hi : (freshO s.o i && (c.one && c'.one)) = true) (kk : NX C E N ⟨(k, c') :: s.t, (i, .row ty sh []) :: s.o⟩ K) : NX C E N s K := by
  rintro a w ⟨hE, h1, m, I, h2, hm, hl, ht⟩
  simp only [Bool.and_eq_true] at hi
  obtain ⟨hi0, hi9⟩ := freshO_ok hi.1
  obtain ⟨g1, g2⟩ := row0 hm hi0 ty sh
  refine kk a w ⟨hE, h1, upd m i (.slice none 0 0), I, ?_⟩
  simp only [S.sf, lk_cons, at_cons]
  refine ⟨h2.new hi9 _ _, g1, hl.trans g2, fun t => ?_⟩
  by_cases htk : t = k
  · subst htk
    rw [upd_same]
    have hv := g2.val (AV.clear_none _) (ht t)
    simp only [S.sf] at hv
    rw [h] at hv
    obtain ⟨cs, hc, e⟩ := cells_of_val hi.2.1 hv
    obtain ⟨pre, cu, post, hcs, ho, hu, hput⟩ := AV.get_at p hg hc
    simp only [AV.cells] at hu
    obtain ⟨hc', hsh'⟩ := hput (.own i 0) [.slice none 0 0] c' (own0_cells _ _ i ty sh) (by simp only [AV.sh]) hset
    have := val_of_cells hc'
    rw [hsh'] at this
    rw [e, hcs, hu]
    exact this
  · rw [upd_other _ _ htk]
    exact g2.val (AV.clear_none _) (ht t)

/-- A nil slice within a slot as data. -/
theorem NX.nilDp {s : S} {K : Act → World → Prop} (k : Nat) (p : List Nat) {sh : Sh} {c c' : AV} (h : (match at' s.t k with
      | x => x) = c) (hg : AV.get p c = some (.nils sh)) (hset : AV.set p c (.d (.sl sh [])) = some c')
    (kk : NX C E N ⟨(k, c') :: s.t, s.o⟩ K) (h1' : c.one = true := by rfl) : NX C E N s K := by
  rintro a w ⟨hE, h1, m, I, h2, hm, hl, ht⟩
  refine kk a w ⟨hE, h1, m, I, h2, hm, hl, fun t => ?_⟩
  simp only [S.sf, at_cons]
  by_cases htk : t = k
  · subst htk
    rw [upd_same]
    have hv := ht t
    simp only [S.sf] at hv
    rw [show at' s.t t = c from h] at hv
    obtain ⟨cs, hc, e⟩ := cells_of_val h1' hv
    obtain ⟨pre, cu, post, hcs, ho, hu, hput⟩ := AV.get_at p hg hc
    simp only [AV.cells] at hu
    obtain ⟨hc', hsh'⟩ := hput (.d (.sl sh [])) [.slice none 0 0] c' (by simp only [AV.cells, D.cells]; exact ⟨none, 0, by simp, by simp, by simp, .inl trivial⟩) (by simp only [AV.sh, D.sh]) hset
    have := val_of_cells hc'
    rw [hsh'] at this
    rw [e, hcs, hu]
    exact this
  · rw [upd_other _ _ htk]
    exact ht t

/-- A nil slice in a box as a row. -/
theorem NX.own0b {s : S} {K : Act → World → Prop} (b i : Nat) (p : List Nat) (ty : TypeId) {sh : Sh} {c c' : AV} (hb : lk s.o b = some (.box c)) (hg : AV.get p c = some (.nils sh)) (hset : AV.set p c (.own i 0) = some c')
    (hi : freshO s.o i = true) (kk : NX C E N ⟨s.t, (b, .box c') :: (i, .row ty sh []) :: s.o⟩ K) : NX C E N s K := by
  rintro a w ⟨hE, h1, m, I, h2, hm, hl, ht⟩
  obtain ⟨hi, hi9⟩ := freshO_ok hi
  obtain ⟨g1, g2⟩ := row0 hm hi ty sh
  have hbi : b ≠ i := by rintro rfl; rw [hb] at hi; cases hi
  have hb1 : upd s.sf.o i (some (.row ty sh [])) b = some (.box c) := by rw [upd_other _ _ hbi]; exact hb
  obtain ⟨blk, cs, t, e1, e2, e3⟩ := g1.obj b _ hb1
  obtain ⟨pre, cu, post, hcs, ho, hu, hput⟩ := AV.get_at p hg (ok := I) (w := w) (G := gh (upd s.sf.o i (some (.row ty sh []))) (upd m i (.slice none 0 0))) e3
  simp only [AV.cells] at hu
  obtain ⟨hc', hsh'⟩ := hput (.own i 0) [.slice none 0 0] c' (own0_cells _ _ i ty sh) (by simp only [AV.sh]) hset
  have hs : Spares (upd s.sf.o i (some (.row ty sh []))) (upd m i (.slice none 0 0)) w w b := ⟨Nat.le_refl _, fun _ _ _ => rfl, ⟨rfl, rfl, rfl⟩⟩
  have hl2 := Later.box g1 hs (fun _ h => h) hb1 hsh' (I' := I)
  have hl3 : Later (upd s.sf.o i (some (.row ty sh []))) (upd m i (.slice none 0 0)) I w (upd (upd s.sf.o i (some (.row ty sh []))) b (some (.box c'))) (upd (upd m i (.slice none 0 0)) b ((upd m i (.slice none 0 0)) b)) I w bad0 := by
    rw [upd_self]; exact hl2
  have hm2 := Mem.put g1 hs (fun _ h => h) (fun _ h => .inl h) hl3 (c' := .box c') (by
    rw [upd_self]
    refine ⟨blk, cs, t, e1, e2, ?_⟩
    rw [hcs, hu]
    exact hl2.cells' (AV.clear_none _) hc') (fun _ bb hbb => .inl ⟨_, hb1, rfl, hbb⟩)
  rw [upd_self] at hm2
  refine kk a w ⟨hE, h1, upd m i (.slice none 0 0), I, ?_⟩
  simp only [S.sf, lk_cons]
  exact ⟨(h2.new hi9 _ _).box hb1 _, hm2, hl.trans (g2.trans hl2), fun t => hl2.val (AV.clear_none _) (g2.val (AV.clear_none _) (ht t))⟩

/-- The nil slice of a slot as data. -/
theorem NX.nilD {s : S} {K : Act → World → Prop} (k : Nat) {sh : Sh} (h : at' s.t k = .nils sh) (kk : NX C E N ⟨(k, .d (.sl sh [])) :: s.t, s.o⟩ K) : NX C E N s K := by
  rintro a w ⟨hE, h1, m, I, h2, hm, hl, ht⟩
  refine kk a w ⟨hE, h1, m, I, h2, hm, hl, fun t => ?_⟩
  simp only [S.sf, at_cons]
  by_cases htk : t = k
  · subst htk
    rw [upd_same]
    have hv := ht t
    simp only [S.sf] at hv
    rw [h, val_nils] at hv
    rw [hv]
    exact val_sl.2 ⟨none, 0, rfl, by simp, by simp, .inl rfl⟩
  · rw [upd_other _ _ htk]
    exact ht t

/-- A nil slice in a box as data. -/
theorem NX.nilDb {s : S} {K : Act → World → Prop} (b : Nat) (p : List Nat) {sh : Sh} {c c' : AV} (hb : lk s.o b = some (.box c)) (hg : AV.get p c = some (.nils sh)) (hset : AV.set p c (.d (.sl sh [])) = some c')
    (kk : NX C E N ⟨s.t, (b, .box c') :: s.o⟩ K) : NX C E N s K := by
  rintro a w ⟨hE, h1, m, I, h2, hm, hl, ht⟩
  obtain ⟨blk, cs, t, e1, e2, e3⟩ := hm.obj b _ hb
  obtain ⟨pre, cu, post, hcs, ho, hu, hput⟩ := AV.get_at p hg (ok := I) (w := w) (G := gh s.sf.o m) e3
  simp only [AV.cells] at hu
  obtain ⟨hc', hsh'⟩ := hput (.d (.sl sh [])) [.slice none 0 0] c' (by simp only [AV.cells, D.cells]; exact ⟨none, 0, by simp, by simp, by simp, .inl trivial⟩) (by simp only [AV.sh, D.sh]) hset
  have hs : Spares s.sf.o m w w b := ⟨Nat.le_refl _, fun _ _ _ => rfl, ⟨rfl, rfl, rfl⟩⟩
  have hl2 := Later.box hm hs (fun _ h => h) hb hsh' (I' := I)
  have hl3 : Later s.sf.o m I w (upd s.sf.o b (some (.box c'))) (upd m b (m b)) I w bad0 := by
    rw [upd_self]; exact hl2
  have hm2 := Mem.put hm hs (fun _ h => h) (fun _ h => .inl h) hl3 (c' := .box c') (by
    rw [upd_self]
    refine ⟨blk, cs, t, e1, e2, ?_⟩
    rw [hcs, hu]
    exact hl2.cells' (AV.clear_none _) hc') (fun _ bb hbb => .inl ⟨_, hb, rfl, hbb⟩)
  rw [upd_self] at hm2
  refine kk a w ⟨hE, h1, m, I, ?_⟩
  simp only [S.sf, lk_cons]
  exact ⟨h2.box hb _, hm2, hl.trans hl2, fun t => hl2.val (AV.clear_none _) (ht t)⟩

/-- A row that is written no more, in a slot: as data. -/
theorem NX.frzD {s : S} {K : Act → World → Prop} (k : Nat) {b n : Nat} {ty : TypeId} {sh : Sh} {xs : List D} (h : at' s.t k = .own b n) (hb : lk s.o b = some (.frz ty sh xs)) (hn : n = xs.length) (kk : NX C E N ⟨(k, .d (.sl sh xs)) :: s.t, s.o⟩ K) : NX C E N s K := by
  rintro a w ⟨hE, h1, m, I, h2, hm, hl, ht⟩
  refine kk a w ⟨hE, h1, m, I, h2, hm, hl, fun t => ?_⟩
  simp only [S.sf, at_cons]
  by_cases htk : t = k
  · subst htk
    rw [upd_same]
    have hv := ht t
    simp only [S.sf] at hv
    rw [h, val_own] at hv
    obtain ⟨a0, c0, j, e, g1, g2, g3⟩ := hv
    have hj : j = xs.length := by simpa only [gh, hb, Option.some.injEq] using g1.symm
    rw [e, g3 (by omega)]
    have h6 : AV.cells (gh (lk s.o) m) I w (.d (.sl sh xs)) [m b] := by simp only [AV.cells]; exact frz_cells hm hb
    exact val_of_cells h6
  · rw [upd_other _ _ htk]
    exact ht t

/-- A row that is written no more, in a box: as data. -/
theorem NX.frzDb {s : S} {K : Act → World → Prop} (x : Nat) (p : List Nat) {b n : Nat} {ty : TypeId} {sh : Sh} {xs : List D} {c c' : AV} (hx : lk s.o x = some (.box c)) (hg : AV.get p c = some (.own b n)) (hset : AV.set p c (.d (.sl sh xs)) = some c')
    (hb : lk s.o b = some (.frz ty sh xs)) (hn : n = xs.length) (kk : NX C E N ⟨s.t, (x, .box c') :: s.o⟩ K) : NX C E N s K := by
  rintro a w ⟨hE, h1, m, I, h2, hm, hl, ht⟩
  obtain ⟨blk, cs, t, e1, e2, e3⟩ := hm.obj x _ hx
  obtain ⟨pre, cu, post, hcs, ho, hu, hput⟩ := AV.get_at p hg (ok := I) (w := w) (G := gh s.sf.o m) e3
  simp only [AV.cells] at hu
  obtain ⟨a0, c0, j, e, g1, g2, g3⟩ := hu
  have hj : j = xs.length := by simpa only [gh, S.sf, hb, Option.some.injEq] using g1.symm
  have hcu : cu = [m b] := by rw [e, g3 (by omega)]; rfl
  obtain ⟨hc', hsh'⟩ := hput (.d (.sl sh xs)) [m b] c' (by simp only [AV.cells]; exact frz_cells hm hb) (by simp only [AV.sh, D.sh]) hset
  have hs : Spares s.sf.o m w w x := ⟨Nat.le_refl _, fun _ _ _ => rfl, ⟨rfl, rfl, rfl⟩⟩
  have hl2 := Later.box hm hs (fun _ h => h) hx hsh' (I' := I)
  have hl3 : Later s.sf.o m I w (upd s.sf.o x (some (.box c'))) (upd m x (m x)) I w bad0 := by
    rw [upd_self]; exact hl2
  have hm2 := Mem.put hm hs (fun _ h => h) (fun _ h => .inl h) hl3 (c' := .box c') (by
    rw [upd_self]
    refine ⟨blk, cs, t, e1, e2, ?_⟩
    rw [hcs, hcu]
    exact hl2.cells' (AV.clear_none _) hc') (fun _ bb hbb => .inl ⟨_, hx, rfl, hbb⟩)
  rw [upd_self] at hm2
  refine kk a w ⟨hE, h1, m, I, ?_⟩
  simp only [S.sf, lk_cons]
  exact ⟨h2.box hx _, hm2, hl.trans hl2, fun t => hl2.val (AV.clear_none _) (ht t)⟩

/-! Other names. -/
def swp (i j k : Nat) : Nat := if Nat.beq k i then j else if Nat.beq k j then i else k
theorem swp_eq (i j k : Nat) : swp i j k = if k = i then j else if k = j then i else k := by
  unfold swp
  by_cases h1 : k = i
  · subst h1; rw [beq_same]; simp
  · by_cases h2 : k = j
    · subst h2; rw [beq_false h1, beq_same, if_neg h1]; simp
    · rw [beq_false h1, beq_false h2, if_neg h1, if_neg h2]; simp
theorem swp_swp (i j k : Nat) : swp i j (swp i j k) = k := by
  simp only [swp_eq]
  repeat' split
  all_goals first | omega | rfl
theorem swp_old {i j k : Nat} (hi : 900 ≤ i) (hj : 900 ≤ j) (hk : k < 900) : swp i j k = k := by
  rw [swp_eq, if_neg (by omega), if_neg (by omega)]
def renT (ρ : Nat → Nat) : List (Nat × AV) → List (Nat × AV)
  | [] => []
  | (k, x) :: l => (k, x.ren ρ) :: renT ρ l
def renO (ρ : Nat → Nat) : List (Nat × Ob) → List (Nat × Ob)
  | [] => []
  | (k, x) :: l => (ρ k, x.ren ρ) :: renO ρ l
theorem renT_at (ρ : Nat → Nat) : ∀ (t : List (Nat × AV)) (k : Nat), at' (renT ρ t) k = (at' t k).ren ρ
  | [], k => by simp only [renT, at', lk, AV.ren]
  | (i, x) :: t, k => by
    simp only [renT, at_cons]
    by_cases hk : k = i
    · subst hk; rw [upd_same, upd_same]
    · rw [upd_other _ _ hk, upd_other _ _ hk, renT_at ρ t k]
theorem renO_lk {ρ : Nat → Nat} (hρ : ∀ k, ρ (ρ k) = k) : ∀ (o : List (Nat × Ob)) (k : Nat), lk (renO ρ o) k = (lk o (ρ k)).map (Ob.ren ρ)
  | [], k => rfl
  | (i, x) :: o, k => by
    simp only [renO, lk_cons]
    by_cases hk : k = ρ i
    · subst hk; rw [upd_same, hρ, upd_same]; rfl
    · rw [upd_other _ _ hk, upd_other _ _ (by rintro rfl; exact hk (hρ k).symm), renO_lk hρ o k]

/-- Two objects of one's own may be called the other way round. -/
theorem NX.ren {s : S} {K : Act → World → Prop} (i j : Nat) (hij : (Nat.ble 900 i && Nat.ble 900 j && !(Nat.beq i 998) && !(Nat.beq j 998)) = true) (kk : NX C E N ⟨renT (swp i j) s.t, renO (swp i j) s.o⟩ K) : NX C E N s K := by
  rintro a w ⟨hE, h1, m, I, h2, hm, hl, ht⟩
  simp only [Bool.and_eq_true, Bool.not_eq_true'] at hij
  have hi := Nat.le_of_ble_eq_true hij.1.1.1
  have hj := Nat.le_of_ble_eq_true hij.1.1.2
  have hρ := swp_swp i j
  have hlk : lk (renO (swp i j) s.o) = fun k => (lk s.o (swp i j k)).map (Ob.ren (swp i j)) := funext (renO_lk hρ s.o)
  have hback : ∀ k c, lk (renO (swp i j) s.o) k = some c → ∃ c0, lk s.o (swp i j k) = some c0 ∧ c = c0.ren (swp i j) := by
    intro k c h
    rw [hlk] at h
    simp only [Option.map_eq_some_iff] at h
    obtain ⟨c0, h, rfl⟩ := h
    exact ⟨c0, h, rfl⟩
  have hoff : ∀ k p, (gh (lk (renO (swp i j) s.o)) (fun k => m (swp i j k))).off (swp i j k) p = (gh (lk s.o) m).off k p := by
    intro k p
    simp only [gh, hlk, hρ]
    cases lk s.o k with
    | none => rfl
    | some c => cases c <;> simp only [Option.map_some, Ob.ren, AV.ren_sh]
  have hlen : ∀ k, (gh (lk (renO (swp i j) s.o)) (fun k => m (swp i j k))).len (swp i j k) = (gh (lk s.o) m).len k := by
    intro k
    simp only [gh, hlk, hρ]
    cases lk s.o k with
    | none => rfl
    | some c => cases c <;> rfl
  have hroff : ∀ k q p, (gh (lk (renO (swp i j) s.o)) (fun k => m (swp i j k))).roff (swp i j k) q p = (gh (lk s.o) m).roff k q p := by
    intro k q p
    simp only [gh, hlk, hρ]
    cases lk s.o k with
    | none => rfl
    | some c => cases c <;> rfl
  have hsame : Same (swp i j) (gh (lk s.o) m) (gh (lk (renO (swp i j) s.o)) (fun k => m (swp i j k))) := by
    refine ⟨fun k b hb _ => ?_, fun k p q h => by rw [hoff]; exact h, fun k n h => ⟨by rw [hlen]; exact h, ?_⟩, fun k q p n h => by rw [hroff]; exact h⟩
    · show Value.block? (m (swp i j (swp i j k))) = some b
      rw [hρ]; exact hb
    · show m (swp i j (swp i j k)) = m k
      rw [hρ]
  have hm' : Mem C E (lk (renO (swp i j) s.o)) (fun k => m (swp i j k)) I w := by
    refine ⟨?_, ?_, ?_, hm.im0, hm.imn, ?_, hm.size, hm.frame, hm.gl, hm.sys⟩
    · intro k c hk
      obtain ⟨c0, h3, rfl⟩ := hback k c hk
      exact ob_ren hsame (fun _ h => h) (hm.obj _ c0 h3)
    · intro k l ck cl b hk hl' hlk' hll hbk hbl
      obtain ⟨c0, h3, rfl⟩ := hback k ck hk
      obtain ⟨c1, h4, rfl⟩ := hback l cl hl'
      rw [Ob.ren_live] at hlk' hll
      have := hm.inj _ _ c0 c1 b h3 h4 hlk' hll hbk hbl
      rw [← hρ k, this, hρ]
    · intro b hb
      refine ⟨(hm.im b hb).1, fun k c hk hlv => ?_⟩
      obtain ⟨c0, h3, rfl⟩ := hback k c hk
      rw [Ob.ren_live] at hlv
      exact (hm.im b hb).2 _ c0 h3 hlv
    · intro k c b hk hlv hb
      obtain ⟨c0, h3, rfl⟩ := hback k c hk
      rw [Ob.ren_live] at hlv
      exact hm.old _ c0 b h3 hlv hb
  have hold : ∀ {k : Nat}, (∃ c, E.o0 k = some c) → swp i j k = k := by
    rintro k ⟨c, hc⟩
    refine swp_old hi hj (Nat.lt_of_not_le fun hh => ?_)
    rw [hE k hh] at hc; cases hc
  refine kk a w ⟨hE, h1, fun k => m (swp i j k), I, ?_, hm', ?_, fun t => ?_⟩
  · have h98 : swp i j 998 = 998 := by
      unfold swp
      have e1 : Nat.beq 998 i = false := by cases hh : Nat.beq 998 i with
        | false => rfl
        | true => have := Nat.eq_of_beq_eq_true hh; rw [← this] at hij; exact absurd hij.1.2 (by decide)
      have e2 : Nat.beq 998 j = false := by cases hh : Nat.beq 998 j with
        | false => rfl
        | true => have := Nat.eq_of_beq_eq_true hh; rw [← this] at hij; exact absurd hij.2 (by decide)
      rw [e1, e2]; rfl
    refine h2.on rfl (fun h9 => ⟨?_, fun D hD => ?_⟩) (fun h9 => ?_)
    · simp only [S.sf, hlk, h98]
      have : lk s.o 998 = some (.raw dfr []) := h9
      rw [this]; simp only [Option.map_some, Ob.ren, AV.rens]
    · show Value.block? (m (swp i j 998)) = some D
      rw [h98]; exact hD
    · simp only [S.sf, hlk, h98]
      have : lk s.o 998 = none := h9
      rw [this]; rfl
  · refine ⟨hl.im, hl.cells, ?_, ?_, ?_, ?_⟩
    · intro k b hb hv hp
      have hk : ∃ c, E.o0 k = some c := by
        obtain ⟨p, q, hpq⟩ := hp
        cases hh : E.o0 k with
        | none => simp [gh, hh] at hpq
        | some c => exact ⟨c, rfl⟩
      show Value.block? (m (swp i j k)) = some b
      rw [hold hk]; exact hl.blk k b hb hv hp
    · intro k p q hb hpq
      have hk : ∃ c, E.o0 k = some c := by
        cases hh : E.o0 k with
        | none => simp [gh, hh] at hpq
        | some c => exact ⟨c, rfl⟩
      have := hoff k p
      rw [hold hk] at this
      show (gh (lk (renO (swp i j) s.o)) (fun k => m (swp i j k))).off k p = some q
      rw [this]; exact hl.off k p q hb hpq
    · intro k n hb hpq
      have hk : ∃ c, E.o0 k = some c := by
        cases hh : E.o0 k with
        | none => simp [gh, hh] at hpq
        | some c => exact ⟨c, rfl⟩
      have := hlen k
      rw [hold hk] at this
      obtain ⟨n', g1, g2, g3⟩ := hl.len k n hb hpq
      refine ⟨n', ?_, g2, fun e => ?_⟩
      · show (gh (lk (renO (swp i j) s.o)) (fun k => m (swp i j k))).len k = some n'
        rw [this]; exact g1
      · show m (swp i j k) = E.m0 k
        rw [hold hk]; exact g3 e
    · intro k q p n hb hpq
      have hk : ∃ c, E.o0 k = some c := by
        cases hh : E.o0 k with
        | none => simp [gh, hh] at hpq
        | some c => exact ⟨c, rfl⟩
      have := hroff k q p
      rw [hold hk] at this
      show (gh (lk (renO (swp i j) s.o)) (fun k => m (swp i j k))).roff k q p = some n
      rw [this]; exact hl.roff k q p n hb hpq
  · simp only [S.sf, renT_at]
    exact AV.val_ren hsame (fun _ h => h) (ht t)

/-! Functions. -/
def resL (C : Cx) (s : S) : List ResultVar → Option (List AV)
  | [] => some []
  | .tmp t :: l => match resL C s l with
    | none => none
    | some xs => some (at' s.t t :: xs)
  | .cell a t :: l => match loadD C.T (lk s.o) t (at' s.t a) .no with
    | none => none
    | some (x, _) => match at' s.t a with
      | .ref _ _ => match resL C s l with
        | none => none
        | some xs => some (x :: xs)
      | _ => none

theorem load_free {T : Tab} {ol : Nat → Option Ob} {t b : Nat} {p : List Nat} {x : AV} {q : Prop} (h : loadD T ol t (.ref b p) .no = some (x, q)) : q := by
  unfold loadD at h
  repeat' first
    | (cases h; done)
    | contradiction
    | (simp only [Option.some.injEq, Prod.mk.injEq] at h; exact h.2 ▸ trivial)
    | split at h

theorem resL_run {s : S} {a : Act} (hm : Mem C E (lk s.o) m I w) (ht : ∀ t, AV.val (gh (lk s.o) m) I w (at' s.t t) (a.tmps.getD t undef)) : ∀ (rs : List ResultVar) (xs : List AV), resL C s rs = some xs →
    ∃ vs, (rs.mapM fun (r : ResultVar) => match r with
      | .tmp t => (pure (a.tmps.getD t undef) : Sem Value)
      | .cell b t => do loadVar t (← asAddr (a.tmps.getD b undef))).run C.P w = .ok vs w ∧ Vals (gh (lk s.o) m) I w xs vs
  | [], xs, h => by
    simp only [resL, Option.some.injEq] at h
    subst h
    exact ⟨[], rfl, .nil⟩
  | .tmp t :: l, xs, h => by
    simp only [resL] at h
    split at h
    · cases h
    · rename_i ys hys
      simp only [Option.some.injEq] at h
      subst h
      obtain ⟨vs, h1, h2⟩ := resL_run hm ht l ys hys
      refine ⟨_ :: vs, ?_, .cons (ht t) h2⟩
      simp only [List.mapM_cons, Sem.run_bind, Sem.run_pure, Result.andThen_ok, h1]
  | .cell b t :: l, xs, h => by
    simp only [resL] at h
    split at h
    · cases h
    · rename_i x q hx
      split at h
      · rename_i o' p' hab
        split at h
        · cases h
        · rename_i ys hys
          simp only [Option.some.injEq] at h
          subst h
          rw [hab] at hx
          have hv := ht b
          rw [hab] at hv
          obtain ⟨z, h3, h4⟩ := run_loadD hm hx (load_free hx) hv
          obtain ⟨vs, h1, h2⟩ := resL_run hm ht l ys hys
          refine ⟨z :: vs, ?_, .cons h4 h2⟩
          obtain ⟨blk, k, _, _, e⟩ := val_ref.1 hv
          rw [e] at h3
          have h5 : (do loadVar t (← asAddr (a.tmps.getD b undef)) : Sem Value).run C.P w = .ok z w := by
            rw [e]
            simpa [Instr.loadAt, Instr.sureAddr, asAddr] using h3
          rw [List.mapM_cons, Sem.run_bind]
          have h6 : Sem.run C.P (match ResultVar.cell b t with
              | .tmp t => (pure (a.tmps.getD t undef) : Sem Value)
              | .cell b t => do loadVar t (← asAddr (a.tmps.getD b undef))) w = .ok z w := h5
          rw [h6]
          simp only [Result.andThen_ok, Sem.run_bind, h1, Sem.run_pure]
      · cases h
end
end Go.Sep
