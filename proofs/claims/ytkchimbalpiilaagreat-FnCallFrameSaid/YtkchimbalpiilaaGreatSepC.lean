/- How the memory turns: a new object, an object written. -/
import Derived.Test.YtkchimbalpiilaaGreatSepB
import Derived.Laws.Rows
set_option linter.all false
set_option linter.deprecated false
namespace Go.Sep
open Go

def upd {α : Type} (f : Nat → α) (i : Nat) (x : α) : Nat → α := fun j => if j = i then x else f j
theorem upd_same {α : Type} (f : Nat → α) (i : Nat) (x : α) : upd f i x i = x := by simp [upd]
theorem upd_other {α : Type} (f : Nat → α) {i j : Nat} (x : α) (h : j ≠ i) : upd f i x j = f j := by simp [upd, h]

theorem cell?_of_heap {w w' : World} {b : Nat} (h : w'.heap[b]? = w.heap[b]?) (k : Nat) : w'.cell? ⟨b, k, none⟩ = w.cell? ⟨b, k, none⟩ := by
  simp [World.cell?, h]

section
variable {C : Cx} {E : En} {o : Nat → Option Ob} {m : Nat → Value} {I I' : Nat → Prop} {w w' : World} {i : Nat} {c' : Ob} {v' : Value}

/-- What a step leaves alone: all old blocks but the object's own. -/
structure Spares (o : Nat → Option Ob) (m : Nat → Value) (w w' : World) (i : Nat) : Prop where
  size : w.heap.size ≤ w'.heap.size
  heap : ∀ b, b < w.heap.size → (∀ ci, o i = some ci → ci.live = true → Value.block? (m i) ≠ some b) → w'.heap[b]? = w.heap[b]?
  sys : w'.os = w.os ∧ w'.output = w.output ∧ w'.tape = w.tape

theorem Spares.cells (h : Mem C E o m I w) (hs : Spares o m w w' i) : ∀ b k v, I b → w.cell? ⟨b, k, none⟩ = some v → w'.cell? ⟨b, k, none⟩ = some v := by
  intro b k v hb hv
  rw [cell?_of_heap (hs.heap b (h.im b hb).1 (fun ci hc hl => (h.im b hb).2 i ci hc hl)) k]
  exact hv

theorem Later.new (h : Mem C E o m I w) (hs : Spares o m w w' i) (hI : ∀ b, I b → I' b) (hn : o i = none) :
    Later o m I w (upd o i (some c')) (upd m i v') I' w' bad0 where
  im := hI
  cells := hs.cells h
  blk := by
    intro j b _ hb hp
    have hj : j ≠ i := by
      rintro rfl
      obtain ⟨p, k, hp⟩ := hp
      simp [gh, hn] at hp
    rw [upd_other _ _ hj]; exact hb
  off := by
    intro j p k _ hp
    have hj : j ≠ i := by rintro rfl; simp [gh, hn] at hp
    simpa [gh, upd_other _ _ hj] using hp
  len := by
    intro j n _ hp
    have hj : j ≠ i := by rintro rfl; simp [gh, hn] at hp
    exact ⟨n, by simpa [gh, upd_other _ _ hj] using hp, Nat.le_refl _, fun _ => upd_other _ _ hj⟩
  roff := by
    intro j q p k _ hp
    have hj : j ≠ i := by rintro rfl; simp [gh, hn] at hp
    simpa [gh, upd_other _ _ hj] using hp

theorem Later.box (h : Mem C E o m I w) (hs : Spares o m w w' i) (hI : ∀ b, I b → I' b) {c c2 : AV} (hn : o i = some (.box c)) (hsh : c2.sh = c.sh) :
    Later o m I w (upd o i (some (.box c2))) m I' w' bad0 where
  im := hI
  cells := hs.cells h
  blk := fun j b _ hb _ => hb
  off := by
    intro j p k _ hp
    by_cases hj : j = i
    · subst hj; simp only [gh, upd_same, hsh]; simpa only [gh, hn] using hp
    · simpa [gh, upd_other _ _ hj] using hp
  len := by
    intro j n _ hp
    have hj : j ≠ i := by rintro rfl; simp [gh, hn] at hp
    exact ⟨n, by simpa [gh, upd_other _ _ hj] using hp, Nat.le_refl _, fun _ => rfl⟩
  roff := by
    intro j q p k _ hp
    have hj : j ≠ i := by rintro rfl; simp [gh, hn] at hp
    simpa [gh, upd_other _ _ hj] using hp

theorem Later.row (h : Mem C E o m I w) (hs : Spares o m w w' i) (hI : ∀ b, I b → I' b) {t : TypeId} {sh : Sh} {xs ys : List D} (hn : o i = some (.row t sh xs)) (hl : xs.length ≤ ys.length)
    (hv : xs.length = ys.length → v' = m i) :
    Later o m I w (upd o i (some (.row t sh ys))) (upd m i v') I' w' bad0 where
  im := hI
  cells := hs.cells h
  blk := by
    intro j b _ hb hp
    have hj : j ≠ i := by
      rintro rfl
      obtain ⟨p, k, hp⟩ := hp
      simp [gh, hn] at hp
    rw [upd_other _ _ hj]; exact hb
  off := by
    intro j p k _ hp
    have hj : j ≠ i := by rintro rfl; simp [gh, hn] at hp
    simpa [gh, upd_other _ _ hj] using hp
  len := by
    intro j n _ hp
    by_cases hj : j = i
    · subst hj
      simp only [gh, hn, Option.some.injEq] at hp
      subst hp
      exact ⟨ys.length, by simp [gh, upd_same], hl, fun e => by rw [upd_same]; exact hv e⟩
    · exact ⟨n, by simpa [gh, upd_other _ _ hj] using hp, Nat.le_refl _, fun _ => upd_other _ _ hj⟩
  roff := by
    intro j q p k _ hp
    by_cases hj : j = i
    · subst hj; simp only [gh, upd_same]; simpa only [gh, hn] using hp
    · simpa [gh, upd_other _ _ hj] using hp

theorem Later.none (h : Mem C E o m I w) (hI : ∀ b, I b → I' b) (hh : ∀ b, b < w.heap.size → w'.heap[b]? = w.heap[b]?) : Later o m I w o m I' w' bad0 where
  im := hI
  cells := fun b k v hb hv => by rw [cell?_of_heap (hh b (h.im b hb).1) k]; exact hv
  blk := fun _ _ _ h _ => h
  off := fun _ _ _ _ h => h
  len := fun _ n _ h => ⟨n, h, Nat.le_refl _, fun _ => rfl⟩
  roff := fun _ _ _ _ _ h => h

theorem cell_heap_old {w : World} {b k : Nat} {v : Value} (h : w.cell? ⟨b, k, none⟩ = some v) : b < w.heap.size := block_lt_of_cell h

/-- An object that was said of a memory holds on, where it is spared. -/
theorem ObR.later {o' : Nat → Option Ob} {m' : Nat → Value} (hl : Later o m I w o' m' I' w' bad0) {c : Ob} {v : Value} (hc : ObR (gh o m) I w c v)
    (hh : ∀ b, (c.live = true ∨ I b) → Value.block? v = some b → w'.heap[b]? = w.heap[b]?) : ObR (gh o' m') I' w' c v := by
  have row : ∀ {t : TypeId} {n k : Nat} {vs : List Value}, (c.live = true ∨ ∀ b, Value.block? v = some b → I b) → w.ownsRow 0 t k v n vs → w'.ownsRow 0 t k v n vs := by
    intro t n k vs hI hown
    refine ⟨hown.1, ?_⟩
    rcases hown.2 with h1 | ⟨g, cap, cur, rfl, h2, h3, h4⟩
    · exact .inl h1
    · exact .inr ⟨g, cap, cur, rfl, h2, by rw [hh g (hI.imp id (fun f => f g rfl)) rfl]; exact h3, h4⟩
  cases c with
  | box c =>
    obtain ⟨b, cs, t, rfl, hb, hcs⟩ := hc
    refine ⟨b, cs, t, rfl, ?_, hl.cells' (AV.clear_none c) hcs⟩
    rw [hh b (.inl rfl) rfl]; exact hb
  | raw mk sl =>
    obtain ⟨b, tm, rfl, hb, hz, ht⟩ := hc
    exact ⟨b, tm, rfl, by rw [hh b (.inl rfl) rfl]; exact hb, hz, fun t => hl.val (AV.clear_none _) (ht t)⟩
  | row t sh xs =>
    obtain ⟨hlen, vs, hown, hcs⟩ := hc
    exact ⟨hlen, vs, row (.inl rfl) hown, D.cellsL_mono hl.im hl.cells sh xs vs hcs⟩
  | frz t sh xs =>
    obtain ⟨hlen, ⟨vs, hown, hcs⟩, hI⟩ := hc
    exact ⟨hlen, ⟨vs, row (.inr hI) hown, D.cellsL_mono hl.im hl.cells sh xs vs hcs⟩, fun b hb => hl.im b (hI b hb)⟩

/-- One object is made or written. -/
theorem Mem.put (h : Mem C E o m I w) (hs : Spares o m w w' i) (hI : ∀ b, I b → I' b)
    (hI2 : ∀ b, I' b → I b ∨ (w.heap.size ≤ b ∧ b < w'.heap.size ∧ (c'.live = true → Value.block? v' ≠ some b)))
    (hl : Later o m I w (upd o i (some c')) (upd m i v') I' w' bad0)
    (hob : ObR (gh (upd o i (some c')) (upd m i v')) I' w' c' v')
    (hblk : c'.live = true → ∀ b, Value.block? v' = some b → (∃ ci, o i = some ci ∧ ci.live = true ∧ Value.block? (m i) = some b) ∨ (w.heap.size ≤ b ∧ b < w'.heap.size)) :
    Mem C E (upd o i (some c')) (upd m i v') I' w' := by
  have oth : ∀ j cj b, j ≠ i → o j = some cj → cj.live = true → Value.block? (m j) = some b → w'.heap[b]? = w.heap[b]? := by
    intro j cj b hj hc hlv hb
    refine hs.heap b (h.old j cj b hc hlv hb).1 (fun ci hci hli e => hj ?_)
    exact h.inj j i cj ci b hc hci hlv hli hb e
  have fresh : ∀ b, c'.live = true → Value.block? v' = some b → ∀ j cj, j ≠ i → o j = some cj → cj.live = true → Value.block? (m j) ≠ some b := by
    intro b hlv hb j cj hj hc hlj e
    rcases hblk hlv b hb with ⟨ci, hci, hli, hbi⟩ | ⟨h1, _⟩
    · exact hj (h.inj j i cj ci b hc hci hlj hli e hbi)
    · have := (h.old j cj b hc hlj e).1; omega
  refine ⟨?_, ?_, ?_, fun b hb => hI b (h.im0 b hb), ?_, ?_, Nat.le_trans h.size hs.size, ?_, ?_, ⟨hs.sys.1.trans h.sys.1, hs.sys.2.1.trans h.sys.2.1, hs.sys.2.2.trans h.sys.2.2⟩⟩
  · intro j c hc
    by_cases hj : j = i
    · subst hj
      rw [upd_same] at hc ⊢
      cases hc
      exact hob
    · rw [upd_other _ _ hj] at hc ⊢
      refine (h.obj j c hc).later hl (fun b hlv hb => ?_)
      rcases hlv with hlv | hlv
      · exact oth j c b hj hc hlv hb
      · exact hs.heap b (h.im b hlv).1 (fun ci hci hli => (h.im b hlv).2 i ci hci hli)
  · intro j k cj ck b hj hk hlj hlk hbj hbk
    by_cases h1 : j = i <;> by_cases h2 : k = i
    · rw [h1, h2]
    · subst h1
      rw [upd_same] at hj hbj
      rw [upd_other _ _ h2] at hk hbk
      cases hj
      exact absurd hbk (fresh b hlj hbj k ck h2 hk hlk)
    · subst h2
      rw [upd_same] at hk hbk
      rw [upd_other _ _ h1] at hj hbj
      cases hk
      exact absurd hbj (fresh b hlk hbk j cj h1 hj hlj)
    · rw [upd_other _ _ h1] at hj hbj
      rw [upd_other _ _ h2] at hk hbk
      exact h.inj j k cj ck b hj hk hlj hlk hbj hbk
  · intro b hb
    rcases hI2 b hb with hb | ⟨h1, h2, h3⟩
    · refine ⟨Nat.lt_of_lt_of_le (h.im b hb).1 hs.size, fun j c hc hlv => ?_⟩
      by_cases hj : j = i
      · subst hj
        rw [upd_same] at hc ⊢
        cases hc
        intro e
        rcases hblk hlv b e with ⟨ci, hci, hli, hbi⟩ | ⟨h1, _⟩
        · exact (h.im b hb).2 j ci hci hli hbi
        · have := (h.im b hb).1; omega
      · rw [upd_other _ _ hj] at hc ⊢
        exact (h.im b hb).2 j c hc hlv
    · refine ⟨h2, fun j c hc hlv => ?_⟩
      by_cases hj : j = i
      · subst hj
        rw [upd_same] at hc ⊢
        cases hc
        exact h3 hlv
      · rw [upd_other _ _ hj] at hc ⊢
        intro e
        have := (h.old j c b hc hlv e).1
        omega
  · intro b hb
    rcases hI2 b hb with hb | ⟨h1, _⟩
    · exact h.imn b hb
    · exact .inr (.inl (Nat.le_trans h.size h1))
  · intro j c b hc hlv hb
    by_cases hj : j = i
    · subst hj
      rw [upd_same] at hc hb
      cases hc
      rcases hblk hlv b hb with ⟨ci, hci, hli, hbi⟩ | ⟨h1, h2⟩
      · have := h.old j ci b hci hli hbi
        exact ⟨Nat.lt_of_lt_of_le this.1 hs.size, this.2⟩
      · exact ⟨h2, .inl (Nat.le_trans h.size h1)⟩
    · rw [upd_other _ _ hj] at hc hb
      have := h.old j c b hc hlv hb
      exact ⟨Nat.lt_of_lt_of_le this.1 hs.size, this.2⟩
  · intro b hb hM
    rw [hs.heap b (Nat.lt_of_lt_of_le hb h.size) (fun ci hci hli e => ?_)]
    · exact h.frame b hb hM
    · rcases (h.old i ci b hci hli e).2 with h1 | h1
      · omega
      · exact hM h1
  · intro g x hg
    obtain ⟨h1, vs, h2, h3⟩ := h.gl g x hg
    exact ⟨hI g h1, vs, fun j v hj => hl.cells g j v h1 (h2 j v hj), hl.dcells h3⟩

/-- New memory that is not written any more. -/
theorem Mem.grow (h : Mem C E o m I w) (hsy : w'.os = w.os ∧ w'.output = w.output ∧ w'.tape = w.tape) (hsz : w.heap.size ≤ w'.heap.size) (hh : ∀ b, b < w.heap.size → w'.heap[b]? = w.heap[b]?) (hI : ∀ b, I b → I' b)
    (hI2 : ∀ b, I' b → I b ∨ (w.heap.size ≤ b ∧ b < w'.heap.size)) : Mem C E o m I' w' := by
  have hl : Later o m I w o m I' w' bad0 := Later.none h hI hh
  refine ⟨?_, h.inj, ?_, fun b hb => hI b (h.im0 b hb), ?_, ?_, Nat.le_trans h.size hsz, ?_, ?_, ⟨hsy.1.trans h.sys.1, hsy.2.1.trans h.sys.2.1, hsy.2.2.trans h.sys.2.2⟩⟩
  · intro j c hc
    refine (h.obj j c hc).later hl (fun b hlv hb => hh b ?_)
    rcases hlv with hlv | hlv
    · exact (h.old j c b hc hlv hb).1
    · exact (h.im b hlv).1
  · intro b hb
    rcases hI2 b hb with hb | ⟨h1, h2⟩
    · exact ⟨Nat.lt_of_lt_of_le (h.im b hb).1 hsz, (h.im b hb).2⟩
    · refine ⟨h2, fun j c hc hlv e => ?_⟩
      have := (h.old j c b hc hlv e).1
      omega
  · intro b hb
    rcases hI2 b hb with hb | ⟨h1, _⟩
    · exact h.imn b hb
    · exact .inr (.inl (Nat.le_trans h.size h1))
  · intro j c b hc hlv hb
    have := h.old j c b hc hlv hb
    exact ⟨Nat.lt_of_lt_of_le this.1 hsz, this.2⟩
  · intro b hb hM
    rw [hh b (Nat.lt_of_lt_of_le hb h.size)]
    exact h.frame b hb hM
  · intro g x hg
    obtain ⟨h1, vs, h2, h3⟩ := h.gl g x hg
    exact ⟨hI g h1, vs, fun j v hj => hl.cells g j v h1 (h2 j v hj), hl.dcells h3⟩
end
end Go.Sep
