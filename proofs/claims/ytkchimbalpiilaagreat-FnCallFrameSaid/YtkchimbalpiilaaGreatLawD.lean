/- Cases of terms: what one looks at. -/
import Derived.Test.YtkchimbalpiilaaGreatLawC
set_option linter.all false
set_option linter.deprecated false
namespace Go.Sep.Y
open Go Go.Sep

def g (c : List Int) (t : Int) : Int := c.getD t.toNat 0
def factI (c : List Int) (f : T53) : Bool := (g c f.f1 == g c f.f2) == f.f0
def factS (c : List Int) (f : T53) : Bool := if 0 ≤ g c f.f1 then if 0 ≤ g c f.f2 then factI c f else true else true
def isF (c : List Int) (a : T60) : Bool := a.f0 == 1 || g c a.f1 != g c a.f2
def fil (c : List Int) (a : T60) : Option T60 := if isF c a = true then some ⟨a.f0, g c a.f1, g c a.f2⟩ else none
def fill (l : List T60) (c : List Int) : List T60 := l.filterMap (fil c)
/-- No nil, no one twice. -/
def aok (l : List Int) : Bool := decide (0 ∉ l) && decide l.Nodup
def bgS (c : List Int) (a : T60) : Option Int := if (a.f0 != 1) = true then none else if decide (g c a.f1 < 0) = true then none else some (g c a.f1)
def bgI (c : List Int) (k : Nat) (a : T60) : Option Int := if decide (a.f1 > (k : Int)) = true then none else if decide (a.f2 > (k : Int)) = true then none else if isF c a = true then some (g c a.f1) else none

theorem aok_nil : aok [] = true := rfl
theorem aok_snoc (l : List Int) (v : Int) : aok (l ++ [v]) = (aok l && (v != 0 && !l.contains v)) := by
  rw [Bool.eq_iff_iff]
  simp only [aok, List.mem_append, List.mem_singleton, not_or, List.nodup_append, List.nodup_cons, List.not_mem_nil, List.nodup_nil, Bool.and_eq_true, decide_eq_true_eq, bne_iff_ne, ne_eq,
    Bool.not_eq_true', List.contains_eq_mem, decide_eq_false_iff_not]
  constructor
  · rintro ⟨⟨h1, h2⟩, h3, _, h4⟩
    exact ⟨⟨h1, h3⟩, fun h => h2 h.symm, fun h => h4 v h v rfl rfl⟩
  · rintro ⟨⟨h1, h2⟩, h3, h4⟩
    exact ⟨⟨h1, fun h => h3 h.symm⟩, h2, ⟨fun h => h, trivial⟩, fun a ha b hb => by rintro rfl; exact h4 (hb ▸ ha)⟩
theorem aok_sub {l m : List Int} (h : l.Sublist m) (hm : aok m = true) : aok l = true := by
  simp only [aok, Bool.and_eq_true, decide_eq_true_eq] at *
  exact ⟨fun h0 => hm.1 (h.subset h0), h.nodup hm.2⟩
theorem aok_app {l m : List Int} (hl : aok l = false) : aok (l ++ m) = false := by
  cases h : aok (l ++ m) with
  | false => rfl
  | true => rw [aok_sub (List.sublist_append_left l m) h] at hl; cases hl

/-- Cases have nine places, each with a term or none. -/
def isC (c : List Int) : Prop := c.length = 9 ∧ ∀ v ∈ c, -1 ≤ v ∧ v ≤ 8
theorem g_ix {c : List Int} {t : Int} (hc : c.length = 9) (ht : okT t = true) : ix c t = some (g c t) := by
  obtain ⟨k, rfl, hk⟩ := okT_nat ht
  rw [ix_nat]
  simp [g, hc, hk]
theorem g_mem {c : List Int} {t : Int} (hc : c.length = 9) (ht : okT t = true) : g c t ∈ c := by
  obtain ⟨k, rfl, hk⟩ := okT_nat ht
  simp [g, hc, hk]

theorem okF_tm {l : List T53} (h : l.all okF = true) : tmF l := fun f hf => by
  have := List.all_eq_true.mp h f hf
  simpa [okF] using this
theorem okA_tm {l : List T60} (h : l.all okA = true) : tmA l := fun f hf => by
  have := List.all_eq_true.mp h f hf
  simp only [okA, Bool.and_eq_true] at this
  exact this.2

theorem f106_eq {l : List T53} {c : List Int} (hl : l.length < LF) (ht : tmF l) (hc : isC c) : f106 l c = some (l.all (factS c)) := by
  unfold f106
  rw [iter_list (W := Unit ⊕ Bool) (v := 0) l (fun (_ : Unit) i => (i : Int)) (fun _ y => if factS c y then .inl () else .inr (.inr false)) (fun _ => .inl ()) (fun _ _ => True) () rfl trivial hl
    (fun s i y _ hy h1 h2 h3 => by
      simp only [h1, h2, h3, bd, if_true, g_ix hc.1 (ht y hy).1, g_ix hc.1 (ht y hy).2, factS, factI]
      by_cases a1 : 0 ≤ g c y.f1
      · by_cases a2 : 0 ≤ g c y.f2
        · simp only [a1, a2, ge_iff_le, decide_true, if_true]
          cases (g c y.f1 == g c y.f2) == y.f0 <;> rfl
        · simp only [a1, a2, ge_iff_le, decide_true, if_true]; rfl
      · simp only [a1, ge_iff_le]; rfl) (fun _ _ _ _ _ _ _ => trivial) (fun s _ h2 => by simp only [h2]; rfl), foldE_all]
  cases l.all (factS c) <;> rfl

theorem f112_eq {f : T53} {c : List Int} (hc : c.length = 9) (h1 : okT f.f1 = true) (h2 : okT f.f2 = true) : f112 f c = some (factI c f) := by
  simp only [f112, lq, hc, if_true, bd, g_ix hc h1, g_ix hc h2, factI]
theorem f113_eq {f : T60} {c : List Int} (hc : c.length = 9) (h1 : okT f.f1 = true) (h2 : okT f.f2 = true) : f113 f c = some (isF c f) := by
  simp only [f113, lq, hc, if_true, bd, g_ix hc h1, g_ix hc h2, isF]
  cases f.f0 == 1 <;> simp
theorem f94_eq {l : List T53} {c : List Int} (hl : l.length < LF) (ht : tmF l) (hc : isC c) : f94 l c = some (l.all (factI c)) := by
  unfold f94
  rw [iter_list (W := Unit ⊕ Bool) (v := 0) l (fun (_ : Unit) i => (i : Int)) (fun _ y => if factI c y then .inl () else .inr (.inr false)) (fun _ => .inl ()) (fun _ _ => True) () rfl trivial hl
    (fun s i y _ hy h1 h2 h3 => by
      simp only [h1, h2, h3, bd, if_true, f112_eq hc.1 (ht y hy).1 (ht y hy).2]
      cases factI c y <;> rfl) (fun _ _ _ _ _ _ _ => trivial) (fun s _ h2 => by simp only [h2]; rfl), foldE_all]
  cases l.all (factI c) <;> rfl

theorem f109_eq {l : List T60} {c : List Int} (hl : l.length ≤ 1000) (ht : tmA l) (hc : isC c) : f109 l c = some (fill l c) := by
  unfold f109
  rw [iter_list (W := List T60 ⊕ List T60) (v := ([], 0)) l (fun s i => (s, (i : Int))) (fun s y => pu s (fil c y)) (fun s => .inl s) (fun s i => s.length ≤ i) [] rfl (by simp) (by rw [LFe]; omega)
    (fun s i y hI hy h1 h2 h3 => by
      have hi : i < l.length := by simpa [ln] using h2
      have e := ap_ok (n := 24) (xs := s) (ys := [(⟨y.f0, g c y.f1, g c y.f2⟩ : T60)]) (by simp only [List.length_singleton]; omega) (by simp only [List.length_singleton]; omega)
      simp only [h1, h2, h3, bd, if_true, g_ix hc.1 (ht y hy).1, g_ix hc.1 (ht y hy).2, e, fil, isF]
      by_cases a1 : (y.f0 == 1) = true <;> by_cases a2 : (g c y.f1 != g c y.f2) = true <;> simp only [a1, a2, Bool.not_eq_true] at * <;> simp [a1, a2, jn, nx, pu])
    (fun s i y s' hI _ h => by
      revert h
      cases fil c y with
      | none => intro h; cases h; omega
      | some z => intro h; cases h; simp; omega)
    (fun s _ h2 => by simp only [h2]; rfl), foldE_filt]
  simp [fin, jn, fill]
theorem f95_eq {l : List T60} {c : List Int} (hl : l.length ≤ 1000) (ht : tmA l) (hc : isC c) : f95 l c = some (fill l c) := by
  unfold f95
  rw [iter_list (W := List T60 ⊕ List T60) (v := ([], 0)) l (fun s i => (s, (i : Int))) (fun s y => pu s (fil c y)) (fun s => .inl s) (fun s i => s.length ≤ i) [] rfl (by simp) (by rw [LFe]; omega)
    (fun s i y hI hy h1 h2 h3 => by
      have hi : i < l.length := by simpa [ln] using h2
      have e := ap_ok (n := 24) (xs := s) (ys := [(⟨y.f0, g c y.f1, g c y.f2⟩ : T60)]) (by simp only [List.length_singleton]; omega) (by simp only [List.length_singleton]; omega)
      simp only [h1, h2, h3, bd, if_true, g_ix hc.1 (ht y hy).1, g_ix hc.1 (ht y hy).2, e, fil, f113_eq hc.1 (ht y hy).1 (ht y hy).2, lq, hc.1]
      by_cases a1 : isF c y = true <;> simp [a1, nx, pu])
    (fun s i y s' hI _ h => by
      revert h
      cases fil c y with
      | none => intro h; cases h; omega
      | some z => intro h; cases h; simp; omega)
    (fun s _ h2 => by simp only [h2]; rfl), foldE_filt]
  simp [fin, jn, fill]
end Go.Sep.Y
