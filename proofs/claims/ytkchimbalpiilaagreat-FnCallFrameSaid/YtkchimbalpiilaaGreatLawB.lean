/- Validity. -/
import Derived.Test.YtkchimbalpiilaaGreatLawA
import Derived.Test.YtkchimbalpiilaaGreatSepYM10
set_option linter.all false
set_option linter.deprecated false
namespace Go.Sep.Y
open Go Go.Sep

def okT (t : Int) : Bool := decide (0 ≤ t) && decide (t ≤ 8)
def okF (f : T53) : Bool := okT f.f1 && okT f.f2
def okA (a : T60) : Bool := (a.f0 == 1 || a.f0 == 2) && (okT a.f1 && okT a.f2)
def okFs (l : List T53) : Bool := l.all okF && decide (ln l ≤ 12)
def valid (a : T25) : Bool := a.f1.all okA && (okFs a.f0 && decide (ln a.f1 ≤ 6))

theorem f55_eq (t : Int) : f55 t = some (okT t) := by
  unfold f55 okT
  by_cases h : 0 ≤ t <;> simp [h]
theorem f68_eq (t : Int) : f68 t = some (okT t) := f55_eq t
theorem f71_eq (f : T53) : f71 f = some (okF f) := by
  simp only [f71, f55_eq, bd, okF]
  cases okT f.f1 <;> rfl
theorem f67_eq (f : T53) : f67 f = some (okF f) := f71_eq f
theorem f50_eq (a : T60) : f50 a = some (okA a) := by
  simp only [f50, f55_eq, bd, okA]
  cases a.f0 == 1 <;> cases a.f0 == 2 <;> cases okT a.f1 <;> rfl
theorem f43_eq (a : T60) : f43 a = some (okA a) := f50_eq a

theorem f51_eq (l : List T53) (h : l.length < LF) : f51 l = some (okFs l) := by
  unfold f51
  rw [iter_list (W := Unit ⊕ Bool) (v := 0) l (fun (_ : Unit) i => (i : Int)) (fun _ y => if okF y then .inl () else .inr (.inr false)) (fun _ => .inl ()) (fun _ _ => True) () rfl trivial h
    (fun s i y _ _ h1 h2 h3 => by simp only [h1, h2, h3, bd, f71_eq, if_true]; cases okF y <;> rfl) (fun _ _ _ _ _ _ _ => trivial) (fun s _ h2 => by simp only [h2]; rfl), foldE_all]
  unfold okFs
  cases l.all okF <;> rfl
theorem f42_eq (l : List T53) (h : l.length < LF) : f42 l = some (okFs l) := by
  unfold f42
  rw [iter_list (W := Unit ⊕ Bool) (v := 0) l (fun (_ : Unit) i => (i : Int)) (fun _ y => if okF y then .inl () else .inr (.inr false)) (fun _ => .inl ()) (fun _ _ => True) () rfl trivial h
    (fun s i y _ _ h1 h2 h3 => by simp only [h1, h2, h3, bd, f67_eq, if_true]; cases okF y <;> rfl) (fun _ _ _ _ _ _ _ => trivial) (fun s _ h2 => by simp only [h2]; rfl), foldE_all]
  unfold okFs
  by_cases hl : ln l > 12
  · rw [if_pos (decide_eq_true hl)]
    simp only [show ¬ (ln l ≤ 12) by omega, decide_false, Bool.and_false]
  · rw [if_neg (by simpa using hl)]
    simp only [show ln l ≤ 12 by omega, decide_true, Bool.and_true]
    cases l.all okF <;> rfl
theorem f22_eq (a : T25) (h : a.f0.length < LF) (h' : a.f1.length < LF) : f22 a = some (valid a) := by
  unfold f22
  rw [iter_list (W := Unit ⊕ Bool) (v := 0) a.f1 (fun (_ : Unit) i => (i : Int)) (fun _ y => if okA y then .inl () else .inr (.inr false)) (fun _ => .inl ()) (fun _ _ => True) () rfl trivial h'
    (fun s i y _ _ h1 h2 h3 => by simp only [h1, h2, h3, bd, f50_eq, if_true]; cases okA y <;> rfl) (fun _ _ _ _ _ _ _ => trivial) (fun s _ h2 => by simp only [h2]; rfl), foldE_all, f51_eq _ h]
  unfold valid
  cases a.f1.all okA <;> cases okFs a.f0 <;> rfl
theorem f15_eq (a : T25) (h : a.f0.length < LF) (h' : a.f1.length < LF) : f15 a = some (valid a) := by
  unfold f15
  rw [iter_list (W := Unit ⊕ Bool) (v := 0) a.f1 (fun (_ : Unit) i => (i : Int)) (fun _ y => if okA y then .inl () else .inr (.inr false)) (fun _ => .inl ()) (fun _ _ => True) () rfl trivial h'
    (fun s i y _ _ h1 h2 h3 => by simp only [h1, h2, h3, bd, f43_eq, if_true]; cases okA y <;> rfl) (fun _ _ _ _ _ _ _ => trivial) (fun s _ h2 => by simp only [h2]; rfl), foldE_all, f42_eq _ h]
  unfold valid
  simp only [bd, jn]
  cases okFs a.f0 with
  | false => simp [jn]
  | true =>
    by_cases hl : ln a.f1 > 6
    · simp only [show ¬ (ln a.f1 ≤ 6) by omega, hl, decide_false, decide_true, Bool.and_false, if_true]; rfl
    · simp only [show ln a.f1 ≤ 6 by omega, hl, decide_false, decide_true, Bool.and_true]
      cases a.f1.all okA <;> rfl
end Go.Sep.Y
