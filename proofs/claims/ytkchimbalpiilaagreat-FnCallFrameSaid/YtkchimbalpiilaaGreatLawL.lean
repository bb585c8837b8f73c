/- Forgetting; the states after calls. -/
import Derived.Test.YtkchimbalpiilaaGreatLawK
set_option linter.all false
set_option linter.deprecated false
namespace Go.Sep.Y
open Go Go.Sep

def oI (l : List Int) (i : Nat) : Bool := l.any fun t => decide ((i : Int) = t)
theorem f18_eq (l : List Int) (h : l.length < LF) : Ok (f18 l) fun b => isR b (oI l) := by
  unfold f18
  refine Ok.jn (fun b => isR b (oI l)) (Ok.iter l.length (fun s i => (s, (i : Int))) (fun s i => isR s (oI (l.take i))) 0 0 rfl (R_cong R_zero fun i _ => by simp [oI]) (by omega) h ?_ ?_) ?_
  · intro s i hI hi e
    obtain ⟨y, hy⟩ : ∃ y, l[i]? = some y := ⟨l[i], by simp [hi]⟩
    obtain ⟨b1, e1, r1⟩ := f45_eq (t := y) hI
    refine ⟨.inl (b1, ((i + 1 : Nat) : Int)), by simp only [ltT hi, if_true, ix_nat, hy, bd, e1, e], b1, rfl, R_cong r1 fun k _ => ?_⟩
    rw [List.take_add_one, hy]
    simp [oI]
  · intro s hI
    exact ⟨.inl s, by simp only [ltF]; rfl, R_cong hI fun k _ => by simp⟩
  intro b hb
  exact Ok.some hb
theorem f25_eq (l : List Int) (h : l.length < LF) : Ok (f25 l) fun us => isB us (oI l) := by
  unfold f25
  refine Ok.bd (P := fun v => isB v fun _ => false) ⟨_, mk_ok (n := 1) (l := 9) (c := 9) (by omega) (by omega) (by omega), B_zero⟩ fun us hus => ?_
  refine Ok.jn (fun b => isB b (oI l)) (Ok.iter l.length (fun s i => (s, (i : Int))) (fun s i => isB s (oI (l.take i))) us 0 rfl (B_cong hus fun i _ => by simp [oI]) (by omega) h ?_ ?_) ?_
  · intro s i hI hi e
    obtain ⟨y, hy⟩ : ∃ y, l[i]? = some y := ⟨l[i], by simp [hi]⟩
    cases ht : okT y with
    | false =>
      refine ⟨.inl (s, ((i + 1 : Nat) : Int)), by simp only [ltT hi, if_true, ix_nat (xs := l), hy, bd, f55_eq, ht, e]; rfl, _, rfl, B_cong hI fun k hk => ?_⟩
      rw [List.take_add_one, hy]
      have : ¬ ((k : Int) = y) := by rintro rfl; rw [nat_okT hk] at ht; cases ht
      simp [oI, this]
    | true =>
      obtain ⟨k1, e1, l1⟩ := okT_nat ht
      have r1 := B_set (k := k1) hI
      refine ⟨.inl (s.set k1 true, ((i + 1 : Nat) : Int)), by simp only [ltT hi, if_true, ix_nat (xs := l), hy, bd, f55_eq, ht, e]; rw [e1]; simp only [B_ix hI l1, B_st hI l1], _, rfl, B_cong r1 fun k _ => ?_⟩
      rw [List.take_add_one, hy]
      simp [oI, e1]
  · intro s hI
    exact ⟨.inl s, by simp only [ltF]; rfl, B_cong hI fun k _ => by simp⟩
  intro b hb
  exact Ok.some hb

/-- A new variable. -/
def nwv (P : Nat → Bool) : Option Nat := [5, 6, 7, 8].find? fun t => !P t
def nwr (P : Nat → Bool) : Int × Bool := match nwv P with | some t => ((t : Int), true) | none => (0, false)

theorem f69_eq {b : Int} {P : Nat → Bool} (hb : isR b P) : f69 b = some (nwr P) := by
  unfold f69
  rw [iter_list (W := Unit ⊕ (Int × Bool)) (v := 5) [5, 6, 7, 8] (fun (_ : Unit) i => ((i + 5 : Nat) : Int)) (fun _ (y : Nat) => if (!P y) = true then .inr (.inr ((y : Int), true)) else .inl ()) (fun _ => .inl ()) (fun _ _ => True) () rfl trivial (by rw [LFe]; decide)
    (fun s i y _ _ h1 h2 h3 => by
      have hi : i < 4 := Int.ofNat_lt.mp (of_decide_eq_true h2)
      obtain rfl : y = i + 5 := by
        rw [ix_nat] at h1
        have : i = 0 ∨ i = 1 ∨ i = 2 ∨ i = 3 := by omega
        rcases this with rfl | rfl | rfl | rfl <;> cases h1 <;> rfl
      have e := f46_eq (t := ((i + 5 : Nat) : Int)) hb
      rw [nat_okT (by omega), Int.toNat_natCast, Bool.true_and] at e
      have e1 : decide (((i + 5 : Nat) : Int) ≤ 8) = true := decide_eq_true (by omega)
      have e2 : ad ((i + 5 : Nat) : Int) 1 = ((i + 1 + 5 : Nat) : Int) := by rw [ad1 (by rw [LFe]; omega)]
      simp only [e1, e2, e, if_true, bdS]
      cases P (i + 5) <;> rfl) (fun _ _ _ _ _ _ _ => trivial) (fun s _ h2 => by rfl), foldE_find (W := Unit ⊕ (Int × Bool)) (fun y : Nat => !P y) (fun y => .inr ((y : Int), true))]
  unfold nwr
  rw [show List.find? (fun y : Nat => !P y) [5, 6, 7, 8] = nwv P from rfl]
  cases nwv P <;> rfl

theorem f56_eq {a : T25} {us : List Bool} {P : Nat → Bool} (ht : tm a) (h : a.f0.length < LF) (h' : a.f1.length < LF) (hb : isB us P) : f56 a us = some (nwr fun i => occ a i || P i) := by
  obtain ⟨v, ev, hv⟩ := f26_eq a ht h h'
  simp only [f56, ev, bdS]
  rw [iter_list (W := Unit ⊕ (Int × Bool)) (v := 5) [5, 6, 7, 8] (fun (_ : Unit) i => ((i + 5 : Nat) : Int)) (fun _ (y : Nat) => if (!(occ a y || P y)) = true then .inr (.inr ((y : Int), true)) else .inl ()) (fun _ => .inl ()) (fun _ _ => True) () rfl trivial (by rw [LFe]; decide)
    (fun s i y _ _ h1 h2 h3 => by
      have hi : i < 4 := Int.ofNat_lt.mp (of_decide_eq_true h2)
      obtain rfl : y = i + 5 := by
        rw [ix_nat] at h1
        have : i = 0 ∨ i = 1 ∨ i = 2 ∨ i = 3 := by omega
        rcases this with rfl | rfl | rfl | rfl <;> cases h1 <;> rfl
      have e1 : decide (((i + 5 : Nat) : Int) ≤ 8) = true := decide_eq_true (by omega)
      have e2 : ad ((i + 5 : Nat) : Int) 1 = ((i + 1 + 5 : Nat) : Int) := by rw [ad1 (by rw [LFe]; omega)]
      simp only [e1, e2, B_ix hv (show i + 5 < 9 by omega), B_ix hb (show i + 5 < 9 by omega), if_true, bdS]
      cases occ a (i + 5) <;> cases P (i + 5) <;> rfl) (fun _ _ _ _ _ _ _ => trivial) (fun s _ h2 => by rfl), foldE_find (W := Unit ⊕ (Int × Bool)) (fun y : Nat => !(occ a y || P y)) (fun y => .inr ((y : Int), true))]
  unfold nwr
  rw [show List.find? (fun y : Nat => !(occ a y || P y)) [5, 6, 7, 8] = nwv (fun i => occ a i || P i) from rfl]
  cases nwv (fun i => occ a i || P i) <;> rfl

theorem f48_eq {a : T25} {b : Int} {P : Nat → Bool} (h : a.f0.length < LF) (h' : a.f1.length < LF) (hb : isR b P) : f48 a b = some (nwr fun i => occ a i || P i) := by
  obtain ⟨v, ev, hv⟩ := f17_eq a h h'
  simp only [f48, ev, bdS, f69_eq (R_or hv hb)]

/-! Substitution. -/
def sbs (x t u : Int) : Int := if (u == x) = true then t else u
def sF (x t : Int) (f : T53) : T53 := ⟨f.f0, sbs x t f.f1, sbs x t f.f2⟩
def sA' (x t : Int) (f : T60) : T60 := ⟨f.f0, sbs x t f.f1, sbs x t f.f2⟩
theorem f70_eq (u x t : Int) : f70 u x t = some (sbs x t u) := by
  unfold f70 sbs
  cases u == x <;> rfl
theorem f73_eq (u x t : Int) : f73 u x t = some (sbs x t u) := f70_eq u x t

theorem foldE_map {α β W : Type} (m : α → β) : ∀ (xs : List α) (acc : List β), foldE (fun (s : List β) y => (.inl (s ++ [m y]) : List β ⊕ W)) acc xs = .inl (acc ++ xs.map m)
  | [], acc => by simp [foldE]
  | y :: ys, acc => by
    rw [foldE]
    refine (foldE_map m ys (acc ++ [m y])).trans ?_
    rw [List.append_assoc]; rfl

theorem f57_eq (a : T25) (x t : Int) (h : a.f0.length ≤ 1000) (h' : a.f1.length ≤ 1000) : f57 a x t = some (a.f0.map (sF x t), a.f1.map (sA' x t)) := by
  unfold f57
  rw [iter_list (W := List T53 ⊕ (List T53 × List T60)) (v := ([], 0)) a.f0 (fun s i => (s, (i : Int))) (fun s y => .inl (s ++ [sF x t y])) (fun s => .inl s) (fun s i => s.length ≤ i) [] rfl (by simp) (by rw [LFe]; omega)
    (fun s i y hs hm h1 h2 h3 => by
      have hi : i < a.f0.length := Int.ofNat_lt.mp (of_decide_eq_true h2)
      have e := ap_ok (n := 24) (xs := s) (ys := [(⟨y.f0, sbs x t y.f1, sbs x t y.f2⟩ : T53)]) (by simp only [List.length_singleton]; omega) (by simp only [List.length_singleton]; omega)
      simp only [h1, h2, h3, bdS, if_true, f73_eq, e]; rfl)
    (fun s i y s' hs _ hf => by cases hf; simp; omega)
    (fun s _ h2 => by simp only [h2]; rfl), foldE_map]
  simp only [fin, jn, List.nil_append]
  rw [iter_list (W := List T60 ⊕ (List T53 × List T60)) (v := ([], 0)) a.f1 (fun s i => (s, (i : Int))) (fun s y => .inl (s ++ [sA' x t y])) (fun s => .inl s) (fun s i => s.length ≤ i) [] rfl (by simp) (by rw [LFe]; omega)
    (fun s i y hs hm h1 h2 h3 => by
      have hi : i < a.f1.length := Int.ofNat_lt.mp (of_decide_eq_true h2)
      have e := ap_ok (n := 24) (xs := s) (ys := [(⟨y.f0, sbs x t y.f1, sbs x t y.f2⟩ : T60)]) (by simp only [List.length_singleton]; omega) (by simp only [List.length_singleton]; omega)
      simp only [h1, h2, h3, bdS, if_true, f73_eq, e]; rfl)
    (fun s i y s' hs _ hf => by cases hf; simp; omega)
    (fun s _ h2 => by simp only [h2]; rfl), foldE_map]
  simp only [fin, List.nil_append]

theorem md_get {α : Type} (m : α → α) (l : List α) {i : Nat} {y : α} (h : l[i]? = some y) : i < l.length ∧ i < ((l.take i).map m ++ l.drop i).length ∧ ((l.take i).map m ++ l.drop i)[i]? = some y ∧
    ∀ z : α, ((l.take i).map m ++ l.drop i).set i z = (l.take i).map m ++ z :: l.drop (i + 1) := by
  have hi : i < l.length := (List.getElem?_eq_some_iff.mp h).1
  have hl : ((l.take i).map m).length = i := by simp; omega
  refine ⟨hi, by simp; omega, ?_, fun z => ?_⟩
  · rw [List.getElem?_append_right (by omega), hl, Nat.sub_self, List.getElem?_drop, Nat.add_zero, h]
  · rw [List.set_append_right _ _ (by omega), hl, Nat.sub_self, List.drop_eq_getElem_cons hi, List.set_cons_zero]
theorem md_step {α : Type} (m : α → α) (l : List α) {i : Nat} {y : α} (h : l[i]? = some y) : (l.take i).map m ++ m y :: l.drop (i + 1) = (l.take (i + 1)).map m ++ l.drop (i + 1) := by
  rw [List.take_add_one, h]; simp

theorem f49_eq (a : T25) (x t : Int) (h : a.f0.length ≤ 1000) (h' : a.f1.length ≤ 1000) : f49 a x t = some (a.f0.map (sF x t), a.f1.map (sA' x t)) := by
  have e47 : f47 a = some (a.f0, a.f1) := by simp only [f47, f19_eq a.f0 [] (by simp; omega), f21_eq a.f1 [] (by simp; omega), bdS, List.append_nil]
  simp only [f49, e47, bdS]
  refine Exists.elim (?_ : Ok _ fun r => r = (a.f0.map (sF x t), a.f1.map (sA' x t))) fun r hr => hr.2 ▸ hr.1
  refine Ok.jn (fun v => v = a.f0.map (sF x t)) (Ok.iter a.f0.length (fun s i => (s, (i : Int))) (fun s i => s = (a.f0.take i).map (sF x t) ++ a.f0.drop i) a.f0 0 rfl (by simp) (by omega) (by rw [LFe]; omega) ?_ ?_) ?_
  · rintro s i rfl hi e
    obtain ⟨y, hy⟩ : ∃ y, a.f0[i]? = some y := ⟨a.f0[i], by simp [hi]⟩
    obtain ⟨_, h2, h3, h4⟩ := md_get (sF x t) a.f0 hy
    have e1 : ix ((a.f0.take i).map (sF x t) ++ a.f0.drop i) (i : Int) = some y := by rw [ix_nat, h3]
    have e3 : ∀ z : T53, st ((a.f0.take i).map (sF x t) ++ a.f0.drop i) (i : Int) z = some ((a.f0.take i).map (sF x t) ++ z :: a.f0.drop (i + 1)) := fun z => by rw [st_ok h2, h4]
    have hl : ((a.f0.take i).map (sF x t)).length = i := by simp; omega
    have e4 : ∀ z : T53, ix ((a.f0.take i).map (sF x t) ++ z :: a.f0.drop (i + 1)) (i : Int) = some z := fun z => by
      rw [ix_nat, List.getElem?_append_right (by omega), hl, Nat.sub_self]; rfl
    have e5 : ∀ z z' : T53, st ((a.f0.take i).map (sF x t) ++ z :: a.f0.drop (i + 1)) (i : Int) z' = some ((a.f0.take i).map (sF x t) ++ z' :: a.f0.drop (i + 1)) := fun z z' => by
      rw [st_ok (by simp; omega), List.set_append_right _ _ (by omega), hl, Nat.sub_self]; rfl
    refine ⟨.inl ((a.f0.take i).map (sF x t) ++ sF x t y :: a.f0.drop (i + 1), ((i + 1 : Nat) : Int)), ?_, _, rfl, md_step _ _ hy⟩
    simp only [ltT hi, if_true, e1, bdS, f70_eq, e3, e4, e5, e]; rfl
  · rintro s rfl
    exact ⟨.inl _, by simp only [ltF]; rfl, by simp [LR]⟩
  rintro _ rfl
  refine Ok.jn (fun v => v = a.f1.map (sA' x t)) (Ok.iter a.f1.length (fun s i => (s, (i : Int))) (fun s i => s = (a.f1.take i).map (sA' x t) ++ a.f1.drop i) a.f1 0 rfl (by simp) (by omega) (by rw [LFe]; omega) ?_ ?_) ?_
  · rintro s i rfl hi e
    obtain ⟨y, hy⟩ : ∃ y, a.f1[i]? = some y := ⟨a.f1[i], by simp [hi]⟩
    obtain ⟨_, h2, h3, h4⟩ := md_get (sA' x t) a.f1 hy
    have e1 : ix ((a.f1.take i).map (sA' x t) ++ a.f1.drop i) (i : Int) = some y := by rw [ix_nat, h3]
    have e3 : ∀ z : T60, st ((a.f1.take i).map (sA' x t) ++ a.f1.drop i) (i : Int) z = some ((a.f1.take i).map (sA' x t) ++ z :: a.f1.drop (i + 1)) := fun z => by rw [st_ok h2, h4]
    have hl : ((a.f1.take i).map (sA' x t)).length = i := by simp; omega
    have e4 : ∀ z : T60, ix ((a.f1.take i).map (sA' x t) ++ z :: a.f1.drop (i + 1)) (i : Int) = some z := fun z => by
      rw [ix_nat, List.getElem?_append_right (by omega), hl, Nat.sub_self]; rfl
    have e5 : ∀ z z' : T60, st ((a.f1.take i).map (sA' x t) ++ z :: a.f1.drop (i + 1)) (i : Int) z' = some ((a.f1.take i).map (sA' x t) ++ z' :: a.f1.drop (i + 1)) := fun z z' => by
      rw [st_ok (by simp; omega), List.set_append_right _ _ (by omega), hl, Nat.sub_self]; rfl
    refine ⟨.inl ((a.f1.take i).map (sA' x t) ++ sA' x t y :: a.f1.drop (i + 1), ((i + 1 : Nat) : Int)), ?_, _, rfl, md_step _ _ hy⟩
    simp only [ltT hi, if_true, e1, bdS, f70_eq, e3, e4, e5, e]; rfl
  · rintro s rfl
    exact ⟨.inl _, by simp only [ltF]; rfl, by simp [LR]⟩
  rintro _ rfl
  exact Ok.some rfl

/-! One variable forgotten. -/
def fg (B : Nat → Bool) (a : T25) (x : Int) : Option T25 := if occ a x.toNat = true then (match nwv fun i => occ a i || B i with
    | some t => some ⟨a.f0.map (sF x t), a.f1.map (sA' x t)⟩
    | none => none)
  else some a

theorem f20_eq {a : T25} {x b : Int} {B : Nat → Bool} (hx : okT x = true) (hb : isR b B) (h : a.f0.length ≤ 1000) (h' : a.f1.length ≤ 1000) :
    Ok (f20 a x b) fun r => match fg B a x with | some s => r.1 = s.f0 ∧ r.2.1 = s.f1 ∧ r.2.2.2.2 = true | none => r.2.2.2.2 = false := by
  obtain ⟨v, ev, hv⟩ := f17_eq a (by rw [LFe]; omega) (by rw [LFe]; omega)
  have e46 := f46_eq (t := x) hv
  rw [hx, Bool.true_and] at e46
  have e47 : f47 a = some (a.f0, a.f1) := by simp only [f47, f19_eq a.f0 [] (by simp; omega), f21_eq a.f1 [] (by simp; omega), bdS, List.append_nil]
  have e48 := f48_eq (a := a) (by rw [LFe]; omega) (by rw [LFe]; omega) hb
  simp only [f20, ev, bdS, e46, e47, e48]
  unfold fg
  cases occ a x.toNat with
  | false => exact ⟨_, rfl, rfl, rfl, rfl⟩
  | true =>
    unfold nwr
    cases nwv fun i => occ a i || B i with
    | none => exact ⟨_, rfl, rfl⟩
    | some t =>
      simp only [Bool.not_true, Bool.false_eq_true, if_false, f49_eq a x (t : Int) h h', bdS]
      exact ⟨_, rfl, rfl, rfl, rfl⟩

theorem f28_eq {a : T25} {x : Int} {us : List Bool} {B : Nat → Bool} (hx : okT x = true) (hb : isB us B) (ht : tm a) (h : a.f0.length ≤ 1000) (h' : a.f1.length ≤ 1000) :
    Ok (f28 a x us) fun r => match fg B a x with | some s => r.1 = s ∧ r.2.2 = true | none => r.2.2 = false := by
  obtain ⟨v, ev, hv⟩ := f26_eq a ht (by rw [LFe]; omega) (by rw [LFe]; omega)
  obtain ⟨k, rfl, hk⟩ := okT_nat hx
  have e56 := f56_eq (a := a) ht (by rw [LFe]; omega) (by rw [LFe]; omega) hb
  simp only [f28, ev, bdS, B_ix hv hk, e56, f57_eq a _ _ h h']
  unfold fg
  rw [Int.toNat_natCast]
  cases occ a k with
  | false => exact ⟨_, rfl, rfl, rfl⟩
  | true =>
    unfold nwr
    cases nwv fun i => occ a i || B i with
    | none => exact ⟨_, rfl, rfl⟩
    | some t => exact ⟨_, rfl, rfl, rfl⟩

theorem okT_sbs {x t u : Int} (ht : okT t = true) (hu : okT u = true) : okT (sbs x t u) = true := by
  unfold sbs; split
  · exact ht
  · exact hu
theorem fg_ok {B : Nat → Bool} {a s : T25} {x : Int} (ht : tm a) (h : fg B a x = some s) : s.f0.length = a.f0.length ∧ s.f1.length = a.f1.length ∧ tm s := by
  unfold fg at h
  split at h
  · split at h
    · rename_i t hn
      cases h
      have hm : t ∈ [5, 6, 7, 8] := List.mem_of_find?_eq_some hn
      have hk : okT (t : Int) = true := nat_okT (by simp at hm; omega)
      refine ⟨by simp, by simp, fun f hf => ?_, fun f hf => ?_⟩
      · obtain ⟨f', hf', rfl⟩ := List.mem_map.mp hf
        exact ⟨okT_sbs hk (ht.1 f' hf').1, okT_sbs hk (ht.1 f' hf').2⟩
      · obtain ⟨f', hf', rfl⟩ := List.mem_map.mp hf
        exact ⟨okT_sbs hk (ht.2 f' hf').1, okT_sbs hk (ht.2 f' hf').2⟩
    · cases h
  · cases h; exact ⟨rfl, rfl, ht⟩

theorem asc_pv : ∀ (l : List Int) (s u : Int), foldE cvs s l = .inl u → ∀ v ∈ l, pv v = true
  | [], s, u, h, v, hv => by cases hv
  | y :: l, s, u, h, v, hv => by
    unfold foldE at h
    cases hs : cvs s y with
    | inr w => rw [hs] at h; cases h
    | inl s' =>
      rw [hs] at h
      rcases List.mem_cons.mp hv with rfl | hv
      · unfold cvs at hs
        split at hs
        · rename_i hq
          simp only [Bool.and_eq_true] at hq
          exact hq.1
        · cases hs
      · exact asc_pv l s' u h v hv

def fgs (B : Nat → Bool) (s : T25) (x : Int) : T25 ⊕ ((List T53 × List T60) ⊕ (List T53 × List T60 × Bool)) := match fg B s x with
  | some s' => .inl s'
  | none => .inr (.inr ([], [], false))
theorem fgs_inr {B : Nat → Bool} : ∀ (l : List Int) (s : T25) (w : (List T53 × List T60) ⊕ (List T53 × List T60 × Bool)), foldE (fgs B) s l = .inr w → w = .inr ([], [], false)
  | [], s, w, h => by cases h
  | x :: l, s, w, h => by
    unfold foldE at h
    cases hs : fgs B s x with
    | inl u => rw [hs] at h; exact fgs_inr l u w h
    | inr w' =>
      rw [hs] at h; cases h
      unfold fgs at hs
      cases hf : fg B s x with
      | some s' => rw [hf] at hs; cases hs
      | none => rw [hf] at hs; cases hs; rfl
theorem fgs_ok {B : Nat → Bool} : ∀ (l : List Int) (s u : T25), tm s → foldE (fgs B) s l = .inl u → u.f0.length = s.f0.length ∧ u.f1.length = s.f1.length ∧ tm u
  | [], s, u, ht, h => by cases h; exact ⟨rfl, rfl, ht⟩
  | x :: l, s, u, ht, h => by
    unfold foldE at h
    cases hf : fg B s x with
    | none => simp only [fgs, hf] at h; cases h
    | some s' =>
      simp only [fgs, hf] at h
      obtain ⟨h1, h2, h3⟩ := fg_ok ht hf
      obtain ⟨g1, g2, g3⟩ := fgs_ok l s' u h3 h
      exact ⟨g1.trans h1, g2.trans h2, g3⟩

theorem f29_refl (l : List T53) (h : l.length < LF) : f29 l l = some true := by
  unfold f29
  have e : (ln l != ln l) = false := by simp
  rw [e]
  simp only [Bool.false_eq_true, if_false]
  rw [iter_list (W := Unit ⊕ Bool) (v := 0) l (fun (_ : Unit) i => (i : Int)) (fun _ y => if (fun _ => true) y = true then .inl () else .inr (.inr false)) (fun _ => .inl ()) (fun _ _ => True) () rfl trivial h
    (fun s i y _ _ h1 h2 h3 => by simp only [h1, h2, h3, bdS, if_true, beq_self_eq_true, Bool.and_self]; rfl) (fun _ _ _ _ _ _ _ => trivial) (fun s _ h2 => by simp only [h2]; rfl), foldE_all (fun _ => true)]
  simp [fin, jn]
theorem f30_refl (l : List T60) (h : l.length < LF) : f30 l l = some true := by
  unfold f30
  have e : (ln l != ln l) = false := by simp
  rw [e]
  simp only [Bool.false_eq_true, if_false]
  rw [iter_list (W := Unit ⊕ Bool) (v := 0) l (fun (_ : Unit) i => (i : Int)) (fun _ y => if (fun _ => true) y = true then .inl () else .inr (.inr false)) (fun _ => .inl ()) (fun _ _ => True) () rfl trivial h
    (fun s i y _ _ h1 h2 h3 => by simp only [h1, h2, h3, bdS, if_true, beq_self_eq_true, Bool.and_self]; rfl) (fun _ _ _ _ _ _ _ => trivial) (fun s _ h2 => by simp only [h2]; rfl), foldE_all (fun _ => true)]
  simp [fin, jn]
theorem f7_refl (a b : T25) (e0 : a.f0 = b.f0) (e1 : a.f1 = b.f1) (h : a.f0.length < LF) (h' : a.f1.length < LF) : f7 a b = some true := by
  simp only [f7, ← e0, ← e1, f29_refl _ h, f30_refl _ h', bdS, if_true]

theorem frm_facts {a p : T25} (ha : valid a = true) : (frm a p).1 = [] ∧ (frm a p).2.1.length ≤ a.f1.length ∧ tmA (frm a p).2.1 := by
  obtain ⟨_, _, a3, _⟩ := valid_facts ha
  unfold frm
  cases ff a p with
  | none => exact ⟨rfl, Nat.zero_le _, fun f hf => by cases hf⟩
  | some v => exact ⟨rfl, (pk_sub _ _ _).length_le, fun f hf => a3.2 f ((pk_sub _ _ _).subset hf)⟩

/-- CallPost: the same in both. -/
theorem callpost (a : T25) (k : T28) (b : List Int) (h1 : a.f0.length ≤ 100000) (h2 : a.f1.length ≤ 100000) (h3 : k.f0.f0.length ≤ 100000) (h4 : k.f0.f1.length ≤ 100000) (h5 : k.f1.f0.length ≤ 100000) (h6 : k.f1.f1.length ≤ 100000)
    (h7 : k.f2.length ≤ 100000) (h8 : b.length ≤ 100000) : ∃ r, f5 a k b = some r ∧ f6 a k b = some r ∧ r.1.length < LF ∧ r.2.1.length < LF ∧
      (r.2.2 = true → valid a = true ∧ valid k.f0 = true ∧ (frm a k.f0).2.2 = true ∧ r.1.length = a.f0.length + k.f1.f0.length ∧ ∃ l, r.2.1 = k.f1.f1 ++ l ∧ l.length = (frm a k.f0).2.1.length) := by
  have ea := f15_eq a (by rw [LFe]; omega) (by rw [LFe]; omega)
  have ea' := f22_eq a (by rw [LFe]; omega) (by rw [LFe]; omega)
  have ek := f16_eq k h3 h4 h5 h6 h7
  have ek' := f23_eq k h3 h4 h5 h6 h7
  have nil : ([] : List T53).length < LF ∧ ([] : List T60).length < LF := ⟨by rw [LFe]; simp, by rw [LFe]; simp⟩
  cases ha : valid a with
  | false =>
    rw [ha] at ea ea'
    exact ⟨([], [], false), by simp only [f5, ea, bdS]; rfl, by simp only [f6, ea', bdS]; rfl, nil.1, nil.2, fun h => by cases h⟩
  | true =>
  cases hk : cv k with
  | false =>
    rw [ha] at ea ea'
    rw [hk] at ek ek'
    exact ⟨([], [], false), by simp only [f5, ea, ek, bdS]; rfl, by simp only [f6, ea', ek', bdS]; rfl, nil.1, nil.2, fun h => by cases h⟩
  | true =>
  have hk0 := hk
  unfold cv at hk0
  simp only [Bool.and_eq_true] at hk0
  obtain ⟨hp, hq, hasc⟩ := hk0
  obtain ⟨a1, a2, a3, _⟩ := valid_facts ha
  obtain ⟨p1, p2, p3, _⟩ := valid_facts hp
  obtain ⟨q1, q2, q3, _⟩ := valid_facts hq
  obtain ⟨m1, m2, m3⟩ := frm_facts (p := k.f0) ha
  rw [ha] at ea ea'
  rw [hk] at ek ek'
  have e8 := f8_eq ha hp
  have e24 := f24_eq ha hp
  generalize hfr : frm a k.f0 = F at *
  obtain ⟨F1, F2, F3⟩ := F
  simp only at m1 m2 m3 ⊢
  subst m1
  cases F3 with
  | false =>
    exact ⟨([], [], false), by simp only [f5, ea, ek, bdS, jn, e8]; rfl, by simp only [f6, ea', ek', bdS, jn, e24]; rfl, nil.1, nil.2, fun h => by cases h⟩
  | true =>
  have lf : ∀ n, n ≤ 100000 → n < LF := fun n h => by rw [LFe]; omega
  obtain ⟨b1, e1, r1⟩ := f17_eq a (lf _ h1) (lf _ h2)
  obtain ⟨b2, e2, r2⟩ := f17_eq k.f0 (lf _ h3) (lf _ h4)
  obtain ⟨b3, e3, r3⟩ := f17_eq k.f1 (lf _ h5) (lf _ h6)
  obtain ⟨b4, e4, r4⟩ := f18_eq b (lf _ h8)
  have rB := R_or (R_or (R_or r1 r2) r3) r4
  generalize hbb : bor .u16 (bor .u16 (bor .u16 b1 b2) b3) b4 = bits at rB
  obtain ⟨u1, d1, s1⟩ := f25_eq b (lf _ h8)
  have d2 := f27_eq k.f0 k.f1 (by omega) (by omega)
  have d3 := f27_eq a (⟨k.f0.f0 ++ k.f1.f0, k.f0.f1 ++ k.f1.f1⟩ : T25) (by simp; omega) (by simp; omega)
  have hct : tm (⟨a.f0 ++ (k.f0.f0 ++ k.f1.f0), a.f1 ++ (k.f0.f1 ++ k.f1.f1)⟩ : T25) := ⟨fun f hf => by
    rcases List.mem_append.mp hf with h | h
    · exact a3.1 f h
    · rcases List.mem_append.mp h with h | h
      · exact p3.1 f h
      · exact q3.1 f h, fun f hf => by
    rcases List.mem_append.mp hf with h | h
    · exact a3.2 f h
    · rcases List.mem_append.mp h with h | h
      · exact p3.2 f h
      · exact q3.2 f h⟩
  obtain ⟨u2, d4, s2⟩ := f26_eq (⟨a.f0 ++ (k.f0.f0 ++ k.f1.f0), a.f1 ++ (k.f0.f1 ++ k.f1.f1)⟩ : T25) hct (by rw [LFe]; simp; omega) (by rw [LFe]; simp; omega)
  have mrg : Ok (iter (fun (v41 : (List Bool) × Int) =>
      if (decide (v41.2 ≤ 8)) = true then
      bd (ix v41.1 v41.2) fun v45 =>
      if v45 = true then
      bd (ix v41.1 v41.2) fun v48 =>
      bd (st v41.1 v41.2 true) fun v50 =>
      some (.inl (v50, ad v41.2 1))
      else
      bd (ix u2 v41.2) fun v52 =>
      bd (ix v41.1 v41.2) fun v54 =>
      bd (st v41.1 v41.2 v52) fun v56 =>
      some (.inl (v56, ad v41.2 1))
      else
      some (.inr ((.inl v41.1 : List Bool ⊕ (List T53 × List T60 × Bool))))) (u1, 0)) (fun w => ∃ us, w = .inl us ∧ isB us fun i => ((occ a i || occ k.f0 i) || occ k.f1 i) || oI b i) := by
    refine Ok.iter 9 (fun s i => (s, (i : Int))) (fun s i => isB s fun j => oI b j || (decide (j < i) && occ (⟨a.f0 ++ (k.f0.f0 ++ k.f1.f0), a.f1 ++ (k.f0.f1 ++ k.f1.f1)⟩ : T25) j)) u1 0 rfl (B_cong s1 fun i _ => by simp) (by omega) (by rw [LFe]; omega) ?_ ?_
    · intro s i hI hi e
      have ei := B_ix hI hi
      simp only [Nat.lt_irrefl, decide_false, Bool.false_and, Bool.or_false] at ei
      have key : ∀ v, v = (oI b i || occ (⟨a.f0 ++ (k.f0.f0 ++ k.f1.f0), a.f1 ++ (k.f0.f1 ++ k.f1.f1)⟩ : T25) i) → isB (s.set i v) fun j => oI b j || (decide (j < i + 1) && occ (⟨a.f0 ++ (k.f0.f0 ++ k.f1.f0), a.f1 ++ (k.f0.f1 ++ k.f1.f1)⟩ : T25) j) := fun v hv => by
        refine ⟨by simp [hI.1], fun j hj => ?_⟩
        by_cases hij : i = j
        · subst hij; simp [hI.1, hj, hv]
        · rw [List.getElem?_set_ne hij, hI.2 j hj]
          show some (oI b j || (decide (j < i) && _)) = some (oI b j || (decide (j < i + 1) && _))
          rw [decide_eq_decide.mpr (show j < i ↔ j < i + 1 by omega)]
      have e8' : decide ((i : Int) ≤ 8) = true := decide_eq_true (by omega)
      cases ho : oI b i with
      | true =>
        rw [ho] at ei
        exact ⟨.inl (s.set i true, ((i + 1 : Nat) : Int)), by simp only [e8', if_true, ei, bdS, B_st hI hi, e], _, rfl, key true (by simp [ho])⟩
      | false =>
        rw [ho] at ei
        exact ⟨.inl (s.set i _, ((i + 1 : Nat) : Int)), by simp only [e8', if_true, ei, bdS, B_ix s2 hi, B_st hI hi, e]; rfl, _, rfl, key _ (by simp [ho])⟩
    · intro s hI
      refine ⟨.inl s, rfl, s, rfl, B_cong hI fun j hj => ?_⟩
      simp only [show decide (j < 9) = true from decide_eq_true hj, Bool.true_and, occ, oF, oA, List.any_append]
      cases (List.any a.f0 fun f => decide ((j : Int) = f.f1) || decide ((j : Int) = f.f2)) <;> cases (List.any a.f1 fun f => decide ((j : Int) = f.f1) || decide ((j : Int) = f.f2)) <;>
      cases (List.any k.f0.f0 fun f => decide ((j : Int) = f.f1) || decide ((j : Int) = f.f2)) <;> cases (List.any k.f0.f1 fun f => decide ((j : Int) = f.f1) || decide ((j : Int) = f.f2)) <;>
      cases (List.any k.f1.f0 fun f => decide ((j : Int) = f.f1) || decide ((j : Int) = f.f2)) <;> cases (List.any k.f1.f1 fun f => decide ((j : Int) = f.f1) || decide ((j : Int) = f.f2)) <;>
      cases oI b j <;> rfl
  obtain ⟨_, d5, us, rfl, s3⟩ := mrg
  generalize hB : (fun i => ((occ a i || occ k.f0 i) || occ k.f1 i) || oI b i) = B at rB s3
  have hpv : ∀ x ∈ k.f2, okT x = true := fun x hx => by
    unfold asc at hasc
    cases hf : foldE cvs 0 k.f2 with
    | inr w => rw [hf] at hasc; cases hasc
    | inl u =>
      have := asc_pv _ _ _ hf x hx
      simp only [pv, Bool.and_eq_true, decide_eq_true_eq] at this
      simp only [okT, Bool.and_eq_true, decide_eq_true_eq]
      omega
  have c19 : f19 a.f0 [] = some a.f0 := by rw [f19_eq a.f0 [] (by simp; omega), List.append_nil]
  have cap : ap 24 ([] : List T53) a.f0 = some a.f0 := by rw [ap_ok (by simp; omega) (by simp; omega)]; rfl
  have ht0 : tm (⟨a.f0, F2⟩ : T25) := ⟨a3.1, m3⟩
  have L5 := iter_list (W := (List T53 × List T60) ⊕ (List T53 × List T60 × Bool)) (b := fun (v35 : (List T53) × (List T60) × Int) =>
      if (decide (v35.2.2 < (ln k.f2))) = true then
      bd (ix k.f2 v35.2.2) fun v39 =>
      bd (f20 (⟨v35.1, v35.2.1⟩ : T25) v39 bits) fun v41 =>
      if (!v41.2.2.2.2) = true then
      some (.inr (.inr ([], [], false)))
      else
      some (.inl (v41.1, v41.2.1, ad v35.2.2 1))
      else
      some (.inr (.inl (v35.1, v35.2.1)))) (v := (a.f0, F2, 0)) k.f2 (fun (s : T25) i => (s.f0, s.f1, (i : Int))) (fgs B) (fun s => .inl (s.f0, s.f1)) (fun s _ => s.f0.length = a.f0.length ∧ s.f1.length = F2.length ∧ tm s) ⟨a.f0, F2⟩ rfl ⟨rfl, rfl, ht0⟩ (lf _ h7)
    (fun s i y hs hy g1 g2 g3 => by
      obtain ⟨r, er, hr⟩ := f20_eq (a := s) (hpv y hy) rB (by omega) (by omega)
      have er' : f20 (⟨s.f0, s.f1⟩ : T25) y bits = some r := er
      simp only [g1, g2, g3, bdS, if_true, er', fgs]
      cases hf : fg B s y with
      | none => rw [hf] at hr; simp only [hr]; rfl
      | some s' => rw [hf] at hr; simp only [hr]; rfl)
    (fun s i y s' hs _ hf => by
      cases hg : fg B s y with
      | none => simp only [fgs, hg] at hf; cases hf
      | some s2 =>
        simp only [fgs, hg] at hf; cases hf
        obtain ⟨g1, g2, g3⟩ := fg_ok hs.2.2 hg
        exact ⟨g1.trans hs.1, g2.trans hs.2.1, g3⟩)
    (fun s _ g2 => by simp only [g2]; rfl)
  have L6 := iter_list (W := (List T53 × List T60) ⊕ (List T53 × List T60 × Bool)) (b := fun (v123 : (List T53) × (List T60) × Int) =>
      if (decide (v123.2.2 < (ln k.f2))) = true then
      bd (ix k.f2 v123.2.2) fun v127 =>
      bd (f28 (⟨v123.1, v123.2.1⟩ : T25) v127 us) fun v129 =>
      if (!v129.2.2) = true then
      some (.inr (.inr ([], [], false)))
      else
      some (.inl (v129.1.f0, v129.1.f1, ad v123.2.2 1))
      else
      some (.inr (.inl (v123.1, v123.2.1)))) (v := (a.f0, F2, 0)) k.f2 (fun (s : T25) i => (s.f0, s.f1, (i : Int))) (fgs B) (fun s => .inl (s.f0, s.f1)) (fun s _ => s.f0.length = a.f0.length ∧ s.f1.length = F2.length ∧ tm s) ⟨a.f0, F2⟩ rfl ⟨rfl, rfl, ht0⟩ (lf _ h7)
    (fun s i y hs hy g1 g2 g3 => by
      obtain ⟨r, er, hr⟩ := f28_eq (a := s) (hpv y hy) s3 hs.2.2 (by omega) (by omega)
      have er' : f28 (⟨s.f0, s.f1⟩ : T25) y us = some r := er
      simp only [g1, g2, g3, bdS, if_true, er', fgs]
      cases hf : fg B s y with
      | none => rw [hf] at hr; simp only [hr]; rfl
      | some s' => rw [hf] at hr; simp only [hr]; rfl)
    (fun s i y s' hs _ hf => by
      cases hg : fg B s y with
      | none => simp only [fgs, hg] at hf; cases hf
      | some s2 =>
        simp only [fgs, hg] at hf; cases hf
        obtain ⟨g1, g2, g3⟩ := fg_ok hs.2.2 hg
        exact ⟨g1.trans hs.1, g2.trans hs.2.1, g3⟩)
    (fun s _ g2 => by simp only [g2]; rfl)
  have E5 : f5 a k b = jn (some (fin (fun s : T25 => .inl (s.f0, s.f1)) (foldE (fgs B) ⟨a.f0, F2⟩ k.f2))) fun (v23 : (List T53) × (List T60)) =>
      bd (f19 v23.1 k.f1.f0) fun v44 =>
      bd (f21 k.f1.f1 v23.2) fun v46 =>
      bd (f15 (⟨v44, v46⟩ : T25)) fun v48 =>
      if (!v48) = true then
      some ([], [], false)
      else
      some (v44, v46, true) := by
    rw [← L5]
    simp only [f5, ea, ek, bdS, e8, e1, e2, e3, e4, c19, hbb, Bool.not_true, Bool.false_eq_true, if_false]
    rfl
  have E6 : f6 a k b = jn (some (fin (fun s : T25 => .inl (s.f0, s.f1)) (foldE (fgs B) ⟨a.f0, F2⟩ k.f2))) fun (v60 : (List T53) × (List T60)) =>
      bd (f27 (⟨v60.1, v60.2⟩ : T25) (⟨[], []⟩ : T25)) fun v132 =>
      bd (ap 24 v132.1 k.f1.f0) fun v134 =>
      bd (ap 24 ([] : List T60) k.f1.f1) fun v136 =>
      bd (ap 24 v136 v60.2) fun v138 =>
      bd (f22 (⟨v134, v138⟩ : T25)) fun v140 =>
      if (!v140) = true then
      some ([], [], false)
      else
      some (v134, v138, true) := by
    rw [← L6]
    simp only [f6, ea', ek', bdS, e24, d1, d2, d3, d4, cap, Bool.not_true, Bool.false_eq_true, if_false]
    rw [d5]
    rfl
  rw [E5, E6]
  cases hf : foldE (fgs B) ⟨a.f0, F2⟩ k.f2 with
  | inr w =>
    obtain rfl := fgs_inr _ _ _ hf
    exact ⟨([], [], false), rfl, rfl, nil.1, nil.2, fun h => by cases h⟩
  | inl u =>
    obtain ⟨g1, g2, g3⟩ := fgs_ok _ _ _ ht0 hf
    simp only at g1 g2
    have q15 := f15_eq (⟨u.f0 ++ k.f1.f0, k.f1.f1 ++ u.f1⟩ : T25) (by rw [LFe]; simp; omega) (by rw [LFe]; simp; omega)
    have q22 := f22_eq (⟨u.f0 ++ k.f1.f0, k.f1.f1 ++ u.f1⟩ : T25) (by rw [LFe]; simp; omega) (by rw [LFe]; simp; omega)
    have q27 := f27_eq (⟨u.f0, u.f1⟩ : T25) (⟨[], []⟩ : T25) (by simp; omega) (by simp; omega)
    simp only [List.append_nil] at q27
    simp only [fin, jn, f19_eq u.f0 k.f1.f0 (by omega), f21_eq k.f1.f1 u.f1 (by omega), bdS, q15, q22, q27, ap_ok (n := 24) (xs := u.f0) (ys := k.f1.f0) (by omega) (by omega),
      ap_ok (n := 24) (xs := ([] : List T60)) (ys := k.f1.f1) (by simp; omega) (by simp; omega), List.nil_append, ap_ok (n := 24) (xs := k.f1.f1) (ys := u.f1) (by omega) (by omega)]
    cases valid (⟨u.f0 ++ k.f1.f0, k.f1.f1 ++ u.f1⟩ : T25) with
    | false => exact ⟨([], [], false), rfl, rfl, nil.1, nil.2, fun h => by cases h⟩
    | true => exact ⟨(u.f0 ++ k.f1.f0, k.f1.f1 ++ u.f1, true), rfl, rfl, by rw [LFe]; simp; omega, by rw [LFe]; simp; omega, fun _ => ⟨trivial, hp, trivial, by simp; omega, u.f1, rfl, by omega⟩⟩
end Go.Sep.Y
