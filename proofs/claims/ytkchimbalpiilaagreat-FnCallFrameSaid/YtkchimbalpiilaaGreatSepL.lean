/- What an operation gives does not hang on objects that it does not read. -/
import Derived.Test.YtkchimbalpiilaaGreatSepK
set_option linter.all false
set_option linter.deprecated false
namespace Go.Sep
open Go

section
variable {C : Cx} {ol ol' : Nat → Option Ob} (hle : ∀ b c, ol b = some c → ol' b = some c)
include hle

mutual
theorem toD_le : ∀ (x : AV) (r : D × Prop), toD ol x = some r → toD ol' x = some r
  | .d x, r, h => by simpa only [toD] using h
  | .nils s, r, h => by simpa only [toD] using h
  | .own b k, r, h => by
    simp only [toD] at h ⊢
    cases hb : ol b with
    | none => rw [hb] at h; cases h
    | some c => rw [hb] at h; rw [hle b c hb]; exact h
  | .agg xs, r, h => by
    simp only [toD] at h ⊢
    cases hx : toDs ol xs with
    | none => rw [hx] at h; cases h
    | some q => rw [hx] at h; rw [toDs_le xs q hx]; exact h
  | .any, r, h => by simp only [toD] at h; cases h
  | .tup _, r, h => by simp only [toD] at h; cases h
  | .ref _ _, r, h => by simp only [toD] at h; cases h
  | .cp _, r, h => by simp only [toD] at h; cases h
  | .rref _ _ _ _, r, h => by simp only [toD] at h; cases h
  | .fn _ _, r, h => by simp only [toD] at h; cases h
  | .yd _, r, h => by simp only [toD] at h; cases h
theorem toDs_le : ∀ (xs : List AV) (r : List D × Prop), toDs ol xs = some r → toDs ol' xs = some r
  | [], r, h => by simpa only [toDs] using h
  | x :: xs, r, h => by
    simp only [toDs] at h ⊢
    cases hx : toD ol x with
    | none => rw [hx] at h; cases h
    | some q =>
      rw [hx] at h
      rw [toD_le x q hx]
      simp only at h ⊢
      cases hxs : toDs ol xs with
      | none => rw [hxs] at h; cases h
      | some q2 => rw [hxs] at h; rw [toDs_le xs q2 hxs]; exact h
end

theorem fieldAddrD_le {T : Tab} {s f : Nat} {x : AV} {r : AV × Prop} (h : fieldAddrD T ol s x f = some r) : fieldAddrD T ol' s x f = some r := by
  unfold fieldAddrD at h ⊢
  split at h <;> first | (cases h; done) | skip
  split at h <;> first | (cases h; done) | skip
  split at h <;> first | (cases h; done) | skip
  cases x <;> try (first | exact h | (simp only at h; cases h; done))
  case ref b p =>
    simp only at h ⊢
    cases hb : ol b with
    | none => rw [hb] at h; cases h
    | some c => rw [hb] at h; rw [hle b c hb]; exact h
  case rref b k i p =>
    simp only at h ⊢
    cases hb : ol b with
    | none => rw [hb] at h; cases h
    | some c => rw [hb] at h; rw [hle b c hb]; exact h
  case cp y => cases y <;> first | (simp only at h; cases h; done) | (simp only at h ⊢; exact h)

theorem indexAddrD_le {T : Tab} {t : Nat} {x ix : AV} {oc : Oc} {r : AV × Prop} (h : indexAddrD T ol t x ix oc = some r) : indexAddrD T ol' t x ix oc = some r := by
  unfold indexAddrD at h ⊢
  split at h <;> first | (cases h; done) | skip
  split at h <;> first | (cases h; done) | skip
  split at h <;> first | (cases h; done) | skip
  · split at h <;> first | (cases h; done) | skip
    cases x <;> try (first | exact h | (simp only at h; cases h; done))
    case own b k =>
      simp only at h ⊢
      cases hb : ol b with
      | none => rw [hb] at h; cases h
      | some c => rw [hb] at h; rw [hle b c hb]; exact h
    case d y => cases y <;> first | (simp only at h; cases h; done) | (simp only at h ⊢; exact h)
  · cases x <;> try (first | exact h | (simp only at h; cases h; done))
    case ref b p =>
      simp only at h ⊢
      cases hb : ol b with
      | none => rw [hb] at h; cases h
      | some c => rw [hb] at h; rw [hle b c hb]; exact h
    case cp y => cases y <;> first | (simp only at h; cases h; done) | (simp only at h ⊢; exact h)

theorem loadD_le {T : Tab} {t : Nat} {x : AV} {oc : Oc} {r : AV × Prop} (h : loadD T ol t x oc = some r) : loadD T ol' t x oc = some r := by
  unfold loadD at h ⊢
  split at h <;> first | (cases h; done) | skip
  cases x <;> try (first | exact h | (simp only at h; cases h; done))
  case ref b p =>
    simp only at h ⊢
    cases hb : ol b with
    | none => rw [hb] at h; cases h
    | some c => rw [hb] at h; rw [hle b c hb]; exact h
  case rref b k i p =>
    simp only at h ⊢
    cases hb : ol b with
    | none => rw [hb] at h; cases h
    | some c => rw [hb] at h; rw [hle b c hb]; exact h

theorem storeD_le {T : Tab} {t : Nat} {x y : AV} {oc : Oc} {r : List (Nat × Ob) × Prop} (h : storeD T ol t x y oc = some r) : storeD T ol' t x y oc = some r := by
  unfold storeD at h ⊢
  split at h <;> first | (cases h; done) | skip
  split at h <;> first | (cases h; done) | skip
  rename_i hc
  rw [if_pos hc]
  cases x <;> try (first | exact h | (simp only at h; cases h; done))
  case ref b p =>
    simp only at h ⊢
    cases hb : ol b with
    | none => rw [hb] at h; cases h
    | some c => rw [hb] at h; rw [hle b c hb]; exact h
  case rref b k i p =>
    simp only at h ⊢
    cases hb : ol b with
    | none => rw [hb] at h; cases h
    | some c => rw [hb] at h; rw [hle b c hb]; exact h

theorem sliceD_le {T : Tab} {t : Nat} {x : AV} {lo hi : Option AV} {r : AV × Prop} (h : sliceD T ol t x lo hi = some r) : sliceD T ol' t x lo hi = some r := by
  unfold sliceD at h ⊢
  split at h <;> first | (cases h; done) | skip
  split at h <;> first | (cases h; done) | exact h | skip
  split at h <;> first | (cases h; done) | skip
  cases hx : toD ol x with
  | none => rw [hx] at h; cases h
  | some q => rw [hx] at h; rw [toD_le hle x q hx]; exact h

theorem litD_le {T : Tab} {t n : Nat} {l : List (Nat × AV)} {r : TypeId × Sh × List D × Prop} (h : litD T ol t n l = some r) : litD T ol' t n l = some r := by
  unfold litD at h ⊢
  split at h <;> first | (cases h; done) | skip
  split at h <;> first | (cases h; done) | skip
  split at h <;> first | (cases h; done) | skip
  cases hx : toDs ol (l.map (·.2)) with
  | none => rw [hx] at h; cases h
  | some q => rw [hx] at h; rw [toDs_le hle _ q hx]; exact h

theorem makeD_le {T : Tab} {t : Nat} {l c : AV} {r : TypeId × Sh × List D × Prop} (h : makeD T ol t l c = some r) : makeD T ol' t l c = some r := by
  unfold makeD at h ⊢
  split at h <;> first | (cases h; done) | skip
  split at h <;> first | (cases h; done) | skip
  split at h <;> first | (cases h; done) | skip
  rename_i ee _
  cases hx : toD ol ee.zero with
  | none => rw [hx] at h; cases h
  | some q => rw [hx] at h; rw [toD_le hle _ q hx]; exact h

theorem srcD_le {T : Tab} {el : TypeId} {ee : TE} {x : AV} {r : List D × Prop} (h : srcD T ol el ee x = some r) : srcD T ol' el ee x = some r := by
  unfold srcD at h ⊢
  cases x <;> simp only at h ⊢
  case own b k =>
    cases hb : ol b with
    | none => rw [hb] at h; cases h
    | some c => rw [hb] at h; rw [hle b c hb]; exact h
  all_goals
    generalize hx : toD ol _ = q at h
    cases q with
    | none => cases h
    | some q => rw [toD_le hle _ q hx]; exact h

theorem appD_le {T : Tab} {t i : Nat} {s x : AV} {r : AV × List (Nat × Ob) × Prop} (h : appD T ol t i s x = some r) : appD T ol' t i s x = some r := by
  unfold appD at h ⊢
  split at h <;> first | (cases h; done) | skip
  split at h <;> first | (cases h; done) | skip
  split at h <;> first | (cases h; done) | skip
  rename_i el _ _ ee _
  cases hx : srcD T ol el ee x with
  | none => rw [hx] at h; cases h
  | some q =>
    rw [hx] at h
    rw [srcD_le hle hx]
    cases s <;> try (first | exact h | (simp only at h; cases h; done))
    case own b k =>
      simp only at h ⊢
      cases hb : ol b with
      | none => rw [hb] at h; cases h
      | some c => rw [hb] at h; rw [hle b c hb]; exact h

mutual
theorem conv_le {ids : List Nat} : ∀ (x : AV) (r : AV × Prop), conv ol ids x = some r → conv ol' ids x = some r ∧ seen' ol' ids x = seen' ol ids x
  | .d x, r, h => ⟨by simpa only [conv] using h, rfl⟩
  | .nils s, r, h => ⟨by simpa only [conv] using h, rfl⟩
  | .cp x, r, h => ⟨by simpa only [conv] using h, rfl⟩
  | .ref b p, r, h => ⟨by simpa only [conv] using h, rfl⟩
  | .own b k, r, h => by
    simp only [conv, seen'] at h ⊢
    cases hp : posIn ids b with
    | some j => rw [hp] at h; exact ⟨h, rfl⟩
    | none =>
      rw [hp] at h
      simp only at h ⊢
      cases hb : ol b with
      | none => rw [hb] at h; cases h
      | some c => rw [hb] at h; rw [hle b c hb]; exact ⟨h, rfl⟩
  | .agg xs, r, h => by
    simp only [conv, seen'] at h ⊢
    cases hx : convs ol ids xs with
    | none => rw [hx] at h; cases h
    | some q => rw [hx] at h; rw [(convs_le xs q hx).1, (convs_le xs q hx).2]; exact ⟨h, rfl⟩
  | .fn f xs, r, h => by
    simp only [conv, seen'] at h ⊢
    cases hx : convs ol ids xs with
    | none => rw [hx] at h; cases h
    | some q => rw [hx] at h; rw [(convs_le xs q hx).1, (convs_le xs q hx).2]; exact ⟨h, rfl⟩
  | .yd b, r, h => by
    simp only [conv, seen'] at h ⊢
    exact ⟨h, trivial⟩
  | .any, r, h => by simp only [conv] at h; cases h
  | .tup _, r, h => by simp only [conv] at h; cases h
  | .rref _ _ _ _, r, h => by simp only [conv] at h; cases h
theorem convs_le {ids : List Nat} : ∀ (xs : List AV) (r : List AV × Prop), convs ol ids xs = some r → convs ol' ids xs = some r ∧ seens' ol' ids xs = seens' ol ids xs
  | [], r, h => ⟨by simpa only [convs] using h, rfl⟩
  | x :: xs, r, h => by
    simp only [convs, seens'] at h ⊢
    cases hx : conv ol ids x with
    | none => rw [hx] at h; cases h
    | some q =>
      rw [hx] at h
      rw [(conv_le x q hx).1, (conv_le x q hx).2]
      simp only at h ⊢
      cases hxs : convs ol ids xs with
      | none => rw [hxs] at h; cases h
      | some q2 => rw [hxs] at h; rw [(convs_le xs q2 hxs).1, (convs_le xs q2 hxs).2]; exact ⟨h, rfl⟩
end

theorem convA_le {ids : List Nat} : ∀ (xs : List AV) (r : List AV × Prop), convA ol ids xs = some r → convA ol' ids xs = some r
  | [], r, h => by simpa only [convA] using h
  | x :: xs, r, h => by
    simp only [convA] at h ⊢
    cases hxs : convA ol ids xs with
    | none => rw [hxs] at h; cases h
    | some q =>
      rw [hxs] at h
      rw [convA_le xs q hxs]
      simp only at h ⊢
      split at h
      · exact h
      · rename_i x' hx'
        split at h
        · cases h
        · rename_i hs
          cases hx : conv ol ids x with
          | none => rw [hx] at h; cases h
          | some q1 =>
            rw [hx] at h
            have := conv_le hle x q1 hx
            rw [this.2, if_neg hs, this.1]
            exact h

theorem convOb_le {ids : List Nat} {c : Ob} {r : Ob × Prop} (h : convOb ol ids c = some r) : convOb ol' ids c = some r := by
  cases c with
  | box c =>
    simp only [convOb] at h ⊢
    split at h
    · cases h
    · rename_i hs
      cases hx : conv ol ids c with
      | none => rw [hx] at h; cases h
      | some q =>
        rw [hx] at h
        have := conv_le hle c q hx
        rw [this.2, if_neg hs, this.1]
        exact h
  | row => exact h
  | frz => exact h
  | raw mk sl =>
    simp only [convOb] at h ⊢
    cases hx : convA ol ids sl with
    | none => rw [hx] at h; cases h
    | some q => rw [hx] at h; rw [convA_le hle sl q hx]; exact h

theorem convObs_le {ids : List Nat} : ∀ (l : List Nat) (r : List Ob × Prop), convObs ol ids l = some r → convObs ol' ids l = some r
  | [], r, h => by simpa only [convObs] using h
  | b :: l, r, h => by
    simp only [convObs] at h ⊢
    cases hb : ol b with
    | none => rw [hb] at h; cases h
    | some c =>
      rw [hb] at h
      rw [hle b c hb]
      simp only at h ⊢
      cases hc : convOb ol ids c with
      | none => rw [hc] at h; cases h
      | some q =>
        rw [hc] at h
        rw [convOb_le hle hc]
        simp only at h ⊢
        cases hl : convObs ol ids l with
        | none => rw [hl] at h; cases h
        | some q2 => rw [hl] at h; rw [convObs_le l q2 hl]; exact h

theorem callF_le {f : AV} {args : List AV} {h : Hint} {r : AV × List (Nat × Ob) × Prop} (hc : callF C ol f args h = some r) : callF C ol' f args h = some r := by
  unfold callF at hc ⊢
  split at hc <;> first | (cases hc; done) | skip
  rename_i k caps rr os' ids news
  cases h1 : convObs ol ids ids with
  | none => rw [h1] at hc; cases hc
  | some q =>
    rw [h1] at hc
    rw [convObs_le hle ids q h1]
    simp only at hc ⊢
    cases h2 : convs ol ids (args ++ caps) with
    | none => rw [h2] at hc; cases hc
    | some q2 =>
      rw [h2] at hc
      have := convs_le hle (args ++ caps) q2 h2
      rw [this.1, this.2]
      exact hc

theorem callY_le {b : Nat} {args : List AV} {h : Hint} {r : AV × List (Nat × Ob) × Prop} (hc : callY C ol b args h = some r) : callY C ol' b args h = some r := by
  unfold callY at hc ⊢
  split at hc <;> first | (cases hc; done) | skip
  rename_i rr os' ids news
  cases h1 : convObs ol ids ids with
  | none => rw [h1] at hc; cases hc
  | some q =>
    rw [h1] at hc
    rw [convObs_le hle ids q h1]
    simp only at hc ⊢
    cases h2 : convs ol ids args with
    | none => rw [h2] at hc; cases hc
    | some q2 =>
      rw [h2] at hc
      have := convs_le hle args q2 h2
      rw [this.1, this.2]
      exact hc

theorem stepOp_le {look : Nat → AV} {o : Oper} {h : Hint} {r : AV × List (Nat × Ob) × Prop} (hs : stepOp C look ol o h = some r) : stepOp C look ol' o h = some r := by
  unfold stepOp at hs ⊢
  cases hop : o.op <;> rw [hop] at hs <;> try (first | exact hs | (simp only at hs; cases hs; done))
  case buildSlice t n parts =>
    simp only at hs ⊢
    split at hs <;> first | (cases hs; done) | skip
    rename_i l _
    cases hx : litD C.T ol t n l with
    | none => rw [hx] at hs; cases hs
    | some q => rw [hx] at hs; rw [litD_le hle hx]; exact hs
  case load t x =>
    simp only at hs ⊢
    split at hs <;> first | (cases hs; done) | skip
    rename_i y _
    cases hx : loadD C.T ol t y (ocOf h) with
    | none => rw [hx] at hs; cases hs
    | some q => rw [hx] at hs; rw [loadD_le hle hx]; exact hs
  case store t x y =>
    simp only at hs ⊢
    split at hs <;> first | (cases hs; done) | skip
    rename_i x' y' _ _
    cases hx : storeD C.T ol t x' y' (ocOf h) with
    | none => rw [hx] at hs; cases hs
    | some q => rw [hx] at hs; rw [storeD_le hle hx]; exact hs
  case makeSlice t l c =>
    simp only at hs ⊢
    split at hs <;> first | (cases hs; done) | skip
    rename_i l' c' _ _
    cases hx : makeD C.T ol t l' c' with
    | none => rw [hx] at hs; cases hs
    | some q => rw [hx] at hs; rw [makeD_le hle hx]; exact hs
  case slice t x lo hi mx =>
    cases mx <;> try (simp only at hs; cases hs; done)
    simp only at hs ⊢
    split at hs <;> first | (cases hs; done) | skip
    rename_i y _
    have key : ∀ lo hi, valP (sliceD C.T ol t y lo hi) = some r → valP (sliceD C.T ol' t y lo hi) = some r := by
      intro lo hi h
      cases hx : sliceD C.T ol t y lo hi with
      | none => rw [hx] at h; cases h
      | some q => rw [hx] at h; rw [sliceD_le hle hx]; exact h
    cases lo <;> cases hi <;> simp only at hs ⊢
    · exact key _ _ hs
    · split at hs <;> first | (cases hs; done) | exact key _ _ hs
    · split at hs <;> first | (cases hs; done) | exact key _ _ hs
    · split at hs <;> first | (cases hs; done) | exact key _ _ hs
  case fieldAddr s x f =>
    simp only at hs ⊢
    split at hs <;> first | (cases hs; done) | skip
    rename_i y _
    cases hx : fieldAddrD C.T ol s y f with
    | none => rw [hx] at hs; cases hs
    | some q => rw [hx] at hs; rw [fieldAddrD_le hle hx]; exact hs
  case indexAddr t x i =>
    simp only at hs ⊢
    split at hs <;> first | (cases hs; done) | skip
    rename_i y z _ _
    cases hx : indexAddrD C.T ol t y z (ocOf h) with
    | none => rw [hx] at hs; cases hs
    | some q => rw [hx] at hs; rw [indexAddrD_le hle hx]; exact hs
  case makeFunc fn first caps =>
    cases fn <;> first | (simp only at hs; cases hs; done) | (simp only at hs ⊢; exact hs)
  case call c =>
    simp only at hs ⊢
    split at hs <;> try (first | exact hs | (cases hs; done))
    · split at hs <;> first | (cases hs; done) | skip
      split at hs <;> first | (cases hs; done) | skip
      rename_i htt
      rw [if_pos htt]
      split at hs <;> first | (cases hs; done) | skip
      unfold frzApp at hs ⊢
      split at hs
      · split at hs
        · rename_i hx
          rw [appD_le hle hx]
          exact hs
        · cases hs
      · exact appD_le hle hs
    · split at hs <;> first | (cases hs; done) | skip
      split at hs <;> first | (cases hs; done) | skip
      · exact callY_le hle hs
      · split at hs <;> first | (cases hs; done) | skip
        exact callF_le hle hs
end
end Go.Sep
