/- Part of the proof: mirrors of the functions of this seat, and that the functions give what their mirrors give. -/
import Derived.Test.YtkchimbalpiilaaGreatSepYM9
set_option linter.all false
set_option linter.deprecated false
open Go Go.Sep Go.Proofs
set_option maxRecDepth 100000
namespace Go.Sep.Y
-- f3 laws.FnCallFrame
def f3 (x0 : (List Int)) : Option (Bool) :=
 if (decide ((ln x0) > 1048576)) = true then
 some true
 else
 bd (f4 x0) fun v2 =>
 bd (f5 (⟨v2.1, v2.2.1⟩ : T25) (⟨(⟨v2.2.2.1, v2.2.2.2.1⟩ : T25), (⟨v2.2.2.2.2.1, v2.2.2.2.2.2.1⟩ : T25), v2.2.2.2.2.2.2.1⟩ : T28) v2.2.2.2.2.2.2.2) fun v4 =>
 bd (f6 (⟨v2.1, v2.2.1⟩ : T25) (⟨(⟨v2.2.2.1, v2.2.2.2.1⟩ : T25), (⟨v2.2.2.2.2.1, v2.2.2.2.2.2.1⟩ : T25), v2.2.2.2.2.2.2.1⟩ : T28) v2.2.2.2.2.2.2.2) fun v6 =>
 jn (
 jn (
 if (!(v4.2.2 == v6.2.2)) = true then
 some (.inl true)
 else
 bd (f7 (⟨v4.1, v4.2.1⟩ : T25) (⟨v6.1, v6.2.1⟩ : T25)) fun v15 =>
 if (!v15) = true then
 some (.inl true)
 else
 some (.inl (!v4.2.2))) fun (v11 : Bool) =>
 if v11 = true then
 if (v4.2.2 == v6.2.2) = true then
 bd (f7 (⟨v4.1, v4.2.1⟩ : T25) (⟨v6.1, v6.2.1⟩ : T25)) fun v20 =>
 some (.inr v20)
 else
 some (.inr false)
 else
 some (.inl ())) fun (v8 : Unit) =>
 bd (f8 (⟨v2.1, v2.2.1⟩ : T25) (⟨v2.2.2.1, v2.2.2.2.1⟩ : T25)) fun v30 =>
 bd (sl v4.2.1 0 (ln v2.2.2.2.2.2.1)) fun v34 =>
 if v30.2.2 = true then
 if ((ln v4.2.1) == (ad (ln v2.2.2.2.2.2.1) (ln v30.2.1))) = true then
 if ((ln v4.1) == (ad (ln v2.1) (ln v2.2.2.2.2.1))) = true then
 bd (f7 (⟨[], v34⟩ : T25) (⟨[], v2.2.2.2.2.2.1⟩ : T25)) fun v39 =>
 some v39
 else
 some false
 else
 some false
 else
 some false
theorem c3 {x0 : (List Int)} {r : Bool} (h : f3 x0 = some r) :
 FnD cx 3 [k22.a x0] [] (bA r) [] := by
 unfold f3 at h
 refine fnD_intro (fn := Tryz.f3) (by kernel_rfl) rfl (by kernel_rfl) (by kernel_rfl) fun E => ?_
 refine CD.seq (rg [] [] [] a0 (CD.seq (CD.seq (rg [(1, hV (iA (ln x0)))] [(16, bA (decide ((ln x0) > 1048576)))] [] (a1 (o_ln k5 x0) a0) (br h (fun g1 h => ?_) (fun g1 h => ?_))))))
 refine CD.seq (rg [] [(2, bA true)] [] a0 (CD.ret ?_))
 obtain rfl := sm h
 exact NX.ret [] a0 (by kernel_rfl)
 refine CD.skip (CD.seq ?_)
 rcases bd_some h with ⟨v2, g3, h⟩
 refine rg [(1, hC (.tup [.agg [.own 0 v2.1.length, .own 1 v2.2.1.length], .agg [.agg [.own 2 v2.2.2.1.length, .own 3 v2.2.2.2.1.length], .agg [.own 4 v2.2.2.2.2.1.length, .own 5 v2.2.2.2.2.2.1.length], .own 6 v2.2.2.2.2.2.2.1.length], .own 7 v2.2.2.2.2.2.2.2.length]) [k53.r 54 (.node [.cell, .cell, .cell]) v2.1, k60.r 61 (.node [.cell, .cell, .cell]) v2.2.1, k53.r 54 (.node [.cell, .cell, .cell]) v2.2.2.1, k60.r 61 (.node [.cell, .cell, .cell]) v2.2.2.2.1, k53.r 54 (.node [.cell, .cell, .cell]) v2.2.2.2.2.1, k60.r 61 (.node [.cell, .cell, .cell]) v2.2.2.2.2.2.1, k3.r 3 .cell v2.2.2.2.2.2.2.1, k3.r 3 .cell v2.2.2.2.2.2.2.2] [] [2380, 2381, 2382, 2383, 2384, 2385, 2386, 2387])] [(3, .ref 1003 []), (4, .ref 1004 []), (5, .own 2387 v2.2.2.2.2.2.2.2.length)] [(1004, bx (.agg [.agg [.own 2382 v2.2.2.1.length, .own 2383 v2.2.2.2.1.length], .agg [.own 2384 v2.2.2.2.2.1.length, .own 2385 v2.2.2.2.2.2.1.length], .own 2386 v2.2.2.2.2.2.2.1.length])), (1003, bx (.agg [.own 2380 v2.1.length, .own 2381 v2.2.1.length])), (2387, k3.r 3 .cell v2.2.2.2.2.2.2.2), (2386, k3.r 3 .cell v2.2.2.2.2.2.2.1), (2385, k60.r 61 (.node [.cell, .cell, .cell]) v2.2.2.2.2.2.1), (2384, k53.r 54 (.node [.cell, .cell, .cell]) v2.2.2.2.2.1), (2383, k60.r 61 (.node [.cell, .cell, .cell]) v2.2.2.2.1), (2382, k53.r 54 (.node [.cell, .cell, .cell]) v2.2.2.1), (2381, k60.r 61 (.node [.cell, .cell, .cell]) v2.2.1), (2380, k53.r 54 (.node [.cell, .cell, .cell]) v2.1)] (a1 (c4 g3) a0) (CD.seq ?_)
 rcases bd_some h with ⟨v4, g5, h⟩
 refine rg [(3, hC (.tup [.agg [.own 0 v4.1.length, .own 1 v4.2.1.length], bA v4.2.2]) [k53.r 54 (.node [.cell, .cell, .cell]) v4.1, k60.r 61 (.node [.cell, .cell, .cell]) v4.2.1] [] [2540, 2541])] [(6, .ref 1006 []), (7, bA v4.2.2)] [(1006, bx (.agg [.own 2540 v4.1.length, .own 2541 v4.2.1.length])), (2541, k60.r 61 (.node [.cell, .cell, .cell]) v4.2.1), (2540, k53.r 54 (.node [.cell, .cell, .cell]) v4.1)] (a1 (k_len' k53 v2.1) (a1 (k_len' k60 v2.2.1) (a1 (k_len' k53 v2.2.2.1) (a1 (k_len' k60 v2.2.2.2.1) (a1 (k_len' k53 v2.2.2.2.2.1) (a1 (k_len' k60 v2.2.2.2.2.2.1) (a1 (k_len' k3 v2.2.2.2.2.2.2.1) (a1 (k_len' k3 v2.2.2.2.2.2.2.2) (a1 (c5 g5) (a1 (show AV.plain (.tup [.agg [.own 0 v4.1.length, .own 1 v4.2.1.length], bA v4.2.2]) = true ∧ allPlain [k53.r 54 (.node [.cell, .cell, .cell]) v4.1, k60.r 61 (.node [.cell, .cell, .cell]) v4.2.1] = true from ⟨rfl, (plR k53 (fun _ => rfl) (plR k60 (fun _ => rfl) pl0))⟩) a0)))))))))) (CD.seq ?_)
 rcases bd_some h with ⟨v6, g7, h⟩
 refine rg [(3, hC (.tup [.agg [.own 0 v6.1.length, .own 1 v6.2.1.length], bA v6.2.2]) [k53.r 54 (.node [.cell, .cell, .cell]) v6.1, k60.r 61 (.node [.cell, .cell, .cell]) v6.2.1] [] [2680, 2681])] [(8, .ref 1008 []), (9, bA v6.2.2)] [(1008, bx (.agg [.own 2680 v6.1.length, .own 2681 v6.2.1.length])), (2681, k60.r 61 (.node [.cell, .cell, .cell]) v6.2.1), (2680, k53.r 54 (.node [.cell, .cell, .cell]) v6.1)] (a1 (k_len' k53 v2.1) (a1 (k_len' k60 v2.2.1) (a1 (k_len' k53 v2.2.2.1) (a1 (k_len' k60 v2.2.2.2.1) (a1 (k_len' k53 v2.2.2.2.2.1) (a1 (k_len' k60 v2.2.2.2.2.2.1) (a1 (k_len' k3 v2.2.2.2.2.2.2.1) (a1 (k_len' k3 v2.2.2.2.2.2.2.2) (a1 (c6 g7) (a1 (show AV.plain (.tup [.agg [.own 0 v6.1.length, .own 1 v6.2.1.length], bA v6.2.2]) = true ∧ allPlain [k53.r 54 (.node [.cell, .cell, .cell]) v6.1, k60.r 61 (.node [.cell, .cell, .cell]) v6.2.1] = true from ⟨rfl, (plR k53 (fun _ => rfl) (plR k60 (fun _ => rfl) pl0))⟩) a0)))))))))) ?_
 refine CD.join (fun (v8 : Unit) => ⟨[(3, .ref 1003 []), (4, .ref 1004 []), (6, .ref 1006 [])], [(2380, k53.r 54 (.node [.cell, .cell, .cell]) v2.1), (2381, k60.r 61 (.node [.cell, .cell, .cell]) v2.2.1), (2382, k53.r 54 (.node [.cell, .cell, .cell]) v2.2.2.1), (2383, k60.r 61 (.node [.cell, .cell, .cell]) v2.2.2.2.1), (2384, k53.r 54 (.node [.cell, .cell, .cell]) v2.2.2.2.2.1), (2385, k60.r 61 (.node [.cell, .cell, .cell]) v2.2.2.2.2.2.1), (2386, k3.r 3 .cell v2.2.2.2.2.2.2.1), (2540, k53.r 54 (.node [.cell, .cell, .cell]) v4.1), (2541, k60.r 61 (.node [.cell, .cell, .cell]) v4.2.1), (1003, bx (.agg [.own 2380 v2.1.length, .own 2381 v2.2.1.length])), (1004, bx (.agg [.agg [.own 2382 v2.2.2.1.length, .own 2383 v2.2.2.2.1.length], .agg [.own 2384 v2.2.2.2.2.1.length, .own 2385 v2.2.2.2.2.2.1.length], .own 2386 v2.2.2.2.2.2.2.1.length])), (1006, bx (.agg [.own 2540 v4.1.length, .own 2541 v4.2.1.length]))]⟩) h (fun u9 h q10 => ?_) (fun v8 h => ?_)
 refine CD.join (fun (v11 : Bool) => ⟨[(3, .ref 1003 []), (4, .ref 1004 []), (6, .ref 1006 []), (7, bA v4.2.2), (8, .ref 1008 []), (9, bA v6.2.2), (49, bA v11)], [(2380, k53.r 54 (.node [.cell, .cell, .cell]) v2.1), (2381, k60.r 61 (.node [.cell, .cell, .cell]) v2.2.1), (2382, k53.r 54 (.node [.cell, .cell, .cell]) v2.2.2.1), (2383, k60.r 61 (.node [.cell, .cell, .cell]) v2.2.2.2.1), (2384, k53.r 54 (.node [.cell, .cell, .cell]) v2.2.2.2.2.1), (2385, k60.r 61 (.node [.cell, .cell, .cell]) v2.2.2.2.2.2.1), (2386, k3.r 3 .cell v2.2.2.2.2.2.2.1), (2540, k53.r 54 (.node [.cell, .cell, .cell]) v4.1), (2541, k60.r 61 (.node [.cell, .cell, .cell]) v4.2.1), (2680, k53.r 54 (.node [.cell, .cell, .cell]) v6.1), (2681, k60.r 61 (.node [.cell, .cell, .cell]) v6.2.1), (1003, bx (.agg [.own 2380 v2.1.length, .own 2381 v2.2.1.length])), (1004, bx (.agg [.agg [.own 2382 v2.2.2.1.length, .own 2383 v2.2.2.2.1.length], .agg [.own 2384 v2.2.2.2.2.1.length, .own 2385 v2.2.2.2.2.2.1.length], .own 2386 v2.2.2.2.2.2.2.1.length])), (1006, bx (.agg [.own 2540 v4.1.length, .own 2541 v4.2.1.length])), (1008, bx (.agg [.own 2680 v6.1.length, .own 2681 v6.2.1.length]))]⟩) h (fun u12 h q13 => ?_) (fun v11 h => ?_)
 rcases if_some h with ⟨g14, h⟩ | ⟨g14, h⟩
 refine rg [(3, hT1)] [(49, bA true)] [] (a1 (oB (c := (!(v4.2.2 == v6.2.2))) g14) a0) ?_
 obtain rfl := sm h
 exact NX.inl (by kernel_rfl)
 rcases bd_some h with ⟨v15, g16, h⟩
 rcases if_some h with ⟨g17, h⟩ | ⟨g17, h⟩
 refine rg [(3, hF1), (6, hC (bA v15) [] [] []), (9, hT1)] [(49, bA true)] [] (a1 (oB (c := (!(v4.2.2 == v6.2.2))) g14) (a1 (k_len' k53 v4.1) (a1 (k_len' k60 v4.2.1) (a1 (k_len' k53 v6.1) (a1 (k_len' k60 v6.2.1) (a1 (c7 g16) (a1 (show AV.plain (bA v15) = true ∧ allPlain [] = true from ⟨rfl, pl0⟩) (a1 (oB (c := (!v15)) g17) a0)))))))) ?_
 obtain rfl := sm h
 exact NX.inl (by kernel_rfl)
 refine rg [(3, hF1), (6, hC (bA v15) [] [] []), (9, hF1)] [(49, bA (!v4.2.2))] [] (a1 (oB (c := (!(v4.2.2 == v6.2.2))) g14) (a1 (k_len' k53 v4.1) (a1 (k_len' k60 v4.2.1) (a1 (k_len' k53 v6.1) (a1 (k_len' k60 v6.2.1) (a1 (c7 g16) (a1 (show AV.plain (bA v15) = true ∧ allPlain [] = true from ⟨rfl, pl0⟩) (a1 (oB (c := (!v15)) g17) a0)))))))) ?_
 obtain rfl := sm h
 exact NX.inl (by kernel_rfl)
 refine br h (fun g18 h => ?_) (fun g18 h => ?_)
 refine CD.seq ?_
 rcases if_some h with ⟨g19, h⟩ | ⟨g19, h⟩
 rcases bd_some h with ⟨v20, g21, h⟩
 refine rg [(3, hT1), (6, hC (bA v20) [] [] [])] [(2, bA v20)] [] (a1 (oB (c := (v4.2.2 == v6.2.2)) g19) (a1 (k_len' k53 v4.1) (a1 (k_len' k60 v4.2.1) (a1 (k_len' k53 v6.1) (a1 (k_len' k60 v6.2.1) (a1 (c7 g21) (a1 (show AV.plain (bA v20) = true ∧ allPlain [] = true from ⟨rfl, pl0⟩) a0))))))) (CD.ret ?_)
 obtain rfl := sm h
 obtain rfl := q10 _ rfl
 exact NX.ret [] a0 (by kernel_rfl)
 refine rg [(3, hF1)] [(2, bA false)] [] (a1 (oB (c := (v4.2.2 == v6.2.2)) g19) a0) (CD.ret ?_)
 obtain rfl := sm h
 obtain rfl := q10 _ rfl
 exact NX.ret [] a0 (by kernel_rfl)
 refine CD.skip ?_
 obtain rfl := sm h
 exact NX.inl (by kernel_rfl)
 refine CD.seq ?_
 rcases bd_some h with ⟨v30, g31, h⟩
 refine NX.fz k60 2383 61 (.node [.cell, .cell, .cell]) v2.2.2.2.1 (NX.fz k53 2382 54 (.node [.cell, .cell, .cell]) v2.2.2.1 (NX.fz k60 2381 61 (.node [.cell, .cell, .cell]) v2.2.1 (NX.fz k53 2380 54 (.node [.cell, .cell, .cell]) v2.1 (rg [(3, hC (.tup [.agg [k23.a v30.1, .own 0 v30.2.1.length], bA v30.2.2]) [k60.r 61 (.node [.cell, .cell, .cell]) v30.2.1] [] [3240])] [(10, .ref 1010 []), (11, bA v30.2.2)] [(1010, bx (.agg [k23.a v30.1, .own 3240 v30.2.1.length])), (3240, k60.r 61 (.node [.cell, .cell, .cell]) v30.2.1)] (a1 (k_len' k53 v2.1) (a1 (k_len' k60 v2.2.1) (a1 (k_len' k53 v2.2.2.1) (a1 (k_len' k60 v2.2.2.2.1) (a1 (c8 g31) a0))))) (CD.seq (rg [] [(12, iA (ln v2.2.2.2.2.2.1))] [] a0 (CD.seq ?_)))))))
 rcases bd_some h with ⟨v34, g35, h⟩
 refine NX.fz k60 2541 61 (.node [.cell, .cell, .cell]) v4.2.1 (rg [(3, hV (k24.a v34))] [(13, .ref 1013 [])] [(1013, bx (.agg [.nils (.node [.cell, .cell, .cell]), k24.a v34]))] (a1 (o_sl k60 (.node [.cell, .cell, .cell]) g35 (k_len' k60 v4.2.1)) a0) (CD.seq ?_))
 rcases if_some h with ⟨g36, h⟩ | ⟨g36, h⟩
 rcases if_some h with ⟨g37, h⟩ | ⟨g37, h⟩
 rcases if_some h with ⟨g38, h⟩ | ⟨g38, h⟩
 rcases bd_some h with ⟨v39, g40, h⟩
 refine rg [(1, hT1), (12, hT1), (26, hT1), (32, hC (bA v39) [] [] [])] [(2, bA v39)] [] (a1 (oB (c := v30.2.2) g36) (a1 (oB (c := ((ln v4.2.1) == (ad (ln v2.2.2.2.2.2.1) (ln v30.2.1)))) g37) (a1 (oB (c := ((ln v4.1) == (ad (ln v2.1) (ln v2.2.2.2.2.1)))) g38) (a1 (k_len' k60 v2.2.2.2.2.2.1) (a1 (c7 g40) (a1 (show AV.plain (bA v39) = true ∧ allPlain [] = true from ⟨rfl, pl0⟩) a0)))))) (CD.ret ?_)
 obtain rfl := sm h
 exact NX.ret [] a0 (by kernel_rfl)
 refine rg [(1, hT1), (12, hT1), (26, hF1)] [(2, bA false)] [] (a1 (oB (c := v30.2.2) g36) (a1 (oB (c := ((ln v4.2.1) == (ad (ln v2.2.2.2.2.2.1) (ln v30.2.1)))) g37) (a1 (oB (c := ((ln v4.1) == (ad (ln v2.1) (ln v2.2.2.2.2.1)))) g38) a0))) (CD.ret ?_)
 obtain rfl := sm h
 exact NX.ret [] a0 (by kernel_rfl)
 refine rg [(1, hT1), (12, hF1)] [(2, bA false)] [] (a1 (oB (c := v30.2.2) g36) (a1 (oB (c := ((ln v4.2.1) == (ad (ln v2.2.2.2.2.2.1) (ln v30.2.1)))) g37) a0)) (CD.ret ?_)
 obtain rfl := sm h
 exact NX.ret [] a0 (by kernel_rfl)
 refine rg [(1, hF1)] [(2, bA false)] [] (a1 (oB (c := v30.2.2) g36) a0) (CD.ret ?_)
 obtain rfl := sm h
 exact NX.ret [] a0 (by kernel_rfl)

end Go.Sep.Y
