/- Part of the proof: mirrors of the functions of this seat, and that the functions give what their mirrors give. -/
import Derived.Test.YtkchimbalpiilaaGreatSepYM8
set_option linter.all false
set_option linter.deprecated false
open Go Go.Sep Go.Proofs
set_option maxRecDepth 100000
namespace Go.Sep.Y
-- f53 spec.l7Pick
def f53 (x0 : T25) (x1 : Int) : Option ((List T53) × (List T60)) :=
 jn (
 iter (fun (v51 : (List T60) × Int) =>
 if (decide (v51.2 < (ln x0.f1))) = true then
 bd (shr .i64 x1 v51.2) fun v55 =>
 if ((band .i64 v55 1) == 1) = true then
 bd (ix x0.f1 v51.2) fun v58 =>
 bd (ap 24 v51.1 ([v58] : List T60)) fun v60 =>
 some (.inl (v60, ad v51.2 1))
 else
 some (.inl (v51.1, ad v51.2 1))
 else
 some (.inr (.inl v51.1))) ([], 0)) fun (v37 : (List T60)) =>
 some ([], v37)
theorem c53 {x0 : T25} {x1 : Int} {r : (List T53) × (List T60)} (h : f53 x0 x1 = some r) :
 FnD cx 53 [k25.a x0, iA x1] [] (.agg [k23.a r.1, .own 0 r.2.length]) [k60.r 61 (.node [.cell, .cell, .cell]) r.2] := by
 unfold f53 at h
 refine fnD_intro (fn := Tryz.f53) (by kernel_rfl) rfl (by kernel_rfl) (by kernel_rfl) fun E => ?_
 refine CD.seq (rg [] [(2, .ref 1002 []), (4, .ref 1004 [])] [(1004, bx (.agg [.nils (.node [.cell, .cell, .cell]), .nils (.node [.cell, .cell, .cell])])), (1002, bx (k25.a x0))] a0 (CD.seq (rg [] [(5, .ref 1005 [])] [(1005, bx (.agg [.nils (.node [.cell, .cell, .cell]), .nils (.node [.cell, .cell, .cell])]))] a0 (NX.own0b 1005 1028 [1] 61 (sh := (.node [.cell, .cell, .cell])) (c := .agg [.nils (.node [.cell, .cell, .cell]), .nils (.node [.cell, .cell, .cell])]) (c' := .agg [.nils (.node [.cell, .cell, .cell]), .own 1028 0]) (by kernel_rfl) (by kernel_rfl) (by kernel_rfl) (by kernel_rfl) (CD.join (fun (v37 : (List T60)) => ⟨[(4, .ref 1004 []), (5, .ref 1005 [])], [(1028, k60.r 61 (.node [.cell, .cell, .cell]) v37), (1004, bx (.agg [.nils (.node [.cell, .cell, .cell]), .nils (.node [.cell, .cell, .cell])])), (1005, bx (.agg [.nils (.node [.cell, .cell, .cell]), .own 1028 v37.length]))]⟩) h (fun u38 h q39 => ?_) (fun v37 h => ?_))))))
 refine CD.seq (rg [] [(6, iA 0)] [] a0 (CD.block (CD.loopK (fun (v51 : (List T60) × Int) => ⟨[(1, iA x1), (2, .ref 1002 []), (4, .ref 1004 []), (5, .ref 1005 []), (6, iA v51.2)], [(1028, k60.r 61 (.node [.cell, .cell, .cell]) v51.1), (1002, bx (k25.a x0)), (1004, bx (.agg [.nils (.node [.cell, .cell, .cell]), .nils (.node [.cell, .cell, .cell])])), (1005, bx (.agg [.nils (.node [.cell, .cell, .cell]), .own 1028 v51.1.length]))]⟩) h (by kernel_rfl) (fun v51 u52 h q53 => ?_))))
 refine CD.seq (CD.seq (rg [(3, hV (iA (ln x0.f1)))] [(12, bA (decide (v51.2 < (ln x0.f1))))] [] (a1 (o_ln k60 x0.f1) a0) (br h (fun g54 h => ?_) (fun g54 h => ?_))))
 refine CD.skip (CD.seq (CD.block (CD.seq ?_)))
 rcases bd_some h with ⟨v55, g56, h⟩
 refine rg [(2, hV (iA v55))] [(19, bA ((band .i64 v55 1) == 1))] [] (a1 (o_shr g56) a0) (br h (fun g57 h => ?_) (fun g57 h => ?_))
 rcases bd_some h with ⟨v58, g59, h⟩
 rcases bd_some h with ⟨v60, g61, h⟩
 refine rg [(0, hD [1005]), (1, hD [1005]), (2, hD [1002]), (3, hD [1002]), (5, hE (k60.x v58)), (8, (hW (.own 1028 v60.length) [(1028, k60.r 61 (.node [.cell, .cell, .cell]) v60)]).g [1028]), (9, hD [1005]), (10, hD [1005])] [] [(1005, bx (.agg [.nils (.node [.cell, .cell, .cell]), .own 1028 v60.length])), (1028, k60.r 61 (.node [.cell, .cell, .cell]) v60)] (a1 (o_ix k60 g59) (a1 (o_ap k60 1028 61 (.node [.cell, .cell, .cell]) g61 trivial) a0)) (NX.blN (rg [] [(6, iA (ad v51.2 1))] [] a0 ?_))
 obtain rfl := sm h
 exact NX.inl (by kernel_rfl)
 refine CD.skip (NX.blN (rg [] [(6, iA (ad v51.2 1))] [] a0 ?_))
 obtain rfl := sm h
 exact NX.inl (by kernel_rfl)
 refine CD.exit ?_
 obtain rfl := sm h
 obtain rfl := q53 _ rfl
 exact NX.th (NX.lq (NX.brk (NX.inl (by kernel_rfl))))
 refine CD.seq (rg [] [] [(1004, bx (.agg [.nils (.node [.cell, .cell, .cell]), .own 1028 v37.length]))] a0 (CD.ret ?_))
 obtain rfl := sm h
 exact NX.ret [1028] a0 (by kernel_rfl)

theorem c53d {x0 : T25} {x1 : Int} {r : (List T53) × (List T60)} (h : f53 x0 x1 = some r) :
 FnD cx 53 [k25.a x0, iA x1] [] (k25.a (⟨r.1, r.2⟩ : T25)) [] :=
 FnD.data (xs := [.agg [k23.a r.1, .own 0 r.2.length]]) (ys := [k25.a (⟨r.1, r.2⟩ : T25)]) (p := True) (q := ((True ∧ ((r.2.length = (k60.m r.2).length) ∧ True)) ∧ True)) (c53 h) [] (by kernel_rfl) (by kernel_rfl) a0 (by kernel_rfl) (a1 (k_len' k60 r.2) a0)


-- f24 spec.l7Frame
def f24 (x0 : T25) (x1 : T25) : Option ((List T53) × (List T60) × Bool) :=
 jn (
 iter (fun (v20 : Int) =>
 bd (shl .i64 1 (ln x0.f1)) fun v23 =>
 if (decide (v20 < v23)) = true then
 bd (f53 x0 v20) fun v26 =>
 bd (f27 x1 (⟨v26.1, v26.2⟩ : T25)) fun v28 =>
 bd (f22 (⟨v28.1, v28.2⟩ : T25)) fun v30 =>
 if v30 = true then
 bd (f54 x0 (⟨v28.1, v28.2⟩ : T25)) fun v33 =>
 if v33 = true then
 some (.inr (.inr (v26.1, v26.2, true)))
 else
 some (.inl (ad v20 1))
 else
 some (.inl (ad v20 1))
 else
 some (.inr (.inl ()))) 0) fun (v1 : Unit) =>
 some ([], [], false)
theorem c24 {x0 : T25} {x1 : T25} {r : (List T53) × (List T60) × Bool} (h : f24 x0 x1 = some r) :
 FnD cx 24 [k25.a x0, k25.a x1] [] (.tup [.agg [k23.a r.1, .own 0 r.2.1.length], bA r.2.2]) [k60.r 61 (.node [.cell, .cell, .cell]) r.2.1] := by
 unfold f24 at h
 refine fnD_intro (fn := Tryz.f24) (by kernel_rfl) rfl (by kernel_rfl) (by kernel_rfl) fun E => ?_
 refine CD.seq (rg [] [(2, .ref 1002 []), (3, .ref 1003 []), (4, .ref 1004 [])] [(1004, bx (.agg [.nils (.node [.cell, .cell, .cell]), .nils (.node [.cell, .cell, .cell])])), (1003, bx (k25.a x1)), (1002, bx (k25.a x0))] a0 (CD.join (fun (v1 : Unit) => ⟨[(4, .ref 1004 [])], [(1004, bx (.agg [.nils (.node [.cell, .cell, .cell]), .nils (.node [.cell, .cell, .cell])]))]⟩) h (fun u2 h q3 => ?_) (fun v1 h => ?_)))
 refine CD.seq (rg [] [(6, iA 0)] [] a0 (CD.block (CD.loopK (fun (v20 : Int) => ⟨[(2, .ref 1002 []), (3, .ref 1003 []), (4, .ref 1004 []), (6, iA v20)], [(1002, bx (k25.a x0)), (1003, bx (k25.a x1)), (1004, bx (.agg [.nils (.node [.cell, .cell, .cell]), .nils (.node [.cell, .cell, .cell])]))]⟩) h (by kernel_rfl) (fun v20 u21 h q22 => ?_))))
 refine CD.seq (CD.seq ?_)
 rcases bd_some h with ⟨v23, g24, h⟩
 refine rg [(3, hV (iA (ln x0.f1))), (4, hV (iA v23))] [(14, bA (decide (v20 < v23)))] [] (a1 (o_ln k60 x0.f1) (a1 (o_shl g24) a0)) (br h (fun g25 h => ?_) (fun g25 h => ?_))
 refine CD.skip (CD.seq (CD.block (CD.seq ?_)))
 rcases bd_some h with ⟨v26, g27, h⟩
 refine rg [(2, hC (.agg [k23.a v26.1, .own 0 v26.2.length]) [k60.r 61 (.node [.cell, .cell, .cell]) v26.2] [] [2380])] [(7, .ref 1007 [])] [(1007, bx (.agg [k23.a v26.1, .own 2380 v26.2.length])), (2380, k60.r 61 (.node [.cell, .cell, .cell]) v26.2)] (a1 (c53 g27) a0) (CD.seq ?_)
 rcases bd_some h with ⟨v28, g29, h⟩
 refine rg [(2, hC (.agg [.own 0 v28.1.length, .own 1 v28.2.length]) [k53.r 54 (.node [.cell, .cell, .cell]) v28.1, k60.r 61 (.node [.cell, .cell, .cell]) v28.2] [] [2440, 2441])] [(8, .ref 1008 [])] [(1008, bx (.agg [.own 2440 v28.1.length, .own 2441 v28.2.length])), (2441, k60.r 61 (.node [.cell, .cell, .cell]) v28.2), (2440, k53.r 54 (.node [.cell, .cell, .cell]) v28.1)] (a1 (k_len' k60 v26.2) (a1 (c27 g29) (a1 (show AV.plain (.agg [.own 0 v28.1.length, .own 1 v28.2.length]) = true ∧ allPlain [k53.r 54 (.node [.cell, .cell, .cell]) v28.1, k60.r 61 (.node [.cell, .cell, .cell]) v28.2] = true from ⟨rfl, (plR k53 (fun _ => rfl) (plR k60 (fun _ => rfl) pl0))⟩) a0))) (CD.seq ?_)
 rcases bd_some h with ⟨v30, g31, h⟩
 rcases if_some h with ⟨g32, h⟩ | ⟨g32, h⟩
 rcases bd_some h with ⟨v33, g34, h⟩
 refine rg [(1, hC (bA v30) [] [] []), (2, hT1), (5, hC (bA v33) [] [] [])] [(29, bA v33)] [] (a1 (k_len' k53 v28.1) (a1 (k_len' k60 v28.2) (a1 (c22 g31) (a1 (show AV.plain (bA v30) = true ∧ allPlain [] = true from ⟨rfl, pl0⟩) (a1 (oB (c := v30) g32) (a1 (k_len' k53 v28.1) (a1 (k_len' k60 v28.2) (a1 (c54 g34) (a1 (show AV.plain (bA v33) = true ∧ allPlain [] = true from ⟨rfl, pl0⟩) a0))))))))) (br h (fun g35 h => ?_) (fun g35 h => ?_))
 refine CD.seq (rg [] [(5, bA true)] [(1004, bx (.agg [k23.a v26.1, .own 2380 v26.2.length]))] a0 (CD.ret ?_))
 obtain rfl := sm h
 obtain rfl := q22 _ rfl
 obtain rfl := q3 _ rfl
 exact NX.ret [2380] a0 (by kernel_rfl)
 refine CD.skip (NX.blN (rg [] [(6, iA (ad v20 1))] [] a0 ?_))
 obtain rfl := sm h
 exact NX.inl (by kernel_rfl)
 refine rg [(1, hC (bA v30) [] [] []), (2, hF1)] [(29, bA false)] [] (a1 (k_len' k53 v28.1) (a1 (k_len' k60 v28.2) (a1 (c22 g31) (a1 (show AV.plain (bA v30) = true ∧ allPlain [] = true from ⟨rfl, pl0⟩) (a1 (oB (c := v30) g32) a0))))) (CD.condF (b := false) (by kernel_rfl) rfl (CD.skip (NX.blN (rg [] [(6, iA (ad v20 1))] [] a0 ?_))))
 obtain rfl := sm h
 exact NX.inl (by kernel_rfl)
 refine CD.exit ?_
 obtain rfl := sm h
 obtain rfl := q22 _ rfl
 exact NX.th (NX.lq (NX.brk (NX.inl (by kernel_rfl))))
 refine CD.seq (rg [] [(5, bA false)] [(1004, bx (.agg [.nils (.node [.cell, .cell, .cell]), .nils (.node [.cell, .cell, .cell])]))] a0 (CD.ret ?_))
 obtain rfl := sm h
 exact NX.own0b 1004 5000 [1] 61 (sh := (.node [.cell, .cell, .cell])) (c := .agg [.nils (.node [.cell, .cell, .cell]), .nils (.node [.cell, .cell, .cell])]) (c' := .agg [.nils (.node [.cell, .cell, .cell]), .own 5000 0]) (by kernel_rfl) (by kernel_rfl) (by kernel_rfl) (by kernel_rfl) (NX.ret [5000] a0 (by kernel_rfl))

theorem c24d {x0 : T25} {x1 : T25} {r : (List T53) × (List T60) × Bool} (h : f24 x0 x1 = some r) :
 FnD cx 24 [k25.a x0, k25.a x1] [] (.tup [k25.a (⟨r.1, r.2.1⟩ : T25), bA r.2.2]) [] :=
 FnD.data (xs := [.agg [k23.a r.1, .own 0 r.2.1.length], bA r.2.2]) (ys := [k25.a (⟨r.1, r.2.1⟩ : T25), bA r.2.2]) (p := True) (q := ((True ∧ ((r.2.1.length = (k60.m r.2.1).length) ∧ True)) ∧ (True ∧ True))) (c24 h) [] (by kernel_rfl) (by kernel_rfl) a0 (by kernel_rfl) (a1 (k_len' k60 r.2.1) a0)


-- f25 spec.l10Busy
def f25 (x0 : (List Int)) : Option ((List Bool)) :=
 bd (mk 1 (false : Bool) 9 9) fun v1 =>
 jn (
 iter (fun (v21 : (List Bool) × Int) =>
 if (decide (v21.2 < (ln x0))) = true then
 bd (ix x0 v21.2) fun v25 =>
 bd (f55 v25) fun v27 =>
 if v27 = true then
 bd (ix x0 v21.2) fun v30 =>
 bd (ix v21.1 v30) fun v32 =>
 bd (st v21.1 v30 true) fun v34 =>
 some (.inl (v34, ad v21.2 1))
 else
 some (.inl (v21.1, ad v21.2 1))
 else
 some (.inr (.inl v21.1))) (v1, 0)) fun (v3 : (List Bool)) =>
 some v3
theorem c25 {x0 : (List Int)} {r : (List Bool)} (h : f25 x0 = some r) :
 FnD cx 25 [k27.a x0] [] (.own 0 r.length) [k4.r 4 .cell r] := by
 unfold f25 at h
 refine fnD_intro (fn := Tryz.f25) (by kernel_rfl) rfl (by kernel_rfl) (by kernel_rfl) fun E => ?_
 refine CD.seq (rg [] [] [] a0 (CD.seq ?_))
 rcases bd_some h with ⟨v1, g2, h⟩
 refine rg [(0, hW (.own 1005 v1.length) [(1005, k4.r 4 .cell v1)])] [(3, .own 1005 v1.length)] [(1005, k4.r 4 .cell v1)] (a1 (o_mk k4 1005 4 .cell g2 trivial) a0) (CD.join (fun (v3 : (List Bool)) => ⟨[(3, .own 1005 v3.length)], [(1005, k4.r 4 .cell v3)]⟩) h (fun u4 h q5 => ?_) (fun v3 h => ?_))
 refine CD.seq (rg [] [(4, iA 0)] [] a0 (CD.block (CD.loopK (fun (v21 : (List Bool) × Int) => ⟨[(0, k27.a x0), (3, .own 1005 v21.1.length), (4, iA v21.2)], [(1005, k4.r 4 .cell v21.1)]⟩) h (by kernel_rfl) (fun v21 u22 h q23 => ?_))))
 refine CD.seq (CD.seq (rg [(2, hV (iA (ln x0)))] [(9, bA (decide (v21.2 < (ln x0))))] [] (a1 (o_ln k3 x0) a0) (br h (fun g24 h => ?_) (fun g24 h => ?_))))
 refine CD.skip (CD.seq (CD.block (CD.seq ?_)))
 rcases bd_some h with ⟨v25, g26, h⟩
 rcases bd_some h with ⟨v27, g28, h⟩
 refine rg [(2, hE (.int .i64 v25)), (4, hC (bA v27) [] [] [])] [(16, bA v27)] [] (a1 (o_ix k3 g26) (a1 (c55 g28) a0)) (br h (fun g29 h => ?_) (fun g29 h => ?_))
 rcases bd_some h with ⟨v30, g31, h⟩
 rcases bd_some h with ⟨v32, g33, h⟩
 rcases bd_some h with ⟨v34, g35, h⟩
 refine rg [(3, hE (.int .i64 v30)), (6, hF (.bool v32) [(1005, k4.r 4 .cell v34)])] [] [(1005, k4.r 4 .cell v34)] (a1 (o_ix k3 g31) (a1 (o_ixr k4 g33) (a1 (o_st k4 (y' := true) 1005 4 .cell g33 g35 (k_len' k4 v21.1)) a0))) ?_
 rw [st_len g35]
 refine NX.blN (rg [] [(4, iA (ad v21.2 1))] [] a0 ?_)
 obtain rfl := sm h
 exact NX.inl (by kernel_rfl)
 refine CD.skip (NX.blN (rg [] [(4, iA (ad v21.2 1))] [] a0 ?_))
 obtain rfl := sm h
 exact NX.inl (by kernel_rfl)
 refine CD.exit ?_
 obtain rfl := sm h
 obtain rfl := q23 _ rfl
 exact NX.th (NX.lq (NX.brk (NX.inl (by kernel_rfl))))
 refine CD.seq (rg [] [(2, .own 1005 v3.length)] [] a0 (CD.ret ?_))
 obtain rfl := sm h
 exact NX.ret [1005] a0 (by kernel_rfl)

theorem c25d {x0 : (List Int)} {r : (List Bool)} (h : f25 x0 = some r) :
 FnD cx 25 [k27.a x0] [] (k62.a r) [] :=
 FnD.data (xs := [.own 0 r.length]) (ys := [k62.a r]) (p := True) (q := ((r.length = (k4.m r).length) ∧ True)) (c25 h) [] (by kernel_rfl) (by kernel_rfl) a0 (by kernel_rfl) (a1 (k_len' k4 r) a0)


-- f56 spec.l10New
def f56 (x0 : T25) (x1 : (List Bool)) : Option (Int × Bool) :=
 bd (f26 x0) fun v1 =>
 jn (
 iter (fun (v16 : Int) =>
 if (decide (v16 ≤ 8)) = true then
 bd (ix v1 v16) fun v20 =>
 if (!v20) = true then
 bd (ix x1 v16) fun v23 =>
 if (!v23) = true then
 some (.inr (.inr (v16, true)))
 else
 some (.inl (ad v16 1))
 else
 some (.inl (ad v16 1))
 else
 some (.inr (.inl ()))) 5) fun (v3 : Unit) =>
 some (0, false)
theorem c56 {x0 : T25} {x1 : (List Bool)} {r : Int × Bool} (h : f56 x0 x1 = some r) :
 FnD cx 56 [k25.a x0, k62.a x1] [] (.tup [iA r.1, bA r.2]) [] := by
 unfold f56 at h
 refine fnD_intro (fn := Tryz.f56) (by kernel_rfl) rfl (by kernel_rfl) (by kernel_rfl) fun E => ?_
 refine CD.seq (rg [] [(2, .ref 1002 [])] [(1002, bx (k25.a x0))] a0 (CD.seq ?_))
 rcases bd_some h with ⟨v1, g2, h⟩
 refine rg [(1, hC (.own 0 v1.length) [k4.r 4 .cell v1] [] [2180])] [(6, .own 2180 v1.length)] [(2180, k4.r 4 .cell v1)] (a1 (c26 g2) a0) (CD.join (fun (v3 : Unit) => ⟨[], []⟩) h (fun u4 h q5 => ?_) (fun v3 h => ?_))
 refine CD.seq (rg [] [(7, iA 5)] [] a0 (CD.block (CD.loopK (fun (v16 : Int) => ⟨[(1, k62.a x1), (6, .own 2180 v1.length), (7, iA v16)], [(2180, k4.r 4 .cell v1)]⟩) h (by kernel_rfl) (fun v16 u17 h q18 => ?_))))
 refine CD.seq (CD.seq (rg [] [(11, bA (decide (v16 ≤ 8)))] [] a0 (br h (fun g19 h => ?_) (fun g19 h => ?_))))
 refine CD.skip (CD.seq (CD.block (CD.seq ?_)))
 rcases bd_some h with ⟨v20, g21, h⟩
 rcases if_some h with ⟨g22, h⟩ | ⟨g22, h⟩
 rcases bd_some h with ⟨v23, g24, h⟩
 refine rg [(3, hE (.bool v20)), (5, hT1), (8, hE (.bool v23))] [(25, bA (!v23))] [] (a1 (o_ixr k4 g21) (a1 (o_ldr k4 g21) (a1 (oB (c := (!v20)) g22) (a1 (o_ix k4 g24) a0)))) (br h (fun g25 h => ?_) (fun g25 h => ?_))
 refine CD.seq (rg [] [(4, iA v16), (5, bA true)] [] a0 (CD.ret ?_))
 obtain rfl := sm h
 obtain rfl := q18 _ rfl
 obtain rfl := q5 _ rfl
 exact NX.ret [] a0 (by kernel_rfl)
 refine CD.skip (NX.blN (rg [] [(7, iA (ad v16 1))] [] a0 ?_))
 obtain rfl := sm h
 exact NX.inl (by kernel_rfl)
 refine rg [(3, hE (.bool v20)), (5, hF1)] [(25, bA false)] [] (a1 (o_ixr k4 g21) (a1 (o_ldr k4 g21) (a1 (oB (c := (!v20)) g22) a0))) (CD.condF (b := false) (by kernel_rfl) rfl (CD.skip (NX.blN (rg [] [(7, iA (ad v16 1))] [] a0 ?_))))
 obtain rfl := sm h
 exact NX.inl (by kernel_rfl)
 refine CD.exit ?_
 obtain rfl := sm h
 obtain rfl := q18 _ rfl
 exact NX.th (NX.lq (NX.brk (NX.inl (by kernel_rfl))))
 refine CD.seq (rg [] [(4, iA 0), (5, bA false)] [] a0 (CD.ret ?_))
 obtain rfl := sm h
 exact NX.ret [] a0 (by kernel_rfl)


-- f73 spec.l3Swap
def f73 (x0 : Int) (x1 : Int) (x2 : Int) : Option (Int) :=
 if (x0 == x1) = true then
 some x2
 else
 some x0
theorem c73 {x0 : Int} {x1 : Int} {x2 : Int} {r : Int} (h : f73 x0 x1 x2 = some r) :
 FnD cx 73 [iA x0, iA x1, iA x2] [] (iA r) [] := by
 unfold f73 at h
 refine fnD_intro (fn := Tryz.f73) (by kernel_rfl) rfl (by kernel_rfl) (by kernel_rfl) fun E => ?_
 refine CD.seq (rg [] [] [] a0 (CD.seq (CD.seq (rg [] [(9, bA (x0 == x1))] [] a0 (br h (fun g1 h => ?_) (fun g1 h => ?_))))))
 refine CD.seq (rg [] [(6, iA x2)] [] a0 (CD.ret ?_))
 obtain rfl := sm h
 exact NX.ret [] a0 (by kernel_rfl)
 refine CD.skip (CD.seq (rg [] [(6, iA x0)] [] a0 (CD.ret ?_)))
 obtain rfl := sm h
 exact NX.ret [] a0 (by kernel_rfl)


-- f57 spec.l3Subst
def f57 (x0 : T25) (x1 : Int) (x2 : Int) : Option ((List T53) × (List T60)) :=
 jn (
 iter (fun (v55 : (List T53) × Int) =>
 if (decide (v55.2 < (ln x0.f0))) = true then
 bd (ix x0.f0 v55.2) fun v59 =>
 bd (f73 v59.f1 x1 x2) fun v61 =>
 bd (f73 v59.f2 x1 x2) fun v63 =>
 bd (ap 24 v55.1 ([(⟨v59.f0, v61, v63⟩ : T53)] : List T53)) fun v65 =>
 some (.inl (v65, ad v55.2 1))
 else
 some (.inr (.inl v55.1))) ([], 0)) fun (v40 : (List T53)) =>
 jn (
 iter (fun (v121 : (List T60) × Int) =>
 if (decide (v121.2 < (ln x0.f1))) = true then
 bd (ix x0.f1 v121.2) fun v125 =>
 bd (f73 v125.f1 x1 x2) fun v127 =>
 bd (f73 v125.f2 x1 x2) fun v129 =>
 bd (ap 24 v121.1 ([(⟨v125.f0, v127, v129⟩ : T60)] : List T60)) fun v131 =>
 some (.inl (v131, ad v121.2 1))
 else
 some (.inr (.inl v121.1))) ([], 0)) fun (v106 : (List T60)) =>
 some (v40, v106)
theorem c57 {x0 : T25} {x1 : Int} {x2 : Int} {r : (List T53) × (List T60)} (h : f57 x0 x1 x2 = some r) :
 FnD cx 57 [k25.a x0, iA x1, iA x2] [] (.agg [.own 0 r.1.length, .own 1 r.2.length]) [k53.r 54 (.node [.cell, .cell, .cell]) r.1, k60.r 61 (.node [.cell, .cell, .cell]) r.2] := by
 unfold f57 at h
 refine fnD_intro (fn := Tryz.f57) (by kernel_rfl) rfl (by kernel_rfl) (by kernel_rfl) fun E => ?_
 refine CD.seq (rg [] [(3, .ref 1003 []), (6, .ref 1006 [])] [(1006, bx (.agg [.nils (.node [.cell, .cell, .cell]), .nils (.node [.cell, .cell, .cell])])), (1003, bx (k25.a x0))] a0 (CD.seq (rg [] [(7, .ref 1007 [])] [(1007, bx (.agg [.nils (.node [.cell, .cell, .cell]), .nils (.node [.cell, .cell, .cell])]))] a0 (NX.own0b 1007 1041 [0] 54 (sh := (.node [.cell, .cell, .cell])) (c := .agg [.nils (.node [.cell, .cell, .cell]), .nils (.node [.cell, .cell, .cell])]) (c' := .agg [.own 1041 0, .nils (.node [.cell, .cell, .cell])]) (by kernel_rfl) (by kernel_rfl) (by kernel_rfl) (by kernel_rfl) (CD.join (fun (v40 : (List T53)) => ⟨[(1, iA x1), (2, iA x2), (3, .ref 1003 []), (6, .ref 1006 []), (7, .ref 1007 [])], [(1041, k53.r 54 (.node [.cell, .cell, .cell]) v40), (1003, bx (k25.a x0)), (1006, bx (.agg [.nils (.node [.cell, .cell, .cell]), .nils (.node [.cell, .cell, .cell])])), (1007, bx (.agg [.own 1041 v40.length, .nils (.node [.cell, .cell, .cell])]))]⟩) h (fun u41 h q42 => ?_) (fun v40 h => ?_))))))
 refine CD.seq (rg [] [(8, iA 0)] [] a0 (CD.block (CD.loopK (fun (v55 : (List T53) × Int) => ⟨[(1, iA x1), (2, iA x2), (3, .ref 1003 []), (6, .ref 1006 []), (7, .ref 1007 []), (8, iA v55.2)], [(1041, k53.r 54 (.node [.cell, .cell, .cell]) v55.1), (1003, bx (k25.a x0)), (1006, bx (.agg [.nils (.node [.cell, .cell, .cell]), .nils (.node [.cell, .cell, .cell])])), (1007, bx (.agg [.own 1041 v55.1.length, .nils (.node [.cell, .cell, .cell])]))]⟩) h (by kernel_rfl) (fun v55 u56 h q57 => ?_))))
 refine CD.seq (CD.seq (rg [(3, hV (iA (ln x0.f0)))] [(17, bA (decide (v55.2 < (ln x0.f0))))] [] (a1 (o_ln k53 x0.f0) a0) (br h (fun g58 h => ?_) (fun g58 h => ?_))))
 refine CD.skip (CD.seq (CD.block (CD.seq ?_)))
 rcases bd_some h with ⟨v59, g60, h⟩
 refine rg [(3, hE (k53.x v59))] [(9, .ref 1009 [])] [(1009, bx (k53.a v59))] (a1 (o_ix k53 g60) a0) ?_
 rcases bd_some h with ⟨v61, g62, h⟩
 rcases bd_some h with ⟨v63, g64, h⟩
 rcases bd_some h with ⟨v65, g66, h⟩
 refine rg [(0, hD [1007]), (1, hD [1007]), (2, hD [1009]), (3, hD [1009]), (4, hD [1009]), (5, hD [1009]), (8, hC (iA v61) [] [] []), (9, hD [1009]), (10, hD [1009]), (13, hC (iA v63) [] [] []), (16, (hW (.own 1041 v65.length) [(1041, k53.r 54 (.node [.cell, .cell, .cell]) v65)]).g [1041]), (17, hD [1007]), (18, hD [1007])] [] [(1007, bx (.agg [.own 1041 v65.length, .nils (.node [.cell, .cell, .cell])])), (1041, k53.r 54 (.node [.cell, .cell, .cell]) v65)] (a1 (c73 g62) (a1 (c73 g64) (a1 (o_ap k53 1041 54 (.node [.cell, .cell, .cell]) g66 trivial) a0))) (NX.blN (rg [] [(8, iA (ad v55.2 1))] [] a0 ?_))
 obtain rfl := sm h
 exact NX.inl (by kernel_rfl)
 refine CD.exit ?_
 obtain rfl := sm h
 obtain rfl := q57 _ rfl
 exact NX.th (NX.lq (NX.brk (NX.inl (by kernel_rfl))))
 refine NX.own0b 1007 1071 [1] 61 (sh := (.node [.cell, .cell, .cell])) (c := .agg [.own 1041 v40.length, .nils (.node [.cell, .cell, .cell])]) (c' := .agg [.own 1041 v40.length, .own 1071 0]) (by kernel_rfl) (by kernel_rfl) (by kernel_rfl) (by kernel_rfl) (CD.join (fun (v106 : (List T60)) => ⟨[(6, .ref 1006 []), (7, .ref 1007 [])], [(1041, k53.r 54 (.node [.cell, .cell, .cell]) v40), (1071, k60.r 61 (.node [.cell, .cell, .cell]) v106), (1006, bx (.agg [.nils (.node [.cell, .cell, .cell]), .nils (.node [.cell, .cell, .cell])])), (1007, bx (.agg [.own 1041 v40.length, .own 1071 v106.length]))]⟩) h (fun u107 h q108 => ?_) (fun v106 h => ?_))
 refine CD.seq (rg [] [(10, iA 0)] [] a0 (CD.block (CD.loopK (fun (v121 : (List T60) × Int) => ⟨[(1, iA x1), (2, iA x2), (3, .ref 1003 []), (6, .ref 1006 []), (7, .ref 1007 []), (10, iA v121.2)], [(1041, k53.r 54 (.node [.cell, .cell, .cell]) v40), (1071, k60.r 61 (.node [.cell, .cell, .cell]) v121.1), (1003, bx (k25.a x0)), (1006, bx (.agg [.nils (.node [.cell, .cell, .cell]), .nils (.node [.cell, .cell, .cell])])), (1007, bx (.agg [.own 1041 v40.length, .own 1071 v121.1.length]))]⟩) h (by kernel_rfl) (fun v121 u122 h q123 => ?_))))
 refine CD.seq (CD.seq (rg [(3, hV (iA (ln x0.f1)))] [(47, bA (decide (v121.2 < (ln x0.f1))))] [] (a1 (o_ln k60 x0.f1) a0) (br h (fun g124 h => ?_) (fun g124 h => ?_))))
 refine CD.skip (CD.seq (CD.block (CD.seq ?_)))
 rcases bd_some h with ⟨v125, g126, h⟩
 refine rg [(3, hE (k60.x v125))] [(11, .ref 1011 [])] [(1011, bx (k60.a v125))] (a1 (o_ix k60 g126) a0) ?_
 rcases bd_some h with ⟨v127, g128, h⟩
 rcases bd_some h with ⟨v129, g130, h⟩
 rcases bd_some h with ⟨v131, g132, h⟩
 refine rg [(0, hD [1007]), (1, hD [1007]), (2, hD [1011]), (3, hD [1011]), (4, hD [1011]), (5, hD [1011]), (8, hC (iA v127) [] [] []), (9, hD [1011]), (10, hD [1011]), (13, hC (iA v129) [] [] []), (16, (hW (.own 1071 v131.length) [(1071, k60.r 61 (.node [.cell, .cell, .cell]) v131)]).g [1071]), (17, hD [1007]), (18, hD [1007])] [] [(1007, bx (.agg [.own 1041 v40.length, .own 1071 v131.length])), (1071, k60.r 61 (.node [.cell, .cell, .cell]) v131)] (a1 (c73 g128) (a1 (c73 g130) (a1 (o_ap k60 1071 61 (.node [.cell, .cell, .cell]) g132 trivial) a0))) (NX.blN (rg [] [(10, iA (ad v121.2 1))] [] a0 ?_))
 obtain rfl := sm h
 exact NX.inl (by kernel_rfl)
 refine CD.exit ?_
 obtain rfl := sm h
 obtain rfl := q123 _ rfl
 exact NX.th (NX.lq (NX.brk (NX.inl (by kernel_rfl))))
 refine CD.seq (rg [] [] [(1006, bx (.agg [.own 1041 v40.length, .own 1071 v106.length]))] a0 (CD.ret ?_))
 obtain rfl := sm h
 exact NX.ret [1041, 1071] a0 (by kernel_rfl)

theorem c57d {x0 : T25} {x1 : Int} {x2 : Int} {r : (List T53) × (List T60)} (h : f57 x0 x1 x2 = some r) :
 FnD cx 57 [k25.a x0, iA x1, iA x2] [] (k25.a (⟨r.1, r.2⟩ : T25)) [] :=
 FnD.data (xs := [.agg [.own 0 r.1.length, .own 1 r.2.length]]) (ys := [k25.a (⟨r.1, r.2⟩ : T25)]) (p := True) (q := (((r.1.length = (k53.m r.1).length) ∧ ((r.2.length = (k60.m r.2).length) ∧ True)) ∧ True)) (c57 h) [] (by kernel_rfl) (by kernel_rfl) a0 (by kernel_rfl) (a1 (k_len' k53 r.1) (a1 (k_len' k60 r.2) a0))


-- f28 spec.l10Forget
def f28 (x0 : T25) (x1 : Int) (x2 : (List Bool)) : Option (T25 × Int × Bool) :=
 bd (f26 x0) fun v1 =>
 bd (ix v1 x1) fun v3 =>
 if (!v3) = true then
 some (x0, x1, true)
 else
 bd (f56 x0 x2) fun v6 =>
 bd (f57 x0 x1 v6.1) fun v8 =>
 some ((⟨v8.1, v8.2⟩ : T25), v6.1, v6.2)
theorem c28 {x0 : T25} {x1 : Int} {x2 : (List Bool)} {r : T25 × Int × Bool} (h : f28 x0 x1 x2 = some r) :
 FnD cx 28 [k25.a x0, iA x1, k62.a x2] [] (.tup [k25.a r.1, iA r.2.1, bA r.2.2]) [] := by
 unfold f28 at h
 refine fnD_intro (fn := Tryz.f28) (by kernel_rfl) rfl (by kernel_rfl) (by kernel_rfl) fun E => ?_
 refine CD.seq (rg [] [(3, .ref 1003 []), (6, .ref 1006 [])] [(1006, bx (.agg [.nils (.node [.cell, .cell, .cell]), .nils (.node [.cell, .cell, .cell])])), (1003, bx (k25.a x0))] a0 (CD.seq (CD.seq ?_)))
 rcases bd_some h with ⟨v1, g2, h⟩
 rcases bd_some h with ⟨v3, g4, h⟩
 refine rg [(1, hC (.own 0 v1.length) [k4.r 4 .cell v1] [] [2240]), (4, hE (.bool v3))] [(16, bA (!v3))] [(2240, k4.r 4 .cell v1)] (a1 (c26 g2) (a1 (o_ixr k4 g4) (a1 (o_ldr k4 g4) a0))) (br h (fun g5 h => ?_) (fun g5 h => ?_))
 refine CD.seq (rg [] [(7, iA x1), (8, bA true)] [(1006, bx (k25.a x0))] a0 (CD.ret ?_))
 obtain rfl := sm h
 exact NX.ret [] a0 (by kernel_rfl)
 refine CD.skip (CD.seq ?_)
 rcases bd_some h with ⟨v6, g7, h⟩
 refine rg [(2, hC (.tup [iA v6.1, bA v6.2]) [] [] [])] [(9, iA v6.1), (10, bA v6.2)] [] (a1 (c56 g7) a0) (CD.seq ?_)
 rcases bd_some h with ⟨v8, g9, h⟩
 refine rg [(3, hC (.agg [.own 0 v8.1.length, .own 1 v8.2.length]) [k53.r 54 (.node [.cell, .cell, .cell]) v8.1, k60.r 61 (.node [.cell, .cell, .cell]) v8.2] [] [2560, 2561])] [(7, iA v6.1), (8, bA v6.2)] [(1006, bx (.agg [.own 2560 v8.1.length, .own 2561 v8.2.length])), (2561, k60.r 61 (.node [.cell, .cell, .cell]) v8.2), (2560, k53.r 54 (.node [.cell, .cell, .cell]) v8.1)] (a1 (c57 g9) a0) (CD.ret ?_)
 obtain rfl := sm h
 exact NX.ret [] (a1 (k_len' k53 v8.1) (a1 (k_len' k60 v8.2) a0)) (by kernel_rfl)


-- f6 spec.CallPost
def f6 (x0 : T25) (x1 : T28) (x2 : (List Int)) : Option ((List T53) × (List T60) × Bool) :=
 jn (
 bd (f22 x0) fun v4 =>
 if (!v4) = true then
 some (.inr ([], [], false))
 else
 bd (f23 x1) fun v7 =>
 if (!v7) = true then
 some (.inr ([], [], false))
 else
 some (.inl ())) fun (v1 : Unit) =>
 bd (f24 x0 x1.f0) fun v10 =>
 if (!v10.2.2) = true then
 some ([], [], false)
 else
 bd (f25 x2) fun v13 =>
 bd (f27 x1.f0 x1.f1) fun v15 =>
 bd (f27 x0 (⟨v15.1, v15.2⟩ : T25)) fun v17 =>
 bd (f26 (⟨v17.1, v17.2⟩ : T25)) fun v19 =>
 jn (
 iter (fun (v41 : (List Bool) × Int) =>
 if (decide (v41.2 ≤ 8)) = true then
 bd (ix v41.1 v41.2) fun v45 =>
 if v45 = true then
 bd (ix v41.1 v41.2) fun v48 =>
 bd (st v41.1 v41.2 true) fun v50 =>
 some (.inl (v50, ad v41.2 1))
 else
 bd (ix v19 v41.2) fun v52 =>
 bd (ix v41.1 v41.2) fun v54 =>
 bd (st v41.1 v41.2 v52) fun v56 =>
 some (.inl (v56, ad v41.2 1))
 else
 some (.inr (.inl v41.1))) (v13, 0)) fun (v21 : (List Bool)) =>
 bd (ap 24 ([] : List T53) x0.f0) fun v58 =>
 jn (
 iter (fun (v123 : (List T53) × (List T60) × Int) =>
 if (decide (v123.2.2 < (ln x1.f2))) = true then
 bd (ix x1.f2 v123.2.2) fun v127 =>
 bd (f28 (⟨v123.1, v123.2.1⟩ : T25) v127 v21) fun v129 =>
 if (!v129.2.2) = true then
 some (.inr (.inr ([], [], false)))
 else
 some (.inl (v129.1.f0, v129.1.f1, ad v123.2.2 1))
 else
 some (.inr (.inl (v123.1, v123.2.1)))) (v58, v10.2.1, 0)) fun (v60 : (List T53) × (List T60)) =>
 bd (f27 (⟨v60.1, v60.2⟩ : T25) (⟨[], []⟩ : T25)) fun v132 =>
 bd (ap 24 v132.1 x1.f1.f0) fun v134 =>
 bd (ap 24 ([] : List T60) x1.f1.f1) fun v136 =>
 bd (ap 24 v136 v60.2) fun v138 =>
 bd (f22 (⟨v134, v138⟩ : T25)) fun v140 =>
 if (!v140) = true then
 some ([], [], false)
 else
 some (v134, v138, true)
theorem c6 {x0 : T25} {x1 : T28} {x2 : (List Int)} {r : (List T53) × (List T60) × Bool} (h : f6 x0 x1 x2 = some r) :
 FnD cx 6 [k25.a x0, k28.a x1, k27.a x2] [] (.tup [.agg [.own 0 r.1.length, .own 1 r.2.1.length], bA r.2.2]) [k53.r 54 (.node [.cell, .cell, .cell]) r.1, k60.r 61 (.node [.cell, .cell, .cell]) r.2.1] := by
 unfold f6 at h
 refine fnD_intro (fn := Tryz.f6) (by kernel_rfl) rfl (by kernel_rfl) (by kernel_rfl) fun E => ?_
 refine CD.seq (rg [] [(3, .ref 1003 []), (4, .ref 1004 []), (6, .ref 1006 [])] [(1006, bx (.agg [.nils (.node [.cell, .cell, .cell]), .nils (.node [.cell, .cell, .cell])])), (1004, bx (k28.a x1)), (1003, bx (k25.a x0))] a0 (CD.join (fun (v1 : Unit) => ⟨[(2, k27.a x2), (3, .ref 1003 []), (4, .ref 1004 []), (6, .ref 1006 [])], [(1003, bx (k25.a x0)), (1004, bx (k28.a x1)), (1006, bx (.agg [.nils (.node [.cell, .cell, .cell]), .nils (.node [.cell, .cell, .cell])]))]⟩) h (fun u2 h q3 => ?_) (fun v1 h => ?_)))
 refine CD.seq ?_
 rcases bd_some h with ⟨v4, g5, h⟩
 rcases if_some h with ⟨g6, h⟩ | ⟨g6, h⟩
 refine rg [(1, hC (bA v4) [] [] []), (3, hT1)] [(26, bA true)] [] (a1 (c22 g5) (a1 (oB (c := (!v4)) g6) a0)) (CD.condT (b := true) (by kernel_rfl) rfl (CD.seq (rg [] [(7, bA false)] [(1006, bx (.agg [.nils (.node [.cell, .cell, .cell]), .nils (.node [.cell, .cell, .cell])]))] a0 (CD.ret ?_))))
 obtain rfl := sm h
 obtain rfl := q3 _ rfl
 exact NX.own0b 1006 5000 [0] 54 (sh := (.node [.cell, .cell, .cell])) (c := .agg [.nils (.node [.cell, .cell, .cell]), .nils (.node [.cell, .cell, .cell])]) (c' := .agg [.own 5000 0, .nils (.node [.cell, .cell, .cell])]) (by kernel_rfl) (by kernel_rfl) (by kernel_rfl) (by kernel_rfl) (NX.own0b 1006 5001 [1] 61 (sh := (.node [.cell, .cell, .cell])) (c := .agg [.own 5000 0, .nils (.node [.cell, .cell, .cell])]) (c' := .agg [.own 5000 0, .own 5001 0]) (by kernel_rfl) (by kernel_rfl) (by kernel_rfl) (by kernel_rfl) (NX.ret [5000, 5001] a0 (by kernel_rfl)))
 rcases bd_some h with ⟨v7, g8, h⟩
 refine rg [(1, hC (bA v4) [] [] []), (3, hF1), (5, hC (bA v7) [] [] [])] [(26, bA (!v7))] [] (a1 (c22 g5) (a1 (oB (c := (!v4)) g6) (a1 (c23 g8) a0))) (br h (fun g9 h => ?_) (fun g9 h => ?_))
 refine CD.seq (rg [] [(7, bA false)] [(1006, bx (.agg [.nils (.node [.cell, .cell, .cell]), .nils (.node [.cell, .cell, .cell])]))] a0 (CD.ret ?_))
 obtain rfl := sm h
 obtain rfl := q3 _ rfl
 exact NX.own0b 1006 5000 [0] 54 (sh := (.node [.cell, .cell, .cell])) (c := .agg [.nils (.node [.cell, .cell, .cell]), .nils (.node [.cell, .cell, .cell])]) (c' := .agg [.own 5000 0, .nils (.node [.cell, .cell, .cell])]) (by kernel_rfl) (by kernel_rfl) (by kernel_rfl) (by kernel_rfl) (NX.own0b 1006 5001 [1] 61 (sh := (.node [.cell, .cell, .cell])) (c := .agg [.own 5000 0, .nils (.node [.cell, .cell, .cell])]) (c' := .agg [.own 5000 0, .own 5001 0]) (by kernel_rfl) (by kernel_rfl) (by kernel_rfl) (by kernel_rfl) (NX.ret [5000, 5001] a0 (by kernel_rfl)))
 refine CD.skip ?_
 obtain rfl := sm h
 exact NX.inl (by kernel_rfl)
 refine CD.seq ?_
 rcases bd_some h with ⟨v10, g11, h⟩
 refine rg [(3, hC (.tup [.agg [k23.a v10.1, .own 0 v10.2.1.length], bA v10.2.2]) [k60.r 61 (.node [.cell, .cell, .cell]) v10.2.1] [] [2640])] [(8, .ref 1008 []), (9, bA v10.2.2)] [(1008, bx (.agg [k23.a v10.1, .own 2640 v10.2.1.length])), (2640, k60.r 61 (.node [.cell, .cell, .cell]) v10.2.1)] (a1 (c24 g11) a0) (CD.seq (CD.seq (rg [] [(36, bA (!v10.2.2))] [] a0 (br h (fun g12 h => ?_) (fun g12 h => ?_)))))
 refine CD.seq (rg [] [(7, bA false)] [(1006, bx (.agg [.nils (.node [.cell, .cell, .cell]), .nils (.node [.cell, .cell, .cell])]))] a0 (CD.ret ?_))
 obtain rfl := sm h
 exact NX.own0b 1006 5000 [0] 54 (sh := (.node [.cell, .cell, .cell])) (c := .agg [.nils (.node [.cell, .cell, .cell]), .nils (.node [.cell, .cell, .cell])]) (c' := .agg [.own 5000 0, .nils (.node [.cell, .cell, .cell])]) (by kernel_rfl) (by kernel_rfl) (by kernel_rfl) (by kernel_rfl) (NX.own0b 1006 5001 [1] 61 (sh := (.node [.cell, .cell, .cell])) (c := .agg [.own 5000 0, .nils (.node [.cell, .cell, .cell])]) (c' := .agg [.own 5000 0, .own 5001 0]) (by kernel_rfl) (by kernel_rfl) (by kernel_rfl) (by kernel_rfl) (NX.ret [5000, 5001] a0 (by kernel_rfl)))
 refine CD.skip (CD.seq ?_)
 rcases bd_some h with ⟨v13, g14, h⟩
 refine rg [(1, hC (.own 0 v13.length) [k4.r 4 .cell v13] [] [2780])] [(10, .own 2780 v13.length)] [(2780, k4.r 4 .cell v13)] (a1 (c25 g14) a0) (CD.seq ?_)
 rcases bd_some h with ⟨v15, g16, h⟩
 rcases bd_some h with ⟨v17, g18, h⟩
 rcases bd_some h with ⟨v19, g20, h⟩
 refine rg [(0, hD [1003]), (1, hD [1004]), (2, hD [1004]), (3, hD [1004]), (4, hD [1004]), (5, hC (.agg [.own 0 v15.1.length, .own 1 v15.2.length]) [k53.r 54 (.node [.cell, .cell, .cell]) v15.1, k60.r 61 (.node [.cell, .cell, .cell]) v15.2] [] [2900, 2901]), (6, (hC (.agg [.own 0 v17.1.length, .own 1 v17.2.length]) [k53.r 54 (.node [.cell, .cell, .cell]) v17.1, k60.r 61 (.node [.cell, .cell, .cell]) v17.2] [] [2920, 2921]).g [2900, 2901]), (7, (hC (.own 0 v19.length) [k4.r 4 .cell v19] [] [2940]).g [2920, 2921])] [(11, .own 2940 v19.length)] [(2940, k4.r 4 .cell v19), (2921, k60.r 61 (.node [.cell, .cell, .cell]) v17.2), (2920, k53.r 54 (.node [.cell, .cell, .cell]) v17.1), (2901, k60.r 61 (.node [.cell, .cell, .cell]) v15.2), (2900, k53.r 54 (.node [.cell, .cell, .cell]) v15.1)] (a1 (c27 g16) (a1 (k_len' k53 v15.1) (a1 (k_len' k60 v15.2) (a1 (c27 g18) (a1 (show AV.plain (.agg [.own 0 v17.1.length, .own 1 v17.2.length]) = true ∧ allPlain [k53.r 54 (.node [.cell, .cell, .cell]) v17.1, k60.r 61 (.node [.cell, .cell, .cell]) v17.2] = true from ⟨rfl, (plR k53 (fun _ => rfl) (plR k60 (fun _ => rfl) pl0))⟩) (a1 (k_len' k53 v17.1) (a1 (k_len' k60 v17.2) (a1 (c26 g20) (a1 (show AV.plain (.own 0 v19.length) = true ∧ allPlain [k4.r 4 .cell v19] = true from ⟨rfl, (plR k4 (fun _ => rfl) pl0)⟩) a0))))))))) ?_
 refine CD.join (fun (v21 : (List Bool)) => ⟨[(3, .ref 1003 []), (4, .ref 1004 []), (6, .ref 1006 []), (8, .ref 1008 []), (10, .own 2780 v21.length)], [(2780, k4.r 4 .cell v21), (2640, k60.r 61 (.node [.cell, .cell, .cell]) v10.2.1), (1003, bx (k25.a x0)), (1004, bx (k28.a x1)), (1006, bx (.agg [.nils (.node [.cell, .cell, .cell]), .nils (.node [.cell, .cell, .cell])])), (1008, bx (.agg [k23.a v10.1, .own 2640 v10.2.1.length]))]⟩) h (fun u22 h q23 => ?_) (fun v21 h => ?_)
 refine CD.seq (rg [] [(12, iA 0)] [] a0 (CD.block (CD.loopK (fun (v41 : (List Bool) × Int) => ⟨[(3, .ref 1003 []), (4, .ref 1004 []), (6, .ref 1006 []), (8, .ref 1008 []), (10, .own 2780 v41.1.length), (11, .own 2940 v19.length), (12, iA v41.2)], [(2640, k60.r 61 (.node [.cell, .cell, .cell]) v10.2.1), (2780, k4.r 4 .cell v41.1), (2940, k4.r 4 .cell v19), (1003, bx (k25.a x0)), (1004, bx (k28.a x1)), (1006, bx (.agg [.nils (.node [.cell, .cell, .cell]), .nils (.node [.cell, .cell, .cell])])), (1008, bx (.agg [k23.a v10.1, .own 2640 v10.2.1.length]))]⟩) h (by kernel_rfl) (fun v41 u42 h q43 => ?_))))
 refine CD.seq (CD.seq (rg [] [(49, bA (decide (v41.2 ≤ 8)))] [] a0 (br h (fun g44 h => ?_) (fun g44 h => ?_))))
 refine CD.skip (CD.seq (CD.block ?_))
 rcases bd_some h with ⟨v45, g46, h⟩
 rcases if_some h with ⟨g47, h⟩ | ⟨g47, h⟩
 rcases bd_some h with ⟨v48, g49, h⟩
 rcases bd_some h with ⟨v50, g51, h⟩
 refine rg [(5, hE (.bool v45)), (6, hT1), (13, hF (.bool v48) [(2780, k4.r 4 .cell v50)])] [] [(2780, k4.r 4 .cell v50)] (a1 (o_ixr k4 g46) (a1 (o_ldr k4 g46) (a1 (oB (c := v45) g47) (a1 (o_ixr k4 g49) (a1 (o_st k4 (y' := true) 2780 4 .cell g49 g51 (k_len' k4 v41.1)) a0))))) ?_
 rw [st_len g51]
 refine NX.blN (rg [] [(12, iA (ad v41.2 1))] [] a0 ?_)
 obtain rfl := sm h
 exact NX.inl (by kernel_rfl)
 rcases bd_some h with ⟨v52, g53, h⟩
 rcases bd_some h with ⟨v54, g55, h⟩
 rcases bd_some h with ⟨v56, g57, h⟩
 refine rg [(5, hE (.bool v45)), (6, hF1), (10, hE (.bool v52)), (13, hF (.bool v54) [(2780, k4.r 4 .cell v56)])] [] [(2780, k4.r 4 .cell v56)] (a1 (o_ixr k4 g46) (a1 (o_ldr k4 g46) (a1 (oB (c := v45) g47) (a1 (o_ixr k4 g53) (a1 (o_ldr k4 g53) (a1 (o_ixr k4 g55) (a1 (o_st k4 (y' := v52) 2780 4 .cell g55 g57 (k_len' k4 v41.1)) a0))))))) ?_
 rw [st_len g57]
 refine NX.blN (rg [] [(12, iA (ad v41.2 1))] [] a0 ?_)
 obtain rfl := sm h
 exact NX.inl (by kernel_rfl)
 refine CD.exit ?_
 obtain rfl := sm h
 obtain rfl := q43 _ rfl
 exact NX.th (NX.lq (NX.brk (NX.inl (by kernel_rfl))))
 refine CD.seq ?_
 rcases bd_some h with ⟨v58, g59, h⟩
 refine rg [(0, hO), (1, hD [1003]), (2, hD [1003]), (3, (hW (.own 1065 v58.length) [(1065, k53.r 54 (.node [.cell, .cell, .cell]) v58)]).g [1065]), (4, hD [1008]), (5, hD [1008]), (8, hD [1013])] [(13, .ref 1013 [])] [(1013, bx (.agg [.own 1065 v58.length, .own 2640 v10.2.1.length])), (1065, k53.r 54 (.node [.cell, .cell, .cell]) v58)] (a1 (o_ap k53 1065 54 (.node [.cell, .cell, .cell]) g59 trivial) a0) (CD.join (fun (v60 : (List T53) × (List T60)) => ⟨[(4, .ref 1004 []), (6, .ref 1006 []), (13, .ref 1013 [])], [(1004, bx (k28.a x1)), (1006, bx (.agg [.nils (.node [.cell, .cell, .cell]), .nils (.node [.cell, .cell, .cell])])), (1013, bx (k25.a (⟨v60.1, v60.2⟩ : T25)))]⟩) h (fun u61 h q62 => ?_) (fun v60 h => ?_))
 refine CD.seq (rg [] [(14, iA 0)] [] a0 (CD.block (NX.fz k4 2780 4 .cell v21 (NX.fz k53 1065 54 (.node [.cell, .cell, .cell]) v58 (NX.fz k60 2640 61 (.node [.cell, .cell, .cell]) v10.2.1 (NX.frzDb 1013 [0] (b := 1065) (ty := 54) (sh := (.node [.cell, .cell, .cell])) (xs := k53.m v58) (c := .agg [.own 1065 v58.length, .own 2640 v10.2.1.length]) (c' := .agg [k23.a v58, .own 2640 v10.2.1.length]) (by kernel_rfl) (by kernel_rfl) (by kernel_rfl) (by kernel_rfl) (k_len' k53 v58) (NX.frzDb 1013 [1] (b := 2640) (ty := 61) (sh := (.node [.cell, .cell, .cell])) (xs := k60.m v10.2.1) (c := .agg [k23.a v58, .own 2640 v10.2.1.length]) (c' := k25.a (⟨v58, v10.2.1⟩ : T25)) (by kernel_rfl) (by kernel_rfl) (by kernel_rfl) (by kernel_rfl) (k_len' k60 v10.2.1) (CD.loopK (fun (v123 : (List T53) × (List T60) × Int) => ⟨[(4, .ref 1004 []), (6, .ref 1006 []), (10, .own 2780 v21.length), (13, .ref 1013 []), (14, iA v123.2.2)], [(2780, k4.z 4 .cell v21), (1004, bx (k28.a x1)), (1006, bx (.agg [.nils (.node [.cell, .cell, .cell]), .nils (.node [.cell, .cell, .cell])])), (1013, bx (k25.a (⟨v123.1, v123.2.1⟩ : T25)))]⟩) h (by kernel_rfl) (fun v123 u124 h q125 => ?_)))))))))
 refine CD.seq (CD.seq (rg [(3, hV (iA (ln x1.f2)))] [(76, bA (decide (v123.2.2 < (ln x1.f2))))] [] (a1 (o_ln k3 x1.f2) a0) (br h (fun g126 h => ?_) (fun g126 h => ?_))))
 refine CD.skip (CD.seq (CD.block (CD.seq ?_)))
 rcases bd_some h with ⟨v127, g128, h⟩
 rcases bd_some h with ⟨v129, g130, h⟩
 refine rg [(0, hD [1013]), (1, hD [1004]), (2, hD [1004]), (4, hE (.int .i64 v127)), (7, (hC (.tup [k25.a v129.1, iA v129.2.1, bA v129.2.2]) [] [] []).g [2780]), (13, hD [1015])] [(15, .ref 1015 []), (17, bA v129.2.2)] [(1015, bx (k25.a v129.1))] (a1 (o_ix k3 g128) (a1 (k_len' k4 v21) (a1 (c28 g130) a0))) (CD.seq (CD.seq (rg [] [(92, bA (!v129.2.2))] [] a0 (br h (fun g131 h => ?_) (fun g131 h => ?_)))))
 refine CD.seq (rg [] [(7, bA false)] [(1006, bx (.agg [.nils (.node [.cell, .cell, .cell]), .nils (.node [.cell, .cell, .cell])]))] a0 (CD.ret ?_))
 obtain rfl := sm h
 obtain rfl := q125 _ rfl
 obtain rfl := q62 _ rfl
 exact NX.own0b 1006 5000 [0] 54 (sh := (.node [.cell, .cell, .cell])) (c := .agg [.nils (.node [.cell, .cell, .cell]), .nils (.node [.cell, .cell, .cell])]) (c' := .agg [.own 5000 0, .nils (.node [.cell, .cell, .cell])]) (by kernel_rfl) (by kernel_rfl) (by kernel_rfl) (by kernel_rfl) (NX.own0b 1006 5001 [1] 61 (sh := (.node [.cell, .cell, .cell])) (c := .agg [.own 5000 0, .nils (.node [.cell, .cell, .cell])]) (c' := .agg [.own 5000 0, .own 5001 0]) (by kernel_rfl) (by kernel_rfl) (by kernel_rfl) (by kernel_rfl) (NX.ret [5000, 5001] a0 (by kernel_rfl)))
 refine CD.skip (rg [] [] [(1013, bx (k25.a v129.1))] a0 (NX.blN (rg [] [(14, iA (ad v123.2.2 1))] [] a0 ?_)))
 obtain rfl := sm h
 exact NX.inl (by kernel_rfl)
 refine CD.exit ?_
 obtain rfl := sm h
 obtain rfl := q125 _ rfl
 exact NX.th (NX.lq (NX.brk (NX.inl (by kernel_rfl))))
 refine CD.seq ?_
 rcases bd_some h with ⟨v132, g133, h⟩
 refine rg [(2, hC (.agg [.own 0 v132.1.length, .own 1 v132.2.length]) [k53.r 54 (.node [.cell, .cell, .cell]) v132.1, k60.r 61 (.node [.cell, .cell, .cell]) v132.2] [] [3940, 3941])] [(18, .ref 1018 [])] [(1018, bx (.agg [.own 3940 v132.1.length, .own 3941 v132.2.length])), (3941, k60.r 61 (.node [.cell, .cell, .cell]) v132.2), (3940, k53.r 54 (.node [.cell, .cell, .cell]) v132.1)] (a1 (c27 g133) a0) (CD.seq ?_)
 rcases bd_some h with ⟨v134, g135, h⟩
 refine rg [(5, hW (.own 3940 v134.length) [(3940, k53.r 54 (.node [.cell, .cell, .cell]) v134)])] [] [(1018, bx (.agg [.own 3940 v134.length, .own 3941 v132.2.length])), (3940, k53.r 54 (.node [.cell, .cell, .cell]) v134)] (a1 (o_ap k53 3940 54 (.node [.cell, .cell, .cell]) g135 trivial) a0) (CD.seq ?_)
 rcases bd_some h with ⟨v136, g137, h⟩
 rcases bd_some h with ⟨v138, g139, h⟩
 refine rg [(0, hO), (1, hD [1004]), (2, hD [1004]), (3, hD [1004]), (4, (hW (.own 1105 v136.length) [(1105, k60.r 61 (.node [.cell, .cell, .cell]) v136)]).g [1105]), (5, hD [1013]), (6, hD [1013]), (7, (hW (.own 1105 v138.length) [(1105, k60.r 61 (.node [.cell, .cell, .cell]) v138)]).g [1105]), (8, hD [1018]), (9, hD [1018])] [] [(1018, bx (.agg [.own 3940 v134.length, .own 1105 v138.length])), (1105, k60.r 61 (.node [.cell, .cell, .cell]) v138)] (a1 (o_ap k60 1105 61 (.node [.cell, .cell, .cell]) g137 trivial) (a1 (o_ap k60 1105 61 (.node [.cell, .cell, .cell]) g139 trivial) a0)) (CD.seq (CD.seq ?_))
 rcases bd_some h with ⟨v140, g141, h⟩
 refine rg [(1, hC (bA v140) [] [] [])] [(116, bA (!v140))] [] (a1 (k_len' k53 v134) (a1 (k_len' k60 v138) (a1 (c22 g141) (a1 (show AV.plain (bA v140) = true ∧ allPlain [] = true from ⟨rfl, pl0⟩) a0)))) (br h (fun g142 h => ?_) (fun g142 h => ?_))
 refine CD.seq (rg [] [(7, bA false)] [(1006, bx (.agg [.nils (.node [.cell, .cell, .cell]), .nils (.node [.cell, .cell, .cell])]))] a0 (CD.ret ?_))
 obtain rfl := sm h
 exact NX.own0b 1006 5000 [0] 54 (sh := (.node [.cell, .cell, .cell])) (c := .agg [.nils (.node [.cell, .cell, .cell]), .nils (.node [.cell, .cell, .cell])]) (c' := .agg [.own 5000 0, .nils (.node [.cell, .cell, .cell])]) (by kernel_rfl) (by kernel_rfl) (by kernel_rfl) (by kernel_rfl) (NX.own0b 1006 5001 [1] 61 (sh := (.node [.cell, .cell, .cell])) (c := .agg [.own 5000 0, .nils (.node [.cell, .cell, .cell])]) (c' := .agg [.own 5000 0, .own 5001 0]) (by kernel_rfl) (by kernel_rfl) (by kernel_rfl) (by kernel_rfl) (NX.ret [5000, 5001] a0 (by kernel_rfl)))
 refine CD.skip (CD.seq (rg [] [(7, bA true)] [(1006, bx (.agg [.own 3940 v134.length, .own 1105 v138.length]))] a0 (CD.ret ?_)))
 obtain rfl := sm h
 exact NX.ret [3940, 1105] a0 (by kernel_rfl)

theorem c6d {x0 : T25} {x1 : T28} {x2 : (List Int)} {r : (List T53) × (List T60) × Bool} (h : f6 x0 x1 x2 = some r) :
 FnD cx 6 [k25.a x0, k28.a x1, k27.a x2] [] (.tup [k25.a (⟨r.1, r.2.1⟩ : T25), bA r.2.2]) [] :=
 FnD.data (xs := [.agg [.own 0 r.1.length, .own 1 r.2.1.length], bA r.2.2]) (ys := [k25.a (⟨r.1, r.2.1⟩ : T25), bA r.2.2]) (p := True) (q := (((r.1.length = (k53.m r.1).length) ∧ ((r.2.1.length = (k60.m r.2.1).length) ∧ True)) ∧ (True ∧ True))) (c6 h) [] (by kernel_rfl) (by kernel_rfl) a0 (by kernel_rfl) (a1 (k_len' k53 r.1) (a1 (k_len' k60 r.2.1) a0))


-- f29 impl.Fact]
def f29 (x0 : (List T53)) (x1 : (List T53)) : Option (Bool) :=
 if ((ln x0) != (ln x1)) = true then
 some false
 else
 jn (
 iter (fun (v14 : Int) =>
 if (decide (v14 < (ln x0))) = true then
 bd (ix x0 v14) fun v18 =>
 bd (ix x1 v14) fun v20 =>
 if (!(v18.f0 == v20.f0 && (v18.f1 == v20.f1 && (v18.f2 == v20.f2 && true)))) = true then
 some (.inr (.inr false))
 else
 some (.inl (ad v14 1))
 else
 some (.inr (.inl ()))) 0) fun (v2 : Unit) =>
 some true
theorem c29 {x0 : (List T53)} {x1 : (List T53)} {r : Bool} (h : f29 x0 x1 = some r) :
 FnD cx 29 [k23.a x0, k23.a x1] [] (bA r) [] := by
 unfold f29 at h
 refine fnD_intro (fn := Tryz.f29) (by kernel_rfl) rfl (by kernel_rfl) (by kernel_rfl) fun E => ?_
 refine CD.seq (rg [] [] [] a0 (CD.seq (CD.seq (rg [(1, hV (iA (ln x0))), (3, hV (iA (ln x1)))] [(11, bA ((ln x0) != (ln x1)))] [] (a1 (o_ln k53 x0) (a1 (o_ln k53 x1) a0)) (br h (fun g1 h => ?_) (fun g1 h => ?_))))))
 refine CD.seq (rg [] [(4, bA false)] [] a0 (CD.ret ?_))
 obtain rfl := sm h
 exact NX.ret [] a0 (by kernel_rfl)
 refine CD.skip (CD.join (fun (v2 : Unit) => ⟨[], []⟩) h (fun u3 h q4 => ?_) (fun v2 h => ?_))
 refine CD.seq (rg [(1, hV (iA (ln x0)))] [(12, k23.a x0), (13, iA (ln x0)), (14, iA 0)] [] (a1 (o_ln k53 x0) a0) (CD.block (CD.loopK (fun (v14 : Int) => ⟨[(1, k23.a x1), (12, k23.a x0), (13, iA (ln x0)), (14, iA v14)], []⟩) h (by kernel_rfl) (fun v14 u15 h q16 => ?_))))
 refine CD.seq (rg [] [(15, bA (decide (v14 < (ln x0))))] [] a0 (CD.seq (br h (fun g17 h => ?_) (fun g17 h => ?_))))
 refine CD.skip (CD.seq (CD.block (CD.seq ?_)))
 rcases bd_some h with ⟨v18, g19, h⟩
 refine rg [(1, hE (k53.x v18))] [(6, .ref 1006 []), (5, iA v14)] [(1006, bx (k53.a v18))] (a1 (o_ix k53 g19) a0) (CD.seq ?_)
 rcases bd_some h with ⟨v20, g21, h⟩
 refine rg [(0, hD [1006]), (3, hE (k53.x v20))] [(24, bA (!(v18.f0 == v20.f0 && (v18.f1 == v20.f1 && (v18.f2 == v20.f2 && true)))))] [] (a1 (o_ix k53 g21) (a1 eqs54 a0)) (br h (fun g22 h => ?_) (fun g22 h => ?_))
 refine CD.seq (rg [] [(4, bA false)] [] a0 (CD.ret ?_))
 obtain rfl := sm h
 obtain rfl := q16 _ rfl
 obtain rfl := q4 _ rfl
 exact NX.ret [] a0 (by kernel_rfl)
 refine CD.skip (NX.blN (rg [] [(14, iA (ad v14 1))] [] a0 ?_))
 obtain rfl := sm h
 exact NX.inl (by kernel_rfl)
 refine CD.exit ?_
 obtain rfl := sm h
 obtain rfl := q16 _ rfl
 exact NX.th (NX.lq (NX.brk (NX.inl (by kernel_rfl))))
 refine CD.seq (rg [] [(4, bA true)] [] a0 (CD.ret ?_))
 obtain rfl := sm h
 exact NX.ret [] a0 (by kernel_rfl)


-- f30 impl.Atom]
def f30 (x0 : (List T60)) (x1 : (List T60)) : Option (Bool) :=
 if ((ln x0) != (ln x1)) = true then
 some false
 else
 jn (
 iter (fun (v14 : Int) =>
 if (decide (v14 < (ln x0))) = true then
 bd (ix x0 v14) fun v18 =>
 bd (ix x1 v14) fun v20 =>
 if (!(v18.f0 == v20.f0 && (v18.f1 == v20.f1 && (v18.f2 == v20.f2 && true)))) = true then
 some (.inr (.inr false))
 else
 some (.inl (ad v14 1))
 else
 some (.inr (.inl ()))) 0) fun (v2 : Unit) =>
 some true
theorem c30 {x0 : (List T60)} {x1 : (List T60)} {r : Bool} (h : f30 x0 x1 = some r) :
 FnD cx 30 [k24.a x0, k24.a x1] [] (bA r) [] := by
 unfold f30 at h
 refine fnD_intro (fn := Tryz.f30) (by kernel_rfl) rfl (by kernel_rfl) (by kernel_rfl) fun E => ?_
 refine CD.seq (rg [] [] [] a0 (CD.seq (CD.seq (rg [(1, hV (iA (ln x0))), (3, hV (iA (ln x1)))] [(11, bA ((ln x0) != (ln x1)))] [] (a1 (o_ln k60 x0) (a1 (o_ln k60 x1) a0)) (br h (fun g1 h => ?_) (fun g1 h => ?_))))))
 refine CD.seq (rg [] [(4, bA false)] [] a0 (CD.ret ?_))
 obtain rfl := sm h
 exact NX.ret [] a0 (by kernel_rfl)
 refine CD.skip (CD.join (fun (v2 : Unit) => ⟨[], []⟩) h (fun u3 h q4 => ?_) (fun v2 h => ?_))
 refine CD.seq (rg [(1, hV (iA (ln x0)))] [(12, k24.a x0), (13, iA (ln x0)), (14, iA 0)] [] (a1 (o_ln k60 x0) a0) (CD.block (CD.loopK (fun (v14 : Int) => ⟨[(1, k24.a x1), (12, k24.a x0), (13, iA (ln x0)), (14, iA v14)], []⟩) h (by kernel_rfl) (fun v14 u15 h q16 => ?_))))
 refine CD.seq (rg [] [(15, bA (decide (v14 < (ln x0))))] [] a0 (CD.seq (br h (fun g17 h => ?_) (fun g17 h => ?_))))
 refine CD.skip (CD.seq (CD.block (CD.seq ?_)))
 rcases bd_some h with ⟨v18, g19, h⟩
 refine rg [(1, hE (k60.x v18))] [(6, .ref 1006 []), (5, iA v14)] [(1006, bx (k60.a v18))] (a1 (o_ix k60 g19) a0) (CD.seq ?_)
 rcases bd_some h with ⟨v20, g21, h⟩
 refine rg [(0, hD [1006]), (3, hE (k60.x v20))] [(24, bA (!(v18.f0 == v20.f0 && (v18.f1 == v20.f1 && (v18.f2 == v20.f2 && true)))))] [] (a1 (o_ix k60 g21) (a1 eqs61 a0)) (br h (fun g22 h => ?_) (fun g22 h => ?_))
 refine CD.seq (rg [] [(4, bA false)] [] a0 (CD.ret ?_))
 obtain rfl := sm h
 obtain rfl := q16 _ rfl
 obtain rfl := q4 _ rfl
 exact NX.ret [] a0 (by kernel_rfl)
 refine CD.skip (NX.blN (rg [] [(14, iA (ad v14 1))] [] a0 ?_))
 obtain rfl := sm h
 exact NX.inl (by kernel_rfl)
 refine CD.exit ?_
 obtain rfl := sm h
 obtain rfl := q16 _ rfl
 exact NX.th (NX.lq (NX.brk (NX.inl (by kernel_rfl))))
 refine CD.seq (rg [] [(4, bA true)] [] a0 (CD.ret ?_))
 obtain rfl := sm h
 exact NX.ret [] a0 (by kernel_rfl)


-- f7 impl.AssertionSame
def f7 (x0 : T25) (x1 : T25) : Option (Bool) :=
 bd (f29 x0.f0 x1.f0) fun v1 =>
 if v1 = true then
 bd (f30 x0.f1 x1.f1) fun v4 =>
 some v4
 else
 some false
theorem c7 {x0 : T25} {x1 : T25} {r : Bool} (h : f7 x0 x1 = some r) :
 FnD cx 7 [k25.a x0, k25.a x1] [] (bA r) [] := by
 unfold f7 at h
 refine fnD_intro (fn := Tryz.f7) (by kernel_rfl) rfl (by kernel_rfl) (by kernel_rfl) fun E => ?_
 refine CD.seq (rg [] [(2, .ref 1002 []), (3, .ref 1003 [])] [(1003, bx (k25.a x1)), (1002, bx (k25.a x0))] a0 (CD.seq ?_))
 rcases bd_some h with ⟨v1, g2, h⟩
 rcases if_some h with ⟨g3, h⟩ | ⟨g3, h⟩
 rcases bd_some h with ⟨v4, g5, h⟩
 refine rg [(4, hC (bA v1) [] [] []), (5, hT1), (10, hC (bA v4) [] [] [])] [(4, bA v4)] [] (a1 (c29 g2) (a1 (oB (c := v1) g3) (a1 (c30 g5) a0))) (CD.ret ?_)
 obtain rfl := sm h
 exact NX.ret [] a0 (by kernel_rfl)
 refine rg [(4, hC (bA v1) [] [] []), (5, hF1)] [(4, bA false)] [] (a1 (c29 g2) (a1 (oB (c := v1) g3) a0)) (CD.ret ?_)
 obtain rfl := sm h
 exact NX.ret [] a0 (by kernel_rfl)

end Go.Sep.Y
