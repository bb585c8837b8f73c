/- Part of the proof: mirrors of the functions of this seat, and that the functions give what their mirrors give. -/
import Derived.Test.YtkchimbalpiilaaGreatSepYM6
set_option linter.all false
set_option linter.deprecated false
open Go Go.Sep Go.Proofs
set_option maxRecDepth 100000
namespace Go.Sep.Y
-- f111 impl.termCase).possible
def f111 (x0 : T25) (x1 : Int) (x2 : (List Int)) : Option (Bool) :=
 jn (
 iter (fun (v15 : Int) =>
 if (decide (v15 < (ln x0.f0))) = true then
 bd (ix x0.f0 v15) fun v19 =>
 if (decide (v19.f1 ≤ x1)) = true then
 if (decide (v19.f2 ≤ x1)) = true then
 bd (f112 v19 x2) fun v23 =>
 if (!v23) = true then
 some (.inr (.inr false))
 else
 some (.inl (ad v15 1))
 else
 some (.inl (ad v15 1))
 else
 some (.inl (ad v15 1))
 else
 some (.inr (.inl ()))) 0) fun (v1 : Unit) =>
 jn (
 iter (fun (v64 : Int × Int) =>
 if (decide (v64.2 < (ln x0.f1))) = true then
 jn (
 bd (ix x0.f1 v64.2) fun v71 =>
 jn (
 if (decide (v71.f1 > x1)) = true then
 some (.inr (.inl v64.1))
 else
 if (decide (v71.f2 > x1)) = true then
 some (.inr (.inl v64.1))
 else
 bd (f113 v71 x2) fun v78 =>
 if (!v78) = true then
 some (.inr (.inl v64.1))
 else
 some (.inl ())) fun (v73 : Unit) =>
 bd (lq 9 x2) fun u83 =>
 bd (ix x2 v71.f1) fun v81 =>
 if (v81 == 0) = true then
 some (.inr (.inr (.inr false)))
 else
 bd (lq 9 x2) fun u88 =>
 bd (ix x2 v71.f1) fun v86 =>
 bd (f46 v64.1 v86) fun v90 =>
 if v90 = true then
 some (.inr (.inr (.inr false)))
 else
 bd (lq 9 x2) fun u95 =>
 bd (ix x2 v71.f1) fun v93 =>
 bd (f45 v64.1 v93) fun v97 =>
 some (.inl v97)) fun (v68 : Int) =>
 some (.inl (v68, ad v64.2 1))
 else
 some (.inr (.inl ()))) (0, 0)) fun (v26 : Unit) =>
 some true
theorem c111 {x0 : T25} {x1 : Int} {x2 : (List Int)} {r : Bool} (h : f111 x0 x1 x2 = some r) :
 FnD cx 111 [.ref 0 [], k25.a x0, iA x1] [bx (k89.a x2)] (bA r) [bx (k89.a x2)] := by
 unfold f111 at h
 refine fnD_intro (fn := Tryz.f111) (by kernel_rfl) rfl (by kernel_rfl) (by kernel_rfl) fun E => ?_
 refine CD.seq (rg [] [(4, .ref 1004 [])] [(1004, bx (k25.a x0))] a0 (CD.join (fun (v1 : Unit) => ⟨[(0, .ref 0 []), (2, iA x1), (4, .ref 1004 [])], [(0, bx (k89.a x2)), (1004, bx (k25.a x0))]⟩) h (fun u2 h q3 => ?_) (fun v1 h => ?_)))
 refine CD.seq (rg [(2, hV (iA (ln x0.f0)))] [(13, k23.a x0.f0), (14, iA (ln x0.f0)), (15, iA 0)] [] (a1 (o_ln k53 x0.f0) a0) (CD.block (CD.loopK (fun (v15 : Int) => ⟨[(0, .ref 0 []), (2, iA x1), (4, .ref 1004 []), (13, k23.a x0.f0), (14, iA (ln x0.f0)), (15, iA v15)], [(0, bx (k89.a x2)), (1004, bx (k25.a x0))]⟩) h (by kernel_rfl) (fun v15 u16 h q17 => ?_))))
 refine CD.seq (rg [] [(16, bA (decide (v15 < (ln x0.f0))))] [] a0 (CD.seq (br h (fun g18 h => ?_) (fun g18 h => ?_))))
 refine CD.skip (CD.seq (CD.block (CD.seq ?_)))
 rcases bd_some h with ⟨v19, g20, h⟩
 refine rg [(0, hE (k53.x v19))] [(8, .ref 1008 [])] [(1008, bx (k53.a v19))] (a1 (o_ix k53 g20) a0) (CD.seq ?_)
 rcases if_some h with ⟨g21, h⟩ | ⟨g21, h⟩
 rcases if_some h with ⟨g22, h⟩ | ⟨g22, h⟩
 rcases bd_some h with ⟨v23, g24, h⟩
 refine rg [(4, hT1), (10, hT1), (13, hC (bA v23) [bx (k89.a x2)] [0] [])] [(34, bA (!v23))] [(0, bx (k89.a x2))] (a1 (oB (c := (decide (v19.f1 ≤ x1))) g21) (a1 (oB (c := (decide (v19.f2 ≤ x1))) g22) (a1 (c112 g24) a0))) (br h (fun g25 h => ?_) (fun g25 h => ?_))
 refine CD.seq (rg [] [(6, bA false)] [] a0 (CD.ret ?_))
 obtain rfl := sm h
 obtain rfl := q17 _ rfl
 obtain rfl := q3 _ rfl
 exact NX.ret [0] a0 (by kernel_rfl)
 refine CD.skip (NX.blN (rg [] [(15, iA (ad v15 1))] [] a0 ?_))
 obtain rfl := sm h
 exact NX.inl (by kernel_rfl)
 refine rg [(4, hT1), (10, hF1)] [(34, bA false)] [] (a1 (oB (c := (decide (v19.f1 ≤ x1))) g21) (a1 (oB (c := (decide (v19.f2 ≤ x1))) g22) a0)) (CD.condF (b := false) (by kernel_rfl) rfl (CD.skip (NX.blN (rg [] [(15, iA (ad v15 1))] [] a0 ?_))))
 obtain rfl := sm h
 exact NX.inl (by kernel_rfl)
 refine rg [(4, hF1)] [(34, bA false)] [] (a1 (oB (c := (decide (v19.f1 ≤ x1))) g21) a0) (CD.condF (b := false) (by kernel_rfl) rfl (CD.skip (NX.blN (rg [] [(15, iA (ad v15 1))] [] a0 ?_))))
 obtain rfl := sm h
 exact NX.inl (by kernel_rfl)
 refine CD.exit ?_
 obtain rfl := sm h
 obtain rfl := q17 _ rfl
 exact NX.th (NX.lq (NX.brk (NX.inl (by kernel_rfl))))
 refine CD.seq (rg [] [(9, k48.a 0)] [] a0 (CD.join (fun (v26 : Unit) => ⟨[], [(0, bx (k89.a x2))]⟩) h (fun u27 h q28 => ?_) (fun v26 h => ?_)))
 refine CD.seq (rg [(2, hV (iA (ln x0.f1)))] [(37, k24.a x0.f1), (38, iA (ln x0.f1)), (39, iA 0)] [] (a1 (o_ln k60 x0.f1) a0) (CD.block (CD.loopK (fun (v64 : Int × Int) => ⟨[(0, .ref 0 []), (2, iA x1), (9, k48.a v64.1), (37, k24.a x0.f1), (38, iA (ln x0.f1)), (39, iA v64.2)], [(0, bx (k89.a x2))]⟩) h (by kernel_rfl) (fun v64 u65 h q66 => ?_))))
 refine CD.seq (rg [] [(40, bA (decide (v64.2 < (ln x0.f1))))] [] a0 (CD.seq (br h (fun g67 h => ?_) (fun g67 h => ?_))))
 refine CD.skip (CD.join (fun (v68 : Int) => ⟨[(0, .ref 0 []), (2, iA x1), (9, k48.a v68), (37, k24.a x0.f1), (38, iA (ln x0.f1)), (39, iA v64.2)], [(0, bx (k89.a x2))]⟩) h (fun u69 h q70 => ?_) (fun v68 h => ?_))
 refine CD.block (CD.seq ?_)
 rcases bd_some h with ⟨v71, g72, h⟩
 refine rg [(0, hE (k60.x v71))] [(11, .ref 1011 [])] [(1011, bx (k60.a v71))] (a1 (o_ix k60 g72) a0) (CD.join (fun (v73 : Unit) => ⟨[(0, .ref 0 []), (2, iA x1), (9, k48.a v64.1), (11, .ref 1011 []), (37, k24.a x0.f1), (38, iA (ln x0.f1)), (39, iA v64.2)], [(0, bx (k89.a x2)), (1011, bx (k60.a v71))]⟩) h (fun u74 h q75 => ?_) (fun v73 h => ?_))
 refine CD.seq ?_
 rcases if_some h with ⟨g76, h⟩ | ⟨g76, h⟩
 refine rg [(4, hT1)] [(58, bA true)] [] (a1 (oB (c := (decide (v71.f1 > x1))) g76) a0) (CD.condT (b := true) (by kernel_rfl) rfl (CD.exit ?_))
 obtain rfl := sm h
 obtain rfl := q75 _ rfl
 exact NX.lq (NX.brk (NX.inl (by kernel_rfl)))
 rcases if_some h with ⟨g77, h⟩ | ⟨g77, h⟩
 refine rg [(4, hF1), (10, hT1)] [(58, bA true)] [] (a1 (oB (c := (decide (v71.f1 > x1))) g76) (a1 (oB (c := (decide (v71.f2 > x1))) g77) a0)) (CD.condT (b := true) (by kernel_rfl) rfl (CD.exit ?_))
 obtain rfl := sm h
 obtain rfl := q75 _ rfl
 exact NX.lq (NX.brk (NX.inl (by kernel_rfl)))
 rcases bd_some h with ⟨v78, g79, h⟩
 refine rg [(4, hF1), (10, hF1), (13, hC (bA v78) [bx (k89.a x2)] [0] [])] [(58, bA (!v78))] [(0, bx (k89.a x2))] (a1 (oB (c := (decide (v71.f1 > x1))) g76) (a1 (oB (c := (decide (v71.f2 > x1))) g77) (a1 (c113 g79) a0))) (br h (fun g80 h => ?_) (fun g80 h => ?_))
 refine CD.exit ?_
 obtain rfl := sm h
 obtain rfl := q75 _ rfl
 exact NX.lq (NX.brk (NX.inl (by kernel_rfl)))
 refine CD.skip ?_
 obtain rfl := sm h
 exact NX.inl (by kernel_rfl)
 refine CD.seq (CD.seq ?_)
 rcases bd_some h with ⟨u83, g84, h⟩
 rcases bd_some h with ⟨v81, g82, h⟩
 rcases if_some h with ⟨g85, h⟩ | ⟨g85, h⟩
 refine rg [(1, hD [1011]), (2, hD [1011]), (4, hD [0]), (5, (hI (iA v81)).g [0]), (7, hT1)] [(75, bA true)] [] (a1 (o_ixA g82 (lq_some g84)) (a1 (show AV.get [v71.f1.toNat] (k89.a x2) = some (iA v81) from o_gtA k3 g82) (a1 (oB (c := (v81 == 0)) g85) a0))) (CD.condT (b := true) (by kernel_rfl) rfl (CD.seq (rg [] [(6, bA false)] [] a0 (CD.ret ?_))))
 obtain rfl := sm h
 obtain rfl := q70 _ rfl
 obtain rfl := q66 _ rfl
 obtain rfl := q28 _ rfl
 exact NX.ret [0] a0 (by kernel_rfl)
 rcases bd_some h with ⟨u88, g89, h⟩
 rcases bd_some h with ⟨v86, g87, h⟩
 rcases bd_some h with ⟨v90, g91, h⟩
 refine rg [(1, hD [1011]), (2, hD [1011]), (4, hD [0]), (5, (hI (iA v81)).g [0]), (7, hF1), (10, hD [1011]), (11, hD [1011]), (13, hD [0]), (14, (hI (iA v86)).g [0]), (15, hC (bA v90) [] [] [])] [(75, bA v90)] [] (a1 (o_ixA g82 (lq_some g84)) (a1 (show AV.get [v71.f1.toNat] (k89.a x2) = some (iA v81) from o_gtA k3 g82) (a1 (oB (c := (v81 == 0)) g85) (a1 (o_ixA g87 (lq_some g89)) (a1 (show AV.get [v71.f1.toNat] (k89.a x2) = some (iA v86) from o_gtA k3 g87) (a1 (c46 g91) a0)))))) (br h (fun g92 h => ?_) (fun g92 h => ?_))
 refine CD.seq (rg [] [(6, bA false)] [] a0 (CD.ret ?_))
 obtain rfl := sm h
 obtain rfl := q70 _ rfl
 obtain rfl := q66 _ rfl
 obtain rfl := q28 _ rfl
 exact NX.ret [0] a0 (by kernel_rfl)
 refine CD.skip ?_
 rcases bd_some h with ⟨u95, g96, h⟩
 rcases bd_some h with ⟨v93, g94, h⟩
 rcases bd_some h with ⟨v97, g98, h⟩
 refine rg [(2, hD [1011]), (3, hD [1011]), (5, hD [0]), (6, (hI (iA v93)).g [0]), (7, hC (k48.a v97) [] [] [])] [(9, k48.a v97)] [] (a1 (o_ixA g94 (lq_some g96)) (a1 (show AV.get [v71.f1.toNat] (k89.a x2) = some (iA v93) from o_gtA k3 g94) (a1 (c45 g98) a0))) ?_
 obtain rfl := sm h
 exact NX.blN (NX.inl (by kernel_rfl))
 refine rg [] [(39, iA (ad v64.2 1))] [] a0 ?_
 obtain rfl := sm h
 exact NX.inl (by kernel_rfl)
 refine CD.exit ?_
 obtain rfl := sm h
 obtain rfl := q66 _ rfl
 exact NX.th (NX.lq (NX.brk (NX.inl (by kernel_rfl))))
 refine CD.seq (rg [] [(6, bA true)] [] a0 (CD.ret ?_))
 obtain rfl := sm h
 exact NX.ret [0] a0 (by kernel_rfl)


-- f74 impl.possibleCases
def f74 (x0 : T25) (x1 : Int) : Option (T25 × Int) :=
 bd (f17 x0) fun v1 =>
 bd (f45 v1 0) fun v3 =>
 some (x0, bor .u16 v3 x1)
theorem c74 {x0 : T25} {x1 : Int} {r : T25 × Int} (h : f74 x0 x1 = some r) :
 FnD cx 74 [k25.a x0, k48.a x1] [] (.fn 92 [.ref 0 [], .ref 1 []]) [bx (k25.a r.1), bx (k48.a r.2)] := by
 unfold f74 at h
 refine fnD_intro (fn := Tryz.f74) (by kernel_rfl) rfl (by kernel_rfl) (by kernel_rfl) fun E => ?_
 refine CD.seq (rg [] [(2, .ref 1002 [])] [(1002, bx (k25.a x0))] a0 (CD.seq ?_))
 rcases bd_some h with ⟨v1, g2, h⟩
 rcases bd_some h with ⟨v3, g4, h⟩
 refine rg [(1, hC (k48.a v1) [] [] []), (2, hC (k48.a v3) [] [] [])] [(5, .ref 1005 [])] [(1005, bx (k48.a (bor .u16 v3 x1)))] (a1 (c17 g2) (a1 (c45 g4) a0)) (CD.seq (rg [] [(4, .fn 92 [.ref 1002 [], .ref 1005 []])] [] a0 (CD.ret ?_)))
 obtain rfl := sm h
 exact NX.ret [1002, 1005] a0 (by kernel_rfl)


-- f94 impl.termCase).factsHold
def f94 (x0 : (List T53)) (x1 : (List Int)) : Option (Bool) :=
 jn (
 iter (fun (v13 : Int) =>
 if (decide (v13 < (ln x0))) = true then
 bd (ix x0 v13) fun v17 =>
 bd (f112 v17 x1) fun v19 =>
 if (!v19) = true then
 some (.inr (.inr false))
 else
 some (.inl (ad v13 1))
 else
 some (.inr (.inl ()))) 0) fun (v1 : Unit) =>
 some true
theorem c94 {x0 : (List T53)} {x1 : (List Int)} {r : Bool} (h : f94 x0 x1 = some r) :
 FnD cx 94 [.ref 0 [], k23.a x0] [bx (k89.a x1)] (bA r) [bx (k89.a x1)] := by
 unfold f94 at h
 refine fnD_intro (fn := Tryz.f94) (by kernel_rfl) rfl (by kernel_rfl) (by kernel_rfl) fun E => ?_
 refine CD.seq (rg [] [] [] a0 (CD.join (fun (v1 : Unit) => ⟨[], [(0, bx (k89.a x1))]⟩) h (fun u2 h q3 => ?_) (fun v1 h => ?_)))
 refine CD.seq (rg [(1, hV (iA (ln x0)))] [(7, k23.a x0), (8, iA (ln x0)), (9, iA 0)] [] (a1 (o_ln k53 x0) a0) (CD.block (CD.loopK (fun (v13 : Int) => ⟨[(0, .ref 0 []), (7, k23.a x0), (8, iA (ln x0)), (9, iA v13)], [(0, bx (k89.a x1))]⟩) h (by kernel_rfl) (fun v13 u14 h q15 => ?_))))
 refine CD.seq (rg [] [(10, bA (decide (v13 < (ln x0))))] [] a0 (CD.seq (br h (fun g16 h => ?_) (fun g16 h => ?_))))
 refine CD.skip (CD.seq (CD.block (CD.seq ?_)))
 rcases bd_some h with ⟨v17, g18, h⟩
 refine rg [(0, hE (k53.x v17))] [(6, .ref 1006 [])] [(1006, bx (k53.a v17))] (a1 (o_ix k53 g18) a0) (CD.seq ?_)
 rcases bd_some h with ⟨v19, g20, h⟩
 refine rg [(2, hC (bA v19) [bx (k89.a x1)] [0] [])] [(16, bA (!v19))] [(0, bx (k89.a x1))] (a1 (c112 g20) a0) (br h (fun g21 h => ?_) (fun g21 h => ?_))
 refine CD.seq (rg [] [(4, bA false)] [] a0 (CD.ret ?_))
 obtain rfl := sm h
 obtain rfl := q15 _ rfl
 obtain rfl := q3 _ rfl
 exact NX.ret [0] a0 (by kernel_rfl)
 refine CD.skip (NX.blN (rg [] [(9, iA (ad v13 1))] [] a0 ?_))
 obtain rfl := sm h
 exact NX.inl (by kernel_rfl)
 refine CD.exit ?_
 obtain rfl := sm h
 obtain rfl := q15 _ rfl
 exact NX.th (NX.lq (NX.brk (NX.inl (by kernel_rfl))))
 refine CD.seq (rg [] [(4, bA true)] [] a0 (CD.ret ?_))
 obtain rfl := sm h
 exact NX.ret [0] a0 (by kernel_rfl)


-- f95 impl.termCase).filled
def f95 (x0 : (List T60)) (x1 : (List Int)) : Option ((List T60)) :=
 jn (
 iter (fun (v83 : (List T60) × Int) =>
 if (decide (v83.2 < (ln x0))) = true then
 bd (ix x0 v83.2) fun v87 =>
 bd (f113 v87 x1) fun v89 =>
 if v89 = true then
 bd (lq 9 x1) fun u94 =>
 bd (ix x1 v87.f1) fun v92 =>
 bd (lq 9 x1) fun u98 =>
 bd (ix x1 v87.f2) fun v96 =>
 bd (ap 24 v83.1 ([(⟨v87.f0, v92, v96⟩ : T60)] : List T60)) fun v100 =>
 some (.inl (v100, ad v83.2 1))
 else
 some (.inl (v83.1, ad v83.2 1))
 else
 some (.inr (.inl v83.1))) ([], 0)) fun (v61 : (List T60)) =>
 some v61
theorem c95 {x0 : (List T60)} {x1 : (List Int)} {r : (List T60)} (h : f95 x0 x1 = some r) :
 FnD cx 95 [.ref 0 [], k24.a x0] [bx (k89.a x1)] (.own 1 r.length) [bx (k89.a x1), k60.r 61 (.node [.cell, .cell, .cell]) r] := by
 unfold f95 at h
 refine fnD_intro (fn := Tryz.f95) (by kernel_rfl) rfl (by kernel_rfl) (by kernel_rfl) fun E => ?_
 refine CD.seq (rg [] [] [] a0 (CD.seq (rg [] [(5, .nils (.node [.cell, .cell, .cell]))] [] a0 (NX.own0 5 1034 61 (sh := (.node [.cell, .cell, .cell])) (by kernel_rfl) (by kernel_rfl) (CD.join (fun (v61 : (List T60)) => ⟨[(5, .own 1034 v61.length)], [(1034, k60.r 61 (.node [.cell, .cell, .cell]) v61), (0, bx (k89.a x1))]⟩) h (fun u62 h q63 => ?_) (fun v61 h => ?_))))))
 refine CD.seq (rg [(1, hV (iA (ln x0)))] [(8, k24.a x0), (9, iA (ln x0)), (10, iA 0)] [] (a1 (o_ln k60 x0) a0) (CD.block (CD.loopK (fun (v83 : (List T60) × Int) => ⟨[(0, .ref 0 []), (5, .own 1034 v83.1.length), (8, k24.a x0), (9, iA (ln x0)), (10, iA v83.2)], [(1034, k60.r 61 (.node [.cell, .cell, .cell]) v83.1), (0, bx (k89.a x1))]⟩) h (by kernel_rfl) (fun v83 u84 h q85 => ?_))))
 refine CD.seq (rg [] [(11, bA (decide (v83.2 < (ln x0))))] [] a0 (CD.seq (br h (fun g86 h => ?_) (fun g86 h => ?_))))
 refine CD.skip (CD.seq (CD.block (CD.seq ?_)))
 rcases bd_some h with ⟨v87, g88, h⟩
 refine rg [(0, hE (k60.x v87))] [(7, .ref 1007 [])] [(1007, bx (k60.a v87))] (a1 (o_ix k60 g88) a0) (CD.seq ?_)
 rcases bd_some h with ⟨v89, g90, h⟩
 refine rg [(2, hC (bA v89) [bx (k89.a x1)] [0] [])] [(16, bA v89)] [(0, bx (k89.a x1))] (a1 (c113 g90) a0) (br h (fun g91 h => ?_) (fun g91 h => ?_))
 rcases bd_some h with ⟨u94, g95, h⟩
 rcases bd_some h with ⟨v92, g93, h⟩
 rcases bd_some h with ⟨u98, g99, h⟩
 rcases bd_some h with ⟨v96, g97, h⟩
 rcases bd_some h with ⟨v100, g101, h⟩
 refine rg [(1, hD [1007]), (2, hD [1007]), (4, hD [1007]), (5, hD [1007]), (7, hD [0]), (8, (hI (iA v92)).g [0]), (10, hD [1007]), (11, hD [1007]), (13, hD [0]), (14, (hI (iA v96)).g [0]), (17, (hW (.own 1034 v100.length) [(1034, k60.r 61 (.node [.cell, .cell, .cell]) v100)]).g [1034])] [(5, .own 1034 v100.length)] [(1034, k60.r 61 (.node [.cell, .cell, .cell]) v100)] (a1 (o_ixA g93 (lq_some g95)) (a1 (show AV.get [v87.f1.toNat] (k89.a x1) = some (iA v92) from o_gtA k3 g93) (a1 (o_ixA g97 (lq_some g99)) (a1 (show AV.get [v87.f2.toNat] (k89.a x1) = some (iA v96) from o_gtA k3 g97) (a1 (o_ap k60 1034 61 (.node [.cell, .cell, .cell]) g101 trivial) a0))))) (NX.blN (rg [] [(10, iA (ad v83.2 1))] [] a0 ?_))
 obtain rfl := sm h
 exact NX.inl (by kernel_rfl)
 refine CD.skip (NX.blN (rg [] [(10, iA (ad v83.2 1))] [] a0 ?_))
 obtain rfl := sm h
 exact NX.inl (by kernel_rfl)
 refine CD.exit ?_
 obtain rfl := sm h
 obtain rfl := q85 _ rfl
 exact NX.th (NX.lq (NX.brk (NX.inl (by kernel_rfl))))
 refine CD.seq (rg [] [(4, .own 1034 v61.length)] [] a0 (CD.ret ?_))
 obtain rfl := sm h
 exact NX.ret [0, 1034] a0 (by kernel_rfl)

theorem c95d {x0 : (List T60)} {x1 : (List Int)} {r : (List T60)} (h : f95 x0 x1 = some r) :
 FnD cx 95 [.ref 0 [], k24.a x0] [bx (k89.a x1)] (k24.a r) [bx (k89.a x1)] :=
 FnD.data (xs := [.own 1 r.length]) (ys := [k24.a r]) (p := (True ∧ True)) (q := ((r.length = (k60.m r).length) ∧ True)) (c95 h) [0] (by kernel_rfl) (by kernel_rfl) a0 (by kernel_rfl) (a1 (k_len' k60 r) a0)


-- f114 impl.caseMatch).unusedAt
def f114 (x0 : Int) (x1 : T137) : Option (Int × Bool) :=
 jn (
 iter (fun (v16 : Int) =>
 if (decide (v16 < (ln x1.f0))) = true then
 bd (ix x1.f0 v16) fun v20 =>
 if (v20.f1 == x0) = true then
 bd (lq 6 x1.f1) fun u25 =>
 bd (ix x1.f1 v16) fun v23 =>
 if (!v23) = true then
 some (.inr (.inr (v16, true)))
 else
 some (.inl (ad v16 1))
 else
 some (.inl (ad v16 1))
 else
 some (.inr (.inl ()))) 0) fun (v1 : Unit) =>
 some (0, false)
theorem c114 {x0 : Int} {x1 : T137} {r : Int × Bool} (h : f114 x0 x1 = some r) :
 FnD cx 114 [.ref 0 [], iA x0] [bx (k137.a x1)] (.tup [iA r.1, bA r.2]) [bx (k137.a x1)] := by
 unfold f114 at h
 refine fnD_intro (fn := Tryz.f114) (by kernel_rfl) rfl (by kernel_rfl) (by kernel_rfl) fun E => ?_
 refine CD.seq (rg [] [] [] a0 (CD.join (fun (v1 : Unit) => ⟨[], [(0, bx (k137.a x1))]⟩) h (fun u2 h q3 => ?_) (fun v1 h => ?_)))
 refine CD.seq (rg [(4, hV (iA (ln x1.f0)))] [(11, k24.a x1.f0), (12, iA (ln x1.f0)), (13, iA 0)] [] (a1 (o_ln k60 x1.f0) a0) (CD.block (CD.loopK (fun (v16 : Int) => ⟨[(0, .ref 0 []), (1, iA x0), (11, k24.a x1.f0), (12, iA (ln x1.f0)), (13, iA v16)], [(0, bx (k137.a x1))]⟩) h (by kernel_rfl) (fun v16 u17 h q18 => ?_))))
 refine CD.seq (rg [] [(14, bA (decide (v16 < (ln x1.f0))))] [] a0 (CD.seq (br h (fun g19 h => ?_) (fun g19 h => ?_))))
 refine CD.skip (CD.seq (CD.block (CD.seq ?_)))
 rcases bd_some h with ⟨v20, g21, h⟩
 refine rg [(1, hE (k60.x v20))] [(7, .ref 1007 []), (6, iA v16)] [(1007, bx (k60.a v20))] (a1 (o_ix k60 g21) a0) (CD.seq ?_)
 rcases if_some h with ⟨g22, h⟩ | ⟨g22, h⟩
 rcases bd_some h with ⟨u25, g26, h⟩
 rcases bd_some h with ⟨v23, g24, h⟩
 refine rg [(4, hT1), (10, hI (bA v23))] [(30, bA (!v23))] [] (a1 (oB (c := (v20.f1 == x0)) g22) (a1 (o_ixA g24 (lq_some g26)) (a1 (show AV.get [1, v16.toNat] (k137.a x1) = some (bA v23) from get_k (c := k137.a x1) (a := k136.a x1.f1) (i := 1) (by kernel_rfl) (o_gtA k4 g24)) a0))) (br h (fun g27 h => ?_) (fun g27 h => ?_))
 refine CD.seq (rg [] [(4, iA v16), (5, bA true)] [] a0 (CD.ret ?_))
 obtain rfl := sm h
 obtain rfl := q18 _ rfl
 obtain rfl := q3 _ rfl
 exact NX.ret [0] a0 (by kernel_rfl)
 refine CD.skip (NX.blN (rg [] [(13, iA (ad v16 1))] [] a0 ?_))
 obtain rfl := sm h
 exact NX.inl (by kernel_rfl)
 refine rg [(4, hF1)] [(30, bA false)] [] (a1 (oB (c := (v20.f1 == x0)) g22) a0) (CD.condF (b := false) (by kernel_rfl) rfl (CD.skip (NX.blN (rg [] [(13, iA (ad v16 1))] [] a0 ?_))))
 obtain rfl := sm h
 exact NX.inl (by kernel_rfl)
 refine CD.exit ?_
 obtain rfl := sm h
 obtain rfl := q18 _ rfl
 exact NX.th (NX.lq (NX.brk (NX.inl (by kernel_rfl))))
 refine CD.seq (rg [] [(4, iA 0), (5, bA false)] [] a0 (CD.ret ?_))
 obtain rfl := sm h
 exact NX.ret [0] a0 (by kernel_rfl)


-- f115 impl.caseMatch).take
def f115 (x0 : Int) (x1 : T137) : Option (T137) :=
 bd (lq 6 x1.f1) fun u3 =>
 bd (ix x1.f1 x0) fun v1 =>
 bd (st x1.f1 x0 true) fun v5 =>
 some (⟨x1.f0, v5, ad x1.f2 1⟩ : T137)
theorem c115 {x0 : Int} {x1 : T137} {r : T137} (h : f115 x0 x1 = some r) :
 FnD cx 115 [.ref 0 [], iA x0] [bx (k137.a x1)] (.tup []) [bx (k137.a r)] := by
 unfold f115 at h
 refine fnD_intro (fn := Tryz.f115) (by kernel_rfl) rfl (by kernel_rfl) (by kernel_rfl) fun E => ?_
 refine CD.seq ?_
 rcases bd_some h with ⟨u3, g4, h⟩
 rcases bd_some h with ⟨v1, g2, h⟩
 rcases bd_some h with ⟨v5, g6, h⟩
 refine rg [(5, ⟨.v (.is (k137.a (⟨x1.f0, v5, x1.f2⟩ : T137))), some (.any, [(0, bx (k137.a (⟨x1.f0, v5, x1.f2⟩ : T137)))]), []⟩)] [] [(0, bx (k137.a (⟨x1.f0, v5, x1.f2⟩ : T137)))] (a1 (o_ixA g2 (lq_some g4)) (a1 (o_ws (c := k137.a x1) (y := bA true) (u := bA v1) (p := [1, x0.toNat]) (l := [(0, bx (k137.a (⟨x1.f0, v5, x1.f2⟩ : T137)))]) .cell (get_k (c := k137.a x1) (a := k136.a x1.f1) (i := 1) (by kernel_rfl) (o_gtA k4 g2)) rfl (set_k (c := k137.a x1) (a := k136.a x1.f1) (a' := k136.a v5) (c' := k137.a (⟨x1.f0, v5, x1.f2⟩ : T137)) (i := 1) (by kernel_rfl) (o_stA k4 g2 g6) (by kernel_rfl))) a0)) (rg [] [] [(0, bx (k137.a (⟨x1.f0, v5, ad x1.f2 1⟩ : T137)))] a0 ?_)
 obtain rfl := sm h
 exact NX.fin [0] a0 (by kernel_rfl)


-- f96 impl.caseMatch).useCell
def f96 (x0 : T60) (x1 : T137) : Option ((List Int) × Bool × T137) :=
 bd (f114 x0.f1 x1) fun v1 =>
 if (!v1.2) = true then
 some ([], false, x1)
 else
 bd (ix x1.f0 v1.1) fun v4 =>
 if (!(v4.f0 == x0.f0 && (v4.f1 == x0.f1 && (v4.f2 == x0.f2 && true)))) = true then
 some ([], false, x1)
 else
 bd (f115 v1.1 x1) fun v7 =>
 some (([v1.1] : List Int), true, v7)
theorem c96 {x0 : T60} {x1 : T137} {r : (List Int) × Bool × T137} (h : f96 x0 x1 = some r) :
 FnD cx 96 [.ref 0 [], k60.a x0] [bx (k137.a x1)] (.tup [k27.a r.1, bA r.2.1]) [bx (k137.a r.2.2)] := by
 unfold f96 at h
 refine fnD_intro (fn := Tryz.f96) (by kernel_rfl) rfl (by kernel_rfl) (by kernel_rfl) fun E => ?_
 refine CD.seq (rg [] [(3, .ref 1003 [])] [(1003, bx (k60.a x0))] a0 (CD.seq ?_))
 rcases bd_some h with ⟨v1, g2, h⟩
 refine rg [(3, hC (.tup [iA v1.1, bA v1.2]) [bx (k137.a x1)] [0] [])] [(6, iA v1.1), (7, bA v1.2)] [(0, bx (k137.a x1))] (a1 (c114 g2) a0) (CD.seq (CD.seq ?_))
 rcases if_some h with ⟨g3, h⟩ | ⟨g3, h⟩
 refine rg [(2, hT1)] [(27, bA true)] [] (a1 (oB (c := (!v1.2)) g3) a0) (CD.condT (b := true) (by kernel_rfl) rfl (CD.seq (rg [] [(4, .nils .cell), (5, bA false)] [] a0 (CD.ret ?_))))
 obtain rfl := sm h
 exact NX.ret [0] a0 (by kernel_rfl)
 rcases bd_some h with ⟨v4, g5, h⟩
 refine rg [(2, hF1), (5, hD [0]), (6, hD [0]), (8, hE (k60.x v4)), (10, hD [1003])] [(27, bA (!(v4.f0 == x0.f0 && (v4.f1 == x0.f1 && (v4.f2 == x0.f2 && true)))))] [] (a1 (oB (c := (!v1.2)) g3) (a1 (o_ix k60 g5) (a1 eqs61 a0))) (br h (fun g6 h => ?_) (fun g6 h => ?_))
 refine CD.seq (rg [] [(4, .nils .cell), (5, bA false)] [] a0 (CD.ret ?_))
 obtain rfl := sm h
 exact NX.ret [0] a0 (by kernel_rfl)
 refine CD.skip (CD.seq ?_)
 rcases bd_some h with ⟨v7, g8, h⟩
 refine rg [(2, hC (.tup []) [bx (k137.a v7)] [0] [])] [] [(0, bx (k137.a v7))] (a1 (c115 g8) a0) (CD.seq (rg [] [(4, k27.a ([v1.1] : List Int)), (5, bA true)] [] a0 (CD.ret ?_)))
 obtain rfl := sm h
 exact NX.ret [0] a0 (by kernel_rfl)


-- f116 impl.beginsAt
def f116 (x0 : (List T60)) (x1 : Int) : Option (Bool) :=
 jn (
 iter (fun (v11 : Int) =>
 if (decide (v11 < (ln x0))) = true then
 bd (ix x0 v11) fun v15 =>
 if (v15.f1 == x1) = true then
 some (.inr (.inr true))
 else
 some (.inl (ad v11 1))
 else
 some (.inr (.inl ()))) 0) fun (v1 : Unit) =>
 some false
theorem c116 {x0 : (List T60)} {x1 : Int} {r : Bool} (h : f116 x0 x1 = some r) :
 FnD cx 116 [k24.a x0, iA x1] [] (bA r) [] := by
 unfold f116 at h
 refine fnD_intro (fn := Tryz.f116) (by kernel_rfl) rfl (by kernel_rfl) (by kernel_rfl) fun E => ?_
 refine CD.seq (rg [] [] [] a0 (CD.join (fun (v1 : Unit) => ⟨[], []⟩) h (fun u2 h q3 => ?_) (fun v1 h => ?_)))
 refine CD.seq (rg [(1, hV (iA (ln x0)))] [(7, k24.a x0), (8, iA (ln x0)), (9, iA 0)] [] (a1 (o_ln k60 x0) a0) (CD.block (CD.loopK (fun (v11 : Int) => ⟨[(1, iA x1), (7, k24.a x0), (8, iA (ln x0)), (9, iA v11)], []⟩) h (by kernel_rfl) (fun v11 u12 h q13 => ?_))))
 refine CD.seq (rg [] [(10, bA (decide (v11 < (ln x0))))] [] a0 (CD.seq (br h (fun g14 h => ?_) (fun g14 h => ?_))))
 refine CD.skip (CD.seq (CD.block (CD.seq ?_)))
 rcases bd_some h with ⟨v15, g16, h⟩
 refine rg [(0, hE (k60.x v15))] [(6, .ref 1006 [])] [(1006, bx (k60.a v15))] (a1 (o_ix k60 g16) a0) (CD.seq (rg [] [(16, bA (v15.f1 == x1))] [] a0 (br h (fun g17 h => ?_) (fun g17 h => ?_))))
 refine CD.seq (rg [] [(4, bA true)] [] a0 (CD.ret ?_))
 obtain rfl := sm h
 obtain rfl := q13 _ rfl
 obtain rfl := q3 _ rfl
 exact NX.ret [] a0 (by kernel_rfl)
 refine CD.skip (NX.blN (rg [] [(9, iA (ad v11 1))] [] a0 ?_))
 obtain rfl := sm h
 exact NX.inl (by kernel_rfl)
 refine CD.exit ?_
 obtain rfl := sm h
 obtain rfl := q13 _ rfl
 exact NX.th (NX.lq (NX.brk (NX.inl (by kernel_rfl))))
 refine CD.seq (rg [] [(4, bA false)] [] a0 (CD.ret ?_))
 obtain rfl := sm h
 exact NX.ret [] a0 (by kernel_rfl)


-- f97 impl.caseMatch).useChain
def f97 (x0 : T60) (x1 : T137) : Option ((List Int) × Bool × T137) :=
 jn (
 if (x0.f2 == 0) = true then
 some (.inl true)
 else
 bd (f116 x1.f0 x0.f2) fun v5 =>
 some (.inl v5)) fun (v1 : Bool) =>
 iter (fun (v41 : T137 × (List Int) × Int) =>
 bd (f114 v41.2.2 v41.1) fun v44 =>
 if (!v44.2) = true then
 some (.inr ([], false, v41.1))
 else
 bd (f115 v44.1 v41.1) fun v47 =>
 bd (ap 8 v41.2.1 ([v44.1] : List Int)) fun v49 =>
 bd (ix v47.f0 v44.1) fun v51 =>
 if (v51.f2 == x0.f2) = true then
 some (.inr (v49, true, v47))
 else
 bd (ix v47.f0 v44.1) fun v54 =>
 if (v54.f0 == 2) = true then
 if (!v1) = true then
 some (.inr ([], false, v47))
 else
 some (.inl (v47, v49, v51.f2))
 else
 some (.inl (v47, v49, v51.f2))) (x1, [], x0.f1)
theorem c97 {x0 : T60} {x1 : T137} {r : (List Int) × Bool × T137} (h : f97 x0 x1 = some r) :
 FnD cx 97 [.ref 0 [], k60.a x0] [bx (k137.a x1)] (.tup [.own 1 r.1.length, bA r.2.1]) [bx (k137.a r.2.2), k3.r 3 .cell r.1] := by
 unfold f97 at h
 refine fnD_intro (fn := Tryz.f97) (by kernel_rfl) rfl (by kernel_rfl) (by kernel_rfl) fun E => ?_
 refine CD.seq (rg [] [(3, .ref 1003 [])] [(1003, bx (k60.a x0))] a0 (CD.join (fun (v1 : Bool) => ⟨[(0, .ref 0 []), (3, .ref 1003 []), (6, bA v1)], [(0, bx (k137.a x1)), (1003, bx (k60.a x0))]⟩) h (fun u2 h q3 => ?_) (fun v1 h => ?_)))
 rcases if_some h with ⟨g4, h⟩ | ⟨g4, h⟩
 refine rg [(0, hD [1003]), (1, hD [1003]), (3, hT1)] [(6, bA true)] [] (a1 (oB (c := (x0.f2 == 0)) g4) a0) ?_
 obtain rfl := sm h
 exact NX.inl (by kernel_rfl)
 rcases bd_some h with ⟨v5, g6, h⟩
 refine rg [(0, hD [1003]), (1, hD [1003]), (3, hF1), (6, hD [0]), (7, hD [0]), (8, hD [1003]), (9, hD [1003]), (10, hC (bA v5) [] [] [])] [(6, bA v5)] [] (a1 (oB (c := (x0.f2 == 0)) g4) (a1 (c116 g6) a0)) ?_
 obtain rfl := sm h
 exact NX.inl (by kernel_rfl)
 refine CD.seq (rg [] [(7, .nils .cell)] [] a0 (CD.seq (rg [] [(8, iA x0.f1)] [] a0 (CD.block (NX.own0 7 1039 3 (sh := .cell) (by kernel_rfl) (by kernel_rfl) (CD.loopK (fun (v41 : T137 × (List Int) × Int) => ⟨[(0, .ref 0 []), (3, .ref 1003 []), (6, bA v1), (7, .own 1039 v41.2.1.length), (8, iA v41.2.2)], [(1039, k3.r 3 .cell v41.2.1), (0, bx (k137.a v41.1)), (1003, bx (k60.a x0))]⟩) h (by kernel_rfl) (fun v41 u42 h q43 => ?_)))))))
 refine CD.block (CD.seq ?_)
 rcases bd_some h with ⟨v44, g45, h⟩
 refine rg [(2, hC (.tup [iA v44.1, bA v44.2]) [bx (k137.a v41.1)] [0] [])] [(9, iA v44.1), (10, bA v44.2)] [(0, bx (k137.a v41.1))] (a1 (c114 g45) a0) (CD.seq (CD.seq (rg [] [(32, bA (!v44.2))] [] a0 (br h (fun g46 h => ?_) (fun g46 h => ?_)))))
 refine CD.seq (rg [] [(4, .nils .cell), (5, bA false)] [] a0 (CD.ret ?_))
 obtain rfl := sm h
 obtain rfl := q43 _ rfl
 exact NX.own0 4 5000 3 (sh := .cell) (by kernel_rfl) (by kernel_rfl) (NX.ret [0, 5000] a0 (by kernel_rfl))
 refine CD.skip (CD.seq ?_)
 rcases bd_some h with ⟨v47, g48, h⟩
 refine rg [(2, hC (.tup []) [bx (k137.a v47)] [0] [])] [] [(0, bx (k137.a v47))] (a1 (c115 g48) a0) (CD.seq ?_)
 rcases bd_some h with ⟨v49, g50, h⟩
 refine rg [(3, hW (.own 1039 v49.length) [(1039, k3.r 3 .cell v49)])] [(7, .own 1039 v49.length)] [(1039, k3.r 3 .cell v49)] (a1 (o_ap k3 1039 3 .cell g50 trivial) a0) (CD.seq ?_)
 rcases bd_some h with ⟨v51, g52, h⟩
 refine rg [(5, hE (k60.x v51))] [(8, iA v51.f2)] [] (a1 (o_ix k60 g52) a0) (CD.seq (CD.seq (rg [] [(51, bA (v51.f2 == x0.f2))] [] a0 (br h (fun g53 h => ?_) (fun g53 h => ?_)))))
 refine CD.seq (rg [] [(4, .own 1039 v49.length), (5, bA true)] [] a0 (CD.ret ?_))
 obtain rfl := sm h
 obtain rfl := q43 _ rfl
 exact NX.ret [0, 1039] a0 (by kernel_rfl)
 refine CD.skip (CD.seq ?_)
 rcases bd_some h with ⟨v54, g55, h⟩
 rcases if_some h with ⟨g56, h⟩ | ⟨g56, h⟩
 refine rg [(5, hE (k60.x v54)), (9, hT1)] [(65, bA (!v1))] [] (a1 (o_ix k60 g55) (a1 (oB (c := (v54.f0 == 2)) g56) a0)) (br h (fun g57 h => ?_) (fun g57 h => ?_))
 refine CD.seq (rg [] [(4, .nils .cell), (5, bA false)] [] a0 (CD.ret ?_))
 obtain rfl := sm h
 obtain rfl := q43 _ rfl
 exact NX.own0 4 5000 3 (sh := .cell) (by kernel_rfl) (by kernel_rfl) (NX.ret [0, 5000] a0 (by kernel_rfl))
 refine CD.skip ?_
 obtain rfl := sm h
 exact NX.blN (NX.inl (by kernel_rfl))
 refine rg [(5, hE (k60.x v54)), (9, hF1)] [(65, bA false)] [] (a1 (o_ix k60 g55) (a1 (oB (c := (v54.f0 == 2)) g56) a0)) (CD.condF (b := false) (by kernel_rfl) rfl (CD.skip ?_))
 obtain rfl := sm h
 exact NX.blN (NX.inl (by kernel_rfl))

theorem c97d {x0 : T60} {x1 : T137} {r : (List Int) × Bool × T137} (h : f97 x0 x1 = some r) :
 FnD cx 97 [.ref 0 [], k60.a x0] [bx (k137.a x1)] (.tup [k27.a r.1, bA r.2.1]) [bx (k137.a r.2.2)] :=
 FnD.data (xs := [.own 1 r.1.length, bA r.2.1]) (ys := [k27.a r.1, bA r.2.1]) (p := (True ∧ True)) (q := ((r.1.length = (k3.m r.1).length) ∧ (True ∧ True))) (c97 h) [0] (by kernel_rfl) (by kernel_rfl) a0 (by kernel_rfl) (a1 (k_len' k3 r.1) a0)


-- f75 impl.matchCase
def f75 (x0 : T25) (x1 : T25) (x2 : (List Int)) : Option ((List (List Int)) × Bool) :=
 bd (f94 x1.f0 x2) fun v1 =>
 if (!v1) = true then
 some ([], false)
 else
 bd (f95 x0.f1 x2) fun v4 =>
 jn (
 bd (f95 x1.f1 x2) fun v74 =>
 iter (fun (v96 : (List T60) × (List Bool) × Int × (List (List Int)) × Int) =>
 if (decide (v96.2.2.2.2 < (ln v74))) = true then
 jn (
 bd (ix v74 v96.2.2.2.2) fun v103 =>
 jn (
 if (v103.f0 == 1) = true then
 bd (f96 v103 (⟨v96.1, v96.2.1, v96.2.2.1⟩ : T137)) fun v109 =>
 some (.inl (v109.1, v109.2.1, v109.2.2))
 else
 bd (f97 v103 (⟨v96.1, v96.2.1, v96.2.2.1⟩ : T137)) fun v111 =>
 some (.inl (v111.1, v111.2.1, v111.2.2))) fun (v105 : (List Int) × Bool × T137) =>
 if (!v105.2.1) = true then
 some (.inr (.inr (.inr ([], false))))
 else
 bd (ap 24 v96.2.2.2.1 ([v105.1] : List (List Int))) fun v114 =>
 some (.inl (v105.2.2, v114))) fun (v100 : T137 × (List (List Int))) =>
 some (.inl (v100.1.f0, v100.1.f1, v100.1.f2, v100.2, ad v96.2.2.2.2 1))
 else
 some (.inr (.inl (v96.1, v96.2.1, v96.2.2.1, v96.2.2.2.1)))) (v4, [false, false, false, false, false, false], 0, [], 0)) fun (v71 : (List T60) × (List Bool) × Int × (List (List Int))) =>
 if (v71.2.2.1 != (ln v71.1)) = true then
 some ([], false)
 else
 some (v71.2.2.2, true)
theorem c75 {x0 : T25} {x1 : T25} {x2 : (List Int)} {r : (List (List Int)) × Bool} (h : f75 x0 x1 x2 = some r) :
 FnD cx 75 [k25.a x0, k25.a x1, k89.a x2] [] (.tup [.own 0 r.1.length, bA r.2]) [k27.r 27 .cell r.1] := by
 unfold f75 at h
 refine fnD_intro (fn := Tryz.f75) (by kernel_rfl) rfl (by kernel_rfl) (by kernel_rfl) fun E => ?_
 refine CD.seq (rg [] [(3, .ref 1003 []), (4, .ref 1004 []), (5, .ref 1005 [])] [(1005, bx (k89.a x2)), (1004, bx (k25.a x1)), (1003, bx (k25.a x0))] a0 (CD.seq (CD.seq ?_)))
 rcases bd_some h with ⟨v1, g2, h⟩
 refine rg [(2, hC (bA v1) [bx (k89.a x2)] [1005] [])] [(17, bA (!v1))] [(1005, bx (k89.a x2))] (a1 (c94 g2) a0) (br h (fun g3 h => ?_) (fun g3 h => ?_))
 refine CD.seq (rg [] [(6, .nils .cell), (7, bA false)] [] a0 (CD.ret ?_))
 obtain rfl := sm h
 exact NX.own0 6 5000 27 (sh := .cell) (by kernel_rfl) (by kernel_rfl) (NX.ret [5000] a0 (by kernel_rfl))
 refine CD.skip (CD.seq ?_)
 rcases bd_some h with ⟨v4, g5, h⟩
 refine rg [(2, hC (.own 1 v4.length) [bx (k89.a x2), k60.r 61 (.node [.cell, .cell, .cell]) v4] [1005] [2400])] [(8, .ref 1008 [])] [(1008, bx (.agg [.own 2400 v4.length, k136.a [false, false, false, false, false, false], iA 0])), (2400, k60.r 61 (.node [.cell, .cell, .cell]) v4), (1005, bx (k89.a x2))] (a1 (c95 g5) a0) (CD.seq (rg [] [(9, .nils .cell)] [] a0 (NX.own0 9 1048 27 (sh := .cell) (by kernel_rfl) (by kernel_rfl) (CD.join (fun (v71 : (List T60) × (List Bool) × Int × (List (List Int))) => ⟨[(8, .ref 1008 []), (9, .own 1048 v71.2.2.2.length)], [(1048, k27.r 27 .cell v71.2.2.2), (1008, bx (k137.a (⟨v71.1, v71.2.1, v71.2.2.1⟩ : T137)))]⟩) h (fun u72 h q73 => ?_) (fun v71 h => ?_)))))
 refine CD.seq ?_
 rcases bd_some h with ⟨v74, g75, h⟩
 refine rg [(2, hC (.own 1 v74.length) [bx (k89.a x2), k60.r 61 (.node [.cell, .cell, .cell]) v74] [1005] [2480])] [(24, .own 2480 v74.length), (25, iA (ln v74)), (26, iA 0)] [(2480, k60.r 61 (.node [.cell, .cell, .cell]) v74), (1005, bx (k89.a x2))] (a1 (c95 g75) a0) (CD.block (NX.fz k60 2400 61 (.node [.cell, .cell, .cell]) v4 (NX.frzDb 1008 [0] (b := 2400) (ty := 61) (sh := (.node [.cell, .cell, .cell])) (xs := k60.m v4) (c := .agg [.own 2400 v4.length, k136.a [false, false, false, false, false, false], iA 0]) (c' := k137.a (⟨v4, [false, false, false, false, false, false], 0⟩ : T137)) (by kernel_rfl) (by kernel_rfl) (by kernel_rfl) (by kernel_rfl) (k_len' k60 v4) (CD.loopK (fun (v96 : (List T60) × (List Bool) × Int × (List (List Int)) × Int) => ⟨[(8, .ref 1008 []), (9, .own 1048 v96.2.2.2.1.length), (24, .own 2480 v74.length), (25, iA (ln v74)), (26, iA v96.2.2.2.2)], [(1048, k27.r 27 .cell v96.2.2.2.1), (2480, k60.r 61 (.node [.cell, .cell, .cell]) v74), (1008, bx (k137.a (⟨v96.1, v96.2.1, v96.2.2.1⟩ : T137)))]⟩) h (by kernel_rfl) (fun v96 u97 h q98 => ?_)))))
 refine CD.seq (rg [] [(27, bA (decide (v96.2.2.2.2 < (ln v74))))] [] a0 (CD.seq (br h (fun g99 h => ?_) (fun g99 h => ?_))))
 refine CD.skip (CD.join (fun (v100 : T137 × (List (List Int))) => ⟨[(8, .ref 1008 []), (9, .own 1048 v100.2.length), (24, .own 2480 v74.length), (25, iA (ln v74)), (26, iA v96.2.2.2.2)], [(1048, k27.r 27 .cell v100.2), (2480, k60.r 61 (.node [.cell, .cell, .cell]) v74), (1008, bx (k137.a v100.1))]⟩) h (fun u101 h q102 => ?_) (fun v100 h => ?_))
 refine CD.block (CD.seq ?_)
 rcases bd_some h with ⟨v103, g104, h⟩
 refine rg [(1, hE (k60.x v103))] [(11, .ref 1011 [])] [(1011, bx (k60.a v103))] (a1 (o_ixr k60 g104) (a1 (o_ldr k60 g104) a0)) (CD.seq (rg [] [] [] a0 (CD.seq (rg [] [] [] a0 (CD.join (fun (v105 : (List Int) × Bool × T137) => ⟨[(8, .ref 1008 []), (9, .own 1048 v96.2.2.2.1.length), (12, k27.a v105.1), (13, bA v105.2.1), (24, .own 2480 v74.length), (25, iA (ln v74)), (26, iA v96.2.2.2.2)], [(1048, k27.r 27 .cell v96.2.2.2.1), (2480, k60.r 61 (.node [.cell, .cell, .cell]) v74), (1008, bx (k137.a v105.2.2))]⟩) h (fun u106 h q107 => ?_) (fun v105 h => ?_))))))
 refine CD.seq (rg [] [(32, bA (v103.f0 == 1))] [] a0 (br h (fun g108 h => ?_) (fun g108 h => ?_)))
 rcases bd_some h with ⟨v109, g110, h⟩
 refine rg [(1, hC (.tup [k27.a v109.1, bA v109.2.1]) [bx (k137.a v109.2.2)] [1008] [])] [(12, k27.a v109.1), (13, bA v109.2.1)] [(1008, bx (k137.a v109.2.2))] (a1 (c96 g110) a0) ?_
 obtain rfl := sm h
 exact NX.inl (by kernel_rfl)
 rcases bd_some h with ⟨v111, g112, h⟩
 refine rg [(1, hC (.tup [.own 1 v111.1.length, bA v111.2.1]) [bx (k137.a v111.2.2), k3.r 3 .cell v111.1] [1008] [2800])] [(12, .own 2800 v111.1.length), (13, bA v111.2.1)] [(2800, k3.r 3 .cell v111.1), (1008, bx (k137.a v111.2.2))] (a1 (c97 g112) a0) ?_
 obtain rfl := sm h
 exact NX.fz k3 2800 3 .cell v111.1 (NX.frzD 12 (b := 2800) (ty := 3) (sh := .cell) (xs := k3.m v111.1) (by kernel_rfl) (by kernel_rfl) (k_len' k3 v111.1) (NX.inl (by kernel_rfl)))
 refine CD.seq (CD.seq (rg [] [(44, bA (!v105.2.1))] [] a0 (br h (fun g113 h => ?_) (fun g113 h => ?_))))
 refine CD.seq (rg [] [(6, .nils .cell), (7, bA false)] [] a0 (CD.ret ?_))
 obtain rfl := sm h
 obtain rfl := q102 _ rfl
 obtain rfl := q98 _ rfl
 obtain rfl := q73 _ rfl
 exact NX.own0 6 5000 27 (sh := .cell) (by kernel_rfl) (by kernel_rfl) (NX.ret [5000] a0 (by kernel_rfl))
 refine CD.skip ?_
 rcases bd_some h with ⟨v114, g115, h⟩
 refine rg [(3, hW (.own 1048 v114.length) [(1048, k27.r 27 .cell v114)])] [(9, .own 1048 v114.length)] [(1048, k27.r 27 .cell v114)] (a1 (o_ap k27 1048 27 .cell g115 trivial) a0) ?_
 obtain rfl := sm h
 exact NX.blN (NX.inl (by kernel_rfl))
 refine rg [] [(26, iA (ad v96.2.2.2.2 1))] [] a0 ?_
 obtain rfl := sm h
 exact NX.inl (by kernel_rfl)
 refine CD.exit ?_
 obtain rfl := sm h
 obtain rfl := q98 _ rfl
 exact NX.th (NX.lq (NX.brk (NX.inl (by kernel_rfl))))
 refine CD.seq (CD.seq (rg [(4, hV (iA (ln v71.1)))] [(55, bA (v71.2.2.1 != (ln v71.1)))] [] (a1 (o_ln k60 v71.1) a0) (br h (fun g116 h => ?_) (fun g116 h => ?_))))
 refine CD.seq (rg [] [(6, .nils .cell), (7, bA false)] [] a0 (CD.ret ?_))
 obtain rfl := sm h
 exact NX.own0 6 5000 27 (sh := .cell) (by kernel_rfl) (by kernel_rfl) (NX.ret [5000] a0 (by kernel_rfl))
 refine CD.skip (CD.seq (rg [] [(6, .own 1048 v71.2.2.2.length), (7, bA true)] [] a0 (CD.ret ?_)))
 obtain rfl := sm h
 exact NX.ret [1048] a0 (by kernel_rfl)

theorem c75d {x0 : T25} {x1 : T25} {x2 : (List Int)} {r : (List (List Int)) × Bool} (h : f75 x0 x1 x2 = some r) :
 FnD cx 75 [k25.a x0, k25.a x1, k89.a x2] [] (.tup [k111.a r.1, bA r.2]) [] :=
 FnD.data (xs := [.own 0 r.1.length, bA r.2]) (ys := [k111.a r.1, bA r.2]) (p := True) (q := ((r.1.length = (k27.m r.1).length) ∧ (True ∧ True))) (c75 h) [] (by kernel_rfl) (by kernel_rfl) a0 (by kernel_rfl) (a1 (k_len' k27 r.1) a0)


-- f93 impl.termCase).extend
def f93o {V : Type} (y : V → (List Int) → Option (V × Bool)) (r93 : V → (List Int) → Int → T25 → Int → Option (Bool × V)) (v0 : V) (x0 : (List Int)) (x1 : Int) (x2 : T25) (x3 : Int) : Option (Bool × V) :=
 if (decide (x1 > 8)) = true then
 bd (y v0 x0) fun v2 =>
 some (v2.2, v2.1)
 else
 bd (f46 x3 x1) fun v4 =>
 if (!v4) = true then
 bd (lq 9 x0) fun u9 =>
 bd (ix x0 x1) fun v7 =>
 bd (st x0 x1 (-1)) fun v11 =>
 bd (r93 v0 v11 (ad x1 1) x2 x3) fun v13 =>
 some (v13.1, v13.2)
 else
 jn (
 iter (fun (v46 : (List Int) × Int × V) =>
 if (decide (v46.2.1 ≤ x1)) = true then
 jn (
 jn (
 if (decide (v46.2.1 < x1)) = true then
 bd (lq 9 v46.1) fun u59 =>
 bd (ix v46.1 v46.2.1) fun v57 =>
 if (v57 != v46.2.1) = true then
 some (.inr (.inl (v46.1, v46.2.2)))
 else
 some (.inl ())
 else
 some (.inl ())) fun (v53 : Unit) =>
 bd (lq 9 v46.1) fun u64 =>
 bd (ix v46.1 x1) fun v62 =>
 bd (st v46.1 x1 v46.2.1) fun v66 =>
 bd (f111 x2 x1 v66) fun v68 =>
 if v68 = true then
 bd (r93 v46.2.2 v66 (ad x1 1) x2 x3) fun v71 =>
 if (!v71.1) = true then
 some (.inr (.inr (.inr (false, v71.2))))
 else
 some (.inl (v66, v71.2))
 else
 some (.inl (v66, v46.2.2))) fun (v50 : (List Int) × V) =>
 some (.inl (v50.1, ad v46.2.1 1, v50.2))
 else
 some (.inr (.inl v46.2.2))) (x0, 0, v0)) fun (v15 : V) =>
 some (true, v15)
def f93n {V : Type} (y : V → (List Int) → Option (V × Bool)) : Nat → V → (List Int) → Int → T25 → Int → Option (Bool × V)
| 0 => fun _ _ _ _ _ => none
| k + 1 => f93o y (f93n y k)
def f93 {V : Type} (y : V → (List Int) → Option (V × Bool)) (v0 : V) (x0 : (List Int)) (x1 : Int) (x2 : T25) (x3 : Int) : Option (Bool × V) := f93n y LF v0 x0 x1 x2 x3
theorem c93o {V : Type} {y : V → (List Int) → Option (V × Bool)} {sT : V → LoopState} {pT : V → Option Code} {fn : FuncId} {D : Nat} {d0 : T25} {d1 : T25} {d2 : V → (List Int)} {d3 : V → Bool} (hy : ∀ {v : V} {x : (List Int)} {r : V × Bool}, y v x = some r → YD cx 0 [k89.a x] [.raw (rcd fn #[13] (rgA (bl1 (sq2 (sq1 (sq2 (Option.getD Tryz.f58.body .skip)))))) (rgB (bl1 (sq2 (sq1 (sq2 (Option.getD Tryz.f58.body .skip)))))) D (sT v) (pT v)) (slN 25 [(2, .ref 1 []), (3, .ref 2 []), (4, .ref 3 []), (5, .ref 4 [])]), bx (k25.a d0), bx (k25.a d1), bx (k89.a (d2 v)), bx (bA (d3 v))] (bA r.2) [.raw (rcd fn #[13] (rgA (bl1 (sq2 (sq1 (sq2 (Option.getD Tryz.f58.body .skip)))))) (rgB (bl1 (sq2 (sq1 (sq2 (Option.getD Tryz.f58.body .skip)))))) D (sT r.1) (pT r.1)) (slN 25 [(2, .ref 1 []), (3, .ref 2 []), (4, .ref 3 []), (5, .ref 4 [])]), bx (k25.a d0), bx (k25.a d1), bx (k89.a (d2 r.1)), bx (bA (d3 r.1))]) {r93 : V → (List Int) → Int → T25 → Int → Option (Bool × V)} (i93 : ∀ {v0 : V} {x0 : (List Int)} {x1 : Int} {x2 : T25} {x3 : Int} {r : Bool × V}, r93 v0 x0 x1 x2 x3 = some r → FnD cx 93 [k89.a x0, iA x1, k25.a x2, k48.a x3, .yd 0] [.raw (rcd fn #[13] (rgA (bl1 (sq2 (sq1 (sq2 (Option.getD Tryz.f58.body .skip)))))) (rgB (bl1 (sq2 (sq1 (sq2 (Option.getD Tryz.f58.body .skip)))))) D (sT v0) (pT v0)) (slN 25 [(2, .ref 1 []), (3, .ref 2 []), (4, .ref 3 []), (5, .ref 4 [])]), bx (k25.a d0), bx (k25.a d1), bx (k89.a (d2 v0)), bx (bA (d3 v0))] (bA r.1) [.raw (rcd fn #[13] (rgA (bl1 (sq2 (sq1 (sq2 (Option.getD Tryz.f58.body .skip)))))) (rgB (bl1 (sq2 (sq1 (sq2 (Option.getD Tryz.f58.body .skip)))))) D (sT r.2) (pT r.2)) (slN 25 [(2, .ref 1 []), (3, .ref 2 []), (4, .ref 3 []), (5, .ref 4 [])]), bx (k25.a d0), bx (k25.a d1), bx (k89.a (d2 r.2)), bx (bA (d3 r.2))]) {v0 : V} {x0 : (List Int)} {x1 : Int} {x2 : T25} {x3 : Int} {r : Bool × V} (h : f93o y r93 v0 x0 x1 x2 x3 = some r) :
 FnD cx 93 [k89.a x0, iA x1, k25.a x2, k48.a x3, .yd 0] [.raw (rcd fn #[13] (rgA (bl1 (sq2 (sq1 (sq2 (Option.getD Tryz.f58.body .skip)))))) (rgB (bl1 (sq2 (sq1 (sq2 (Option.getD Tryz.f58.body .skip)))))) D (sT v0) (pT v0)) (slN 25 [(2, .ref 1 []), (3, .ref 2 []), (4, .ref 3 []), (5, .ref 4 [])]), bx (k25.a d0), bx (k25.a d1), bx (k89.a (d2 v0)), bx (bA (d3 v0))] (bA r.1) [.raw (rcd fn #[13] (rgA (bl1 (sq2 (sq1 (sq2 (Option.getD Tryz.f58.body .skip)))))) (rgB (bl1 (sq2 (sq1 (sq2 (Option.getD Tryz.f58.body .skip)))))) D (sT r.2) (pT r.2)) (slN 25 [(2, .ref 1 []), (3, .ref 2 []), (4, .ref 3 []), (5, .ref 4 [])]), bx (k25.a d0), bx (k25.a d1), bx (k89.a (d2 r.2)), bx (bA (d3 r.2))] := by
 unfold f93o at h
 refine fnD_intro (fn := Tryz.f93) (by kernel_rfl) rfl (by kernel_rfl) (by kernel_rfl) fun E => ?_
 refine CD.seq (rg [] [(5, .ref 1005 []), (7, .ref 1007 [])] [(1007, bx (k25.a x2)), (1005, bx (k89.a x0))] a0 (CD.seq (CD.seq (rg [] [(13, bA (decide (x1 > 8)))] [] a0 (br h (fun g1 h => ?_) (fun g1 h => ?_))))))
 refine CD.seq ?_
 rcases bd_some h with ⟨v2, g3, h⟩
 refine rg [(2, hC (bA v2.2) [.raw (rcd fn #[13] (rgA (bl1 (sq2 (sq1 (sq2 (Option.getD Tryz.f58.body .skip)))))) (rgB (bl1 (sq2 (sq1 (sq2 (Option.getD Tryz.f58.body .skip)))))) D (sT v2.1) (pT v2.1)) (slN 25 [(2, .ref 1 []), (3, .ref 2 []), (4, .ref 3 []), (5, .ref 4 [])]), bx (k25.a d0), bx (k25.a d1), bx (k89.a (d2 v2.1)), bx (bA (d3 v2.1))] [0, 1, 2, 3, 4] [])] [(10, bA v2.2)] [(4, bx (bA (d3 v2.1))), (3, bx (k89.a (d2 v2.1))), (2, bx (k25.a d1)), (1, bx (k25.a d0)), (0, .raw (rcd fn #[13] (rgA (bl1 (sq2 (sq1 (sq2 (Option.getD Tryz.f58.body .skip)))))) (rgB (bl1 (sq2 (sq1 (sq2 (Option.getD Tryz.f58.body .skip)))))) D (sT v2.1) (pT v2.1)) (slN 25 [(2, .ref 1 []), (3, .ref 2 []), (4, .ref 3 []), (5, .ref 4 [])]))] (a1 (hy g3) a0) (CD.ret ?_)
 obtain rfl := sm h
 exact NX.ret [0, 1, 2, 3, 4] a0 (by kernel_rfl)
 refine CD.skip (CD.seq (CD.seq ?_))
 rcases bd_some h with ⟨v4, g5, h⟩
 refine rg [(2, hC (bA v4) [] [] [])] [(20, bA (!v4))] [] (a1 (c46 g5) a0) (br h (fun g6 h => ?_) (fun g6 h => ?_))
 refine CD.seq ?_
 rcases bd_some h with ⟨u9, g10, h⟩
 rcases bd_some h with ⟨v7, g8, h⟩
 rcases bd_some h with ⟨v11, g12, h⟩
 refine rg [(2, ⟨.v (.is (k89.a v11)), some (.any, [(1005, bx (k89.a v11))]), []⟩)] [] [(1005, bx (k89.a v11))] (a1 (o_ixA g8 (lq_some g10)) (a1 (o_ws (c := k89.a x0) (y := iA (-1)) (u := iA v7) (p := [x1.toNat]) (l := [(1005, bx (k89.a v11))]) .cell (o_gtA k3 g8) rfl (o_stA k3 g8 g12)) a0)) (CD.seq ?_)
 rcases bd_some h with ⟨v13, g14, h⟩
 refine rg [(6, hC (bA v13.1) [.raw (rcd fn #[13] (rgA (bl1 (sq2 (sq1 (sq2 (Option.getD Tryz.f58.body .skip)))))) (rgB (bl1 (sq2 (sq1 (sq2 (Option.getD Tryz.f58.body .skip)))))) D (sT v13.2) (pT v13.2)) (slN 25 [(2, .ref 1 []), (3, .ref 2 []), (4, .ref 3 []), (5, .ref 4 [])]), bx (k25.a d0), bx (k25.a d1), bx (k89.a (d2 v13.2)), bx (bA (d3 v13.2))] [0, 1, 2, 3, 4] [])] [(10, bA v13.1)] [(4, bx (bA (d3 v13.2))), (3, bx (k89.a (d2 v13.2))), (2, bx (k25.a d1)), (1, bx (k25.a d0)), (0, .raw (rcd fn #[13] (rgA (bl1 (sq2 (sq1 (sq2 (Option.getD Tryz.f58.body .skip)))))) (rgB (bl1 (sq2 (sq1 (sq2 (Option.getD Tryz.f58.body .skip)))))) D (sT v13.2) (pT v13.2)) (slN 25 [(2, .ref 1 []), (3, .ref 2 []), (4, .ref 3 []), (5, .ref 4 [])]))] (a1 (i93 g14) a0) (CD.ret ?_)
 obtain rfl := sm h
 exact NX.ret [0, 1, 2, 3, 4] a0 (by kernel_rfl)
 refine CD.skip (CD.join (fun (v15 : V) => ⟨[], [(0, .raw (rcd fn #[13] (rgA (bl1 (sq2 (sq1 (sq2 (Option.getD Tryz.f58.body .skip)))))) (rgB (bl1 (sq2 (sq1 (sq2 (Option.getD Tryz.f58.body .skip)))))) D (sT v15) (pT v15)) (slN 25 [(2, .ref 1 []), (3, .ref 2 []), (4, .ref 3 []), (5, .ref 4 [])])), (1, bx (k25.a d0)), (2, bx (k25.a d1)), (3, bx (k89.a (d2 v15))), (4, bx (bA (d3 v15)))]⟩) h (fun u16 h q17 => ?_) (fun v15 h => ?_))
 refine CD.seq (rg [] [(11, iA 0)] [] a0 (CD.block (CD.loopK (fun (v46 : (List Int) × Int × V) => ⟨[(1, iA x1), (3, k48.a x3), (4, .yd 0), (5, .ref 1005 []), (7, .ref 1007 []), (11, iA v46.2.1)], [(0, .raw (rcd fn #[13] (rgA (bl1 (sq2 (sq1 (sq2 (Option.getD Tryz.f58.body .skip)))))) (rgB (bl1 (sq2 (sq1 (sq2 (Option.getD Tryz.f58.body .skip)))))) D (sT v46.2.2) (pT v46.2.2)) (slN 25 [(2, .ref 1 []), (3, .ref 2 []), (4, .ref 3 []), (5, .ref 4 [])])), (1, bx (k25.a d0)), (2, bx (k25.a d1)), (3, bx (k89.a (d2 v46.2.2))), (4, bx (bA (d3 v46.2.2))), (1005, bx (k89.a v46.1)), (1007, bx (k25.a x2))]⟩) h (by kernel_rfl) (fun v46 u47 h q48 => ?_))))
 refine CD.seq (CD.seq (rg [] [(32, bA (decide (v46.2.1 ≤ x1)))] [] a0 (br h (fun g49 h => ?_) (fun g49 h => ?_))))
 refine CD.skip (CD.join (fun (v50 : (List Int) × V) => ⟨[(1, iA x1), (3, k48.a x3), (4, .yd 0), (5, .ref 1005 []), (7, .ref 1007 []), (11, iA v46.2.1)], [(0, .raw (rcd fn #[13] (rgA (bl1 (sq2 (sq1 (sq2 (Option.getD Tryz.f58.body .skip)))))) (rgB (bl1 (sq2 (sq1 (sq2 (Option.getD Tryz.f58.body .skip)))))) D (sT v50.2) (pT v50.2)) (slN 25 [(2, .ref 1 []), (3, .ref 2 []), (4, .ref 3 []), (5, .ref 4 [])])), (1, bx (k25.a d0)), (2, bx (k25.a d1)), (3, bx (k89.a (d2 v50.2))), (4, bx (bA (d3 v50.2))), (1005, bx (k89.a v50.1)), (1007, bx (k25.a x2))]⟩) h (fun u51 h q52 => ?_) (fun v50 h => ?_))
 refine CD.block (CD.join (fun (v53 : Unit) => ⟨[(1, iA x1), (3, k48.a x3), (4, .yd 0), (5, .ref 1005 []), (7, .ref 1007 []), (11, iA v46.2.1)], [(0, .raw (rcd fn #[13] (rgA (bl1 (sq2 (sq1 (sq2 (Option.getD Tryz.f58.body .skip)))))) (rgB (bl1 (sq2 (sq1 (sq2 (Option.getD Tryz.f58.body .skip)))))) D (sT v46.2.2) (pT v46.2.2)) (slN 25 [(2, .ref 1 []), (3, .ref 2 []), (4, .ref 3 []), (5, .ref 4 [])])), (1, bx (k25.a d0)), (2, bx (k25.a d1)), (3, bx (k89.a (d2 v46.2.2))), (4, bx (bA (d3 v46.2.2))), (1005, bx (k89.a v46.1)), (1007, bx (k25.a x2))]⟩) h (fun u54 h q55 => ?_) (fun v53 h => ?_))
 refine CD.seq ?_
 rcases if_some h with ⟨g56, h⟩ | ⟨g56, h⟩
 rcases bd_some h with ⟨u59, g60, h⟩
 rcases bd_some h with ⟨v57, g58, h⟩
 refine rg [(3, hT1), (6, hI (iA v57))] [(44, bA (v57 != v46.2.1))] [] (a1 (oB (c := (decide (v46.2.1 < x1))) g56) (a1 (o_ixA g58 (lq_some g60)) (a1 (show AV.get [v46.2.1.toNat] (k89.a v46.1) = some (iA v57) from o_gtA k3 g58) a0))) (br h (fun g61 h => ?_) (fun g61 h => ?_))
 refine CD.exit ?_
 obtain rfl := sm h
 obtain rfl := q55 _ rfl
 exact NX.lq (NX.brk (NX.inl (by kernel_rfl)))
 refine CD.skip ?_
 obtain rfl := sm h
 exact NX.inl (by kernel_rfl)
 refine rg [(3, hF1)] [(44, bA false)] [] (a1 (oB (c := (decide (v46.2.1 < x1))) g56) a0) (CD.condF (b := false) (by kernel_rfl) rfl (CD.skip ?_))
 obtain rfl := sm h
 exact NX.inl (by kernel_rfl)
 refine CD.seq ?_
 rcases bd_some h with ⟨u64, g65, h⟩
 rcases bd_some h with ⟨v62, g63, h⟩
 rcases bd_some h with ⟨v66, g67, h⟩
 refine rg [(3, ⟨.v (.is (k89.a v66)), some (.any, [(1005, bx (k89.a v66))]), []⟩)] [] [(1005, bx (k89.a v66))] (a1 (o_ixA g63 (lq_some g65)) (a1 (o_ws (c := k89.a v46.1) (y := iA v46.2.1) (u := iA v62) (p := [x1.toNat]) (l := [(1005, bx (k89.a v66))]) .cell (o_gtA k3 g63) rfl (o_stA k3 g63 g67)) a0)) (CD.seq ?_)
 rcases bd_some h with ⟨v68, g69, h⟩
 rcases if_some h with ⟨g70, h⟩ | ⟨g70, h⟩
 rcases bd_some h with ⟨v71, g72, h⟩
 refine rg [(2, hC (bA v68) [bx (k89.a v66)] [1005] []), (3, hT1), (10, hC (bA v71.1) [.raw (rcd fn #[13] (rgA (bl1 (sq2 (sq1 (sq2 (Option.getD Tryz.f58.body .skip)))))) (rgB (bl1 (sq2 (sq1 (sq2 (Option.getD Tryz.f58.body .skip)))))) D (sT v71.2) (pT v71.2)) (slN 25 [(2, .ref 1 []), (3, .ref 2 []), (4, .ref 3 []), (5, .ref 4 [])]), bx (k25.a d0), bx (k25.a d1), bx (k89.a (d2 v71.2)), bx (bA (d3 v71.2))] [0, 1, 2, 3, 4] [])] [(60, bA (!v71.1))] [(4, bx (bA (d3 v71.2))), (3, bx (k89.a (d2 v71.2))), (2, bx (k25.a d1)), (1, bx (k25.a d0)), (0, .raw (rcd fn #[13] (rgA (bl1 (sq2 (sq1 (sq2 (Option.getD Tryz.f58.body .skip)))))) (rgB (bl1 (sq2 (sq1 (sq2 (Option.getD Tryz.f58.body .skip)))))) D (sT v71.2) (pT v71.2)) (slN 25 [(2, .ref 1 []), (3, .ref 2 []), (4, .ref 3 []), (5, .ref 4 [])])), (1005, bx (k89.a v66))] (a1 (c111 g69) (a1 (oB (c := v68) g70) (a1 (i93 g72) a0))) (br h (fun g73 h => ?_) (fun g73 h => ?_))
 refine CD.seq (rg [] [(10, bA false)] [] a0 (CD.ret ?_))
 obtain rfl := sm h
 obtain rfl := q52 _ rfl
 obtain rfl := q48 _ rfl
 obtain rfl := q17 _ rfl
 exact NX.ret [0, 1, 2, 3, 4] a0 (by kernel_rfl)
 refine CD.skip ?_
 obtain rfl := sm h
 exact NX.blN (NX.inl (by kernel_rfl))
 refine rg [(2, hC (bA v68) [bx (k89.a v66)] [1005] []), (3, hF1)] [(60, bA false)] [(1005, bx (k89.a v66))] (a1 (c111 g69) (a1 (oB (c := v68) g70) a0)) (CD.condF (b := false) (by kernel_rfl) rfl (CD.skip ?_))
 obtain rfl := sm h
 exact NX.blN (NX.inl (by kernel_rfl))
 refine rg [] [(11, iA (ad v46.2.1 1))] [] a0 ?_
 obtain rfl := sm h
 exact NX.inl (by kernel_rfl)
 refine CD.exit ?_
 obtain rfl := sm h
 obtain rfl := q48 _ rfl
 exact NX.th (NX.lq (NX.brk (NX.inl (by kernel_rfl))))
 refine CD.seq (rg [] [(10, bA true)] [] a0 (CD.ret ?_))
 obtain rfl := sm h
 exact NX.ret [0, 1, 2, 3, 4] a0 (by kernel_rfl)

theorem c93n {V : Type} {y : V → (List Int) → Option (V × Bool)} {sT : V → LoopState} {pT : V → Option Code} {fn : FuncId} {D : Nat} {d0 : T25} {d1 : T25} {d2 : V → (List Int)} {d3 : V → Bool} (hy : ∀ {v : V} {x : (List Int)} {r : V × Bool}, y v x = some r → YD cx 0 [k89.a x] [.raw (rcd fn #[13] (rgA (bl1 (sq2 (sq1 (sq2 (Option.getD Tryz.f58.body .skip)))))) (rgB (bl1 (sq2 (sq1 (sq2 (Option.getD Tryz.f58.body .skip)))))) D (sT v) (pT v)) (slN 25 [(2, .ref 1 []), (3, .ref 2 []), (4, .ref 3 []), (5, .ref 4 [])]), bx (k25.a d0), bx (k25.a d1), bx (k89.a (d2 v)), bx (bA (d3 v))] (bA r.2) [.raw (rcd fn #[13] (rgA (bl1 (sq2 (sq1 (sq2 (Option.getD Tryz.f58.body .skip)))))) (rgB (bl1 (sq2 (sq1 (sq2 (Option.getD Tryz.f58.body .skip)))))) D (sT r.1) (pT r.1)) (slN 25 [(2, .ref 1 []), (3, .ref 2 []), (4, .ref 3 []), (5, .ref 4 [])]), bx (k25.a d0), bx (k25.a d1), bx (k89.a (d2 r.1)), bx (bA (d3 r.1))]) : ∀ (k0 : Nat), ∀ {v0 : V} {x0 : (List Int)} {x1 : Int} {x2 : T25} {x3 : Int} {r : Bool × V}, f93n y k0 v0 x0 x1 x2 x3 = some r → FnD cx 93 [k89.a x0, iA x1, k25.a x2, k48.a x3, .yd 0] [.raw (rcd fn #[13] (rgA (bl1 (sq2 (sq1 (sq2 (Option.getD Tryz.f58.body .skip)))))) (rgB (bl1 (sq2 (sq1 (sq2 (Option.getD Tryz.f58.body .skip)))))) D (sT v0) (pT v0)) (slN 25 [(2, .ref 1 []), (3, .ref 2 []), (4, .ref 3 []), (5, .ref 4 [])]), bx (k25.a d0), bx (k25.a d1), bx (k89.a (d2 v0)), bx (bA (d3 v0))] (bA r.1) [.raw (rcd fn #[13] (rgA (bl1 (sq2 (sq1 (sq2 (Option.getD Tryz.f58.body .skip)))))) (rgB (bl1 (sq2 (sq1 (sq2 (Option.getD Tryz.f58.body .skip)))))) D (sT r.2) (pT r.2)) (slN 25 [(2, .ref 1 []), (3, .ref 2 []), (4, .ref 3 []), (5, .ref 4 [])]), bx (k25.a d0), bx (k25.a d1), bx (k89.a (d2 r.2)), bx (bA (d3 r.2))]
| 0 => fun h => by cases h
| k0 + 1 => fun h => c93o hy (c93n hy k0) h
theorem c93 {V : Type} {y : V → (List Int) → Option (V × Bool)} {sT : V → LoopState} {pT : V → Option Code} {fn : FuncId} {D : Nat} {d0 : T25} {d1 : T25} {d2 : V → (List Int)} {d3 : V → Bool} (hy : ∀ {v : V} {x : (List Int)} {r : V × Bool}, y v x = some r → YD cx 0 [k89.a x] [.raw (rcd fn #[13] (rgA (bl1 (sq2 (sq1 (sq2 (Option.getD Tryz.f58.body .skip)))))) (rgB (bl1 (sq2 (sq1 (sq2 (Option.getD Tryz.f58.body .skip)))))) D (sT v) (pT v)) (slN 25 [(2, .ref 1 []), (3, .ref 2 []), (4, .ref 3 []), (5, .ref 4 [])]), bx (k25.a d0), bx (k25.a d1), bx (k89.a (d2 v)), bx (bA (d3 v))] (bA r.2) [.raw (rcd fn #[13] (rgA (bl1 (sq2 (sq1 (sq2 (Option.getD Tryz.f58.body .skip)))))) (rgB (bl1 (sq2 (sq1 (sq2 (Option.getD Tryz.f58.body .skip)))))) D (sT r.1) (pT r.1)) (slN 25 [(2, .ref 1 []), (3, .ref 2 []), (4, .ref 3 []), (5, .ref 4 [])]), bx (k25.a d0), bx (k25.a d1), bx (k89.a (d2 r.1)), bx (bA (d3 r.1))]) {v0 : V} {x0 : (List Int)} {x1 : Int} {x2 : T25} {x3 : Int} {r : Bool × V} (h : f93 y v0 x0 x1 x2 x3 = some r) :
 FnD cx 93 [k89.a x0, iA x1, k25.a x2, k48.a x3, .yd 0] [.raw (rcd fn #[13] (rgA (bl1 (sq2 (sq1 (sq2 (Option.getD Tryz.f58.body .skip)))))) (rgB (bl1 (sq2 (sq1 (sq2 (Option.getD Tryz.f58.body .skip)))))) D (sT v0) (pT v0)) (slN 25 [(2, .ref 1 []), (3, .ref 2 []), (4, .ref 3 []), (5, .ref 4 [])]), bx (k25.a d0), bx (k25.a d1), bx (k89.a (d2 v0)), bx (bA (d3 v0))] (bA r.1) [.raw (rcd fn #[13] (rgA (bl1 (sq2 (sq1 (sq2 (Option.getD Tryz.f58.body .skip)))))) (rgB (bl1 (sq2 (sq1 (sq2 (Option.getD Tryz.f58.body .skip)))))) D (sT r.2) (pT r.2)) (slN 25 [(2, .ref 1 []), (3, .ref 2 []), (4, .ref 3 []), (5, .ref 4 [])]), bx (k25.a d0), bx (k25.a d1), bx (k89.a (d2 r.2)), bx (bA (d3 r.2))] := c93n hy LF h

-- f92 impl.possibleCases$1
def f92 {V : Type} (y : V → (List Int) → Option (V × Bool)) (v0 : V) (x0 : T25) (x1 : Int) : Option (V) :=
 bd (f93 y v0 [0, 0, 0, 0, 0, 0, 0, 0, 0] 0 x0 x1) fun v1 =>
 some v1.2
theorem c92 {V : Type} {y : V → (List Int) → Option (V × Bool)} {sT : V → LoopState} {pT : V → Option Code} {fn : FuncId} {D : Nat} {d0 : T25} {d1 : T25} {d2 : V → (List Int)} {d3 : V → Bool} (hy : ∀ {v : V} {x : (List Int)} {r : V × Bool}, y v x = some r → YD cx 0 [k89.a x] [.raw (rcd fn #[13] (rgA (bl1 (sq2 (sq1 (sq2 (Option.getD Tryz.f58.body .skip)))))) (rgB (bl1 (sq2 (sq1 (sq2 (Option.getD Tryz.f58.body .skip)))))) D (sT v) (pT v)) (slN 25 [(2, .ref 1 []), (3, .ref 2 []), (4, .ref 3 []), (5, .ref 4 [])]), bx (k25.a d0), bx (k25.a d1), bx (k89.a (d2 v)), bx (bA (d3 v))] (bA r.2) [.raw (rcd fn #[13] (rgA (bl1 (sq2 (sq1 (sq2 (Option.getD Tryz.f58.body .skip)))))) (rgB (bl1 (sq2 (sq1 (sq2 (Option.getD Tryz.f58.body .skip)))))) D (sT r.1) (pT r.1)) (slN 25 [(2, .ref 1 []), (3, .ref 2 []), (4, .ref 3 []), (5, .ref 4 [])]), bx (k25.a d0), bx (k25.a d1), bx (k89.a (d2 r.1)), bx (bA (d3 r.1))]) {v0 : V} {x0 : T25} {x1 : Int} {r : V} (h : f92 y v0 x0 x1 = some r) :
 FnD cx 92 [.yd 0, .ref 5 [], .ref 6 []] [.raw (rcd fn #[13] (rgA (bl1 (sq2 (sq1 (sq2 (Option.getD Tryz.f58.body .skip)))))) (rgB (bl1 (sq2 (sq1 (sq2 (Option.getD Tryz.f58.body .skip)))))) D (sT v0) (pT v0)) (slN 25 [(2, .ref 1 []), (3, .ref 2 []), (4, .ref 3 []), (5, .ref 4 [])]), bx (k25.a d0), bx (k25.a d1), bx (k89.a (d2 v0)), bx (bA (d3 v0)), bx (k25.a x0), bx (k48.a x1)] (.tup []) [.raw (rcd fn #[13] (rgA (bl1 (sq2 (sq1 (sq2 (Option.getD Tryz.f58.body .skip)))))) (rgB (bl1 (sq2 (sq1 (sq2 (Option.getD Tryz.f58.body .skip)))))) D (sT r) (pT r)) (slN 25 [(2, .ref 1 []), (3, .ref 2 []), (4, .ref 3 []), (5, .ref 4 [])]), bx (k25.a d0), bx (k25.a d1), bx (k89.a (d2 r)), bx (bA (d3 r)), bx (k25.a x0), bx (k48.a x1)] := by
 unfold f92 at h
 refine fnD_intro (fn := Tryz.f92) (by kernel_rfl) rfl (by kernel_rfl) (by kernel_rfl) fun E => ?_
 refine CD.seq (rg [] [(4, .ref 1004 [])] [(1004, bx (k89.a [0, 0, 0, 0, 0, 0, 0, 0, 0]))] a0 ?_)
 rcases bd_some h with ⟨v1, g2, h⟩
 refine rg [(4, hC (bA v1.1) [.raw (rcd fn #[13] (rgA (bl1 (sq2 (sq1 (sq2 (Option.getD Tryz.f58.body .skip)))))) (rgB (bl1 (sq2 (sq1 (sq2 (Option.getD Tryz.f58.body .skip)))))) D (sT v1.2) (pT v1.2)) (slN 25 [(2, .ref 1 []), (3, .ref 2 []), (4, .ref 3 []), (5, .ref 4 [])]), bx (k25.a d0), bx (k25.a d1), bx (k89.a (d2 v1.2)), bx (bA (d3 v1.2))] [0, 1, 2, 3, 4] [])] [] [(4, bx (bA (d3 v1.2))), (3, bx (k89.a (d2 v1.2))), (2, bx (k25.a d1)), (1, bx (k25.a d0)), (0, .raw (rcd fn #[13] (rgA (bl1 (sq2 (sq1 (sq2 (Option.getD Tryz.f58.body .skip)))))) (rgB (bl1 (sq2 (sq1 (sq2 (Option.getD Tryz.f58.body .skip)))))) D (sT v1.2) (pT v1.2)) (slN 25 [(2, .ref 1 []), (3, .ref 2 []), (4, .ref 3 []), (5, .ref 4 [])]))] (a1 (c93 hy g2) a0) ?_
 obtain rfl := sm h
 exact NX.fin [0, 1, 2, 3, 4, 5, 6] a0 (by kernel_rfl)

end Go.Sep.Y
