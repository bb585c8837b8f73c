/- Part of the proof: mirrors of the functions of this seat, and that the functions give what their mirrors give. -/
import Derived.Test.YtkchimbalpiilaaGreatSepYM3
set_option linter.all false
set_option linter.deprecated false
open Go Go.Sep Go.Proofs
set_option maxRecDepth 100000
namespace Go.Sep.Y
-- f89 spec.l6Seek
def f89o (r89 : T25 → T25 → (List Bool) → (List Int) → Int → Option ((List Int) × Bool)) (x0 : T25) (x1 : T25) (x2 : (List Bool)) (x3 : (List Int)) (x4 : Int) : Option ((List Int) × Bool) :=
 jn (
 bd (f106 x0.f0 x3) fun v4 =>
 if (!v4) = true then
 some (.inr (([] : List Int), false))
 else
 bd (f107 x0.f1 x3) fun v7 =>
 if (!v7) = true then
 some (.inr (([] : List Int), false))
 else
 some (.inl ())) fun (v1 : Unit) =>
 if (decide (x4 > 8)) = true then
 bd (f109 x0.f1 x3) fun v11 =>
 bd (f108 v11) fun v13 =>
 if v13 = true then
 bd (f110 x0 x1 x3) fun v16 =>
 if (!v16) = true then
 bd (ap 8 ([] : List Int) x3) fun v19 =>
 some (v19, true)
 else
 some (([] : List Int), false)
 else
 some (([] : List Int), false)
 else
 bd (ix x2 x4) fun v21 =>
 if (!v21) = true then
 bd (r89 x0 x1 x2 x3 (ad x4 1)) fun v24 =>
 some (v24.1, v24.2)
 else
 jn (
 iter (fun (v54 : Int) =>
 if (decide (v54 ≤ x4)) = true then
 jn (
 jn (
 if (decide (v54 < x4)) = true then
 bd (ix x3 v54) fun v65 =>
 if (v65 != v54) = true then
 some (.inr (.inl ()))
 else
 some (.inl ())
 else
 some (.inl ())) fun (v61 : Unit) =>
 bd (ap 8 ([] : List Int) x3) fun v68 =>
 bd (ix v68 x4) fun v70 =>
 bd (st v68 x4 v54) fun v72 =>
 bd (r89 x0 x1 x2 v72 (ad x4 1)) fun v76 =>
 if v76.2 = true then
 some (.inr (.inr (.inr (v76.1, true))))
 else
 some (.inl ())) fun (v58 : Unit) =>
 some (.inl (ad v54 1))
 else
 some (.inr (.inl ()))) 0) fun (v26 : Unit) =>
 some (([] : List Int), false)
def f89n : Nat → T25 → T25 → (List Bool) → (List Int) → Int → Option ((List Int) × Bool)
| 0 => fun _ _ _ _ _ => none
| k + 1 => f89o (f89n k)
def f89 (x0 : T25) (x1 : T25) (x2 : (List Bool)) (x3 : (List Int)) (x4 : Int) : Option ((List Int) × Bool) := f89n LF x0 x1 x2 x3 x4
theorem c89o {r89 : T25 → T25 → (List Bool) → (List Int) → Int → Option ((List Int) × Bool)} (i89 : ∀ {x0 : T25} {x1 : T25} {x2 : (List Bool)} {x3 : (List Int)} {x4 : Int} {r : (List Int) × Bool}, r89 x0 x1 x2 x3 x4 = some r → FnD cx 89 [k25.a x0, k25.a x1, k62.a x2, k27.a x3, iA x4] [] (.tup [k27.a r.1, bA r.2]) []) {x0 : T25} {x1 : T25} {x2 : (List Bool)} {x3 : (List Int)} {x4 : Int} {r : (List Int) × Bool} (h : f89o r89 x0 x1 x2 x3 x4 = some r) :
 FnD cx 89 [k25.a x0, k25.a x1, k62.a x2, k27.a x3, iA x4] [] (.tup [k27.a r.1, bA r.2]) [] := by
 unfold f89o at h
 refine fnD_intro (fn := Tryz.f89) (by kernel_rfl) rfl (by kernel_rfl) (by kernel_rfl) fun E => ?_
 refine CD.seq (rg [] [(5, .ref 1005 []), (6, .ref 1006 [])] [(1006, bx (k25.a x1)), (1005, bx (k25.a x0))] a0 (CD.join (fun (v1 : Unit) => ⟨[(2, k62.a x2), (3, k27.a x3), (4, iA x4), (5, .ref 1005 []), (6, .ref 1006 [])], [(1005, bx (k25.a x0)), (1006, bx (k25.a x1))]⟩) h (fun u2 h q3 => ?_) (fun v1 h => ?_)))
 refine CD.seq ?_
 rcases bd_some h with ⟨v4, g5, h⟩
 rcases if_some h with ⟨g6, h⟩ | ⟨g6, h⟩
 refine rg [(3, hC (bA v4) [] [] []), (5, hT1)] [(27, bA true)] [] (a1 (c106 g5) (a1 (oB (c := (!v4)) g6) a0)) (CD.condT (b := true) (by kernel_rfl) rfl (CD.seq (rg [] [(10, k27.a ([] : List Int)), (11, bA false)] [] a0 (CD.ret ?_))))
 obtain rfl := sm h
 obtain rfl := q3 _ rfl
 exact NX.ret [] a0 (by kernel_rfl)
 rcases bd_some h with ⟨v7, g8, h⟩
 refine rg [(3, hC (bA v4) [] [] []), (5, hF1), (9, hC (bA v7) [] [] [])] [(27, bA (!v7))] [] (a1 (c106 g5) (a1 (oB (c := (!v4)) g6) (a1 (c107 g8) a0))) (br h (fun g9 h => ?_) (fun g9 h => ?_))
 refine CD.seq (rg [] [(10, k27.a ([] : List Int)), (11, bA false)] [] a0 (CD.ret ?_))
 obtain rfl := sm h
 obtain rfl := q3 _ rfl
 exact NX.ret [] a0 (by kernel_rfl)
 refine CD.skip ?_
 obtain rfl := sm h
 exact NX.inl (by kernel_rfl)
 refine CD.seq (CD.seq (rg [] [(30, bA (decide (x4 > 8)))] [] a0 (br h (fun g10 h => ?_) (fun g10 h => ?_))))
 refine CD.seq (CD.seq ?_)
 rcases bd_some h with ⟨v11, g12, h⟩
 rcases bd_some h with ⟨v13, g14, h⟩
 rcases if_some h with ⟨g15, h⟩ | ⟨g15, h⟩
 rcases bd_some h with ⟨v16, g17, h⟩
 refine rg [(3, hC (.own 0 v11.length) [k60.r 61 (.node [.cell, .cell, .cell]) v11] [] [2680]), (4, hC (bA v13) [] [] []), (5, hT1), (9, hC (bA v16) [] [] [])] [(42, bA (!v16))] [(2680, k60.r 61 (.node [.cell, .cell, .cell]) v11)] (a1 (c109 g12) (a1 (k_len' k60 v11) (a1 (c108 g14) (a1 (show AV.plain (bA v13) = true ∧ allPlain [] = true from ⟨rfl, pl0⟩) (a1 (oB (c := v13) g15) (a1 (c110 g17) a0)))))) (br h (fun g18 h => ?_) (fun g18 h => ?_))
 refine CD.seq ?_
 rcases bd_some h with ⟨v19, g20, h⟩
 refine rg [(0, hO), (2, hW (.own 1043 v19.length) [(1043, k3.r 3 .cell v19)])] [(10, .own 1043 v19.length), (11, bA true)] [(1043, k3.r 3 .cell v19)] (a1 (o_ap k3 1043 3 .cell g20 trivial) a0) (CD.ret ?_)
 obtain rfl := sm h
 exact NX.ret [] (a1 (k_len' k3 v19) a0) (by kernel_rfl)
 refine CD.skip (CD.seq (rg [] [(10, k27.a ([] : List Int)), (11, bA false)] [] a0 (CD.ret ?_)))
 obtain rfl := sm h
 exact NX.ret [] a0 (by kernel_rfl)
 refine rg [(3, hC (.own 0 v11.length) [k60.r 61 (.node [.cell, .cell, .cell]) v11] [] [2680]), (4, hC (bA v13) [] [] []), (5, hF1)] [(42, bA false)] [(2680, k60.r 61 (.node [.cell, .cell, .cell]) v11)] (a1 (c109 g12) (a1 (k_len' k60 v11) (a1 (c108 g14) (a1 (show AV.plain (bA v13) = true ∧ allPlain [] = true from ⟨rfl, pl0⟩) (a1 (oB (c := v13) g15) a0))))) (CD.condF (b := false) (by kernel_rfl) rfl (CD.skip (CD.seq (rg [] [(10, k27.a ([] : List Int)), (11, bA false)] [] a0 (CD.ret ?_)))))
 obtain rfl := sm h
 exact NX.ret [] a0 (by kernel_rfl)
 refine CD.skip (CD.seq (CD.seq ?_))
 rcases bd_some h with ⟨v21, g22, h⟩
 refine rg [(2, hE (.bool v21))] [(51, bA (!v21))] [] (a1 (o_ix k4 g22) a0) (br h (fun g23 h => ?_) (fun g23 h => ?_))
 refine CD.seq ?_
 rcases bd_some h with ⟨v24, g25, h⟩
 refine rg [(6, hC (.tup [k27.a v24.1, bA v24.2]) [] [] [])] [(10, k27.a v24.1), (11, bA v24.2)] [] (a1 (i89 g25) a0) (CD.ret ?_)
 obtain rfl := sm h
 exact NX.ret [] a0 (by kernel_rfl)
 refine CD.skip (CD.join (fun (v26 : Unit) => ⟨[], []⟩) h (fun u27 h q28 => ?_) (fun v26 h => ?_))
 refine CD.seq (rg [] [(12, iA 0)] [] a0 (CD.block (CD.loopK (fun (v54 : Int) => ⟨[(2, k62.a x2), (3, k27.a x3), (4, iA x4), (5, .ref 1005 []), (6, .ref 1006 []), (12, iA v54)], [(1005, bx (k25.a x0)), (1006, bx (k25.a x1))]⟩) h (by kernel_rfl) (fun v54 u55 h q56 => ?_))))
 refine CD.seq (CD.seq (rg [] [(63, bA (decide (v54 ≤ x4)))] [] a0 (br h (fun g57 h => ?_) (fun g57 h => ?_))))
 refine CD.skip (CD.join (fun (v58 : Unit) => ⟨[(2, k62.a x2), (3, k27.a x3), (4, iA x4), (5, .ref 1005 []), (6, .ref 1006 []), (12, iA v54)], [(1005, bx (k25.a x0)), (1006, bx (k25.a x1))]⟩) h (fun u59 h q60 => ?_) (fun v58 h => ?_))
 refine CD.block (CD.join (fun (v61 : Unit) => ⟨[(2, k62.a x2), (3, k27.a x3), (4, iA x4), (5, .ref 1005 []), (6, .ref 1006 []), (12, iA v54)], [(1005, bx (k25.a x0)), (1006, bx (k25.a x1))]⟩) h (fun u62 h q63 => ?_) (fun v61 h => ?_))
 refine CD.seq ?_
 rcases if_some h with ⟨g64, h⟩ | ⟨g64, h⟩
 rcases bd_some h with ⟨v65, g66, h⟩
 refine rg [(3, hT1), (6, hE (.int .i64 v65))] [(76, bA (v65 != v54))] [] (a1 (oB (c := (decide (v54 < x4))) g64) (a1 (o_ix k3 g66) a0)) (br h (fun g67 h => ?_) (fun g67 h => ?_))
 refine CD.exit ?_
 obtain rfl := sm h
 obtain rfl := q63 _ rfl
 exact NX.lq (NX.brk (NX.inl (by kernel_rfl)))
 refine CD.skip ?_
 obtain rfl := sm h
 exact NX.inl (by kernel_rfl)
 refine rg [(3, hF1)] [(76, bA false)] [] (a1 (oB (c := (decide (v54 < x4))) g64) a0) (CD.condF (b := false) (by kernel_rfl) rfl (CD.skip ?_))
 obtain rfl := sm h
 exact NX.inl (by kernel_rfl)
 refine CD.seq ?_
 rcases bd_some h with ⟨v68, g69, h⟩
 refine rg [(0, hO), (2, hW (.own 1077 v68.length) [(1077, k3.r 3 .cell v68)])] [(13, .own 1077 v68.length)] [(1077, k3.r 3 .cell v68)] (a1 (o_ap k3 1077 3 .cell g69 trivial) a0) (CD.seq ?_)
 rcases bd_some h with ⟨v70, g71, h⟩
 rcases bd_some h with ⟨v72, g73, h⟩
 refine rg [(4, hF (.int .i64 v70) [(1077, k3.r 3 .cell v72)])] [] [(1077, k3.r 3 .cell v72)] (a1 (o_ixr k3 g71) (a1 (o_st k3 (y' := v54) 1077 3 .cell g71 g73 (k_len' k3 v68)) a0)) ?_
 rw [st_len g73]
 refine CD.seq ?_
 rcases bd_some h with ⟨v76, g77, h⟩
 refine NX.fz k3 1077 3 .cell v72 (rg [(6, hC (.tup [k27.a v76.1, bA v76.2]) [] [] [])] [(14, k27.a v76.1), (15, bA v76.2)] [] (a1 (k_len' k3 v72) (a1 (i89 g77) a0)) (CD.seq (rg [] [(94, bA v76.2)] [] a0 (br h (fun g78 h => ?_) (fun g78 h => ?_)))))
 refine CD.seq (rg [] [(10, k27.a v76.1), (11, bA true)] [] a0 (CD.ret ?_))
 obtain rfl := sm h
 obtain rfl := q60 _ rfl
 obtain rfl := q56 _ rfl
 obtain rfl := q28 _ rfl
 exact NX.ret [] a0 (by kernel_rfl)
 refine CD.skip ?_
 obtain rfl := sm h
 exact NX.blN (NX.inl (by kernel_rfl))
 refine rg [] [(12, iA (ad v54 1))] [] a0 ?_
 obtain rfl := sm h
 exact NX.inl (by kernel_rfl)
 refine CD.exit ?_
 obtain rfl := sm h
 obtain rfl := q56 _ rfl
 exact NX.th (NX.lq (NX.brk (NX.inl (by kernel_rfl))))
 refine CD.seq (rg [] [(10, k27.a ([] : List Int)), (11, bA false)] [] a0 (CD.ret ?_))
 obtain rfl := sm h
 exact NX.ret [] a0 (by kernel_rfl)

theorem c89n : ∀ (k0 : Nat), ∀ {x0 : T25} {x1 : T25} {x2 : (List Bool)} {x3 : (List Int)} {x4 : Int} {r : (List Int) × Bool}, f89n k0 x0 x1 x2 x3 x4 = some r → FnD cx 89 [k25.a x0, k25.a x1, k62.a x2, k27.a x3, iA x4] [] (.tup [k27.a r.1, bA r.2]) []
| 0 => fun h => by cases h
| k0 + 1 => fun h => c89o (c89n k0) h
theorem c89 {x0 : T25} {x1 : T25} {x2 : (List Bool)} {x3 : (List Int)} {x4 : Int} {r : (List Int) × Bool} (h : f89 x0 x1 x2 x3 x4 = some r) :
 FnD cx 89 [k25.a x0, k25.a x1, k62.a x2, k27.a x3, iA x4] [] (.tup [k27.a r.1, bA r.2]) [] := c89n LF h

-- f26 spec.l3Terms
def f26 (x0 : T25) : Option ((List Bool)) :=
 bd (mk 1 (false : Bool) 9 9) fun v1 =>
 jn (
 iter (fun (v22 : (List Bool) × Int) =>
 if (decide (v22.2 < (ln x0.f0))) = true then
 bd (ix x0.f0 v22.2) fun v26 =>
 bd (ix v22.1 v26.f1) fun v28 =>
 bd (st v22.1 v26.f1 true) fun v30 =>
 bd (ix x0.f0 v22.2) fun v32 =>
 bd (ix v30 v32.f2) fun v34 =>
 bd (st v30 v32.f2 true) fun v36 =>
 some (.inl (v36, ad v22.2 1))
 else
 some (.inr (.inl v22.1))) (v1, 0)) fun (v3 : (List Bool)) =>
 jn (
 iter (fun (v57 : (List Bool) × Int) =>
 if (decide (v57.2 < (ln x0.f1))) = true then
 bd (ix x0.f1 v57.2) fun v61 =>
 bd (ix v57.1 v61.f1) fun v63 =>
 bd (st v57.1 v61.f1 true) fun v65 =>
 bd (ix x0.f1 v57.2) fun v67 =>
 bd (ix v65 v67.f2) fun v69 =>
 bd (st v65 v67.f2 true) fun v71 =>
 some (.inl (v71, ad v57.2 1))
 else
 some (.inr (.inl v57.1))) (v3, 0)) fun (v38 : (List Bool)) =>
 some v38
theorem c26 {x0 : T25} {r : (List Bool)} (h : f26 x0 = some r) :
 FnD cx 26 [k25.a x0] [] (.own 0 r.length) [k4.r 4 .cell r] := by
 unfold f26 at h
 refine fnD_intro (fn := Tryz.f26) (by kernel_rfl) rfl (by kernel_rfl) (by kernel_rfl) fun E => ?_
 refine CD.seq (rg [] [(1, .ref 1001 [])] [(1001, bx (k25.a x0))] a0 (CD.seq ?_))
 rcases bd_some h with ⟨v1, g2, h⟩
 refine rg [(0, hW (.own 1006 v1.length) [(1006, k4.r 4 .cell v1)])] [(3, .own 1006 v1.length)] [(1006, k4.r 4 .cell v1)] (a1 (o_mk k4 1006 4 .cell g2 trivial) a0) (CD.join (fun (v3 : (List Bool)) => ⟨[(1, .ref 1001 []), (3, .own 1006 v3.length)], [(1006, k4.r 4 .cell v3), (1001, bx (k25.a x0))]⟩) h (fun u4 h q5 => ?_) (fun v3 h => ?_))
 refine CD.seq (rg [] [(4, iA 0)] [] a0 (CD.block (CD.loopK (fun (v22 : (List Bool) × Int) => ⟨[(1, .ref 1001 []), (3, .own 1006 v22.1.length), (4, iA v22.2)], [(1006, k4.r 4 .cell v22.1), (1001, bx (k25.a x0))]⟩) h (by kernel_rfl) (fun v22 u23 h q24 => ?_))))
 refine CD.seq (CD.seq (rg [(3, hV (iA (ln x0.f0)))] [(11, bA (decide (v22.2 < (ln x0.f0))))] [] (a1 (o_ln k53 x0.f0) a0) (br h (fun g25 h => ?_) (fun g25 h => ?_))))
 refine CD.skip (CD.seq (CD.block (CD.seq ?_)))
 rcases bd_some h with ⟨v26, g27, h⟩
 rcases bd_some h with ⟨v28, g29, h⟩
 rcases bd_some h with ⟨v30, g31, h⟩
 refine rg [(4, hE (k53.x v26)), (8, hF (.bool v28) [(1006, k4.r 4 .cell v30)])] [] [(1006, k4.r 4 .cell v30)] (a1 (o_ix k53 g27) (a1 (o_ixr k4 g29) (a1 (o_st k4 (y' := true) 1006 4 .cell g29 g31 (k_len' k4 v22.1)) a0))) ?_
 rw [st_len g31]
 rcases bd_some h with ⟨v32, g33, h⟩
 rcases bd_some h with ⟨v34, g35, h⟩
 rcases bd_some h with ⟨v36, g37, h⟩
 refine rg [(4, hE (k53.x v32)), (8, hF (.bool v34) [(1006, k4.r 4 .cell v36)])] [] [(1006, k4.r 4 .cell v36)] (a1 (o_ix k53 g33) (a1 (o_ixr k4 g35) (a1 (o_st k4 (y' := true) 1006 4 .cell g35 g37 (k_len' k4 v30)) a0))) ?_
 rw [st_len g37]
 refine NX.blN (rg [] [(4, iA (ad v22.2 1))] [] a0 ?_)
 obtain rfl := sm h
 exact NX.inl (by kernel_rfl)
 refine CD.exit ?_
 obtain rfl := sm h
 obtain rfl := q24 _ rfl
 exact NX.th (NX.lq (NX.brk (NX.inl (by kernel_rfl))))
 refine CD.join (fun (v38 : (List Bool)) => ⟨[(3, .own 1006 v38.length)], [(1006, k4.r 4 .cell v38)]⟩) h (fun u39 h q40 => ?_) (fun v38 h => ?_)
 refine CD.seq (rg [] [(5, iA 0)] [] a0 (CD.block (CD.loopK (fun (v57 : (List Bool) × Int) => ⟨[(1, .ref 1001 []), (3, .own 1006 v57.1.length), (5, iA v57.2)], [(1006, k4.r 4 .cell v57.1), (1001, bx (k25.a x0))]⟩) h (by kernel_rfl) (fun v57 u58 h q59 => ?_))))
 refine CD.seq (CD.seq (rg [(3, hV (iA (ln x0.f1)))] [(34, bA (decide (v57.2 < (ln x0.f1))))] [] (a1 (o_ln k60 x0.f1) a0) (br h (fun g60 h => ?_) (fun g60 h => ?_))))
 refine CD.skip (CD.seq (CD.block (CD.seq ?_)))
 rcases bd_some h with ⟨v61, g62, h⟩
 rcases bd_some h with ⟨v63, g64, h⟩
 rcases bd_some h with ⟨v65, g66, h⟩
 refine rg [(4, hE (k60.x v61)), (8, hF (.bool v63) [(1006, k4.r 4 .cell v65)])] [] [(1006, k4.r 4 .cell v65)] (a1 (o_ix k60 g62) (a1 (o_ixr k4 g64) (a1 (o_st k4 (y' := true) 1006 4 .cell g64 g66 (k_len' k4 v57.1)) a0))) ?_
 rw [st_len g66]
 rcases bd_some h with ⟨v67, g68, h⟩
 rcases bd_some h with ⟨v69, g70, h⟩
 rcases bd_some h with ⟨v71, g72, h⟩
 refine rg [(4, hE (k60.x v67)), (8, hF (.bool v69) [(1006, k4.r 4 .cell v71)])] [] [(1006, k4.r 4 .cell v71)] (a1 (o_ix k60 g68) (a1 (o_ixr k4 g70) (a1 (o_st k4 (y' := true) 1006 4 .cell g70 g72 (k_len' k4 v65)) a0))) ?_
 rw [st_len g72]
 refine NX.blN (rg [] [(5, iA (ad v57.2 1))] [] a0 ?_)
 obtain rfl := sm h
 exact NX.inl (by kernel_rfl)
 refine CD.exit ?_
 obtain rfl := sm h
 obtain rfl := q59 _ rfl
 exact NX.th (NX.lq (NX.brk (NX.inl (by kernel_rfl))))
 refine CD.seq (rg [] [(2, .own 1006 v38.length)] [] a0 (CD.ret ?_))
 obtain rfl := sm h
 exact NX.ret [1006] a0 (by kernel_rfl)

theorem c26d {x0 : T25} {r : (List Bool)} (h : f26 x0 = some r) :
 FnD cx 26 [k25.a x0] [] (k62.a r) [] :=
 FnD.data (xs := [.own 0 r.length]) (ys := [k62.a r]) (p := True) (q := ((r.length = (k4.m r).length) ∧ True)) (c26 h) [] (by kernel_rfl) (by kernel_rfl) a0 (by kernel_rfl) (a1 (k_len' k4 r) a0)


-- f90 spec.l6Both
def f90 (x0 : T25) (x1 : T25) : Option ((List Bool)) :=
 bd (ap 24 ([] : List T53) x0.f0) fun v1 =>
 bd (ap 24 v1 x1.f0) fun v3 =>
 bd (ap 24 ([] : List T60) x0.f1) fun v5 =>
 bd (ap 24 v5 x1.f1) fun v7 =>
 bd (f26 (⟨v3, v7⟩ : T25)) fun v9 =>
 some v9
theorem c90 {x0 : T25} {x1 : T25} {r : (List Bool)} (h : f90 x0 x1 = some r) :
 FnD cx 90 [k25.a x0, k25.a x1] [] (.own 0 r.length) [k4.r 4 .cell r] := by
 unfold f90 at h
 refine fnD_intro (fn := Tryz.f90) (by kernel_rfl) rfl (by kernel_rfl) (by kernel_rfl) fun E => ?_
 refine CD.seq (rg [] [(2, .ref 1002 []), (3, .ref 1003 [])] [(1003, bx (k25.a x1)), (1002, bx (k25.a x0))] a0 (CD.seq ?_))
 rcases bd_some h with ⟨v1, g2, h⟩
 rcases bd_some h with ⟨v3, g4, h⟩
 rcases bd_some h with ⟨v5, g6, h⟩
 rcases bd_some h with ⟨v7, g8, h⟩
 rcases bd_some h with ⟨v9, g10, h⟩
 refine rg [(0, hO), (1, hD [1002]), (2, hD [1002]), (3, (hW (.own 1005 v1.length) [(1005, k53.r 54 (.node [.cell, .cell, .cell]) v1)]).g [1005]), (4, hD [1003]), (5, hD [1003]), (6, (hW (.own 1005 v3.length) [(1005, k53.r 54 (.node [.cell, .cell, .cell]) v3)]).g [1005]), (7, hO), (8, hD [1002]), (9, hD [1002]), (10, (hW (.own 1012 v5.length) [(1012, k60.r 61 (.node [.cell, .cell, .cell]) v5)]).g [1012]), (11, hD [1003]), (12, hD [1003]), (13, (hW (.own 1012 v7.length) [(1012, k60.r 61 (.node [.cell, .cell, .cell]) v7)]).g [1012]), (15, (hC (.own 0 v9.length) [k4.r 4 .cell v9] [] [2400]).g [1005, 1012])] [(4, .own 2400 v9.length)] [(2400, k4.r 4 .cell v9), (1012, k60.r 61 (.node [.cell, .cell, .cell]) v7), (1005, k53.r 54 (.node [.cell, .cell, .cell]) v3)] (a1 (o_ap k53 1005 54 (.node [.cell, .cell, .cell]) g2 trivial) (a1 (o_ap k53 1005 54 (.node [.cell, .cell, .cell]) g4 trivial) (a1 (o_ap k60 1012 61 (.node [.cell, .cell, .cell]) g6 trivial) (a1 (o_ap k60 1012 61 (.node [.cell, .cell, .cell]) g8 trivial) (a1 (k_len' k53 v3) (a1 (k_len' k60 v7) (a1 (c26 g10) (a1 (show AV.plain (.own 0 v9.length) = true ∧ allPlain [k4.r 4 .cell v9] = true from ⟨rfl, (plR k4 (fun _ => rfl) pl0)⟩) a0)))))))) (CD.ret ?_)
 obtain rfl := sm h
 exact NX.ret [2400] a0 (by kernel_rfl)

theorem c90d {x0 : T25} {x1 : T25} {r : (List Bool)} (h : f90 x0 x1 = some r) :
 FnD cx 90 [k25.a x0, k25.a x1] [] (k62.a r) [] :=
 FnD.data (xs := [.own 0 r.length]) (ys := [k62.a r]) (p := True) (q := ((r.length = (k4.m r).length) ∧ True)) (c90 h) [] (by kernel_rfl) (by kernel_rfl) a0 (by kernel_rfl) (a1 (k_len' k4 r) a0)


-- f91 spec.l5Open
def f91 : Option ((List Int)) :=
 jn (
 iter (fun (v10 : (List Int)) =>
 if (decide ((ln v10) ≤ 8)) = true then
 bd (ap 8 v10 ([(-1)] : List Int)) fun v14 =>
 some (.inl v14)
 else
 some (.inr (.inl v10))) ([0] : List Int)) fun (v1 : (List Int)) =>
 some v1
theorem c91 {r : (List Int)} (h : f91 = some r) :
 FnD cx 91 [] [] (.own 0 r.length) [k3.r 3 .cell r] := by
 unfold f91 at h
 refine fnD_intro (fn := Tryz.f91) (by kernel_rfl) rfl (by kernel_rfl) (by kernel_rfl) fun E => ?_
 refine CD.seq (rg [] [] [] a0 (CD.seq (rg [(0, hO)] [(1, .own 1002 (([0] : List Int).length))] [(1002, k3.r 3 .cell ([0] : List Int))] a0 (CD.join (fun (v1 : (List Int)) => ⟨[(1, .own 1002 v1.length)], [(1002, k3.r 3 .cell v1)]⟩) h (fun u2 h q3 => ?_) (fun v1 h => ?_)))))
 refine CD.block (CD.loopK (fun (v10 : (List Int)) => ⟨[(1, .own 1002 v10.length)], [(1002, k3.r 3 .cell v10)]⟩) h (by kernel_rfl) (fun v10 u11 h q12 => ?_))
 refine CD.seq (CD.seq (rg [] [(5, bA (decide ((ln v10) ≤ 8)))] [] a0 (br h (fun g13 h => ?_) (fun g13 h => ?_))))
 refine CD.skip (CD.block ?_)
 rcases bd_some h with ⟨v14, g15, h⟩
 refine rg [(2, hW (.own 1002 v14.length) [(1002, k3.r 3 .cell v14)])] [(1, .own 1002 v14.length)] [(1002, k3.r 3 .cell v14)] (a1 (o_ap k3 1002 3 .cell g15 trivial) a0) ?_
 obtain rfl := sm h
 exact NX.blN (NX.inl (by kernel_rfl))
 refine CD.exit ?_
 obtain rfl := sm h
 obtain rfl := q12 _ rfl
 exact NX.th (NX.lq (NX.brk (NX.inl (by kernel_rfl))))
 refine CD.seq (rg [] [(0, .own 1002 v1.length)] [] a0 (CD.ret ?_))
 obtain rfl := sm h
 exact NX.ret [1002] a0 (by kernel_rfl)

theorem c91d {r : (List Int)} (h : f91 = some r) :
 FnD cx 91 [] [] (k27.a r) [] :=
 FnD.data (xs := [.own 0 r.length]) (ys := [k27.a r]) (p := True) (q := ((r.length = (k3.m r).length) ∧ True)) (c91 h) [] (by kernel_rfl) (by kernel_rfl) a0 (by kernel_rfl) (a1 (k_len' k3 r) a0)


-- f72 spec.l6Fails
def f72 (x0 : T25) (x1 : T25) : Option ((List Int) × Bool) :=
 bd (f90 x0 x1) fun v1 =>
 bd f91 fun v3 =>
 bd (f89 x0 x1 v1 v3 1) fun v5 =>
 some (v5.1, v5.2)
theorem c72 {x0 : T25} {x1 : T25} {r : (List Int) × Bool} (h : f72 x0 x1 = some r) :
 FnD cx 72 [k25.a x0, k25.a x1] [] (.tup [k27.a r.1, bA r.2]) [] := by
 unfold f72 at h
 refine fnD_intro (fn := Tryz.f72) (by kernel_rfl) rfl (by kernel_rfl) (by kernel_rfl) fun E => ?_
 refine CD.seq (rg [] [(2, .ref 1002 []), (3, .ref 1003 [])] [(1003, bx (k25.a x1)), (1002, bx (k25.a x0))] a0 (CD.seq ?_))
 rcases bd_some h with ⟨v1, g2, h⟩
 rcases bd_some h with ⟨v3, g4, h⟩
 rcases bd_some h with ⟨v5, g6, h⟩
 refine rg [(0, hD [1002]), (1, hD [1003]), (2, hD [1002]), (3, hD [1003]), (4, hC (k62.a v1) [] [] []), (5, hC (k27.a v3) [] [] []), (6, hC (.tup [k27.a v5.1, bA v5.2]) [] [] [])] [(4, k27.a v5.1), (5, bA v5.2)] [] (a1 (c90d g2) (a1 (c91d g4) (a1 (c89 g6) a0))) (CD.ret ?_)
 obtain rfl := sm h
 exact NX.ret [] a0 (by kernel_rfl)


-- f54 spec.Entails
def f54 (x0 : T25) (x1 : T25) : Option (Bool) :=
 jn (
 bd (f22 x0) fun v4 =>
 if (!v4) = true then
 some (.inr false)
 else
 bd (f22 x1) fun v7 =>
 if (!v7) = true then
 some (.inr false)
 else
 some (.inl ())) fun (v1 : Unit) =>
 bd (f72 x0 x1) fun v10 =>
 some (!v10.2)
theorem c54 {x0 : T25} {x1 : T25} {r : Bool} (h : f54 x0 x1 = some r) :
 FnD cx 54 [k25.a x0, k25.a x1] [] (bA r) [] := by
 unfold f54 at h
 refine fnD_intro (fn := Tryz.f54) (by kernel_rfl) rfl (by kernel_rfl) (by kernel_rfl) fun E => ?_
 refine CD.seq (rg [] [(2, .ref 1002 []), (3, .ref 1003 [])] [(1003, bx (k25.a x1)), (1002, bx (k25.a x0))] a0 (CD.join (fun (v1 : Unit) => ⟨[(2, .ref 1002 []), (3, .ref 1003 [])], [(1002, bx (k25.a x0)), (1003, bx (k25.a x1))]⟩) h (fun u2 h q3 => ?_) (fun v1 h => ?_)))
 refine CD.seq ?_
 rcases bd_some h with ⟨v4, g5, h⟩
 rcases if_some h with ⟨g6, h⟩ | ⟨g6, h⟩
 refine rg [(1, hC (bA v4) [] [] []), (3, hT1)] [(14, bA true)] [] (a1 (c22 g5) (a1 (oB (c := (!v4)) g6) a0)) (CD.condT (b := true) (by kernel_rfl) rfl (CD.seq (rg [] [(4, bA false)] [] a0 (CD.ret ?_))))
 obtain rfl := sm h
 obtain rfl := q3 _ rfl
 exact NX.ret [] a0 (by kernel_rfl)
 rcases bd_some h with ⟨v7, g8, h⟩
 refine rg [(1, hC (bA v4) [] [] []), (3, hF1), (5, hC (bA v7) [] [] [])] [(14, bA (!v7))] [] (a1 (c22 g5) (a1 (oB (c := (!v4)) g6) (a1 (c22 g8) a0))) (br h (fun g9 h => ?_) (fun g9 h => ?_))
 refine CD.seq (rg [] [(4, bA false)] [] a0 (CD.ret ?_))
 obtain rfl := sm h
 obtain rfl := q3 _ rfl
 exact NX.ret [] a0 (by kernel_rfl)
 refine CD.skip ?_
 obtain rfl := sm h
 exact NX.inl (by kernel_rfl)
 refine CD.seq ?_
 rcases bd_some h with ⟨v10, g11, h⟩
 refine rg [(2, hC (.tup [k27.a v10.1, bA v10.2]) [] [] [])] [(6, bA v10.2)] [] (a1 (c72 g11) a0) (CD.seq (rg [] [(4, bA (!v10.2))] [] a0 (CD.ret ?_)))
 obtain rfl := sm h
 exact NX.ret [] a0 (by kernel_rfl)


-- f103 spec.l6Without
def f103 (x0 : T25) (x1 : Int) (x2 : Int) (x3 : T60) : Option ((List T53) × (List T60)) :=
 bd (ap 24 ([] : List T53) x0.f0) fun v1 =>
 jn (
 iter (fun (v19 : (List T60) × Int) =>
 if (decide (v19.2 < (ln x0.f1))) = true then
 jn (
 if (v19.2 != x1) = true then
 some (.inl (v19.2 != x2))
 else
 some (.inl false)) fun (v23 : Bool) =>
 if v23 = true then
 bd (ix x0.f1 v19.2) fun v28 =>
 bd (ap 24 v19.1 ([v28] : List T60)) fun v30 =>
 some (.inl (v30, ad v19.2 1))
 else
 some (.inl (v19.1, ad v19.2 1))
 else
 some (.inr (.inl v19.1))) (([x3] : List T60), 0)) fun (v3 : (List T60)) =>
 some (v1, v3)
theorem c103 {x0 : T25} {x1 : Int} {x2 : Int} {x3 : T60} {r : (List T53) × (List T60)} (h : f103 x0 x1 x2 x3 = some r) :
 FnD cx 103 [k25.a x0, iA x1, iA x2, k60.a x3] [] (.agg [.own 0 r.1.length, .own 1 r.2.length]) [k53.r 54 (.node [.cell, .cell, .cell]) r.1, k60.r 61 (.node [.cell, .cell, .cell]) r.2] := by
 unfold f103 at h
 refine fnD_intro (fn := Tryz.f103) (by kernel_rfl) rfl (by kernel_rfl) (by kernel_rfl) fun E => ?_
 refine CD.seq (rg [] [(4, .ref 1004 []), (7, .ref 1007 []), (8, .ref 1008 [])] [(1008, bx (.agg [.nils (.node [.cell, .cell, .cell]), .nils (.node [.cell, .cell, .cell])])), (1007, bx (k60.a x3)), (1004, bx (k25.a x0))] a0 (CD.seq ?_))
 rcases bd_some h with ⟨v1, g2, h⟩
 refine rg [(0, hO), (1, hD [1004]), (2, hD [1004]), (3, (hW (.own 1011 v1.length) [(1011, k53.r 54 (.node [.cell, .cell, .cell]) v1)]).g [1011]), (4, hD [1007]), (5, hO), (8, hD [1009])] [(9, .ref 1009 [])] [(1009, bx (.agg [.own 1011 v1.length, .own 1016 (([x3] : List T60).length)])), (1016, k60.r 61 (.node [.cell, .cell, .cell]) ([x3] : List T60)), (1011, k53.r 54 (.node [.cell, .cell, .cell]) v1)] (a1 (o_ap k53 1011 54 (.node [.cell, .cell, .cell]) g2 trivial) a0) (CD.join (fun (v3 : (List T60)) => ⟨[(8, .ref 1008 []), (9, .ref 1009 [])], [(1011, k53.r 54 (.node [.cell, .cell, .cell]) v1), (1016, k60.r 61 (.node [.cell, .cell, .cell]) v3), (1008, bx (.agg [.nils (.node [.cell, .cell, .cell]), .nils (.node [.cell, .cell, .cell])])), (1009, bx (.agg [.own 1011 v1.length, .own 1016 v3.length]))]⟩) h (fun u4 h q5 => ?_) (fun v3 h => ?_))
 refine CD.seq (rg [] [(10, iA 0)] [] a0 (CD.block (CD.loopK (fun (v19 : (List T60) × Int) => ⟨[(1, iA x1), (2, iA x2), (4, .ref 1004 []), (8, .ref 1008 []), (9, .ref 1009 []), (10, iA v19.2)], [(1011, k53.r 54 (.node [.cell, .cell, .cell]) v1), (1016, k60.r 61 (.node [.cell, .cell, .cell]) v19.1), (1004, bx (k25.a x0)), (1008, bx (.agg [.nils (.node [.cell, .cell, .cell]), .nils (.node [.cell, .cell, .cell])])), (1009, bx (.agg [.own 1011 v1.length, .own 1016 v19.1.length]))]⟩) h (by kernel_rfl) (fun v19 u20 h q21 => ?_))))
 refine CD.seq (CD.seq (rg [(3, hV (iA (ln x0.f1)))] [(22, bA (decide (v19.2 < (ln x0.f1))))] [] (a1 (o_ln k60 x0.f1) a0) (br h (fun g22 h => ?_) (fun g22 h => ?_))))
 refine CD.skip (CD.seq (CD.block (CD.join (fun (v23 : Bool) => ⟨[(1, iA x1), (2, iA x2), (4, .ref 1004 []), (8, .ref 1008 []), (9, .ref 1009 []), (10, iA v19.2), (32, bA v23)], [(1011, k53.r 54 (.node [.cell, .cell, .cell]) v1), (1016, k60.r 61 (.node [.cell, .cell, .cell]) v19.1), (1004, bx (k25.a x0)), (1008, bx (.agg [.nils (.node [.cell, .cell, .cell]), .nils (.node [.cell, .cell, .cell])])), (1009, bx (.agg [.own 1011 v1.length, .own 1016 v19.1.length]))]⟩) h (fun u24 h q25 => ?_) (fun v23 h => ?_))))
 rcases if_some h with ⟨g26, h⟩ | ⟨g26, h⟩
 refine rg [(3, hT1)] [(32, bA (v19.2 != x2))] [] (a1 (oB (c := (v19.2 != x1)) g26) a0) ?_
 obtain rfl := sm h
 exact NX.inl (by kernel_rfl)
 refine rg [(3, hF1)] [(32, bA false)] [] (a1 (oB (c := (v19.2 != x1)) g26) a0) ?_
 obtain rfl := sm h
 exact NX.inl (by kernel_rfl)
 refine br h (fun g27 h => ?_) (fun g27 h => ?_)
 rcases bd_some h with ⟨v28, g29, h⟩
 rcases bd_some h with ⟨v30, g31, h⟩
 refine rg [(0, hD [1009]), (1, hD [1009]), (2, hD [1004]), (3, hD [1004]), (5, hE (k60.x v28)), (8, (hW (.own 1016 v30.length) [(1016, k60.r 61 (.node [.cell, .cell, .cell]) v30)]).g [1016]), (9, hD [1009]), (10, hD [1009])] [] [(1009, bx (.agg [.own 1011 v1.length, .own 1016 v30.length])), (1016, k60.r 61 (.node [.cell, .cell, .cell]) v30)] (a1 (o_ix k60 g29) (a1 (o_ap k60 1016 61 (.node [.cell, .cell, .cell]) g31 trivial) a0)) (NX.blN (rg [] [(10, iA (ad v19.2 1))] [] a0 ?_))
 obtain rfl := sm h
 exact NX.inl (by kernel_rfl)
 refine CD.skip (NX.blN (rg [] [(10, iA (ad v19.2 1))] [] a0 ?_))
 obtain rfl := sm h
 exact NX.inl (by kernel_rfl)
 refine CD.exit ?_
 obtain rfl := sm h
 obtain rfl := q21 _ rfl
 exact NX.th (NX.lq (NX.brk (NX.inl (by kernel_rfl))))
 refine CD.seq (rg [] [] [(1008, bx (.agg [.own 1011 v1.length, .own 1016 v3.length]))] a0 (CD.ret ?_))
 obtain rfl := sm h
 exact NX.ret [1011, 1016] a0 (by kernel_rfl)

theorem c103d {x0 : T25} {x1 : Int} {x2 : Int} {x3 : T60} {r : (List T53) × (List T60)} (h : f103 x0 x1 x2 x3 = some r) :
 FnD cx 103 [k25.a x0, iA x1, iA x2, k60.a x3] [] (k25.a (⟨r.1, r.2⟩ : T25)) [] :=
 FnD.data (xs := [.agg [.own 0 r.1.length, .own 1 r.2.length]]) (ys := [k25.a (⟨r.1, r.2⟩ : T25)]) (p := True) (q := (((r.1.length = (k53.m r.1).length) ∧ ((r.2.length = (k60.m r.2).length) ∧ True)) ∧ True)) (c103 h) [] (by kernel_rfl) (by kernel_rfl) a0 (by kernel_rfl) (a1 (k_len' k53 r.1) (a1 (k_len' k60 r.2) a0))


-- f86 spec.FoldCells
def f86 (x0 : T25) : Option ((List T53) × (List T60) × Bool) :=
 bd (f22 x0) fun v1 =>
 if (!v1) = true then
 some ([], [], false)
 else
 jn (
 iter (fun (v64 : Int) =>
 if (decide (v64 < (ln x0.f1))) = true then
 jn (
 iter (fun (v96 : Int) =>
 if (decide (v96 < (ln x0.f1))) = true then
 jn (
 jn (
 if (v64 == v96) = true then
 some (.inr (.inl ()))
 else
 bd (ix x0.f1 v64) fun v107 =>
 bd (ix x0.f1 v96) fun v109 =>
 if (v107.f2 != v109.f1) = true then
 some (.inr (.inl ()))
 else
 some (.inl ())) fun (v103 : Unit) =>
 bd (ix x0.f1 v64) fun v112 =>
 bd (ix x0.f1 v96) fun v114 =>
 bd (f103 x0 v64 v96 (⟨2, v112.f1, v114.f2⟩ : T60)) fun v116 =>
 bd (f54 x0 (⟨v116.1, v116.2⟩ : T25)) fun v118 =>
 if v118 = true then
 some (.inr (.inr (.inr (.inr (.inr (v116.1, v116.2, true))))))
 else
 some (.inl ())) fun (v100 : Unit) =>
 some (.inl (ad v96 1))
 else
 some (.inr (.inl ()))) 0) fun (v68 : Unit) =>
 some (.inl (ad v64 1))
 else
 some (.inr (.inl ()))) 0) fun (v4 : Unit) =>
 some ([], [], false)
theorem c86 {x0 : T25} {r : (List T53) × (List T60) × Bool} (h : f86 x0 = some r) :
 FnD cx 86 [k25.a x0] [] (.tup [.agg [.own 0 r.1.length, .own 1 r.2.1.length], bA r.2.2]) [k53.r 54 (.node [.cell, .cell, .cell]) r.1, k60.r 61 (.node [.cell, .cell, .cell]) r.2.1] := by
 unfold f86 at h
 refine fnD_intro (fn := Tryz.f86) (by kernel_rfl) rfl (by kernel_rfl) (by kernel_rfl) fun E => ?_
 refine CD.seq (rg [] [(1, .ref 1001 []), (2, .ref 1002 [])] [(1002, bx (.agg [.nils (.node [.cell, .cell, .cell]), .nils (.node [.cell, .cell, .cell])])), (1001, bx (k25.a x0))] a0 (CD.seq (CD.seq ?_)))
 rcases bd_some h with ⟨v1, g2, h⟩
 refine rg [(1, hC (bA v1) [] [] [])] [(9, bA (!v1))] [] (a1 (c22 g2) a0) (br h (fun g3 h => ?_) (fun g3 h => ?_))
 refine CD.seq (rg [] [(3, bA false)] [(1002, bx (.agg [.nils (.node [.cell, .cell, .cell]), .nils (.node [.cell, .cell, .cell])]))] a0 (CD.ret ?_))
 obtain rfl := sm h
 exact NX.own0b 1002 5000 [0] 54 (sh := (.node [.cell, .cell, .cell])) (c := .agg [.nils (.node [.cell, .cell, .cell]), .nils (.node [.cell, .cell, .cell])]) (c' := .agg [.own 5000 0, .nils (.node [.cell, .cell, .cell])]) (by kernel_rfl) (by kernel_rfl) (by kernel_rfl) (by kernel_rfl) (NX.own0b 1002 5001 [1] 61 (sh := (.node [.cell, .cell, .cell])) (c := .agg [.own 5000 0, .nils (.node [.cell, .cell, .cell])]) (c' := .agg [.own 5000 0, .own 5001 0]) (by kernel_rfl) (by kernel_rfl) (by kernel_rfl) (by kernel_rfl) (NX.ret [5000, 5001] a0 (by kernel_rfl)))
 refine CD.skip (CD.join (fun (v4 : Unit) => ⟨[(2, .ref 1002 [])], [(1002, bx (.agg [.nils (.node [.cell, .cell, .cell]), .nils (.node [.cell, .cell, .cell])]))]⟩) h (fun u5 h q6 => ?_) (fun v4 h => ?_))
 refine CD.seq (rg [] [(4, iA 0)] [] a0 (CD.block (CD.loopK (fun (v64 : Int) => ⟨[(1, .ref 1001 []), (2, .ref 1002 []), (4, iA v64)], [(1001, bx (k25.a x0)), (1002, bx (.agg [.nils (.node [.cell, .cell, .cell]), .nils (.node [.cell, .cell, .cell])]))]⟩) h (by kernel_rfl) (fun v64 u65 h q66 => ?_))))
 refine CD.seq (CD.seq (rg [(3, hV (iA (ln x0.f1)))] [(15, bA (decide (v64 < (ln x0.f1))))] [] (a1 (o_ln k60 x0.f1) a0) (br h (fun g67 h => ?_) (fun g67 h => ?_))))
 refine CD.skip (CD.join (fun (v68 : Unit) => ⟨[(1, .ref 1001 []), (2, .ref 1002 []), (4, iA v64)], [(1001, bx (k25.a x0)), (1002, bx (.agg [.nils (.node [.cell, .cell, .cell]), .nils (.node [.cell, .cell, .cell])]))]⟩) h (fun u69 h q70 => ?_) (fun v68 h => ?_))
 refine CD.block (CD.seq (rg [] [(5, iA 0)] [] a0 (CD.block (CD.loopK (fun (v96 : Int) => ⟨[(1, .ref 1001 []), (2, .ref 1002 []), (4, iA v64), (5, iA v96)], [(1001, bx (k25.a x0)), (1002, bx (.agg [.nils (.node [.cell, .cell, .cell]), .nils (.node [.cell, .cell, .cell])]))]⟩) h (by kernel_rfl) (fun v96 u97 h q98 => ?_)))))
 refine CD.seq (CD.seq (rg [(3, hV (iA (ln x0.f1)))] [(22, bA (decide (v96 < (ln x0.f1))))] [] (a1 (o_ln k60 x0.f1) a0) (br h (fun g99 h => ?_) (fun g99 h => ?_))))
 refine CD.skip (CD.join (fun (v100 : Unit) => ⟨[(1, .ref 1001 []), (2, .ref 1002 []), (4, iA v64), (5, iA v96)], [(1001, bx (k25.a x0)), (1002, bx (.agg [.nils (.node [.cell, .cell, .cell]), .nils (.node [.cell, .cell, .cell])]))]⟩) h (fun u101 h q102 => ?_) (fun v100 h => ?_))
 refine CD.block (CD.join (fun (v103 : Unit) => ⟨[(1, .ref 1001 []), (2, .ref 1002 []), (4, iA v64), (5, iA v96)], [(1001, bx (k25.a x0)), (1002, bx (.agg [.nils (.node [.cell, .cell, .cell]), .nils (.node [.cell, .cell, .cell])]))]⟩) h (fun u104 h q105 => ?_) (fun v103 h => ?_))
 refine CD.seq ?_
 rcases if_some h with ⟨g106, h⟩ | ⟨g106, h⟩
 refine rg [(3, hT1)] [(42, bA true)] [] (a1 (oB (c := (v64 == v96)) g106) a0) (CD.condT (b := true) (by kernel_rfl) rfl (CD.exit ?_))
 obtain rfl := sm h
 obtain rfl := q105 _ rfl
 exact NX.lq (NX.brk (NX.inl (by kernel_rfl)))
 rcases bd_some h with ⟨v107, g108, h⟩
 rcases bd_some h with ⟨v109, g110, h⟩
 refine rg [(3, hF1), (4, hD [1001]), (5, hD [1001]), (7, hE (k60.x v107)), (10, hD [1001]), (11, hD [1001]), (13, hE (k60.x v109))] [(42, bA (v107.f2 != v109.f1))] [] (a1 (oB (c := (v64 == v96)) g106) (a1 (o_ix k60 g108) (a1 (o_ix k60 g110) a0))) (br h (fun g111 h => ?_) (fun g111 h => ?_))
 refine CD.exit ?_
 obtain rfl := sm h
 obtain rfl := q105 _ rfl
 exact NX.lq (NX.brk (NX.inl (by kernel_rfl)))
 refine CD.skip ?_
 obtain rfl := sm h
 exact NX.inl (by kernel_rfl)
 refine CD.seq ?_
 rcases bd_some h with ⟨v112, g113, h⟩
 rcases bd_some h with ⟨v114, g115, h⟩
 rcases bd_some h with ⟨v116, g117, h⟩
 refine rg [(0, hD [1001]), (3, hD [1001]), (4, hD [1001]), (6, hE (k60.x v112)), (9, hD [1001]), (10, hD [1001]), (12, hE (k60.x v114)), (16, hC (.agg [.own 0 v116.1.length, .own 1 v116.2.length]) [k53.r 54 (.node [.cell, .cell, .cell]) v116.1, k60.r 61 (.node [.cell, .cell, .cell]) v116.2] [] [3180, 3181]), (18, hD [1006])] [(6, .ref 1006 [])] [(1006, bx (.agg [.own 3180 v116.1.length, .own 3181 v116.2.length])), (3181, k60.r 61 (.node [.cell, .cell, .cell]) v116.2), (3180, k53.r 54 (.node [.cell, .cell, .cell]) v116.1)] (a1 (o_ix k60 g113) (a1 (o_ix k60 g115) (a1 (c103 g117) a0))) (CD.seq ?_)
 rcases bd_some h with ⟨v118, g119, h⟩
 refine rg [(2, hC (bA v118) [] [] [])] [(62, bA v118)] [] (a1 (k_len' k53 v116.1) (a1 (k_len' k60 v116.2) (a1 (c54 g119) (a1 (show AV.plain (bA v118) = true ∧ allPlain [] = true from ⟨rfl, pl0⟩) a0)))) (br h (fun g120 h => ?_) (fun g120 h => ?_))
 refine CD.seq (rg [] [(3, bA true)] [(1002, bx (.agg [.own 3180 v116.1.length, .own 3181 v116.2.length]))] a0 (CD.ret ?_))
 obtain rfl := sm h
 obtain rfl := q102 _ rfl
 obtain rfl := q98 _ rfl
 obtain rfl := q70 _ rfl
 obtain rfl := q66 _ rfl
 obtain rfl := q6 _ rfl
 exact NX.ret [3180, 3181] a0 (by kernel_rfl)
 refine CD.skip ?_
 obtain rfl := sm h
 exact NX.blN (NX.inl (by kernel_rfl))
 refine rg [] [(5, iA (ad v96 1))] [] a0 ?_
 obtain rfl := sm h
 exact NX.inl (by kernel_rfl)
 refine CD.exit ?_
 obtain rfl := sm h
 obtain rfl := q98 _ rfl
 exact NX.th (NX.lq (NX.brk (NX.blN (NX.inl (by kernel_rfl)))))
 refine rg [] [(4, iA (ad v64 1))] [] a0 ?_
 obtain rfl := sm h
 exact NX.inl (by kernel_rfl)
 refine CD.exit ?_
 obtain rfl := sm h
 obtain rfl := q66 _ rfl
 exact NX.th (NX.lq (NX.brk (NX.inl (by kernel_rfl))))
 refine CD.seq (rg [] [(3, bA false)] [(1002, bx (.agg [.nils (.node [.cell, .cell, .cell]), .nils (.node [.cell, .cell, .cell])]))] a0 (CD.ret ?_))
 obtain rfl := sm h
 exact NX.own0b 1002 5000 [0] 54 (sh := (.node [.cell, .cell, .cell])) (c := .agg [.nils (.node [.cell, .cell, .cell]), .nils (.node [.cell, .cell, .cell])]) (c' := .agg [.own 5000 0, .nils (.node [.cell, .cell, .cell])]) (by kernel_rfl) (by kernel_rfl) (by kernel_rfl) (by kernel_rfl) (NX.own0b 1002 5001 [1] 61 (sh := (.node [.cell, .cell, .cell])) (c := .agg [.own 5000 0, .nils (.node [.cell, .cell, .cell])]) (c' := .agg [.own 5000 0, .own 5001 0]) (by kernel_rfl) (by kernel_rfl) (by kernel_rfl) (by kernel_rfl) (NX.ret [5000, 5001] a0 (by kernel_rfl)))

theorem c86d {x0 : T25} {r : (List T53) × (List T60) × Bool} (h : f86 x0 = some r) :
 FnD cx 86 [k25.a x0] [] (.tup [k25.a (⟨r.1, r.2.1⟩ : T25), bA r.2.2]) [] :=
 FnD.data (xs := [.agg [.own 0 r.1.length, .own 1 r.2.1.length], bA r.2.2]) (ys := [k25.a (⟨r.1, r.2.1⟩ : T25), bA r.2.2]) (p := True) (q := (((r.1.length = (k53.m r.1).length) ∧ ((r.2.1.length = (k60.m r.2.1).length) ∧ True)) ∧ (True ∧ True))) (c86 h) [] (by kernel_rfl) (by kernel_rfl) a0 (by kernel_rfl) (a1 (k_len' k53 r.1) (a1 (k_len' k60 r.2.1) a0))


-- f63 spec.l6Weak
def f63 (x0 : T25) (x1 : T74) : Option ((List T53) × (List T60) × T74) :=
 bd (f39 x0) fun v1 =>
 jn (
 bd (f38 3 x1) fun v6 =>
 iter (fun (v15 : (List T53) × (List T60) × Int) =>
 if (decide (v15.2.2 > 0)) = true then
 bd (f86 (⟨v15.1, v15.2.1⟩ : T25)) fun v19 =>
 if v19.2.2 = true then
 some (.inl (v19.1, v19.2.1, sb v15.2.2 1))
 else
 some (.inl (v15.1, v15.2.1, sb v15.2.2 1))
 else
 some (.inr (.inl (v6.2, v15.1, v15.2.1)))) (v1.1, v1.2, v6.1)) fun (v3 : T74 × (List T53) × (List T60)) =>
 jn (
 if (decide ((ln v3.2.1) > 0)) = true then
 bd (f38 2 v3.1) fun v26 =>
 if (v26.1 == 0) = true then
 bd (sl v3.2.1 1 (ln v3.2.1)) fun v31 =>
 some (.inl (v26.2, v31))
 else
 some (.inl (v26.2, v3.2.1))
 else
 some (.inl (v3.1, v3.2.1))) fun (v22 : T74 × (List T53)) =>
 jn (
 jn (
 if (decide ((ln v3.2.2) > 0)) = true then
 bd (f38 3 v22.1) fun v40 =>
 some (.inl (v40.1 == 0, v40.2))
 else
 some (.inl (false, v22.1))) fun (v36 : Bool × T74) =>
 if v36.1 = true then
 bd (f38 (ln v3.2.2) v36.2) fun v43 =>
 bd (ix v3.2.2 v43.1) fun v45 =>
 bd (st v3.2.2 v43.1 (⟨2, v45.f1, v45.f2⟩ : T60)) fun v47 =>
 some (.inl (v43.2, v47))
 else
 some (.inl (v36.2, v3.2.2))) fun (v33 : T74 × (List T60)) =>
 jn (
 if (decide ((ln v33.2) > 1)) = true then
 bd (f38 3 v33.1) fun v53 =>
 some (.inl (v53.1 == 0, v53.2))
 else
 some (.inl (false, v33.1))) fun (v49 : Bool × T74) =>
 if v49.1 = true then
 bd (sl v33.2 1 (ln v33.2)) fun v58 =>
 bd (ap 24 ([] : List T60) v58) fun v60 =>
 bd (ix v33.2 0) fun v62 =>
 bd (ap 24 v60 ([v62] : List T60)) fun v64 =>
 some (v22.2, v64, v49.2)
 else
 some (v22.2, v33.2, v49.2)
theorem c63 {x0 : T25} {x1 : T74} {r : (List T53) × (List T60) × T74} (h : f63 x0 x1 = some r) :
 FnD cx 63 [.ref 0 [], k25.a x0] [bx (k74.a x1)] (.agg [k23.a r.1, .own 1 r.2.1.length]) [bx (k74.a r.2.2), k60.r 61 (.node [.cell, .cell, .cell]) r.2.1] := by
 unfold f63 at h
 refine fnD_intro (fn := Tryz.f63) (by kernel_rfl) rfl (by kernel_rfl) (by kernel_rfl) fun E => ?_
 refine CD.seq (rg [] [(3, .ref 1003 []), (4, .ref 1004 [])] [(1004, bx (.agg [.nils (.node [.cell, .cell, .cell]), .nils (.node [.cell, .cell, .cell])])), (1003, bx (k25.a x0))] a0 (CD.seq ?_))
 rcases bd_some h with ⟨v1, g2, h⟩
 refine rg [(1, hC (.agg [.own 0 v1.1.length, .own 1 v1.2.length]) [k53.r 54 (.node [.cell, .cell, .cell]) v1.1, k60.r 61 (.node [.cell, .cell, .cell]) v1.2] [] [2220, 2221])] [(5, .ref 1005 [])] [(1005, bx (.agg [.own 2220 v1.1.length, .own 2221 v1.2.length])), (2221, k60.r 61 (.node [.cell, .cell, .cell]) v1.2), (2220, k53.r 54 (.node [.cell, .cell, .cell]) v1.1)] (a1 (c39 g2) a0) (CD.join (fun (v3 : T74 × (List T53) × (List T60)) => ⟨[(0, .ref 0 []), (4, .ref 1004 []), (5, .ref 1005 [])], [(2220, k53.r 54 (.node [.cell, .cell, .cell]) v3.2.1), (2221, k60.r 61 (.node [.cell, .cell, .cell]) v3.2.2), (0, bx (k74.a v3.1)), (1004, bx (.agg [.nils (.node [.cell, .cell, .cell]), .nils (.node [.cell, .cell, .cell])])), (1005, bx (.agg [.own 2220 v3.2.1.length, .own 2221 v3.2.2.length]))]⟩) h (fun u4 h q5 => ?_) (fun v3 h => ?_))
 refine CD.seq ?_
 rcases bd_some h with ⟨v6, g7, h⟩
 refine rg [(1, hC (iA v6.1) [bx (k74.a v6.2)] [0] [])] [(6, iA v6.1)] [(0, bx (k74.a v6.2))] (a1 (c38 g7) a0) (CD.block (CD.loopK (fun (v15 : (List T53) × (List T60) × Int) => ⟨[(0, .ref 0 []), (4, .ref 1004 []), (5, .ref 1005 []), (6, iA v15.2.2)], [(2220, k53.r 54 (.node [.cell, .cell, .cell]) v15.1), (2221, k60.r 61 (.node [.cell, .cell, .cell]) v15.2.1), (0, bx (k74.a v6.2)), (1004, bx (.agg [.nils (.node [.cell, .cell, .cell]), .nils (.node [.cell, .cell, .cell])])), (1005, bx (.agg [.own 2220 v15.1.length, .own 2221 v15.2.1.length]))]⟩) h (by kernel_rfl) (fun v15 u16 h q17 => ?_)))
 refine CD.seq (CD.seq (rg [] [(15, bA (decide (v15.2.2 > 0)))] [] a0 (br h (fun g18 h => ?_) (fun g18 h => ?_))))
 refine CD.skip (CD.seq (CD.block (CD.seq ?_)))
 rcases bd_some h with ⟨v19, g20, h⟩
 refine rg [(1, hC (.tup [.agg [.own 0 v19.1.length, .own 1 v19.2.1.length], bA v19.2.2]) [k53.r 54 (.node [.cell, .cell, .cell]) v19.1, k60.r 61 (.node [.cell, .cell, .cell]) v19.2.1] [] [2400, 2401])] [(7, .ref 1007 []), (8, bA v19.2.2)] [(1007, bx (.agg [.own 2400 v19.1.length, .own 2401 v19.2.1.length])), (2401, k60.r 61 (.node [.cell, .cell, .cell]) v19.2.1), (2400, k53.r 54 (.node [.cell, .cell, .cell]) v19.1)] (a1 (k_len' k53 v15.1) (a1 (k_len' k60 v15.2.1) (a1 (c86 g20) (a1 (show AV.plain (.tup [.agg [.own 0 v19.1.length, .own 1 v19.2.1.length], bA v19.2.2]) = true ∧ allPlain [k53.r 54 (.node [.cell, .cell, .cell]) v19.1, k60.r 61 (.node [.cell, .cell, .cell]) v19.2.1] = true from ⟨rfl, (plR k53 (fun _ => rfl) (plR k60 (fun _ => rfl) pl0))⟩) a0)))) (CD.seq (rg [] [(23, bA v19.2.2)] [] a0 (br h (fun g21 h => ?_) (fun g21 h => ?_))))
 refine rg [] [] [(1005, bx (.agg [.own 2400 v19.1.length, .own 2401 v19.2.1.length]))] a0 (NX.blN (rg [] [(6, iA (sb v15.2.2 1))] [] a0 ?_))
 obtain rfl := sm h
 exact NX.ren 2220 2400 (by kernel_rfl) (NX.ren 2221 2401 (by kernel_rfl) (NX.inl (by kernel_rfl)))
 refine CD.skip (NX.blN (rg [] [(6, iA (sb v15.2.2 1))] [] a0 ?_))
 obtain rfl := sm h
 exact NX.inl (by kernel_rfl)
 refine CD.exit ?_
 obtain rfl := sm h
 obtain rfl := q17 _ rfl
 exact NX.th (NX.lq (NX.brk (NX.inl (by kernel_rfl))))
 refine CD.join (fun (v22 : T74 × (List T53)) => ⟨[(0, .ref 0 []), (4, .ref 1004 []), (5, .ref 1005 [])], [(2221, k60.r 61 (.node [.cell, .cell, .cell]) v3.2.2), (0, bx (k74.a v22.1)), (1004, bx (.agg [.nils (.node [.cell, .cell, .cell]), .nils (.node [.cell, .cell, .cell])])), (1005, bx (.agg [k23.a v22.2, .own 2221 v3.2.2.length]))]⟩) h (fun u23 h q24 => ?_) (fun v22 h => ?_)
 refine CD.seq ?_
 rcases if_some h with ⟨g25, h⟩ | ⟨g25, h⟩
 rcases bd_some h with ⟨v26, g27, h⟩
 refine rg [(4, hT1), (6, hC (iA v26.1) [bx (k74.a v26.2)] [0] [])] [(33, bA (v26.1 == 0))] [(0, bx (k74.a v26.2))] (a1 (oB (c := (decide ((ln v3.2.1) > 0))) g25) (a1 (c38 g27) a0)) (br h (fun g28 h => ?_) (fun g28 h => ?_))
 rcases bd_some h with ⟨v31, g32, h⟩
 refine NX.fz k53 2220 54 (.node [.cell, .cell, .cell]) v3.2.1 (rg [(2, hV (k23.a v31))] [] [(1005, bx (.agg [k23.a v31, .own 2221 v3.2.2.length]))] (a1 (o_slh k53 (.node [.cell, .cell, .cell]) g32 (k_len' k53 v3.2.1)) a0) ?_)
 obtain rfl := sm h
 exact NX.inl (by kernel_rfl)
 refine CD.skip ?_
 obtain rfl := sm h
 exact NX.fz k53 2220 54 (.node [.cell, .cell, .cell]) v3.2.1 (NX.frzDb 1005 [0] (b := 2220) (ty := 54) (sh := (.node [.cell, .cell, .cell])) (xs := k53.m v3.2.1) (c := .agg [.own 2220 v3.2.1.length, .own 2221 v3.2.2.length]) (c' := .agg [k23.a v3.2.1, .own 2221 v3.2.2.length]) (by kernel_rfl) (by kernel_rfl) (by kernel_rfl) (by kernel_rfl) (k_len' k53 v3.2.1) (NX.inl (by kernel_rfl)))
 refine rg [(4, hF1)] [(33, bA false)] [] (a1 (oB (c := (decide ((ln v3.2.1) > 0))) g25) a0) (CD.condF (b := false) (by kernel_rfl) rfl (CD.skip ?_))
 obtain rfl := sm h
 exact NX.fz k53 2220 54 (.node [.cell, .cell, .cell]) v3.2.1 (NX.frzDb 1005 [0] (b := 2220) (ty := 54) (sh := (.node [.cell, .cell, .cell])) (xs := k53.m v3.2.1) (c := .agg [.own 2220 v3.2.1.length, .own 2221 v3.2.2.length]) (c' := .agg [k23.a v3.2.1, .own 2221 v3.2.2.length]) (by kernel_rfl) (by kernel_rfl) (by kernel_rfl) (by kernel_rfl) (k_len' k53 v3.2.1) (NX.inl (by kernel_rfl)))
 refine CD.join (fun (v33 : T74 × (List T60)) => ⟨[(0, .ref 0 []), (4, .ref 1004 []), (5, .ref 1005 [])], [(2221, k60.r 61 (.node [.cell, .cell, .cell]) v33.2), (0, bx (k74.a v33.1)), (1004, bx (.agg [.nils (.node [.cell, .cell, .cell]), .nils (.node [.cell, .cell, .cell])])), (1005, bx (.agg [k23.a v22.2, .own 2221 v33.2.length]))]⟩) h (fun u34 h q35 => ?_) (fun v33 h => ?_)
 refine CD.join (fun (v36 : Bool × T74) => ⟨[(0, .ref 0 []), (4, .ref 1004 []), (5, .ref 1005 []), (46, bA v36.1)], [(2221, k60.r 61 (.node [.cell, .cell, .cell]) v3.2.2), (0, bx (k74.a v36.2)), (1004, bx (.agg [.nils (.node [.cell, .cell, .cell]), .nils (.node [.cell, .cell, .cell])])), (1005, bx (.agg [k23.a v22.2, .own 2221 v3.2.2.length]))]⟩) h (fun u37 h q38 => ?_) (fun v36 h => ?_)
 rcases if_some h with ⟨g39, h⟩ | ⟨g39, h⟩
 rcases bd_some h with ⟨v40, g41, h⟩
 refine rg [(4, hT1), (6, hC (iA v40.1) [bx (k74.a v40.2)] [0] [])] [(46, bA (v40.1 == 0))] [(0, bx (k74.a v40.2))] (a1 (oB (c := (decide ((ln v3.2.2) > 0))) g39) (a1 (c38 g41) a0)) ?_
 obtain rfl := sm h
 exact NX.inl (by kernel_rfl)
 refine rg [(4, hF1)] [(46, bA false)] [] (a1 (oB (c := (decide ((ln v3.2.2) > 0))) g39) a0) ?_
 obtain rfl := sm h
 exact NX.inl (by kernel_rfl)
 refine br h (fun g42 h => ?_) (fun g42 h => ?_)
 refine CD.seq ?_
 rcases bd_some h with ⟨v43, g44, h⟩
 refine rg [(4, hC (iA v43.1) [bx (k74.a v43.2)] [0] [])] [(9, iA v43.1)] [(0, bx (k74.a v43.2))] (a1 (c38 g44) a0) ?_
 rcases bd_some h with ⟨v45, g46, h⟩
 rcases bd_some h with ⟨v47, g48, h⟩
 refine rg [(5, hF (k60.x v45) [(2221, k60.r 61 (.node [.cell, .cell, .cell]) v47)])] [] [(2221, k60.r 61 (.node [.cell, .cell, .cell]) v47)] (a1 (o_ixr k60 g46) (a1 (k_len' k60 v3.2.2) (a1 (o_st k60 (y' := (⟨2, v45.f1, v45.f2⟩ : T60)) 2221 61 (.node [.cell, .cell, .cell]) g46 g48 (k_len' k60 v3.2.2)) a0))) ?_
 rw [st_len g48]
 obtain rfl := sm h
 exact NX.inl (by kernel_rfl)
 refine CD.skip ?_
 obtain rfl := sm h
 exact NX.inl (by kernel_rfl)
 refine CD.seq (CD.join (fun (v49 : Bool × T74) => ⟨[(4, .ref 1004 []), (5, .ref 1005 []), (65, bA v49.1)], [(2221, k60.r 61 (.node [.cell, .cell, .cell]) v33.2), (1004, bx (.agg [.nils (.node [.cell, .cell, .cell]), .nils (.node [.cell, .cell, .cell])])), (1005, bx (.agg [k23.a v22.2, .own 2221 v33.2.length])), (0, bx (k74.a v49.2))]⟩) h (fun u50 h q51 => ?_) (fun v49 h => ?_))
 rcases if_some h with ⟨g52, h⟩ | ⟨g52, h⟩
 rcases bd_some h with ⟨v53, g54, h⟩
 refine rg [(4, hT1), (6, hC (iA v53.1) [bx (k74.a v53.2)] [0] [])] [(65, bA (v53.1 == 0))] [(0, bx (k74.a v53.2))] (a1 (oB (c := (decide ((ln v33.2) > 1))) g52) (a1 (c38 g54) a0)) ?_
 obtain rfl := sm h
 exact NX.inl (by kernel_rfl)
 refine rg [(4, hF1)] [(65, bA false)] [] (a1 (oB (c := (decide ((ln v33.2) > 1))) g52) a0) ?_
 obtain rfl := sm h
 exact NX.inl (by kernel_rfl)
 refine br h (fun g55 h => ?_) (fun g55 h => ?_)
 rcases bd_some h with ⟨v58, g59, h⟩
 rcases bd_some h with ⟨v60, g61, h⟩
 rcases bd_some h with ⟨v62, g63, h⟩
 rcases bd_some h with ⟨v64, g65, h⟩
 refine NX.fz k60 2221 61 (.node [.cell, .cell, .cell]) v33.2 (rg [(0, hO), (1, hD [1005]), (2, hD [1005]), (3, (hV (k24.a v58)).g [2221]), (4, (hW (.own 1066 v60.length) [(1066, k60.r 61 (.node [.cell, .cell, .cell]) v60)]).g [1066]), (5, hD [1005]), (6, hD [1005]), (7, hD [2221]), (8, (hE (k60.x v62)).g [2221]), (10, (hW (.own 1066 v64.length) [(1066, k60.r 61 (.node [.cell, .cell, .cell]) v64)]).g [1066]), (11, hD [1005]), (12, hD [1005])] [] [(1005, bx (.agg [k23.a v22.2, .own 1066 v64.length])), (1066, k60.r 61 (.node [.cell, .cell, .cell]) v64)] (a1 (o_slh k60 (.node [.cell, .cell, .cell]) g59 (k_len' k60 v33.2)) (a1 (o_ap k60 1066 61 (.node [.cell, .cell, .cell]) g61 trivial) (a1 (o_ixr k60 g63) (a1 (o_ldr k60 g63) (a1 (o_ap k60 1066 61 (.node [.cell, .cell, .cell]) g65 trivial) a0))))) (CD.seq (rg [] [] [(1004, bx (.agg [k23.a v22.2, .own 1066 v64.length]))] a0 (CD.ret ?_))))
 obtain rfl := sm h
 exact NX.ret [0, 1066] a0 (by kernel_rfl)
 refine CD.skip (CD.seq (rg [] [] [(1004, bx (.agg [k23.a v22.2, .own 2221 v33.2.length]))] a0 (CD.ret ?_)))
 obtain rfl := sm h
 exact NX.ret [0, 2221] a0 (by kernel_rfl)

theorem c63d {x0 : T25} {x1 : T74} {r : (List T53) × (List T60) × T74} (h : f63 x0 x1 = some r) :
 FnD cx 63 [.ref 0 [], k25.a x0] [bx (k74.a x1)] (k25.a (⟨r.1, r.2.1⟩ : T25)) [bx (k74.a r.2.2)] :=
 FnD.data (xs := [.agg [k23.a r.1, .own 1 r.2.1.length]]) (ys := [k25.a (⟨r.1, r.2.1⟩ : T25)]) (p := (True ∧ True)) (q := ((True ∧ ((r.2.1.length = (k60.m r.2.1).length) ∧ True)) ∧ True)) (c63 h) [0] (by kernel_rfl) (by kernel_rfl) a0 (by kernel_rfl) (a1 (k_len' k60 r.2.1) a0)

end Go.Sep.Y
