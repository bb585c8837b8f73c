/- Part of the proof: mirrors of the functions of this seat, and that the functions give what their mirrors give. -/
import Derived.Test.YtkchimbalpiilaaGreatSepYM5
set_option linter.all false
set_option linter.deprecated false
open Go Go.Sep Go.Proofs
set_option maxRecDepth 100000
namespace Go.Sep.Y
-- f12 spec.l12Call
def f12 (x0 : T28) (x1 : T74) : Option ((List T53) × (List T60) × T74) :=
 bd (f39 x0.f0) fun v1 =>
 jn (
 bd (f38 4 x1) fun v6 =>
 if (v6.1 == 0) = true then
 bd (ap 24 v1.2 ([(⟨1, 4, 0⟩ : T60)] : List T60)) fun v9 =>
 some (.inl (v6.2, v1.1, v9))
 else
 if (v6.1 == 1) = true then
 bd (f41 ([0, 1, 3] : List Int) v6.2) fun v12 =>
 bd (ap 24 v1.2 ([(⟨2, 6, v12.1⟩ : T60)] : List T60)) fun v14 =>
 some (.inl (v12.2, v1.1, v14))
 else
 if (v6.1 == 2) = true then
 bd (f41 ([1, 2, 6] : List Int) v6.2) fun v17 =>
 bd (ap 24 v1.1 ([(⟨true, 4, v17.1⟩ : T53)] : List T53)) fun v19 =>
 some (.inl (v17.2, v19, v1.2))
 else
 some (.inl (v6.2, v1.1, v1.2))) fun (v3 : T74 × (List T53) × (List T60)) =>
 some (v3.2.1, v3.2.2, v3.1)
theorem c12 {x0 : T28} {x1 : T74} {r : (List T53) × (List T60) × T74} (h : f12 x0 x1 = some r) :
 FnD cx 12 [.ref 0 [], k28.a x0] [bx (k74.a x1)] (.agg [.own 1 r.1.length, .own 2 r.2.1.length]) [bx (k74.a r.2.2), k53.r 54 (.node [.cell, .cell, .cell]) r.1, k60.r 61 (.node [.cell, .cell, .cell]) r.2.1] := by
 unfold f12 at h
 refine fnD_intro (fn := Tryz.f12) (by kernel_rfl) rfl (by kernel_rfl) (by kernel_rfl) fun E => ?_
 refine CD.seq (rg [] [(3, .ref 1003 []), (4, .ref 1004 [])] [(1004, bx (.agg [.nils (.node [.cell, .cell, .cell]), .nils (.node [.cell, .cell, .cell])])), (1003, bx (k28.a x0))] a0 (CD.seq ?_))
 rcases bd_some h with ⟨v1, g2, h⟩
 refine rg [(2, hC (.agg [.own 0 v1.1.length, .own 1 v1.2.length]) [k53.r 54 (.node [.cell, .cell, .cell]) v1.1, k60.r 61 (.node [.cell, .cell, .cell]) v1.2] [] [2160, 2161])] [(5, .ref 1005 [])] [(1005, bx (.agg [.own 2160 v1.1.length, .own 2161 v1.2.length])), (2161, k60.r 61 (.node [.cell, .cell, .cell]) v1.2), (2160, k53.r 54 (.node [.cell, .cell, .cell]) v1.1)] (a1 (c39 g2) a0) (CD.join (fun (v3 : T74 × (List T53) × (List T60)) => ⟨[(4, .ref 1004 []), (5, .ref 1005 [])], [(2160, k53.r 54 (.node [.cell, .cell, .cell]) v3.2.1), (2161, k60.r 61 (.node [.cell, .cell, .cell]) v3.2.2), (1004, bx (.agg [.nils (.node [.cell, .cell, .cell]), .nils (.node [.cell, .cell, .cell])])), (1005, bx (.agg [.own 2160 v3.2.1.length, .own 2161 v3.2.2.length])), (0, bx (k74.a v3.1))]⟩) h (fun u4 h q5 => ?_) (fun v3 h => ?_))
 refine CD.seq ?_
 rcases bd_some h with ⟨v6, g7, h⟩
 refine rg [(1, hC (iA v6.1) [bx (k74.a v6.2)] [0] [])] [(10, iA v6.1)] [(0, bx (k74.a v6.2))] (a1 (c38 g7) a0) (CD.block (CD.seq (rg [] [(11, bA (v6.1 == 0))] [] a0 (br h (fun g8 h => ?_) (fun g8 h => ?_)))))
 rcases bd_some h with ⟨v9, g10, h⟩
 refine rg [(4, hW (.own 2161 v9.length) [(2161, k60.r 61 (.node [.cell, .cell, .cell]) v9)])] [] [(1005, bx (.agg [.own 2160 v1.1.length, .own 2161 v9.length])), (2161, k60.r 61 (.node [.cell, .cell, .cell]) v9)] (a1 (o_ap k60 2161 61 (.node [.cell, .cell, .cell]) g10 trivial) a0) ?_
 obtain rfl := sm h
 exact NX.blN (NX.inl (by kernel_rfl))
 refine CD.seq (rg [] [(19, bA (v6.1 == 1))] [] a0 (br h (fun g11 h => ?_) (fun g11 h => ?_)))
 rcases bd_some h with ⟨v12, g13, h⟩
 rcases bd_some h with ⟨v14, g15, h⟩
 refine rg [(0, hD [1005]), (1, hD [1005]), (4, (hC (iA v12.1) [bx (k74.a v12.2)] [0] []).g [0]), (7, (hW (.own 2161 v14.length) [(2161, k60.r 61 (.node [.cell, .cell, .cell]) v14)]).g [2161]), (8, hD [1005]), (9, hD [1005])] [] [(1005, bx (.agg [.own 2160 v1.1.length, .own 2161 v14.length])), (2161, k60.r 61 (.node [.cell, .cell, .cell]) v14), (0, bx (k74.a v12.2))] (a1 (c41 g13) (a1 (o_ap k60 2161 61 (.node [.cell, .cell, .cell]) g15 trivial) a0)) ?_
 obtain rfl := sm h
 exact NX.blN (NX.inl (by kernel_rfl))
 refine CD.seq (rg [] [(30, bA (v6.1 == 2))] [] a0 (br h (fun g16 h => ?_) (fun g16 h => ?_)))
 rcases bd_some h with ⟨v17, g18, h⟩
 rcases bd_some h with ⟨v19, g20, h⟩
 refine rg [(0, hD [1005]), (1, hD [1005]), (4, (hC (iA v17.1) [bx (k74.a v17.2)] [0] []).g [0]), (7, (hW (.own 2160 v19.length) [(2160, k53.r 54 (.node [.cell, .cell, .cell]) v19)]).g [2160]), (8, hD [1005]), (9, hD [1005])] [] [(1005, bx (.agg [.own 2160 v19.length, .own 2161 v1.2.length])), (2160, k53.r 54 (.node [.cell, .cell, .cell]) v19), (0, bx (k74.a v17.2))] (a1 (c41 g18) (a1 (o_ap k53 2160 54 (.node [.cell, .cell, .cell]) g20 trivial) a0)) ?_
 obtain rfl := sm h
 exact NX.blN (NX.inl (by kernel_rfl))
 refine CD.skip ?_
 obtain rfl := sm h
 exact NX.blN (NX.inl (by kernel_rfl))
 refine CD.seq (rg [] [] [(1004, bx (.agg [.own 2160 v3.2.1.length, .own 2161 v3.2.2.length]))] a0 (CD.ret ?_))
 obtain rfl := sm h
 exact NX.ret [0, 2160, 2161] a0 (by kernel_rfl)

theorem c12d {x0 : T28} {x1 : T74} {r : (List T53) × (List T60) × T74} (h : f12 x0 x1 = some r) :
 FnD cx 12 [.ref 0 [], k28.a x0] [bx (k74.a x1)] (k25.a (⟨r.1, r.2.1⟩ : T25)) [bx (k74.a r.2.2)] :=
 FnD.data (xs := [.agg [.own 1 r.1.length, .own 2 r.2.1.length]]) (ys := [k25.a (⟨r.1, r.2.1⟩ : T25)]) (p := (True ∧ True)) (q := (((r.1.length = (k53.m r.1).length) ∧ ((r.2.1.length = (k60.m r.2.1).length) ∧ True)) ∧ True)) (c12 h) [0] (by kernel_rfl) (by kernel_rfl) a0 (by kernel_rfl) (a1 (k_len' k53 r.1) (a1 (k_len' k60 r.2.1) a0))


-- f13 spec.l12Mutate
def f13 (x0 : T28) (x1 : T74) : Option ((List T53) × (List T60) × (List T53) × (List T60) × (List Int) × T74) :=
 bd (f39 x0.f0) fun v1 =>
 bd (f39 x0.f1) fun v3 =>
 bd (ap 8 ([] : List Int) x0.f2) fun v5 =>
 jn (
 bd (f38 40 x1) fun v10 =>
 if (v10.1 == 0) = true then
 bd (f41 ([1, 5, (-1), 4] : List Int) v10.2) fun v13 =>
 bd (ap 8 v5 ([v13.1] : List Int)) fun v15 =>
 some (.inl (v13.2, v1.2, v3.1, v15))
 else
 if (v10.1 == 1) = true then
 bd (ap 24 v1.2 ([(⟨0, 0, 0⟩ : T60)] : List T60)) fun v18 =>
 some (.inl (v10.2, v18, v3.1, v5))
 else
 if (v10.1 == 2) = true then
 bd (ap 24 v3.1 ([(⟨false, 9, 0⟩ : T53)] : List T53)) fun v21 =>
 some (.inl (v10.2, v1.2, v21, v5))
 else
 some (.inl (v10.2, v1.2, v3.1, v5))) fun (v7 : T74 × (List T60) × (List T53) × (List Int)) =>
 some (v1.1, v7.2.1, v7.2.2.1, v3.2, v7.2.2.2, v7.1)
theorem c13 {x0 : T28} {x1 : T74} {r : (List T53) × (List T60) × (List T53) × (List T60) × (List Int) × T74} (h : f13 x0 x1 = some r) :
 FnD cx 13 [.ref 0 [], k28.a x0] [bx (k74.a x1)] (.agg [.agg [.own 1 r.1.length, .own 2 r.2.1.length], .agg [.own 3 r.2.2.1.length, .own 4 r.2.2.2.1.length], .own 5 r.2.2.2.2.1.length]) [bx (k74.a r.2.2.2.2.2), k53.r 54 (.node [.cell, .cell, .cell]) r.1, k60.r 61 (.node [.cell, .cell, .cell]) r.2.1, k53.r 54 (.node [.cell, .cell, .cell]) r.2.2.1, k60.r 61 (.node [.cell, .cell, .cell]) r.2.2.2.1, k3.r 3 .cell r.2.2.2.2.1] := by
 unfold f13 at h
 refine fnD_intro (fn := Tryz.f13) (by kernel_rfl) rfl (by kernel_rfl) (by kernel_rfl) fun E => ?_
 refine CD.seq (rg [] [(3, .ref 1003 []), (4, .ref 1004 [])] [(1004, bx (.agg [.agg [.nils (.node [.cell, .cell, .cell]), .nils (.node [.cell, .cell, .cell])], .agg [.nils (.node [.cell, .cell, .cell]), .nils (.node [.cell, .cell, .cell])], .nils .cell])), (1003, bx (k28.a x0))] a0 (CD.seq ?_))
 rcases bd_some h with ⟨v1, g2, h⟩
 rcases bd_some h with ⟨v3, g4, h⟩
 rcases bd_some h with ⟨v5, g6, h⟩
 refine rg [(0, hD [1003]), (1, hD [1003]), (2, hC (.agg [.own 0 v1.1.length, .own 1 v1.2.length]) [k53.r 54 (.node [.cell, .cell, .cell]) v1.1, k60.r 61 (.node [.cell, .cell, .cell]) v1.2] [] [2160, 2161]), (3, hD [1003]), (4, hD [1003]), (5, hC (.agg [.own 0 v3.1.length, .own 1 v3.2.length]) [k53.r 54 (.node [.cell, .cell, .cell]) v3.1, k60.r 61 (.node [.cell, .cell, .cell]) v3.2] [] [2220, 2221]), (6, hO), (7, hD [1003]), (8, hD [1003]), (9, (hW (.own 1012 v5.length) [(1012, k3.r 3 .cell v5)]).g [1012]), (12, hD [1005])] [(5, .ref 1005 [])] [(1005, bx (.agg [.agg [.own 2160 v1.1.length, .own 2161 v1.2.length], .agg [.own 2220 v3.1.length, .own 2221 v3.2.length], .own 1012 v5.length])), (1012, k3.r 3 .cell v5), (2221, k60.r 61 (.node [.cell, .cell, .cell]) v3.2), (2220, k53.r 54 (.node [.cell, .cell, .cell]) v3.1), (2161, k60.r 61 (.node [.cell, .cell, .cell]) v1.2), (2160, k53.r 54 (.node [.cell, .cell, .cell]) v1.1)] (a1 (c39 g2) (a1 (c39 g4) (a1 (o_ap k3 1012 3 .cell g6 trivial) a0))) ?_
 refine CD.join (fun (v7 : T74 × (List T60) × (List T53) × (List Int)) => ⟨[(4, .ref 1004 []), (5, .ref 1005 [])], [(2160, k53.r 54 (.node [.cell, .cell, .cell]) v1.1), (2161, k60.r 61 (.node [.cell, .cell, .cell]) v7.2.1), (2220, k53.r 54 (.node [.cell, .cell, .cell]) v7.2.2.1), (2221, k60.r 61 (.node [.cell, .cell, .cell]) v3.2), (1012, k3.r 3 .cell v7.2.2.2), (1004, bx (.agg [.agg [.nils (.node [.cell, .cell, .cell]), .nils (.node [.cell, .cell, .cell])], .agg [.nils (.node [.cell, .cell, .cell]), .nils (.node [.cell, .cell, .cell])], .nils .cell])), (1005, bx (.agg [.agg [.own 2160 v1.1.length, .own 2161 v7.2.1.length], .agg [.own 2220 v7.2.2.1.length, .own 2221 v3.2.length], .own 1012 v7.2.2.2.length])), (0, bx (k74.a v7.1))]⟩) h (fun u8 h q9 => ?_) (fun v7 h => ?_)
 refine CD.seq ?_
 rcases bd_some h with ⟨v10, g11, h⟩
 refine rg [(1, hC (iA v10.1) [bx (k74.a v10.2)] [0] [])] [(18, iA v10.1)] [(0, bx (k74.a v10.2))] (a1 (c38 g11) a0) (CD.block (CD.seq (rg [] [(19, bA (v10.1 == 0))] [] a0 (br h (fun g12 h => ?_) (fun g12 h => ?_)))))
 rcases bd_some h with ⟨v13, g14, h⟩
 rcases bd_some h with ⟨v15, g16, h⟩
 refine rg [(0, hD [1005]), (1, hD [1005]), (4, (hC (iA v13.1) [bx (k74.a v13.2)] [0] []).g [0]), (6, (hW (.own 1012 v15.length) [(1012, k3.r 3 .cell v15)]).g [1012]), (7, hD [1005]), (8, hD [1005])] [] [(1005, bx (.agg [.agg [.own 2160 v1.1.length, .own 2161 v1.2.length], .agg [.own 2220 v3.1.length, .own 2221 v3.2.length], .own 1012 v15.length])), (1012, k3.r 3 .cell v15), (0, bx (k74.a v13.2))] (a1 (c41 g14) (a1 (o_ap k3 1012 3 .cell g16 trivial) a0)) ?_
 obtain rfl := sm h
 exact NX.blN (NX.inl (by kernel_rfl))
 refine CD.seq (rg [] [(29, bA (v10.1 == 1))] [] a0 (br h (fun g17 h => ?_) (fun g17 h => ?_)))
 rcases bd_some h with ⟨v18, g19, h⟩
 refine rg [(5, hW (.own 2161 v18.length) [(2161, k60.r 61 (.node [.cell, .cell, .cell]) v18)])] [] [(1005, bx (.agg [.agg [.own 2160 v1.1.length, .own 2161 v18.length], .agg [.own 2220 v3.1.length, .own 2221 v3.2.length], .own 1012 v5.length])), (2161, k60.r 61 (.node [.cell, .cell, .cell]) v18)] (a1 (o_ap k60 2161 61 (.node [.cell, .cell, .cell]) g19 trivial) a0) ?_
 obtain rfl := sm h
 exact NX.blN (NX.inl (by kernel_rfl))
 refine CD.seq (rg [] [(39, bA (v10.1 == 2))] [] a0 (br h (fun g20 h => ?_) (fun g20 h => ?_)))
 rcases bd_some h with ⟨v21, g22, h⟩
 refine rg [(5, hW (.own 2220 v21.length) [(2220, k53.r 54 (.node [.cell, .cell, .cell]) v21)])] [] [(1005, bx (.agg [.agg [.own 2160 v1.1.length, .own 2161 v1.2.length], .agg [.own 2220 v21.length, .own 2221 v3.2.length], .own 1012 v5.length])), (2220, k53.r 54 (.node [.cell, .cell, .cell]) v21)] (a1 (o_ap k53 2220 54 (.node [.cell, .cell, .cell]) g22 trivial) a0) ?_
 obtain rfl := sm h
 exact NX.blN (NX.inl (by kernel_rfl))
 refine CD.skip ?_
 obtain rfl := sm h
 exact NX.blN (NX.inl (by kernel_rfl))
 refine CD.seq (rg [] [] [(1004, bx (.agg [.agg [.own 2160 v1.1.length, .own 2161 v7.2.1.length], .agg [.own 2220 v7.2.2.1.length, .own 2221 v3.2.length], .own 1012 v7.2.2.2.length]))] a0 (CD.ret ?_))
 obtain rfl := sm h
 exact NX.ret [0, 2160, 2161, 2220, 2221, 1012] a0 (by kernel_rfl)

theorem c13d {x0 : T28} {x1 : T74} {r : (List T53) × (List T60) × (List T53) × (List T60) × (List Int) × T74} (h : f13 x0 x1 = some r) :
 FnD cx 13 [.ref 0 [], k28.a x0] [bx (k74.a x1)] (k28.a (⟨(⟨r.1, r.2.1⟩ : T25), (⟨r.2.2.1, r.2.2.2.1⟩ : T25), r.2.2.2.2.1⟩ : T28)) [bx (k74.a r.2.2.2.2.2)] :=
 FnD.data (xs := [.agg [.agg [.own 1 r.1.length, .own 2 r.2.1.length], .agg [.own 3 r.2.2.1.length, .own 4 r.2.2.2.1.length], .own 5 r.2.2.2.2.1.length]]) (ys := [k28.a (⟨(⟨r.1, r.2.1⟩ : T25), (⟨r.2.2.1, r.2.2.2.1⟩ : T25), r.2.2.2.2.1⟩ : T28)]) (p := (True ∧ True)) (q := ((((r.1.length = (k53.m r.1).length) ∧ ((r.2.1.length = (k60.m r.2.1).length) ∧ True)) ∧ (((r.2.2.1.length = (k53.m r.2.2.1).length) ∧ ((r.2.2.2.1.length = (k60.m r.2.2.2.1).length) ∧ True)) ∧ ((r.2.2.2.2.1.length = (k3.m r.2.2.2.2.1).length) ∧ True))) ∧ True)) (c13 h) [0] (by kernel_rfl) (by kernel_rfl) a0 (by kernel_rfl) (a1 (k_len' k53 r.1) (a1 (k_len' k60 r.2.1) (a1 (k_len' k53 r.2.2.1) (a1 (k_len' k60 r.2.2.2.1) (a1 (k_len' k3 r.2.2.2.2.1) a0)))))


-- f14 spec.l10Keep
def f14 (x0 : T74) : Option ((List Int) × T74) :=
 jn (
 bd (f41 ([0, 1, 0, 2] : List Int) x0) fun v4 =>
 iter (fun (v14 : T74 × (List Int) × Int) =>
 if (decide (v14.2.2 > 0)) = true then
 bd (f41 ([5, 6, 1, 8, 9, (-1)] : List Int) v14.1) fun v18 =>
 bd (ap 8 v14.2.1 ([v18.1] : List Int)) fun v20 =>
 some (.inl (v18.2, v20, sb v14.2.2 1))
 else
 some (.inr (.inl (v14.2.1, v14.1)))) (v4.2, ([] : List Int), v4.1)) fun (v1 : (List Int) × T74) =>
 some (v1.1, v1.2)
theorem c14 {x0 : T74} {r : (List Int) × T74} (h : f14 x0 = some r) :
 FnD cx 14 [.ref 0 []] [bx (k74.a x0)] (.own 1 r.1.length) [bx (k74.a r.2), k3.r 3 .cell r.1] := by
 unfold f14 at h
 refine fnD_intro (fn := Tryz.f14) (by kernel_rfl) rfl (by kernel_rfl) (by kernel_rfl) fun E => ?_
 refine CD.seq (rg [] [] [] a0 (CD.seq (rg [(0, hO)] [(3, .own 1005 (([] : List Int).length))] [(1005, k3.r 3 .cell ([] : List Int))] a0 (CD.join (fun (v1 : (List Int) × T74) => ⟨[(3, .own 1005 v1.1.length)], [(1005, k3.r 3 .cell v1.1), (0, bx (k74.a v1.2))]⟩) h (fun u2 h q3 => ?_) (fun v1 h => ?_)))))
 refine CD.seq ?_
 rcases bd_some h with ⟨v4, g5, h⟩
 refine rg [(2, hC (iA v4.1) [bx (k74.a v4.2)] [0] [])] [(4, iA v4.1)] [(0, bx (k74.a v4.2))] (a1 (c41 g5) a0) (CD.block (CD.loopK (fun (v14 : T74 × (List Int) × Int) => ⟨[(0, .ref 0 []), (3, .own 1005 v14.2.1.length), (4, iA v14.2.2)], [(1005, k3.r 3 .cell v14.2.1), (0, bx (k74.a v14.1))]⟩) h (by kernel_rfl) (fun v14 u15 h q16 => ?_)))
 refine CD.seq (CD.seq (rg [] [(10, bA (decide (v14.2.2 > 0)))] [] a0 (br h (fun g17 h => ?_) (fun g17 h => ?_))))
 refine CD.skip (CD.seq (CD.block ?_))
 rcases bd_some h with ⟨v18, g19, h⟩
 rcases bd_some h with ⟨v20, g21, h⟩
 refine rg [(3, hC (iA v18.1) [bx (k74.a v18.2)] [0] []), (5, hW (.own 1005 v20.length) [(1005, k3.r 3 .cell v20)])] [(3, .own 1005 v20.length)] [(1005, k3.r 3 .cell v20), (0, bx (k74.a v18.2))] (a1 (c41 g19) (a1 (o_ap k3 1005 3 .cell g21 trivial) a0)) (NX.blN (rg [] [(4, iA (sb v14.2.2 1))] [] a0 ?_))
 obtain rfl := sm h
 exact NX.inl (by kernel_rfl)
 refine CD.exit ?_
 obtain rfl := sm h
 obtain rfl := q16 _ rfl
 exact NX.th (NX.lq (NX.brk (NX.inl (by kernel_rfl))))
 refine CD.seq (rg [] [(2, .own 1005 v1.1.length)] [] a0 (CD.ret ?_))
 obtain rfl := sm h
 exact NX.ret [0, 1005] a0 (by kernel_rfl)

theorem c14d {x0 : T74} {r : (List Int) × T74} (h : f14 x0 = some r) :
 FnD cx 14 [.ref 0 []] [bx (k74.a x0)] (k27.a r.1) [bx (k74.a r.2)] :=
 FnD.data (xs := [.own 1 r.1.length]) (ys := [k27.a r.1]) (p := (True ∧ True)) (q := ((r.1.length = (k3.m r.1).length) ∧ True)) (c14 h) [0] (by kernel_rfl) (by kernel_rfl) a0 (by kernel_rfl) (a1 (k_len' k3 r.1) a0)


-- f4 spec.DrawCallPost
def f4 (x0 : (List Int)) : Option ((List T53) × (List T60) × (List T53) × (List T60) × (List T53) × (List T60) × (List Int) × (List Int)) :=
 bd (f9 x0) fun v1 =>
 bd (f10 v1) fun v3 =>
 bd (f12 (⟨(⟨v3.2.1, v3.2.2.1⟩ : T25), (⟨v3.2.2.2.1, v3.2.2.2.2.1⟩ : T25), v3.2.2.2.2.2.1⟩ : T28) v3.2.2.2.2.2.2) fun v11 =>
 bd (f11 (⟨v11.1, v11.2.1⟩ : T25) v11.2.2) fun v13 =>
 bd (f13 (⟨(⟨v3.2.1, v3.2.2.1⟩ : T25), (⟨v3.2.2.2.1, v3.2.2.2.2.1⟩ : T25), v3.2.2.2.2.2.1⟩ : T28) v13.2.2) fun v15 =>
 bd (f14 v15.2.2.2.2.2) fun v17 =>
 some (v13.1, v13.2.1, v15.1, v15.2.1, v15.2.2.1, v15.2.2.2.1, v15.2.2.2.2.1, v17.1)
theorem c4 {x0 : (List Int)} {r : (List T53) × (List T60) × (List T53) × (List T60) × (List T53) × (List T60) × (List Int) × (List Int)} (h : f4 x0 = some r) :
 FnD cx 4 [k22.a x0] [] (.tup [.agg [.own 0 r.1.length, .own 1 r.2.1.length], .agg [.agg [.own 2 r.2.2.1.length, .own 3 r.2.2.2.1.length], .agg [.own 4 r.2.2.2.2.1.length, .own 5 r.2.2.2.2.2.1.length], .own 6 r.2.2.2.2.2.2.1.length], .own 7 r.2.2.2.2.2.2.2.length]) [k53.r 54 (.node [.cell, .cell, .cell]) r.1, k60.r 61 (.node [.cell, .cell, .cell]) r.2.1, k53.r 54 (.node [.cell, .cell, .cell]) r.2.2.1, k60.r 61 (.node [.cell, .cell, .cell]) r.2.2.2.1, k53.r 54 (.node [.cell, .cell, .cell]) r.2.2.2.2.1, k60.r 61 (.node [.cell, .cell, .cell]) r.2.2.2.2.2.1, k3.r 3 .cell r.2.2.2.2.2.2.1, k3.r 3 .cell r.2.2.2.2.2.2.2] := by
 unfold f4 at h
 refine fnD_intro (fn := Tryz.f4) (by kernel_rfl) rfl (by kernel_rfl) (by kernel_rfl) fun E => ?_
 refine CD.seq (rg [] [(2, .ref 1002 []), (3, .ref 1003 [])] [(1003, bx (.agg [.agg [.nils (.node [.cell, .cell, .cell]), .nils (.node [.cell, .cell, .cell])], .agg [.nils (.node [.cell, .cell, .cell]), .nils (.node [.cell, .cell, .cell])], .nils .cell])), (1002, bx (.agg [.nils (.node [.cell, .cell, .cell]), .nils (.node [.cell, .cell, .cell])]))] a0 (CD.seq ?_))
 rcases bd_some h with ⟨v1, g2, h⟩
 refine rg [(1, hC (.ref 0 []) [bx (k74.a v1)] [] [2200])] [(5, .ref 2200 [])] [(2200, bx (k74.a v1))] (a1 (c9 g2) a0) (CD.seq ?_)
 rcases bd_some h with ⟨v3, g4, h⟩
 refine rg [(1, hC (.tup [k39.a v3.1, .agg [.agg [.own 1 v3.2.1.length, .own 2 v3.2.2.1.length], .agg [k23.a v3.2.2.2.1, .own 3 v3.2.2.2.2.1.length], k27.a v3.2.2.2.2.2.1]]) [bx (k74.a v3.2.2.2.2.2.2), k53.r 54 (.node [.cell, .cell, .cell]) v3.2.1, k60.r 61 (.node [.cell, .cell, .cell]) v3.2.2.1, k60.r 61 (.node [.cell, .cell, .cell]) v3.2.2.2.2.1] [2200] [2260, 2261, 2262])] [(7, .ref 1007 [])] [(1007, bx (.agg [.agg [.own 2260 v3.2.1.length, .own 2261 v3.2.2.1.length], .agg [k23.a v3.2.2.2.1, .own 2262 v3.2.2.2.2.1.length], k27.a v3.2.2.2.2.2.1])), (2262, k60.r 61 (.node [.cell, .cell, .cell]) v3.2.2.2.2.1), (2261, k60.r 61 (.node [.cell, .cell, .cell]) v3.2.2.1), (2260, k53.r 54 (.node [.cell, .cell, .cell]) v3.2.1), (2200, bx (k74.a v3.2.2.2.2.2.2))] (a1 (c10 g4) a0) (CD.seq ?_)
 rcases bd_some h with ⟨v11, g12, h⟩
 rcases bd_some h with ⟨v13, g14, h⟩
 refine NX.fz k60 2262 61 (.node [.cell, .cell, .cell]) v3.2.2.2.2.1 (NX.fz k60 2261 61 (.node [.cell, .cell, .cell]) v3.2.2.1 (NX.fz k53 2260 54 (.node [.cell, .cell, .cell]) v3.2.1 (rg [(3, hC (k25.a (⟨v11.1, v11.2.1⟩ : T25)) [bx (k74.a v11.2.2)] [2200] []), (4, hC (.agg [.own 1 v13.1.length, .own 2 v13.2.1.length]) [bx (k74.a v13.2.2), k53.r 54 (.node [.cell, .cell, .cell]) v13.1, k60.r 61 (.node [.cell, .cell, .cell]) v13.2.1] [2200] [2400, 2401])] [(8, .ref 1008 [])] [(1008, bx (.agg [.own 2400 v13.1.length, .own 2401 v13.2.1.length])), (2401, k60.r 61 (.node [.cell, .cell, .cell]) v13.2.1), (2400, k53.r 54 (.node [.cell, .cell, .cell]) v13.1), (2200, bx (k74.a v13.2.2))] (a1 (k_len' k53 v3.2.1) (a1 (k_len' k60 v3.2.2.1) (a1 (k_len' k60 v3.2.2.2.2.1) (a1 (c12d g12) (a1 (c11 g14) a0))))) (CD.seq ?_))))
 rcases bd_some h with ⟨v15, g16, h⟩
 rcases bd_some h with ⟨v17, g18, h⟩
 refine rg [(0, hD [1008]), (2, hD [1007]), (3, (hC (.agg [.agg [.own 1 v15.1.length, .own 2 v15.2.1.length], .agg [.own 3 v15.2.2.1.length, .own 4 v15.2.2.2.1.length], .own 5 v15.2.2.2.2.1.length]) [bx (k74.a v15.2.2.2.2.2), k53.r 54 (.node [.cell, .cell, .cell]) v15.1, k60.r 61 (.node [.cell, .cell, .cell]) v15.2.1, k53.r 54 (.node [.cell, .cell, .cell]) v15.2.2.1, k60.r 61 (.node [.cell, .cell, .cell]) v15.2.2.2.1, k3.r 3 .cell v15.2.2.2.2.1] [2200] [2480, 2481, 2482, 2483, 2484]).g [2200, 2260, 2261, 2262]), (5, (hC (.own 1 v17.1.length) [bx (k74.a v17.2), k3.r 3 .cell v17.1] [2200] [2520]).g [2200]), (6, hD [1002]), (7, hD [1003])] [(4, .own 2520 v17.1.length)] [(1003, bx (.agg [.agg [.own 2480 v15.1.length, .own 2481 v15.2.1.length], .agg [.own 2482 v15.2.2.1.length, .own 2483 v15.2.2.2.1.length], .own 2484 v15.2.2.2.2.1.length])), (1002, bx (.agg [.own 2400 v13.1.length, .own 2401 v13.2.1.length])), (2520, k3.r 3 .cell v17.1), (2200, bx (k74.a v17.2)), (2484, k3.r 3 .cell v15.2.2.2.2.1), (2483, k60.r 61 (.node [.cell, .cell, .cell]) v15.2.2.2.1), (2482, k53.r 54 (.node [.cell, .cell, .cell]) v15.2.2.1), (2481, k60.r 61 (.node [.cell, .cell, .cell]) v15.2.1), (2480, k53.r 54 (.node [.cell, .cell, .cell]) v15.1)] (a1 (k_len' k53 v3.2.1) (a1 (k_len' k60 v3.2.2.1) (a1 (k_len' k60 v3.2.2.2.2.1) (a1 (c13 g16) (a1 (c14 g18) a0))))) (CD.ret ?_)
 obtain rfl := sm h
 exact NX.ret [2400, 2401, 2480, 2481, 2482, 2483, 2484, 2520] a0 (by kernel_rfl)

theorem c4d {x0 : (List Int)} {r : (List T53) × (List T60) × (List T53) × (List T60) × (List T53) × (List T60) × (List Int) × (List Int)} (h : f4 x0 = some r) :
 FnD cx 4 [k22.a x0] [] (.tup [k25.a (⟨r.1, r.2.1⟩ : T25), k28.a (⟨(⟨r.2.2.1, r.2.2.2.1⟩ : T25), (⟨r.2.2.2.2.1, r.2.2.2.2.2.1⟩ : T25), r.2.2.2.2.2.2.1⟩ : T28), k27.a r.2.2.2.2.2.2.2]) [] :=
 FnD.data (xs := [.agg [.own 0 r.1.length, .own 1 r.2.1.length], .agg [.agg [.own 2 r.2.2.1.length, .own 3 r.2.2.2.1.length], .agg [.own 4 r.2.2.2.2.1.length, .own 5 r.2.2.2.2.2.1.length], .own 6 r.2.2.2.2.2.2.1.length], .own 7 r.2.2.2.2.2.2.2.length]) (ys := [k25.a (⟨r.1, r.2.1⟩ : T25), k28.a (⟨(⟨r.2.2.1, r.2.2.2.1⟩ : T25), (⟨r.2.2.2.2.1, r.2.2.2.2.2.1⟩ : T25), r.2.2.2.2.2.2.1⟩ : T28), k27.a r.2.2.2.2.2.2.2]) (p := True) (q := (((r.1.length = (k53.m r.1).length) ∧ ((r.2.1.length = (k60.m r.2.1).length) ∧ True)) ∧ ((((r.2.2.1.length = (k53.m r.2.2.1).length) ∧ ((r.2.2.2.1.length = (k60.m r.2.2.2.1).length) ∧ True)) ∧ (((r.2.2.2.2.1.length = (k53.m r.2.2.2.2.1).length) ∧ ((r.2.2.2.2.2.1.length = (k60.m r.2.2.2.2.2.1).length) ∧ True)) ∧ ((r.2.2.2.2.2.2.1.length = (k3.m r.2.2.2.2.2.2.1).length) ∧ True))) ∧ ((r.2.2.2.2.2.2.2.length = (k3.m r.2.2.2.2.2.2.2).length) ∧ True)))) (c4 h) [] (by kernel_rfl) (by kernel_rfl) a0 (by kernel_rfl) (a1 (k_len' k53 r.1) (a1 (k_len' k60 r.2.1) (a1 (k_len' k53 r.2.2.1) (a1 (k_len' k60 r.2.2.2.1) (a1 (k_len' k53 r.2.2.2.2.1) (a1 (k_len' k60 r.2.2.2.2.2.1) (a1 (k_len' k3 r.2.2.2.2.2.2.1) (a1 (k_len' k3 r.2.2.2.2.2.2.2) a0))))))))


-- f68 impl.isTerm
def f68 (x0 : Int) : Option (Bool) :=
 if (decide (x0 ≥ 0)) = true then
 some (decide (x0 ≤ 8))
 else
 some false
theorem c68 {x0 : Int} {r : Bool} (h : f68 x0 = some r) :
 FnD cx 68 [iA x0] [] (bA r) [] := by
 unfold f68 at h
 refine fnD_intro (fn := Tryz.f68) (by kernel_rfl) rfl (by kernel_rfl) (by kernel_rfl) fun E => ?_
 refine CD.seq (rg [] [] [] a0 (CD.seq ?_))
 rcases if_some h with ⟨g1, h⟩ | ⟨g1, h⟩
 refine rg [(2, hT1)] [(2, bA (decide (x0 ≤ 8)))] [] (a1 (oB (c := (decide (x0 ≥ 0))) g1) a0) (CD.ret ?_)
 obtain rfl := sm h
 exact NX.ret [] a0 (by kernel_rfl)
 refine rg [(2, hF1)] [(2, bA false)] [] (a1 (oB (c := (decide (x0 ≥ 0))) g1) a0) (CD.ret ?_)
 obtain rfl := sm h
 exact NX.ret [] a0 (by kernel_rfl)


-- f67 impl.FactValid
def f67 (x0 : T53) : Option (Bool) :=
 bd (f68 x0.f1) fun v1 =>
 if v1 = true then
 bd (f68 x0.f2) fun v4 =>
 some v4
 else
 some false
theorem c67 {x0 : T53} {r : Bool} (h : f67 x0 = some r) :
 FnD cx 67 [k53.a x0] [] (bA r) [] := by
 unfold f67 at h
 refine fnD_intro (fn := Tryz.f67) (by kernel_rfl) rfl (by kernel_rfl) (by kernel_rfl) fun E => ?_
 refine CD.seq (rg [] [(1, .ref 1001 [])] [(1001, bx (k53.a x0))] a0 (CD.seq ?_))
 rcases bd_some h with ⟨v1, g2, h⟩
 rcases if_some h with ⟨g3, h⟩ | ⟨g3, h⟩
 rcases bd_some h with ⟨v4, g5, h⟩
 refine rg [(2, hC (bA v1) [] [] []), (3, hT1), (6, hC (bA v4) [] [] [])] [(2, bA v4)] [] (a1 (c68 g2) (a1 (oB (c := v1) g3) (a1 (c68 g5) a0))) (CD.ret ?_)
 obtain rfl := sm h
 exact NX.ret [] a0 (by kernel_rfl)
 refine rg [(2, hC (bA v1) [] [] []), (3, hF1)] [(2, bA false)] [] (a1 (c68 g2) (a1 (oB (c := v1) g3) a0)) (CD.ret ?_)
 obtain rfl := sm h
 exact NX.ret [] a0 (by kernel_rfl)


-- f42 impl.FactsValid
def f42 (x0 : (List T53)) : Option (Bool) :=
 if (decide ((ln x0) > 12)) = true then
 some false
 else
 jn (
 iter (fun (v14 : Int) =>
 if (decide (v14 < (ln x0))) = true then
 bd (ix x0 v14) fun v18 =>
 bd (f67 v18) fun v20 =>
 if (!v20) = true then
 some (.inr (.inr false))
 else
 some (.inl (ad v14 1))
 else
 some (.inr (.inl ()))) 0) fun (v2 : Unit) =>
 some true
theorem c42 {x0 : (List T53)} {r : Bool} (h : f42 x0 = some r) :
 FnD cx 42 [k23.a x0] [] (bA r) [] := by
 unfold f42 at h
 refine fnD_intro (fn := Tryz.f42) (by kernel_rfl) rfl (by kernel_rfl) (by kernel_rfl) fun E => ?_
 refine CD.seq (rg [] [] [] a0 (CD.seq (CD.seq (rg [(1, hV (iA (ln x0)))] [(7, bA (decide ((ln x0) > 12)))] [] (a1 (o_ln k53 x0) a0) (br h (fun g1 h => ?_) (fun g1 h => ?_))))))
 refine CD.seq (rg [] [(2, bA false)] [] a0 (CD.ret ?_))
 obtain rfl := sm h
 exact NX.ret [] a0 (by kernel_rfl)
 refine CD.skip (CD.join (fun (v2 : Unit) => ⟨[], []⟩) h (fun u3 h q4 => ?_) (fun v2 h => ?_))
 refine CD.seq (rg [(1, hV (iA (ln x0)))] [(8, k23.a x0), (9, iA (ln x0)), (10, iA 0)] [] (a1 (o_ln k53 x0) a0) (CD.block (CD.loopK (fun (v14 : Int) => ⟨[(8, k23.a x0), (9, iA (ln x0)), (10, iA v14)], []⟩) h (by kernel_rfl) (fun v14 u15 h q16 => ?_))))
 refine CD.seq (rg [] [(11, bA (decide (v14 < (ln x0))))] [] a0 (CD.seq (br h (fun g17 h => ?_) (fun g17 h => ?_))))
 refine CD.skip (CD.seq (CD.block (CD.seq ?_)))
 rcases bd_some h with ⟨v18, g19, h⟩
 refine rg [(0, hE (k53.x v18))] [(4, .ref 1004 [])] [(1004, bx (k53.a v18))] (a1 (o_ix k53 g19) a0) (CD.seq ?_)
 rcases bd_some h with ⟨v20, g21, h⟩
 refine rg [(1, hC (bA v20) [] [] [])] [(16, bA (!v20))] [] (a1 (c67 g21) a0) (br h (fun g22 h => ?_) (fun g22 h => ?_))
 refine CD.seq (rg [] [(2, bA false)] [] a0 (CD.ret ?_))
 obtain rfl := sm h
 obtain rfl := q16 _ rfl
 obtain rfl := q4 _ rfl
 exact NX.ret [] a0 (by kernel_rfl)
 refine CD.skip (NX.blN (rg [] [(10, iA (ad v14 1))] [] a0 ?_))
 obtain rfl := sm h
 exact NX.inl (by kernel_rfl)
 refine CD.exit ?_
 obtain rfl := sm h
 obtain rfl := q16 _ rfl
 exact NX.th (NX.lq (NX.brk (NX.inl (by kernel_rfl))))
 refine CD.seq (rg [] [(2, bA true)] [] a0 (CD.ret ?_))
 obtain rfl := sm h
 exact NX.ret [] a0 (by kernel_rfl)


-- f43 impl.atomValid
def f43 (x0 : T60) : Option (Bool) :=
 if (x0.f0 == 1) = true then
 bd (f68 x0.f1) fun v2 =>
 if v2 = true then
 bd (f68 x0.f2) fun v5 =>
 some v5
 else
 some false
 else
 if (x0.f0 == 2) = true then
 bd (f68 x0.f1) fun v8 =>
 if v8 = true then
 bd (f68 x0.f2) fun v11 =>
 some v11
 else
 some false
 else
 some false
theorem c43 {x0 : T60} {r : Bool} (h : f43 x0 = some r) :
 FnD cx 43 [k60.a x0] [] (bA r) [] := by
 unfold f43 at h
 refine fnD_intro (fn := Tryz.f43) (by kernel_rfl) rfl (by kernel_rfl) (by kernel_rfl) fun E => ?_
 refine CD.seq (rg [] [(1, .ref 1001 [])] [(1001, bx (k60.a x0))] a0 (CD.seq ?_))
 rcases if_some h with ⟨g1, h⟩ | ⟨g1, h⟩
 rcases bd_some h with ⟨v2, g3, h⟩
 rcases if_some h with ⟨g4, h⟩ | ⟨g4, h⟩
 rcases bd_some h with ⟨v5, g6, h⟩
 refine rg [(3, hT1), (11, hC (bA v2) [] [] []), (13, hT1), (16, hC (bA v5) [] [] [])] [(2, bA v5)] [] (a1 (oB (c := (x0.f0 == 1)) g1) (a1 (c68 g3) (a1 (oB (c := v2) g4) (a1 (c68 g6) a0)))) (CD.ret ?_)
 obtain rfl := sm h
 exact NX.ret [] a0 (by kernel_rfl)
 refine rg [(3, hT1), (11, hC (bA v2) [] [] []), (13, hF1)] [(2, bA false)] [] (a1 (oB (c := (x0.f0 == 1)) g1) (a1 (c68 g3) (a1 (oB (c := v2) g4) a0))) (CD.ret ?_)
 obtain rfl := sm h
 exact NX.ret [] a0 (by kernel_rfl)
 rcases if_some h with ⟨g7, h⟩ | ⟨g7, h⟩
 rcases bd_some h with ⟨v8, g9, h⟩
 rcases if_some h with ⟨g10, h⟩ | ⟨g10, h⟩
 rcases bd_some h with ⟨v11, g12, h⟩
 refine rg [(3, hF1), (8, hT1), (11, hC (bA v8) [] [] []), (13, hT1), (16, hC (bA v11) [] [] [])] [(2, bA v11)] [] (a1 (oB (c := (x0.f0 == 1)) g1) (a1 (oB (c := (x0.f0 == 2)) g7) (a1 (c68 g9) (a1 (oB (c := v8) g10) (a1 (c68 g12) a0))))) (CD.ret ?_)
 obtain rfl := sm h
 exact NX.ret [] a0 (by kernel_rfl)
 refine rg [(3, hF1), (8, hT1), (11, hC (bA v8) [] [] []), (13, hF1)] [(2, bA false)] [] (a1 (oB (c := (x0.f0 == 1)) g1) (a1 (oB (c := (x0.f0 == 2)) g7) (a1 (c68 g9) (a1 (oB (c := v8) g10) a0)))) (CD.ret ?_)
 obtain rfl := sm h
 exact NX.ret [] a0 (by kernel_rfl)
 refine rg [(3, hF1), (8, hF1)] [(2, bA false)] [] (a1 (oB (c := (x0.f0 == 1)) g1) (a1 (oB (c := (x0.f0 == 2)) g7) a0)) (CD.ret ?_)
 obtain rfl := sm h
 exact NX.ret [] a0 (by kernel_rfl)


-- f15 impl.AssertionValid
def f15 (x0 : T25) : Option (Bool) :=
 jn (
 bd (f42 x0.f0) fun v4 =>
 if (!v4) = true then
 some (.inr false)
 else
 if (decide ((ln x0.f1) > 6)) = true then
 some (.inr false)
 else
 some (.inl ())) fun (v1 : Unit) =>
 jn (
 iter (fun (v20 : Int) =>
 if (decide (v20 < (ln x0.f1))) = true then
 bd (ix x0.f1 v20) fun v24 =>
 bd (f43 v24) fun v26 =>
 if (!v26) = true then
 some (.inr (.inr false))
 else
 some (.inl (ad v20 1))
 else
 some (.inr (.inl ()))) 0) fun (v8 : Unit) =>
 some true
theorem c15 {x0 : T25} {r : Bool} (h : f15 x0 = some r) :
 FnD cx 15 [k25.a x0] [] (bA r) [] := by
 unfold f15 at h
 refine fnD_intro (fn := Tryz.f15) (by kernel_rfl) rfl (by kernel_rfl) (by kernel_rfl) fun E => ?_
 refine CD.seq (rg [] [(1, .ref 1001 [])] [(1001, bx (k25.a x0))] a0 (CD.join (fun (v1 : Unit) => ⟨[(1, .ref 1001 [])], [(1001, bx (k25.a x0))]⟩) h (fun u2 h q3 => ?_) (fun v1 h => ?_)))
 refine CD.seq ?_
 rcases bd_some h with ⟨v4, g5, h⟩
 rcases if_some h with ⟨g6, h⟩ | ⟨g6, h⟩
 refine rg [(2, hC (bA v4) [] [] []), (4, hT1)] [(14, bA true)] [] (a1 (c42 g5) (a1 (oB (c := (!v4)) g6) a0)) (CD.condT (b := true) (by kernel_rfl) rfl (CD.seq (rg [] [(2, bA false)] [] a0 (CD.ret ?_))))
 obtain rfl := sm h
 obtain rfl := q3 _ rfl
 exact NX.ret [] a0 (by kernel_rfl)
 refine rg [(2, hC (bA v4) [] [] []), (4, hF1), (7, hV (iA (ln x0.f1)))] [(14, bA (decide ((ln x0.f1) > 6)))] [] (a1 (c42 g5) (a1 (oB (c := (!v4)) g6) (a1 (o_ln k60 x0.f1) a0))) (br h (fun g7 h => ?_) (fun g7 h => ?_))
 refine CD.seq (rg [] [(2, bA false)] [] a0 (CD.ret ?_))
 obtain rfl := sm h
 obtain rfl := q3 _ rfl
 exact NX.ret [] a0 (by kernel_rfl)
 refine CD.skip ?_
 obtain rfl := sm h
 exact NX.inl (by kernel_rfl)
 refine CD.join (fun (v8 : Unit) => ⟨[], []⟩) h (fun u9 h q10 => ?_) (fun v8 h => ?_)
 refine CD.seq (rg [(2, hV (iA (ln x0.f1)))] [(16, k24.a x0.f1), (17, iA (ln x0.f1)), (18, iA 0)] [] (a1 (o_ln k60 x0.f1) a0) (CD.block (CD.loopK (fun (v20 : Int) => ⟨[(16, k24.a x0.f1), (17, iA (ln x0.f1)), (18, iA v20)], []⟩) h (by kernel_rfl) (fun v20 u21 h q22 => ?_))))
 refine CD.seq (rg [] [(19, bA (decide (v20 < (ln x0.f1))))] [] a0 (CD.seq (br h (fun g23 h => ?_) (fun g23 h => ?_))))
 refine CD.skip (CD.seq (CD.block (CD.seq ?_)))
 rcases bd_some h with ⟨v24, g25, h⟩
 refine rg [(0, hE (k60.x v24))] [(4, .ref 1004 [])] [(1004, bx (k60.a v24))] (a1 (o_ix k60 g25) a0) (CD.seq ?_)
 rcases bd_some h with ⟨v26, g27, h⟩
 refine rg [(1, hC (bA v26) [] [] [])] [(24, bA (!v26))] [] (a1 (c43 g27) a0) (br h (fun g28 h => ?_) (fun g28 h => ?_))
 refine CD.seq (rg [] [(2, bA false)] [] a0 (CD.ret ?_))
 obtain rfl := sm h
 obtain rfl := q22 _ rfl
 obtain rfl := q10 _ rfl
 exact NX.ret [] a0 (by kernel_rfl)
 refine CD.skip (NX.blN (rg [] [(18, iA (ad v20 1))] [] a0 ?_))
 obtain rfl := sm h
 exact NX.inl (by kernel_rfl)
 refine CD.exit ?_
 obtain rfl := sm h
 obtain rfl := q22 _ rfl
 exact NX.th (NX.lq (NX.brk (NX.inl (by kernel_rfl))))
 refine CD.seq (rg [] [(2, bA true)] [] a0 (CD.ret ?_))
 obtain rfl := sm h
 exact NX.ret [] a0 (by kernel_rfl)


-- f19 impl.Fact]
def f19 (x0 : (List T53)) (x1 : (List T53)) : Option ((List T53)) :=
 bd (mk 24 ((⟨false, 0, 0⟩ : T53) : T53) 0 (ad (ln x0) (ln x1))) fun v1 =>
 bd (ap 24 v1 x0) fun v3 =>
 bd (ap 24 v3 x1) fun v5 =>
 some v5
theorem c19 {x0 : (List T53)} {x1 : (List T53)} {r : (List T53)} (h : f19 x0 x1 = some r) :
 FnD cx 19 [k23.a x0, k23.a x1] [] (.own 0 r.length) [k53.r 54 (.node [.cell, .cell, .cell]) r] := by
 unfold f19 at h
 refine fnD_intro (fn := Tryz.f19) (by kernel_rfl) rfl (by kernel_rfl) (by kernel_rfl) fun E => ?_
 refine CD.seq (rg [] [] [] a0 (CD.seq ?_))
 rcases bd_some h with ⟨v1, g2, h⟩
 refine rg [(1, hV (iA (ln x0))), (3, hV (iA (ln x1))), (5, hW (.own 1011 v1.length) [(1011, k53.r 54 (.node [.cell, .cell, .cell]) v1)])] [(5, .own 1011 v1.length)] [(1011, k53.r 54 (.node [.cell, .cell, .cell]) v1)] (a1 (o_ln k53 x0) (a1 (o_ln k53 x1) (a1 (o_mk k53 1011 54 (.node [.cell, .cell, .cell]) g2 trivial) a0))) (CD.seq ?_)
 rcases bd_some h with ⟨v3, g4, h⟩
 rcases bd_some h with ⟨v5, g6, h⟩
 refine rg [(2, hW (.own 1011 v3.length) [(1011, k53.r 54 (.node [.cell, .cell, .cell]) v3)]), (4, hW (.own 1011 v5.length) [(1011, k53.r 54 (.node [.cell, .cell, .cell]) v5)])] [(4, .own 1011 v5.length)] [(1011, k53.r 54 (.node [.cell, .cell, .cell]) v5)] (a1 (o_ap k53 1011 54 (.node [.cell, .cell, .cell]) g4 trivial) (a1 (o_ap k53 1011 54 (.node [.cell, .cell, .cell]) g6 trivial) a0)) (CD.ret ?_)
 obtain rfl := sm h
 exact NX.ret [1011] a0 (by kernel_rfl)

theorem c19d {x0 : (List T53)} {x1 : (List T53)} {r : (List T53)} (h : f19 x0 x1 = some r) :
 FnD cx 19 [k23.a x0, k23.a x1] [] (k23.a r) [] :=
 FnD.data (xs := [.own 0 r.length]) (ys := [k23.a r]) (p := True) (q := ((r.length = (k53.m r).length) ∧ True)) (c19 h) [] (by kernel_rfl) (by kernel_rfl) a0 (by kernel_rfl) (a1 (k_len' k53 r) a0)


-- f21 impl.Atom]
def f21 (x0 : (List T60)) (x1 : (List T60)) : Option ((List T60)) :=
 bd (mk 24 ((⟨0, 0, 0⟩ : T60) : T60) 0 (ad (ln x0) (ln x1))) fun v1 =>
 bd (ap 24 v1 x0) fun v3 =>
 bd (ap 24 v3 x1) fun v5 =>
 some v5
theorem c21 {x0 : (List T60)} {x1 : (List T60)} {r : (List T60)} (h : f21 x0 x1 = some r) :
 FnD cx 21 [k24.a x0, k24.a x1] [] (.own 0 r.length) [k60.r 61 (.node [.cell, .cell, .cell]) r] := by
 unfold f21 at h
 refine fnD_intro (fn := Tryz.f21) (by kernel_rfl) rfl (by kernel_rfl) (by kernel_rfl) fun E => ?_
 refine CD.seq (rg [] [] [] a0 (CD.seq ?_))
 rcases bd_some h with ⟨v1, g2, h⟩
 refine rg [(1, hV (iA (ln x0))), (3, hV (iA (ln x1))), (5, hW (.own 1011 v1.length) [(1011, k60.r 61 (.node [.cell, .cell, .cell]) v1)])] [(5, .own 1011 v1.length)] [(1011, k60.r 61 (.node [.cell, .cell, .cell]) v1)] (a1 (o_ln k60 x0) (a1 (o_ln k60 x1) (a1 (o_mk k60 1011 61 (.node [.cell, .cell, .cell]) g2 trivial) a0))) (CD.seq ?_)
 rcases bd_some h with ⟨v3, g4, h⟩
 rcases bd_some h with ⟨v5, g6, h⟩
 refine rg [(2, hW (.own 1011 v3.length) [(1011, k60.r 61 (.node [.cell, .cell, .cell]) v3)]), (4, hW (.own 1011 v5.length) [(1011, k60.r 61 (.node [.cell, .cell, .cell]) v5)])] [(4, .own 1011 v5.length)] [(1011, k60.r 61 (.node [.cell, .cell, .cell]) v5)] (a1 (o_ap k60 1011 61 (.node [.cell, .cell, .cell]) g4 trivial) (a1 (o_ap k60 1011 61 (.node [.cell, .cell, .cell]) g6 trivial) a0)) (CD.ret ?_)
 obtain rfl := sm h
 exact NX.ret [1011] a0 (by kernel_rfl)

theorem c21d {x0 : (List T60)} {x1 : (List T60)} {r : (List T60)} (h : f21 x0 x1 = some r) :
 FnD cx 21 [k24.a x0, k24.a x1] [] (k24.a r) [] :=
 FnD.data (xs := [.own 0 r.length]) (ys := [k24.a r]) (p := True) (q := ((r.length = (k60.m r).length) ∧ True)) (c21 h) [] (by kernel_rfl) (by kernel_rfl) a0 (by kernel_rfl) (a1 (k_len' k60 r) a0)


-- f33 impl.StarAssertions
def f33 (x0 : T25) (x1 : T25) : Option ((List T53) × (List T60) × Bool) :=
 jn (
 bd (f15 x0) fun v4 =>
 if (!v4) = true then
 some (.inr ([], [], false))
 else
 bd (f15 x1) fun v7 =>
 if (!v7) = true then
 some (.inr ([], [], false))
 else
 some (.inl ())) fun (v1 : Unit) =>
 bd (f19 x0.f0 x1.f0) fun v10 =>
 bd (f21 x0.f1 x1.f1) fun v12 =>
 bd (f15 (⟨v10, v12⟩ : T25)) fun v14 =>
 if (!v14) = true then
 some ([], [], false)
 else
 some (v10, v12, true)
theorem c33 {x0 : T25} {x1 : T25} {r : (List T53) × (List T60) × Bool} (h : f33 x0 x1 = some r) :
 FnD cx 33 [k25.a x0, k25.a x1] [] (.tup [.agg [.own 0 r.1.length, .own 1 r.2.1.length], bA r.2.2]) [k53.r 54 (.node [.cell, .cell, .cell]) r.1, k60.r 61 (.node [.cell, .cell, .cell]) r.2.1] := by
 unfold f33 at h
 refine fnD_intro (fn := Tryz.f33) (by kernel_rfl) rfl (by kernel_rfl) (by kernel_rfl) fun E => ?_
 refine CD.seq (rg [] [(2, .ref 1002 []), (3, .ref 1003 []), (4, .ref 1004 [])] [(1004, bx (.agg [.nils (.node [.cell, .cell, .cell]), .nils (.node [.cell, .cell, .cell])])), (1003, bx (k25.a x1)), (1002, bx (k25.a x0))] a0 (CD.join (fun (v1 : Unit) => ⟨[(2, .ref 1002 []), (3, .ref 1003 []), (4, .ref 1004 [])], [(1002, bx (k25.a x0)), (1003, bx (k25.a x1)), (1004, bx (.agg [.nils (.node [.cell, .cell, .cell]), .nils (.node [.cell, .cell, .cell])]))]⟩) h (fun u2 h q3 => ?_) (fun v1 h => ?_)))
 refine CD.seq ?_
 rcases bd_some h with ⟨v4, g5, h⟩
 rcases if_some h with ⟨g6, h⟩ | ⟨g6, h⟩
 refine rg [(1, hC (bA v4) [] [] []), (3, hT1)] [(14, bA true)] [] (a1 (c15 g5) (a1 (oB (c := (!v4)) g6) a0)) (CD.condT (b := true) (by kernel_rfl) rfl (CD.seq (rg [] [(5, bA false)] [(1004, bx (.agg [.nils (.node [.cell, .cell, .cell]), .nils (.node [.cell, .cell, .cell])]))] a0 (CD.ret ?_))))
 obtain rfl := sm h
 obtain rfl := q3 _ rfl
 exact NX.own0b 1004 5000 [0] 54 (sh := (.node [.cell, .cell, .cell])) (c := .agg [.nils (.node [.cell, .cell, .cell]), .nils (.node [.cell, .cell, .cell])]) (c' := .agg [.own 5000 0, .nils (.node [.cell, .cell, .cell])]) (by kernel_rfl) (by kernel_rfl) (by kernel_rfl) (by kernel_rfl) (NX.own0b 1004 5001 [1] 61 (sh := (.node [.cell, .cell, .cell])) (c := .agg [.own 5000 0, .nils (.node [.cell, .cell, .cell])]) (c' := .agg [.own 5000 0, .own 5001 0]) (by kernel_rfl) (by kernel_rfl) (by kernel_rfl) (by kernel_rfl) (NX.ret [5000, 5001] a0 (by kernel_rfl)))
 rcases bd_some h with ⟨v7, g8, h⟩
 refine rg [(1, hC (bA v4) [] [] []), (3, hF1), (5, hC (bA v7) [] [] [])] [(14, bA (!v7))] [] (a1 (c15 g5) (a1 (oB (c := (!v4)) g6) (a1 (c15 g8) a0))) (br h (fun g9 h => ?_) (fun g9 h => ?_))
 refine CD.seq (rg [] [(5, bA false)] [(1004, bx (.agg [.nils (.node [.cell, .cell, .cell]), .nils (.node [.cell, .cell, .cell])]))] a0 (CD.ret ?_))
 obtain rfl := sm h
 obtain rfl := q3 _ rfl
 exact NX.own0b 1004 5000 [0] 54 (sh := (.node [.cell, .cell, .cell])) (c := .agg [.nils (.node [.cell, .cell, .cell]), .nils (.node [.cell, .cell, .cell])]) (c' := .agg [.own 5000 0, .nils (.node [.cell, .cell, .cell])]) (by kernel_rfl) (by kernel_rfl) (by kernel_rfl) (by kernel_rfl) (NX.own0b 1004 5001 [1] 61 (sh := (.node [.cell, .cell, .cell])) (c := .agg [.own 5000 0, .nils (.node [.cell, .cell, .cell])]) (c' := .agg [.own 5000 0, .own 5001 0]) (by kernel_rfl) (by kernel_rfl) (by kernel_rfl) (by kernel_rfl) (NX.ret [5000, 5001] a0 (by kernel_rfl)))
 refine CD.skip ?_
 obtain rfl := sm h
 exact NX.inl (by kernel_rfl)
 refine CD.seq ?_
 rcases bd_some h with ⟨v10, g11, h⟩
 rcases bd_some h with ⟨v12, g13, h⟩
 refine rg [(0, hD [1002]), (1, hD [1002]), (2, hD [1003]), (3, hD [1003]), (4, hC (.own 0 v10.length) [k53.r 54 (.node [.cell, .cell, .cell]) v10] [] [2400]), (5, hD [1002]), (6, hD [1002]), (7, hD [1003]), (8, hD [1003]), (9, hC (.own 0 v12.length) [k60.r 61 (.node [.cell, .cell, .cell]) v12] [] [2500]), (12, hD [1006])] [(6, .ref 1006 [])] [(1006, bx (.agg [.own 2400 v10.length, .own 2500 v12.length])), (2500, k60.r 61 (.node [.cell, .cell, .cell]) v12), (2400, k53.r 54 (.node [.cell, .cell, .cell]) v10)] (a1 (c19 g11) (a1 (c21 g13) a0)) (CD.seq (CD.seq ?_))
 rcases bd_some h with ⟨v14, g15, h⟩
 refine rg [(1, hC (bA v14) [] [] [])] [(29, bA (!v14))] [] (a1 (k_len' k53 v10) (a1 (k_len' k60 v12) (a1 (c15 g15) (a1 (show AV.plain (bA v14) = true ∧ allPlain [] = true from ⟨rfl, pl0⟩) a0)))) (br h (fun g16 h => ?_) (fun g16 h => ?_))
 refine CD.seq (rg [] [(5, bA false)] [(1004, bx (.agg [.nils (.node [.cell, .cell, .cell]), .nils (.node [.cell, .cell, .cell])]))] a0 (CD.ret ?_))
 obtain rfl := sm h
 exact NX.own0b 1004 5000 [0] 54 (sh := (.node [.cell, .cell, .cell])) (c := .agg [.nils (.node [.cell, .cell, .cell]), .nils (.node [.cell, .cell, .cell])]) (c' := .agg [.own 5000 0, .nils (.node [.cell, .cell, .cell])]) (by kernel_rfl) (by kernel_rfl) (by kernel_rfl) (by kernel_rfl) (NX.own0b 1004 5001 [1] 61 (sh := (.node [.cell, .cell, .cell])) (c := .agg [.own 5000 0, .nils (.node [.cell, .cell, .cell])]) (c' := .agg [.own 5000 0, .own 5001 0]) (by kernel_rfl) (by kernel_rfl) (by kernel_rfl) (by kernel_rfl) (NX.ret [5000, 5001] a0 (by kernel_rfl)))
 refine CD.skip (CD.seq (rg [] [(5, bA true)] [(1004, bx (.agg [.own 2400 v10.length, .own 2500 v12.length]))] a0 (CD.ret ?_)))
 obtain rfl := sm h
 exact NX.ret [2400, 2500] a0 (by kernel_rfl)

theorem c33d {x0 : T25} {x1 : T25} {r : (List T53) × (List T60) × Bool} (h : f33 x0 x1 = some r) :
 FnD cx 33 [k25.a x0, k25.a x1] [] (.tup [k25.a (⟨r.1, r.2.1⟩ : T25), bA r.2.2]) [] :=
 FnD.data (xs := [.agg [.own 0 r.1.length, .own 1 r.2.1.length], bA r.2.2]) (ys := [k25.a (⟨r.1, r.2.1⟩ : T25), bA r.2.2]) (p := True) (q := (((r.1.length = (k53.m r.1).length) ∧ ((r.2.1.length = (k60.m r.2.1).length) ∧ True)) ∧ (True ∧ True))) (c33 h) [] (by kernel_rfl) (by kernel_rfl) a0 (by kernel_rfl) (a1 (k_len' k53 r.1) (a1 (k_len' k60 r.2.1) a0))


-- f34 impl.pickAtoms
def f34 (x0 : T25) (x1 : Int) : Option ((List T53) × (List T60)) :=
 jn (
 iter (fun (v51 : (List T60) × Int) =>
 if (decide (v51.2 < (ln x0.f1))) = true then
 bd (ix x0.f1 v51.2) fun v55 =>
 bd (shr .i64 x1 v51.2) fun v57 =>
 if ((band .i64 v57 1) == 1) = true then
 bd (ap 24 v51.1 ([v55] : List T60)) fun v60 =>
 some (.inl (v60, ad v51.2 1))
 else
 some (.inl (v51.1, ad v51.2 1))
 else
 some (.inr (.inl v51.1))) ([], 0)) fun (v37 : (List T60)) =>
 some ([], v37)
theorem c34 {x0 : T25} {x1 : Int} {r : (List T53) × (List T60)} (h : f34 x0 x1 = some r) :
 FnD cx 34 [k25.a x0, iA x1] [] (.agg [k23.a r.1, .own 0 r.2.length]) [k60.r 61 (.node [.cell, .cell, .cell]) r.2] := by
 unfold f34 at h
 refine fnD_intro (fn := Tryz.f34) (by kernel_rfl) rfl (by kernel_rfl) (by kernel_rfl) fun E => ?_
 refine CD.seq (rg [] [(2, .ref 1002 []), (4, .ref 1004 [])] [(1004, bx (.agg [.nils (.node [.cell, .cell, .cell]), .nils (.node [.cell, .cell, .cell])])), (1002, bx (k25.a x0))] a0 (CD.seq (rg [] [(5, .ref 1005 [])] [(1005, bx (.agg [.nils (.node [.cell, .cell, .cell]), .nils (.node [.cell, .cell, .cell])]))] a0 (NX.own0b 1005 1025 [1] 61 (sh := (.node [.cell, .cell, .cell])) (c := .agg [.nils (.node [.cell, .cell, .cell]), .nils (.node [.cell, .cell, .cell])]) (c' := .agg [.nils (.node [.cell, .cell, .cell]), .own 1025 0]) (by kernel_rfl) (by kernel_rfl) (by kernel_rfl) (by kernel_rfl) (CD.join (fun (v37 : (List T60)) => ⟨[(4, .ref 1004 []), (5, .ref 1005 [])], [(1025, k60.r 61 (.node [.cell, .cell, .cell]) v37), (1004, bx (.agg [.nils (.node [.cell, .cell, .cell]), .nils (.node [.cell, .cell, .cell])])), (1005, bx (.agg [.nils (.node [.cell, .cell, .cell]), .own 1025 v37.length]))]⟩) h (fun u38 h q39 => ?_) (fun v37 h => ?_))))))
 refine CD.seq (rg [(2, hV (iA (ln x0.f1)))] [(9, k24.a x0.f1), (10, iA (ln x0.f1)), (11, iA 0)] [] (a1 (o_ln k60 x0.f1) a0) (CD.block (CD.loopK (fun (v51 : (List T60) × Int) => ⟨[(1, iA x1), (4, .ref 1004 []), (5, .ref 1005 []), (9, k24.a x0.f1), (10, iA (ln x0.f1)), (11, iA v51.2)], [(1025, k60.r 61 (.node [.cell, .cell, .cell]) v51.1), (1004, bx (.agg [.nils (.node [.cell, .cell, .cell]), .nils (.node [.cell, .cell, .cell])])), (1005, bx (.agg [.nils (.node [.cell, .cell, .cell]), .own 1025 v51.1.length]))]⟩) h (by kernel_rfl) (fun v51 u52 h q53 => ?_))))
 refine CD.seq (rg [] [(12, bA (decide (v51.2 < (ln x0.f1))))] [] a0 (CD.seq (br h (fun g54 h => ?_) (fun g54 h => ?_))))
 refine CD.skip (CD.seq (CD.block (CD.seq ?_)))
 rcases bd_some h with ⟨v55, g56, h⟩
 refine rg [(1, hE (k60.x v55))] [(7, .ref 1007 []), (6, iA v51.2)] [(1007, bx (k60.a v55))] (a1 (o_ix k60 g56) a0) (CD.seq ?_)
 rcases bd_some h with ⟨v57, g58, h⟩
 refine rg [(2, hV (iA v57))] [(20, bA ((band .i64 v57 1) == 1))] [] (a1 (o_shr g58) a0) (br h (fun g59 h => ?_) (fun g59 h => ?_))
 rcases bd_some h with ⟨v60, g61, h⟩
 refine rg [(4, hW (.own 1025 v60.length) [(1025, k60.r 61 (.node [.cell, .cell, .cell]) v60)])] [] [(1005, bx (.agg [.nils (.node [.cell, .cell, .cell]), .own 1025 v60.length])), (1025, k60.r 61 (.node [.cell, .cell, .cell]) v60)] (a1 (o_ap k60 1025 61 (.node [.cell, .cell, .cell]) g61 trivial) a0) (NX.blN (rg [] [(11, iA (ad v51.2 1))] [] a0 ?_))
 obtain rfl := sm h
 exact NX.inl (by kernel_rfl)
 refine CD.skip (NX.blN (rg [] [(11, iA (ad v51.2 1))] [] a0 ?_))
 obtain rfl := sm h
 exact NX.inl (by kernel_rfl)
 refine CD.exit ?_
 obtain rfl := sm h
 obtain rfl := q53 _ rfl
 exact NX.th (NX.lq (NX.brk (NX.inl (by kernel_rfl))))
 refine CD.seq (rg [] [] [(1004, bx (.agg [.nils (.node [.cell, .cell, .cell]), .own 1025 v37.length]))] a0 (CD.ret ?_))
 obtain rfl := sm h
 exact NX.ret [1025] a0 (by kernel_rfl)

theorem c34d {x0 : T25} {x1 : Int} {r : (List T53) × (List T60)} (h : f34 x0 x1 = some r) :
 FnD cx 34 [k25.a x0, iA x1] [] (k25.a (⟨r.1, r.2⟩ : T25)) [] :=
 FnD.data (xs := [.agg [k23.a r.1, .own 0 r.2.length]]) (ys := [k25.a (⟨r.1, r.2⟩ : T25)]) (p := True) (q := ((True ∧ ((r.2.length = (k60.m r.2).length) ∧ True)) ∧ True)) (c34 h) [] (by kernel_rfl) (by kernel_rfl) a0 (by kernel_rfl) (a1 (k_len' k60 r.2) a0)


-- f45 impl.termSet).with
def f45 (x0 : Int) (x1 : Int) : Option (Int) :=
 bd (f68 x1) fun v1 =>
 if (!v1) = true then
 some x0
 else
 bd (shl .u16 1 x1) fun v4 =>
 some (bor .u16 x0 v4)
theorem c45 {x0 : Int} {x1 : Int} {r : Int} (h : f45 x0 x1 = some r) :
 FnD cx 45 [k48.a x0, iA x1] [] (k48.a r) [] := by
 unfold f45 at h
 refine fnD_intro (fn := Tryz.f45) (by kernel_rfl) rfl (by kernel_rfl) (by kernel_rfl) fun E => ?_
 refine CD.seq (rg [] [] [] a0 (CD.seq (CD.seq ?_)))
 rcases bd_some h with ⟨v1, g2, h⟩
 refine rg [(1, hC (bA v1) [] [] [])] [(7, bA (!v1))] [] (a1 (c68 g2) a0) (br h (fun g3 h => ?_) (fun g3 h => ?_))
 refine CD.seq (rg [] [(4, k48.a x0)] [] a0 (CD.ret ?_))
 obtain rfl := sm h
 exact NX.ret [] a0 (by kernel_rfl)
 refine CD.skip (CD.seq ?_)
 rcases bd_some h with ⟨v4, g5, h⟩
 refine rg [(2, hV (k48.a v4))] [(4, k48.a (bor .u16 x0 v4))] [] (a1 (o_shl g5) a0) (CD.ret ?_)
 obtain rfl := sm h
 exact NX.ret [] a0 (by kernel_rfl)


-- f17 impl.termsIn
def f17 (x0 : T25) : Option (Int) :=
 jn (
 iter (fun (v14 : Int × Int) =>
 if (decide (v14.2 < (ln x0.f0))) = true then
 bd (ix x0.f0 v14.2) fun v18 =>
 bd (f45 v14.1 v18.f1) fun v20 =>
 bd (f45 v20 v18.f2) fun v22 =>
 some (.inl (v22, ad v14.2 1))
 else
 some (.inr (.inl v14.1))) (0, 0)) fun (v1 : Int) =>
 jn (
 iter (fun (v37 : Int × Int) =>
 if (decide (v37.2 < (ln x0.f1))) = true then
 bd (ix x0.f1 v37.2) fun v41 =>
 bd (f45 v37.1 v41.f1) fun v43 =>
 bd (f45 v43 v41.f2) fun v45 =>
 some (.inl (v45, ad v37.2 1))
 else
 some (.inr (.inl v37.1))) (v1, 0)) fun (v24 : Int) =>
 some v24
theorem c17 {x0 : T25} {r : Int} (h : f17 x0 = some r) :
 FnD cx 17 [k25.a x0] [] (k48.a r) [] := by
 unfold f17 at h
 refine fnD_intro (fn := Tryz.f17) (by kernel_rfl) rfl (by kernel_rfl) (by kernel_rfl) fun E => ?_
 refine CD.seq (rg [] [(1, .ref 1001 [])] [(1001, bx (k25.a x0))] a0 (CD.seq (rg [] [(3, k48.a 0)] [] a0 (CD.join (fun (v1 : Int) => ⟨[(1, .ref 1001 []), (3, k48.a v1)], [(1001, bx (k25.a x0))]⟩) h (fun u2 h q3 => ?_) (fun v1 h => ?_)))))
 refine CD.seq (rg [(2, hV (iA (ln x0.f0)))] [(9, k23.a x0.f0), (10, iA (ln x0.f0)), (11, iA 0)] [] (a1 (o_ln k53 x0.f0) a0) (CD.block (CD.loopK (fun (v14 : Int × Int) => ⟨[(1, .ref 1001 []), (3, k48.a v14.1), (9, k23.a x0.f0), (10, iA (ln x0.f0)), (11, iA v14.2)], [(1001, bx (k25.a x0))]⟩) h (by kernel_rfl) (fun v14 u15 h q16 => ?_))))
 refine CD.seq (rg [] [(12, bA (decide (v14.2 < (ln x0.f0))))] [] a0 (CD.seq (br h (fun g17 h => ?_) (fun g17 h => ?_))))
 refine CD.skip (CD.seq (CD.block (CD.seq ?_)))
 rcases bd_some h with ⟨v18, g19, h⟩
 refine rg [(0, hE (k53.x v18))] [(5, .ref 1005 [])] [(1005, bx (k53.a v18))] (a1 (o_ix k53 g19) a0) ?_
 rcases bd_some h with ⟨v20, g21, h⟩
 rcases bd_some h with ⟨v22, g23, h⟩
 refine rg [(1, hD [1005]), (2, hD [1005]), (3, hC (k48.a v20) [] [] []), (4, hD [1005]), (5, hD [1005]), (6, hC (k48.a v22) [] [] [])] [(3, k48.a v22)] [] (a1 (c45 g21) (a1 (c45 g23) a0)) (NX.blN (rg [] [(11, iA (ad v14.2 1))] [] a0 ?_))
 obtain rfl := sm h
 exact NX.inl (by kernel_rfl)
 refine CD.exit ?_
 obtain rfl := sm h
 obtain rfl := q16 _ rfl
 exact NX.th (NX.lq (NX.brk (NX.inl (by kernel_rfl))))
 refine CD.join (fun (v24 : Int) => ⟨[(3, k48.a v24)], []⟩) h (fun u25 h q26 => ?_) (fun v24 h => ?_)
 refine CD.seq (rg [(2, hV (iA (ln x0.f1)))] [(24, k24.a x0.f1), (25, iA (ln x0.f1)), (26, iA 0)] [] (a1 (o_ln k60 x0.f1) a0) (CD.block (CD.loopK (fun (v37 : Int × Int) => ⟨[(3, k48.a v37.1), (24, k24.a x0.f1), (25, iA (ln x0.f1)), (26, iA v37.2)], []⟩) h (by kernel_rfl) (fun v37 u38 h q39 => ?_))))
 refine CD.seq (rg [] [(27, bA (decide (v37.2 < (ln x0.f1))))] [] a0 (CD.seq (br h (fun g40 h => ?_) (fun g40 h => ?_))))
 refine CD.skip (CD.seq (CD.block (CD.seq ?_)))
 rcases bd_some h with ⟨v41, g42, h⟩
 refine rg [(0, hE (k60.x v41))] [(7, .ref 1007 [])] [(1007, bx (k60.a v41))] (a1 (o_ix k60 g42) a0) ?_
 rcases bd_some h with ⟨v43, g44, h⟩
 rcases bd_some h with ⟨v45, g46, h⟩
 refine rg [(1, hD [1007]), (2, hD [1007]), (3, hC (k48.a v43) [] [] []), (4, hD [1007]), (5, hD [1007]), (6, hC (k48.a v45) [] [] [])] [(3, k48.a v45)] [] (a1 (c45 g44) (a1 (c45 g46) a0)) (NX.blN (rg [] [(26, iA (ad v37.2 1))] [] a0 ?_))
 obtain rfl := sm h
 exact NX.inl (by kernel_rfl)
 refine CD.exit ?_
 obtain rfl := sm h
 obtain rfl := q39 _ rfl
 exact NX.th (NX.lq (NX.brk (NX.inl (by kernel_rfl))))
 refine CD.seq (rg [] [(2, k48.a v24)] [] a0 (CD.ret ?_))
 obtain rfl := sm h
 exact NX.ret [] a0 (by kernel_rfl)


-- f46 impl.termSet).has
def f46 (x0 : Int) (x1 : Int) : Option (Bool) :=
 bd (f68 x1) fun v1 =>
 if v1 = true then
 bd (shr .u16 x0 x1) fun v4 =>
 some ((band .u16 v4 1) == 1)
 else
 some false
theorem c46 {x0 : Int} {x1 : Int} {r : Bool} (h : f46 x0 x1 = some r) :
 FnD cx 46 [k48.a x0, iA x1] [] (bA r) [] := by
 unfold f46 at h
 refine fnD_intro (fn := Tryz.f46) (by kernel_rfl) rfl (by kernel_rfl) (by kernel_rfl) fun E => ?_
 refine CD.seq (rg [] [] [] a0 (CD.seq ?_))
 rcases bd_some h with ⟨v1, g2, h⟩
 rcases if_some h with ⟨g3, h⟩ | ⟨g3, h⟩
 rcases bd_some h with ⟨v4, g5, h⟩
 refine rg [(1, hC (bA v1) [] [] []), (2, hT1), (5, hV (k48.a v4))] [(4, bA ((band .u16 v4 1) == 1))] [] (a1 (c68 g2) (a1 (oB (c := v1) g3) (a1 (o_shr g5) a0))) (CD.ret ?_)
 obtain rfl := sm h
 exact NX.ret [] a0 (by kernel_rfl)
 refine rg [(1, hC (bA v1) [] [] []), (2, hF1)] [(4, bA false)] [] (a1 (c68 g2) (a1 (oB (c := v1) g3) a0)) (CD.ret ?_)
 obtain rfl := sm h
 exact NX.ret [] a0 (by kernel_rfl)


-- f112 impl.termCase).factHolds
def f112 (x0 : T53) (x1 : (List Int)) : Option (Bool) :=
 bd (lq 9 x1) fun u3 =>
 bd (ix x1 x0.f1) fun v1 =>
 bd (lq 9 x1) fun u7 =>
 bd (ix x1 x0.f2) fun v5 =>
 some ((v1 == v5) == x0.f0)
theorem c112 {x0 : T53} {x1 : (List Int)} {r : Bool} (h : f112 x0 x1 = some r) :
 FnD cx 112 [.ref 0 [], k53.a x0] [bx (k89.a x1)] (bA r) [bx (k89.a x1)] := by
 unfold f112 at h
 refine fnD_intro (fn := Tryz.f112) (by kernel_rfl) rfl (by kernel_rfl) (by kernel_rfl) fun E => ?_
 refine CD.seq (rg [] [(3, .ref 1003 [])] [(1003, bx (k53.a x0))] a0 (CD.seq ?_))
 rcases bd_some h with ⟨u3, g4, h⟩
 rcases bd_some h with ⟨v1, g2, h⟩
 rcases bd_some h with ⟨u7, g8, h⟩
 rcases bd_some h with ⟨v5, g6, h⟩
 refine rg [(1, hD [1003]), (2, hD [1003]), (4, hD [0]), (5, (hI (iA v1)).g [0]), (7, hD [1003]), (8, hD [1003]), (10, hD [0]), (11, (hI (iA v5)).g [0]), (13, hD [1003]), (14, hD [1003])] [(4, bA ((v1 == v5) == x0.f0))] [] (a1 (o_ixA g2 (lq_some g4)) (a1 (show AV.get [x0.f1.toNat] (k89.a x1) = some (iA v1) from o_gtA k3 g2) (a1 (o_ixA g6 (lq_some g8)) (a1 (show AV.get [x0.f2.toNat] (k89.a x1) = some (iA v5) from o_gtA k3 g6) a0)))) (CD.ret ?_)
 obtain rfl := sm h
 exact NX.ret [0] a0 (by kernel_rfl)


-- f113 impl.termCase).isFilled
def f113 (x0 : T60) (x1 : (List Int)) : Option (Bool) :=
 if (x0.f0 == 1) = true then
 some true
 else
 bd (lq 9 x1) fun u4 =>
 bd (ix x1 x0.f1) fun v2 =>
 bd (lq 9 x1) fun u8 =>
 bd (ix x1 x0.f2) fun v6 =>
 some (v2 != v6)
theorem c113 {x0 : T60} {x1 : (List Int)} {r : Bool} (h : f113 x0 x1 = some r) :
 FnD cx 113 [.ref 0 [], k60.a x0] [bx (k89.a x1)] (bA r) [bx (k89.a x1)] := by
 unfold f113 at h
 refine fnD_intro (fn := Tryz.f113) (by kernel_rfl) rfl (by kernel_rfl) (by kernel_rfl) fun E => ?_
 refine CD.seq (rg [] [(3, .ref 1003 [])] [(1003, bx (k60.a x0))] a0 (CD.seq ?_))
 rcases if_some h with ⟨g1, h⟩ | ⟨g1, h⟩
 refine rg [(0, hD [1003]), (1, hD [1003]), (3, hT1)] [(4, bA true)] [] (a1 (oB (c := (x0.f0 == 1)) g1) a0) (CD.ret ?_)
 obtain rfl := sm h
 exact NX.ret [0] a0 (by kernel_rfl)
 rcases bd_some h with ⟨u4, g5, h⟩
 rcases bd_some h with ⟨v2, g3, h⟩
 rcases bd_some h with ⟨u8, g9, h⟩
 rcases bd_some h with ⟨v6, g7, h⟩
 refine rg [(0, hD [1003]), (1, hD [1003]), (3, hF1), (5, hD [1003]), (6, hD [1003]), (8, hD [0]), (9, (hI (iA v2)).g [0]), (11, hD [1003]), (12, hD [1003]), (14, hD [0]), (15, (hI (iA v6)).g [0])] [(4, bA (v2 != v6))] [] (a1 (oB (c := (x0.f0 == 1)) g1) (a1 (o_ixA g3 (lq_some g5)) (a1 (show AV.get [x0.f1.toNat] (k89.a x1) = some (iA v2) from o_gtA k3 g3) (a1 (o_ixA g7 (lq_some g9)) (a1 (show AV.get [x0.f2.toNat] (k89.a x1) = some (iA v6) from o_gtA k3 g7) a0))))) (CD.ret ?_)
 obtain rfl := sm h
 exact NX.ret [0] a0 (by kernel_rfl)

end Go.Sep.Y
