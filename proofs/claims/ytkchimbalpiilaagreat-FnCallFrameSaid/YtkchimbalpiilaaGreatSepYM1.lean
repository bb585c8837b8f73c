/- Part of the proof: mirrors of the functions of this seat, and that the functions give what their mirrors give. -/
import Derived.Test.YtkchimbalpiilaaGreatSepYM0
set_option linter.all false
set_option linter.deprecated false
open Go Go.Sep Go.Proofs
set_option maxRecDepth 100000
namespace Go.Sep.Y
-- f59 spec.ParseAssertion
def f59 (x0 : (List UInt8)) : Option ((List T53) × (List T60) × Bool) :=
 bd (f76 x0) fun v1 =>
 if (decide ((ln x0) > 300)) = true then
 some ([], [], false)
 else
 jn (
 iter (fun (v515 : (List T53) × (List T60) × Bool × Int) =>
 if (decide (v515.2.2.2 < (ln v1))) = true then
 jn (
 bd (ix v1 v515.2.2.2) fun v522 =>
 bd (f77 v522) fun v524 =>
 bd (ix v1 v515.2.2.2) fun v526 =>
 bd (f78 v526) fun v528 =>
 jn (
 jn (
 if (!v515.2.2.1) = true then
 some (.inl v524.2)
 else
 some (.inl false)) fun (v533 : Bool) =>
 if v533 = true then
 bd (ap 24 v515.1 ([v524.1] : List T53)) fun v538 =>
 some (.inl (v538, v515.2.1))
 else
 jn (
 if v515.2.2.1 = true then
 some (.inl v528.2)
 else
 some (.inl false)) fun (v540 : Bool) =>
 if v540 = true then
 bd (ap 24 v515.2.1 ([v528.1] : List T60)) fun v545 =>
 some (.inl (v515.1, v545))
 else
 bd (ix v1 v515.2.2.2) fun v547 =>
 if (!(v547 == ([116, 114, 117, 101] : List UInt8))) = true then
 bd (ix v1 v515.2.2.2) fun v550 =>
 if (!(v550 == ([101, 109, 112] : List UInt8))) = true then
 some (.inr (.inr (.inr (.inr ([], [], false)))))
 else
 some (.inl (v515.1, v515.2.1))
 else
 some (.inl (v515.1, v515.2.1))) fun (v530 : (List T53) × (List T60)) =>
 if v515.2.2.1 = true then
 some (.inl (true, v530.1, v530.2))
 else
 if (decide ((ad v515.2.2.2 1) < (ln v1))) = true then
 bd (ix v1 (ad v515.2.2.2 1)) fun v555 =>
 some (.inl (v555 == ([124] : List UInt8), v530.1, v530.2))
 else
 some (.inl (false, v530.1, v530.2))) fun (v519 : Bool × (List T53) × (List T60)) =>
 some (.inl (v519.2.1, v519.2.2, v519.1, ad v515.2.2.2 2))
 else
 some (.inr (.inl (v515.1, v515.2.1)))) ([], [], false, 0)) fun (v434 : (List T53) × (List T60)) =>
 bd (f79 (⟨v434.1, v434.2⟩ : T25)) fun v557 =>
 if (!(v557 == x0)) = true then
 some ([], [], false)
 else
 if (x0 == ([] : List UInt8)) = true then
 some ([], [], false)
 else
 some (v434.1, v434.2, true)
theorem c59 {x0 : (List UInt8)} {r : (List T53) × (List T60) × Bool} (h : f59 x0 = some r) :
 FnD cx 59 [sA x0] [] (.tup [.agg [.own 0 r.1.length, .own 1 r.2.1.length], bA r.2.2]) [k53.r 54 (.node [.cell, .cell, .cell]) r.1, k60.r 61 (.node [.cell, .cell, .cell]) r.2.1] := by
 unfold f59 at h
 refine fnD_intro (fn := Tryz.f59) (by kernel_rfl) rfl (by kernel_rfl) (by kernel_rfl) fun E => ?_
 refine CD.seq (rg [] [(2, .ref 1002 [])] [(1002, bx (.agg [.nils (.node [.cell, .cell, .cell]), .nils (.node [.cell, .cell, .cell])]))] a0 (CD.seq ?_))
 rcases bd_some h with ⟨v1, g2, h⟩
 refine rg [(1, hC (.own 0 v1.length) [k9.r 9 .cell v1] [] [2260])] [(4, .own 2260 v1.length)] [(2260, k9.r 9 .cell v1)] (a1 (c76 g2) a0) (CD.seq (rg [] [(5, .ref 1005 [])] [(1005, bx (.agg [.nils (.node [.cell, .cell, .cell]), .nils (.node [.cell, .cell, .cell])]))] a0 (CD.seq (rg [] [(6, bA false)] [] a0 (CD.seq (CD.seq (rg [] [(17, bA (decide ((ln x0) > 300)))] [] a0 (br h (fun g3 h => ?_) (fun g3 h => ?_)))))))))
 refine CD.seq (rg [] [(3, bA false)] [(1002, bx (.agg [.nils (.node [.cell, .cell, .cell]), .nils (.node [.cell, .cell, .cell])]))] a0 (CD.ret ?_))
 obtain rfl := sm h
 exact NX.own0b 1002 5000 [0] 54 (sh := (.node [.cell, .cell, .cell])) (c := .agg [.nils (.node [.cell, .cell, .cell]), .nils (.node [.cell, .cell, .cell])]) (c' := .agg [.own 5000 0, .nils (.node [.cell, .cell, .cell])]) (by kernel_rfl) (by kernel_rfl) (by kernel_rfl) (by kernel_rfl) (NX.own0b 1002 5001 [1] 61 (sh := (.node [.cell, .cell, .cell])) (c := .agg [.own 5000 0, .nils (.node [.cell, .cell, .cell])]) (c' := .agg [.own 5000 0, .own 5001 0]) (by kernel_rfl) (by kernel_rfl) (by kernel_rfl) (by kernel_rfl) (NX.ret [5000, 5001] a0 (by kernel_rfl)))
 refine CD.skip (NX.own0b 1005 1051 [0] 54 (sh := (.node [.cell, .cell, .cell])) (c := .agg [.nils (.node [.cell, .cell, .cell]), .nils (.node [.cell, .cell, .cell])]) (c' := .agg [.own 1051 0, .nils (.node [.cell, .cell, .cell])]) (by kernel_rfl) (by kernel_rfl) (by kernel_rfl) (by kernel_rfl) (NX.own0b 1005 1062 [1] 61 (sh := (.node [.cell, .cell, .cell])) (c := .agg [.own 1051 0, .nils (.node [.cell, .cell, .cell])]) (c' := .agg [.own 1051 0, .own 1062 0]) (by kernel_rfl) (by kernel_rfl) (by kernel_rfl) (by kernel_rfl) (CD.join (fun (v434 : (List T53) × (List T60)) => ⟨[(0, sA x0), (2, .ref 1002 []), (5, .ref 1005 [])], [(1051, k53.r 54 (.node [.cell, .cell, .cell]) v434.1), (1062, k60.r 61 (.node [.cell, .cell, .cell]) v434.2), (1002, bx (.agg [.nils (.node [.cell, .cell, .cell]), .nils (.node [.cell, .cell, .cell])])), (1005, bx (.agg [.own 1051 v434.1.length, .own 1062 v434.2.length]))]⟩) h (fun u435 h q436 => ?_) (fun v434 h => ?_))))
 refine CD.seq (rg [] [(7, iA 0)] [] a0 (CD.block (CD.loopK (fun (v515 : (List T53) × (List T60) × Bool × Int) => ⟨[(0, sA x0), (2, .ref 1002 []), (4, .own 2260 v1.length), (5, .ref 1005 []), (6, bA v515.2.2.1), (7, iA v515.2.2.2)], [(2260, k9.r 9 .cell v1), (1051, k53.r 54 (.node [.cell, .cell, .cell]) v515.1), (1062, k60.r 61 (.node [.cell, .cell, .cell]) v515.2.1), (1002, bx (.agg [.nils (.node [.cell, .cell, .cell]), .nils (.node [.cell, .cell, .cell])])), (1005, bx (.agg [.own 1051 v515.1.length, .own 1062 v515.2.1.length]))]⟩) h (by kernel_rfl) (fun v515 u516 h q517 => ?_))))
 refine CD.seq (CD.seq (rg [] [(22, bA (decide (v515.2.2.2 < (ln v1))))] [] a0 (br h (fun g518 h => ?_) (fun g518 h => ?_))))
 refine CD.skip (CD.join (fun (v519 : Bool × (List T53) × (List T60)) => ⟨[(0, sA x0), (2, .ref 1002 []), (4, .own 2260 v1.length), (5, .ref 1005 []), (6, bA v519.1), (7, iA v515.2.2.2)], [(2260, k9.r 9 .cell v1), (1051, k53.r 54 (.node [.cell, .cell, .cell]) v519.2.1), (1062, k60.r 61 (.node [.cell, .cell, .cell]) v519.2.2), (1002, bx (.agg [.nils (.node [.cell, .cell, .cell]), .nils (.node [.cell, .cell, .cell])])), (1005, bx (.agg [.own 1051 v519.2.1.length, .own 1062 v519.2.2.length]))]⟩) h (fun u520 h q521 => ?_) (fun v519 h => ?_))
 refine CD.block (CD.seq ?_)
 rcases bd_some h with ⟨v522, g523, h⟩
 rcases bd_some h with ⟨v524, g525, h⟩
 refine rg [(3, hE (.str v522)), (4, hC (.tup [k53.a v524.1, bA v524.2]) [] [] [])] [(8, .ref 1008 []), (9, bA v524.2)] [(1008, bx (k53.a v524.1))] (a1 (o_ixr k9 g523) (a1 (o_ldr k9 g523) (a1 (c77 g525) a0))) (CD.seq ?_)
 rcases bd_some h with ⟨v526, g527, h⟩
 rcases bd_some h with ⟨v528, g529, h⟩
 refine rg [(3, hE (.str v526)), (4, hC (.tup [k60.a v528.1, bA v528.2]) [] [] [])] [(10, .ref 1010 []), (11, bA v528.2)] [(1010, bx (k60.a v528.1))] (a1 (o_ixr k9 g527) (a1 (o_ldr k9 g527) (a1 (c78 g529) a0))) (CD.join (fun (v530 : (List T53) × (List T60)) => ⟨[(0, sA x0), (2, .ref 1002 []), (4, .own 2260 v1.length), (5, .ref 1005 []), (6, bA v515.2.2.1), (7, iA v515.2.2.2)], [(2260, k9.r 9 .cell v1), (1051, k53.r 54 (.node [.cell, .cell, .cell]) v530.1), (1062, k60.r 61 (.node [.cell, .cell, .cell]) v530.2), (1002, bx (.agg [.nils (.node [.cell, .cell, .cell]), .nils (.node [.cell, .cell, .cell])])), (1005, bx (.agg [.own 1051 v530.1.length, .own 1062 v530.2.length]))]⟩) h (fun u531 h q532 => ?_) (fun v530 h => ?_))
 refine CD.block (CD.join (fun (v533 : Bool) => ⟨[(0, sA x0), (2, .ref 1002 []), (4, .own 2260 v1.length), (5, .ref 1005 []), (6, bA v515.2.2.1), (7, iA v515.2.2.2), (8, .ref 1008 []), (10, .ref 1010 []), (11, bA v528.2), (41, bA v533)], [(2260, k9.r 9 .cell v1), (1051, k53.r 54 (.node [.cell, .cell, .cell]) v515.1), (1062, k60.r 61 (.node [.cell, .cell, .cell]) v515.2.1), (1002, bx (.agg [.nils (.node [.cell, .cell, .cell]), .nils (.node [.cell, .cell, .cell])])), (1005, bx (.agg [.own 1051 v515.1.length, .own 1062 v515.2.1.length])), (1008, bx (k53.a v524.1)), (1010, bx (k60.a v528.1))]⟩) h (fun u534 h q535 => ?_) (fun v533 h => ?_))
 rcases if_some h with ⟨g536, h⟩ | ⟨g536, h⟩
 refine rg [(2, hT1)] [(41, bA v524.2)] [] (a1 (oB (c := (!v515.2.2.1)) g536) a0) ?_
 obtain rfl := sm h
 exact NX.inl (by kernel_rfl)
 refine rg [(2, hF1)] [(41, bA false)] [] (a1 (oB (c := (!v515.2.2.1)) g536) a0) ?_
 obtain rfl := sm h
 exact NX.inl (by kernel_rfl)
 refine br h (fun g537 h => ?_) (fun g537 h => ?_)
 rcases bd_some h with ⟨v538, g539, h⟩
 refine rg [(4, hW (.own 1051 v538.length) [(1051, k53.r 54 (.node [.cell, .cell, .cell]) v538)])] [] [(1005, bx (.agg [.own 1051 v538.length, .own 1062 v515.2.1.length])), (1051, k53.r 54 (.node [.cell, .cell, .cell]) v538)] (a1 (o_ap k53 1051 54 (.node [.cell, .cell, .cell]) g539 trivial) a0) ?_
 obtain rfl := sm h
 exact NX.blN (NX.inl (by kernel_rfl))
 refine CD.join (fun (v540 : Bool) => ⟨[(0, sA x0), (2, .ref 1002 []), (4, .own 2260 v1.length), (5, .ref 1005 []), (6, bA v515.2.2.1), (7, iA v515.2.2.2), (10, .ref 1010 []), (53, bA v540)], [(2260, k9.r 9 .cell v1), (1051, k53.r 54 (.node [.cell, .cell, .cell]) v515.1), (1062, k60.r 61 (.node [.cell, .cell, .cell]) v515.2.1), (1002, bx (.agg [.nils (.node [.cell, .cell, .cell]), .nils (.node [.cell, .cell, .cell])])), (1005, bx (.agg [.own 1051 v515.1.length, .own 1062 v515.2.1.length])), (1010, bx (k60.a v528.1))]⟩) h (fun u541 h q542 => ?_) (fun v540 h => ?_)
 rcases if_some h with ⟨g543, h⟩ | ⟨g543, h⟩
 refine rg [(1, hT1)] [(53, bA v528.2)] [] (a1 (oB (c := v515.2.2.1) g543) a0) ?_
 obtain rfl := sm h
 exact NX.inl (by kernel_rfl)
 refine rg [(1, hF1)] [(53, bA false)] [] (a1 (oB (c := v515.2.2.1) g543) a0) ?_
 obtain rfl := sm h
 exact NX.inl (by kernel_rfl)
 refine br h (fun g544 h => ?_) (fun g544 h => ?_)
 rcases bd_some h with ⟨v545, g546, h⟩
 refine rg [(4, hW (.own 1062 v545.length) [(1062, k60.r 61 (.node [.cell, .cell, .cell]) v545)])] [] [(1005, bx (.agg [.own 1051 v515.1.length, .own 1062 v545.length])), (1062, k60.r 61 (.node [.cell, .cell, .cell]) v545)] (a1 (o_ap k60 1062 61 (.node [.cell, .cell, .cell]) g546 trivial) a0) ?_
 obtain rfl := sm h
 exact NX.blN (NX.inl (by kernel_rfl))
 refine CD.seq ?_
 rcases bd_some h with ⟨v547, g548, h⟩
 rcases if_some h with ⟨g549, h⟩ | ⟨g549, h⟩
 rcases bd_some h with ⟨v550, g551, h⟩
 refine rg [(3, hE (.str v547)), (5, hT1), (9, hE (.str v550))] [(64, bA (!(v550 == ([101, 109, 112] : List UInt8))))] [] (a1 (o_ixr k9 g548) (a1 (o_ldr k9 g548) (a1 (oB (c := (!(v547 == ([116, 114, 117, 101] : List UInt8)))) g549) (a1 (o_ixr k9 g551) (a1 (o_ldr k9 g551) a0))))) (br h (fun g552 h => ?_) (fun g552 h => ?_))
 refine CD.seq (rg [] [(3, bA false)] [(1002, bx (.agg [.nils (.node [.cell, .cell, .cell]), .nils (.node [.cell, .cell, .cell])]))] a0 (CD.ret ?_))
 obtain rfl := sm h
 obtain rfl := q532 _ rfl
 obtain rfl := q521 _ rfl
 obtain rfl := q517 _ rfl
 obtain rfl := q436 _ rfl
 exact NX.own0b 1002 5000 [0] 54 (sh := (.node [.cell, .cell, .cell])) (c := .agg [.nils (.node [.cell, .cell, .cell]), .nils (.node [.cell, .cell, .cell])]) (c' := .agg [.own 5000 0, .nils (.node [.cell, .cell, .cell])]) (by kernel_rfl) (by kernel_rfl) (by kernel_rfl) (by kernel_rfl) (NX.own0b 1002 5001 [1] 61 (sh := (.node [.cell, .cell, .cell])) (c := .agg [.own 5000 0, .nils (.node [.cell, .cell, .cell])]) (c' := .agg [.own 5000 0, .own 5001 0]) (by kernel_rfl) (by kernel_rfl) (by kernel_rfl) (by kernel_rfl) (NX.ret [5000, 5001] a0 (by kernel_rfl)))
 refine CD.skip ?_
 obtain rfl := sm h
 exact NX.blN (NX.inl (by kernel_rfl))
 refine rg [(3, hE (.str v547)), (5, hF1)] [(64, bA false)] [] (a1 (o_ixr k9 g548) (a1 (o_ldr k9 g548) (a1 (oB (c := (!(v547 == ([116, 114, 117, 101] : List UInt8)))) g549) a0))) (CD.condF (b := false) (by kernel_rfl) rfl (CD.skip ?_))
 obtain rfl := sm h
 exact NX.blN (NX.inl (by kernel_rfl))
 rcases if_some h with ⟨g553, h⟩ | ⟨g553, h⟩
 refine rg [(1, hT1)] [(6, bA true)] [] (a1 (oB (c := v515.2.2.1) g553) a0) ?_
 obtain rfl := sm h
 exact NX.blN (NX.inl (by kernel_rfl))
 rcases if_some h with ⟨g554, h⟩ | ⟨g554, h⟩
 rcases bd_some h with ⟨v555, g556, h⟩
 refine rg [(1, hF1), (7, hT1), (12, hE (.str v555))] [(6, bA (v555 == ([124] : List UInt8)))] [] (a1 (oB (c := v515.2.2.1) g553) (a1 (oB (c := (decide ((ad v515.2.2.2 1) < (ln v1)))) g554) (a1 (o_ixr k9 g556) (a1 (o_ldr k9 g556) a0)))) ?_
 obtain rfl := sm h
 exact NX.blN (NX.inl (by kernel_rfl))
 refine rg [(1, hF1), (7, hF1)] [(6, bA false)] [] (a1 (oB (c := v515.2.2.1) g553) (a1 (oB (c := (decide ((ad v515.2.2.2 1) < (ln v1)))) g554) a0)) ?_
 obtain rfl := sm h
 exact NX.blN (NX.inl (by kernel_rfl))
 refine rg [] [(7, iA (ad v515.2.2.2 2))] [] a0 ?_
 obtain rfl := sm h
 exact NX.inl (by kernel_rfl)
 refine CD.exit ?_
 obtain rfl := sm h
 obtain rfl := q517 _ rfl
 exact NX.th (NX.lq (NX.brk (NX.inl (by kernel_rfl))))
 refine CD.seq (CD.seq ?_)
 rcases bd_some h with ⟨v557, g558, h⟩
 rcases if_some h with ⟨g559, h⟩ | ⟨g559, h⟩
 refine rg [(1, hC (sA v557) [] [] []), (4, hT1)] [(101, bA true)] [] (a1 (k_len' k53 v434.1) (a1 (k_len' k60 v434.2) (a1 (c79 g558) (a1 (show AV.plain (sA v557) = true ∧ allPlain [] = true from ⟨rfl, pl0⟩) (a1 (oB (c := (!(v557 == x0))) g559) a0))))) (CD.condT (b := true) (by kernel_rfl) rfl (CD.seq (rg [] [(3, bA false)] [(1002, bx (.agg [.nils (.node [.cell, .cell, .cell]), .nils (.node [.cell, .cell, .cell])]))] a0 (CD.ret ?_))))
 obtain rfl := sm h
 exact NX.own0b 1002 5000 [0] 54 (sh := (.node [.cell, .cell, .cell])) (c := .agg [.nils (.node [.cell, .cell, .cell]), .nils (.node [.cell, .cell, .cell])]) (c' := .agg [.own 5000 0, .nils (.node [.cell, .cell, .cell])]) (by kernel_rfl) (by kernel_rfl) (by kernel_rfl) (by kernel_rfl) (NX.own0b 1002 5001 [1] 61 (sh := (.node [.cell, .cell, .cell])) (c := .agg [.own 5000 0, .nils (.node [.cell, .cell, .cell])]) (c' := .agg [.own 5000 0, .own 5001 0]) (by kernel_rfl) (by kernel_rfl) (by kernel_rfl) (by kernel_rfl) (NX.ret [5000, 5001] a0 (by kernel_rfl)))
 refine rg [(1, hC (sA v557) [] [] []), (4, hF1)] [(101, bA (x0 == ([] : List UInt8)))] [] (a1 (k_len' k53 v434.1) (a1 (k_len' k60 v434.2) (a1 (c79 g558) (a1 (show AV.plain (sA v557) = true ∧ allPlain [] = true from ⟨rfl, pl0⟩) (a1 (oB (c := (!(v557 == x0))) g559) a0))))) (br h (fun g560 h => ?_) (fun g560 h => ?_))
 refine CD.seq (rg [] [(3, bA false)] [(1002, bx (.agg [.nils (.node [.cell, .cell, .cell]), .nils (.node [.cell, .cell, .cell])]))] a0 (CD.ret ?_))
 obtain rfl := sm h
 exact NX.own0b 1002 5000 [0] 54 (sh := (.node [.cell, .cell, .cell])) (c := .agg [.nils (.node [.cell, .cell, .cell]), .nils (.node [.cell, .cell, .cell])]) (c' := .agg [.own 5000 0, .nils (.node [.cell, .cell, .cell])]) (by kernel_rfl) (by kernel_rfl) (by kernel_rfl) (by kernel_rfl) (NX.own0b 1002 5001 [1] 61 (sh := (.node [.cell, .cell, .cell])) (c := .agg [.own 5000 0, .nils (.node [.cell, .cell, .cell])]) (c' := .agg [.own 5000 0, .own 5001 0]) (by kernel_rfl) (by kernel_rfl) (by kernel_rfl) (by kernel_rfl) (NX.ret [5000, 5001] a0 (by kernel_rfl)))
 refine CD.skip (CD.seq (rg [] [(3, bA true)] [(1002, bx (.agg [.own 1051 v434.1.length, .own 1062 v434.2.length]))] a0 (CD.ret ?_)))
 obtain rfl := sm h
 exact NX.ret [1051, 1062] a0 (by kernel_rfl)

theorem c59d {x0 : (List UInt8)} {r : (List T53) × (List T60) × Bool} (h : f59 x0 = some r) :
 FnD cx 59 [sA x0] [] (.tup [k25.a (⟨r.1, r.2.1⟩ : T25), bA r.2.2]) [] :=
 FnD.data (xs := [.agg [.own 0 r.1.length, .own 1 r.2.1.length], bA r.2.2]) (ys := [k25.a (⟨r.1, r.2.1⟩ : T25), bA r.2.2]) (p := True) (q := (((r.1.length = (k53.m r.1).length) ∧ ((r.2.1.length = (k60.m r.2.1).length) ∧ True)) ∧ (True ∧ True))) (c59 h) [] (by kernel_rfl) (by kernel_rfl) a0 (by kernel_rfl) (a1 (k_len' k53 r.1) (a1 (k_len' k60 r.2.1) a0))


-- f104 spec.l8NoInv
def f104 (x0 : T25) : Option (Bool) :=
 if ((ln x0.f0) == 0) = true then
 some ((ln x0.f1) == 0)
 else
 some false
theorem c104 {x0 : T25} {r : Bool} (h : f104 x0 = some r) :
 FnD cx 104 [k25.a x0] [] (bA r) [] := by
 unfold f104 at h
 refine fnD_intro (fn := Tryz.f104) (by kernel_rfl) rfl (by kernel_rfl) (by kernel_rfl) fun E => ?_
 refine CD.seq (rg [] [(1, .ref 1001 [])] [(1001, bx (k25.a x0))] a0 (CD.seq ?_))
 rcases if_some h with ⟨g1, h⟩ | ⟨g1, h⟩
 refine rg [(2, hV (iA (ln x0.f0))), (4, hT1), (7, hV (iA (ln x0.f1)))] [(2, bA ((ln x0.f1) == 0))] [] (a1 (o_ln k53 x0.f0) (a1 (oB (c := ((ln x0.f0) == 0)) g1) (a1 (o_ln k60 x0.f1) a0))) (CD.ret ?_)
 obtain rfl := sm h
 exact NX.ret [] a0 (by kernel_rfl)
 refine rg [(2, hV (iA (ln x0.f0))), (4, hF1)] [(2, bA false)] [] (a1 (o_ln k53 x0.f0) (a1 (oB (c := ((ln x0.f0) == 0)) g1) a0)) (CD.ret ?_)
 obtain rfl := sm h
 exact NX.ret [] a0 (by kernel_rfl)


-- f52 spec.l8Prog
def f52 (x0 : Int) : Option (Bool) :=
 if (decide (x0 ≥ 1)) = true then
 some (decide (x0 ≤ 4))
 else
 some false
theorem c52 {x0 : Int} {r : Bool} (h : f52 x0 = some r) :
 FnD cx 52 [iA x0] [] (bA r) [] := by
 unfold f52 at h
 refine fnD_intro (fn := Tryz.f52) (by kernel_rfl) rfl (by kernel_rfl) (by kernel_rfl) fun E => ?_
 refine CD.seq (rg [] [] [] a0 (CD.seq ?_))
 rcases if_some h with ⟨g1, h⟩ | ⟨g1, h⟩
 refine rg [(2, hT1)] [(2, bA (decide (x0 ≤ 4)))] [] (a1 (oB (c := (decide (x0 ≥ 1))) g1) a0) (CD.ret ?_)
 obtain rfl := sm h
 exact NX.ret [] a0 (by kernel_rfl)
 refine rg [(2, hF1)] [(2, bA false)] [] (a1 (oB (c := (decide (x0 ≥ 1))) g1) a0) (CD.ret ?_)
 obtain rfl := sm h
 exact NX.ret [] a0 (by kernel_rfl)


-- f125 spec.l8NoFact
def f125 (x0 : T53) : Option (Bool) :=
 some (x0.f0 == false && (x0.f1 == 0 && (x0.f2 == 0 && true)))
theorem c125 {x0 : T53} {r : Bool} (h : f125 x0 = some r) :
 FnD cx 125 [k53.a x0] [] (bA r) [] := by
 unfold f125 at h
 refine fnD_intro (fn := Tryz.f125) (by kernel_rfl) rfl (by kernel_rfl) (by kernel_rfl) fun E => ?_
 refine CD.seq (rg [] [(1, .ref 1001 [])] [(1001, bx (k53.a x0))] a0 (CD.seq (rg [] [(2, bA (x0.f0 == false && (x0.f1 == 0 && (x0.f2 == 0 && true))))] [] (a1 eqs54 a0) (CD.ret ?_))))
 obtain rfl := sm h
 exact NX.ret [] a0 (by kernel_rfl)


-- f105 spec.l8Basic
def f105 (x0 : T128) : Option (Bool) :=
 jn (
 bd (f125 x0.f3) fun v4 =>
 if (!v4) = true then
 some (.inr false)
 else
 bd (f104 x0.f4) fun v7 =>
 if (!v7) = true then
 some (.inr false)
 else
 if (decide ((ln x0.f5) > 0)) = true then
 some (.inr false)
 else
 if (decide ((ln x0.f6) > 0)) = true then
 some (.inr false)
 else
 some (.inl ())) fun (v1 : Unit) =>
 jn (
 jn (
 if (x0.f0 == 1) = true then
 some (.inl (x0.f0 == 1))
 else
 some (.inl (x0.f0 == 2))) fun (v15 : Bool) =>
 if v15 = true then
 bd (f52 x0.f1) fun v20 =>
 if v20 = true then
 bd (f55 x0.f2) fun v23 =>
 some (.inr v23)
 else
 some (.inr false)
 else
 if (x0.f0 == 3) = true then
 bd (f55 x0.f1) fun v26 =>
 if v26 = true then
 bd (f55 x0.f2) fun v29 =>
 some (.inr v29)
 else
 some (.inr false)
 else
 if (x0.f0 == 4) = true then
 bd (f52 x0.f1) fun v32 =>
 if v32 = true then
 some (.inr (x0.f2 == 0))
 else
 some (.inr false)
 else
 if (x0.f0 == 5) = true then
 bd (f55 x0.f1) fun v36 =>
 if v36 = true then
 some (.inr (x0.f2 == 0))
 else
 some (.inr false)
 else
 some (.inl ())) fun (v12 : Unit) =>
 some false
theorem c105 {x0 : T128} {r : Bool} (h : f105 x0 = some r) :
 FnD cx 105 [k128.a x0] [] (bA r) [] := by
 unfold f105 at h
 refine fnD_intro (fn := Tryz.f105) (by kernel_rfl) rfl (by kernel_rfl) (by kernel_rfl) fun E => ?_
 refine CD.seq (rg [] [(1, .ref 1001 [])] [(1001, bx (k128.a x0))] a0 (CD.join (fun (v1 : Unit) => ⟨[(1, .ref 1001 [])], [(1001, bx (k128.a x0))]⟩) h (fun u2 h q3 => ?_) (fun v1 h => ?_)))
 refine CD.seq ?_
 rcases bd_some h with ⟨v4, g5, h⟩
 rcases if_some h with ⟨g6, h⟩ | ⟨g6, h⟩
 refine rg [(2, hC (bA v4) [] [] []), (4, hT1)] [(24, bA true)] [] (a1 (c125 g5) (a1 (oB (c := (!v4)) g6) a0)) (CD.condT (b := true) (by kernel_rfl) rfl (CD.seq (rg [] [(2, bA false)] [] a0 (CD.ret ?_))))
 obtain rfl := sm h
 obtain rfl := q3 _ rfl
 exact NX.ret [] a0 (by kernel_rfl)
 rcases bd_some h with ⟨v7, g8, h⟩
 rcases if_some h with ⟨g9, h⟩ | ⟨g9, h⟩
 refine rg [(2, hC (bA v4) [] [] []), (4, hF1), (7, hC (bA v7) [] [] []), (10, hT1)] [(24, bA true)] [] (a1 (c125 g5) (a1 (oB (c := (!v4)) g6) (a1 (c104 g8) (a1 (oB (c := (!v7)) g9) a0)))) (CD.condT (b := true) (by kernel_rfl) rfl (CD.seq (rg [] [(2, bA false)] [] a0 (CD.ret ?_))))
 obtain rfl := sm h
 obtain rfl := q3 _ rfl
 exact NX.ret [] a0 (by kernel_rfl)
 rcases if_some h with ⟨g10, h⟩ | ⟨g10, h⟩
 refine rg [(2, hC (bA v4) [] [] []), (4, hF1), (7, hC (bA v7) [] [] []), (10, hF1), (13, hV (iA (ln x0.f5))), (16, hT1)] [(24, bA true)] [] (a1 (c125 g5) (a1 (oB (c := (!v4)) g6) (a1 (c104 g8) (a1 (oB (c := (!v7)) g9) (a1 (o_ln k128 x0.f5) (a1 (oB (c := (decide ((ln x0.f5) > 0))) g10) a0)))))) (CD.condT (b := true) (by kernel_rfl) rfl (CD.seq (rg [] [(2, bA false)] [] a0 (CD.ret ?_))))
 obtain rfl := sm h
 obtain rfl := q3 _ rfl
 exact NX.ret [] a0 (by kernel_rfl)
 refine rg [(2, hC (bA v4) [] [] []), (4, hF1), (7, hC (bA v7) [] [] []), (10, hF1), (13, hV (iA (ln x0.f5))), (16, hF1), (19, hV (iA (ln x0.f6)))] [(24, bA (decide ((ln x0.f6) > 0)))] [] (a1 (c125 g5) (a1 (oB (c := (!v4)) g6) (a1 (c104 g8) (a1 (oB (c := (!v7)) g9) (a1 (o_ln k128 x0.f5) (a1 (oB (c := (decide ((ln x0.f5) > 0))) g10) (a1 (o_ln k128 x0.f6) a0))))))) (br h (fun g11 h => ?_) (fun g11 h => ?_))
 refine CD.seq (rg [] [(2, bA false)] [] a0 (CD.ret ?_))
 obtain rfl := sm h
 obtain rfl := q3 _ rfl
 exact NX.ret [] a0 (by kernel_rfl)
 refine CD.skip ?_
 obtain rfl := sm h
 exact NX.inl (by kernel_rfl)
 refine CD.join (fun (v12 : Unit) => ⟨[], []⟩) h (fun u13 h q14 => ?_) (fun v12 h => ?_)
 refine CD.seq (rg [] [(26, iA x0.f0)] [] a0 (CD.block (CD.join (fun (v15 : Bool) => ⟨[(1, .ref 1001 []), (26, iA x0.f0), (27, bA v15)], [(1001, bx (k128.a x0))]⟩) h (fun u16 h q17 => ?_) (fun v15 h => ?_))))
 refine CD.seq (rg [] [(27, bA (x0.f0 == 1))] [] a0 (br h (fun g18 h => ?_) (fun g18 h => ?_)))
 refine CD.skip ?_
 obtain rfl := sm h
 exact NX.inl (by kernel_rfl)
 refine rg [] [(27, bA (x0.f0 == 2))] [] a0 ?_
 obtain rfl := sm h
 exact NX.inl (by kernel_rfl)
 refine br h (fun g19 h => ?_) (fun g19 h => ?_)
 refine CD.seq ?_
 rcases bd_some h with ⟨v20, g21, h⟩
 rcases if_some h with ⟨g22, h⟩ | ⟨g22, h⟩
 rcases bd_some h with ⟨v23, g24, h⟩
 refine rg [(2, hC (bA v20) [] [] []), (3, hT1), (6, hC (bA v23) [] [] [])] [(2, bA v23)] [] (a1 (c52 g21) (a1 (oB (c := v20) g22) (a1 (c55 g24) a0))) (CD.ret ?_)
 obtain rfl := sm h
 obtain rfl := q14 _ rfl
 exact NX.ret [] a0 (by kernel_rfl)
 refine rg [(2, hC (bA v20) [] [] []), (3, hF1)] [(2, bA false)] [] (a1 (c52 g21) (a1 (oB (c := v20) g22) a0)) (CD.ret ?_)
 obtain rfl := sm h
 obtain rfl := q14 _ rfl
 exact NX.ret [] a0 (by kernel_rfl)
 refine CD.seq (rg [] [(38, bA (x0.f0 == 3))] [] a0 (br h (fun g25 h => ?_) (fun g25 h => ?_)))
 refine CD.seq ?_
 rcases bd_some h with ⟨v26, g27, h⟩
 rcases if_some h with ⟨g28, h⟩ | ⟨g28, h⟩
 rcases bd_some h with ⟨v29, g30, h⟩
 refine rg [(2, hC (bA v26) [] [] []), (3, hT1), (6, hC (bA v29) [] [] [])] [(2, bA v29)] [] (a1 (c55 g27) (a1 (oB (c := v26) g28) (a1 (c55 g30) a0))) (CD.ret ?_)
 obtain rfl := sm h
 obtain rfl := q14 _ rfl
 exact NX.ret [] a0 (by kernel_rfl)
 refine rg [(2, hC (bA v26) [] [] []), (3, hF1)] [(2, bA false)] [] (a1 (c55 g27) (a1 (oB (c := v26) g28) a0)) (CD.ret ?_)
 obtain rfl := sm h
 obtain rfl := q14 _ rfl
 exact NX.ret [] a0 (by kernel_rfl)
 refine CD.seq (rg [] [(48, bA (x0.f0 == 4))] [] a0 (br h (fun g31 h => ?_) (fun g31 h => ?_)))
 refine CD.seq ?_
 rcases bd_some h with ⟨v32, g33, h⟩
 rcases if_some h with ⟨g34, h⟩ | ⟨g34, h⟩
 refine rg [(2, hC (bA v32) [] [] []), (3, hT1)] [(2, bA (x0.f2 == 0))] [] (a1 (c52 g33) (a1 (oB (c := v32) g34) a0)) (CD.ret ?_)
 obtain rfl := sm h
 obtain rfl := q14 _ rfl
 exact NX.ret [] a0 (by kernel_rfl)
 refine rg [(2, hC (bA v32) [] [] []), (3, hF1)] [(2, bA false)] [] (a1 (c52 g33) (a1 (oB (c := v32) g34) a0)) (CD.ret ?_)
 obtain rfl := sm h
 obtain rfl := q14 _ rfl
 exact NX.ret [] a0 (by kernel_rfl)
 refine CD.seq (rg [] [(58, bA (x0.f0 == 5))] [] a0 (br h (fun g35 h => ?_) (fun g35 h => ?_)))
 refine CD.seq ?_
 rcases bd_some h with ⟨v36, g37, h⟩
 rcases if_some h with ⟨g38, h⟩ | ⟨g38, h⟩
 refine rg [(2, hC (bA v36) [] [] []), (3, hT1)] [(2, bA (x0.f2 == 0))] [] (a1 (c55 g37) (a1 (oB (c := v36) g38) a0)) (CD.ret ?_)
 obtain rfl := sm h
 obtain rfl := q14 _ rfl
 exact NX.ret [] a0 (by kernel_rfl)
 refine rg [(2, hC (bA v36) [] [] []), (3, hF1)] [(2, bA false)] [] (a1 (c55 g37) (a1 (oB (c := v36) g38) a0)) (CD.ret ?_)
 obtain rfl := sm h
 obtain rfl := q14 _ rfl
 exact NX.ret [] a0 (by kernel_rfl)
 refine CD.skip ?_
 obtain rfl := sm h
 exact NX.blN (NX.inl (by kernel_rfl))
 refine CD.seq (rg [] [(2, bA false)] [] a0 (CD.ret ?_))
 obtain rfl := sm h
 exact NX.ret [] a0 (by kernel_rfl)


-- f87 spec.l8Shape
def f87o (r87 : (List T128) → Int → Option (Bool)) (x0 : (List T128)) (x1 : Int) : Option (Bool) :=
 jn (
 if (decide (x1 < 1)) = true then
 if (decide ((ln x0) > 0)) = true then
 some (.inr false)
 else
 some (.inl ())
 else
 some (.inl ())) fun (v1 : Unit) =>
 jn (
 iter (fun (v49 : Int) =>
 if (decide (v49 < (ln x0))) = true then
 jn (
 bd (ix x0 v49) fun v56 =>
 jn (
 if (v56.f0 == 6) = true then
 if (v56.f1 != 0) = true then
 some (.inr (.inr (.inr (.inr false))))
 else
 if (v56.f2 != 0) = true then
 some (.inr (.inr (.inr (.inr false))))
 else
 bd (f71 v56.f3) fun v64 =>
 if (!v64) = true then
 some (.inr (.inr (.inr (.inr false))))
 else
 bd (f104 v56.f4) fun v67 =>
 if (!v67) = true then
 some (.inr (.inr (.inr (.inr false))))
 else
 some (.inl ())
 else
 if (v56.f0 == 7) = true then
 if (v56.f1 != 0) = true then
 some (.inr (.inr (.inr (.inr false))))
 else
 if (v56.f2 != 0) = true then
 some (.inr (.inr (.inr (.inr false))))
 else
 bd (f71 v56.f3) fun v73 =>
 if (!v73) = true then
 some (.inr (.inr (.inr (.inr false))))
 else
 bd (f22 v56.f4) fun v76 =>
 if (!v76) = true then
 some (.inr (.inr (.inr (.inr false))))
 else
 if (decide ((ln v56.f6) > 0)) = true then
 some (.inr (.inr (.inr (.inr false))))
 else
 some (.inl ())
 else
 bd (f105 v56) fun v80 =>
 if (!v80) = true then
 some (.inr (.inr (.inr (.inr false))))
 else
 some (.inl ())) fun (v58 : Unit) =>
 bd (r87 v56.f5 (sb x1 1)) fun v83 =>
 if (!v83) = true then
 some (.inr (.inr (.inr false)))
 else
 bd (r87 v56.f6 (sb x1 1)) fun v86 =>
 if (!v86) = true then
 some (.inr (.inr (.inr false)))
 else
 some (.inl ())) fun (v53 : Unit) =>
 some (.inl (ad v49 1))
 else
 some (.inr (.inl ()))) 0) fun (v6 : Unit) =>
 some true
def f87n : Nat → (List T128) → Int → Option (Bool)
| 0 => fun _ _ => none
| k + 1 => f87o (f87n k)
def f87 (x0 : (List T128)) (x1 : Int) : Option (Bool) := f87n LF x0 x1
theorem c87o {r87 : (List T128) → Int → Option (Bool)} (i87 : ∀ {x0 : (List T128)} {x1 : Int} {r : Bool}, r87 x0 x1 = some r → FnD cx 87 [k39.a x0, iA x1] [] (bA r) []) {x0 : (List T128)} {x1 : Int} {r : Bool} (h : f87o r87 x0 x1 = some r) :
 FnD cx 87 [k39.a x0, iA x1] [] (bA r) [] := by
 unfold f87o at h
 refine fnD_intro (fn := Tryz.f87) (by kernel_rfl) rfl (by kernel_rfl) (by kernel_rfl) fun E => ?_
 refine CD.seq (rg [] [] [] a0 (CD.join (fun (v1 : Unit) => ⟨[(0, k39.a x0), (1, iA x1)], []⟩) h (fun u2 h q3 => ?_) (fun v1 h => ?_)))
 refine CD.seq ?_
 rcases if_some h with ⟨g4, h⟩ | ⟨g4, h⟩
 refine rg [(2, hT1), (4, hV (iA (ln x0)))] [(13, bA (decide ((ln x0) > 0)))] [] (a1 (oB (c := (decide (x1 < 1))) g4) (a1 (o_ln k128 x0) a0)) (br h (fun g5 h => ?_) (fun g5 h => ?_))
 refine CD.seq (rg [] [(4, bA false)] [] a0 (CD.ret ?_))
 obtain rfl := sm h
 obtain rfl := q3 _ rfl
 exact NX.ret [] a0 (by kernel_rfl)
 refine CD.skip ?_
 obtain rfl := sm h
 exact NX.inl (by kernel_rfl)
 refine rg [(2, hF1)] [(13, bA false)] [] (a1 (oB (c := (decide (x1 < 1))) g4) a0) (CD.condF (b := false) (by kernel_rfl) rfl (CD.skip ?_))
 obtain rfl := sm h
 exact NX.inl (by kernel_rfl)
 refine CD.join (fun (v6 : Unit) => ⟨[], []⟩) h (fun u7 h q8 => ?_) (fun v6 h => ?_)
 refine CD.seq (rg [] [(5, iA 0)] [] a0 (CD.block (CD.loopK (fun (v49 : Int) => ⟨[(0, k39.a x0), (1, iA x1), (5, iA v49)], []⟩) h (by kernel_rfl) (fun v49 u50 h q51 => ?_))))
 refine CD.seq (CD.seq (rg [(2, hV (iA (ln x0)))] [(17, bA (decide (v49 < (ln x0))))] [] (a1 (o_ln k128 x0) a0) (br h (fun g52 h => ?_) (fun g52 h => ?_))))
 refine CD.skip (CD.join (fun (v53 : Unit) => ⟨[(0, k39.a x0), (1, iA x1), (5, iA v49)], []⟩) h (fun u54 h q55 => ?_) (fun v53 h => ?_))
 refine CD.block (CD.seq ?_)
 rcases bd_some h with ⟨v56, g57, h⟩
 refine rg [(2, hE (k128.x v56))] [(6, .ref 1006 [])] [(1006, bx (k128.a v56))] (a1 (o_ix k128 g57) a0) (CD.join (fun (v58 : Unit) => ⟨[(0, k39.a x0), (1, iA x1), (5, iA v49), (6, .ref 1006 [])], [(1006, bx (k128.a v56))]⟩) h (fun u59 h q60 => ?_) (fun v58 h => ?_))
 refine CD.seq (rg [] [(25, iA v56.f0)] [] a0 (CD.block (CD.seq (rg [] [(29, bA (v56.f0 == 6))] [] a0 (br h (fun g61 h => ?_) (fun g61 h => ?_))))))
 refine CD.seq ?_
 rcases if_some h with ⟨g62, h⟩ | ⟨g62, h⟩
 refine rg [(3, hT1)] [(50, bA true)] [] (a1 (oB (c := (v56.f1 != 0)) g62) a0) (CD.condT (b := true) (by kernel_rfl) rfl (CD.seq (rg [] [(4, bA false)] [] a0 (CD.ret ?_))))
 obtain rfl := sm h
 obtain rfl := q60 _ rfl
 obtain rfl := q55 _ rfl
 obtain rfl := q51 _ rfl
 obtain rfl := q8 _ rfl
 exact NX.ret [] a0 (by kernel_rfl)
 rcases if_some h with ⟨g63, h⟩ | ⟨g63, h⟩
 refine rg [(3, hF1), (8, hT1)] [(50, bA true)] [] (a1 (oB (c := (v56.f1 != 0)) g62) (a1 (oB (c := (v56.f2 != 0)) g63) a0)) (CD.condT (b := true) (by kernel_rfl) rfl (CD.seq (rg [] [(4, bA false)] [] a0 (CD.ret ?_))))
 obtain rfl := sm h
 obtain rfl := q60 _ rfl
 obtain rfl := q55 _ rfl
 obtain rfl := q51 _ rfl
 obtain rfl := q8 _ rfl
 exact NX.ret [] a0 (by kernel_rfl)
 rcases bd_some h with ⟨v64, g65, h⟩
 rcases if_some h with ⟨g66, h⟩ | ⟨g66, h⟩
 refine rg [(3, hF1), (8, hF1), (11, hC (bA v64) [] [] []), (14, hT1)] [(50, bA true)] [] (a1 (oB (c := (v56.f1 != 0)) g62) (a1 (oB (c := (v56.f2 != 0)) g63) (a1 (c71 g65) (a1 (oB (c := (!v64)) g66) a0)))) (CD.condT (b := true) (by kernel_rfl) rfl (CD.seq (rg [] [(4, bA false)] [] a0 (CD.ret ?_))))
 obtain rfl := sm h
 obtain rfl := q60 _ rfl
 obtain rfl := q55 _ rfl
 obtain rfl := q51 _ rfl
 obtain rfl := q8 _ rfl
 exact NX.ret [] a0 (by kernel_rfl)
 rcases bd_some h with ⟨v67, g68, h⟩
 refine rg [(3, hF1), (8, hF1), (11, hC (bA v64) [] [] []), (14, hF1), (17, hC (bA v67) [] [] [])] [(50, bA (!v67))] [] (a1 (oB (c := (v56.f1 != 0)) g62) (a1 (oB (c := (v56.f2 != 0)) g63) (a1 (c71 g65) (a1 (oB (c := (!v64)) g66) (a1 (c104 g68) a0))))) (br h (fun g69 h => ?_) (fun g69 h => ?_))
 refine CD.seq (rg [] [(4, bA false)] [] a0 (CD.ret ?_))
 obtain rfl := sm h
 obtain rfl := q60 _ rfl
 obtain rfl := q55 _ rfl
 obtain rfl := q51 _ rfl
 obtain rfl := q8 _ rfl
 exact NX.ret [] a0 (by kernel_rfl)
 refine CD.skip ?_
 obtain rfl := sm h
 exact NX.blN (NX.inl (by kernel_rfl))
 refine CD.seq (rg [] [(51, bA (v56.f0 == 7))] [] a0 (br h (fun g70 h => ?_) (fun g70 h => ?_)))
 refine CD.seq ?_
 rcases if_some h with ⟨g71, h⟩ | ⟨g71, h⟩
 refine rg [(3, hT1)] [(78, bA true)] [] (a1 (oB (c := (v56.f1 != 0)) g71) a0) (CD.condT (b := true) (by kernel_rfl) rfl (CD.seq (rg [] [(4, bA false)] [] a0 (CD.ret ?_))))
 obtain rfl := sm h
 obtain rfl := q60 _ rfl
 obtain rfl := q55 _ rfl
 obtain rfl := q51 _ rfl
 obtain rfl := q8 _ rfl
 exact NX.ret [] a0 (by kernel_rfl)
 rcases if_some h with ⟨g72, h⟩ | ⟨g72, h⟩
 refine rg [(3, hF1), (8, hT1)] [(78, bA true)] [] (a1 (oB (c := (v56.f1 != 0)) g71) (a1 (oB (c := (v56.f2 != 0)) g72) a0)) (CD.condT (b := true) (by kernel_rfl) rfl (CD.seq (rg [] [(4, bA false)] [] a0 (CD.ret ?_))))
 obtain rfl := sm h
 obtain rfl := q60 _ rfl
 obtain rfl := q55 _ rfl
 obtain rfl := q51 _ rfl
 obtain rfl := q8 _ rfl
 exact NX.ret [] a0 (by kernel_rfl)
 rcases bd_some h with ⟨v73, g74, h⟩
 rcases if_some h with ⟨g75, h⟩ | ⟨g75, h⟩
 refine rg [(3, hF1), (8, hF1), (11, hC (bA v73) [] [] []), (14, hT1)] [(78, bA true)] [] (a1 (oB (c := (v56.f1 != 0)) g71) (a1 (oB (c := (v56.f2 != 0)) g72) (a1 (c71 g74) (a1 (oB (c := (!v73)) g75) a0)))) (CD.condT (b := true) (by kernel_rfl) rfl (CD.seq (rg [] [(4, bA false)] [] a0 (CD.ret ?_))))
 obtain rfl := sm h
 obtain rfl := q60 _ rfl
 obtain rfl := q55 _ rfl
 obtain rfl := q51 _ rfl
 obtain rfl := q8 _ rfl
 exact NX.ret [] a0 (by kernel_rfl)
 rcases bd_some h with ⟨v76, g77, h⟩
 rcases if_some h with ⟨g78, h⟩ | ⟨g78, h⟩
 refine rg [(3, hF1), (8, hF1), (11, hC (bA v73) [] [] []), (14, hF1), (17, hC (bA v76) [] [] []), (20, hT1)] [(78, bA true)] [] (a1 (oB (c := (v56.f1 != 0)) g71) (a1 (oB (c := (v56.f2 != 0)) g72) (a1 (c71 g74) (a1 (oB (c := (!v73)) g75) (a1 (c22 g77) (a1 (oB (c := (!v76)) g78) a0)))))) (CD.condT (b := true) (by kernel_rfl) rfl (CD.seq (rg [] [(4, bA false)] [] a0 (CD.ret ?_))))
 obtain rfl := sm h
 obtain rfl := q60 _ rfl
 obtain rfl := q55 _ rfl
 obtain rfl := q51 _ rfl
 obtain rfl := q8 _ rfl
 exact NX.ret [] a0 (by kernel_rfl)
 refine rg [(3, hF1), (8, hF1), (11, hC (bA v73) [] [] []), (14, hF1), (17, hC (bA v76) [] [] []), (20, hF1), (23, hV (iA (ln v56.f6)))] [(78, bA (decide ((ln v56.f6) > 0)))] [] (a1 (oB (c := (v56.f1 != 0)) g71) (a1 (oB (c := (v56.f2 != 0)) g72) (a1 (c71 g74) (a1 (oB (c := (!v73)) g75) (a1 (c22 g77) (a1 (oB (c := (!v76)) g78) (a1 (o_ln k128 v56.f6) a0))))))) (br h (fun g79 h => ?_) (fun g79 h => ?_))
 refine CD.seq (rg [] [(4, bA false)] [] a0 (CD.ret ?_))
 obtain rfl := sm h
 obtain rfl := q60 _ rfl
 obtain rfl := q55 _ rfl
 obtain rfl := q51 _ rfl
 obtain rfl := q8 _ rfl
 exact NX.ret [] a0 (by kernel_rfl)
 refine CD.skip ?_
 obtain rfl := sm h
 exact NX.blN (NX.inl (by kernel_rfl))
 refine CD.seq ?_
 rcases bd_some h with ⟨v80, g81, h⟩
 refine rg [(1, hC (bA v80) [] [] [])] [(28, bA (!v80))] [] (a1 (c105 g81) a0) (br h (fun g82 h => ?_) (fun g82 h => ?_))
 refine CD.seq (rg [] [(4, bA false)] [] a0 (CD.ret ?_))
 obtain rfl := sm h
 obtain rfl := q60 _ rfl
 obtain rfl := q55 _ rfl
 obtain rfl := q51 _ rfl
 obtain rfl := q8 _ rfl
 exact NX.ret [] a0 (by kernel_rfl)
 refine CD.skip ?_
 obtain rfl := sm h
 exact NX.blN (NX.inl (by kernel_rfl))
 refine CD.seq ?_
 rcases bd_some h with ⟨v83, g84, h⟩
 rcases if_some h with ⟨g85, h⟩ | ⟨g85, h⟩
 refine rg [(4, hC (bA v83) [] [] []), (6, hT1)] [(92, bA true)] [] (a1 (i87 g84) (a1 (oB (c := (!v83)) g85) a0)) (CD.condT (b := true) (by kernel_rfl) rfl (CD.seq (rg [] [(4, bA false)] [] a0 (CD.ret ?_))))
 obtain rfl := sm h
 obtain rfl := q55 _ rfl
 obtain rfl := q51 _ rfl
 obtain rfl := q8 _ rfl
 exact NX.ret [] a0 (by kernel_rfl)
 rcases bd_some h with ⟨v86, g87, h⟩
 refine rg [(4, hC (bA v83) [] [] []), (6, hF1), (11, hC (bA v86) [] [] [])] [(92, bA (!v86))] [] (a1 (i87 g84) (a1 (oB (c := (!v83)) g85) (a1 (i87 g87) a0))) (br h (fun g88 h => ?_) (fun g88 h => ?_))
 refine CD.seq (rg [] [(4, bA false)] [] a0 (CD.ret ?_))
 obtain rfl := sm h
 obtain rfl := q55 _ rfl
 obtain rfl := q51 _ rfl
 obtain rfl := q8 _ rfl
 exact NX.ret [] a0 (by kernel_rfl)
 refine CD.skip ?_
 obtain rfl := sm h
 exact NX.blN (NX.inl (by kernel_rfl))
 refine rg [] [(5, iA (ad v49 1))] [] a0 ?_
 obtain rfl := sm h
 exact NX.inl (by kernel_rfl)
 refine CD.exit ?_
 obtain rfl := sm h
 obtain rfl := q51 _ rfl
 exact NX.th (NX.lq (NX.brk (NX.inl (by kernel_rfl))))
 refine CD.seq (rg [] [(4, bA true)] [] a0 (CD.ret ?_))
 obtain rfl := sm h
 exact NX.ret [] a0 (by kernel_rfl)

theorem c87n : ∀ (k0 : Nat), ∀ {x0 : (List T128)} {x1 : Int} {r : Bool}, f87n k0 x0 x1 = some r → FnD cx 87 [k39.a x0, iA x1] [] (bA r) []
| 0 => fun h => by cases h
| k0 + 1 => fun h => c87o (c87n k0) h
theorem c87 {x0 : (List T128)} {x1 : Int} {r : Bool} (h : f87 x0 x1 = some r) :
 FnD cx 87 [k39.a x0, iA x1] [] (bA r) [] := c87n LF h

-- f88 spec.l8Count
def f88o (r88 : (List T128) → Int → Option (Int)) (x0 : (List T128)) (x1 : Int) : Option (Int) :=
 jn (
 iter (fun (v20 : Int × Int) =>
 jn (
 if (decide (v20.2 < (ln x0))) = true then
 if (decide (x1 > 0)) = true then
 some (.inl ())
 else
 some (.inr (.inr (.inl v20.1)))
 else
 some (.inr (.inr (.inl v20.1)))) fun (v23 : Unit) =>
 bd (ix x0 v20.2) fun v28 =>
 bd (r88 v28.f5 (sb x1 1)) fun v30 =>
 bd (ix x0 v20.2) fun v32 =>
 bd (r88 v32.f6 (sb x1 1)) fun v34 =>
 some (.inl (ad (ad (ad v20.1 1) v30) v34, ad v20.2 1))) (0, 0)) fun (v1 : Int) =>
 some v1
def f88n : Nat → (List T128) → Int → Option (Int)
| 0 => fun _ _ => none
| k + 1 => f88o (f88n k)
def f88 (x0 : (List T128)) (x1 : Int) : Option (Int) := f88n LF x0 x1
theorem c88o {r88 : (List T128) → Int → Option (Int)} (i88 : ∀ {x0 : (List T128)} {x1 : Int} {r : Int}, r88 x0 x1 = some r → FnD cx 88 [k39.a x0, iA x1] [] (iA r) []) {x0 : (List T128)} {x1 : Int} {r : Int} (h : f88o r88 x0 x1 = some r) :
 FnD cx 88 [k39.a x0, iA x1] [] (iA r) [] := by
 unfold f88o at h
 refine fnD_intro (fn := Tryz.f88) (by kernel_rfl) rfl (by kernel_rfl) (by kernel_rfl) fun E => ?_
 refine CD.seq (rg [] [] [] a0 (CD.seq (rg [] [(5, iA 0)] [] a0 (CD.join (fun (v1 : Int) => ⟨[(5, iA v1)], []⟩) h (fun u2 h q3 => ?_) (fun v1 h => ?_)))))
 refine CD.seq (rg [] [(6, iA 0)] [] a0 (CD.block (CD.loopK (fun (v20 : Int × Int) => ⟨[(0, k39.a x0), (1, iA x1), (5, iA v20.1), (6, iA v20.2)], []⟩) h (by kernel_rfl) (fun v20 u21 h q22 => ?_))))
 refine CD.join (fun (v23 : Unit) => ⟨[(0, k39.a x0), (1, iA x1), (5, iA v20.1), (6, iA v20.2)], []⟩) h (fun u24 h q25 => ?_) (fun v23 h => ?_)
 refine CD.seq ?_
 rcases if_some h with ⟨g26, h⟩ | ⟨g26, h⟩
 refine rg [(2, hV (iA (ln x0))), (4, hT1)] [(14, bA (decide (x1 > 0)))] [] (a1 (o_ln k128 x0) (a1 (oB (c := (decide (v20.2 < (ln x0)))) g26) a0)) (br h (fun g27 h => ?_) (fun g27 h => ?_))
 refine CD.skip ?_
 obtain rfl := sm h
 exact NX.inl (by kernel_rfl)
 refine CD.exit ?_
 obtain rfl := sm h
 obtain rfl := q25 _ rfl
 obtain rfl := q22 _ rfl
 exact NX.lq (NX.lq (NX.brk (NX.inl (by kernel_rfl))))
 refine rg [(2, hV (iA (ln x0))), (4, hF1)] [(14, bA false)] [] (a1 (o_ln k128 x0) (a1 (oB (c := (decide (v20.2 < (ln x0)))) g26) a0)) (CD.condF (b := false) (by kernel_rfl) rfl (CD.exit ?_))
 obtain rfl := sm h
 obtain rfl := q25 _ rfl
 obtain rfl := q22 _ rfl
 exact NX.lq (NX.lq (NX.brk (NX.inl (by kernel_rfl))))
 refine CD.seq (CD.block ?_)
 rcases bd_some h with ⟨v28, g29, h⟩
 rcases bd_some h with ⟨v30, g31, h⟩
 rcases bd_some h with ⟨v32, g33, h⟩
 rcases bd_some h with ⟨v34, g35, h⟩
 refine rg [(4, hE (k128.x v28)), (9, hC (iA v30) [] [] []), (13, hE (k128.x v32)), (18, hC (iA v34) [] [] [])] [(5, iA (ad (ad (ad v20.1 1) v30) v34))] [] (a1 (o_ix k128 g29) (a1 (i88 g31) (a1 (o_ix k128 g33) (a1 (i88 g35) a0)))) (NX.blN (rg [] [(6, iA (ad v20.2 1))] [] a0 ?_))
 obtain rfl := sm h
 exact NX.inl (by kernel_rfl)
 refine CD.seq (rg [] [(4, iA v1)] [] a0 (CD.ret ?_))
 obtain rfl := sm h
 exact NX.ret [] a0 (by kernel_rfl)

theorem c88n : ∀ (k0 : Nat), ∀ {x0 : (List T128)} {x1 : Int} {r : Int}, f88n k0 x0 x1 = some r → FnD cx 88 [k39.a x0, iA x1] [] (iA r) []
| 0 => fun h => by cases h
| k0 + 1 => fun h => c88o (c88n k0) h
theorem c88 {x0 : (List T128)} {x1 : Int} {r : Int} (h : f88 x0 x1 = some r) :
 FnD cx 88 [k39.a x0, iA x1] [] (iA r) [] := c88n LF h

-- f64 spec.ProgramValid
def f64 (x0 : (List T128)) : Option (Bool) :=
 bd (f87 x0 4) fun v1 =>
 if v1 = true then
 bd (f88 x0 4) fun v4 =>
 some (decide (v4 ≤ 16))
 else
 some false
theorem c64 {x0 : (List T128)} {r : Bool} (h : f64 x0 = some r) :
 FnD cx 64 [k39.a x0] [] (bA r) [] := by
 unfold f64 at h
 refine fnD_intro (fn := Tryz.f64) (by kernel_rfl) rfl (by kernel_rfl) (by kernel_rfl) fun E => ?_
 refine CD.seq (rg [] [] [] a0 (CD.seq ?_))
 rcases bd_some h with ⟨v1, g2, h⟩
 rcases if_some h with ⟨g3, h⟩ | ⟨g3, h⟩
 rcases bd_some h with ⟨v4, g5, h⟩
 refine rg [(1, hC (bA v1) [] [] []), (2, hT1), (4, hC (iA v4) [] [] [])] [(2, bA (decide (v4 ≤ 16)))] [] (a1 (c87 g2) (a1 (oB (c := v1) g3) (a1 (c88 g5) a0))) (CD.ret ?_)
 obtain rfl := sm h
 exact NX.ret [] a0 (by kernel_rfl)
 refine rg [(1, hC (bA v1) [] [] []), (2, hF1)] [(2, bA false)] [] (a1 (c87 g2) (a1 (oB (c := v1) g3) a0)) (CD.ret ?_)
 obtain rfl := sm h
 exact NX.ret [] a0 (by kernel_rfl)


-- f119 spec.l8Split
def f119 (x0 : (List UInt8)) (x1 : (List UInt8)) : Option ((List UInt8) × (List UInt8) × Bool) :=
 jn (
 iter (fun (v15 : Int) =>
 if (decide ((ad v15 (ln x1)) ≤ (ln x0))) = true then
 bd (sl x0 v15 (ad v15 (ln x1))) fun v19 =>
 if (v19 == x1) = true then
 bd (sl x0 0 v15) fun v22 =>
 bd (sl x0 (ad v15 (ln x1)) (x0.length : Int)) fun v24 =>
 some (.inr (.inr (v22, v24, true)))
 else
 some (.inl (ad v15 1))
 else
 some (.inr (.inl ()))) 0) fun (v1 : Unit) =>
 some (x0, ([] : List UInt8), false)
theorem c119 {x0 : (List UInt8)} {x1 : (List UInt8)} {r : (List UInt8) × (List UInt8) × Bool} (h : f119 x0 x1 = some r) :
 FnD cx 119 [sA x0, sA x1] [] (.tup [sA r.1, sA r.2.1, bA r.2.2]) [] := by
 unfold f119 at h
 refine fnD_intro (fn := Tryz.f119) (by kernel_rfl) rfl (by kernel_rfl) (by kernel_rfl) fun E => ?_
 refine CD.seq (rg [] [] [] a0 (CD.join (fun (v1 : Unit) => ⟨[(0, sA x0)], []⟩) h (fun u2 h q3 => ?_) (fun v1 h => ?_)))
 refine CD.seq (rg [] [(7, iA 0)] [] a0 (CD.block (CD.loopK (fun (v15 : Int) => ⟨[(0, sA x0), (1, sA x1), (7, iA v15)], []⟩) h (by kernel_rfl) (fun v15 u16 h q17 => ?_))))
 refine CD.seq (CD.seq (rg [] [(14, bA (decide ((ad v15 (ln x1)) ≤ (ln x0))))] [] a0 (br h (fun g18 h => ?_) (fun g18 h => ?_))))
 refine CD.skip (CD.seq (CD.block (CD.seq ?_)))
 rcases bd_some h with ⟨v19, g20, h⟩
 refine rg [(6, hV (sA v19))] [(25, bA (v19 == x1))] [] (a1 (o_ssl g20) a0) (br h (fun g21 h => ?_) (fun g21 h => ?_))
 refine CD.seq ?_
 rcases bd_some h with ⟨v22, g23, h⟩
 rcases bd_some h with ⟨v24, g25, h⟩
 refine rg [(2, hV (sA v22)), (8, hV (sA v24))] [(4, sA v22), (5, sA v24), (6, bA true)] [] (a1 (o_ssl g23) (a1 (o_ssl g25) a0)) (CD.ret ?_)
 obtain rfl := sm h
 obtain rfl := q17 _ rfl
 obtain rfl := q3 _ rfl
 exact NX.ret [] a0 (by kernel_rfl)
 refine CD.skip (NX.blN (rg [] [(7, iA (ad v15 1))] [] a0 ?_))
 obtain rfl := sm h
 exact NX.inl (by kernel_rfl)
 refine CD.exit ?_
 obtain rfl := sm h
 obtain rfl := q17 _ rfl
 exact NX.th (NX.lq (NX.brk (NX.inl (by kernel_rfl))))
 refine CD.seq (rg [] [(4, sA x0), (5, sA ([] : List UInt8)), (6, bA false)] [] a0 (CD.ret ?_))
 obtain rfl := sm h
 exact NX.ret [] a0 (by kernel_rfl)


-- f127 spec.l8Bare
def f127 (x0 : (List UInt8)) : Option ((List UInt8) × Bool) :=
 if (decide ((ln x0) < 2)) = true then
 some (x0, false)
 else
 bd (ix x0 0) fun v2 =>
 if ((v2.toNat : Int) != 91) = true then
 some (x0, false)
 else
 bd (ix x0 (sb (ln x0) 1)) fun v5 =>
 if ((v5.toNat : Int) != 93) = true then
 some (x0, false)
 else
 bd (sl x0 1 (sb (ln x0) 1)) fun v8 =>
 some (v8, true)
theorem c127 {x0 : (List UInt8)} {r : (List UInt8) × Bool} (h : f127 x0 = some r) :
 FnD cx 127 [sA x0] [] (.tup [sA r.1, bA r.2]) [] := by
 unfold f127 at h
 refine fnD_intro (fn := Tryz.f127) (by kernel_rfl) rfl (by kernel_rfl) (by kernel_rfl) fun E => ?_
 refine CD.seq (rg [] [] [] a0 (CD.seq (rg [] [(4, iA (ln x0))] [] a0 (CD.seq (CD.seq ?_)))))
 rcases if_some h with ⟨g1, h⟩ | ⟨g1, h⟩
 refine rg [(2, hT1)] [(20, bA true)] [] (a1 (oB (c := (decide ((ln x0) < 2))) g1) a0) (CD.condT (b := true) (by kernel_rfl) rfl (CD.seq (rg [] [(2, sA x0), (3, bA false)] [] a0 (CD.ret ?_))))
 obtain rfl := sm h
 exact NX.ret [] a0 (by kernel_rfl)
 rcases bd_some h with ⟨v2, g3, h⟩
 rcases if_some h with ⟨g4, h⟩ | ⟨g4, h⟩
 refine rg [(2, hF1), (4, hT v2), (7, hT1)] [(20, bA true)] [] (a1 (oB (c := (decide ((ln x0) < 2))) g1) (a1 (o_bt g3) (a1 (oB (c := ((v2.toNat : Int) != 91)) g4) a0))) (CD.condT (b := true) (by kernel_rfl) rfl (CD.seq (rg [] [(2, sA x0), (3, bA false)] [] a0 (CD.ret ?_))))
 obtain rfl := sm h
 exact NX.ret [] a0 (by kernel_rfl)
 rcases bd_some h with ⟨v5, g6, h⟩
 refine rg [(2, hF1), (4, hT v2), (7, hF1), (11, hT v5)] [(20, bA ((v5.toNat : Int) != 93))] [] (a1 (oB (c := (decide ((ln x0) < 2))) g1) (a1 (o_bt g3) (a1 (oB (c := ((v2.toNat : Int) != 91)) g4) (a1 (o_bt g6) a0)))) (br h (fun g7 h => ?_) (fun g7 h => ?_))
 refine CD.seq (rg [] [(2, sA x0), (3, bA false)] [] a0 (CD.ret ?_))
 obtain rfl := sm h
 exact NX.ret [] a0 (by kernel_rfl)
 refine CD.skip (CD.seq ?_)
 rcases bd_some h with ⟨v8, g9, h⟩
 refine rg [(3, hV (sA v8))] [(2, sA v8), (3, bA true)] [] (a1 (o_ssl g9) a0) (CD.ret ?_)
 obtain rfl := sm h
 exact NX.ret [] a0 (by kernel_rfl)


-- f120 spec.l8Assign
def f120 (x0 : (List UInt8)) (x1 : (List UInt8)) : Option (T128) :=
 bd (f127 x0) fun v1 =>
 bd (f127 x1) fun v3 =>
 bd (f98 v1.1) fun v5 =>
 bd (f98 v3.1) fun v7 =>
 jn (
 if v1.2 = true then
 some (.inl 3)
 else
 some (.inl 1)) fun (v9 : Int) =>
 if v3.2 = true then
 some (⟨2, v5.1, v7.1, (⟨false, 0, 0⟩ : T53), (⟨[], []⟩ : T25), [], []⟩ : T128)
 else
 some (⟨v9, v5.1, v7.1, (⟨false, 0, 0⟩ : T53), (⟨[], []⟩ : T25), [], []⟩ : T128)
theorem c120 {x0 : (List UInt8)} {x1 : (List UInt8)} {r : T128} (h : f120 x0 x1 = some r) :
 FnD cx 120 [sA x0, sA x1] [] (k128.a r) [] := by
 unfold f120 at h
 refine fnD_intro (fn := Tryz.f120) (by kernel_rfl) rfl (by kernel_rfl) (by kernel_rfl) fun E => ?_
 refine CD.seq (rg [] [(4, .ref 1004 [])] [(1004, bx (.agg [iA 0, iA 0, iA 0, k53.a (⟨false, 0, 0⟩ : T53), .agg [.nils (.node [.cell, .cell, .cell]), .nils (.node [.cell, .cell, .cell])], .nils (.node [.cell, .cell, .cell, .node [.cell, .cell, .cell], .node [.cell, .cell], .cell, .cell]), .nils (.node [.cell, .cell, .cell, .node [.cell, .cell, .cell], .node [.cell, .cell], .cell, .cell])]))] a0 (CD.seq ?_))
 rcases bd_some h with ⟨v1, g2, h⟩
 refine rg [(1, hC (.tup [sA v1.1, bA v1.2]) [] [] [])] [(5, sA v1.1), (6, bA v1.2)] [] (a1 (c127 g2) a0) (CD.seq ?_)
 rcases bd_some h with ⟨v3, g4, h⟩
 refine rg [(1, hC (.tup [sA v3.1, bA v3.2]) [] [] [])] [(7, sA v3.1), (8, bA v3.2)] [] (a1 (c127 g4) a0) (CD.seq ?_)
 rcases bd_some h with ⟨v5, g6, h⟩
 refine rg [(1, hC (.tup [iA v5.1, bA v5.2]) [] [] [])] [(9, iA v5.1)] [] (a1 (c98 g6) a0) (CD.seq ?_)
 rcases bd_some h with ⟨v7, g8, h⟩
 refine rg [(1, hC (.tup [iA v7.1, bA v7.2]) [] [] [])] [(11, iA v7.1)] [] (a1 (c98 g8) a0) (CD.seq (rg [] [(13, iA 1)] [] a0 (CD.join (fun (v9 : Int) => ⟨[(4, .ref 1004 []), (8, bA v3.2), (9, iA v5.1), (11, iA v7.1), (13, iA v9)], [(1004, bx (.agg [iA 0, iA 0, iA 0, k53.a (⟨false, 0, 0⟩ : T53), .agg [.nils (.node [.cell, .cell, .cell]), .nils (.node [.cell, .cell, .cell])], .nils (.node [.cell, .cell, .cell, .node [.cell, .cell, .cell], .node [.cell, .cell], .cell, .cell]), .nils (.node [.cell, .cell, .cell, .node [.cell, .cell, .cell], .node [.cell, .cell], .cell, .cell])]))]⟩) h (fun u10 h q11 => ?_) (fun v9 h => ?_))))
 refine CD.seq (rg [] [(34, bA v1.2)] [] a0 (br h (fun g12 h => ?_) (fun g12 h => ?_)))
 refine rg [] [(13, iA 3)] [] a0 ?_
 obtain rfl := sm h
 exact NX.inl (by kernel_rfl)
 refine CD.skip ?_
 obtain rfl := sm h
 exact NX.inl (by kernel_rfl)
 refine CD.seq (CD.seq (rg [] [(35, bA v3.2)] [] a0 (br h (fun g13 h => ?_) (fun g13 h => ?_))))
 refine rg [] [(13, iA 2)] [] a0 (CD.seq (rg [] [] [(1004, bx (.agg [iA 2, iA v5.1, iA v7.1, k53.a (⟨false, 0, 0⟩ : T53), .agg [.nils (.node [.cell, .cell, .cell]), .nils (.node [.cell, .cell, .cell])], .nils (.node [.cell, .cell, .cell, .node [.cell, .cell, .cell], .node [.cell, .cell], .cell, .cell]), .nils (.node [.cell, .cell, .cell, .node [.cell, .cell, .cell], .node [.cell, .cell], .cell, .cell])]))] a0 (CD.ret ?_)))
 obtain rfl := sm h
 exact NX.ret [] a0 (by kernel_rfl)
 refine CD.skip (CD.seq (rg [] [] [(1004, bx (.agg [iA v9, iA v5.1, iA v7.1, k53.a (⟨false, 0, 0⟩ : T53), .agg [.nils (.node [.cell, .cell, .cell]), .nils (.node [.cell, .cell, .cell])], .nils (.node [.cell, .cell, .cell, .node [.cell, .cell, .cell], .node [.cell, .cell], .cell, .cell]), .nils (.node [.cell, .cell, .cell, .node [.cell, .cell, .cell], .node [.cell, .cell], .cell, .cell])]))] a0 (CD.ret ?_)))
 obtain rfl := sm h
 exact NX.ret [] a0 (by kernel_rfl)


-- f100 spec.l8Head
def f100 (x0 : (List UInt8)) : Option (T128) :=
 bd (f119 x0 ([58, 61] : List UInt8)) fun v1 =>
 if v1.2.2 = true then
 bd (f120 v1.1 v1.2.1) fun v4 =>
 some v4
 else
 bd (f119 x0 ([32] : List UInt8)) fun v6 =>
 bd (f98 v6.2.1) fun v8 =>
 if (v6.1 == ([110, 101, 119] : List UInt8)) = true then
 some (⟨4, v8.1, 0, (⟨false, 0, 0⟩ : T53), (⟨[], []⟩ : T25), [], []⟩ : T128)
 else
 if (v6.1 == ([102, 114, 101, 101] : List UInt8)) = true then
 some (⟨5, v8.1, 0, (⟨false, 0, 0⟩ : T53), (⟨[], []⟩ : T25), [], []⟩ : T128)
 else
 if (v6.1 == ([105, 102] : List UInt8)) = true then
 bd (f77 v6.2.1) fun v13 =>
 some (⟨6, 0, 0, v13.1, (⟨[], []⟩ : T25), [], []⟩ : T128)
 else
 bd (f119 v6.2.1 ([32, 119, 105, 116, 104, 32] : List UInt8)) fun v15 =>
 bd (f77 v15.1) fun v17 =>
 bd (f59 v15.2.1) fun v19 =>
 some (⟨7, 0, 0, v17.1, (⟨v19.1, v19.2.1⟩ : T25), [], []⟩ : T128)
theorem c100 {x0 : (List UInt8)} {r : T128} (h : f100 x0 = some r) :
 FnD cx 100 [sA x0] [] (k128.a r) [] := by
 unfold f100 at h
 refine fnD_intro (fn := Tryz.f100) (by kernel_rfl) rfl (by kernel_rfl) (by kernel_rfl) fun E => ?_
 refine CD.seq (rg [] [(2, .ref 1002 [])] [(1002, bx (.agg [iA 0, iA 0, iA 0, k53.a (⟨false, 0, 0⟩ : T53), .agg [.nils (.node [.cell, .cell, .cell]), .nils (.node [.cell, .cell, .cell])], .nils (.node [.cell, .cell, .cell, .node [.cell, .cell, .cell], .node [.cell, .cell], .cell, .cell]), .nils (.node [.cell, .cell, .cell, .node [.cell, .cell, .cell], .node [.cell, .cell], .cell, .cell])]))] a0 (CD.seq ?_))
 rcases bd_some h with ⟨v1, g2, h⟩
 refine rg [(1, hC (.tup [sA v1.1, sA v1.2.1, bA v1.2.2]) [] [] [])] [(3, sA v1.1), (4, sA v1.2.1), (5, bA v1.2.2)] [] (a1 (c119 g2) a0) (CD.seq (CD.seq (rg [] [(26, bA v1.2.2)] [] a0 (br h (fun g3 h => ?_) (fun g3 h => ?_)))))
 refine CD.seq ?_
 rcases bd_some h with ⟨v4, g5, h⟩
 refine rg [(2, hC (k128.a v4) [] [] [])] [] [(1002, bx (k128.a v4))] (a1 (c120 g5) a0) (CD.ret ?_)
 obtain rfl := sm h
 exact NX.ret [] a0 (by kernel_rfl)
 refine CD.skip (CD.seq ?_)
 rcases bd_some h with ⟨v6, g7, h⟩
 refine rg [(1, hC (.tup [sA v6.1, sA v6.2.1, bA v6.2.2]) [] [] [])] [(6, sA v6.1), (7, sA v6.2.1)] [] (a1 (c119 g7) a0) (CD.seq ?_)
 rcases bd_some h with ⟨v8, g9, h⟩
 refine rg [(1, hC (.tup [iA v8.1, bA v8.2]) [] [] [])] [(9, iA v8.1)] [] (a1 (c98 g9) a0) (CD.seq (CD.seq (rg [] [(41, sA v6.1)] [] a0 (CD.block (CD.seq (rg [] [(42, bA (v6.1 == ([110, 101, 119] : List UInt8)))] [] a0 (br h (fun g10 h => ?_) (fun g10 h => ?_))))))))
 refine CD.seq (rg [] [] [(1002, bx (.agg [iA 4, iA v8.1, iA 0, k53.a (⟨false, 0, 0⟩ : T53), .agg [.nils (.node [.cell, .cell, .cell]), .nils (.node [.cell, .cell, .cell])], .nils (.node [.cell, .cell, .cell, .node [.cell, .cell, .cell], .node [.cell, .cell], .cell, .cell]), .nils (.node [.cell, .cell, .cell, .node [.cell, .cell, .cell], .node [.cell, .cell], .cell, .cell])]))] a0 (CD.ret ?_))
 obtain rfl := sm h
 exact NX.ret [] a0 (by kernel_rfl)
 refine CD.seq (rg [] [(46, bA (v6.1 == ([102, 114, 101, 101] : List UInt8)))] [] a0 (br h (fun g11 h => ?_) (fun g11 h => ?_)))
 refine CD.seq (rg [] [] [(1002, bx (.agg [iA 5, iA v8.1, iA 0, k53.a (⟨false, 0, 0⟩ : T53), .agg [.nils (.node [.cell, .cell, .cell]), .nils (.node [.cell, .cell, .cell])], .nils (.node [.cell, .cell, .cell, .node [.cell, .cell, .cell], .node [.cell, .cell], .cell, .cell]), .nils (.node [.cell, .cell, .cell, .node [.cell, .cell, .cell], .node [.cell, .cell], .cell, .cell])]))] a0 (CD.ret ?_))
 obtain rfl := sm h
 exact NX.ret [] a0 (by kernel_rfl)
 refine CD.seq (rg [] [(50, bA (v6.1 == ([105, 102] : List UInt8)))] [] a0 (br h (fun g12 h => ?_) (fun g12 h => ?_)))
 refine CD.seq ?_
 rcases bd_some h with ⟨v13, g14, h⟩
 refine rg [(1, hC (.tup [k53.a v13.1, bA v13.2]) [] [] [])] [(11, .ref 1011 [])] [(1011, bx (k53.a v13.1))] (a1 (c77 g14) a0) (CD.seq (rg [] [] [(1002, bx (.agg [iA 6, iA 0, iA 0, k53.a v13.1, .agg [.nils (.node [.cell, .cell, .cell]), .nils (.node [.cell, .cell, .cell])], .nils (.node [.cell, .cell, .cell, .node [.cell, .cell, .cell], .node [.cell, .cell], .cell, .cell]), .nils (.node [.cell, .cell, .cell, .node [.cell, .cell, .cell], .node [.cell, .cell], .cell, .cell])]))] a0 (CD.ret ?_)))
 obtain rfl := sm h
 exact NX.ret [] a0 (by kernel_rfl)
 refine CD.skip (NX.blN (CD.seq ?_))
 rcases bd_some h with ⟨v15, g16, h⟩
 refine rg [(1, hC (.tup [sA v15.1, sA v15.2.1, bA v15.2.2]) [] [] [])] [(13, sA v15.1), (14, sA v15.2.1)] [] (a1 (c119 g16) a0) (CD.seq ?_)
 rcases bd_some h with ⟨v17, g18, h⟩
 refine rg [(1, hC (.tup [k53.a v17.1, bA v17.2]) [] [] [])] [(16, .ref 1016 [])] [(1016, bx (k53.a v17.1))] (a1 (c77 g18) a0) (CD.seq ?_)
 rcases bd_some h with ⟨v19, g20, h⟩
 refine rg [(1, hC (.tup [.agg [.own 0 v19.1.length, .own 1 v19.2.1.length], bA v19.2.2]) [k53.r 54 (.node [.cell, .cell, .cell]) v19.1, k60.r 61 (.node [.cell, .cell, .cell]) v19.2.1] [] [3440, 3441])] [(18, .ref 1018 [])] [(1018, bx (.agg [.own 3440 v19.1.length, .own 3441 v19.2.1.length])), (3441, k60.r 61 (.node [.cell, .cell, .cell]) v19.2.1), (3440, k53.r 54 (.node [.cell, .cell, .cell]) v19.1)] (a1 (c59 g20) a0) (CD.seq (rg [] [] [(1002, bx (.agg [iA 7, iA 0, iA 0, k53.a v17.1, .agg [.own 3440 v19.1.length, .own 3441 v19.2.1.length], .nils (.node [.cell, .cell, .cell, .node [.cell, .cell, .cell], .node [.cell, .cell], .cell, .cell]), .nils (.node [.cell, .cell, .cell, .node [.cell, .cell, .cell], .node [.cell, .cell], .cell, .cell])]))] a0 (CD.ret ?_)))
 obtain rfl := sm h
 exact NX.ret [] (a1 (k_len' k53 v19.1) (a1 (k_len' k60 v19.2.1) a0)) (by kernel_rfl)

end Go.Sep.Y
