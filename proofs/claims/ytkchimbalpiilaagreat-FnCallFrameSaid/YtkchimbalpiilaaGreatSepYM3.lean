/- Part of the proof: mirrors of the functions of this seat, and that the functions give what their mirrors give. -/
import Derived.Test.YtkchimbalpiilaaGreatSepYM2
set_option linter.all false
set_option linter.deprecated false
open Go Go.Sep Go.Proofs
set_option maxRecDepth 100000
namespace Go.Sep.Y
-- f102 spec.l8Draw
def f102o (r102 : Int → T74 → Option ((List T128) × T74)) (x0 : Int) (x1 : T74) : Option ((List T128) × T74) :=
 jn (
 bd (f41 ([2, 1, 3, 2] : List Int) x1) fun v4 =>
 iter (fun (v51 : T74 × (List T128) × Int) =>
 if (decide (v51.2.2 > 0)) = true then
 jn (
 bd (f122 v51.1) fun v58 =>
 jn (
 jn (
 if (decide (x0 > 1)) = true then
 bd (f38 4 v58.2) fun v67 =>
 some (.inl (v67.1 == 0, v67.2))
 else
 some (.inl (false, v58.2))) fun (v63 : Bool × T74) =>
 if v63.1 = true then
 bd (f123 v63.2) fun v70 =>
 bd (r102 (sb x0 1) v70.2) fun v72 =>
 bd (f38 2 v72.2) fun v74 =>
 if (v74.1 == 0) = true then
 bd (r102 (sb x0 1) v74.2) fun v77 =>
 some (.inl (v77.2, 6, 0, 0, v70.1, [], [], v72.1, v77.1))
 else
 some (.inl (v74.2, 6, 0, 0, v70.1, [], [], v72.1, []))
 else
 some (.inl (v63.2, v58.1.f0, v58.1.f1, v58.1.f2, v58.1.f3, v58.1.f4.f0, v58.1.f4.f1, v58.1.f5, v58.1.f6))) fun (v60 : T74 × Int × Int × Int × T53 × (List T53) × (List T60) × (List T128) × (List T128)) =>
 jn (
 if (decide (x0 > 1)) = true then
 bd (f38 8 v60.1) fun v83 =>
 some (.inl (v83.1 == 0, v83.2))
 else
 some (.inl (false, v60.1))) fun (v79 : Bool × T74) =>
 if v79.1 = true then
 bd (f123 v79.2) fun v86 =>
 bd (f124 v86.2) fun v88 =>
 bd (r102 (sb x0 1) v88.2.2) fun v90 =>
 bd (ap 144 v51.2.1 ([(⟨7, 0, 0, v86.1, (⟨v88.1, v88.2.1⟩ : T25), v90.1, []⟩ : T128)] : List T128)) fun v92 =>
 some (.inl (v90.2, v92))
 else
 bd (ap 144 v51.2.1 ([(⟨v60.2.1, v60.2.2.1, v60.2.2.2.1, v60.2.2.2.2.1, (⟨v60.2.2.2.2.2.1, v60.2.2.2.2.2.2.1⟩ : T25), v60.2.2.2.2.2.2.2.1, v60.2.2.2.2.2.2.2.2⟩ : T128)] : List T128)) fun v94 =>
 some (.inl (v79.2, v94))) fun (v55 : T74 × (List T128)) =>
 some (.inl (v55.1, v55.2, sb v51.2.2 1))
 else
 some (.inr (.inl (v51.2.1, v51.1)))) (v4.2, ([] : List T128), v4.1)) fun (v1 : (List T128) × T74) =>
 some (v1.1, v1.2)
def f102n : Nat → Int → T74 → Option ((List T128) × T74)
| 0 => fun _ _ => none
| k + 1 => f102o (f102n k)
def f102 (x0 : Int) (x1 : T74) : Option ((List T128) × T74) := f102n LF x0 x1
theorem c102o {r102 : Int → T74 → Option ((List T128) × T74)} (i102 : ∀ {x0 : Int} {x1 : T74} {r : (List T128) × T74}, r102 x0 x1 = some r → FnD cx 102 [.ref 0 [], iA x0] [bx (k74.a x1)] (k39.a r.1) [bx (k74.a r.2)]) {x0 : Int} {x1 : T74} {r : (List T128) × T74} (h : f102o r102 x0 x1 = some r) :
 FnD cx 102 [.ref 0 [], iA x0] [bx (k74.a x1)] (k39.a r.1) [bx (k74.a r.2)] := by
 unfold f102o at h
 refine fnD_intro (fn := Tryz.f102) (by kernel_rfl) rfl (by kernel_rfl) (by kernel_rfl) fun E => ?_
 refine CD.seq (rg [] [] [] a0 (CD.seq (rg [(0, hO)] [(5, .own 1008 (([] : List T128).length))] [(1008, k128.r 129 (.node [.cell, .cell, .cell, .node [.cell, .cell, .cell], .node [.cell, .cell], .cell, .cell]) ([] : List T128))] a0 (CD.join (fun (v1 : (List T128) × T74) => ⟨[(5, .own 1008 v1.1.length)], [(1008, k128.r 129 (.node [.cell, .cell, .cell, .node [.cell, .cell, .cell], .node [.cell, .cell], .cell, .cell]) v1.1), (0, bx (k74.a v1.2))]⟩) h (fun u2 h q3 => ?_) (fun v1 h => ?_)))))
 refine CD.seq ?_
 rcases bd_some h with ⟨v4, g5, h⟩
 refine rg [(2, hC (iA v4.1) [bx (k74.a v4.2)] [0] [])] [(6, iA v4.1)] [(0, bx (k74.a v4.2))] (a1 (c41 g5) a0) (CD.block (CD.loopK (fun (v51 : T74 × (List T128) × Int) => ⟨[(0, .ref 0 []), (1, iA x0), (5, .own 1008 v51.2.1.length), (6, iA v51.2.2)], [(1008, k128.r 129 (.node [.cell, .cell, .cell, .node [.cell, .cell, .cell], .node [.cell, .cell], .cell, .cell]) v51.2.1), (0, bx (k74.a v51.1))]⟩) h (by kernel_rfl) (fun v51 u52 h q53 => ?_)))
 refine CD.seq (CD.seq (rg [] [(13, bA (decide (v51.2.2 > 0)))] [] a0 (br h (fun g54 h => ?_) (fun g54 h => ?_))))
 refine CD.skip (CD.join (fun (v55 : T74 × (List T128)) => ⟨[(0, .ref 0 []), (1, iA x0), (5, .own 1008 v55.2.length), (6, iA v51.2.2)], [(1008, k128.r 129 (.node [.cell, .cell, .cell, .node [.cell, .cell, .cell], .node [.cell, .cell], .cell, .cell]) v55.2), (0, bx (k74.a v55.1))]⟩) h (fun u56 h q57 => ?_) (fun v55 h => ?_))
 refine CD.block (CD.seq ?_)
 rcases bd_some h with ⟨v58, g59, h⟩
 refine rg [(1, hC (k128.a v58.1) [bx (k74.a v58.2)] [0] [])] [(7, .ref 1007 [])] [(1007, bx (k128.a v58.1)), (0, bx (k74.a v58.2))] (a1 (c122 g59) a0) (CD.join (fun (v60 : T74 × Int × Int × Int × T53 × (List T53) × (List T60) × (List T128) × (List T128)) => ⟨[(0, .ref 0 []), (1, iA x0), (5, .own 1008 v51.2.1.length), (6, iA v51.2.2), (7, .ref 1007 [])], [(1008, k128.r 129 (.node [.cell, .cell, .cell, .node [.cell, .cell, .cell], .node [.cell, .cell], .cell, .cell]) v51.2.1), (0, bx (k74.a v60.1)), (1007, bx (k128.a (⟨v60.2.1, v60.2.2.1, v60.2.2.2.1, v60.2.2.2.2.1, (⟨v60.2.2.2.2.2.1, v60.2.2.2.2.2.2.1⟩ : T25), v60.2.2.2.2.2.2.2.1, v60.2.2.2.2.2.2.2.2⟩ : T128)))]⟩) h (fun u61 h q62 => ?_) (fun v60 h => ?_))
 refine CD.join (fun (v63 : Bool × T74) => ⟨[(0, .ref 0 []), (1, iA x0), (5, .own 1008 v51.2.1.length), (6, iA v51.2.2), (7, .ref 1007 []), (24, bA v63.1)], [(1008, k128.r 129 (.node [.cell, .cell, .cell, .node [.cell, .cell, .cell], .node [.cell, .cell], .cell, .cell]) v51.2.1), (0, bx (k74.a v63.2)), (1007, bx (k128.a v58.1))]⟩) h (fun u64 h q65 => ?_) (fun v63 h => ?_)
 rcases if_some h with ⟨g66, h⟩ | ⟨g66, h⟩
 rcases bd_some h with ⟨v67, g68, h⟩
 refine rg [(2, hT1), (4, hC (iA v67.1) [bx (k74.a v67.2)] [0] [])] [(24, bA (v67.1 == 0))] [(0, bx (k74.a v67.2))] (a1 (oB (c := (decide (x0 > 1))) g66) (a1 (c38 g68) a0)) ?_
 obtain rfl := sm h
 exact NX.inl (by kernel_rfl)
 refine rg [(2, hF1)] [(24, bA false)] [] (a1 (oB (c := (decide (x0 > 1))) g66) a0) ?_
 obtain rfl := sm h
 exact NX.inl (by kernel_rfl)
 refine br h (fun g69 h => ?_) (fun g69 h => ?_)
 refine CD.seq ?_
 rcases bd_some h with ⟨v70, g71, h⟩
 rcases bd_some h with ⟨v72, g73, h⟩
 refine rg [(1, hC (k53.a v70.1) [bx (k74.a v70.2)] [0] []), (5, hC (k39.a v72.1) [bx (k74.a v72.2)] [0] [])] [] [(1007, bx (.agg [iA 6, iA 0, iA 0, k53.a v70.1, .agg [.nils (.node [.cell, .cell, .cell]), .nils (.node [.cell, .cell, .cell])], k39.a v72.1, .nils (.node [.cell, .cell, .cell, .node [.cell, .cell, .cell], .node [.cell, .cell], .cell, .cell])])), (0, bx (k74.a v72.2))] (a1 (c123 g71) (a1 (i102 g73) a0)) (CD.seq ?_)
 rcases bd_some h with ⟨v74, g75, h⟩
 refine rg [(1, hC (iA v74.1) [bx (k74.a v74.2)] [0] [])] [(34, bA (v74.1 == 0))] [(0, bx (k74.a v74.2))] (a1 (c38 g75) a0) (br h (fun g76 h => ?_) (fun g76 h => ?_))
 rcases bd_some h with ⟨v77, g78, h⟩
 refine rg [(3, hC (k39.a v77.1) [bx (k74.a v77.2)] [0] [])] [] [(1007, bx (.agg [iA 6, iA 0, iA 0, k53.a v70.1, .agg [.nils (.node [.cell, .cell, .cell]), .nils (.node [.cell, .cell, .cell])], k39.a v72.1, k39.a v77.1])), (0, bx (k74.a v77.2))] (a1 (i102 g78) a0) ?_
 obtain rfl := sm h
 exact NX.nilDb 1007 [4, 0] (sh := (.node [.cell, .cell, .cell])) (c := .agg [iA 6, iA 0, iA 0, k53.a v70.1, .agg [.nils (.node [.cell, .cell, .cell]), .nils (.node [.cell, .cell, .cell])], k39.a v72.1, k39.a v77.1]) (c' := .agg [iA 6, iA 0, iA 0, k53.a v70.1, .agg [k23.a [], .nils (.node [.cell, .cell, .cell])], k39.a v72.1, k39.a v77.1]) (by kernel_rfl) (by kernel_rfl) (by kernel_rfl) (NX.nilDb 1007 [4, 1] (sh := (.node [.cell, .cell, .cell])) (c := .agg [iA 6, iA 0, iA 0, k53.a v70.1, .agg [k23.a [], .nils (.node [.cell, .cell, .cell])], k39.a v72.1, k39.a v77.1]) (c' := k128.a (⟨6, 0, 0, v70.1, (⟨[], []⟩ : T25), v72.1, v77.1⟩ : T128)) (by kernel_rfl) (by kernel_rfl) (by kernel_rfl) (NX.inl (by kernel_rfl)))
 refine CD.skip ?_
 obtain rfl := sm h
 refine NX.nilDb 1007 [4, 0] (sh := (.node [.cell, .cell, .cell])) (c := .agg [iA 6, iA 0, iA 0, k53.a v70.1, .agg [.nils (.node [.cell, .cell, .cell]), .nils (.node [.cell, .cell, .cell])], k39.a v72.1, .nils (.node [.cell, .cell, .cell, .node [.cell, .cell, .cell], .node [.cell, .cell], .cell, .cell])]) (c' := .agg [iA 6, iA 0, iA 0, k53.a v70.1, .agg [k23.a [], .nils (.node [.cell, .cell, .cell])], k39.a v72.1, .nils (.node [.cell, .cell, .cell, .node [.cell, .cell, .cell], .node [.cell, .cell], .cell, .cell])]) (by kernel_rfl) (by kernel_rfl) (by kernel_rfl) (NX.nilDb 1007 [4, 1] (sh := (.node [.cell, .cell, .cell])) (c := .agg [iA 6, iA 0, iA 0, k53.a v70.1, .agg [k23.a [], .nils (.node [.cell, .cell, .cell])], k39.a v72.1, .nils (.node [.cell, .cell, .cell, .node [.cell, .cell, .cell], .node [.cell, .cell], .cell, .cell])]) (c' := .agg [iA 6, iA 0, iA 0, k53.a v70.1, k25.a (⟨[], []⟩ : T25), k39.a v72.1, .nils (.node [.cell, .cell, .cell, .node [.cell, .cell, .cell], .node [.cell, .cell], .cell, .cell])]) (by kernel_rfl) (by kernel_rfl) (by kernel_rfl) ?_)
 exact NX.nilDb 1007 [6] (sh := (.node [.cell, .cell, .cell, .node [.cell, .cell, .cell], .node [.cell, .cell], .cell, .cell])) (c := .agg [iA 6, iA 0, iA 0, k53.a v70.1, k25.a (⟨[], []⟩ : T25), k39.a v72.1, .nils (.node [.cell, .cell, .cell, .node [.cell, .cell, .cell], .node [.cell, .cell], .cell, .cell])]) (c' := k128.a (⟨6, 0, 0, v70.1, (⟨[], []⟩ : T25), v72.1, []⟩ : T128)) (by kernel_rfl) (by kernel_rfl) (by kernel_rfl) (NX.inl (by kernel_rfl))
 refine CD.skip ?_
 obtain rfl := sm h
 exact NX.inl (by kernel_rfl)
 refine CD.seq (CD.join (fun (v79 : Bool × T74) => ⟨[(0, .ref 0 []), (1, iA x0), (5, .own 1008 v51.2.1.length), (6, iA v51.2.2), (7, .ref 1007 []), (46, bA v79.1)], [(1008, k128.r 129 (.node [.cell, .cell, .cell, .node [.cell, .cell, .cell], .node [.cell, .cell], .cell, .cell]) v51.2.1), (0, bx (k74.a v79.2)), (1007, bx (k128.a (⟨v60.2.1, v60.2.2.1, v60.2.2.2.1, v60.2.2.2.2.1, (⟨v60.2.2.2.2.2.1, v60.2.2.2.2.2.2.1⟩ : T25), v60.2.2.2.2.2.2.2.1, v60.2.2.2.2.2.2.2.2⟩ : T128)))]⟩) h (fun u80 h q81 => ?_) (fun v79 h => ?_))
 rcases if_some h with ⟨g82, h⟩ | ⟨g82, h⟩
 rcases bd_some h with ⟨v83, g84, h⟩
 refine rg [(2, hT1), (4, hC (iA v83.1) [bx (k74.a v83.2)] [0] [])] [(46, bA (v83.1 == 0))] [(0, bx (k74.a v83.2))] (a1 (oB (c := (decide (x0 > 1))) g82) (a1 (c38 g84) a0)) ?_
 obtain rfl := sm h
 exact NX.inl (by kernel_rfl)
 refine rg [(2, hF1)] [(46, bA false)] [] (a1 (oB (c := (decide (x0 > 1))) g82) a0) ?_
 obtain rfl := sm h
 exact NX.inl (by kernel_rfl)
 refine br h (fun g85 h => ?_) (fun g85 h => ?_)
 rcases bd_some h with ⟨v86, g87, h⟩
 rcases bd_some h with ⟨v88, g89, h⟩
 rcases bd_some h with ⟨v90, g91, h⟩
 refine rg [(1, hC (k53.a v86.1) [bx (k74.a v86.2)] [0] []), (3, hC (.agg [.own 1 v88.1.length, .own 2 v88.2.1.length]) [bx (k74.a v88.2.2), k53.r 54 (.node [.cell, .cell, .cell]) v88.1, k60.r 61 (.node [.cell, .cell, .cell]) v88.2.1] [0] [3000, 3001]), (7, hC (k39.a v90.1) [bx (k74.a v90.2)] [0] [])] [] [(1007, bx (.agg [iA 7, iA 0, iA 0, k53.a v86.1, .agg [.own 3000 v88.1.length, .own 3001 v88.2.1.length], k39.a v90.1, .nils (.node [.cell, .cell, .cell, .node [.cell, .cell, .cell], .node [.cell, .cell], .cell, .cell])])), (0, bx (k74.a v90.2)), (3001, k60.r 61 (.node [.cell, .cell, .cell]) v88.2.1), (3000, k53.r 54 (.node [.cell, .cell, .cell]) v88.1)] (a1 (c123 g87) (a1 (c124 g89) (a1 (i102 g91) a0))) ?_
 rcases bd_some h with ⟨v92, g93, h⟩
 refine NX.fz k53 3000 54 (.node [.cell, .cell, .cell]) v88.1 (NX.fz k60 3001 61 (.node [.cell, .cell, .cell]) v88.2.1 (rg [(2, hV (k39.a ([(⟨7, 0, 0, v86.1, (⟨v88.1, v88.2.1⟩ : T25), v90.1, []⟩ : T128)] : List T128))), (3, hW (.own 1008 v92.length) [(1008, k128.r 129 (.node [.cell, .cell, .cell, .node [.cell, .cell, .cell], .node [.cell, .cell], .cell, .cell]) v92)])] [(5, .own 1008 v92.length)] [(1008, k128.r 129 (.node [.cell, .cell, .cell, .node [.cell, .cell, .cell], .node [.cell, .cell], .cell, .cell]) v92)] (a1 (o_lit k128 ([(⟨7, 0, 0, v86.1, (⟨v88.1, v88.2.1⟩ : T25), v90.1, []⟩ : T128)] : List T128) (.node [.cell, .cell, .cell, .node [.cell, .cell, .cell], .node [.cell, .cell], .cell, .cell]) (And.intro (And.intro trivial (And.intro trivial (And.intro trivial (And.intro trivial (And.intro (And.intro (k_len' k53 v88.1) (And.intro (k_len' k60 v88.2.1) trivial)) (And.intro trivial (And.intro trivial trivial))))))) trivial)) (a1 (o_ap k128 1008 129 (.node [.cell, .cell, .cell, .node [.cell, .cell, .cell], .node [.cell, .cell], .cell, .cell]) g93 trivial) a0)) ?_))
 obtain rfl := sm h
 exact NX.blN (NX.inl (by kernel_rfl))
 refine CD.skip ?_
 rcases bd_some h with ⟨v94, g95, h⟩
 refine rg [(2, hV (k39.a ([(⟨v60.2.1, v60.2.2.1, v60.2.2.2.1, v60.2.2.2.2.1, (⟨v60.2.2.2.2.2.1, v60.2.2.2.2.2.2.1⟩ : T25), v60.2.2.2.2.2.2.2.1, v60.2.2.2.2.2.2.2.2⟩ : T128)] : List T128))), (3, hW (.own 1008 v94.length) [(1008, k128.r 129 (.node [.cell, .cell, .cell, .node [.cell, .cell, .cell], .node [.cell, .cell], .cell, .cell]) v94)])] [(5, .own 1008 v94.length)] [(1008, k128.r 129 (.node [.cell, .cell, .cell, .node [.cell, .cell, .cell], .node [.cell, .cell], .cell, .cell]) v94)] (a1 (o_lit k128 ([(⟨v60.2.1, v60.2.2.1, v60.2.2.2.1, v60.2.2.2.2.1, (⟨v60.2.2.2.2.2.1, v60.2.2.2.2.2.2.1⟩ : T25), v60.2.2.2.2.2.2.2.1, v60.2.2.2.2.2.2.2.2⟩ : T128)] : List T128) (.node [.cell, .cell, .cell, .node [.cell, .cell, .cell], .node [.cell, .cell], .cell, .cell]) ((And.intro trivial trivial))) (a1 (o_ap k128 1008 129 (.node [.cell, .cell, .cell, .node [.cell, .cell, .cell], .node [.cell, .cell], .cell, .cell]) g95 trivial) a0)) ?_
 obtain rfl := sm h
 exact NX.blN (NX.inl (by kernel_rfl))
 refine rg [] [(6, iA (sb v51.2.2 1))] [] a0 ?_
 obtain rfl := sm h
 exact NX.inl (by kernel_rfl)
 refine CD.exit ?_
 obtain rfl := sm h
 obtain rfl := q53 _ rfl
 exact NX.th (NX.lq (NX.brk (NX.inl (by kernel_rfl))))
 refine CD.seq (rg [] [(4, .own 1008 v1.1.length)] [] a0 (CD.ret ?_))
 obtain rfl := sm h
 exact NX.ret [0] (a1 (k_len' k128 v1.1) a0) (by kernel_rfl)

theorem c102n : ∀ (k0 : Nat), ∀ {x0 : Int} {x1 : T74} {r : (List T128) × T74}, f102n k0 x0 x1 = some r → FnD cx 102 [.ref 0 [], iA x0] [bx (k74.a x1)] (k39.a r.1) [bx (k74.a r.2)]
| 0 => fun h => by cases h
| k0 + 1 => fun h => c102o (c102n k0) h
theorem c102 {x0 : Int} {x1 : T74} {r : (List T128) × T74} (h : f102 x0 x1 = some r) :
 FnD cx 102 [.ref 0 [], iA x0] [bx (k74.a x1)] (k39.a r.1) [bx (k74.a r.2)] := c102n LF h

-- f85 spec.l8Program
def f85 (x0 : T74) : Option ((List T128) × T74) :=
 bd (f41 ([1, 2, 3, 1] : List Int) x0) fun v1 =>
 bd (f102 v1.1 v1.2) fun v3 =>
 bd (f64 v3.1) fun v5 =>
 if v5 = true then
 some (v3.1, v3.2)
 else
 bd (ix v3.1 0) fun v8 =>
 some (([v8] : List T128), v3.2)
theorem c85 {x0 : T74} {r : (List T128) × T74} (h : f85 x0 = some r) :
 FnD cx 85 [.ref 0 []] [bx (k74.a x0)] (k39.a r.1) [bx (k74.a r.2)] := by
 unfold f85 at h
 refine fnD_intro (fn := Tryz.f85) (by kernel_rfl) rfl (by kernel_rfl) (by kernel_rfl) fun E => ?_
 refine CD.seq (rg [] [] [] a0 (CD.seq ?_))
 rcases bd_some h with ⟨v1, g2, h⟩
 rcases bd_some h with ⟨v3, g4, h⟩
 refine rg [(3, hC (iA v1.1) [bx (k74.a v1.2)] [0] []), (4, hC (k39.a v3.1) [bx (k74.a v3.2)] [0] [])] [(3, k39.a v3.1)] [(0, bx (k74.a v3.2))] (a1 (c41 g2) (a1 (c102 g4) a0)) (CD.seq (CD.seq ?_))
 rcases bd_some h with ⟨v5, g6, h⟩
 refine rg [(1, hC (bA v5) [] [] [])] [(10, bA v5)] [] (a1 (c64 g6) a0) (br h (fun g7 h => ?_) (fun g7 h => ?_))
 refine CD.seq (rg [] [(2, k39.a v3.1)] [] a0 (CD.ret ?_))
 obtain rfl := sm h
 exact NX.ret [0] a0 (by kernel_rfl)
 refine CD.skip (CD.seq ?_)
 rcases bd_some h with ⟨v8, g9, h⟩
 refine rg [(1, hE (k128.x v8)), (3, hV (k39.a ([v8] : List T128)))] [(2, k39.a ([v8] : List T128))] [] (a1 (o_ix k128 g9) (a1 (o_lit k128 ([v8] : List T128) (.node [.cell, .cell, .cell, .node [.cell, .cell, .cell], .node [.cell, .cell], .cell, .cell]) ((And.intro trivial trivial))) a0)) (CD.ret ?_)
 obtain rfl := sm h
 exact NX.ret [0] a0 (by kernel_rfl)


-- f62 spec.l9Code
def f62 (x0 : T74) : Option ((List T128) × T74) :=
 bd (f83 ([([119, 104, 105, 108, 101, 32, 97, 33, 61, 110, 105, 108, 32, 119, 105, 116, 104, 32, 116, 114, 117, 101, 32, 124, 32, 97, 126, 110, 105, 108, 10, 99, 58, 61, 91, 97, 93, 10, 102, 114, 101, 101, 32, 97, 10, 97, 58, 61, 99, 10, 101, 110, 100, 10] : List UInt8), ([99, 58, 61, 110, 105, 108, 10, 119, 104, 105, 108, 101, 32, 97, 33, 61, 110, 105, 108, 32, 119, 105, 116, 104, 32, 116, 114, 117, 101, 32, 124, 32, 97, 126, 110, 105, 108, 32, 42, 32, 99, 126, 110, 105, 108, 10, 100, 58, 61, 91, 97, 93, 10, 91, 97, 93, 58, 61, 99, 10, 99, 58, 61, 97, 10, 97, 58, 61, 100, 10, 101, 110, 100, 10] : List UInt8), ([105, 102, 32, 97, 33, 61, 110, 105, 108, 10, 99, 58, 61, 91, 97, 93, 10, 91, 97, 93, 58, 61, 98, 10, 98, 58, 61, 97, 10, 97, 58, 61, 99, 10, 101, 110, 100, 10] : List UInt8), ([110, 101, 119, 32, 99, 10, 91, 99, 93, 58, 61, 97, 10, 97, 58, 61, 99, 10] : List UInt8), ([99, 58, 61, 97, 10, 119, 104, 105, 108, 101, 32, 99, 33, 61, 110, 105, 108, 32, 119, 105, 116, 104, 32, 116, 114, 117, 101, 32, 124, 32, 97, 126, 99, 32, 42, 32, 99, 126, 110, 105, 108, 10, 99, 58, 61, 91, 99, 93, 10, 101, 110, 100, 10] : List UInt8), ([102, 114, 101, 101, 32, 97, 10, 91, 97, 93, 58, 61, 110, 105, 108, 10] : List UInt8), ([97, 58, 61, 98, 10, 98, 58, 61, 99, 10, 110, 101, 119, 32, 100, 10, 102, 114, 101, 101, 32, 100, 10] : List UInt8)] : List (List UInt8)) x0) fun v1 =>
 bd (f60 v1.1) fun v3 =>
 if v3.2 = true then
 bd (f38 3 v1.2) fun v6 =>
 if (decide (v6.1 > 0)) = true then
 some (v3.1, v6.2)
 else
 bd (f85 v6.2) fun v9 =>
 some (v9.1, v9.2)
 else
 bd (f85 v1.2) fun v11 =>
 some (v11.1, v11.2)
theorem c62 {x0 : T74} {r : (List T128) × T74} (h : f62 x0 = some r) :
 FnD cx 62 [.ref 0 []] [bx (k74.a x0)] (k39.a r.1) [bx (k74.a r.2)] := by
 unfold f62 at h
 refine fnD_intro (fn := Tryz.f62) (by kernel_rfl) rfl (by kernel_rfl) (by kernel_rfl) fun E => ?_
 refine CD.seq (rg [] [] [] a0 (CD.seq ?_))
 rcases bd_some h with ⟨v1, g2, h⟩
 refine rg [(2, hC (sA v1.1) [bx (k74.a v1.2)] [0] [])] [(3, sA v1.1)] [(0, bx (k74.a v1.2))] (a1 (c83 g2) a0) (CD.seq ?_)
 rcases bd_some h with ⟨v3, g4, h⟩
 refine rg [(1, hC (.tup [k39.a v3.1, bA v3.2]) [] [] [])] [(4, k39.a v3.1), (5, bA v3.2)] [] (a1 (c60 g4) a0) (CD.seq (CD.seq ?_))
 rcases if_some h with ⟨g5, h⟩ | ⟨g5, h⟩
 rcases bd_some h with ⟨v6, g7, h⟩
 refine rg [(1, hT1), (3, hC (iA v6.1) [bx (k74.a v6.2)] [0] [])] [(19, bA (decide (v6.1 > 0)))] [(0, bx (k74.a v6.2))] (a1 (oB (c := v3.2) g5) (a1 (c38 g7) a0)) (br h (fun g8 h => ?_) (fun g8 h => ?_))
 refine CD.seq (rg [] [(2, k39.a v3.1)] [] a0 (CD.ret ?_))
 obtain rfl := sm h
 exact NX.ret [0] a0 (by kernel_rfl)
 refine CD.skip (CD.seq ?_)
 rcases bd_some h with ⟨v9, g10, h⟩
 refine rg [(1, hC (k39.a v9.1) [bx (k74.a v9.2)] [0] [])] [(2, k39.a v9.1)] [(0, bx (k74.a v9.2))] (a1 (c85 g10) a0) (CD.ret ?_)
 obtain rfl := sm h
 exact NX.ret [0] a0 (by kernel_rfl)
 refine rg [(1, hF1)] [(19, bA false)] [] (a1 (oB (c := v3.2) g5) a0) (CD.condF (b := false) (by kernel_rfl) rfl (CD.skip (CD.seq ?_)))
 rcases bd_some h with ⟨v11, g12, h⟩
 refine rg [(1, hC (k39.a v11.1) [bx (k74.a v11.2)] [0] [])] [(2, k39.a v11.1)] [(0, bx (k74.a v11.2))] (a1 (c85 g12) a0) (CD.ret ?_)
 obtain rfl := sm h
 exact NX.ret [0] a0 (by kernel_rfl)


-- f27 spec.l3Star
def f27 (x0 : T25) (x1 : T25) : Option ((List T53) × (List T60)) :=
 bd (ap 24 ([] : List T53) x0.f0) fun v1 =>
 bd (ap 24 v1 x1.f0) fun v3 =>
 bd (ap 24 ([] : List T60) x0.f1) fun v5 =>
 bd (ap 24 v5 x1.f1) fun v7 =>
 some (v3, v7)
theorem c27 {x0 : T25} {x1 : T25} {r : (List T53) × (List T60)} (h : f27 x0 x1 = some r) :
 FnD cx 27 [k25.a x0, k25.a x1] [] (.agg [.own 0 r.1.length, .own 1 r.2.length]) [k53.r 54 (.node [.cell, .cell, .cell]) r.1, k60.r 61 (.node [.cell, .cell, .cell]) r.2] := by
 unfold f27 at h
 refine fnD_intro (fn := Tryz.f27) (by kernel_rfl) rfl (by kernel_rfl) (by kernel_rfl) fun E => ?_
 refine CD.seq (rg [] [(2, .ref 1002 []), (3, .ref 1003 []), (4, .ref 1004 [])] [(1004, bx (.agg [.nils (.node [.cell, .cell, .cell]), .nils (.node [.cell, .cell, .cell])])), (1003, bx (k25.a x1)), (1002, bx (k25.a x0))] a0 (CD.seq ?_))
 rcases bd_some h with ⟨v1, g2, h⟩
 rcases bd_some h with ⟨v3, g4, h⟩
 rcases bd_some h with ⟨v5, g6, h⟩
 rcases bd_some h with ⟨v7, g8, h⟩
 refine rg [(0, hO), (1, hD [1002]), (2, hD [1002]), (3, (hW (.own 1005 v1.length) [(1005, k53.r 54 (.node [.cell, .cell, .cell]) v1)]).g [1005]), (4, hD [1003]), (5, hD [1003]), (6, (hW (.own 1005 v3.length) [(1005, k53.r 54 (.node [.cell, .cell, .cell]) v3)]).g [1005]), (7, hO), (8, hD [1002]), (9, hD [1002]), (10, (hW (.own 1012 v5.length) [(1012, k60.r 61 (.node [.cell, .cell, .cell]) v5)]).g [1012]), (11, hD [1003]), (12, hD [1003]), (13, (hW (.own 1012 v7.length) [(1012, k60.r 61 (.node [.cell, .cell, .cell]) v7)]).g [1012]), (15, hD [1004])] [] [(1004, bx (.agg [.own 1005 v3.length, .own 1012 v7.length])), (1012, k60.r 61 (.node [.cell, .cell, .cell]) v7), (1005, k53.r 54 (.node [.cell, .cell, .cell]) v3)] (a1 (o_ap k53 1005 54 (.node [.cell, .cell, .cell]) g2 trivial) (a1 (o_ap k53 1005 54 (.node [.cell, .cell, .cell]) g4 trivial) (a1 (o_ap k60 1012 61 (.node [.cell, .cell, .cell]) g6 trivial) (a1 (o_ap k60 1012 61 (.node [.cell, .cell, .cell]) g8 trivial) a0)))) (CD.ret ?_)
 obtain rfl := sm h
 exact NX.ret [1005, 1012] a0 (by kernel_rfl)

theorem c27d {x0 : T25} {x1 : T25} {r : (List T53) × (List T60)} (h : f27 x0 x1 = some r) :
 FnD cx 27 [k25.a x0, k25.a x1] [] (k25.a (⟨r.1, r.2⟩ : T25)) [] :=
 FnD.data (xs := [.agg [.own 0 r.1.length, .own 1 r.2.length]]) (ys := [k25.a (⟨r.1, r.2⟩ : T25)]) (p := True) (q := (((r.1.length = (k53.m r.1).length) ∧ ((r.2.length = (k60.m r.2).length) ∧ True)) ∧ True)) (c27 h) [] (by kernel_rfl) (by kernel_rfl) a0 (by kernel_rfl) (a1 (k_len' k53 r.1) (a1 (k_len' k60 r.2) a0))


-- f39 spec.l3Copy
def f39 (x0 : T25) : Option ((List T53) × (List T60)) :=
 bd (f27 x0 (⟨[], []⟩ : T25)) fun v1 =>
 some (v1.1, v1.2)
theorem c39 {x0 : T25} {r : (List T53) × (List T60)} (h : f39 x0 = some r) :
 FnD cx 39 [k25.a x0] [] (.agg [.own 0 r.1.length, .own 1 r.2.length]) [k53.r 54 (.node [.cell, .cell, .cell]) r.1, k60.r 61 (.node [.cell, .cell, .cell]) r.2] := by
 unfold f39 at h
 refine fnD_intro (fn := Tryz.f39) (by kernel_rfl) rfl (by kernel_rfl) (by kernel_rfl) fun E => ?_
 refine CD.seq (rg [] [(1, .ref 1001 []), (2, .ref 1002 [])] [(1002, bx (.agg [.nils (.node [.cell, .cell, .cell]), .nils (.node [.cell, .cell, .cell])])), (1001, bx (k25.a x0))] a0 (CD.seq ?_))
 rcases bd_some h with ⟨v1, g2, h⟩
 refine rg [(2, hC (.agg [.own 0 v1.1.length, .own 1 v1.2.length]) [k53.r 54 (.node [.cell, .cell, .cell]) v1.1, k60.r 61 (.node [.cell, .cell, .cell]) v1.2] [] [2100, 2101])] [] [(1002, bx (.agg [.own 2100 v1.1.length, .own 2101 v1.2.length])), (2101, k60.r 61 (.node [.cell, .cell, .cell]) v1.2), (2100, k53.r 54 (.node [.cell, .cell, .cell]) v1.1)] (a1 (c27 g2) a0) (CD.ret ?_)
 obtain rfl := sm h
 exact NX.ret [2100, 2101] a0 (by kernel_rfl)

theorem c39d {x0 : T25} {r : (List T53) × (List T60)} (h : f39 x0 = some r) :
 FnD cx 39 [k25.a x0] [] (k25.a (⟨r.1, r.2⟩ : T25)) [] :=
 FnD.data (xs := [.agg [.own 0 r.1.length, .own 1 r.2.length]]) (ys := [k25.a (⟨r.1, r.2⟩ : T25)]) (p := True) (q := (((r.1.length = (k53.m r.1).length) ∧ ((r.2.length = (k60.m r.2).length) ∧ True)) ∧ True)) (c39 h) [] (by kernel_rfl) (by kernel_rfl) a0 (by kernel_rfl) (a1 (k_len' k53 r.1) (a1 (k_len' k60 r.2) a0))


-- f106 spec.l5Fits
def f106 (x0 : (List T53)) (x1 : (List Int)) : Option (Bool) :=
 jn (
 iter (fun (v24 : Int) =>
 if (decide (v24 < (ln x0))) = true then
 jn (
 bd (ix x0 v24) fun v31 =>
 bd (ix x1 v31.f1) fun v33 =>
 bd (ix x0 v24) fun v35 =>
 bd (ix x1 v35.f2) fun v37 =>
 if (decide (v33 ≥ 0)) = true then
 if (decide (v37 ≥ 0)) = true then
 bd (ix x0 v24) fun v41 =>
 if (!((v33 == v37) == v41.f0)) = true then
 some (.inr (.inr (.inr false)))
 else
 some (.inl ())
 else
 some (.inl ())
 else
 some (.inl ())) fun (v28 : Unit) =>
 some (.inl (ad v24 1))
 else
 some (.inr (.inl ()))) 0) fun (v1 : Unit) =>
 some true
theorem c106 {x0 : (List T53)} {x1 : (List Int)} {r : Bool} (h : f106 x0 x1 = some r) :
 FnD cx 106 [k23.a x0, k27.a x1] [] (bA r) [] := by
 unfold f106 at h
 refine fnD_intro (fn := Tryz.f106) (by kernel_rfl) rfl (by kernel_rfl) (by kernel_rfl) fun E => ?_
 refine CD.seq (rg [] [] [] a0 (CD.join (fun (v1 : Unit) => ⟨[], []⟩) h (fun u2 h q3 => ?_) (fun v1 h => ?_)))
 refine CD.seq (rg [] [(5, iA 0)] [] a0 (CD.block (CD.loopK (fun (v24 : Int) => ⟨[(0, k23.a x0), (1, k27.a x1), (5, iA v24)], []⟩) h (by kernel_rfl) (fun v24 u25 h q26 => ?_))))
 refine CD.seq (CD.seq (rg [(2, hV (iA (ln x0)))] [(11, bA (decide (v24 < (ln x0))))] [] (a1 (o_ln k53 x0) a0) (br h (fun g27 h => ?_) (fun g27 h => ?_))))
 refine CD.skip (CD.join (fun (v28 : Unit) => ⟨[(0, k23.a x0), (1, k27.a x1), (5, iA v24)], []⟩) h (fun u29 h q30 => ?_) (fun v28 h => ?_))
 refine CD.block (CD.seq ?_)
 rcases bd_some h with ⟨v31, g32, h⟩
 rcases bd_some h with ⟨v33, g34, h⟩
 refine rg [(3, hE (k53.x v31)), (6, hE (.int .i64 v33))] [(6, iA v33)] [] (a1 (o_ix k53 g32) (a1 (o_ix k3 g34) a0)) (CD.seq ?_)
 rcases bd_some h with ⟨v35, g36, h⟩
 rcases bd_some h with ⟨v37, g38, h⟩
 refine rg [(3, hE (k53.x v35)), (6, hE (.int .i64 v37))] [(7, iA v37)] [] (a1 (o_ix k53 g36) (a1 (o_ix k3 g38) a0)) (CD.seq ?_)
 rcases if_some h with ⟨g39, h⟩ | ⟨g39, h⟩
 rcases if_some h with ⟨g40, h⟩ | ⟨g40, h⟩
 rcases bd_some h with ⟨v41, g42, h⟩
 refine rg [(2, hT1), (6, hT1), (12, hE (k53.x v41))] [(46, bA (!((v33 == v37) == v41.f0)))] [] (a1 (oB (c := (decide (v33 ≥ 0))) g39) (a1 (oB (c := (decide (v37 ≥ 0))) g40) (a1 (o_ix k53 g42) a0))) (br h (fun g43 h => ?_) (fun g43 h => ?_))
 refine CD.seq (rg [] [(4, bA false)] [] a0 (CD.ret ?_))
 obtain rfl := sm h
 obtain rfl := q30 _ rfl
 obtain rfl := q26 _ rfl
 obtain rfl := q3 _ rfl
 exact NX.ret [] a0 (by kernel_rfl)
 refine CD.skip ?_
 obtain rfl := sm h
 exact NX.blN (NX.inl (by kernel_rfl))
 refine rg [(2, hT1), (6, hF1)] [(46, bA false)] [] (a1 (oB (c := (decide (v33 ≥ 0))) g39) (a1 (oB (c := (decide (v37 ≥ 0))) g40) a0)) (CD.condF (b := false) (by kernel_rfl) rfl (CD.skip ?_))
 obtain rfl := sm h
 exact NX.blN (NX.inl (by kernel_rfl))
 refine rg [(2, hF1)] [(46, bA false)] [] (a1 (oB (c := (decide (v33 ≥ 0))) g39) a0) (CD.condF (b := false) (by kernel_rfl) rfl (CD.skip ?_))
 obtain rfl := sm h
 exact NX.blN (NX.inl (by kernel_rfl))
 refine rg [] [(5, iA (ad v24 1))] [] a0 ?_
 obtain rfl := sm h
 exact NX.inl (by kernel_rfl)
 refine CD.exit ?_
 obtain rfl := sm h
 obtain rfl := q26 _ rfl
 exact NX.th (NX.lq (NX.brk (NX.inl (by kernel_rfl))))
 refine CD.seq (rg [] [(4, bA true)] [] a0 (CD.ret ?_))
 obtain rfl := sm h
 exact NX.ret [] a0 (by kernel_rfl)


-- f107 spec.l5Early
def f107 (x0 : (List T60)) (x1 : (List Int)) : Option (Bool) :=
 bd (mk 1 (false : Bool) 9 9) fun v1 =>
 jn (
 iter (fun (v32 : (List Bool) × Int) =>
 if (decide (v32.2 < (ln x0))) = true then
 jn (
 bd (ix x0 v32.2) fun v39 =>
 bd (ix x1 v39.f1) fun v41 =>
 jn (
 bd (ix x0 v32.2) fun v46 =>
 if (v46.f0 != 1) = true then
 some (.inr (.inl v32.1))
 else
 if (decide (v41 < 0)) = true then
 some (.inr (.inl v32.1))
 else
 some (.inl ())) fun (v43 : Unit) =>
 if (v41 == 0) = true then
 some (.inr (.inr (.inr false)))
 else
 bd (ix v32.1 v41) fun v51 =>
 if v51 = true then
 some (.inr (.inr (.inr false)))
 else
 bd (ix v32.1 v41) fun v54 =>
 bd (st v32.1 v41 true) fun v56 =>
 some (.inl v56)) fun (v36 : (List Bool)) =>
 some (.inl (v36, ad v32.2 1))
 else
 some (.inr (.inl ()))) (v1, 0)) fun (v3 : Unit) =>
 some true
theorem c107 {x0 : (List T60)} {x1 : (List Int)} {r : Bool} (h : f107 x0 x1 = some r) :
 FnD cx 107 [k24.a x0, k27.a x1] [] (bA r) [] := by
 unfold f107 at h
 refine fnD_intro (fn := Tryz.f107) (by kernel_rfl) rfl (by kernel_rfl) (by kernel_rfl) fun E => ?_
 refine CD.seq (rg [] [] [] a0 (CD.seq ?_))
 rcases bd_some h with ⟨v1, g2, h⟩
 refine rg [(0, hW (.own 1008 v1.length) [(1008, k4.r 4 .cell v1)])] [(5, .own 1008 v1.length)] [(1008, k4.r 4 .cell v1)] (a1 (o_mk k4 1008 4 .cell g2 trivial) a0) (CD.join (fun (v3 : Unit) => ⟨[], []⟩) h (fun u4 h q5 => ?_) (fun v3 h => ?_))
 refine CD.seq (rg [] [(6, iA 0)] [] a0 (CD.block (CD.loopK (fun (v32 : (List Bool) × Int) => ⟨[(0, k24.a x0), (1, k27.a x1), (5, .own 1008 v32.1.length), (6, iA v32.2)], [(1008, k4.r 4 .cell v32.1)]⟩) h (by kernel_rfl) (fun v32 u33 h q34 => ?_))))
 refine CD.seq (CD.seq (rg [(2, hV (iA (ln x0)))] [(12, bA (decide (v32.2 < (ln x0))))] [] (a1 (o_ln k60 x0) a0) (br h (fun g35 h => ?_) (fun g35 h => ?_))))
 refine CD.skip (CD.join (fun (v36 : (List Bool)) => ⟨[(0, k24.a x0), (1, k27.a x1), (5, .own 1008 v36.length), (6, iA v32.2)], [(1008, k4.r 4 .cell v36)]⟩) h (fun u37 h q38 => ?_) (fun v36 h => ?_))
 refine CD.block (CD.seq ?_)
 rcases bd_some h with ⟨v39, g40, h⟩
 rcases bd_some h with ⟨v41, g42, h⟩
 refine rg [(3, hE (k60.x v39)), (6, hE (.int .i64 v41))] [(7, iA v41)] [] (a1 (o_ix k60 g40) (a1 (o_ix k3 g42) a0)) (CD.join (fun (v43 : Unit) => ⟨[(0, k24.a x0), (1, k27.a x1), (5, .own 1008 v32.1.length), (6, iA v32.2), (7, iA v41)], [(1008, k4.r 4 .cell v32.1)]⟩) h (fun u44 h q45 => ?_) (fun v43 h => ?_))
 refine CD.seq ?_
 rcases bd_some h with ⟨v46, g47, h⟩
 rcases if_some h with ⟨g48, h⟩ | ⟨g48, h⟩
 refine rg [(2, hE (k60.x v46)), (6, hT1)] [(32, bA true)] [] (a1 (o_ix k60 g47) (a1 (oB (c := (v46.f0 != 1)) g48) a0)) (CD.condT (b := true) (by kernel_rfl) rfl (CD.exit ?_))
 obtain rfl := sm h
 obtain rfl := q45 _ rfl
 exact NX.lq (NX.brk (NX.inl (by kernel_rfl)))
 refine rg [(2, hE (k60.x v46)), (6, hF1)] [(32, bA (decide (v41 < 0)))] [] (a1 (o_ix k60 g47) (a1 (oB (c := (v46.f0 != 1)) g48) a0)) (br h (fun g49 h => ?_) (fun g49 h => ?_))
 refine CD.exit ?_
 obtain rfl := sm h
 obtain rfl := q45 _ rfl
 exact NX.lq (NX.brk (NX.inl (by kernel_rfl)))
 refine CD.skip ?_
 obtain rfl := sm h
 exact NX.inl (by kernel_rfl)
 refine CD.seq (CD.seq ?_)
 rcases if_some h with ⟨g50, h⟩ | ⟨g50, h⟩
 refine rg [(2, hT1)] [(40, bA true)] [] (a1 (oB (c := (v41 == 0)) g50) a0) (CD.condT (b := true) (by kernel_rfl) rfl (CD.seq (rg [] [(4, bA false)] [] a0 (CD.ret ?_))))
 obtain rfl := sm h
 obtain rfl := q38 _ rfl
 obtain rfl := q34 _ rfl
 obtain rfl := q5 _ rfl
 exact NX.ret [] a0 (by kernel_rfl)
 rcases bd_some h with ⟨v51, g52, h⟩
 refine rg [(2, hF1), (6, hE (.bool v51))] [(40, bA v51)] [] (a1 (oB (c := (v41 == 0)) g50) (a1 (o_ixr k4 g52) (a1 (o_ldr k4 g52) a0))) (br h (fun g53 h => ?_) (fun g53 h => ?_))
 refine CD.seq (rg [] [(4, bA false)] [] a0 (CD.ret ?_))
 obtain rfl := sm h
 obtain rfl := q38 _ rfl
 obtain rfl := q34 _ rfl
 obtain rfl := q5 _ rfl
 exact NX.ret [] a0 (by kernel_rfl)
 refine CD.skip ?_
 rcases bd_some h with ⟨v54, g55, h⟩
 rcases bd_some h with ⟨v56, g57, h⟩
 refine rg [(3, hF (.bool v54) [(1008, k4.r 4 .cell v56)])] [] [(1008, k4.r 4 .cell v56)] (a1 (o_ixr k4 g55) (a1 (o_st k4 (y' := true) 1008 4 .cell g55 g57 (k_len' k4 v32.1)) a0)) ?_
 rw [st_len g57]
 obtain rfl := sm h
 exact NX.blN (NX.inl (by kernel_rfl))
 refine rg [] [(6, iA (ad v32.2 1))] [] a0 ?_
 obtain rfl := sm h
 exact NX.inl (by kernel_rfl)
 refine CD.exit ?_
 obtain rfl := sm h
 obtain rfl := q34 _ rfl
 exact NX.th (NX.lq (NX.brk (NX.inl (by kernel_rfl))))
 refine CD.seq (rg [] [(4, bA true)] [] a0 (CD.ret ?_))
 obtain rfl := sm h
 exact NX.ret [] a0 (by kernel_rfl)


-- f108 spec.l5Apart
def f108 (x0 : (List T60)) : Option (Bool) :=
 jn (
 iter (fun (v32 : Int) =>
 if (decide (v32 < (ln x0))) = true then
 jn (
 bd (ix x0 v32) fun v39 =>
 if (v39.f1 == 0) = true then
 some (.inr (.inr (.inr false)))
 else
 iter (fun (v51 : Int) =>
 if (decide (v51 < v32)) = true then
 bd (ix x0 v51) fun v55 =>
 bd (ix x0 v32) fun v57 =>
 if (v55.f1 == v57.f1) = true then
 some (.inr (.inr (.inr (.inr false))))
 else
 some (.inl (ad v51 1))
 else
 some (.inr (.inl ()))) 0) fun (v36 : Unit) =>
 some (.inl (ad v32 1))
 else
 some (.inr (.inl ()))) 0) fun (v1 : Unit) =>
 some true
theorem c108 {x0 : (List T60)} {r : Bool} (h : f108 x0 = some r) :
 FnD cx 108 [k24.a x0] [] (bA r) [] := by
 unfold f108 at h
 refine fnD_intro (fn := Tryz.f108) (by kernel_rfl) rfl (by kernel_rfl) (by kernel_rfl) fun E => ?_
 refine CD.seq (rg [] [] [] a0 (CD.join (fun (v1 : Unit) => ⟨[], []⟩) h (fun u2 h q3 => ?_) (fun v1 h => ?_)))
 refine CD.seq (rg [] [(3, iA 0)] [] a0 (CD.block (CD.loopK (fun (v32 : Int) => ⟨[(0, k24.a x0), (3, iA v32)], []⟩) h (by kernel_rfl) (fun v32 u33 h q34 => ?_))))
 refine CD.seq (CD.seq (rg [(2, hV (iA (ln x0)))] [(8, bA (decide (v32 < (ln x0))))] [] (a1 (o_ln k60 x0) a0) (br h (fun g35 h => ?_) (fun g35 h => ?_))))
 refine CD.skip (CD.join (fun (v36 : Unit) => ⟨[(0, k24.a x0), (3, iA v32)], []⟩) h (fun u37 h q38 => ?_) (fun v36 h => ?_))
 refine CD.block (CD.seq (CD.seq ?_))
 rcases bd_some h with ⟨v39, g40, h⟩
 refine rg [(2, hE (k60.x v39))] [(16, bA (v39.f1 == 0))] [] (a1 (o_ix k60 g40) a0) (br h (fun g41 h => ?_) (fun g41 h => ?_))
 refine CD.seq (rg [] [(2, bA false)] [] a0 (CD.ret ?_))
 obtain rfl := sm h
 obtain rfl := q38 _ rfl
 obtain rfl := q34 _ rfl
 obtain rfl := q3 _ rfl
 exact NX.ret [] a0 (by kernel_rfl)
 refine CD.skip (CD.seq (rg [] [(4, iA 0)] [] a0 (CD.block (CD.loopK (fun (v51 : Int) => ⟨[(0, k24.a x0), (3, iA v32), (4, iA v51)], []⟩) h (by kernel_rfl) (fun v51 u52 h q53 => ?_)))))
 refine CD.seq (CD.seq (rg [] [(19, bA (decide (v51 < v32)))] [] a0 (br h (fun g54 h => ?_) (fun g54 h => ?_))))
 refine CD.skip (CD.seq (CD.block (CD.seq ?_)))
 rcases bd_some h with ⟨v55, g56, h⟩
 rcases bd_some h with ⟨v57, g58, h⟩
 refine rg [(2, hE (k60.x v55)), (7, hE (k60.x v57))] [(32, bA (v55.f1 == v57.f1))] [] (a1 (o_ix k60 g56) (a1 (o_ix k60 g58) a0)) (br h (fun g59 h => ?_) (fun g59 h => ?_))
 refine CD.seq (rg [] [(2, bA false)] [] a0 (CD.ret ?_))
 obtain rfl := sm h
 obtain rfl := q53 _ rfl
 obtain rfl := q38 _ rfl
 obtain rfl := q34 _ rfl
 obtain rfl := q3 _ rfl
 exact NX.ret [] a0 (by kernel_rfl)
 refine CD.skip (NX.blN (rg [] [(4, iA (ad v51 1))] [] a0 ?_))
 obtain rfl := sm h
 exact NX.inl (by kernel_rfl)
 refine CD.exit ?_
 obtain rfl := sm h
 obtain rfl := q53 _ rfl
 exact NX.th (NX.lq (NX.brk (NX.blN (NX.inl (by kernel_rfl)))))
 refine rg [] [(3, iA (ad v32 1))] [] a0 ?_
 obtain rfl := sm h
 exact NX.inl (by kernel_rfl)
 refine CD.exit ?_
 obtain rfl := sm h
 obtain rfl := q34 _ rfl
 exact NX.th (NX.lq (NX.brk (NX.inl (by kernel_rfl))))
 refine CD.seq (rg [] [(2, bA true)] [] a0 (CD.ret ?_))
 obtain rfl := sm h
 exact NX.ret [] a0 (by kernel_rfl)


-- f109 spec.l5Filled
def f109 (x0 : (List T60)) (x1 : (List Int)) : Option ((List T60)) :=
 jn (
 iter (fun (v27 : (List T60) × Int) =>
 if (decide (v27.2 < (ln x0))) = true then
 jn (
 bd (ix x0 v27.2) fun v34 =>
 bd (ix x0 v27.2) fun v36 =>
 bd (ix x1 v36.f1) fun v38 =>
 bd (ix x0 v27.2) fun v40 =>
 bd (ix x1 v40.f2) fun v42 =>
 if (v34.f0 == 1) = true then
 bd (ap 24 v27.1 ([(⟨v34.f0, v38, v42⟩ : T60)] : List T60)) fun v45 =>
 some (.inl v45)
 else
 if (v38 != v42) = true then
 bd (ap 24 v27.1 ([(⟨v34.f0, v38, v42⟩ : T60)] : List T60)) fun v48 =>
 some (.inl v48)
 else
 some (.inl v27.1)) fun (v31 : (List T60)) =>
 some (.inl (v31, ad v27.2 1))
 else
 some (.inr (.inl v27.1))) (([] : List T60), 0)) fun (v1 : (List T60)) =>
 some v1
theorem c109 {x0 : (List T60)} {x1 : (List Int)} {r : (List T60)} (h : f109 x0 x1 = some r) :
 FnD cx 109 [k24.a x0, k27.a x1] [] (.own 0 r.length) [k60.r 61 (.node [.cell, .cell, .cell]) r] := by
 unfold f109 at h
 refine fnD_intro (fn := Tryz.f109) (by kernel_rfl) rfl (by kernel_rfl) (by kernel_rfl) fun E => ?_
 refine CD.seq (rg [] [] [] a0 (CD.seq (rg [(0, hO)] [(5, .own 1008 (([] : List T60).length))] [(1008, k60.r 61 (.node [.cell, .cell, .cell]) ([] : List T60))] a0 (CD.join (fun (v1 : (List T60)) => ⟨[(5, .own 1008 v1.length)], [(1008, k60.r 61 (.node [.cell, .cell, .cell]) v1)]⟩) h (fun u2 h q3 => ?_) (fun v1 h => ?_)))))
 refine CD.seq (rg [] [(6, iA 0)] [] a0 (CD.block (CD.loopK (fun (v27 : (List T60) × Int) => ⟨[(0, k24.a x0), (1, k27.a x1), (5, .own 1008 v27.1.length), (6, iA v27.2)], [(1008, k60.r 61 (.node [.cell, .cell, .cell]) v27.1)]⟩) h (by kernel_rfl) (fun v27 u28 h q29 => ?_))))
 refine CD.seq (CD.seq (rg [(2, hV (iA (ln x0)))] [(12, bA (decide (v27.2 < (ln x0))))] [] (a1 (o_ln k60 x0) a0) (br h (fun g30 h => ?_) (fun g30 h => ?_))))
 refine CD.skip (CD.join (fun (v31 : (List T60)) => ⟨[(0, k24.a x0), (1, k27.a x1), (5, .own 1008 v31.length), (6, iA v27.2)], [(1008, k60.r 61 (.node [.cell, .cell, .cell]) v31)]⟩) h (fun u32 h q33 => ?_) (fun v31 h => ?_))
 refine CD.block (CD.seq ?_)
 rcases bd_some h with ⟨v34, g35, h⟩
 rcases bd_some h with ⟨v36, g37, h⟩
 rcases bd_some h with ⟨v38, g39, h⟩
 rcases bd_some h with ⟨v40, g41, h⟩
 rcases bd_some h with ⟨v42, g43, h⟩
 refine rg [(2, hE (k60.x v34)), (8, hE (k60.x v36)), (11, hE (.int .i64 v38)), (16, hE (k60.x v40)), (19, hE (.int .i64 v42)), (23, hD [1007])] [(7, .ref 1007 [])] [(1007, bx (k60.a (⟨v34.f0, v38, v42⟩ : T60)))] (a1 (o_ix k60 g35) (a1 (o_ix k60 g37) (a1 (o_ix k3 g39) (a1 (o_ix k60 g41) (a1 (o_ix k3 g43) a0))))) (CD.seq ?_)
 rcases if_some h with ⟨g44, h⟩ | ⟨g44, h⟩
 refine rg [(3, hT1)] [(46, bA true)] [] (a1 (oB (c := (v34.f0 == 1)) g44) a0) (CD.condT (b := true) (by kernel_rfl) rfl ?_)
 rcases bd_some h with ⟨v45, g46, h⟩
 refine rg [(3, hW (.own 1008 v45.length) [(1008, k60.r 61 (.node [.cell, .cell, .cell]) v45)])] [(5, .own 1008 v45.length)] [(1008, k60.r 61 (.node [.cell, .cell, .cell]) v45)] (a1 (o_ap k60 1008 61 (.node [.cell, .cell, .cell]) g46 trivial) a0) ?_
 obtain rfl := sm h
 exact NX.blN (NX.inl (by kernel_rfl))
 refine rg [(3, hF1)] [(46, bA (v38 != v42))] [] (a1 (oB (c := (v34.f0 == 1)) g44) a0) (br h (fun g47 h => ?_) (fun g47 h => ?_))
 rcases bd_some h with ⟨v48, g49, h⟩
 refine rg [(3, hW (.own 1008 v48.length) [(1008, k60.r 61 (.node [.cell, .cell, .cell]) v48)])] [(5, .own 1008 v48.length)] [(1008, k60.r 61 (.node [.cell, .cell, .cell]) v48)] (a1 (o_ap k60 1008 61 (.node [.cell, .cell, .cell]) g49 trivial) a0) ?_
 obtain rfl := sm h
 exact NX.blN (NX.inl (by kernel_rfl))
 refine CD.skip ?_
 obtain rfl := sm h
 exact NX.blN (NX.inl (by kernel_rfl))
 refine rg [] [(6, iA (ad v27.2 1))] [] a0 ?_
 obtain rfl := sm h
 exact NX.inl (by kernel_rfl)
 refine CD.exit ?_
 obtain rfl := sm h
 obtain rfl := q29 _ rfl
 exact NX.th (NX.lq (NX.brk (NX.inl (by kernel_rfl))))
 refine CD.seq (rg [] [(4, .own 1008 v1.length)] [] a0 (CD.ret ?_))
 obtain rfl := sm h
 exact NX.ret [1008] a0 (by kernel_rfl)

theorem c109d {x0 : (List T60)} {x1 : (List Int)} {r : (List T60)} (h : f109 x0 x1 = some r) :
 FnD cx 109 [k24.a x0, k27.a x1] [] (k24.a r) [] :=
 FnD.data (xs := [.own 0 r.length]) (ys := [k24.a r]) (p := True) (q := ((r.length = (k60.m r).length) ∧ True)) (c109 h) [] (by kernel_rfl) (by kernel_rfl) a0 (by kernel_rfl) (a1 (k_len' k60 r) a0)


-- f130 spec.l6Find
def f130 (x0 : (List T60)) (x1 : (List Bool)) (x2 : Int) : Option (Int) :=
 jn (
 iter (fun (v14 : Int) =>
 if (decide (v14 < (ln x0))) = true then
 bd (ix x1 v14) fun v18 =>
 if (!v18) = true then
 bd (ix x0 v14) fun v21 =>
 if (v21.f1 == x2) = true then
 some (.inr (.inr v14))
 else
 some (.inl (ad v14 1))
 else
 some (.inl (ad v14 1))
 else
 some (.inr (.inl ()))) 0) fun (v1 : Unit) =>
 some (-1)
theorem c130 {x0 : (List T60)} {x1 : (List Bool)} {x2 : Int} {r : Int} (h : f130 x0 x1 x2 = some r) :
 FnD cx 130 [k24.a x0, k62.a x1, iA x2] [] (iA r) [] := by
 unfold f130 at h
 refine fnD_intro (fn := Tryz.f130) (by kernel_rfl) rfl (by kernel_rfl) (by kernel_rfl) fun E => ?_
 refine CD.seq (rg [] [] [] a0 (CD.join (fun (v1 : Unit) => ⟨[], []⟩) h (fun u2 h q3 => ?_) (fun v1 h => ?_)))
 refine CD.seq (rg [] [(7, iA 0)] [] a0 (CD.block (CD.loopK (fun (v14 : Int) => ⟨[(0, k24.a x0), (1, k62.a x1), (2, iA x2), (7, iA v14)], []⟩) h (by kernel_rfl) (fun v14 u15 h q16 => ?_))))
 refine CD.seq (CD.seq (rg [(2, hV (iA (ln x0)))] [(11, bA (decide (v14 < (ln x0))))] [] (a1 (o_ln k60 x0) a0) (br h (fun g17 h => ?_) (fun g17 h => ?_))))
 refine CD.skip (CD.seq (CD.block (CD.seq ?_)))
 rcases bd_some h with ⟨v18, g19, h⟩
 rcases if_some h with ⟨g20, h⟩ | ⟨g20, h⟩
 rcases bd_some h with ⟨v21, g22, h⟩
 refine rg [(2, hE (.bool v18)), (5, hT1), (8, hE (k60.x v21))] [(27, bA (v21.f1 == x2))] [] (a1 (o_ix k4 g19) (a1 (oB (c := (!v18)) g20) (a1 (o_ix k60 g22) a0))) (br h (fun g23 h => ?_) (fun g23 h => ?_))
 refine CD.seq (rg [] [(6, iA v14)] [] a0 (CD.ret ?_))
 obtain rfl := sm h
 obtain rfl := q16 _ rfl
 obtain rfl := q3 _ rfl
 exact NX.ret [] a0 (by kernel_rfl)
 refine CD.skip (NX.blN (rg [] [(7, iA (ad v14 1))] [] a0 ?_))
 obtain rfl := sm h
 exact NX.inl (by kernel_rfl)
 refine rg [(2, hE (.bool v18)), (5, hF1)] [(27, bA false)] [] (a1 (o_ix k4 g19) (a1 (oB (c := (!v18)) g20) a0)) (CD.condF (b := false) (by kernel_rfl) rfl (CD.skip (NX.blN (rg [] [(7, iA (ad v14 1))] [] a0 ?_))))
 obtain rfl := sm h
 exact NX.inl (by kernel_rfl)
 refine CD.exit ?_
 obtain rfl := sm h
 obtain rfl := q16 _ rfl
 exact NX.th (NX.lq (NX.brk (NX.inl (by kernel_rfl))))
 refine CD.seq (rg [] [(6, iA (-1))] [] a0 (CD.ret ?_))
 obtain rfl := sm h
 exact NX.ret [] a0 (by kernel_rfl)


-- f131 spec.l5Begins
def f131 (x0 : (List T60)) (x1 : Int) : Option (Bool) :=
 jn (
 iter (fun (v11 : Int) =>
 if (decide (v11 < (ln x0))) = true then
 bd (ix x0 v11) fun v15 =>
 if (v15.f1 == x1) = true then
 some (.inr (.inr true))
 else
 some (.inl (ad v11 1))
 else
 some (.inr (.inl ()))) 0) fun (v1 : Unit) =>
 some false
theorem c131 {x0 : (List T60)} {x1 : Int} {r : Bool} (h : f131 x0 x1 = some r) :
 FnD cx 131 [k24.a x0, iA x1] [] (bA r) [] := by
 unfold f131 at h
 refine fnD_intro (fn := Tryz.f131) (by kernel_rfl) rfl (by kernel_rfl) (by kernel_rfl) fun E => ?_
 refine CD.seq (rg [] [] [] a0 (CD.join (fun (v1 : Unit) => ⟨[], []⟩) h (fun u2 h q3 => ?_) (fun v1 h => ?_)))
 refine CD.seq (rg [] [(5, iA 0)] [] a0 (CD.block (CD.loopK (fun (v11 : Int) => ⟨[(0, k24.a x0), (1, iA x1), (5, iA v11)], []⟩) h (by kernel_rfl) (fun v11 u12 h q13 => ?_))))
 refine CD.seq (CD.seq (rg [(2, hV (iA (ln x0)))] [(9, bA (decide (v11 < (ln x0))))] [] (a1 (o_ln k60 x0) a0) (br h (fun g14 h => ?_) (fun g14 h => ?_))))
 refine CD.skip (CD.seq (CD.block (CD.seq ?_)))
 rcases bd_some h with ⟨v15, g16, h⟩
 refine rg [(2, hE (k60.x v15))] [(18, bA (v15.f1 == x1))] [] (a1 (o_ix k60 g16) a0) (br h (fun g17 h => ?_) (fun g17 h => ?_))
 refine CD.seq (rg [] [(4, bA true)] [] a0 (CD.ret ?_))
 obtain rfl := sm h
 obtain rfl := q13 _ rfl
 obtain rfl := q3 _ rfl
 exact NX.ret [] a0 (by kernel_rfl)
 refine CD.skip (NX.blN (rg [] [(5, iA (ad v11 1))] [] a0 ?_))
 obtain rfl := sm h
 exact NX.inl (by kernel_rfl)
 refine CD.exit ?_
 obtain rfl := sm h
 obtain rfl := q13 _ rfl
 exact NX.th (NX.lq (NX.brk (NX.inl (by kernel_rfl))))
 refine CD.seq (rg [] [(4, bA false)] [] a0 (CD.ret ?_))
 obtain rfl := sm h
 exact NX.ret [] a0 (by kernel_rfl)


-- f129b spec.l6Chain
def f129b (x0 : (List T60)) (x1 : Int) (x2 : Int) (x3 : (List Bool)) : Option (Bool × (List Bool)) :=
 jn (
 iter (fun (v30 : (List Bool) × Int) =>
 if (v30.2 != x2) = true then
 bd (f130 x0 v30.1 v30.2) fun v34 =>
 if (decide (v34 < 0)) = true then
 some (.inr (.inr (false, v30.1)))
 else
 jn (
 bd (ix x0 v34) fun v40 =>
 if (v40.f0 == 2) = true then
 bd (ix x0 v34) fun v43 =>
 if (v43.f2 != x2) = true then
 if (x2 != 0) = true then
 bd (f131 x0 x2) fun v47 =>
 if (!v47) = true then
 some (.inr (.inr (.inr (false, v30.1))))
 else
 some (.inl ())
 else
 some (.inl ())
 else
 some (.inl ())
 else
 some (.inl ())) fun (v37 : Unit) =>
 bd (ix v30.1 v34) fun v50 =>
 bd (st v30.1 v34 true) fun v52 =>
 bd (ix x0 v34) fun v54 =>
 some (.inl (v52, v54.f2))
 else
 some (.inr (.inl v30.1))) (x3, x1)) fun (v1 : (List Bool)) =>
 some (true, v1)
theorem c129b {x0 : (List T60)} {x1 : Int} {x2 : Int} {x3 : (List Bool)} {r : Bool × (List Bool)} (h : f129b x0 x1 x2 x3 = some r) :
 FnD cx 129 [k24.a x0, .own 0 x3.length, iA x1, iA x2] [k4.r 4 .cell x3] (bA r.1) [k4.r 4 .cell r.2] := by
 unfold f129b at h
 refine fnD_intro (fn := Tryz.f129) (by kernel_rfl) rfl (by kernel_rfl) (by kernel_rfl) fun E => ?_
 refine CD.seq (rg [] [] [] a0 (CD.join (fun (v1 : (List Bool)) => ⟨[], [(0, k4.r 4 .cell v1)]⟩) h (fun u2 h q3 => ?_) (fun v1 h => ?_)))
 refine CD.block (CD.loopK (fun (v30 : (List Bool) × Int) => ⟨[(0, k24.a x0), (1, .own 0 v30.1.length), (2, iA v30.2), (3, iA x2)], [(0, k4.r 4 .cell v30.1)]⟩) h (by kernel_rfl) (fun v30 u31 h q32 => ?_))
 refine CD.seq (CD.seq (rg [] [(12, bA (v30.2 != x2))] [] a0 (br h (fun g33 h => ?_) (fun g33 h => ?_))))
 refine CD.skip (CD.block (CD.seq ?_))
 rcases bd_some h with ⟨v34, g35, h⟩
 refine rg [(3, hC (iA v34) [] [] [])] [(9, iA v34)] [] (a1 (k_len' k4 v30.1) (a1 (c130 g35) (a1 (show AV.plain (iA v34) = true ∧ allPlain [] = true from ⟨rfl, pl0⟩) a0))) (CD.seq (CD.seq (rg [] [(18, bA (decide (v34 < 0)))] [] a0 (br h (fun g36 h => ?_) (fun g36 h => ?_)))))
 refine CD.seq (rg [] [(8, bA false)] [] a0 (CD.ret ?_))
 obtain rfl := sm h
 obtain rfl := q32 _ rfl
 obtain rfl := q3 _ rfl
 exact NX.ret [0] a0 (by kernel_rfl)
 refine CD.skip (CD.join (fun (v37 : Unit) => ⟨[(0, k24.a x0), (1, .own 0 v30.1.length), (3, iA x2), (9, iA v34)], [(0, k4.r 4 .cell v30.1)]⟩) h (fun u38 h q39 => ?_) (fun v37 h => ?_))
 refine CD.seq ?_
 rcases bd_some h with ⟨v40, g41, h⟩
 rcases if_some h with ⟨g42, h⟩ | ⟨g42, h⟩
 rcases bd_some h with ⟨v43, g44, h⟩
 rcases if_some h with ⟨g45, h⟩ | ⟨g45, h⟩
 rcases if_some h with ⟨g46, h⟩ | ⟨g46, h⟩
 rcases bd_some h with ⟨v47, g48, h⟩
 refine rg [(2, hE (k60.x v40)), (6, hT1), (9, hE (k60.x v43)), (15, hT1), (19, hT1), (22, hC (bA v47) [] [] [])] [(43, bA (!v47))] [] (a1 (o_ix k60 g41) (a1 (oB (c := (v40.f0 == 2)) g42) (a1 (o_ix k60 g44) (a1 (oB (c := (v43.f2 != x2)) g45) (a1 (oB (c := (x2 != 0)) g46) (a1 (c131 g48) a0)))))) (br h (fun g49 h => ?_) (fun g49 h => ?_))
 refine CD.seq (rg [] [(8, bA false)] [] a0 (CD.ret ?_))
 obtain rfl := sm h
 obtain rfl := q39 _ rfl
 obtain rfl := q32 _ rfl
 obtain rfl := q3 _ rfl
 exact NX.ret [0] a0 (by kernel_rfl)
 refine CD.skip ?_
 obtain rfl := sm h
 exact NX.inl (by kernel_rfl)
 refine rg [(2, hE (k60.x v40)), (6, hT1), (9, hE (k60.x v43)), (15, hT1), (19, hF1)] [(43, bA false)] [] (a1 (o_ix k60 g41) (a1 (oB (c := (v40.f0 == 2)) g42) (a1 (o_ix k60 g44) (a1 (oB (c := (v43.f2 != x2)) g45) (a1 (oB (c := (x2 != 0)) g46) a0))))) (CD.condF (b := false) (by kernel_rfl) rfl (CD.skip ?_))
 obtain rfl := sm h
 exact NX.inl (by kernel_rfl)
 refine rg [(2, hE (k60.x v40)), (6, hT1), (9, hE (k60.x v43)), (15, hF1)] [(43, bA false)] [] (a1 (o_ix k60 g41) (a1 (oB (c := (v40.f0 == 2)) g42) (a1 (o_ix k60 g44) (a1 (oB (c := (v43.f2 != x2)) g45) a0)))) (CD.condF (b := false) (by kernel_rfl) rfl (CD.skip ?_))
 obtain rfl := sm h
 exact NX.inl (by kernel_rfl)
 refine rg [(2, hE (k60.x v40)), (6, hF1)] [(43, bA false)] [] (a1 (o_ix k60 g41) (a1 (oB (c := (v40.f0 == 2)) g42) a0)) (CD.condF (b := false) (by kernel_rfl) rfl (CD.skip ?_))
 obtain rfl := sm h
 exact NX.inl (by kernel_rfl)
 refine CD.seq ?_
 rcases bd_some h with ⟨v50, g51, h⟩
 rcases bd_some h with ⟨v52, g53, h⟩
 refine rg [(3, hF (.bool v50) [(0, k4.r 4 .cell v52)])] [] [(0, k4.r 4 .cell v52)] (a1 (o_ixr k4 g51) (a1 (o_st k4 (y' := true) 0 4 .cell g51 g53 (k_len' k4 v30.1)) a0)) ?_
 rw [st_len g53]
 rcases bd_some h with ⟨v54, g55, h⟩
 refine rg [(2, hE (k60.x v54))] [(2, iA v54.f2)] [] (a1 (o_ix k60 g55) a0) ?_
 obtain rfl := sm h
 exact NX.blN (NX.inl (by kernel_rfl))
 refine CD.exit ?_
 obtain rfl := sm h
 obtain rfl := q32 _ rfl
 exact NX.th (NX.lq (NX.brk (NX.inl (by kernel_rfl))))
 refine CD.seq (rg [] [(8, bA true)] [] a0 (CD.ret ?_))
 obtain rfl := sm h
 exact NX.ret [0] a0 (by kernel_rfl)


-- f126 spec.l6Match
def f126 (x0 : (List T60)) (x1 : (List T60)) : Option (Bool) :=
 bd (mk 1 (false : Bool) (ln x0) (ln x0)) fun v1 =>
 jn (
 iter (fun (v39 : (List Bool) × Int) =>
 if (decide (v39.2 < (ln x1))) = true then
 jn (
 bd (ix x1 v39.2) fun v46 =>
 if (v46.f0 == 2) = true then
 bd (ix x1 v39.2) fun v49 =>
 bd (ix x1 v39.2) fun v51 =>
 bd (f129b x0 v49.f1 v51.f2 v39.1) fun v53 =>
 bd (lq v39.1.length v53.2) fun u55 =>
 if (!v53.1) = true then
 some (.inr (.inr (.inr false)))
 else
 some (.inl v53.2)
 else
 bd (ix x1 v39.2) fun v58 =>
 bd (f130 x0 v39.1 v58.f1) fun v60 =>
 if (decide (v60 < 0)) = true then
 some (.inr (.inr (.inr false)))
 else
 bd (ix x0 v60) fun v63 =>
 bd (ix x1 v39.2) fun v65 =>
 if (!(v63.f0 == v65.f0 && (v63.f1 == v65.f1 && (v63.f2 == v65.f2 && true)))) = true then
 some (.inr (.inr (.inr false)))
 else
 bd (ix v39.1 v60) fun v68 =>
 bd (st v39.1 v60 true) fun v70 =>
 some (.inl v70)) fun (v43 : (List Bool)) =>
 some (.inl (v43, ad v39.2 1))
 else
 some (.inr (.inl v39.1))) (v1, 0)) fun (v3 : (List Bool)) =>
 jn (
 iter (fun (v82 : Int) =>
 if (decide (v82 < (ln v3))) = true then
 bd (ix v3 v82) fun v86 =>
 if (!v86) = true then
 some (.inr (.inr false))
 else
 some (.inl (ad v82 1))
 else
 some (.inr (.inl ()))) 0) fun (v72 : Unit) =>
 some true
theorem c126 {x0 : (List T60)} {x1 : (List T60)} {r : Bool} (h : f126 x0 x1 = some r) :
 FnD cx 126 [k24.a x0, k24.a x1] [] (bA r) [] := by
 unfold f126 at h
 refine fnD_intro (fn := Tryz.f126) (by kernel_rfl) rfl (by kernel_rfl) (by kernel_rfl) fun E => ?_
 refine CD.seq (rg [] [] [] a0 (CD.seq ?_))
 rcases bd_some h with ⟨v1, g2, h⟩
 refine rg [(1, hV (iA (ln x0))), (2, hW (.own 1011 v1.length) [(1011, k4.r 4 .cell v1)])] [(5, .own 1011 v1.length)] [(1011, k4.r 4 .cell v1)] (a1 (o_ln k60 x0) (a1 (o_mk k4 1011 4 .cell g2 trivial) a0)) (CD.join (fun (v3 : (List Bool)) => ⟨[(5, .own 1011 v3.length)], [(1011, k4.r 4 .cell v3)]⟩) h (fun u4 h q5 => ?_) (fun v3 h => ?_))
 refine CD.seq (rg [] [(6, iA 0)] [] a0 (CD.block (CD.loopK (fun (v39 : (List Bool) × Int) => ⟨[(0, k24.a x0), (1, k24.a x1), (5, .own 1011 v39.1.length), (6, iA v39.2)], [(1011, k4.r 4 .cell v39.1)]⟩) h (by kernel_rfl) (fun v39 u40 h q41 => ?_))))
 refine CD.seq (CD.seq (rg [(2, hV (iA (ln x1)))] [(15, bA (decide (v39.2 < (ln x1))))] [] (a1 (o_ln k60 x1) a0) (br h (fun g42 h => ?_) (fun g42 h => ?_))))
 refine CD.skip (CD.join (fun (v43 : (List Bool)) => ⟨[(0, k24.a x0), (1, k24.a x1), (5, .own 1011 v43.length), (6, iA v39.2)], [(1011, k4.r 4 .cell v43)]⟩) h (fun u44 h q45 => ?_) (fun v43 h => ?_))
 refine CD.block (CD.seq (CD.seq ?_))
 rcases bd_some h with ⟨v46, g47, h⟩
 refine rg [(2, hE (k60.x v46))] [(23, bA (v46.f0 == 2))] [] (a1 (o_ix k60 g47) a0) (br h (fun g48 h => ?_) (fun g48 h => ?_))
 refine CD.seq (CD.seq ?_)
 rcases bd_some h with ⟨v49, g50, h⟩
 rcases bd_some h with ⟨v51, g52, h⟩
 rcases bd_some h with ⟨v53, g54, h⟩
 rcases bd_some h with ⟨u55, g56, h⟩
 refine rg [(4, hE (k60.x v49)), (9, hE (k60.x v51)), (12, (hC (bA v53.1) [k4.r 4 .cell v53.2] [1011] []).g [1011])] [(37, bA (!v53.1))] [(1011, k4.r 4 .cell v53.2)] (a1 (o_ix k60 g50) (a1 (o_ix k60 g52) (a1 (c129b g54) a0))) ?_
 rw [← lq_some g56]
 refine br h (fun g57 h => ?_) (fun g57 h => ?_)
 refine CD.seq (rg [] [(4, bA false)] [] a0 (CD.ret ?_))
 obtain rfl := sm h
 obtain rfl := q45 _ rfl
 obtain rfl := q41 _ rfl
 obtain rfl := q5 _ rfl
 exact NX.ret [] a0 (by kernel_rfl)
 refine CD.skip (CD.exit ?_)
 obtain rfl := sm h
 exact NX.th (NX.brk (NX.inl (by kernel_rfl)))
 refine CD.skip (CD.seq ?_)
 rcases bd_some h with ⟨v58, g59, h⟩
 rcases bd_some h with ⟨v60, g61, h⟩
 refine rg [(4, hE (k60.x v58)), (7, hC (iA v60) [] [] [])] [(7, iA v60)] [] (a1 (o_ix k60 g59) (a1 (k_len' k4 v39.1) (a1 (c130 g61) (a1 (show AV.plain (iA v60) = true ∧ allPlain [] = true from ⟨rfl, pl0⟩) a0)))) (CD.seq (CD.seq ?_))
 rcases if_some h with ⟨g62, h⟩ | ⟨g62, h⟩
 refine rg [(2, hT1)] [(58, bA true)] [] (a1 (oB (c := (decide (v60 < 0))) g62) a0) (CD.condT (b := true) (by kernel_rfl) rfl (CD.seq (rg [] [(4, bA false)] [] a0 (CD.ret ?_))))
 obtain rfl := sm h
 obtain rfl := q45 _ rfl
 obtain rfl := q41 _ rfl
 obtain rfl := q5 _ rfl
 exact NX.ret [] a0 (by kernel_rfl)
 rcases bd_some h with ⟨v63, g64, h⟩
 rcases bd_some h with ⟨v65, g66, h⟩
 refine rg [(2, hF1), (5, hE (k60.x v63)), (9, hE (k60.x v65))] [(58, bA (!(v63.f0 == v65.f0 && (v63.f1 == v65.f1 && (v63.f2 == v65.f2 && true)))))] [] (a1 (oB (c := (decide (v60 < 0))) g62) (a1 (o_ix k60 g64) (a1 (o_ix k60 g66) (a1 eqs61 a0)))) (br h (fun g67 h => ?_) (fun g67 h => ?_))
 refine CD.seq (rg [] [(4, bA false)] [] a0 (CD.ret ?_))
 obtain rfl := sm h
 obtain rfl := q45 _ rfl
 obtain rfl := q41 _ rfl
 obtain rfl := q5 _ rfl
 exact NX.ret [] a0 (by kernel_rfl)
 refine CD.skip ?_
 rcases bd_some h with ⟨v68, g69, h⟩
 rcases bd_some h with ⟨v70, g71, h⟩
 refine rg [(3, hF (.bool v68) [(1011, k4.r 4 .cell v70)])] [] [(1011, k4.r 4 .cell v70)] (a1 (o_ixr k4 g69) (a1 (o_st k4 (y' := true) 1011 4 .cell g69 g71 (k_len' k4 v39.1)) a0)) ?_
 rw [st_len g71]
 obtain rfl := sm h
 exact NX.blN (NX.inl (by kernel_rfl))
 refine rg [] [(6, iA (ad v39.2 1))] [] a0 ?_
 obtain rfl := sm h
 exact NX.inl (by kernel_rfl)
 refine CD.exit ?_
 obtain rfl := sm h
 obtain rfl := q41 _ rfl
 exact NX.th (NX.lq (NX.brk (NX.inl (by kernel_rfl))))
 refine CD.join (fun (v72 : Unit) => ⟨[], []⟩) h (fun u73 h q74 => ?_) (fun v72 h => ?_)
 refine CD.seq (rg [] [(8, iA 0)] [] a0 (CD.block (CD.loopK (fun (v82 : Int) => ⟨[(5, .own 1011 v3.length), (8, iA v82)], [(1011, k4.r 4 .cell v3)]⟩) h (by kernel_rfl) (fun v82 u83 h q84 => ?_))))
 refine CD.seq (CD.seq (rg [] [(65, bA (decide (v82 < (ln v3))))] [] a0 (br h (fun g85 h => ?_) (fun g85 h => ?_))))
 refine CD.skip (CD.seq (CD.block (CD.seq ?_)))
 rcases bd_some h with ⟨v86, g87, h⟩
 refine rg [(3, hE (.bool v86))] [(72, bA (!v86))] [] (a1 (o_ixr k4 g87) (a1 (o_ldr k4 g87) a0)) (br h (fun g88 h => ?_) (fun g88 h => ?_))
 refine CD.seq (rg [] [(4, bA false)] [] a0 (CD.ret ?_))
 obtain rfl := sm h
 obtain rfl := q84 _ rfl
 obtain rfl := q74 _ rfl
 exact NX.ret [] a0 (by kernel_rfl)
 refine CD.skip (NX.blN (rg [] [(8, iA (ad v82 1))] [] a0 ?_))
 obtain rfl := sm h
 exact NX.inl (by kernel_rfl)
 refine CD.exit ?_
 obtain rfl := sm h
 obtain rfl := q84 _ rfl
 exact NX.th (NX.lq (NX.brk (NX.inl (by kernel_rfl))))
 refine CD.seq (rg [] [(4, bA true)] [] a0 (CD.ret ?_))
 obtain rfl := sm h
 exact NX.ret [] a0 (by kernel_rfl)


-- f110 spec.l6Case
def f110 (x0 : T25) (x1 : T25) (x2 : (List Int)) : Option (Bool) :=
 bd (f106 x1.f0 x2) fun v1 =>
 if v1 = true then
 bd (f109 x0.f1 x2) fun v4 =>
 bd (f109 x1.f1 x2) fun v6 =>
 bd (f126 v4 v6) fun v8 =>
 some v8
 else
 some false
theorem c110 {x0 : T25} {x1 : T25} {x2 : (List Int)} {r : Bool} (h : f110 x0 x1 x2 = some r) :
 FnD cx 110 [k25.a x0, k25.a x1, k27.a x2] [] (bA r) [] := by
 unfold f110 at h
 refine fnD_intro (fn := Tryz.f110) (by kernel_rfl) rfl (by kernel_rfl) (by kernel_rfl) fun E => ?_
 refine CD.seq (rg [] [(3, .ref 1003 []), (4, .ref 1004 [])] [(1004, bx (k25.a x1)), (1003, bx (k25.a x0))] a0 (CD.seq ?_))
 rcases bd_some h with ⟨v1, g2, h⟩
 rcases if_some h with ⟨g3, h⟩ | ⟨g3, h⟩
 rcases bd_some h with ⟨v4, g5, h⟩
 rcases bd_some h with ⟨v6, g7, h⟩
 rcases bd_some h with ⟨v8, g9, h⟩
 refine rg [(0, hD [1004]), (1, hD [1004]), (3, hC (bA v1) [] [] []), (4, hT1), (5, hD [1003]), (6, hD [1003]), (8, hC (.own 0 v4.length) [k60.r 61 (.node [.cell, .cell, .cell]) v4] [] [2300]), (9, hD [1004]), (10, hD [1004]), (12, hC (.own 0 v6.length) [k60.r 61 (.node [.cell, .cell, .cell]) v6] [] [2380]), (13, (hC (bA v8) [] [] []).g [2300, 2380])] [(6, bA v8)] [(2380, k60.r 61 (.node [.cell, .cell, .cell]) v6), (2300, k60.r 61 (.node [.cell, .cell, .cell]) v4)] (a1 (c106 g2) (a1 (oB (c := v1) g3) (a1 (c109 g5) (a1 (c109 g7) (a1 (k_len' k60 v4) (a1 (k_len' k60 v6) (a1 (c126 g9) (a1 (show AV.plain (bA v8) = true ∧ allPlain [] = true from ⟨rfl, pl0⟩) a0)))))))) (CD.ret ?_)
 obtain rfl := sm h
 exact NX.ret [] a0 (by kernel_rfl)
 refine rg [(0, hD [1004]), (1, hD [1004]), (3, hC (bA v1) [] [] []), (4, hF1)] [(6, bA false)] [] (a1 (c106 g2) (a1 (oB (c := v1) g3) a0)) (CD.ret ?_)
 obtain rfl := sm h
 exact NX.ret [] a0 (by kernel_rfl)

end Go.Sep.Y
