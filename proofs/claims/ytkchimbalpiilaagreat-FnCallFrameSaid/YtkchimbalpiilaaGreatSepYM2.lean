/- Part of the proof: mirrors of the functions of this seat, and that the functions give what their mirrors give. -/
import Derived.Test.YtkchimbalpiilaaGreatSepYM1
set_option linter.all false
set_option linter.deprecated false
open Go Go.Sep Go.Proofs
set_option maxRecDepth 100000
namespace Go.Sep.Y
-- f80 spec.l8Block
def f80o (r80 : (List (List UInt8)) → Int → Int → Option ((List T128) × Int)) (x0 : (List (List UInt8))) (x1 : Int) (x2 : Int) : Option ((List T128) × Int) :=
 jn (
 iter (fun (v49 : (List T128) × Int) =>
 jn (
 if (decide (v49.2 ≥ 0)) = true then
 if (decide ((ad v49.2 1) < (ln x0))) = true then
 bd (ix x0 v49.2) fun v57 =>
 if (!(v57 == ([101, 110, 100] : List UInt8))) = true then
 bd (ix x0 v49.2) fun v60 =>
 if (!(v60 == ([101, 108, 115, 101] : List UInt8))) = true then
 some (.inl ())
 else
 some (.inr (.inr (.inl (v49.2, v49.1))))
 else
 some (.inr (.inr (.inl (v49.2, v49.1))))
 else
 some (.inr (.inr (.inl (v49.2, v49.1))))
 else
 some (.inr (.inr (.inl (v49.2, v49.1))))) fun (v52 : Unit) =>
 bd (ix x0 v49.2) fun v63 =>
 bd (f100 v63) fun v65 =>
 jn (
 jn (
 if (v65.f0 == 6) = true then
 some (.inl true)
 else
 some (.inl (v65.f0 == 7))) fun (v70 : Bool) =>
 if v70 = true then
 if (decide (x2 < 1)) = true then
 some (.inr (.inr (.inr (v49.1, (-1)))))
 else
 bd (r80 x0 (ad v49.2 1) (sb x2 1)) fun v76 =>
 jn (
 jn (
 if (decide (v76.2 ≥ 0)) = true then
 if (decide (v76.2 < (ln x0))) = true then
 bd (ix x0 v76.2) fun v86 =>
 some (.inl (v86 == ([101, 108, 115, 101] : List UInt8)))
 else
 some (.inl false)
 else
 some (.inl false)) fun (v81 : Bool) =>
 if v81 = true then
 bd (r80 x0 (ad v76.2 1) (sb x2 1)) fun v89 =>
 some (.inl (v89.2, v89.1))
 else
 some (.inl (v76.2, v65.f6))) fun (v78 : Int × (List T128)) =>
 if (decide (v78.1 ≥ 0)) = true then
 some (.inl (ad v78.1 1, (⟨v65.f0, v65.f1, v65.f2, v65.f3, v65.f4, v76.1, v78.2⟩ : T128)))
 else
 some (.inl (v78.1, (⟨v65.f0, v65.f1, v65.f2, v65.f3, v65.f4, v76.1, v78.2⟩ : T128)))
 else
 some (.inl (ad v49.2 1, v65))) fun (v67 : Int × T128) =>
 bd (ap 144 v49.1 ([v67.2] : List T128)) fun v92 =>
 some (.inl (v92, v67.1))) (([] : List T128), x1)) fun (v1 : Int × (List T128)) =>
 some (v1.2, v1.1)
def f80n : Nat → (List (List UInt8)) → Int → Int → Option ((List T128) × Int)
| 0 => fun _ _ _ => none
| k + 1 => f80o (f80n k)
def f80 (x0 : (List (List UInt8))) (x1 : Int) (x2 : Int) : Option ((List T128) × Int) := f80n LF x0 x1 x2
theorem c80o {r80 : (List (List UInt8)) → Int → Int → Option ((List T128) × Int)} (i80 : ∀ {x0 : (List (List UInt8))} {x1 : Int} {x2 : Int} {r : (List T128) × Int}, r80 x0 x1 x2 = some r → FnD cx 80 [k93.a x0, iA x1, iA x2] [] (.tup [k39.a r.1, iA r.2]) []) {x0 : (List (List UInt8))} {x1 : Int} {x2 : Int} {r : (List T128) × Int} (h : f80o r80 x0 x1 x2 = some r) :
 FnD cx 80 [k93.a x0, iA x1, iA x2] [] (.tup [k39.a r.1, iA r.2]) [] := by
 unfold f80o at h
 refine fnD_intro (fn := Tryz.f80) (by kernel_rfl) rfl (by kernel_rfl) (by kernel_rfl) fun E => ?_
 refine CD.seq (rg [] [] [] a0 (CD.seq (rg [(0, hO)] [(8, .own 1014 (([] : List T128).length))] [(1014, k128.r 129 (.node [.cell, .cell, .cell, .node [.cell, .cell, .cell], .node [.cell, .cell], .cell, .cell]) ([] : List T128))] a0 (CD.join (fun (v1 : Int × (List T128)) => ⟨[(1, iA v1.1), (8, .own 1014 v1.2.length)], [(1014, k128.r 129 (.node [.cell, .cell, .cell, .node [.cell, .cell, .cell], .node [.cell, .cell], .cell, .cell]) v1.2)]⟩) h (fun u2 h q3 => ?_) (fun v1 h => ?_)))))
 refine CD.block (CD.loopK (fun (v49 : (List T128) × Int) => ⟨[(0, k93.a x0), (1, iA v49.2), (2, iA x2), (8, .own 1014 v49.1.length)], [(1014, k128.r 129 (.node [.cell, .cell, .cell, .node [.cell, .cell, .cell], .node [.cell, .cell], .cell, .cell]) v49.1)]⟩) h (by kernel_rfl) (fun v49 u50 h q51 => ?_))
 refine CD.join (fun (v52 : Unit) => ⟨[(0, k93.a x0), (1, iA v49.2), (2, iA x2), (8, .own 1014 v49.1.length)], [(1014, k128.r 129 (.node [.cell, .cell, .cell, .node [.cell, .cell, .cell], .node [.cell, .cell], .cell, .cell]) v49.1)]⟩) h (fun u53 h q54 => ?_) (fun v52 h => ?_)
 refine CD.seq ?_
 rcases if_some h with ⟨g55, h⟩ | ⟨g55, h⟩
 rcases if_some h with ⟨g56, h⟩ | ⟨g56, h⟩
 rcases bd_some h with ⟨v57, g58, h⟩
 rcases if_some h with ⟨g59, h⟩ | ⟨g59, h⟩
 rcases bd_some h with ⟨v60, g61, h⟩
 refine rg [(2, hT1), (6, hV (iA (ln x0))), (9, hT1), (12, hE (.str v57)), (16, hT1), (19, hE (.str v60))] [(37, bA (!(v60 == ([101, 108, 115, 101] : List UInt8))))] [] (a1 (oB (c := (decide (v49.2 ≥ 0))) g55) (a1 (o_ln k9 x0) (a1 (oB (c := (decide ((ad v49.2 1) < (ln x0)))) g56) (a1 (o_ix k9 g58) (a1 (oB (c := (!(v57 == ([101, 110, 100] : List UInt8)))) g59) (a1 (o_ix k9 g61) a0)))))) (br h (fun g62 h => ?_) (fun g62 h => ?_))
 refine CD.skip ?_
 obtain rfl := sm h
 exact NX.inl (by kernel_rfl)
 refine CD.exit ?_
 obtain rfl := sm h
 obtain rfl := q54 _ rfl
 obtain rfl := q51 _ rfl
 exact NX.lq (NX.lq (NX.brk (NX.inl (by kernel_rfl))))
 refine rg [(2, hT1), (6, hV (iA (ln x0))), (9, hT1), (12, hE (.str v57)), (16, hF1)] [(37, bA false)] [] (a1 (oB (c := (decide (v49.2 ≥ 0))) g55) (a1 (o_ln k9 x0) (a1 (oB (c := (decide ((ad v49.2 1) < (ln x0)))) g56) (a1 (o_ix k9 g58) (a1 (oB (c := (!(v57 == ([101, 110, 100] : List UInt8)))) g59) a0))))) (CD.condF (b := false) (by kernel_rfl) rfl (CD.exit ?_))
 obtain rfl := sm h
 obtain rfl := q54 _ rfl
 obtain rfl := q51 _ rfl
 exact NX.lq (NX.lq (NX.brk (NX.inl (by kernel_rfl))))
 refine rg [(2, hT1), (6, hV (iA (ln x0))), (9, hF1)] [(37, bA false)] [] (a1 (oB (c := (decide (v49.2 ≥ 0))) g55) (a1 (o_ln k9 x0) (a1 (oB (c := (decide ((ad v49.2 1) < (ln x0)))) g56) a0))) (CD.condF (b := false) (by kernel_rfl) rfl (CD.exit ?_))
 obtain rfl := sm h
 obtain rfl := q54 _ rfl
 obtain rfl := q51 _ rfl
 exact NX.lq (NX.lq (NX.brk (NX.inl (by kernel_rfl))))
 refine rg [(2, hF1)] [(37, bA false)] [] (a1 (oB (c := (decide (v49.2 ≥ 0))) g55) a0) (CD.condF (b := false) (by kernel_rfl) rfl (CD.exit ?_))
 obtain rfl := sm h
 obtain rfl := q54 _ rfl
 obtain rfl := q51 _ rfl
 exact NX.lq (NX.lq (NX.brk (NX.inl (by kernel_rfl))))
 refine CD.block (CD.seq ?_)
 rcases bd_some h with ⟨v63, g64, h⟩
 rcases bd_some h with ⟨v65, g66, h⟩
 refine rg [(2, hE (.str v63)), (4, hC (k128.a v65) [] [] [])] [(9, .ref 1009 [])] [(1009, bx (k128.a v65))] (a1 (o_ix k9 g64) (a1 (c100 g66) a0)) (CD.seq (rg [] [(1, iA (ad v49.2 1))] [] a0 (CD.join (fun (v67 : Int × T128) => ⟨[(0, k93.a x0), (1, iA v67.1), (2, iA x2), (8, .own 1014 v49.1.length), (9, .ref 1009 [])], [(1014, k128.r 129 (.node [.cell, .cell, .cell, .node [.cell, .cell, .cell], .node [.cell, .cell], .cell, .cell]) v49.1), (1009, bx (k128.a v67.2))]⟩) h (fun u68 h q69 => ?_) (fun v67 h => ?_))))
 refine CD.join (fun (v70 : Bool) => ⟨[(0, k93.a x0), (1, iA (ad v49.2 1)), (2, iA x2), (8, .own 1014 v49.1.length), (9, .ref 1009 []), (52, bA v70)], [(1014, k128.r 129 (.node [.cell, .cell, .cell, .node [.cell, .cell, .cell], .node [.cell, .cell], .cell, .cell]) v49.1), (1009, bx (k128.a v65))]⟩) h (fun u71 h q72 => ?_) (fun v70 h => ?_)
 rcases if_some h with ⟨g73, h⟩ | ⟨g73, h⟩
 refine rg [(3, hT1)] [(52, bA true)] [] (a1 (oB (c := (v65.f0 == 6)) g73) a0) ?_
 obtain rfl := sm h
 exact NX.inl (by kernel_rfl)
 refine rg [(3, hF1)] [(52, bA (v65.f0 == 7))] [] (a1 (oB (c := (v65.f0 == 6)) g73) a0) ?_
 obtain rfl := sm h
 exact NX.inl (by kernel_rfl)
 refine br h (fun g74 h => ?_) (fun g74 h => ?_)
 refine CD.seq (CD.seq (rg [] [(54, bA (decide (x2 < 1)))] [] a0 (br h (fun g75 h => ?_) (fun g75 h => ?_))))
 refine CD.seq (rg [] [(6, .own 1014 v49.1.length), (7, iA (-1))] [] a0 (CD.ret ?_))
 obtain rfl := sm h
 obtain rfl := q69 _ rfl
 obtain rfl := q51 _ rfl
 obtain rfl := q3 _ rfl
 exact NX.ret [] (a1 (k_len' k128 v49.1) a0) (by kernel_rfl)
 refine CD.skip (CD.seq ?_)
 rcases bd_some h with ⟨v76, g77, h⟩
 refine rg [(4, hC (.tup [k39.a v76.1, iA v76.2]) [] [] [])] [(10, k39.a v76.1), (11, iA v76.2)] [] (a1 (i80 g77) a0) (CD.seq (rg [] [] [(1009, bx (k128.a (⟨v65.f0, v65.f1, v65.f2, v65.f3, v65.f4, v76.1, v65.f6⟩ : T128)))] a0 (CD.seq (rg [] [(1, iA v76.2)] [] a0 (CD.join (fun (v78 : Int × (List T128)) => ⟨[(0, k93.a x0), (1, iA v78.1), (2, iA x2), (8, .own 1014 v49.1.length), (9, .ref 1009 [])], [(1014, k128.r 129 (.node [.cell, .cell, .cell, .node [.cell, .cell, .cell], .node [.cell, .cell], .cell, .cell]) v49.1), (1009, bx (k128.a (⟨v65.f0, v65.f1, v65.f2, v65.f3, v65.f4, v76.1, v78.2⟩ : T128)))]⟩) h (fun u79 h q80 => ?_) (fun v78 h => ?_))))))
 refine CD.join (fun (v81 : Bool) => ⟨[(0, k93.a x0), (1, iA v76.2), (2, iA x2), (8, .own 1014 v49.1.length), (9, .ref 1009 []), (81, bA v81)], [(1014, k128.r 129 (.node [.cell, .cell, .cell, .node [.cell, .cell, .cell], .node [.cell, .cell], .cell, .cell]) v49.1), (1009, bx (k128.a (⟨v65.f0, v65.f1, v65.f2, v65.f3, v65.f4, v76.1, v65.f6⟩ : T128)))]⟩) h (fun u82 h q83 => ?_) (fun v81 h => ?_)
 rcases if_some h with ⟨g84, h⟩ | ⟨g84, h⟩
 rcases if_some h with ⟨g85, h⟩ | ⟨g85, h⟩
 rcases bd_some h with ⟨v86, g87, h⟩
 refine rg [(2, hT1), (5, hV (iA (ln x0))), (8, hT1), (11, hE (.str v86))] [(81, bA (v86 == ([101, 108, 115, 101] : List UInt8)))] [] (a1 (oB (c := (decide (v76.2 ≥ 0))) g84) (a1 (o_ln k9 x0) (a1 (oB (c := (decide (v76.2 < (ln x0)))) g85) (a1 (o_ix k9 g87) a0)))) ?_
 obtain rfl := sm h
 exact NX.inl (by kernel_rfl)
 refine rg [(2, hT1), (5, hV (iA (ln x0))), (8, hF1)] [(81, bA false)] [] (a1 (oB (c := (decide (v76.2 ≥ 0))) g84) (a1 (o_ln k9 x0) (a1 (oB (c := (decide (v76.2 < (ln x0)))) g85) a0))) ?_
 obtain rfl := sm h
 exact NX.inl (by kernel_rfl)
 refine rg [(2, hF1)] [(81, bA false)] [] (a1 (oB (c := (decide (v76.2 ≥ 0))) g84) a0) ?_
 obtain rfl := sm h
 exact NX.inl (by kernel_rfl)
 refine br h (fun g88 h => ?_) (fun g88 h => ?_)
 refine CD.seq ?_
 rcases bd_some h with ⟨v89, g90, h⟩
 refine rg [(5, hC (.tup [k39.a v89.1, iA v89.2]) [] [] [])] [(12, k39.a v89.1), (13, iA v89.2)] [] (a1 (i80 g90) a0) (CD.seq (rg [] [] [(1009, bx (k128.a (⟨v65.f0, v65.f1, v65.f2, v65.f3, v65.f4, v76.1, v89.1⟩ : T128)))] a0 (rg [] [(1, iA v89.2)] [] a0 ?_)))
 obtain rfl := sm h
 exact NX.inl (by kernel_rfl)
 refine CD.skip ?_
 obtain rfl := sm h
 exact NX.inl (by kernel_rfl)
 refine CD.seq (rg [] [(95, bA (decide (v78.1 ≥ 0)))] [] a0 (br h (fun g91 h => ?_) (fun g91 h => ?_)))
 refine rg [] [(1, iA (ad v78.1 1))] [] a0 ?_
 obtain rfl := sm h
 exact NX.inl (by kernel_rfl)
 refine CD.skip ?_
 obtain rfl := sm h
 exact NX.inl (by kernel_rfl)
 refine CD.skip ?_
 obtain rfl := sm h
 exact NX.inl (by kernel_rfl)
 rcases bd_some h with ⟨v92, g93, h⟩
 refine rg [(2, hV (k39.a ([v67.2] : List T128))), (3, hW (.own 1014 v92.length) [(1014, k128.r 129 (.node [.cell, .cell, .cell, .node [.cell, .cell, .cell], .node [.cell, .cell], .cell, .cell]) v92)])] [(8, .own 1014 v92.length)] [(1014, k128.r 129 (.node [.cell, .cell, .cell, .node [.cell, .cell, .cell], .node [.cell, .cell], .cell, .cell]) v92)] (a1 (o_lit k128 ([v67.2] : List T128) (.node [.cell, .cell, .cell, .node [.cell, .cell, .cell], .node [.cell, .cell], .cell, .cell]) ((And.intro trivial trivial))) (a1 (o_ap k128 1014 129 (.node [.cell, .cell, .cell, .node [.cell, .cell, .cell], .node [.cell, .cell], .cell, .cell]) g93 trivial) a0)) ?_
 obtain rfl := sm h
 exact NX.blN (NX.inl (by kernel_rfl))
 refine CD.seq (rg [] [(6, .own 1014 v1.2.length), (7, iA v1.1)] [] a0 (CD.ret ?_))
 obtain rfl := sm h
 exact NX.ret [] (a1 (k_len' k128 v1.2) a0) (by kernel_rfl)

theorem c80n : ∀ (k0 : Nat), ∀ {x0 : (List (List UInt8))} {x1 : Int} {x2 : Int} {r : (List T128) × Int}, f80n k0 x0 x1 x2 = some r → FnD cx 80 [k93.a x0, iA x1, iA x2] [] (.tup [k39.a r.1, iA r.2]) []
| 0 => fun h => by cases h
| k0 + 1 => fun h => c80o (c80n k0) h
theorem c80 {x0 : (List (List UInt8))} {x1 : Int} {x2 : Int} {r : (List T128) × Int} (h : f80 x0 x1 x2 = some r) :
 FnD cx 80 [k93.a x0, iA x1, iA x2] [] (.tup [k39.a r.1, iA r.2]) [] := c80n LF h

-- f121 spec.l8Line
def f121 (x0 : T128) : Option ((List UInt8)) :=
 bd (f117 x0.f1) fun v1 =>
 bd (f117 x0.f2) fun v3 =>
 if (x0.f0 == 1) = true then
 bd (sa v1 ([58, 61] : List UInt8)) fun v6 =>
 bd (sa v6 v3) fun v8 =>
 some v8
 else
 if (x0.f0 == 2) = true then
 bd (sa v1 ([58, 61, 91] : List UInt8)) fun v11 =>
 bd (sa v11 v3) fun v13 =>
 bd (sa v13 ([93] : List UInt8)) fun v15 =>
 some v15
 else
 if (x0.f0 == 3) = true then
 bd (sa ([91] : List UInt8) v1) fun v18 =>
 bd (sa v18 ([93, 58, 61] : List UInt8)) fun v20 =>
 bd (sa v20 v3) fun v22 =>
 some v22
 else
 if (x0.f0 == 4) = true then
 bd (sa ([110, 101, 119, 32] : List UInt8) v1) fun v25 =>
 some v25
 else
 if (x0.f0 == 5) = true then
 bd (sa ([102, 114, 101, 101, 32] : List UInt8) v1) fun v28 =>
 some v28
 else
 if (x0.f0 == 6) = true then
 bd (f118 x0.f3) fun v31 =>
 bd (sa ([105, 102, 32] : List UInt8) v31) fun v33 =>
 some v33
 else
 bd (f118 x0.f3) fun v35 =>
 bd (sa ([119, 104, 105, 108, 101, 32] : List UInt8) v35) fun v37 =>
 bd (sa v37 ([32, 119, 105, 116, 104, 32] : List UInt8)) fun v39 =>
 bd (f99 x0.f4) fun v41 =>
 bd (sa v39 v41) fun v43 =>
 some v43
theorem c121 {x0 : T128} {r : (List UInt8)} (h : f121 x0 = some r) :
 FnD cx 121 [k128.a x0] [] (sA r) [] := by
 unfold f121 at h
 refine fnD_intro (fn := Tryz.f121) (by kernel_rfl) rfl (by kernel_rfl) (by kernel_rfl) fun E => ?_
 refine CD.seq (rg [] [(1, .ref 1001 [])] [(1001, bx (k128.a x0))] a0 (CD.seq ?_))
 rcases bd_some h with ⟨v1, g2, h⟩
 refine rg [(2, hC (sA v1) [] [] [])] [(3, sA v1)] [] (a1 (c117 g2) a0) (CD.seq ?_)
 rcases bd_some h with ⟨v3, g4, h⟩
 refine rg [(2, hC (sA v3) [] [] [])] [(4, sA v3)] [] (a1 (c117 g4) a0) (CD.seq (CD.seq (rg [] [(12, iA x0.f0)] [] a0 (CD.block (CD.seq (rg [] [(13, bA (x0.f0 == 1))] [] a0 (br h (fun g5 h => ?_) (fun g5 h => ?_))))))))
 refine CD.seq ?_
 rcases bd_some h with ⟨v6, g7, h⟩
 rcases bd_some h with ⟨v8, g9, h⟩
 refine rg [(1, hV (sA v6)), (3, hV (sA v8))] [(2, sA v8)] [] (a1 (o_sa g7) (a1 (o_sa g9) a0)) (CD.ret ?_)
 obtain rfl := sm h
 exact NX.ret [] a0 (by kernel_rfl)
 refine CD.seq (rg [] [(19, bA (x0.f0 == 2))] [] a0 (br h (fun g10 h => ?_) (fun g10 h => ?_)))
 refine CD.seq ?_
 rcases bd_some h with ⟨v11, g12, h⟩
 rcases bd_some h with ⟨v13, g14, h⟩
 rcases bd_some h with ⟨v15, g16, h⟩
 refine rg [(1, hV (sA v11)), (3, hV (sA v13)), (4, hV (sA v15))] [(2, sA v15)] [] (a1 (o_sa g12) (a1 (o_sa g14) (a1 (o_sa g16) a0))) (CD.ret ?_)
 obtain rfl := sm h
 exact NX.ret [] a0 (by kernel_rfl)
 refine CD.seq (rg [] [(26, bA (x0.f0 == 3))] [] a0 (br h (fun g17 h => ?_) (fun g17 h => ?_)))
 refine CD.seq ?_
 rcases bd_some h with ⟨v18, g19, h⟩
 rcases bd_some h with ⟨v20, g21, h⟩
 rcases bd_some h with ⟨v22, g23, h⟩
 refine rg [(1, hV (sA v18)), (2, hV (sA v20)), (4, hV (sA v22))] [(2, sA v22)] [] (a1 (o_sa g19) (a1 (o_sa g21) (a1 (o_sa g23) a0))) (CD.ret ?_)
 obtain rfl := sm h
 exact NX.ret [] a0 (by kernel_rfl)
 refine CD.seq (rg [] [(33, bA (x0.f0 == 4))] [] a0 (br h (fun g24 h => ?_) (fun g24 h => ?_)))
 refine CD.seq ?_
 rcases bd_some h with ⟨v25, g26, h⟩
 refine rg [(1, hV (sA v25))] [(2, sA v25)] [] (a1 (o_sa g26) a0) (CD.ret ?_)
 obtain rfl := sm h
 exact NX.ret [] a0 (by kernel_rfl)
 refine CD.seq (rg [] [(37, bA (x0.f0 == 5))] [] a0 (br h (fun g27 h => ?_) (fun g27 h => ?_)))
 refine CD.seq ?_
 rcases bd_some h with ⟨v28, g29, h⟩
 refine rg [(1, hV (sA v28))] [(2, sA v28)] [] (a1 (o_sa g29) a0) (CD.ret ?_)
 obtain rfl := sm h
 exact NX.ret [] a0 (by kernel_rfl)
 refine CD.seq (rg [] [(41, bA (x0.f0 == 6))] [] a0 (br h (fun g30 h => ?_) (fun g30 h => ?_)))
 refine CD.seq ?_
 rcases bd_some h with ⟨v31, g32, h⟩
 rcases bd_some h with ⟨v33, g34, h⟩
 refine rg [(2, hC (sA v31) [] [] []), (3, hV (sA v33))] [(2, sA v33)] [] (a1 (c118 g32) (a1 (o_sa g34) a0)) (CD.ret ?_)
 obtain rfl := sm h
 exact NX.ret [] a0 (by kernel_rfl)
 refine CD.skip (NX.blN (CD.seq ?_))
 rcases bd_some h with ⟨v35, g36, h⟩
 rcases bd_some h with ⟨v37, g38, h⟩
 rcases bd_some h with ⟨v39, g40, h⟩
 rcases bd_some h with ⟨v41, g42, h⟩
 rcases bd_some h with ⟨v43, g44, h⟩
 refine rg [(0, hD [1001]), (1, hD [1001]), (2, hC (sA v35) [] [] []), (3, hV (sA v37)), (4, hV (sA v39)), (5, hD [1001]), (6, hD [1001]), (7, hC (sA v41) [] [] []), (8, hV (sA v43))] [(2, sA v43)] [] (a1 (c118 g36) (a1 (o_sa g38) (a1 (o_sa g40) (a1 (c99 g42) (a1 (o_sa g44) a0))))) (CD.ret ?_)
 obtain rfl := sm h
 exact NX.ret [] a0 (by kernel_rfl)


-- f101 spec.l8Text
def f101o (r101 : (List T128) → Option ((List UInt8))) (x0 : (List T128)) : Option ((List UInt8)) :=
 jn (
 iter (fun (v39 : (List UInt8) × Int) =>
 if (decide (v39.2 < (ln x0))) = true then
 jn (
 bd (ix x0 v39.2) fun v46 =>
 bd (f121 v46) fun v48 =>
 bd (sa v39.1 v48) fun v50 =>
 bd (sa v50 ([10] : List UInt8)) fun v52 =>
 bd (r101 v46.f5) fun v54 =>
 bd (sa v52 v54) fun v56 =>
 jn (
 if (decide ((ln v46.f6) > 0)) = true then
 bd (sa v56 ([101, 108, 115, 101, 10] : List UInt8)) fun v62 =>
 bd (r101 v46.f6) fun v64 =>
 bd (sa v62 v64) fun v66 =>
 some (.inl v66)
 else
 some (.inl v56)) fun (v58 : (List UInt8)) =>
 if (v46.f0 == 6) = true then
 bd (sa v58 ([101, 110, 100, 10] : List UInt8)) fun v69 =>
 some (.inl v69)
 else
 if (v46.f0 == 7) = true then
 bd (sa v58 ([101, 110, 100, 10] : List UInt8)) fun v72 =>
 some (.inl v72)
 else
 some (.inl v58)) fun (v43 : (List UInt8)) =>
 some (.inl (v43, ad v39.2 1))
 else
 some (.inr (.inl v39.1))) (([] : List UInt8), 0)) fun (v1 : (List UInt8)) =>
 some v1
def f101n : Nat → (List T128) → Option ((List UInt8))
| 0 => fun _ => none
| k + 1 => f101o (f101n k)
def f101 (x0 : (List T128)) : Option ((List UInt8)) := f101n LF x0
theorem c101o {r101 : (List T128) → Option ((List UInt8))} (i101 : ∀ {x0 : (List T128)} {r : (List UInt8)}, r101 x0 = some r → FnD cx 101 [k39.a x0] [] (sA r) []) {x0 : (List T128)} {r : (List UInt8)} (h : f101o r101 x0 = some r) :
 FnD cx 101 [k39.a x0] [] (sA r) [] := by
 unfold f101o at h
 refine fnD_intro (fn := Tryz.f101) (by kernel_rfl) rfl (by kernel_rfl) (by kernel_rfl) fun E => ?_
 refine CD.seq (rg [] [] [] a0 (CD.seq (rg [] [(3, sA ([] : List UInt8))] [] a0 (CD.join (fun (v1 : (List UInt8)) => ⟨[(3, sA v1)], []⟩) h (fun u2 h q3 => ?_) (fun v1 h => ?_)))))
 refine CD.seq (rg [] [(4, iA 0)] [] a0 (CD.block (CD.loopK (fun (v39 : (List UInt8) × Int) => ⟨[(0, k39.a x0), (3, sA v39.1), (4, iA v39.2)], []⟩) h (by kernel_rfl) (fun v39 u40 h q41 => ?_))))
 refine CD.seq (CD.seq (rg [(2, hV (iA (ln x0)))] [(9, bA (decide (v39.2 < (ln x0))))] [] (a1 (o_ln k128 x0) a0) (br h (fun g42 h => ?_) (fun g42 h => ?_))))
 refine CD.skip (CD.join (fun (v43 : (List UInt8)) => ⟨[(0, k39.a x0), (3, sA v43), (4, iA v39.2)], []⟩) h (fun u44 h q45 => ?_) (fun v43 h => ?_))
 refine CD.block (CD.seq ?_)
 rcases bd_some h with ⟨v46, g47, h⟩
 refine rg [(2, hE (k128.x v46))] [(5, .ref 1005 [])] [(1005, bx (k128.a v46))] (a1 (o_ix k128 g47) a0) (CD.seq ?_)
 rcases bd_some h with ⟨v48, g49, h⟩
 rcases bd_some h with ⟨v50, g51, h⟩
 rcases bd_some h with ⟨v52, g53, h⟩
 rcases bd_some h with ⟨v54, g55, h⟩
 rcases bd_some h with ⟨v56, g57, h⟩
 refine rg [(1, hD [1005]), (2, hC (sA v48) [] [] []), (3, hV (sA v50)), (4, hV (sA v52)), (5, hD [1005]), (6, hD [1005]), (7, hC (sA v54) [] [] []), (8, hV (sA v56))] [(3, sA v56)] [] (a1 (c121 g49) (a1 (o_sa g51) (a1 (o_sa g53) (a1 (i101 g55) (a1 (o_sa g57) a0))))) (CD.join (fun (v58 : (List UInt8)) => ⟨[(0, k39.a x0), (3, sA v58), (4, iA v39.2), (5, .ref 1005 [])], [(1005, bx (k128.a v46))]⟩) h (fun u59 h q60 => ?_) (fun v58 h => ?_))
 refine CD.seq (rg [(2, hV (iA (ln v46.f6)))] [(28, bA (decide ((ln v46.f6) > 0)))] [] (a1 (o_ln k128 v46.f6) a0) (br h (fun g61 h => ?_) (fun g61 h => ?_)))
 rcases bd_some h with ⟨v62, g63, h⟩
 rcases bd_some h with ⟨v64, g65, h⟩
 rcases bd_some h with ⟨v66, g67, h⟩
 refine rg [(1, hV (sA v62)), (4, hC (sA v64) [] [] []), (5, hV (sA v66))] [(3, sA v66)] [] (a1 (o_sa g63) (a1 (i101 g65) (a1 (o_sa g67) a0))) ?_
 obtain rfl := sm h
 exact NX.inl (by kernel_rfl)
 refine CD.skip ?_
 obtain rfl := sm h
 exact NX.inl (by kernel_rfl)
 refine CD.seq ?_
 rcases if_some h with ⟨g68, h⟩ | ⟨g68, h⟩
 refine rg [(3, hT1)] [(42, bA true)] [] (a1 (oB (c := (v46.f0 == 6)) g68) a0) (CD.condT (b := true) (by kernel_rfl) rfl ?_)
 rcases bd_some h with ⟨v69, g70, h⟩
 refine rg [(1, hV (sA v69))] [(3, sA v69)] [] (a1 (o_sa g70) a0) ?_
 obtain rfl := sm h
 exact NX.blN (NX.inl (by kernel_rfl))
 refine rg [(3, hF1)] [(42, bA (v46.f0 == 7))] [] (a1 (oB (c := (v46.f0 == 6)) g68) a0) (br h (fun g71 h => ?_) (fun g71 h => ?_))
 rcases bd_some h with ⟨v72, g73, h⟩
 refine rg [(1, hV (sA v72))] [(3, sA v72)] [] (a1 (o_sa g73) a0) ?_
 obtain rfl := sm h
 exact NX.blN (NX.inl (by kernel_rfl))
 refine CD.skip ?_
 obtain rfl := sm h
 exact NX.blN (NX.inl (by kernel_rfl))
 refine rg [] [(4, iA (ad v39.2 1))] [] a0 ?_
 obtain rfl := sm h
 exact NX.inl (by kernel_rfl)
 refine CD.exit ?_
 obtain rfl := sm h
 obtain rfl := q41 _ rfl
 exact NX.th (NX.lq (NX.brk (NX.inl (by kernel_rfl))))
 refine CD.seq (rg [] [(2, sA v1)] [] a0 (CD.ret ?_))
 obtain rfl := sm h
 exact NX.ret [] a0 (by kernel_rfl)

theorem c101n : ∀ (k0 : Nat), ∀ {x0 : (List T128)} {r : (List UInt8)}, f101n k0 x0 = some r → FnD cx 101 [k39.a x0] [] (sA r) []
| 0 => fun h => by cases h
| k0 + 1 => fun h => c101o (c101n k0) h
theorem c101 {x0 : (List T128)} {r : (List UInt8)} (h : f101 x0 = some r) :
 FnD cx 101 [k39.a x0] [] (sA r) [] := c101n LF h

-- f82 spec.FormatProgram
def f82 (x0 : (List T128)) : Option ((List UInt8)) :=
 bd (f64 x0) fun v1 =>
 if (!v1) = true then
 some ([] : List UInt8)
 else
 bd (f101 x0) fun v4 =>
 some v4
theorem c82 {x0 : (List T128)} {r : (List UInt8)} (h : f82 x0 = some r) :
 FnD cx 82 [k39.a x0] [] (sA r) [] := by
 unfold f82 at h
 refine fnD_intro (fn := Tryz.f82) (by kernel_rfl) rfl (by kernel_rfl) (by kernel_rfl) fun E => ?_
 refine CD.seq (rg [] [] [] a0 (CD.seq (CD.seq ?_)))
 rcases bd_some h with ⟨v1, g2, h⟩
 refine rg [(1, hC (bA v1) [] [] [])] [(5, bA (!v1))] [] (a1 (c64 g2) a0) (br h (fun g3 h => ?_) (fun g3 h => ?_))
 refine CD.seq (rg [] [(2, sA ([] : List UInt8))] [] a0 (CD.ret ?_))
 obtain rfl := sm h
 exact NX.ret [] a0 (by kernel_rfl)
 refine CD.skip (CD.seq ?_)
 rcases bd_some h with ⟨v4, g5, h⟩
 refine rg [(1, hC (sA v4) [] [] [])] [(2, sA v4)] [] (a1 (c101 g5) a0) (CD.ret ?_)
 obtain rfl := sm h
 exact NX.ret [] a0 (by kernel_rfl)


-- f60 spec.ParseProgram
def f60 (x0 : (List UInt8)) : Option ((List T128) × Bool) :=
 if (decide ((ln x0) > 4000)) = true then
 some (([] : List T128), false)
 else
 bd (f81 x0 10) fun v2 =>
 bd (f80 v2 0 4) fun v4 =>
 bd (f82 v4.1) fun v6 =>
 if (!(v6 == x0)) = true then
 some (([] : List T128), false)
 else
 bd (f64 v4.1) fun v9 =>
 if (!v9) = true then
 some (([] : List T128), false)
 else
 some (v4.1, true)
theorem c60 {x0 : (List UInt8)} {r : (List T128) × Bool} (h : f60 x0 = some r) :
 FnD cx 60 [sA x0] [] (.tup [k39.a r.1, bA r.2]) [] := by
 unfold f60 at h
 refine fnD_intro (fn := Tryz.f60) (by kernel_rfl) rfl (by kernel_rfl) (by kernel_rfl) fun E => ?_
 refine CD.seq (rg [] [] [] a0 (CD.seq (CD.seq (rg [] [(8, bA (decide ((ln x0) > 4000)))] [] a0 (br h (fun g1 h => ?_) (fun g1 h => ?_))))))
 refine CD.seq (rg [] [(2, k39.a ([] : List T128)), (3, bA false)] [] a0 (CD.ret ?_))
 obtain rfl := sm h
 exact NX.ret [] a0 (by kernel_rfl)
 refine CD.skip (CD.seq ?_)
 rcases bd_some h with ⟨v2, g3, h⟩
 rcases bd_some h with ⟨v4, g5, h⟩
 refine rg [(1, hC (k93.a v2) [] [] []), (2, hC (.tup [k39.a v4.1, iA v4.2]) [] [] [])] [(4, k39.a v4.1)] [] (a1 (c81d g3) (a1 (c80 g5) a0)) (CD.seq (CD.seq ?_))
 rcases bd_some h with ⟨v6, g7, h⟩
 rcases if_some h with ⟨g8, h⟩ | ⟨g8, h⟩
 refine rg [(1, hC (sA v6) [] [] []), (4, hT1)] [(24, bA true)] [] (a1 (c82 g7) (a1 (oB (c := (!(v6 == x0))) g8) a0)) (CD.condT (b := true) (by kernel_rfl) rfl (CD.seq (rg [] [(2, k39.a ([] : List T128)), (3, bA false)] [] a0 (CD.ret ?_))))
 obtain rfl := sm h
 exact NX.ret [] a0 (by kernel_rfl)
 rcases bd_some h with ⟨v9, g10, h⟩
 refine rg [(1, hC (sA v6) [] [] []), (4, hF1), (6, hC (bA v9) [] [] [])] [(24, bA (!v9))] [] (a1 (c82 g7) (a1 (oB (c := (!(v6 == x0))) g8) (a1 (c64 g10) a0))) (br h (fun g11 h => ?_) (fun g11 h => ?_))
 refine CD.seq (rg [] [(2, k39.a ([] : List T128)), (3, bA false)] [] a0 (CD.ret ?_))
 obtain rfl := sm h
 exact NX.ret [] a0 (by kernel_rfl)
 refine CD.skip (CD.seq (rg [] [(2, k39.a v4.1), (3, bA true)] [] a0 (CD.ret ?_)))
 obtain rfl := sm h
 exact NX.ret [] a0 (by kernel_rfl)


-- f83 spec.l18Rd).of
def f83 (x0 : (List (List UInt8))) (x1 : T74) : Option ((List UInt8) × T74) :=
 bd (f38 (ln x0) x1) fun v1 =>
 bd (ix x0 v1.1) fun v3 =>
 some (v3, v1.2)
theorem c83 {x0 : (List (List UInt8))} {x1 : T74} {r : (List UInt8) × T74} (h : f83 x0 x1 = some r) :
 FnD cx 83 [.ref 0 [], k93.a x0] [bx (k74.a x1)] (sA r.1) [bx (k74.a r.2)] := by
 unfold f83 at h
 refine fnD_intro (fn := Tryz.f83) (by kernel_rfl) rfl (by kernel_rfl) (by kernel_rfl) fun E => ?_
 refine CD.seq (rg [] [] [] a0 (CD.seq ?_))
 rcases bd_some h with ⟨v1, g2, h⟩
 rcases bd_some h with ⟨v3, g4, h⟩
 refine rg [(3, hV (iA (ln x0))), (4, hC (iA v1.1) [bx (k74.a v1.2)] [0] []), (5, hE (.str v3))] [(4, sA v3)] [(0, bx (k74.a v1.2))] (a1 (o_ln k9 x0) (a1 (c38 g2) (a1 (o_ix k9 g4) a0))) (CD.ret ?_)
 obtain rfl := sm h
 exact NX.ret [0] a0 (by kernel_rfl)


-- f41 spec.l18Rd).num
def f41 (x0 : (List Int)) (x1 : T74) : Option (Int × T74) :=
 bd (f38 (ln x0) x1) fun v1 =>
 bd (ix x0 v1.1) fun v3 =>
 some (v3, v1.2)
theorem c41 {x0 : (List Int)} {x1 : T74} {r : Int × T74} (h : f41 x0 x1 = some r) :
 FnD cx 41 [.ref 0 [], k27.a x0] [bx (k74.a x1)] (iA r.1) [bx (k74.a r.2)] := by
 unfold f41 at h
 refine fnD_intro (fn := Tryz.f41) (by kernel_rfl) rfl (by kernel_rfl) (by kernel_rfl) fun E => ?_
 refine CD.seq (rg [] [] [] a0 (CD.seq ?_))
 rcases bd_some h with ⟨v1, g2, h⟩
 rcases bd_some h with ⟨v3, g4, h⟩
 refine rg [(3, hV (iA (ln x0))), (4, hC (iA v1.1) [bx (k74.a v1.2)] [0] []), (5, hE (.int .i64 v3))] [(4, iA v3)] [(0, bx (k74.a v1.2))] (a1 (o_ln k3 x0) (a1 (c38 g2) (a1 (o_ix k3 g4) a0))) (CD.ret ?_)
 obtain rfl := sm h
 exact NX.ret [0] a0 (by kernel_rfl)


-- f84 spec.l6Chains
def f84 (x0 : T74) : Option ((List T53) × (List T60) × T74) :=
 bd (f41 ([1, 2, 5] : List Int) x0) fun v1 =>
 jn (
 bd (f41 ([2, 3, 1, 4] : List Int) v1.2) fun v53 =>
 iter (fun (v69 : T74 × (List T60) × Int × Int) =>
 if (decide (v69.2.2.2 > 0)) = true then
 bd (f41 ([2, 5, 0, 3, 6, 1] : List Int) v69.1) fun v73 =>
 jn (
 bd (f38 2 v73.2) fun v78 =>
 if (v78.1 == 0) = true then
 some (.inl (v78.2, 2))
 else
 some (.inl (v78.2, 1))) fun (v75 : T74 × Int) =>
 bd (ap 24 v69.2.1 ([(⟨v75.2, v69.2.2.1, v73.1⟩ : T60)] : List T60)) fun v81 =>
 some (.inl (v75.1, v81, v73.1, sb v69.2.2.2 1))
 else
 some (.inr (.inl (v69.1, v69.2.1)))) (v53.2, [], v1.1, v53.1)) fun (v50 : T74 × (List T60)) =>
 bd (f38 3 v50.1) fun v83 =>
 if (v83.1 == 0) = true then
 bd (f41 ([1, 2, 5] : List Int) v83.2) fun v86 =>
 bd (f41 ([0, 2, 3, 5] : List Int) v86.2) fun v88 =>
 bd (ap 24 ([] : List T53) ([(⟨false, v86.1, v88.1⟩ : T53)] : List T53)) fun v90 =>
 some (v90, v50.2, v88.2)
 else
 some ([], v50.2, v83.2)
theorem c84 {x0 : T74} {r : (List T53) × (List T60) × T74} (h : f84 x0 = some r) :
 FnD cx 84 [.ref 0 []] [bx (k74.a x0)] (.agg [.own 1 r.1.length, .own 2 r.2.1.length]) [bx (k74.a r.2.2), k53.r 54 (.node [.cell, .cell, .cell]) r.1, k60.r 61 (.node [.cell, .cell, .cell]) r.2.1] := by
 unfold f84 at h
 refine fnD_intro (fn := Tryz.f84) (by kernel_rfl) rfl (by kernel_rfl) (by kernel_rfl) fun E => ?_
 refine CD.seq (rg [] [(2, .ref 1002 [])] [(1002, bx (.agg [.nils (.node [.cell, .cell, .cell]), .nils (.node [.cell, .cell, .cell])]))] a0 (CD.seq (rg [] [(3, .ref 1003 [])] [(1003, bx (.agg [.nils (.node [.cell, .cell, .cell]), .nils (.node [.cell, .cell, .cell])]))] a0 (CD.seq ?_))))
 rcases bd_some h with ⟨v1, g2, h⟩
 refine rg [(2, hC (iA v1.1) [bx (k74.a v1.2)] [0] [])] [(4, iA v1.1)] [(0, bx (k74.a v1.2))] (a1 (c41 g2) a0) (NX.own0b 1003 1031 [1] 61 (sh := (.node [.cell, .cell, .cell])) (c := .agg [.nils (.node [.cell, .cell, .cell]), .nils (.node [.cell, .cell, .cell])]) (c' := .agg [.nils (.node [.cell, .cell, .cell]), .own 1031 0]) (by kernel_rfl) (by kernel_rfl) (by kernel_rfl) (by kernel_rfl) (CD.join (fun (v50 : T74 × (List T60)) => ⟨[(0, .ref 0 []), (2, .ref 1002 []), (3, .ref 1003 [])], [(1031, k60.r 61 (.node [.cell, .cell, .cell]) v50.2), (0, bx (k74.a v50.1)), (1002, bx (.agg [.nils (.node [.cell, .cell, .cell]), .nils (.node [.cell, .cell, .cell])])), (1003, bx (.agg [.nils (.node [.cell, .cell, .cell]), .own 1031 v50.2.length]))]⟩) h (fun u51 h q52 => ?_) (fun v50 h => ?_)))
 refine CD.seq ?_
 rcases bd_some h with ⟨v53, g54, h⟩
 refine rg [(2, hC (iA v53.1) [bx (k74.a v53.2)] [0] [])] [(5, iA v53.1)] [(0, bx (k74.a v53.2))] (a1 (c41 g54) a0) (CD.block (CD.loopK (fun (v69 : T74 × (List T60) × Int × Int) => ⟨[(0, .ref 0 []), (2, .ref 1002 []), (3, .ref 1003 []), (4, iA v69.2.2.1), (5, iA v69.2.2.2)], [(1031, k60.r 61 (.node [.cell, .cell, .cell]) v69.2.1), (0, bx (k74.a v69.1)), (1002, bx (.agg [.nils (.node [.cell, .cell, .cell]), .nils (.node [.cell, .cell, .cell])])), (1003, bx (.agg [.nils (.node [.cell, .cell, .cell]), .own 1031 v69.2.1.length]))]⟩) h (by kernel_rfl) (fun v69 u70 h q71 => ?_)))
 refine CD.seq (CD.seq (rg [] [(15, bA (decide (v69.2.2.2 > 0)))] [] a0 (br h (fun g72 h => ?_) (fun g72 h => ?_))))
 refine CD.skip (CD.seq (CD.block (CD.seq ?_)))
 rcases bd_some h with ⟨v73, g74, h⟩
 refine rg [(3, hC (iA v73.1) [bx (k74.a v73.2)] [0] [])] [(6, .ref 1006 [])] [(1006, bx (k60.a (⟨1, v69.2.2.1, v73.1⟩ : T60))), (0, bx (k74.a v73.2))] (a1 (c41 g74) a0) (CD.join (fun (v75 : T74 × Int) => ⟨[(0, .ref 0 []), (2, .ref 1002 []), (3, .ref 1003 []), (5, iA v69.2.2.2), (6, .ref 1006 [])], [(1031, k60.r 61 (.node [.cell, .cell, .cell]) v69.2.1), (0, bx (k74.a v75.1)), (1002, bx (.agg [.nils (.node [.cell, .cell, .cell]), .nils (.node [.cell, .cell, .cell])])), (1003, bx (.agg [.nils (.node [.cell, .cell, .cell]), .own 1031 v69.2.1.length])), (1006, bx (k60.a (⟨v75.2, v69.2.2.1, v73.1⟩ : T60)))]⟩) h (fun u76 h q77 => ?_) (fun v75 h => ?_))
 refine CD.seq ?_
 rcases bd_some h with ⟨v78, g79, h⟩
 refine rg [(1, hC (iA v78.1) [bx (k74.a v78.2)] [0] [])] [(25, bA (v78.1 == 0))] [(0, bx (k74.a v78.2))] (a1 (c38 g79) a0) (br h (fun g80 h => ?_) (fun g80 h => ?_))
 refine rg [] [] [(1006, bx (k60.a (⟨2, v69.2.2.1, v73.1⟩ : T60)))] a0 ?_
 obtain rfl := sm h
 exact NX.inl (by kernel_rfl)
 refine CD.skip ?_
 obtain rfl := sm h
 exact NX.inl (by kernel_rfl)
 refine CD.seq ?_
 rcases bd_some h with ⟨v81, g82, h⟩
 refine rg [(4, hW (.own 1031 v81.length) [(1031, k60.r 61 (.node [.cell, .cell, .cell]) v81)])] [] [(1003, bx (.agg [.nils (.node [.cell, .cell, .cell]), .own 1031 v81.length])), (1031, k60.r 61 (.node [.cell, .cell, .cell]) v81)] (a1 (o_ap k60 1031 61 (.node [.cell, .cell, .cell]) g82 trivial) a0) (rg [] [(4, iA v73.1)] [] a0 (NX.blN (rg [] [(5, iA (sb v69.2.2.2 1))] [] a0 ?_)))
 obtain rfl := sm h
 exact NX.inl (by kernel_rfl)
 refine CD.exit ?_
 obtain rfl := sm h
 obtain rfl := q71 _ rfl
 exact NX.th (NX.lq (NX.brk (NX.inl (by kernel_rfl))))
 refine CD.seq (CD.seq ?_)
 rcases bd_some h with ⟨v83, g84, h⟩
 refine rg [(1, hC (iA v83.1) [bx (k74.a v83.2)] [0] [])] [(37, bA (v83.1 == 0))] [(0, bx (k74.a v83.2))] (a1 (c38 g84) a0) (br h (fun g85 h => ?_) (fun g85 h => ?_))
 rcases bd_some h with ⟨v86, g87, h⟩
 rcases bd_some h with ⟨v88, g89, h⟩
 rcases bd_some h with ⟨v90, g91, h⟩
 refine rg [(0, hD [1003]), (1, hD [1003]), (4, (hC (iA v86.1) [bx (k74.a v86.2)] [0] []).g [0]), (7, (hC (iA v88.1) [bx (k74.a v88.2)] [0] []).g [0]), (10, hW (.own 1048 v90.length) [(1048, k53.r 54 (.node [.cell, .cell, .cell]) v90)]), (11, hD [1003]), (12, hD [1003])] [] [(1003, bx (.agg [.own 1048 v90.length, .own 1031 v50.2.length])), (1048, k53.r 54 (.node [.cell, .cell, .cell]) v90), (0, bx (k74.a v88.2))] (a1 (c41 g87) (a1 (c41 g89) (a1 (o_ap0 k53 1048 54 (.node [.cell, .cell, .cell]) g91 trivial) a0))) (CD.seq (rg [] [] [(1002, bx (.agg [.own 1048 v90.length, .own 1031 v50.2.length]))] a0 (CD.ret ?_)))
 obtain rfl := sm h
 exact NX.ret [0, 1048, 1031] a0 (by kernel_rfl)
 refine CD.skip (CD.seq (rg [] [] [(1002, bx (.agg [.nils (.node [.cell, .cell, .cell]), .own 1031 v50.2.length]))] a0 (CD.ret ?_)))
 obtain rfl := sm h
 exact NX.own0b 1002 5000 [0] 54 (sh := (.node [.cell, .cell, .cell])) (c := .agg [.nils (.node [.cell, .cell, .cell]), .own 1031 v50.2.length]) (c' := .agg [.own 5000 0, .own 1031 v50.2.length]) (by kernel_rfl) (by kernel_rfl) (by kernel_rfl) (by kernel_rfl) (NX.ret [0, 5000, 1031] a0 (by kernel_rfl))

theorem c84d {x0 : T74} {r : (List T53) × (List T60) × T74} (h : f84 x0 = some r) :
 FnD cx 84 [.ref 0 []] [bx (k74.a x0)] (k25.a (⟨r.1, r.2.1⟩ : T25)) [bx (k74.a r.2.2)] :=
 FnD.data (xs := [.agg [.own 1 r.1.length, .own 2 r.2.1.length]]) (ys := [k25.a (⟨r.1, r.2.1⟩ : T25)]) (p := (True ∧ True)) (q := (((r.1.length = (k53.m r.1).length) ∧ ((r.2.1.length = (k60.m r.2.1).length) ∧ True)) ∧ True)) (c84 h) [0] (by kernel_rfl) (by kernel_rfl) a0 (by kernel_rfl) (a1 (k_len' k53 r.1) (a1 (k_len' k60 r.2.1) a0))


-- f61 spec.l10Pre
def f61 (x0 : T74) : Option ((List T53) × (List T60) × T74) :=
 bd (f83 ([([116, 114, 117, 101, 32, 124, 32, 97, 126, 110, 105, 108] : List UInt8), ([97, 33, 61, 110, 105, 108, 32, 124, 32, 97, 126, 110, 105, 108] : List UInt8), ([116, 114, 117, 101, 32, 124, 32, 97, 126, 110, 105, 108, 32, 42, 32, 98, 126, 110, 105, 108] : List UInt8), ([116, 114, 117, 101, 32, 124, 32, 97, 62, 98, 32, 42, 32, 98, 126, 110, 105, 108] : List UInt8), ([116, 114, 117, 101, 32, 124, 32, 97, 62, 110, 105, 108] : List UInt8), ([97, 61, 98, 32, 124, 32, 97, 126, 110, 105, 108] : List UInt8), ([116, 114, 117, 101, 32, 124, 32, 97, 62, 112, 32, 42, 32, 112, 126, 110, 105, 108] : List UInt8), ([116, 114, 117, 101, 32, 124, 32, 101, 109, 112] : List UInt8), ([116, 114, 117, 101, 32, 124, 32, 97, 126, 98, 32, 42, 32, 98, 62, 110, 105, 108] : List UInt8)] : List (List UInt8)) x0) fun v1 =>
 bd (f59 v1.1) fun v3 =>
 if v3.2.2 = true then
 bd (f38 4 v1.2) fun v6 =>
 if (decide (v6.1 > 0)) = true then
 some (v3.1, v3.2.1, v6.2)
 else
 bd (f84 v6.2) fun v9 =>
 some (v9.1, v9.2.1, v9.2.2)
 else
 bd (f84 v1.2) fun v11 =>
 some (v11.1, v11.2.1, v11.2.2)
theorem c61 {x0 : T74} {r : (List T53) × (List T60) × T74} (h : f61 x0 = some r) :
 FnD cx 61 [.ref 0 []] [bx (k74.a x0)] (.agg [.own 1 r.1.length, .own 2 r.2.1.length]) [bx (k74.a r.2.2), k53.r 54 (.node [.cell, .cell, .cell]) r.1, k60.r 61 (.node [.cell, .cell, .cell]) r.2.1] := by
 unfold f61 at h
 refine fnD_intro (fn := Tryz.f61) (by kernel_rfl) rfl (by kernel_rfl) (by kernel_rfl) fun E => ?_
 refine CD.seq (rg [] [(2, .ref 1002 [])] [(1002, bx (.agg [.nils (.node [.cell, .cell, .cell]), .nils (.node [.cell, .cell, .cell])]))] a0 (CD.seq ?_))
 rcases bd_some h with ⟨v1, g2, h⟩
 refine rg [(2, hC (sA v1.1) [bx (k74.a v1.2)] [0] [])] [(3, sA v1.1)] [(0, bx (k74.a v1.2))] (a1 (c83 g2) a0) (CD.seq ?_)
 rcases bd_some h with ⟨v3, g4, h⟩
 refine rg [(1, hC (.tup [.agg [.own 0 v3.1.length, .own 1 v3.2.1.length], bA v3.2.2]) [k53.r 54 (.node [.cell, .cell, .cell]) v3.1, k60.r 61 (.node [.cell, .cell, .cell]) v3.2.1] [] [2220, 2221])] [(4, .ref 1004 []), (5, bA v3.2.2)] [(1004, bx (.agg [.own 2220 v3.1.length, .own 2221 v3.2.1.length])), (2221, k60.r 61 (.node [.cell, .cell, .cell]) v3.2.1), (2220, k53.r 54 (.node [.cell, .cell, .cell]) v3.1)] (a1 (c59 g4) a0) (CD.seq (CD.seq ?_))
 rcases if_some h with ⟨g5, h⟩ | ⟨g5, h⟩
 rcases bd_some h with ⟨v6, g7, h⟩
 refine rg [(1, hT1), (3, hC (iA v6.1) [bx (k74.a v6.2)] [0] [])] [(19, bA (decide (v6.1 > 0)))] [(0, bx (k74.a v6.2))] (a1 (oB (c := v3.2.2) g5) (a1 (c38 g7) a0)) (br h (fun g8 h => ?_) (fun g8 h => ?_))
 refine CD.seq (rg [] [] [(1002, bx (.agg [.own 2220 v3.1.length, .own 2221 v3.2.1.length]))] a0 (CD.ret ?_))
 obtain rfl := sm h
 exact NX.ret [0, 2220, 2221] a0 (by kernel_rfl)
 refine CD.skip (CD.seq ?_)
 rcases bd_some h with ⟨v9, g10, h⟩
 refine rg [(1, hC (.agg [.own 1 v9.1.length, .own 2 v9.2.1.length]) [bx (k74.a v9.2.2), k53.r 54 (.node [.cell, .cell, .cell]) v9.1, k60.r 61 (.node [.cell, .cell, .cell]) v9.2.1] [0] [2440, 2441])] [] [(1002, bx (.agg [.own 2440 v9.1.length, .own 2441 v9.2.1.length])), (2441, k60.r 61 (.node [.cell, .cell, .cell]) v9.2.1), (2440, k53.r 54 (.node [.cell, .cell, .cell]) v9.1), (0, bx (k74.a v9.2.2))] (a1 (c84 g10) a0) (CD.ret ?_)
 obtain rfl := sm h
 exact NX.ret [0, 2440, 2441] a0 (by kernel_rfl)
 refine rg [(1, hF1)] [(19, bA false)] [] (a1 (oB (c := v3.2.2) g5) a0) (CD.condF (b := false) (by kernel_rfl) rfl (CD.skip (CD.seq ?_)))
 rcases bd_some h with ⟨v11, g12, h⟩
 refine rg [(1, hC (.agg [.own 1 v11.1.length, .own 2 v11.2.1.length]) [bx (k74.a v11.2.2), k53.r 54 (.node [.cell, .cell, .cell]) v11.1, k60.r 61 (.node [.cell, .cell, .cell]) v11.2.1] [0] [2440, 2441])] [] [(1002, bx (.agg [.own 2440 v11.1.length, .own 2441 v11.2.1.length])), (2441, k60.r 61 (.node [.cell, .cell, .cell]) v11.2.1), (2440, k53.r 54 (.node [.cell, .cell, .cell]) v11.1), (0, bx (k74.a v11.2.2))] (a1 (c84 g12) a0) (CD.ret ?_)
 obtain rfl := sm h
 exact NX.ret [0, 2440, 2441] a0 (by kernel_rfl)

theorem c61d {x0 : T74} {r : (List T53) × (List T60) × T74} (h : f61 x0 = some r) :
 FnD cx 61 [.ref 0 []] [bx (k74.a x0)] (k25.a (⟨r.1, r.2.1⟩ : T25)) [bx (k74.a r.2.2)] :=
 FnD.data (xs := [.agg [.own 1 r.1.length, .own 2 r.2.1.length]]) (ys := [k25.a (⟨r.1, r.2.1⟩ : T25)]) (p := (True ∧ True)) (q := (((r.1.length = (k53.m r.1).length) ∧ ((r.2.1.length = (k60.m r.2.1).length) ∧ True)) ∧ True)) (c61 h) [0] (by kernel_rfl) (by kernel_rfl) a0 (by kernel_rfl) (a1 (k_len' k53 r.1) (a1 (k_len' k60 r.2.1) a0))


-- f122 spec.l8Simple
def f122 (x0 : T74) : Option (T128 × T74) :=
 bd (f38 5 x0) fun v1 =>
 bd (f41 ([1, 2, 3, 1, 4] : List Int) v1.2) fun v3 =>
 bd (f41 ([2, 0, 1, 3, 5] : List Int) v3.2) fun v5 =>
 if ((ad 1 v1.1) == 4) = true then
 some ((⟨ad 1 v1.1, v3.1, 0, (⟨false, 0, 0⟩ : T53), (⟨[], []⟩ : T25), [], []⟩ : T128), v5.2)
 else
 if ((ad 1 v1.1) == 5) = true then
 some ((⟨ad 1 v1.1, v3.1, 0, (⟨false, 0, 0⟩ : T53), (⟨[], []⟩ : T25), [], []⟩ : T128), v5.2)
 else
 some ((⟨ad 1 v1.1, v3.1, v5.1, (⟨false, 0, 0⟩ : T53), (⟨[], []⟩ : T25), [], []⟩ : T128), v5.2)
theorem c122 {x0 : T74} {r : T128 × T74} (h : f122 x0 = some r) :
 FnD cx 122 [.ref 0 []] [bx (k74.a x0)] (k128.a r.1) [bx (k74.a r.2)] := by
 unfold f122 at h
 refine fnD_intro (fn := Tryz.f122) (by kernel_rfl) rfl (by kernel_rfl) (by kernel_rfl) fun E => ?_
 refine CD.seq (rg [] [(2, .ref 1002 [])] [(1002, bx (.agg [iA 0, iA 0, iA 0, k53.a (⟨false, 0, 0⟩ : T53), .agg [.nils (.node [.cell, .cell, .cell]), .nils (.node [.cell, .cell, .cell])], .nils (.node [.cell, .cell, .cell, .node [.cell, .cell, .cell], .node [.cell, .cell], .cell, .cell]), .nils (.node [.cell, .cell, .cell, .node [.cell, .cell, .cell], .node [.cell, .cell], .cell, .cell])]))] a0 (CD.seq ?_))
 rcases bd_some h with ⟨v1, g2, h⟩
 rcases bd_some h with ⟨v3, g4, h⟩
 rcases bd_some h with ⟨v5, g6, h⟩
 refine rg [(1, hC (iA v1.1) [bx (k74.a v1.2)] [0] []), (5, hC (iA v3.1) [bx (k74.a v3.2)] [0] []), (8, hC (iA v5.1) [bx (k74.a v5.2)] [0] [])] [(3, .ref 1003 [])] [(1003, bx (.agg [iA (ad 1 v1.1), iA v3.1, iA v5.1, k53.a (⟨false, 0, 0⟩ : T53), .agg [.nils (.node [.cell, .cell, .cell]), .nils (.node [.cell, .cell, .cell])], .nils (.node [.cell, .cell, .cell, .node [.cell, .cell, .cell], .node [.cell, .cell], .cell, .cell]), .nils (.node [.cell, .cell, .cell, .node [.cell, .cell, .cell], .node [.cell, .cell], .cell, .cell])])), (0, bx (k74.a v5.2))] (a1 (c38 g2) (a1 (c41 g4) (a1 (c41 g6) a0))) (CD.seq (CD.seq ?_))
 rcases if_some h with ⟨g7, h⟩ | ⟨g7, h⟩
 refine rg [(3, hT1)] [(21, bA true)] [] (a1 (oB (c := ((ad 1 v1.1) == 4)) g7) a0) (CD.condT (b := true) (by kernel_rfl) rfl (rg [] [] [(1003, bx (.agg [iA (ad 1 v1.1), iA v3.1, iA 0, k53.a (⟨false, 0, 0⟩ : T53), .agg [.nils (.node [.cell, .cell, .cell]), .nils (.node [.cell, .cell, .cell])], .nils (.node [.cell, .cell, .cell, .node [.cell, .cell, .cell], .node [.cell, .cell], .cell, .cell]), .nils (.node [.cell, .cell, .cell, .node [.cell, .cell, .cell], .node [.cell, .cell], .cell, .cell])]))] a0 (CD.seq (rg [] [] [(1002, bx (.agg [iA (ad 1 v1.1), iA v3.1, iA 0, k53.a (⟨false, 0, 0⟩ : T53), .agg [.nils (.node [.cell, .cell, .cell]), .nils (.node [.cell, .cell, .cell])], .nils (.node [.cell, .cell, .cell, .node [.cell, .cell, .cell], .node [.cell, .cell], .cell, .cell]), .nils (.node [.cell, .cell, .cell, .node [.cell, .cell, .cell], .node [.cell, .cell], .cell, .cell])]))] a0 (CD.ret ?_)))))
 obtain rfl := sm h
 exact NX.ret [0] a0 (by kernel_rfl)
 refine rg [(3, hF1)] [(21, bA ((ad 1 v1.1) == 5))] [] (a1 (oB (c := ((ad 1 v1.1) == 4)) g7) a0) (br h (fun g8 h => ?_) (fun g8 h => ?_))
 refine rg [] [] [(1003, bx (.agg [iA (ad 1 v1.1), iA v3.1, iA 0, k53.a (⟨false, 0, 0⟩ : T53), .agg [.nils (.node [.cell, .cell, .cell]), .nils (.node [.cell, .cell, .cell])], .nils (.node [.cell, .cell, .cell, .node [.cell, .cell, .cell], .node [.cell, .cell], .cell, .cell]), .nils (.node [.cell, .cell, .cell, .node [.cell, .cell, .cell], .node [.cell, .cell], .cell, .cell])]))] a0 (CD.seq (rg [] [] [(1002, bx (.agg [iA (ad 1 v1.1), iA v3.1, iA 0, k53.a (⟨false, 0, 0⟩ : T53), .agg [.nils (.node [.cell, .cell, .cell]), .nils (.node [.cell, .cell, .cell])], .nils (.node [.cell, .cell, .cell, .node [.cell, .cell, .cell], .node [.cell, .cell], .cell, .cell]), .nils (.node [.cell, .cell, .cell, .node [.cell, .cell, .cell], .node [.cell, .cell], .cell, .cell])]))] a0 (CD.ret ?_)))
 obtain rfl := sm h
 exact NX.ret [0] a0 (by kernel_rfl)
 refine CD.skip (CD.seq (rg [] [] [(1002, bx (.agg [iA (ad 1 v1.1), iA v3.1, iA v5.1, k53.a (⟨false, 0, 0⟩ : T53), .agg [.nils (.node [.cell, .cell, .cell]), .nils (.node [.cell, .cell, .cell])], .nils (.node [.cell, .cell, .cell, .node [.cell, .cell, .cell], .node [.cell, .cell], .cell, .cell]), .nils (.node [.cell, .cell, .cell, .node [.cell, .cell, .cell], .node [.cell, .cell], .cell, .cell])]))] a0 (CD.ret ?_)))
 obtain rfl := sm h
 exact NX.ret [0] a0 (by kernel_rfl)


-- f123 spec.l8Test
def f123 (x0 : T74) : Option (T53 × T74) :=
 bd (f38 3 x0) fun v1 =>
 bd (f41 ([1, 2, 3] : List Int) v1.2) fun v3 =>
 bd (f41 ([0, 2, 0, 5] : List Int) v3.2) fun v5 =>
 some ((⟨v1.1 == 0, v3.1, v5.1⟩ : T53), v5.2)
theorem c123 {x0 : T74} {r : T53 × T74} (h : f123 x0 = some r) :
 FnD cx 123 [.ref 0 []] [bx (k74.a x0)] (k53.a r.1) [bx (k74.a r.2)] := by
 unfold f123 at h
 refine fnD_intro (fn := Tryz.f123) (by kernel_rfl) rfl (by kernel_rfl) (by kernel_rfl) fun E => ?_
 refine CD.seq (rg [] [(2, .ref 1002 [])] [(1002, bx (k53.a (⟨false, 0, 0⟩ : T53)))] a0 (CD.seq ?_))
 rcases bd_some h with ⟨v1, g2, h⟩
 rcases bd_some h with ⟨v3, g4, h⟩
 rcases bd_some h with ⟨v5, g6, h⟩
 refine rg [(1, hC (iA v1.1) [bx (k74.a v1.2)] [0] []), (5, hC (iA v3.1) [bx (k74.a v3.2)] [0] []), (8, hC (iA v5.1) [bx (k74.a v5.2)] [0] [])] [] [(1002, bx (k53.a (⟨v1.1 == 0, v3.1, v5.1⟩ : T53))), (0, bx (k74.a v5.2))] (a1 (c38 g2) (a1 (c41 g4) (a1 (c41 g6) a0))) (CD.ret ?_)
 obtain rfl := sm h
 exact NX.ret [0] a0 (by kernel_rfl)


-- f128 spec.l3Point
def f128 (x0 : T74) : Option (T60 × T74) :=
 bd (f41 ([1, 2, 3, 5, 4, 6] : List Int) x0) fun v1 =>
 bd (f41 ([2, 0, 3, 1, 5, 0, 6] : List Int) v1.2) fun v3 =>
 bd (f38 2 v3.2) fun v5 =>
 if (v5.1 == 0) = true then
 some ((⟨2, v1.1, v3.1⟩ : T60), v5.2)
 else
 some ((⟨1, v1.1, v3.1⟩ : T60), v5.2)
theorem c128 {x0 : T74} {r : T60 × T74} (h : f128 x0 = some r) :
 FnD cx 128 [.ref 0 []] [bx (k74.a x0)] (k60.a r.1) [bx (k74.a r.2)] := by
 unfold f128 at h
 refine fnD_intro (fn := Tryz.f128) (by kernel_rfl) rfl (by kernel_rfl) (by kernel_rfl) fun E => ?_
 refine CD.seq (rg [] [(2, .ref 1002 [])] [(1002, bx (k60.a (⟨0, 0, 0⟩ : T60)))] a0 (CD.seq ?_))
 rcases bd_some h with ⟨v1, g2, h⟩
 rcases bd_some h with ⟨v3, g4, h⟩
 refine rg [(2, hC (iA v1.1) [bx (k74.a v1.2)] [0] []), (5, hC (iA v3.1) [bx (k74.a v3.2)] [0] [])] [(3, .ref 1003 [])] [(1003, bx (k60.a (⟨1, v1.1, v3.1⟩ : T60))), (0, bx (k74.a v3.2))] (a1 (c41 g2) (a1 (c41 g4) a0)) (CD.seq (CD.seq ?_))
 rcases bd_some h with ⟨v5, g6, h⟩
 refine rg [(1, hC (iA v5.1) [bx (k74.a v5.2)] [0] [])] [(13, bA (v5.1 == 0))] [(0, bx (k74.a v5.2))] (a1 (c38 g6) a0) (br h (fun g7 h => ?_) (fun g7 h => ?_))
 refine rg [] [] [(1003, bx (k60.a (⟨2, v1.1, v3.1⟩ : T60)))] a0 (CD.seq (rg [] [] [(1002, bx (k60.a (⟨2, v1.1, v3.1⟩ : T60)))] a0 (CD.ret ?_)))
 obtain rfl := sm h
 exact NX.ret [0] a0 (by kernel_rfl)
 refine CD.skip (CD.seq (rg [] [] [(1002, bx (k60.a (⟨1, v1.1, v3.1⟩ : T60)))] a0 (CD.ret ?_)))
 obtain rfl := sm h
 exact NX.ret [0] a0 (by kernel_rfl)


-- f124 spec.l3Draw
def f124 (x0 : T74) : Option ((List T53) × (List T60) × T74) :=
 jn (
 bd (f41 ([1, 0, 2, 0] : List Int) x0) fun v45 =>
 iter (fun (v59 : T74 × (List T53) × Int) =>
 if (decide (v59.2.2 > 0)) = true then
 bd (f38 3 v59.1) fun v63 =>
 bd (f41 ([1, 2, 3, 5] : List Int) v63.2) fun v65 =>
 bd (f41 ([0, 2, 3, 1, 6] : List Int) v65.2) fun v67 =>
 bd (ap 24 v59.2.1 ([(⟨v63.1 == 0, v65.1, v67.1⟩ : T53)] : List T53)) fun v69 =>
 some (.inl (v67.2, v69, sb v59.2.2 1))
 else
 some (.inr (.inl (v59.1, v59.2.1)))) (v45.2, [], v45.1)) fun (v42 : T74 × (List T53)) =>
 jn (
 bd (f41 ([2, 1, 3, 2, 0, 4] : List Int) v42.1) fun v103 =>
 iter (fun (v113 : T74 × (List T60) × Int) =>
 if (decide (v113.2.2 > 0)) = true then
 bd (f128 v113.1) fun v117 =>
 bd (ap 24 v113.2.1 ([v117.1] : List T60)) fun v119 =>
 some (.inl (v117.2, v119, sb v113.2.2 1))
 else
 some (.inr (.inl (v113.1, v113.2.1)))) (v103.2, [], v103.1)) fun (v100 : T74 × (List T60)) =>
 some (v42.2, v100.2, v100.1)
theorem c124 {x0 : T74} {r : (List T53) × (List T60) × T74} (h : f124 x0 = some r) :
 FnD cx 124 [.ref 0 []] [bx (k74.a x0)] (.agg [.own 1 r.1.length, .own 2 r.2.1.length]) [bx (k74.a r.2.2), k53.r 54 (.node [.cell, .cell, .cell]) r.1, k60.r 61 (.node [.cell, .cell, .cell]) r.2.1] := by
 unfold f124 at h
 refine fnD_intro (fn := Tryz.f124) (by kernel_rfl) rfl (by kernel_rfl) (by kernel_rfl) fun E => ?_
 refine CD.seq (rg [] [(2, .ref 1002 [])] [(1002, bx (.agg [.nils (.node [.cell, .cell, .cell]), .nils (.node [.cell, .cell, .cell])]))] a0 (CD.seq (rg [] [(3, .ref 1003 [])] [(1003, bx (.agg [.nils (.node [.cell, .cell, .cell]), .nils (.node [.cell, .cell, .cell])]))] a0 (NX.own0b 1003 1027 [0] 54 (sh := (.node [.cell, .cell, .cell])) (c := .agg [.nils (.node [.cell, .cell, .cell]), .nils (.node [.cell, .cell, .cell])]) (c' := .agg [.own 1027 0, .nils (.node [.cell, .cell, .cell])]) (by kernel_rfl) (by kernel_rfl) (by kernel_rfl) (by kernel_rfl) (CD.join (fun (v42 : T74 × (List T53)) => ⟨[(0, .ref 0 []), (2, .ref 1002 []), (3, .ref 1003 [])], [(1027, k53.r 54 (.node [.cell, .cell, .cell]) v42.2), (0, bx (k74.a v42.1)), (1002, bx (.agg [.nils (.node [.cell, .cell, .cell]), .nils (.node [.cell, .cell, .cell])])), (1003, bx (.agg [.own 1027 v42.2.length, .nils (.node [.cell, .cell, .cell])]))]⟩) h (fun u43 h q44 => ?_) (fun v42 h => ?_))))))
 refine CD.seq ?_
 rcases bd_some h with ⟨v45, g46, h⟩
 refine rg [(2, hC (iA v45.1) [bx (k74.a v45.2)] [0] [])] [(4, iA v45.1)] [(0, bx (k74.a v45.2))] (a1 (c41 g46) a0) (CD.block (CD.loopK (fun (v59 : T74 × (List T53) × Int) => ⟨[(0, .ref 0 []), (2, .ref 1002 []), (3, .ref 1003 []), (4, iA v59.2.2)], [(1027, k53.r 54 (.node [.cell, .cell, .cell]) v59.2.1), (0, bx (k74.a v59.1)), (1002, bx (.agg [.nils (.node [.cell, .cell, .cell]), .nils (.node [.cell, .cell, .cell])])), (1003, bx (.agg [.own 1027 v59.2.1.length, .nils (.node [.cell, .cell, .cell])]))]⟩) h (by kernel_rfl) (fun v59 u60 h q61 => ?_)))
 refine CD.seq (CD.seq (rg [] [(11, bA (decide (v59.2.2 > 0)))] [] a0 (br h (fun g62 h => ?_) (fun g62 h => ?_))))
 refine CD.skip (CD.seq (CD.block ?_))
 rcases bd_some h with ⟨v63, g64, h⟩
 rcases bd_some h with ⟨v65, g66, h⟩
 rcases bd_some h with ⟨v67, g68, h⟩
 rcases bd_some h with ⟨v69, g70, h⟩
 refine rg [(0, hD [1003]), (1, hD [1003]), (3, (hC (iA v63.1) [bx (k74.a v63.2)] [0] []).g [0]), (7, (hC (iA v65.1) [bx (k74.a v65.2)] [0] []).g [0]), (10, (hC (iA v67.1) [bx (k74.a v67.2)] [0] []).g [0]), (13, (hW (.own 1027 v69.length) [(1027, k53.r 54 (.node [.cell, .cell, .cell]) v69)]).g [1027]), (14, hD [1003]), (15, hD [1003])] [] [(1003, bx (.agg [.own 1027 v69.length, .nils (.node [.cell, .cell, .cell])])), (1027, k53.r 54 (.node [.cell, .cell, .cell]) v69), (0, bx (k74.a v67.2))] (a1 (c38 g64) (a1 (c41 g66) (a1 (c41 g68) (a1 (o_ap k53 1027 54 (.node [.cell, .cell, .cell]) g70 trivial) a0)))) (NX.blN (rg [] [(4, iA (sb v59.2.2 1))] [] a0 ?_))
 obtain rfl := sm h
 exact NX.inl (by kernel_rfl)
 refine CD.exit ?_
 obtain rfl := sm h
 obtain rfl := q61 _ rfl
 exact NX.th (NX.lq (NX.brk (NX.inl (by kernel_rfl))))
 refine NX.own0b 1003 1041 [1] 61 (sh := (.node [.cell, .cell, .cell])) (c := .agg [.own 1027 v42.2.length, .nils (.node [.cell, .cell, .cell])]) (c' := .agg [.own 1027 v42.2.length, .own 1041 0]) (by kernel_rfl) (by kernel_rfl) (by kernel_rfl) (by kernel_rfl) (CD.join (fun (v100 : T74 × (List T60)) => ⟨[(2, .ref 1002 []), (3, .ref 1003 [])], [(1027, k53.r 54 (.node [.cell, .cell, .cell]) v42.2), (1041, k60.r 61 (.node [.cell, .cell, .cell]) v100.2), (1002, bx (.agg [.nils (.node [.cell, .cell, .cell]), .nils (.node [.cell, .cell, .cell])])), (1003, bx (.agg [.own 1027 v42.2.length, .own 1041 v100.2.length])), (0, bx (k74.a v100.1))]⟩) h (fun u101 h q102 => ?_) (fun v100 h => ?_))
 refine CD.seq ?_
 rcases bd_some h with ⟨v103, g104, h⟩
 refine rg [(2, hC (iA v103.1) [bx (k74.a v103.2)] [0] [])] [(5, iA v103.1)] [(0, bx (k74.a v103.2))] (a1 (c41 g104) a0) (CD.block (CD.loopK (fun (v113 : T74 × (List T60) × Int) => ⟨[(0, .ref 0 []), (2, .ref 1002 []), (3, .ref 1003 []), (5, iA v113.2.2)], [(1027, k53.r 54 (.node [.cell, .cell, .cell]) v42.2), (1041, k60.r 61 (.node [.cell, .cell, .cell]) v113.2.1), (0, bx (k74.a v113.1)), (1002, bx (.agg [.nils (.node [.cell, .cell, .cell]), .nils (.node [.cell, .cell, .cell])])), (1003, bx (.agg [.own 1027 v42.2.length, .own 1041 v113.2.1.length]))]⟩) h (by kernel_rfl) (fun v113 u114 h q115 => ?_)))
 refine CD.seq (CD.seq (rg [] [(33, bA (decide (v113.2.2 > 0)))] [] a0 (br h (fun g116 h => ?_) (fun g116 h => ?_))))
 refine CD.skip (CD.seq (CD.block ?_))
 rcases bd_some h with ⟨v117, g118, h⟩
 rcases bd_some h with ⟨v119, g120, h⟩
 refine rg [(0, hD [1003]), (1, hD [1003]), (3, (hC (k60.a v117.1) [bx (k74.a v117.2)] [0] []).g [0]), (5, (hW (.own 1041 v119.length) [(1041, k60.r 61 (.node [.cell, .cell, .cell]) v119)]).g [1041]), (6, hD [1003]), (7, hD [1003])] [] [(1003, bx (.agg [.own 1027 v42.2.length, .own 1041 v119.length])), (1041, k60.r 61 (.node [.cell, .cell, .cell]) v119), (0, bx (k74.a v117.2))] (a1 (c128 g118) (a1 (o_ap k60 1041 61 (.node [.cell, .cell, .cell]) g120 trivial) a0)) (NX.blN (rg [] [(5, iA (sb v113.2.2 1))] [] a0 ?_))
 obtain rfl := sm h
 exact NX.inl (by kernel_rfl)
 refine CD.exit ?_
 obtain rfl := sm h
 obtain rfl := q115 _ rfl
 exact NX.th (NX.lq (NX.brk (NX.inl (by kernel_rfl))))
 refine CD.seq (rg [] [] [(1002, bx (.agg [.own 1027 v42.2.length, .own 1041 v100.2.length]))] a0 (CD.ret ?_))
 obtain rfl := sm h
 exact NX.ret [0, 1027, 1041] a0 (by kernel_rfl)

theorem c124d {x0 : T74} {r : (List T53) × (List T60) × T74} (h : f124 x0 = some r) :
 FnD cx 124 [.ref 0 []] [bx (k74.a x0)] (k25.a (⟨r.1, r.2.1⟩ : T25)) [bx (k74.a r.2.2)] :=
 FnD.data (xs := [.agg [.own 1 r.1.length, .own 2 r.2.1.length]]) (ys := [k25.a (⟨r.1, r.2.1⟩ : T25)]) (p := (True ∧ True)) (q := (((r.1.length = (k53.m r.1).length) ∧ ((r.2.1.length = (k60.m r.2.1).length) ∧ True)) ∧ True)) (c124 h) [0] (by kernel_rfl) (by kernel_rfl) a0 (by kernel_rfl) (a1 (k_len' k53 r.1) (a1 (k_len' k60 r.2.1) a0))

end Go.Sep.Y
