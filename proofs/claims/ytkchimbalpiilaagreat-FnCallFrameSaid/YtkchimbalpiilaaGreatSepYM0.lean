/- Part of the proof: mirrors of the functions of this seat, and that the functions give what their mirrors give. -/
import Derived.Test.YtkchimbalpiilaaGreatSepYT
set_option linter.all false
set_option linter.deprecated false
open Go Go.Sep Go.Proofs
set_option maxRecDepth 100000
namespace Go.Sep.Y
-- f9 spec.l18Open
def f9 (x0 : (List Int)) : Option (T74) :=
 if (decide ((ln x0) > 2000)) = true then
 bd (sl x0 0 2000) fun v2 =>
 some (⟨v2, 0⟩ : T74)
 else
 some (⟨x0, 0⟩ : T74)
theorem c9 {x0 : (List Int)} {r : T74} (h : f9 x0 = some r) :
 FnD cx 9 [k22.a x0] [] (.ref 0 []) [bx (k74.a r)] := by
 unfold f9 at h
 refine fnD_intro (fn := Tryz.f9) (by kernel_rfl) rfl (by kernel_rfl) (by kernel_rfl) fun E => ?_
 refine CD.seq (rg [] [] [] a0 (CD.seq (CD.seq (rg [(1, hV (iA (ln x0)))] [(5, bA (decide ((ln x0) > 2000)))] [] (a1 (o_ln k5 x0) a0) (br h (fun g1 h => ?_) (fun g1 h => ?_))))))
 rcases bd_some h with ⟨v2, g3, h⟩
 refine rg [(1, hV (k22.a v2))] [(0, k22.a v2)] [] (a1 (o_sl k5 .cell g3 trivial) a0) (CD.seq (rg [] [(2, .ref 1010 [])] [(1010, bx (k74.a (⟨v2, 0⟩ : T74)))] a0 (CD.ret ?_)))
 obtain rfl := sm h
 exact NX.ret [1010] a0 (by kernel_rfl)
 refine CD.skip (CD.seq (rg [] [(2, .ref 1010 [])] [(1010, bx (k74.a (⟨x0, 0⟩ : T74)))] a0 (CD.ret ?_)))
 obtain rfl := sm h
 exact NX.ret [1010] a0 (by kernel_rfl)


-- f38 spec.l18Rd).pick
def f38 (x0 : Int) (x1 : T74) : Option (Int × T74) :=
 jn (
 if (decide (x0 < 1)) = true then
 some (.inr (0, (⟨x1.f0, ad x1.f1 1⟩ : T74)))
 else
 if ((ln x1.f0) == 0) = true then
 some (.inr (0, (⟨x1.f0, ad x1.f1 1⟩ : T74)))
 else
 some (.inl ())) fun (v1 : Unit) =>
 if (decide ((sb (ad x1.f1 1) 1) < (ln x1.f0))) = true then
 bd (ix x1.f0 (sb (ad x1.f1 1) 1)) fun v7 =>
 bd (rmd .i64 (IntKind.wrap .i64 v7) x0) fun v9 =>
 some (v9, (⟨x1.f0, ad x1.f1 1⟩ : T74))
 else
 bd (rmd .i64 (sb (ad x1.f1 1) 1) (ln x1.f0)) fun v11 =>
 bd (ix x1.f0 v11) fun v13 =>
 bd (rmd .i64 (ad (mu (sb (ad x1.f1 1) 1) 7) 3) (ln x1.f0)) fun v15 =>
 bd (ix x1.f0 v15) fun v17 =>
 bd (quo .i64 (sb (ad x1.f1 1) 1) (ln x1.f0)) fun v19 =>
 bd (quo .i64 (ad (ad (ad (mu (IntKind.wrap .i64 v13) 131) (mu (IntKind.wrap .i64 v17) 1117)) (mu (sb (ad x1.f1 1) 1) 29)) (mu v19 53)) 64) fun v21 =>
 bd (rmd .i64 (bxor .i64 (ad (ad (ad (mu (IntKind.wrap .i64 v13) 131) (mu (IntKind.wrap .i64 v17) 1117)) (mu (sb (ad x1.f1 1) 1) 29)) (mu v19 53)) v21) x0) fun v23 =>
 some (v23, (⟨x1.f0, ad x1.f1 1⟩ : T74))
theorem c38 {x0 : Int} {x1 : T74} {r : Int × T74} (h : f38 x0 x1 = some r) :
 FnD cx 38 [.ref 0 [], iA x0] [bx (k74.a x1)] (iA r.1) [bx (k74.a r.2)] := by
 unfold f38 at h
 refine fnD_intro (fn := Tryz.f38) (by kernel_rfl) rfl (by kernel_rfl) (by kernel_rfl) fun E => ?_
 refine CD.seq (rg [] [] [] a0 (CD.seq (rg [] [] [(0, bx (k74.a (⟨x1.f0, ad x1.f1 1⟩ : T74)))] a0 (CD.join (fun (v1 : Unit) => ⟨[(0, .ref 0 []), (1, iA x0)], [(0, bx (k74.a (⟨x1.f0, ad x1.f1 1⟩ : T74)))]⟩) h (fun u2 h q3 => ?_) (fun v1 h => ?_)))))
 refine CD.seq ?_
 rcases if_some h with ⟨g4, h⟩ | ⟨g4, h⟩
 refine rg [(2, hT1)] [(24, bA true)] [] (a1 (oB (c := (decide (x0 < 1))) g4) a0) (CD.condT (b := true) (by kernel_rfl) rfl (CD.seq (rg [] [(4, iA 0)] [] a0 (CD.ret ?_))))
 obtain rfl := sm h
 obtain rfl := q3 _ rfl
 exact NX.ret [0] a0 (by kernel_rfl)
 refine rg [(2, hF1), (7, hV (iA (ln x1.f0)))] [(24, bA ((ln x1.f0) == 0))] [] (a1 (oB (c := (decide (x0 < 1))) g4) (a1 (o_ln k5 x1.f0) a0)) (br h (fun g5 h => ?_) (fun g5 h => ?_))
 refine CD.seq (rg [] [(4, iA 0)] [] a0 (CD.ret ?_))
 obtain rfl := sm h
 obtain rfl := q3 _ rfl
 exact NX.ret [0] a0 (by kernel_rfl)
 refine CD.skip ?_
 obtain rfl := sm h
 exact NX.inl (by kernel_rfl)
 refine CD.seq (rg [] [(5, iA (sb (ad x1.f1 1) 1))] [] a0 (CD.seq (CD.seq (rg [(5, hV (iA (ln x1.f0)))] [(36, bA (decide ((sb (ad x1.f1 1) 1) < (ln x1.f0))))] [] (a1 (o_ln k5 x1.f0) a0) (br h (fun g6 h => ?_) (fun g6 h => ?_))))))
 refine CD.seq ?_
 rcases bd_some h with ⟨v7, g8, h⟩
 rcases bd_some h with ⟨v9, g10, h⟩
 refine rg [(5, hE (.int .u8 v7)), (9, hV (iA v9))] [(4, iA v9)] [] (a1 (o_ix k5 g8) (a1 (o_rmd g10) a0)) (CD.ret ?_)
 obtain rfl := sm h
 exact NX.ret [0] a0 (by kernel_rfl)
 refine CD.skip (CD.seq ?_)
 rcases bd_some h with ⟨v11, g12, h⟩
 rcases bd_some h with ⟨v13, g14, h⟩
 rcases bd_some h with ⟨v15, g16, h⟩
 rcases bd_some h with ⟨v17, g18, h⟩
 rcases bd_some h with ⟨v19, g20, h⟩
 refine rg [(2, hD [0]), (3, hD [0]), (7, hD [0]), (8, hD [0]), (9, hV (iA (ln x1.f0))), (10, hV (iA v11)), (11, hE (.int .u8 v13)), (17, hD [0]), (18, hD [0]), (24, hD [0]), (25, hD [0]), (26, hV (iA (ln x1.f0))), (27, hV (iA v15)), (28, hE (.int .u8 v17)), (39, hD [0]), (40, hD [0]), (41, hV (iA (ln x1.f0))), (42, hV (iA v19))] [(6, iA (ad (ad (ad (mu (IntKind.wrap .i64 v13) 131) (mu (IntKind.wrap .i64 v17) 1117)) (mu (sb (ad x1.f1 1) 1) 29)) (mu v19 53)))] [] (a1 (o_ln k5 x1.f0) (a1 (o_rmd g12) (a1 (o_ix k5 g14) (a1 (o_ln k5 x1.f0) (a1 (o_rmd g16) (a1 (o_ix k5 g18) (a1 (o_ln k5 x1.f0) (a1 (o_quo g20) a0)))))))) (CD.seq ?_)
 rcases bd_some h with ⟨v21, g22, h⟩
 refine rg [(2, hV (iA v21))] [(6, iA (bxor .i64 (ad (ad (ad (mu (IntKind.wrap .i64 v13) 131) (mu (IntKind.wrap .i64 v17) 1117)) (mu (sb (ad x1.f1 1) 1) 29)) (mu v19 53)) v21))] [] (a1 (o_quo g22) a0) (CD.seq ?_)
 rcases bd_some h with ⟨v23, g24, h⟩
 refine rg [(2, hV (iA v23))] [(4, iA v23)] [] (a1 (o_rmd g24) a0) (CD.ret ?_)
 obtain rfl := sm h
 exact NX.ret [0] a0 (by kernel_rfl)


-- f81 spec.l18Cut
def f81 (x0 : (List UInt8)) (x1 : Int) : Option ((List (List UInt8))) :=
 jn (
 iter (fun (v19 : (List (List UInt8)) × Int × Int) =>
 if (decide (v19.2.2 ≤ (ln x0))) = true then
 jn (
 if (v19.2.2 == (ln x0)) = true then
 some (.inl true)
 else
 bd (ix x0 v19.2.2) fun v27 =>
 some (.inl ((v27.toNat : Int) == x1))) fun (v23 : Bool) =>
 if v23 = true then
 bd (sl x0 v19.2.1 v19.2.2) fun v30 =>
 bd (ap 16 v19.1 ([v30] : List (List UInt8))) fun v32 =>
 some (.inl (v32, ad v19.2.2 1, ad v19.2.2 1))
 else
 some (.inl (v19.1, v19.2.1, ad v19.2.2 1))
 else
 some (.inr (.inl v19.1))) (([] : List (List UInt8)), 0, 0)) fun (v1 : (List (List UInt8))) =>
 some v1
theorem c81 {x0 : (List UInt8)} {x1 : Int} {r : (List (List UInt8))} (h : f81 x0 x1 = some r) :
 FnD cx 81 [sA x0, k5.a x1] [] (.own 0 r.length) [k9.r 9 .cell r] := by
 unfold f81 at h
 refine fnD_intro (fn := Tryz.f81) (by kernel_rfl) rfl (by kernel_rfl) (by kernel_rfl) fun E => ?_
 refine CD.seq (rg [] [] [] a0 (CD.seq (rg [(0, hO)] [(5, .own 1008 (([] : List (List UInt8)).length))] [(1008, k9.r 9 .cell ([] : List (List UInt8)))] a0 (CD.seq (rg [] [(6, iA 0)] [] a0 (CD.join (fun (v1 : (List (List UInt8))) => ⟨[(5, .own 1008 v1.length)], [(1008, k9.r 9 .cell v1)]⟩) h (fun u2 h q3 => ?_) (fun v1 h => ?_)))))))
 refine CD.seq (rg [] [(7, iA 0)] [] a0 (CD.block (CD.loopK (fun (v19 : (List (List UInt8)) × Int × Int) => ⟨[(0, sA x0), (1, k5.a x1), (5, .own 1008 v19.1.length), (6, iA v19.2.1), (7, iA v19.2.2)], [(1008, k9.r 9 .cell v19.1)]⟩) h (by kernel_rfl) (fun v19 u20 h q21 => ?_))))
 refine CD.seq (CD.seq (rg [] [(12, bA (decide (v19.2.2 ≤ (ln x0))))] [] a0 (br h (fun g22 h => ?_) (fun g22 h => ?_))))
 refine CD.skip (CD.seq (CD.block (CD.join (fun (v23 : Bool) => ⟨[(0, sA x0), (1, k5.a x1), (5, .own 1008 v19.1.length), (6, iA v19.2.1), (7, iA v19.2.2), (25, bA v23)], [(1008, k9.r 9 .cell v19.1)]⟩) h (fun u24 h q25 => ?_) (fun v23 h => ?_))))
 rcases if_some h with ⟨g26, h⟩ | ⟨g26, h⟩
 refine rg [(4, hT1)] [(25, bA true)] [] (a1 (oB (c := (v19.2.2 == (ln x0))) g26) a0) ?_
 obtain rfl := sm h
 exact NX.inl (by kernel_rfl)
 rcases bd_some h with ⟨v27, g28, h⟩
 refine rg [(4, hF1), (7, hT v27)] [(25, bA ((v27.toNat : Int) == x1))] [] (a1 (oB (c := (v19.2.2 == (ln x0))) g26) (a1 (o_bt g28) a0)) ?_
 obtain rfl := sm h
 exact NX.inl (by kernel_rfl)
 refine br h (fun g29 h => ?_) (fun g29 h => ?_)
 refine CD.seq ?_
 rcases bd_some h with ⟨v30, g31, h⟩
 rcases bd_some h with ⟨v32, g33, h⟩
 refine rg [(4, hV (sA v30)), (6, hW (.own 1008 v32.length) [(1008, k9.r 9 .cell v32)])] [(5, .own 1008 v32.length)] [(1008, k9.r 9 .cell v32)] (a1 (o_ssl g31) (a1 (o_ap k9 1008 9 .cell g33 trivial) a0)) (rg [] [(6, iA (ad v19.2.2 1))] [] a0 (NX.blN (rg [] [(7, iA (ad v19.2.2 1))] [] a0 ?_)))
 obtain rfl := sm h
 exact NX.inl (by kernel_rfl)
 refine CD.skip (NX.blN (rg [] [(7, iA (ad v19.2.2 1))] [] a0 ?_))
 obtain rfl := sm h
 exact NX.inl (by kernel_rfl)
 refine CD.exit ?_
 obtain rfl := sm h
 obtain rfl := q21 _ rfl
 exact NX.th (NX.lq (NX.brk (NX.inl (by kernel_rfl))))
 refine CD.seq (rg [] [(4, .own 1008 v1.length)] [] a0 (CD.ret ?_))
 obtain rfl := sm h
 exact NX.ret [1008] a0 (by kernel_rfl)

theorem c81d {x0 : (List UInt8)} {x1 : Int} {r : (List (List UInt8))} (h : f81 x0 x1 = some r) :
 FnD cx 81 [sA x0, k5.a x1] [] (k93.a r) [] :=
 FnD.data (xs := [.own 0 r.length]) (ys := [k93.a r]) (p := True) (q := ((r.length = (k9.m r).length) ∧ True)) (c81 h) [] (by kernel_rfl) (by kernel_rfl) a0 (by kernel_rfl) (a1 (k_len' k9 r) a0)


-- f76 spec.l18Words
def f76 (x0 : (List UInt8)) : Option ((List (List UInt8))) :=
 bd (f81 x0 32) fun v1 =>
 jn (
 iter (fun (v17 : (List (List UInt8)) × Int) =>
 if (decide (v17.2 < (ln v1))) = true then
 bd (ix v1 v17.2) fun v21 =>
 if (!(v21 == ([] : List UInt8))) = true then
 bd (ix v1 v17.2) fun v24 =>
 bd (ap 16 v17.1 ([v24] : List (List UInt8))) fun v26 =>
 some (.inl (v26, ad v17.2 1))
 else
 some (.inl (v17.1, ad v17.2 1))
 else
 some (.inr (.inl v17.1))) (([] : List (List UInt8)), 0)) fun (v3 : (List (List UInt8))) =>
 some v3
theorem c76 {x0 : (List UInt8)} {r : (List (List UInt8))} (h : f76 x0 = some r) :
 FnD cx 76 [sA x0] [] (.own 0 r.length) [k9.r 9 .cell r] := by
 unfold f76 at h
 refine fnD_intro (fn := Tryz.f76) (by kernel_rfl) rfl (by kernel_rfl) (by kernel_rfl) fun E => ?_
 refine CD.seq (rg [] [] [] a0 (CD.seq ?_))
 rcases bd_some h with ⟨v1, g2, h⟩
 refine rg [(1, hC (.own 0 v1.length) [k9.r 9 .cell v1] [] [2140])] [(3, .own 2140 v1.length)] [(2140, k9.r 9 .cell v1)] (a1 (c81 g2) a0) (CD.seq (rg [(0, hO)] [(4, .own 1008 (([] : List (List UInt8)).length))] [(1008, k9.r 9 .cell ([] : List (List UInt8)))] a0 (CD.join (fun (v3 : (List (List UInt8))) => ⟨[(4, .own 1008 v3.length)], [(1008, k9.r 9 .cell v3)]⟩) h (fun u4 h q5 => ?_) (fun v3 h => ?_))))
 refine CD.seq (rg [] [(5, iA 0)] [] a0 (CD.block (CD.loopK (fun (v17 : (List (List UInt8)) × Int) => ⟨[(3, .own 2140 v1.length), (4, .own 1008 v17.1.length), (5, iA v17.2)], [(2140, k9.r 9 .cell v1), (1008, k9.r 9 .cell v17.1)]⟩) h (by kernel_rfl) (fun v17 u18 h q19 => ?_))))
 refine CD.seq (CD.seq (rg [] [(12, bA (decide (v17.2 < (ln v1))))] [] a0 (br h (fun g20 h => ?_) (fun g20 h => ?_))))
 refine CD.skip (CD.seq (CD.block (CD.seq ?_)))
 rcases bd_some h with ⟨v21, g22, h⟩
 refine rg [(3, hE (.str v21))] [(19, bA (!(v21 == ([] : List UInt8))))] [] (a1 (o_ixr k9 g22) (a1 (o_ldr k9 g22) a0)) (br h (fun g23 h => ?_) (fun g23 h => ?_))
 rcases bd_some h with ⟨v24, g25, h⟩
 rcases bd_some h with ⟨v26, g27, h⟩
 refine rg [(4, hE (.str v24)), (6, hW (.own 1008 v26.length) [(1008, k9.r 9 .cell v26)])] [(4, .own 1008 v26.length)] [(1008, k9.r 9 .cell v26)] (a1 (o_ixr k9 g25) (a1 (o_ldr k9 g25) (a1 (o_ap k9 1008 9 .cell g27 trivial) a0))) (NX.blN (rg [] [(5, iA (ad v17.2 1))] [] a0 ?_))
 obtain rfl := sm h
 exact NX.inl (by kernel_rfl)
 refine CD.skip (NX.blN (rg [] [(5, iA (ad v17.2 1))] [] a0 ?_))
 obtain rfl := sm h
 exact NX.inl (by kernel_rfl)
 refine CD.exit ?_
 obtain rfl := sm h
 obtain rfl := q19 _ rfl
 exact NX.th (NX.lq (NX.brk (NX.inl (by kernel_rfl))))
 refine CD.seq (rg [] [(2, .own 1008 v3.length)] [] a0 (CD.ret ?_))
 obtain rfl := sm h
 exact NX.ret [1008] a0 (by kernel_rfl)

theorem c76d {x0 : (List UInt8)} {r : (List (List UInt8))} (h : f76 x0 = some r) :
 FnD cx 76 [sA x0] [] (k93.a r) [] :=
 FnD.data (xs := [.own 0 r.length]) (ys := [k93.a r]) (p := True) (q := ((r.length = (k9.m r).length) ∧ True)) (c76 h) [] (by kernel_rfl) (by kernel_rfl) a0 (by kernel_rfl) (a1 (k_len' k9 r) a0)


-- f55 spec.l1Is
def f55 (x0 : Int) : Option (Bool) :=
 if (decide (x0 ≥ 0)) = true then
 some (decide (x0 ≤ 8))
 else
 some false
theorem c55 {x0 : Int} {r : Bool} (h : f55 x0 = some r) :
 FnD cx 55 [iA x0] [] (bA r) [] := by
 unfold f55 at h
 refine fnD_intro (fn := Tryz.f55) (by kernel_rfl) rfl (by kernel_rfl) (by kernel_rfl) fun E => ?_
 refine CD.seq (rg [] [] [] a0 (CD.seq ?_))
 rcases if_some h with ⟨g1, h⟩ | ⟨g1, h⟩
 refine rg [(2, hT1)] [(2, bA (decide (x0 ≤ 8)))] [] (a1 (oB (c := (decide (x0 ≥ 0))) g1) a0) (CD.ret ?_)
 obtain rfl := sm h
 exact NX.ret [] a0 (by kernel_rfl)
 refine rg [(2, hF1)] [(2, bA false)] [] (a1 (oB (c := (decide (x0 ≥ 0))) g1) a0) (CD.ret ?_)
 obtain rfl := sm h
 exact NX.ret [] a0 (by kernel_rfl)


-- f117 spec.TermName
def f117 (x0 : Int) : Option ((List UInt8)) :=
 bd (f55 x0) fun v1 =>
 if (!v1) = true then
 some ([] : List UInt8)
 else
 if (x0 == 0) = true then
 some ([110, 105, 108] : List UInt8)
 else
 bd (sl ([97, 98, 99, 100, 112, 113, 114, 115] : List UInt8) (sb x0 1) x0) fun v5 =>
 some v5
theorem c117 {x0 : Int} {r : (List UInt8)} (h : f117 x0 = some r) :
 FnD cx 117 [iA x0] [] (sA r) [] := by
 unfold f117 at h
 refine fnD_intro (fn := Tryz.f117) (by kernel_rfl) rfl (by kernel_rfl) (by kernel_rfl) fun E => ?_
 refine CD.seq (rg [] [] [] a0 (CD.seq (CD.seq ?_)))
 rcases bd_some h with ⟨v1, g2, h⟩
 refine rg [(1, hC (bA v1) [] [] [])] [(5, bA (!v1))] [] (a1 (c55 g2) a0) (br h (fun g3 h => ?_) (fun g3 h => ?_))
 refine CD.seq (rg [] [(2, sA ([] : List UInt8))] [] a0 (CD.ret ?_))
 obtain rfl := sm h
 exact NX.ret [] a0 (by kernel_rfl)
 refine CD.skip (CD.seq (CD.seq (rg [] [(7, bA (x0 == 0))] [] a0 (br h (fun g4 h => ?_) (fun g4 h => ?_)))))
 refine CD.seq (rg [] [(2, sA ([110, 105, 108] : List UInt8))] [] a0 (CD.ret ?_))
 obtain rfl := sm h
 exact NX.ret [] a0 (by kernel_rfl)
 refine CD.skip (CD.seq ?_)
 rcases bd_some h with ⟨v5, g6, h⟩
 refine rg [(3, hV (sA v5))] [(2, sA v5)] [] (a1 (o_ssl g6) a0) (CD.ret ?_)
 obtain rfl := sm h
 exact NX.ret [] a0 (by kernel_rfl)


-- f98 spec.ParseTerm
def f98 (x0 : (List UInt8)) : Option (Int × Bool) :=
 jn (
 iter (fun (v11 : Int) =>
 if (decide (v11 ≤ 8)) = true then
 bd (f117 v11) fun v15 =>
 if (v15 == x0) = true then
 some (.inr (.inr (v11, true)))
 else
 some (.inl (ad v11 1))
 else
 some (.inr (.inl ()))) 0) fun (v1 : Unit) =>
 some (0, false)
theorem c98 {x0 : (List UInt8)} {r : Int × Bool} (h : f98 x0 = some r) :
 FnD cx 98 [sA x0] [] (.tup [iA r.1, bA r.2]) [] := by
 unfold f98 at h
 refine fnD_intro (fn := Tryz.f98) (by kernel_rfl) rfl (by kernel_rfl) (by kernel_rfl) fun E => ?_
 refine CD.seq (rg [] [] [] a0 (CD.join (fun (v1 : Unit) => ⟨[], []⟩) h (fun u2 h q3 => ?_) (fun v1 h => ?_)))
 refine CD.seq (rg [] [(4, iA 0)] [] a0 (CD.block (CD.loopK (fun (v11 : Int) => ⟨[(0, sA x0), (4, iA v11)], []⟩) h (by kernel_rfl) (fun v11 u12 h q13 => ?_))))
 refine CD.seq (CD.seq (rg [] [(6, bA (decide (v11 ≤ 8)))] [] a0 (br h (fun g14 h => ?_) (fun g14 h => ?_))))
 refine CD.skip (CD.seq (CD.block (CD.seq ?_)))
 rcases bd_some h with ⟨v15, g16, h⟩
 refine rg [(1, hC (sA v15) [] [] [])] [(12, bA (v15 == x0))] [] (a1 (c117 g16) a0) (br h (fun g17 h => ?_) (fun g17 h => ?_))
 refine CD.seq (rg [] [(2, iA v11), (3, bA true)] [] a0 (CD.ret ?_))
 obtain rfl := sm h
 obtain rfl := q13 _ rfl
 obtain rfl := q3 _ rfl
 exact NX.ret [] a0 (by kernel_rfl)
 refine CD.skip (NX.blN (rg [] [(4, iA (ad v11 1))] [] a0 ?_))
 obtain rfl := sm h
 exact NX.inl (by kernel_rfl)
 refine CD.exit ?_
 obtain rfl := sm h
 obtain rfl := q13 _ rfl
 exact NX.th (NX.lq (NX.brk (NX.inl (by kernel_rfl))))
 refine CD.seq (rg [] [(2, iA 0), (3, bA false)] [] a0 (CD.ret ?_))
 obtain rfl := sm h
 exact NX.ret [] a0 (by kernel_rfl)


-- f77 spec.ParseFact
def f77 (x0 : (List UInt8)) : Option (T53 × Bool) :=
 jn (
 iter (fun (v40 : Int) =>
 jn (
 if (decide (v40 < (ln x0))) = true then
 if (decide ((ln x0) ≤ 9)) = true then
 some (.inl ())
 else
 some (.inr (.inr (.inl ())))
 else
 some (.inr (.inr (.inl ())))) fun (v43 : Unit) =>
 bd (ix x0 v40) fun v48 =>
 if ((v48.toNat : Int) != 61) = true then
 some (.inl (ad v40 1))
 else
 bd (sl x0 0 v40) fun v51 =>
 jn (
 jn (
 if (decide (v40 > 0)) = true then
 bd (ix x0 (sb v40 1)) fun v60 =>
 some (.inl ((v60.toNat : Int) == 33))
 else
 some (.inl false)) fun (v56 : Bool) =>
 if v56 = true then
 bd (sl x0 0 (sb v40 1)) fun v63 =>
 some (.inl (v63, false))
 else
 some (.inl (v51, true))) fun (v53 : (List UInt8) × Bool) =>
 bd (f98 v53.1) fun v65 =>
 bd (sl x0 (ad v40 1) (x0.length : Int)) fun v67 =>
 bd (f98 v67) fun v69 =>
 jn (
 if (!v65.2) = true then
 some (.inr (.inr (.inr ((⟨false, 0, 0⟩ : T53), false))))
 else
 if (!v69.2) = true then
 some (.inr (.inr (.inr ((⟨false, 0, 0⟩ : T53), false))))
 else
 some (.inl ())) fun (v71 : Unit) =>
 some (.inr (.inr ((⟨v53.2, v65.1, v69.1⟩ : T53), true)))) 0) fun (v1 : Unit) =>
 some ((⟨false, 0, 0⟩ : T53), false)
theorem c77 {x0 : (List UInt8)} {r : T53 × Bool} (h : f77 x0 = some r) :
 FnD cx 77 [sA x0] [] (.tup [k53.a r.1, bA r.2]) [] := by
 unfold f77 at h
 refine fnD_intro (fn := Tryz.f77) (by kernel_rfl) rfl (by kernel_rfl) (by kernel_rfl) fun E => ?_
 refine CD.seq (rg [] [(2, .ref 1002 [])] [(1002, bx (k53.a (⟨false, 0, 0⟩ : T53)))] a0 (CD.join (fun (v1 : Unit) => ⟨[(2, .ref 1002 [])], [(1002, bx (k53.a (⟨false, 0, 0⟩ : T53)))]⟩) h (fun u2 h q3 => ?_) (fun v1 h => ?_)))
 refine CD.seq (rg [] [(4, iA 0)] [] a0 (CD.block (CD.loopK (fun (v40 : Int) => ⟨[(0, sA x0), (2, .ref 1002 []), (4, iA v40)], [(1002, bx (k53.a (⟨false, 0, 0⟩ : T53)))]⟩) h (by kernel_rfl) (fun v40 u41 h q42 => ?_))))
 refine CD.join (fun (v43 : Unit) => ⟨[(0, sA x0), (2, .ref 1002 []), (4, iA v40)], [(1002, bx (k53.a (⟨false, 0, 0⟩ : T53)))]⟩) h (fun u44 h q45 => ?_) (fun v43 h => ?_)
 refine CD.seq ?_
 rcases if_some h with ⟨g46, h⟩ | ⟨g46, h⟩
 refine rg [(4, hT1)] [(19, bA (decide ((ln x0) ≤ 9)))] [] (a1 (oB (c := (decide (v40 < (ln x0)))) g46) a0) (br h (fun g47 h => ?_) (fun g47 h => ?_))
 refine CD.skip ?_
 obtain rfl := sm h
 exact NX.inl (by kernel_rfl)
 refine CD.exit ?_
 obtain rfl := sm h
 obtain rfl := q45 _ rfl
 obtain rfl := q42 _ rfl
 exact NX.lq (NX.lq (NX.brk (NX.inl (by kernel_rfl))))
 refine rg [(4, hF1)] [(19, bA false)] [] (a1 (oB (c := (decide (v40 < (ln x0)))) g46) a0) (CD.condF (b := false) (by kernel_rfl) rfl (CD.exit ?_))
 obtain rfl := sm h
 obtain rfl := q45 _ rfl
 obtain rfl := q42 _ rfl
 exact NX.lq (NX.lq (NX.brk (NX.inl (by kernel_rfl))))
 refine CD.seq (CD.block (CD.seq (CD.seq ?_)))
 rcases bd_some h with ⟨v48, g49, h⟩
 refine rg [(2, hT v48)] [(25, bA ((v48.toNat : Int) != 61))] [] (a1 (o_bt g49) a0) (br h (fun g50 h => ?_) (fun g50 h => ?_))
 refine CD.exit (NX.th (NX.brk (rg [] [(4, iA (ad v40 1))] [] a0 ?_)))
 obtain rfl := sm h
 exact NX.inl (by kernel_rfl)
 refine CD.skip (CD.seq (rg [] [(5, .ref 1005 [])] [(1005, bx (k53.a (⟨true, 0, 0⟩ : T53)))] a0 (CD.seq ?_)))
 rcases bd_some h with ⟨v51, g52, h⟩
 refine rg [(2, hV (sA v51))] [(6, sA v51)] [] (a1 (o_ssl g52) a0) (CD.join (fun (v53 : (List UInt8) × Bool) => ⟨[(0, sA x0), (2, .ref 1002 []), (4, iA v40), (5, .ref 1005 []), (6, sA v53.1)], [(1002, bx (k53.a (⟨false, 0, 0⟩ : T53))), (1005, bx (k53.a (⟨v53.2, 0, 0⟩ : T53)))]⟩) h (fun u54 h q55 => ?_) (fun v53 h => ?_))
 refine CD.join (fun (v56 : Bool) => ⟨[(0, sA x0), (2, .ref 1002 []), (4, iA v40), (5, .ref 1005 []), (6, sA v51), (38, bA v56)], [(1002, bx (k53.a (⟨false, 0, 0⟩ : T53))), (1005, bx (k53.a (⟨true, 0, 0⟩ : T53)))]⟩) h (fun u57 h q58 => ?_) (fun v56 h => ?_)
 rcases if_some h with ⟨g59, h⟩ | ⟨g59, h⟩
 rcases bd_some h with ⟨v60, g61, h⟩
 refine rg [(2, hT1), (6, hT v60)] [(38, bA ((v60.toNat : Int) == 33))] [] (a1 (oB (c := (decide (v40 > 0))) g59) (a1 (o_bt g61) a0)) ?_
 obtain rfl := sm h
 exact NX.inl (by kernel_rfl)
 refine rg [(2, hF1)] [(38, bA false)] [] (a1 (oB (c := (decide (v40 > 0))) g59) a0) ?_
 obtain rfl := sm h
 exact NX.inl (by kernel_rfl)
 refine br h (fun g62 h => ?_) (fun g62 h => ?_)
 refine CD.seq (rg [] [] [(1005, bx (k53.a (⟨false, 0, 0⟩ : T53)))] a0 ?_)
 rcases bd_some h with ⟨v63, g64, h⟩
 refine rg [(3, hV (sA v63))] [(6, sA v63)] [] (a1 (o_ssl g64) a0) ?_
 obtain rfl := sm h
 exact NX.inl (by kernel_rfl)
 refine CD.skip ?_
 obtain rfl := sm h
 exact NX.inl (by kernel_rfl)
 refine CD.seq ?_
 rcases bd_some h with ⟨v65, g66, h⟩
 refine rg [(1, hC (.tup [iA v65.1, bA v65.2]) [] [] [])] [(7, iA v65.1), (8, bA v65.2)] [] (a1 (c98 g66) a0) (CD.seq ?_)
 rcases bd_some h with ⟨v67, g68, h⟩
 rcases bd_some h with ⟨v69, g70, h⟩
 refine rg [(3, hV (sA v67)), (4, hC (.tup [iA v69.1, bA v69.2]) [] [] [])] [(9, iA v69.1), (10, bA v69.2)] [] (a1 (o_ssl g68) (a1 (c98 g70) a0)) (CD.join (fun (v71 : Unit) => ⟨[(2, .ref 1002 []), (5, .ref 1005 []), (7, iA v65.1), (9, iA v69.1)], [(1002, bx (k53.a (⟨false, 0, 0⟩ : T53))), (1005, bx (k53.a (⟨v53.2, 0, 0⟩ : T53)))]⟩) h (fun u72 h q73 => ?_) (fun v71 h => ?_))
 refine CD.seq ?_
 rcases if_some h with ⟨g74, h⟩ | ⟨g74, h⟩
 refine rg [(2, hT1)] [(62, bA true)] [] (a1 (oB (c := (!v65.2)) g74) a0) (CD.condT (b := true) (by kernel_rfl) rfl (CD.seq (rg [] [(3, bA false)] [(1002, bx (k53.a (⟨false, 0, 0⟩ : T53)))] a0 (CD.ret ?_))))
 obtain rfl := sm h
 obtain rfl := q73 _ rfl
 obtain rfl := q42 _ rfl
 obtain rfl := q3 _ rfl
 exact NX.ret [] a0 (by kernel_rfl)
 refine rg [(2, hF1)] [(62, bA (!v69.2))] [] (a1 (oB (c := (!v65.2)) g74) a0) (br h (fun g75 h => ?_) (fun g75 h => ?_))
 refine CD.seq (rg [] [(3, bA false)] [(1002, bx (k53.a (⟨false, 0, 0⟩ : T53)))] a0 (CD.ret ?_))
 obtain rfl := sm h
 obtain rfl := q73 _ rfl
 obtain rfl := q42 _ rfl
 obtain rfl := q3 _ rfl
 exact NX.ret [] a0 (by kernel_rfl)
 refine CD.skip ?_
 obtain rfl := sm h
 exact NX.inl (by kernel_rfl)
 refine CD.seq (rg [] [] [(1005, bx (k53.a (⟨v53.2, v65.1, 0⟩ : T53)))] a0 (CD.seq (rg [] [] [(1005, bx (k53.a (⟨v53.2, v65.1, v69.1⟩ : T53)))] a0 (CD.seq (rg [] [(3, bA true)] [(1002, bx (k53.a (⟨v53.2, v65.1, v69.1⟩ : T53)))] a0 (CD.ret ?_))))))
 obtain rfl := sm h
 obtain rfl := q42 _ rfl
 obtain rfl := q3 _ rfl
 exact NX.ret [] a0 (by kernel_rfl)
 refine CD.seq (rg [] [(3, bA false)] [(1002, bx (k53.a (⟨false, 0, 0⟩ : T53)))] a0 (CD.ret ?_))
 obtain rfl := sm h
 exact NX.ret [] a0 (by kernel_rfl)


-- f78 spec.l3ParseAtom
def f78 (x0 : (List UInt8)) : Option (T60 × Bool) :=
 jn (
 iter (fun (v39 : Int) =>
 jn (
 if (decide (v39 < (ln x0))) = true then
 if (decide ((ln x0) ≤ 7)) = true then
 some (.inl ())
 else
 some (.inr (.inr (.inl ())))
 else
 some (.inr (.inr (.inl ())))) fun (v42 : Unit) =>
 jn (
 jn (
 bd (ix x0 v39) fun v53 =>
 if ((v53.toNat : Int) != 62) = true then
 bd (ix x0 v39) fun v56 =>
 if ((v56.toNat : Int) != 126) = true then
 some (.inr (.inl ()))
 else
 some (.inl ())
 else
 some (.inl ())) fun (v50 : Unit) =>
 jn (
 bd (ix x0 v39) fun v62 =>
 if ((v62.toNat : Int) == 126) = true then
 some (.inl 2)
 else
 some (.inl 1)) fun (v59 : Int) =>
 bd (sl x0 0 v39) fun v65 =>
 bd (f98 v65) fun v67 =>
 bd (sl x0 (ad v39 1) (x0.length : Int)) fun v69 =>
 bd (f98 v69) fun v71 =>
 if v67.2 = true then
 some (.inr (.inr (.inr ((⟨v59, v67.1, v71.1⟩ : T60), v71.2))))
 else
 some (.inr (.inr (.inr ((⟨v59, v67.1, v71.1⟩ : T60), false))))) fun (v47 : Unit) =>
 some (.inl (ad v39 1))) 0) fun (v1 : Unit) =>
 some ((⟨0, 0, 0⟩ : T60), false)
theorem c78 {x0 : (List UInt8)} {r : T60 × Bool} (h : f78 x0 = some r) :
 FnD cx 78 [sA x0] [] (.tup [k60.a r.1, bA r.2]) [] := by
 unfold f78 at h
 refine fnD_intro (fn := Tryz.f78) (by kernel_rfl) rfl (by kernel_rfl) (by kernel_rfl) fun E => ?_
 refine CD.seq (rg [] [(2, .ref 1002 [])] [(1002, bx (k60.a (⟨0, 0, 0⟩ : T60)))] a0 (CD.join (fun (v1 : Unit) => ⟨[(2, .ref 1002 [])], [(1002, bx (k60.a (⟨0, 0, 0⟩ : T60)))]⟩) h (fun u2 h q3 => ?_) (fun v1 h => ?_)))
 refine CD.seq (rg [] [(4, iA 0)] [] a0 (CD.block (CD.loopK (fun (v39 : Int) => ⟨[(0, sA x0), (2, .ref 1002 []), (4, iA v39)], [(1002, bx (k60.a (⟨0, 0, 0⟩ : T60)))]⟩) h (by kernel_rfl) (fun v39 u40 h q41 => ?_))))
 refine CD.join (fun (v42 : Unit) => ⟨[(0, sA x0), (2, .ref 1002 []), (4, iA v39)], [(1002, bx (k60.a (⟨0, 0, 0⟩ : T60)))]⟩) h (fun u43 h q44 => ?_) (fun v42 h => ?_)
 refine CD.seq ?_
 rcases if_some h with ⟨g45, h⟩ | ⟨g45, h⟩
 refine rg [(4, hT1)] [(18, bA (decide ((ln x0) ≤ 7)))] [] (a1 (oB (c := (decide (v39 < (ln x0)))) g45) a0) (br h (fun g46 h => ?_) (fun g46 h => ?_))
 refine CD.skip ?_
 obtain rfl := sm h
 exact NX.inl (by kernel_rfl)
 refine CD.exit ?_
 obtain rfl := sm h
 obtain rfl := q44 _ rfl
 obtain rfl := q41 _ rfl
 exact NX.lq (NX.lq (NX.brk (NX.inl (by kernel_rfl))))
 refine rg [(4, hF1)] [(18, bA false)] [] (a1 (oB (c := (decide (v39 < (ln x0)))) g45) a0) (CD.condF (b := false) (by kernel_rfl) rfl (CD.exit ?_))
 obtain rfl := sm h
 obtain rfl := q44 _ rfl
 obtain rfl := q41 _ rfl
 exact NX.lq (NX.lq (NX.brk (NX.inl (by kernel_rfl))))
 refine CD.join (fun (v47 : Unit) => ⟨[(0, sA x0), (2, .ref 1002 []), (4, iA v39)], [(1002, bx (k60.a (⟨0, 0, 0⟩ : T60)))]⟩) h (fun u48 h q49 => ?_) (fun v47 h => ?_)
 refine CD.block (CD.join (fun (v50 : Unit) => ⟨[(0, sA x0), (2, .ref 1002 []), (4, iA v39)], [(1002, bx (k60.a (⟨0, 0, 0⟩ : T60)))]⟩) h (fun u51 h q52 => ?_) (fun v50 h => ?_))
 refine CD.seq ?_
 rcases bd_some h with ⟨v53, g54, h⟩
 rcases if_some h with ⟨g55, h⟩ | ⟨g55, h⟩
 rcases bd_some h with ⟨v56, g57, h⟩
 refine rg [(2, hT v53), (4, hT1), (7, hT v56)] [(30, bA ((v56.toNat : Int) != 126))] [] (a1 (o_bt g54) (a1 (oB (c := ((v53.toNat : Int) != 62)) g55) (a1 (o_bt g57) a0))) (br h (fun g58 h => ?_) (fun g58 h => ?_))
 refine CD.exit ?_
 obtain rfl := sm h
 obtain rfl := q52 _ rfl
 exact NX.lq (NX.brk (NX.inl (by kernel_rfl)))
 refine CD.skip ?_
 obtain rfl := sm h
 exact NX.inl (by kernel_rfl)
 refine rg [(2, hT v53), (4, hF1)] [(30, bA false)] [] (a1 (o_bt g54) (a1 (oB (c := ((v53.toNat : Int) != 62)) g55) a0)) (CD.condF (b := false) (by kernel_rfl) rfl (CD.skip ?_))
 obtain rfl := sm h
 exact NX.inl (by kernel_rfl)
 refine CD.seq (rg [] [(5, .ref 1005 [])] [(1005, bx (k60.a (⟨1, 0, 0⟩ : T60)))] a0 (CD.join (fun (v59 : Int) => ⟨[(0, sA x0), (2, .ref 1002 []), (4, iA v39), (5, .ref 1005 [])], [(1002, bx (k60.a (⟨0, 0, 0⟩ : T60))), (1005, bx (k60.a (⟨v59, 0, 0⟩ : T60)))]⟩) h (fun u60 h q61 => ?_) (fun v59 h => ?_)))
 refine CD.seq ?_
 rcases bd_some h with ⟨v62, g63, h⟩
 refine rg [(2, hT v62)] [(35, bA ((v62.toNat : Int) == 126))] [] (a1 (o_bt g63) a0) (br h (fun g64 h => ?_) (fun g64 h => ?_))
 refine rg [] [] [(1005, bx (k60.a (⟨2, 0, 0⟩ : T60)))] a0 ?_
 obtain rfl := sm h
 exact NX.inl (by kernel_rfl)
 refine CD.skip ?_
 obtain rfl := sm h
 exact NX.inl (by kernel_rfl)
 refine CD.seq ?_
 rcases bd_some h with ⟨v65, g66, h⟩
 rcases bd_some h with ⟨v67, g68, h⟩
 refine rg [(2, hV (sA v65)), (3, hC (.tup [iA v67.1, bA v67.2]) [] [] [])] [(6, iA v67.1), (7, bA v67.2)] [] (a1 (o_ssl g66) (a1 (c98 g68) a0)) (CD.seq ?_)
 rcases bd_some h with ⟨v69, g70, h⟩
 rcases bd_some h with ⟨v71, g72, h⟩
 refine rg [(3, hV (sA v69)), (4, hC (.tup [iA v71.1, bA v71.2]) [] [] [])] [(8, iA v71.1), (9, bA v71.2)] [] (a1 (o_ssl g70) (a1 (c98 g72) a0)) (CD.seq (rg [] [] [(1005, bx (k60.a (⟨v59, v67.1, 0⟩ : T60)))] a0 (CD.seq (rg [] [] [(1005, bx (k60.a (⟨v59, v67.1, v71.1⟩ : T60)))] a0 (CD.seq ?_)))))
 rcases if_some h with ⟨g73, h⟩ | ⟨g73, h⟩
 refine rg [(2, hT1)] [(3, bA v71.2)] [(1002, bx (k60.a (⟨v59, v67.1, v71.1⟩ : T60)))] (a1 (oB (c := v67.2) g73) a0) (CD.ret ?_)
 obtain rfl := sm h
 obtain rfl := q49 _ rfl
 obtain rfl := q41 _ rfl
 obtain rfl := q3 _ rfl
 exact NX.ret [] a0 (by kernel_rfl)
 refine rg [(2, hF1)] [(3, bA false)] [(1002, bx (k60.a (⟨v59, v67.1, v71.1⟩ : T60)))] (a1 (oB (c := v67.2) g73) a0) (CD.ret ?_)
 obtain rfl := sm h
 obtain rfl := q49 _ rfl
 obtain rfl := q41 _ rfl
 obtain rfl := q3 _ rfl
 exact NX.ret [] a0 (by kernel_rfl)
 refine rg [] [(4, iA (ad v39 1))] [] a0 ?_
 obtain rfl := sm h
 exact NX.inl (by kernel_rfl)
 refine CD.seq (rg [] [(3, bA false)] [(1002, bx (k60.a (⟨0, 0, 0⟩ : T60)))] a0 (CD.ret ?_))
 obtain rfl := sm h
 exact NX.ret [] a0 (by kernel_rfl)


-- f50 spec.l3Atom
def f50 (x0 : T60) : Option (Bool) :=
 if (x0.f0 == 1) = true then
 bd (f55 x0.f1) fun v2 =>
 if v2 = true then
 bd (f55 x0.f2) fun v5 =>
 some v5
 else
 some false
 else
 if (x0.f0 == 2) = true then
 bd (f55 x0.f1) fun v8 =>
 if v8 = true then
 bd (f55 x0.f2) fun v11 =>
 some v11
 else
 some false
 else
 some false
theorem c50 {x0 : T60} {r : Bool} (h : f50 x0 = some r) :
 FnD cx 50 [k60.a x0] [] (bA r) [] := by
 unfold f50 at h
 refine fnD_intro (fn := Tryz.f50) (by kernel_rfl) rfl (by kernel_rfl) (by kernel_rfl) fun E => ?_
 refine CD.seq (rg [] [(1, .ref 1001 [])] [(1001, bx (k60.a x0))] a0 (CD.seq ?_))
 rcases if_some h with ⟨g1, h⟩ | ⟨g1, h⟩
 rcases bd_some h with ⟨v2, g3, h⟩
 rcases if_some h with ⟨g4, h⟩ | ⟨g4, h⟩
 rcases bd_some h with ⟨v5, g6, h⟩
 refine rg [(3, hT1), (11, hC (bA v2) [] [] []), (13, hT1), (16, hC (bA v5) [] [] [])] [(2, bA v5)] [] (a1 (oB (c := (x0.f0 == 1)) g1) (a1 (c55 g3) (a1 (oB (c := v2) g4) (a1 (c55 g6) a0)))) (CD.ret ?_)
 obtain rfl := sm h
 exact NX.ret [] a0 (by kernel_rfl)
 refine rg [(3, hT1), (11, hC (bA v2) [] [] []), (13, hF1)] [(2, bA false)] [] (a1 (oB (c := (x0.f0 == 1)) g1) (a1 (c55 g3) (a1 (oB (c := v2) g4) a0))) (CD.ret ?_)
 obtain rfl := sm h
 exact NX.ret [] a0 (by kernel_rfl)
 rcases if_some h with ⟨g7, h⟩ | ⟨g7, h⟩
 rcases bd_some h with ⟨v8, g9, h⟩
 rcases if_some h with ⟨g10, h⟩ | ⟨g10, h⟩
 rcases bd_some h with ⟨v11, g12, h⟩
 refine rg [(3, hF1), (8, hT1), (11, hC (bA v8) [] [] []), (13, hT1), (16, hC (bA v11) [] [] [])] [(2, bA v11)] [] (a1 (oB (c := (x0.f0 == 1)) g1) (a1 (oB (c := (x0.f0 == 2)) g7) (a1 (c55 g9) (a1 (oB (c := v8) g10) (a1 (c55 g12) a0))))) (CD.ret ?_)
 obtain rfl := sm h
 exact NX.ret [] a0 (by kernel_rfl)
 refine rg [(3, hF1), (8, hT1), (11, hC (bA v8) [] [] []), (13, hF1)] [(2, bA false)] [] (a1 (oB (c := (x0.f0 == 1)) g1) (a1 (oB (c := (x0.f0 == 2)) g7) (a1 (c55 g9) (a1 (oB (c := v8) g10) a0)))) (CD.ret ?_)
 obtain rfl := sm h
 exact NX.ret [] a0 (by kernel_rfl)
 refine rg [(3, hF1), (8, hF1)] [(2, bA false)] [] (a1 (oB (c := (x0.f0 == 1)) g1) (a1 (oB (c := (x0.f0 == 2)) g7) a0)) (CD.ret ?_)
 obtain rfl := sm h
 exact NX.ret [] a0 (by kernel_rfl)


-- f71 spec.FactValid
def f71 (x0 : T53) : Option (Bool) :=
 bd (f55 x0.f1) fun v1 =>
 if v1 = true then
 bd (f55 x0.f2) fun v4 =>
 some v4
 else
 some false
theorem c71 {x0 : T53} {r : Bool} (h : f71 x0 = some r) :
 FnD cx 71 [k53.a x0] [] (bA r) [] := by
 unfold f71 at h
 refine fnD_intro (fn := Tryz.f71) (by kernel_rfl) rfl (by kernel_rfl) (by kernel_rfl) fun E => ?_
 refine CD.seq (rg [] [(1, .ref 1001 [])] [(1001, bx (k53.a x0))] a0 (CD.seq ?_))
 rcases bd_some h with ⟨v1, g2, h⟩
 rcases if_some h with ⟨g3, h⟩ | ⟨g3, h⟩
 rcases bd_some h with ⟨v4, g5, h⟩
 refine rg [(2, hC (bA v1) [] [] []), (3, hT1), (6, hC (bA v4) [] [] [])] [(2, bA v4)] [] (a1 (c55 g2) (a1 (oB (c := v1) g3) (a1 (c55 g5) a0))) (CD.ret ?_)
 obtain rfl := sm h
 exact NX.ret [] a0 (by kernel_rfl)
 refine rg [(2, hC (bA v1) [] [] []), (3, hF1)] [(2, bA false)] [] (a1 (c55 g2) (a1 (oB (c := v1) g3) a0)) (CD.ret ?_)
 obtain rfl := sm h
 exact NX.ret [] a0 (by kernel_rfl)


-- f51 spec.FactsValid
def f51 (x0 : (List T53)) : Option (Bool) :=
 jn (
 iter (fun (v13 : Int) =>
 if (decide (v13 < (ln x0))) = true then
 bd (ix x0 v13) fun v17 =>
 bd (f71 v17) fun v19 =>
 if (!v19) = true then
 some (.inr (.inr false))
 else
 some (.inl (ad v13 1))
 else
 some (.inr (.inl ()))) 0) fun (v1 : Unit) =>
 some (decide ((ln x0) ≤ 12))
theorem c51 {x0 : (List T53)} {r : Bool} (h : f51 x0 = some r) :
 FnD cx 51 [k23.a x0] [] (bA r) [] := by
 unfold f51 at h
 refine fnD_intro (fn := Tryz.f51) (by kernel_rfl) rfl (by kernel_rfl) (by kernel_rfl) fun E => ?_
 refine CD.seq (rg [] [] [] a0 (CD.join (fun (v1 : Unit) => ⟨[(0, k23.a x0)], []⟩) h (fun u2 h q3 => ?_) (fun v1 h => ?_)))
 refine CD.seq (rg [] [(3, iA 0)] [] a0 (CD.block (CD.loopK (fun (v13 : Int) => ⟨[(0, k23.a x0), (3, iA v13)], []⟩) h (by kernel_rfl) (fun v13 u14 h q15 => ?_))))
 refine CD.seq (CD.seq (rg [(2, hV (iA (ln x0)))] [(7, bA (decide (v13 < (ln x0))))] [] (a1 (o_ln k53 x0) a0) (br h (fun g16 h => ?_) (fun g16 h => ?_))))
 refine CD.skip (CD.seq (CD.block (CD.seq ?_)))
 rcases bd_some h with ⟨v17, g18, h⟩
 rcases bd_some h with ⟨v19, g20, h⟩
 refine rg [(2, hE (k53.x v17)), (4, hC (bA v19) [] [] [])] [(15, bA (!v19))] [] (a1 (o_ix k53 g18) (a1 (c71 g20) a0)) (br h (fun g21 h => ?_) (fun g21 h => ?_))
 refine CD.seq (rg [] [(2, bA false)] [] a0 (CD.ret ?_))
 obtain rfl := sm h
 obtain rfl := q15 _ rfl
 obtain rfl := q3 _ rfl
 exact NX.ret [] a0 (by kernel_rfl)
 refine CD.skip (NX.blN (rg [] [(3, iA (ad v13 1))] [] a0 ?_))
 obtain rfl := sm h
 exact NX.inl (by kernel_rfl)
 refine CD.exit ?_
 obtain rfl := sm h
 obtain rfl := q15 _ rfl
 exact NX.th (NX.lq (NX.brk (NX.inl (by kernel_rfl))))
 refine CD.seq (rg [(1, hV (iA (ln x0)))] [(2, bA (decide ((ln x0) ≤ 12)))] [] (a1 (o_ln k53 x0) a0) (CD.ret ?_))
 obtain rfl := sm h
 exact NX.ret [] a0 (by kernel_rfl)


-- f22 spec.AssertionValid
def f22 (x0 : T25) : Option (Bool) :=
 jn (
 iter (fun (v13 : Int) =>
 if (decide (v13 < (ln x0.f1))) = true then
 bd (ix x0.f1 v13) fun v17 =>
 bd (f50 v17) fun v19 =>
 if (!v19) = true then
 some (.inr (.inr false))
 else
 some (.inl (ad v13 1))
 else
 some (.inr (.inl ()))) 0) fun (v1 : Unit) =>
 bd (f51 x0.f0) fun v22 =>
 if v22 = true then
 some (decide ((ln x0.f1) ≤ 6))
 else
 some false
theorem c22 {x0 : T25} {r : Bool} (h : f22 x0 = some r) :
 FnD cx 22 [k25.a x0] [] (bA r) [] := by
 unfold f22 at h
 refine fnD_intro (fn := Tryz.f22) (by kernel_rfl) rfl (by kernel_rfl) (by kernel_rfl) fun E => ?_
 refine CD.seq (rg [] [(1, .ref 1001 [])] [(1001, bx (k25.a x0))] a0 (CD.join (fun (v1 : Unit) => ⟨[(1, .ref 1001 [])], [(1001, bx (k25.a x0))]⟩) h (fun u2 h q3 => ?_) (fun v1 h => ?_)))
 refine CD.seq (rg [] [(3, iA 0)] [] a0 (CD.block (CD.loopK (fun (v13 : Int) => ⟨[(1, .ref 1001 []), (3, iA v13)], [(1001, bx (k25.a x0))]⟩) h (by kernel_rfl) (fun v13 u14 h q15 => ?_))))
 refine CD.seq (CD.seq (rg [(3, hV (iA (ln x0.f1)))] [(8, bA (decide (v13 < (ln x0.f1))))] [] (a1 (o_ln k60 x0.f1) a0) (br h (fun g16 h => ?_) (fun g16 h => ?_))))
 refine CD.skip (CD.seq (CD.block (CD.seq ?_)))
 rcases bd_some h with ⟨v17, g18, h⟩
 rcases bd_some h with ⟨v19, g20, h⟩
 refine rg [(3, hE (k60.x v17)), (5, hC (bA v19) [] [] [])] [(17, bA (!v19))] [] (a1 (o_ix k60 g18) (a1 (c50 g20) a0)) (br h (fun g21 h => ?_) (fun g21 h => ?_))
 refine CD.seq (rg [] [(2, bA false)] [] a0 (CD.ret ?_))
 obtain rfl := sm h
 obtain rfl := q15 _ rfl
 obtain rfl := q3 _ rfl
 exact NX.ret [] a0 (by kernel_rfl)
 refine CD.skip (NX.blN (rg [] [(3, iA (ad v13 1))] [] a0 ?_))
 obtain rfl := sm h
 exact NX.inl (by kernel_rfl)
 refine CD.exit ?_
 obtain rfl := sm h
 obtain rfl := q15 _ rfl
 exact NX.th (NX.lq (NX.brk (NX.inl (by kernel_rfl))))
 refine CD.seq ?_
 rcases bd_some h with ⟨v22, g23, h⟩
 rcases if_some h with ⟨g24, h⟩ | ⟨g24, h⟩
 refine rg [(2, hC (bA v22) [] [] []), (3, hT1), (6, hV (iA (ln x0.f1)))] [(2, bA (decide ((ln x0.f1) ≤ 6)))] [] (a1 (c51 g23) (a1 (oB (c := v22) g24) (a1 (o_ln k60 x0.f1) a0))) (CD.ret ?_)
 obtain rfl := sm h
 exact NX.ret [] a0 (by kernel_rfl)
 refine rg [(2, hC (bA v22) [] [] []), (3, hF1)] [(2, bA false)] [] (a1 (c51 g23) (a1 (oB (c := v22) g24) a0)) (CD.ret ?_)
 obtain rfl := sm h
 exact NX.ret [] a0 (by kernel_rfl)


-- f118 spec.l1Text
def f118 (x0 : T53) : Option ((List UInt8)) :=
 if x0.f0 = true then
 bd (f117 x0.f1) fun v2 =>
 bd (sa v2 ([61] : List UInt8)) fun v4 =>
 bd (f117 x0.f2) fun v6 =>
 bd (sa v4 v6) fun v8 =>
 some v8
 else
 bd (f117 x0.f1) fun v10 =>
 bd (sa v10 ([33, 61] : List UInt8)) fun v12 =>
 bd (f117 x0.f2) fun v14 =>
 bd (sa v12 v14) fun v16 =>
 some v16
theorem c118 {x0 : T53} {r : (List UInt8)} (h : f118 x0 = some r) :
 FnD cx 118 [k53.a x0] [] (sA r) [] := by
 unfold f118 at h
 refine fnD_intro (fn := Tryz.f118) (by kernel_rfl) rfl (by kernel_rfl) (by kernel_rfl) fun E => ?_
 refine CD.seq (rg [] [(1, .ref 1001 [])] [(1001, bx (k53.a x0))] a0 (CD.seq (CD.seq (rg [] [(4, bA x0.f0)] [] a0 (br h (fun g1 h => ?_) (fun g1 h => ?_))))))
 refine CD.seq ?_
 rcases bd_some h with ⟨v2, g3, h⟩
 rcases bd_some h with ⟨v4, g5, h⟩
 rcases bd_some h with ⟨v6, g7, h⟩
 rcases bd_some h with ⟨v8, g9, h⟩
 refine rg [(0, hD [1001]), (1, hD [1001]), (2, hC (sA v2) [] [] []), (3, hV (sA v4)), (4, hD [1001]), (5, hD [1001]), (6, hC (sA v6) [] [] []), (7, hV (sA v8))] [(2, sA v8)] [] (a1 (c117 g3) (a1 (o_sa g5) (a1 (c117 g7) (a1 (o_sa g9) a0)))) (CD.ret ?_)
 obtain rfl := sm h
 exact NX.ret [] a0 (by kernel_rfl)
 refine CD.skip (CD.seq ?_)
 rcases bd_some h with ⟨v10, g11, h⟩
 rcases bd_some h with ⟨v12, g13, h⟩
 rcases bd_some h with ⟨v14, g15, h⟩
 rcases bd_some h with ⟨v16, g17, h⟩
 refine rg [(0, hD [1001]), (1, hD [1001]), (2, hC (sA v10) [] [] []), (3, hV (sA v12)), (4, hD [1001]), (5, hD [1001]), (6, hC (sA v14) [] [] []), (7, hV (sA v16))] [(2, sA v16)] [] (a1 (c117 g11) (a1 (o_sa g13) (a1 (c117 g15) (a1 (o_sa g17) a0)))) (CD.ret ?_)
 obtain rfl := sm h
 exact NX.ret [] a0 (by kernel_rfl)


-- f99 spec.l3Text
def f99 (x0 : T25) : Option ((List UInt8)) :=
 jn (
 iter (fun (v23 : (List UInt8) × Int) =>
 if (decide (v23.2 < (ln x0.f0))) = true then
 if (decide (v23.2 > 0)) = true then
 bd (sa v23.1 ([32, 38, 32] : List UInt8)) fun v28 =>
 bd (ix x0.f0 v23.2) fun v30 =>
 bd (f118 v30) fun v32 =>
 bd (sa v28 v32) fun v34 =>
 some (.inl (v34, ad v23.2 1))
 else
 bd (ix x0.f0 v23.2) fun v36 =>
 bd (f118 v36) fun v38 =>
 bd (sa v23.1 v38) fun v40 =>
 some (.inl (v40, ad v23.2 1))
 else
 some (.inr (.inl v23.1))) (([] : List UInt8), 0)) fun (v1 : (List UInt8)) =>
 jn (
 if ((ln x0.f0) == 0) = true then
 some (.inl ([116, 114, 117, 101] : List UInt8))
 else
 some (.inl v1)) fun (v42 : (List UInt8)) =>
 if ((ln x0.f1) == 0) = true then
 bd (sa v42 ([32, 124, 32, 101, 109, 112] : List UInt8)) fun v47 =>
 some v47
 else
 jn (
 iter (fun (v87 : (List UInt8) × Int) =>
 if (decide (v87.2 < (ln x0.f1))) = true then
 jn (
 jn (
 bd (ix x0.f1 v87.2) fun v97 =>
 if (v97.f0 == 2) = true then
 some (.inl ([126] : List UInt8))
 else
 some (.inl ([62] : List UInt8))) fun (v94 : (List UInt8)) =>
 jn (
 if (v87.2 == 0) = true then
 bd (sa v87.1 ([32, 124, 32] : List UInt8)) fun v104 =>
 some (.inl v104)
 else
 bd (sa v87.1 ([32, 42, 32] : List UInt8)) fun v106 =>
 some (.inl v106)) fun (v100 : (List UInt8)) =>
 bd (ix x0.f1 v87.2) fun v108 =>
 bd (f117 v108.f1) fun v110 =>
 bd (sa v100 v110) fun v112 =>
 bd (sa v112 v94) fun v114 =>
 bd (ix x0.f1 v87.2) fun v116 =>
 bd (f117 v116.f2) fun v118 =>
 bd (sa v114 v118) fun v120 =>
 some (.inl v120)) fun (v91 : (List UInt8)) =>
 some (.inl (v91, ad v87.2 1))
 else
 some (.inr (.inl v87.1))) (v42, 0)) fun (v49 : (List UInt8)) =>
 some v49
theorem c99 {x0 : T25} {r : (List UInt8)} (h : f99 x0 = some r) :
 FnD cx 99 [k25.a x0] [] (sA r) [] := by
 unfold f99 at h
 refine fnD_intro (fn := Tryz.f99) (by kernel_rfl) rfl (by kernel_rfl) (by kernel_rfl) fun E => ?_
 refine CD.seq (rg [] [(1, .ref 1001 [])] [(1001, bx (k25.a x0))] a0 (CD.seq (rg [] [(3, sA ([] : List UInt8))] [] a0 (CD.join (fun (v1 : (List UInt8)) => ⟨[(1, .ref 1001 []), (3, sA v1)], [(1001, bx (k25.a x0))]⟩) h (fun u2 h q3 => ?_) (fun v1 h => ?_)))))
 refine CD.seq (rg [] [(4, iA 0)] [] a0 (CD.block (CD.loopK (fun (v23 : (List UInt8) × Int) => ⟨[(1, .ref 1001 []), (3, sA v23.1), (4, iA v23.2)], [(1001, bx (k25.a x0))]⟩) h (by kernel_rfl) (fun v23 u24 h q25 => ?_))))
 refine CD.seq (CD.seq (rg [(3, hV (iA (ln x0.f0)))] [(11, bA (decide (v23.2 < (ln x0.f0))))] [] (a1 (o_ln k53 x0.f0) a0) (br h (fun g26 h => ?_) (fun g26 h => ?_))))
 refine CD.skip (CD.seq (CD.block (CD.seq (CD.seq (rg [] [(15, bA (decide (v23.2 > 0)))] [] a0 (br h (fun g27 h => ?_) (fun g27 h => ?_)))))))
 rcases bd_some h with ⟨v28, g29, h⟩
 refine rg [(1, hV (sA v28))] [(3, sA v28)] [] (a1 (o_sa g29) a0) ?_
 rcases bd_some h with ⟨v30, g31, h⟩
 rcases bd_some h with ⟨v32, g33, h⟩
 rcases bd_some h with ⟨v34, g35, h⟩
 refine rg [(4, hE (k53.x v30)), (6, hC (sA v32) [] [] []), (7, hV (sA v34))] [(3, sA v34)] [] (a1 (o_ix k53 g31) (a1 (c118 g33) (a1 (o_sa g35) a0))) (NX.blN (rg [] [(4, iA (ad v23.2 1))] [] a0 ?_))
 obtain rfl := sm h
 exact NX.inl (by kernel_rfl)
 refine CD.skip ?_
 rcases bd_some h with ⟨v36, g37, h⟩
 rcases bd_some h with ⟨v38, g39, h⟩
 rcases bd_some h with ⟨v40, g41, h⟩
 refine rg [(4, hE (k53.x v36)), (6, hC (sA v38) [] [] []), (7, hV (sA v40))] [(3, sA v40)] [] (a1 (o_ix k53 g37) (a1 (c118 g39) (a1 (o_sa g41) a0))) (NX.blN (rg [] [(4, iA (ad v23.2 1))] [] a0 ?_))
 obtain rfl := sm h
 exact NX.inl (by kernel_rfl)
 refine CD.exit ?_
 obtain rfl := sm h
 obtain rfl := q25 _ rfl
 exact NX.th (NX.lq (NX.brk (NX.inl (by kernel_rfl))))
 refine CD.join (fun (v42 : (List UInt8)) => ⟨[(1, .ref 1001 []), (3, sA v42)], [(1001, bx (k25.a x0))]⟩) h (fun u43 h q44 => ?_) (fun v42 h => ?_)
 refine CD.seq (rg [(2, hV (iA (ln x0.f0)))] [(29, bA ((ln x0.f0) == 0))] [] (a1 (o_ln k53 x0.f0) a0) (br h (fun g45 h => ?_) (fun g45 h => ?_)))
 refine rg [] [(3, sA ([116, 114, 117, 101] : List UInt8))] [] a0 ?_
 obtain rfl := sm h
 exact NX.inl (by kernel_rfl)
 refine CD.skip ?_
 obtain rfl := sm h
 exact NX.inl (by kernel_rfl)
 refine CD.seq (CD.seq (rg [(2, hV (iA (ln x0.f1)))] [(33, bA ((ln x0.f1) == 0))] [] (a1 (o_ln k60 x0.f1) a0) (br h (fun g46 h => ?_) (fun g46 h => ?_))))
 refine CD.seq ?_
 rcases bd_some h with ⟨v47, g48, h⟩
 refine rg [(1, hV (sA v47))] [(2, sA v47)] [] (a1 (o_sa g48) a0) (CD.ret ?_)
 obtain rfl := sm h
 exact NX.ret [] a0 (by kernel_rfl)
 refine CD.skip (CD.join (fun (v49 : (List UInt8)) => ⟨[(3, sA v49)], []⟩) h (fun u50 h q51 => ?_) (fun v49 h => ?_))
 refine CD.seq (rg [] [(5, iA 0)] [] a0 (CD.block (CD.loopK (fun (v87 : (List UInt8) × Int) => ⟨[(1, .ref 1001 []), (3, sA v87.1), (5, iA v87.2)], [(1001, bx (k25.a x0))]⟩) h (by kernel_rfl) (fun v87 u88 h q89 => ?_))))
 refine CD.seq (CD.seq (rg [(3, hV (iA (ln x0.f1)))] [(40, bA (decide (v87.2 < (ln x0.f1))))] [] (a1 (o_ln k60 x0.f1) a0) (br h (fun g90 h => ?_) (fun g90 h => ?_))))
 refine CD.skip (CD.join (fun (v91 : (List UInt8)) => ⟨[(1, .ref 1001 []), (3, sA v91), (5, iA v87.2)], [(1001, bx (k25.a x0))]⟩) h (fun u92 h q93 => ?_) (fun v91 h => ?_))
 refine CD.block (CD.seq (rg [] [(6, sA ([62] : List UInt8))] [] a0 (CD.join (fun (v94 : (List UInt8)) => ⟨[(1, .ref 1001 []), (3, sA v87.1), (5, iA v87.2), (6, sA v94)], [(1001, bx (k25.a x0))]⟩) h (fun u95 h q96 => ?_) (fun v94 h => ?_))))
 refine CD.seq ?_
 rcases bd_some h with ⟨v97, g98, h⟩
 refine rg [(3, hE (k60.x v97))] [(49, bA (v97.f0 == 2))] [] (a1 (o_ix k60 g98) a0) (br h (fun g99 h => ?_) (fun g99 h => ?_))
 refine rg [] [(6, sA ([126] : List UInt8))] [] a0 ?_
 obtain rfl := sm h
 exact NX.inl (by kernel_rfl)
 refine CD.skip ?_
 obtain rfl := sm h
 exact NX.inl (by kernel_rfl)
 refine CD.join (fun (v100 : (List UInt8)) => ⟨[(1, .ref 1001 []), (3, sA v100), (5, iA v87.2), (6, sA v94)], [(1001, bx (k25.a x0))]⟩) h (fun u101 h q102 => ?_) (fun v100 h => ?_)
 refine CD.seq (rg [] [(51, bA (v87.2 == 0))] [] a0 (br h (fun g103 h => ?_) (fun g103 h => ?_)))
 rcases bd_some h with ⟨v104, g105, h⟩
 refine rg [(1, hV (sA v104))] [(3, sA v104)] [] (a1 (o_sa g105) a0) ?_
 obtain rfl := sm h
 exact NX.inl (by kernel_rfl)
 rcases bd_some h with ⟨v106, g107, h⟩
 refine rg [(1, hV (sA v106))] [(3, sA v106)] [] (a1 (o_sa g107) a0) ?_
 obtain rfl := sm h
 exact NX.inl (by kernel_rfl)
 rcases bd_some h with ⟨v108, g109, h⟩
 rcases bd_some h with ⟨v110, g111, h⟩
 rcases bd_some h with ⟨v112, g113, h⟩
 rcases bd_some h with ⟨v114, g115, h⟩
 rcases bd_some h with ⟨v116, g117, h⟩
 rcases bd_some h with ⟨v118, g119, h⟩
 rcases bd_some h with ⟨v120, g121, h⟩
 refine rg [(1, hD [1001]), (2, hD [1001]), (4, hE (k60.x v108)), (7, hC (sA v110) [] [] []), (8, hV (sA v112)), (10, hV (sA v114)), (11, hD [1001]), (12, hD [1001]), (14, hE (k60.x v116)), (17, hC (sA v118) [] [] []), (18, hV (sA v120))] [(3, sA v120)] [] (a1 (o_ix k60 g109) (a1 (c117 g111) (a1 (o_sa g113) (a1 (o_sa g115) (a1 (o_ix k60 g117) (a1 (c117 g119) (a1 (o_sa g121) a0))))))) ?_
 obtain rfl := sm h
 exact NX.blN (NX.inl (by kernel_rfl))
 refine rg [] [(5, iA (ad v87.2 1))] [] a0 ?_
 obtain rfl := sm h
 exact NX.inl (by kernel_rfl)
 refine CD.exit ?_
 obtain rfl := sm h
 obtain rfl := q89 _ rfl
 exact NX.th (NX.lq (NX.brk (NX.inl (by kernel_rfl))))
 refine CD.seq (rg [] [(2, sA v49)] [] a0 (CD.ret ?_))
 obtain rfl := sm h
 exact NX.ret [] a0 (by kernel_rfl)


-- f79 spec.FormatAssertion
def f79 (x0 : T25) : Option ((List UInt8)) :=
 bd (f22 x0) fun v1 =>
 if (!v1) = true then
 some ([] : List UInt8)
 else
 bd (f99 x0) fun v4 =>
 some v4
theorem c79 {x0 : T25} {r : (List UInt8)} (h : f79 x0 = some r) :
 FnD cx 79 [k25.a x0] [] (sA r) [] := by
 unfold f79 at h
 refine fnD_intro (fn := Tryz.f79) (by kernel_rfl) rfl (by kernel_rfl) (by kernel_rfl) fun E => ?_
 refine CD.seq (rg [] [(1, .ref 1001 [])] [(1001, bx (k25.a x0))] a0 (CD.seq (CD.seq ?_)))
 rcases bd_some h with ⟨v1, g2, h⟩
 refine rg [(1, hC (bA v1) [] [] [])] [(5, bA (!v1))] [] (a1 (c22 g2) a0) (br h (fun g3 h => ?_) (fun g3 h => ?_))
 refine CD.seq (rg [] [(2, sA ([] : List UInt8))] [] a0 (CD.ret ?_))
 obtain rfl := sm h
 exact NX.ret [] a0 (by kernel_rfl)
 refine CD.skip (CD.seq ?_)
 rcases bd_some h with ⟨v4, g5, h⟩
 refine rg [(1, hC (sA v4) [] [] [])] [(2, sA v4)] [] (a1 (c99 g5) a0) (CD.ret ?_)
 obtain rfl := sm h
 exact NX.ret [] a0 (by kernel_rfl)

end Go.Sep.Y
