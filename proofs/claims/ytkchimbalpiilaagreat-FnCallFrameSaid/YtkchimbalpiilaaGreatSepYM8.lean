/- Part of the proof: mirrors of the functions of this seat, and that the functions give what their mirrors give. -/
import Derived.Test.YtkchimbalpiilaaGreatSepYM7
set_option linter.all false
set_option linter.deprecated false
open Go Go.Sep Go.Proofs
set_option maxRecDepth 100000
namespace Go.Sep.Y
-- f58 impl.failingCase
def f58 (x0 : T25) (x1 : T25) : Option ((List Int) × Bool) :=
 bd (f17 x1) fun v1 =>
 bd (f74 x0 v1) fun v3 =>
 bd (f92 (ymk (W := ((List Int) × Bool)) fun (v5 : Unit) (v8 : (List Int)) =>
 bd (f75 x0 x1 v8) fun v9 =>
 if (!v9.2) = true then
 some (.inr (v8, true))
 else
 some (.inl ())) (.inl ()) v3.1 v3.2) fun v16 =>
 jw v16 (fun v18 =>
 some ([0, 0, 0, 0, 0, 0, 0, 0, 0], false)) fun v19 =>
 some (v19.1, v19.2)
theorem c58 {x0 : T25} {x1 : T25} {r : (List Int) × Bool} (h : f58 x0 x1 = some r) :
 FnD cx 58 [k25.a x0, k25.a x1] [] (.tup [k89.a r.1, bA r.2]) [] := by
 unfold f58 at h
 refine fnD_introR (fn := Tryz.f58) (by kernel_rfl) rfl (by kernel_rfl) (by kernel_rfl) fun E hE => ?_
 refine CD.seq (rg [] [(2, .ref 1002 []), (3, .ref 1003 []), (4, .ref 1004 []), (5, .ref 1005 [])] [(1005, bx (bA false)), (1004, bx (k89.a [0, 0, 0, 0, 0, 0, 0, 0, 0])), (1003, bx (k25.a x1)), (1002, bx (k25.a x0))] a0 (CD.seq (CD.seq ?_)))
 rcases bd_some h with ⟨v1, g2, h⟩
 rcases bd_some h with ⟨v3, g4, h⟩
 refine rg [(0, hD [1002]), (1, hD [1003]), (2, hC (k48.a v1) [] [] []), (3, hC (.fn 92 [.ref 0 [], .ref 1 []]) [bx (k25.a v3.1), bx (k48.a v3.2)] [] [2240, 2241])] [(12, .fn 92 [.ref 2240 [], .ref 2241 []])] [(2241, bx (k48.a v3.2)), (2240, bx (k25.a v3.1))] (a1 (c17 g2) (a1 (c74 g4) a0)) (CD.block ?_)
 rcases bd_some h with ⟨v16, g17, h⟩
 refine CD.range hE 92 [.ref 2240 [], .ref 2241 []] (by kernel_rfl) (by kernel_rfl) fun fn D => ?_
 have hy : ∀ {s : Unit ⊕ ((List Int) × Bool)} {x : (List Int)} {r : (Unit ⊕ ((List Int) × Bool)) × Bool}, (ymk (W := ((List Int) × Bool)) fun (v5 : Unit) (v8 : (List Int)) =>
 bd (f75 x0 x1 v8) fun v9 =>
 if (!v9.2) = true then
 some (.inr (v8, true))
 else
 some (.inl ())) s x = some r → YD cx 0 [k89.a x] [.raw (rcd fn #[13] (rgA (bl1 (sq2 (sq1 (sq2 (Option.getD Tryz.f58.body .skip)))))) (rgB (bl1 (sq2 (sq1 (sq2 (Option.getD Tryz.f58.body .skip)))))) D (stO s) (peO .ret s)) (slN 25 [(2, .ref 1 []), (3, .ref 2 []), (4, .ref 3 []), (5, .ref 4 [])]), bx (k25.a x0), bx (k25.a x1), bx (k89.a ((Sum.elim (fun (v5 : Unit) => [0, 0, 0, 0, 0, 0, 0, 0, 0]) (fun (v12 : (List Int) × Bool) => v12.1)) s)), bx (bA ((Sum.elim (fun (v5 : Unit) => false) (fun (v12 : (List Int) × Bool) => v12.2)) s))] (bA r.2) [.raw (rcd fn #[13] (rgA (bl1 (sq2 (sq1 (sq2 (Option.getD Tryz.f58.body .skip)))))) (rgB (bl1 (sq2 (sq1 (sq2 (Option.getD Tryz.f58.body .skip)))))) D (stO r.1) (peO .ret r.1)) (slN 25 [(2, .ref 1 []), (3, .ref 2 []), (4, .ref 3 []), (5, .ref 4 [])]), bx (k25.a x0), bx (k25.a x1), bx (k89.a ((Sum.elim (fun (v5 : Unit) => [0, 0, 0, 0, 0, 0, 0, 0, 0]) (fun (v12 : (List Int) × Bool) => v12.1)) r.1)), bx (bA ((Sum.elim (fun (v5 : Unit) => false) (fun (v12 : (List Int) × Bool) => v12.2)) r.1))] := by
  intro s v8 r h
  rcases ymk_inv h with ⟨v5, u, rfl, h1, rfl⟩
  replace h := h1
  refine yd_intro 25 [(2, .ref 1 []), (3, .ref 2 []), (4, .ref 3 []), (5, .ref 4 [])] (by kernel_rfl) (by kernel_rfl) fun E b hR => (rg [] [(6, .ref 1006 [])] [(1006, bx (k89.a v8))] a0 (NX.begin (fn := fn) (ps := #[13]) (ag := (rgA (bl1 (sq2 (sq1 (sq2 (Option.getD Tryz.f58.body .skip))))))) (bg := (rgB (bl1 (sq2 (sq1 (sq2 (Option.getD Tryz.f58.body .skip))))))) (D := D) (sl := slN 25 [(2, .ref 1 []), (3, .ref 2 []), (4, .ref 3 []), (5, .ref 4 [])]) hR (by kernel_rfl) (CD.block (CD.seq ?_))))
  rcases bd_some h with ⟨v9, g10, h⟩
  refine rg [(3, hC (.tup [.own 0 v9.1.length, bA v9.2]) [k27.r 27 .cell v9.1] [] [2360])] [(8, bA v9.2)] [(2360, k27.r 27 .cell v9.1)] (a1 (c75 g10) a0) (CD.seq (rg [] [(22, bA (!v9.2))] [] a0 (br h (fun g11 h => ?_) (fun g11 h => ?_))))
  refine CD.seq (rg [] [] [(4, bx (bA true)), (3, bx (k89.a v8))] a0 (CD.ret ?_))
  obtain rfl := sm h
  exact NX.rnd (fn := fn) (ps := #[13]) (ag := (rgA (bl1 (sq2 (sq1 (sq2 (Option.getD Tryz.f58.body .skip))))))) (bg := (rgB (bl1 (sq2 (sq1 (sq2 (Option.getD Tryz.f58.body .skip))))))) (D := D) (sl := slN 25 [(2, .ref 1 []), (3, .ref 2 []), (4, .ref 3 []), (5, .ref 4 [])]) [0, 1, 2, 3, 4] a0 (some .ret) rfl (by kernel_rfl) (by kernel_rfl) rfl
  refine CD.skip ?_
  obtain rfl := sm h
  exact NX.blN (NX.rnd (fn := fn) (ps := #[13]) (ag := (rgA (bl1 (sq2 (sq1 (sq2 (Option.getD Tryz.f58.body .skip))))))) (bg := (rgB (bl1 (sq2 (sq1 (sq2 (Option.getD Tryz.f58.body .skip))))))) (D := D) (sl := slN 25 [(2, .ref 1 []), (3, .ref 2 []), (4, .ref 3 []), (5, .ref 4 [])]) [0, 1, 2, 3, 4] a0 none rfl (by kernel_rfl) (by kernel_rfl) rfl)
 have hK := c92 (V := Unit ⊕ ((List Int) × Bool)) (sT := stO) (pT := (peO .ret)) (fn := fn) (D := D) (d0 := (x0 : T25)) (d1 := (x1 : T25)) (d2 := (Sum.elim (fun (v5 : Unit) => [0, 0, 0, 0, 0, 0, 0, 0, 0]) (fun (v12 : (List Int) × Bool) => v12.1))) (d3 := (Sum.elim (fun (v5 : Unit) => false) (fun (v12 : (List Int) × Bool) => v12.2))) hy g17
 rcases v16 with v18 | v19
 refine RG.intro [2, 3, 4, 5] (.tup []) ([.raw (rcd fn #[13] (rgA (bl1 (sq2 (sq1 (sq2 (Option.getD Tryz.f58.body .skip)))))) (rgB (bl1 (sq2 (sq1 (sq2 (Option.getD Tryz.f58.body .skip)))))) D (stO (.inl v18 : Unit ⊕ ((List Int) × Bool))) (peO .ret (.inl v18 : Unit ⊕ ((List Int) × Bool)))) (slN 25 [(2, .ref 1 []), (3, .ref 2 []), (4, .ref 3 []), (5, .ref 4 [])]), bx (k25.a x0), bx (k25.a x1), bx (k89.a ((Sum.elim (fun (v5 : Unit) => [0, 0, 0, 0, 0, 0, 0, 0, 0]) (fun (v12 : (List Int) × Bool) => v12.1)) (.inl v18 : Unit ⊕ ((List Int) × Bool)))), bx (bA ((Sum.elim (fun (v5 : Unit) => false) (fun (v12 : (List Int) × Bool) => v12.2)) (.inl v18 : Unit ⊕ ((List Int) × Bool))))] ++ [bx (k25.a v3.1), bx (k48.a v3.2)]) [1002, 1003, 1004, 1005, 2240, 2241] (od := [(1002, bx (k25.a x0)), (1003, bx (k25.a x1)), (1004, bx (k89.a [0, 0, 0, 0, 0, 0, 0, 0, 0])), (1005, bx (bA false)), (2240, bx (k25.a v3.1)), (2241, bx (k48.a v3.2))]) (sl' := slN 25 [(2, .ref 1002 []), (3, .ref 1003 []), (4, .ref 1004 []), (5, .ref 1005 [])]) (a1 hK a0) .ready none (by kernel_rfl) (fun h => by cases h) (NX.blN ?_)
 refine CD.seq (rg [] [] [(1005, bx (bA false)), (1004, bx (k89.a [0, 0, 0, 0, 0, 0, 0, 0, 0]))] a0 (CD.ret ?_))
 obtain rfl := sm h
 exact NX.ret [] a0 (by kernel_rfl)
 refine RG.intro [2, 3, 4, 5] (.tup []) ([.raw (rcd fn #[13] (rgA (bl1 (sq2 (sq1 (sq2 (Option.getD Tryz.f58.body .skip)))))) (rgB (bl1 (sq2 (sq1 (sq2 (Option.getD Tryz.f58.body .skip)))))) D (stO (.inr v19 : Unit ⊕ ((List Int) × Bool))) (peO .ret (.inr v19 : Unit ⊕ ((List Int) × Bool)))) (slN 25 [(2, .ref 1 []), (3, .ref 2 []), (4, .ref 3 []), (5, .ref 4 [])]), bx (k25.a x0), bx (k25.a x1), bx (k89.a ((Sum.elim (fun (v5 : Unit) => [0, 0, 0, 0, 0, 0, 0, 0, 0]) (fun (v12 : (List Int) × Bool) => v12.1)) (.inr v19 : Unit ⊕ ((List Int) × Bool)))), bx (bA ((Sum.elim (fun (v5 : Unit) => false) (fun (v12 : (List Int) × Bool) => v12.2)) (.inr v19 : Unit ⊕ ((List Int) × Bool))))] ++ [bx (k25.a v3.1), bx (k48.a v3.2)]) [1002, 1003, 1004, 1005, 2240, 2241] (od := [(1002, bx (k25.a x0)), (1003, bx (k25.a x1)), (1004, bx (k89.a v19.1)), (1005, bx (bA v19.2)), (2240, bx (k25.a v3.1)), (2241, bx (k48.a v3.2))]) (sl' := slN 25 [(2, .ref 1002 []), (3, .ref 1003 []), (4, .ref 1004 []), (5, .ref 1005 [])]) (a1 hK a0) .done (some .ret) (by kernel_rfl) (fun h => by cases h) (CD.ret ?_)
 obtain rfl := sm h
 exact NX.ret [] a0 (by kernel_rfl)


-- f35 impl.Entails
def f35 (x0 : T25) (x1 : T25) : Option (Bool) :=
 jn (
 bd (f15 x0) fun v4 =>
 if (!v4) = true then
 some (.inr false)
 else
 bd (f15 x1) fun v7 =>
 if (!v7) = true then
 some (.inr false)
 else
 some (.inl ())) fun (v1 : Unit) =>
 bd (f58 x0 x1) fun v10 =>
 some (!v10.2)
theorem c35 {x0 : T25} {x1 : T25} {r : Bool} (h : f35 x0 x1 = some r) :
 FnD cx 35 [k25.a x0, k25.a x1] [] (bA r) [] := by
 unfold f35 at h
 refine fnD_intro (fn := Tryz.f35) (by kernel_rfl) rfl (by kernel_rfl) (by kernel_rfl) fun E => ?_
 refine CD.seq (rg [] [(2, .ref 1002 []), (3, .ref 1003 [])] [(1003, bx (k25.a x1)), (1002, bx (k25.a x0))] a0 (CD.join (fun (v1 : Unit) => ⟨[(2, .ref 1002 []), (3, .ref 1003 [])], [(1002, bx (k25.a x0)), (1003, bx (k25.a x1))]⟩) h (fun u2 h q3 => ?_) (fun v1 h => ?_)))
 refine CD.seq ?_
 rcases bd_some h with ⟨v4, g5, h⟩
 rcases if_some h with ⟨g6, h⟩ | ⟨g6, h⟩
 refine rg [(1, hC (bA v4) [] [] []), (3, hT1)] [(14, bA true)] [] (a1 (c15 g5) (a1 (oB (c := (!v4)) g6) a0)) (CD.condT (b := true) (by kernel_rfl) rfl (CD.seq (rg [] [(4, bA false)] [] a0 (CD.ret ?_))))
 obtain rfl := sm h
 obtain rfl := q3 _ rfl
 exact NX.ret [] a0 (by kernel_rfl)
 rcases bd_some h with ⟨v7, g8, h⟩
 refine rg [(1, hC (bA v4) [] [] []), (3, hF1), (5, hC (bA v7) [] [] [])] [(14, bA (!v7))] [] (a1 (c15 g5) (a1 (oB (c := (!v4)) g6) (a1 (c15 g8) a0))) (br h (fun g9 h => ?_) (fun g9 h => ?_))
 refine CD.seq (rg [] [(4, bA false)] [] a0 (CD.ret ?_))
 obtain rfl := sm h
 obtain rfl := q3 _ rfl
 exact NX.ret [] a0 (by kernel_rfl)
 refine CD.skip ?_
 obtain rfl := sm h
 exact NX.inl (by kernel_rfl)
 refine CD.seq ?_
 rcases bd_some h with ⟨v10, g11, h⟩
 refine rg [(2, hC (.tup [k89.a v10.1, bA v10.2]) [] [] [])] [(6, bA v10.2)] [(1005, bx (k89.a v10.1))] (a1 (c58 g11) a0) (CD.seq (rg [] [(4, bA (!v10.2))] [] a0 (CD.ret ?_)))
 obtain rfl := sm h
 exact NX.ret [] a0 (by kernel_rfl)


-- f32 impl.FrameOf$1
def f32 (x0 : Int) (x1 : T25) (x2 : T25) : Option (Bool) :=
 bd (f34 x2 x0) fun v1 =>
 bd (f33 x1 (⟨v1.1, v1.2⟩ : T25)) fun v3 =>
 if v3.2.2 = true then
 bd (f35 x2 (⟨v3.1, v3.2.1⟩ : T25)) fun v6 =>
 some v6
 else
 some false
theorem c32 {x0 : Int} {x1 : T25} {x2 : T25} {r : Bool} (h : f32 x0 x1 x2 = some r) :
 FnD cx 32 [iA x0, .ref 0 [], .ref 1 []] [bx (k25.a x1), bx (k25.a x2)] (bA r) [bx (k25.a x1), bx (k25.a x2)] := by
 unfold f32 at h
 refine fnD_intro (fn := Tryz.f32) (by kernel_rfl) rfl (by kernel_rfl) (by kernel_rfl) fun E => ?_
 refine CD.seq (rg [] [] [] a0 (CD.seq ?_))
 rcases bd_some h with ⟨v1, g2, h⟩
 rcases bd_some h with ⟨v3, g4, h⟩
 refine rg [(0, hD [0]), (1, hD [1]), (3, hC (.agg [k23.a v1.1, .own 0 v1.2.length]) [k60.r 61 (.node [.cell, .cell, .cell]) v1.2] [] [2220]), (4, (hC (.tup [.agg [.own 0 v3.1.length, .own 1 v3.2.1.length], bA v3.2.2]) [k53.r 54 (.node [.cell, .cell, .cell]) v3.1, k60.r 61 (.node [.cell, .cell, .cell]) v3.2.1] [] [2240, 2241]).g [2220]), (9, hD [1005])] [(5, .ref 1005 []), (6, bA v3.2.2)] [(1005, bx (.agg [.own 2240 v3.1.length, .own 2241 v3.2.1.length])), (2241, k60.r 61 (.node [.cell, .cell, .cell]) v3.2.1), (2240, k53.r 54 (.node [.cell, .cell, .cell]) v3.1), (2220, k60.r 61 (.node [.cell, .cell, .cell]) v1.2)] (a1 (c34 g2) (a1 (k_len' k60 v1.2) (a1 (c33 g4) (a1 (show AV.plain (.tup [.agg [.own 0 v3.1.length, .own 1 v3.2.1.length], bA v3.2.2]) = true ∧ allPlain [k53.r 54 (.node [.cell, .cell, .cell]) v3.1, k60.r 61 (.node [.cell, .cell, .cell]) v3.2.1] = true from ⟨rfl, (plR k53 (fun _ => rfl) (plR k60 (fun _ => rfl) pl0))⟩) a0)))) (CD.seq ?_)
 rcases if_some h with ⟨g5, h⟩ | ⟨g5, h⟩
 rcases bd_some h with ⟨v6, g7, h⟩
 refine rg [(1, hT1), (4, hC (bA v6) [] [] [])] [(4, bA v6)] [] (a1 (oB (c := v3.2.2) g5) (a1 (k_len' k53 v3.1) (a1 (k_len' k60 v3.2.1) (a1 (c35 g7) (a1 (show AV.plain (bA v6) = true ∧ allPlain [] = true from ⟨rfl, pl0⟩) a0))))) (CD.ret ?_)
 obtain rfl := sm h
 exact NX.ret [0, 1] a0 (by kernel_rfl)
 refine rg [(1, hF1)] [(4, bA false)] [] (a1 (oB (c := v3.2.2) g5) a0) (CD.ret ?_)
 obtain rfl := sm h
 exact NX.ret [0, 1] a0 (by kernel_rfl)


-- f31 impl.leastMask
def f31 (x0 : Int) (x1 : T25) (x2 : T25) : Option (Int × Bool) :=
 jn (
 iter (fun (v13 : Int) =>
 bd (shl .i64 1 x0) fun v16 =>
 if (decide (v13 < v16)) = true then
 bd (f32 v13 x1 x2) fun v19 =>
 if v19 = true then
 some (.inr (.inr (v13, true)))
 else
 some (.inl (ad v13 1))
 else
 some (.inr (.inl ()))) 0) fun (v1 : Unit) =>
 some (0, false)
theorem c31 {x0 : Int} {x1 : T25} {x2 : T25} {r : Int × Bool} (h : f31 x0 x1 x2 = some r) :
 FnD cx 31 [iA x0, .fn 32 [.ref 0 [], .ref 1 []]] [bx (k25.a x1), bx (k25.a x2)] (.tup [iA r.1, bA r.2]) [bx (k25.a x1), bx (k25.a x2)] := by
 unfold f31 at h
 refine fnD_intro (fn := Tryz.f31) (by kernel_rfl) rfl (by kernel_rfl) (by kernel_rfl) fun E => ?_
 refine CD.seq (rg [] [] [] a0 (CD.join (fun (v1 : Unit) => ⟨[], [(0, bx (k25.a x1)), (1, bx (k25.a x2))]⟩) h (fun u2 h q3 => ?_) (fun v1 h => ?_)))
 refine CD.seq (rg [] [(6, iA 0)] [] a0 (CD.block (CD.loopK (fun (v13 : Int) => ⟨[(0, iA x0), (1, .fn 32 [.ref 0 [], .ref 1 []]), (6, iA v13)], [(0, bx (k25.a x1)), (1, bx (k25.a x2))]⟩) h (by kernel_rfl) (fun v13 u14 h q15 => ?_))))
 refine CD.seq (CD.seq ?_)
 rcases bd_some h with ⟨v16, g17, h⟩
 refine rg [(2, hV (iA v16))] [(10, bA (decide (v13 < v16)))] [] (a1 (o_shl g17) a0) (br h (fun g18 h => ?_) (fun g18 h => ?_))
 refine CD.skip (CD.seq (CD.block (CD.seq ?_)))
 rcases bd_some h with ⟨v19, g20, h⟩
 refine rg [(2, hC (bA v19) [bx (k25.a x1), bx (k25.a x2)] [0, 1] [])] [(15, bA v19)] [(1, bx (k25.a x2)), (0, bx (k25.a x1))] (a1 (c32 g20) a0) (br h (fun g21 h => ?_) (fun g21 h => ?_))
 refine CD.seq (rg [] [(4, iA v13), (5, bA true)] [] a0 (CD.ret ?_))
 obtain rfl := sm h
 obtain rfl := q15 _ rfl
 obtain rfl := q3 _ rfl
 exact NX.ret [0, 1] a0 (by kernel_rfl)
 refine CD.skip (NX.blN (rg [] [(6, iA (ad v13 1))] [] a0 ?_))
 obtain rfl := sm h
 exact NX.inl (by kernel_rfl)
 refine CD.exit ?_
 obtain rfl := sm h
 obtain rfl := q15 _ rfl
 exact NX.th (NX.lq (NX.brk (NX.inl (by kernel_rfl))))
 refine CD.seq (rg [] [(4, iA 0), (5, bA false)] [] a0 (CD.ret ?_))
 obtain rfl := sm h
 exact NX.ret [0, 1] a0 (by kernel_rfl)


-- f8 impl.FrameOf
def f8 (x0 : T25) (x1 : T25) : Option ((List T53) × (List T60) × Bool) :=
 jn (
 bd (f15 x0) fun v4 =>
 if (!v4) = true then
 some (.inr ([], [], false))
 else
 bd (f15 x1) fun v7 =>
 if (!v7) = true then
 some (.inr ([], [], false))
 else
 some (.inl ())) fun (v1 : Unit) =>
 bd (f31 (ln x0.f1) x1 x0) fun v10 =>
 if (!v10.2) = true then
 some ([], [], false)
 else
 bd (f34 x0 v10.1) fun v13 =>
 some (v13.1, v13.2, true)
theorem c8 {x0 : T25} {x1 : T25} {r : (List T53) × (List T60) × Bool} (h : f8 x0 x1 = some r) :
 FnD cx 8 [k25.a x0, k25.a x1] [] (.tup [.agg [k23.a r.1, .own 0 r.2.1.length], bA r.2.2]) [k60.r 61 (.node [.cell, .cell, .cell]) r.2.1] := by
 unfold f8 at h
 refine fnD_intro (fn := Tryz.f8) (by kernel_rfl) rfl (by kernel_rfl) (by kernel_rfl) fun E => ?_
 refine CD.seq (rg [] [(2, .ref 1002 []), (3, .ref 1003 []), (4, .ref 1004 [])] [(1004, bx (.agg [.nils (.node [.cell, .cell, .cell]), .nils (.node [.cell, .cell, .cell])])), (1003, bx (k25.a x1)), (1002, bx (k25.a x0))] a0 (CD.join (fun (v1 : Unit) => ⟨[(2, .ref 1002 []), (3, .ref 1003 []), (4, .ref 1004 [])], [(1002, bx (k25.a x0)), (1003, bx (k25.a x1)), (1004, bx (.agg [.nils (.node [.cell, .cell, .cell]), .nils (.node [.cell, .cell, .cell])]))]⟩) h (fun u2 h q3 => ?_) (fun v1 h => ?_)))
 refine CD.seq ?_
 rcases bd_some h with ⟨v4, g5, h⟩
 rcases if_some h with ⟨g6, h⟩ | ⟨g6, h⟩
 refine rg [(1, hC (bA v4) [] [] []), (3, hT1)] [(15, bA true)] [] (a1 (c15 g5) (a1 (oB (c := (!v4)) g6) a0)) (CD.condT (b := true) (by kernel_rfl) rfl (CD.seq (rg [] [(5, bA false)] [(1004, bx (.agg [.nils (.node [.cell, .cell, .cell]), .nils (.node [.cell, .cell, .cell])]))] a0 (CD.ret ?_))))
 obtain rfl := sm h
 obtain rfl := q3 _ rfl
 exact NX.own0b 1004 5000 [1] 61 (sh := (.node [.cell, .cell, .cell])) (c := .agg [.nils (.node [.cell, .cell, .cell]), .nils (.node [.cell, .cell, .cell])]) (c' := .agg [.nils (.node [.cell, .cell, .cell]), .own 5000 0]) (by kernel_rfl) (by kernel_rfl) (by kernel_rfl) (by kernel_rfl) (NX.ret [5000] a0 (by kernel_rfl))
 rcases bd_some h with ⟨v7, g8, h⟩
 refine rg [(1, hC (bA v4) [] [] []), (3, hF1), (5, hC (bA v7) [] [] [])] [(15, bA (!v7))] [] (a1 (c15 g5) (a1 (oB (c := (!v4)) g6) (a1 (c15 g8) a0))) (br h (fun g9 h => ?_) (fun g9 h => ?_))
 refine CD.seq (rg [] [(5, bA false)] [(1004, bx (.agg [.nils (.node [.cell, .cell, .cell]), .nils (.node [.cell, .cell, .cell])]))] a0 (CD.ret ?_))
 obtain rfl := sm h
 obtain rfl := q3 _ rfl
 exact NX.own0b 1004 5000 [1] 61 (sh := (.node [.cell, .cell, .cell])) (c := .agg [.nils (.node [.cell, .cell, .cell]), .nils (.node [.cell, .cell, .cell])]) (c' := .agg [.nils (.node [.cell, .cell, .cell]), .own 5000 0]) (by kernel_rfl) (by kernel_rfl) (by kernel_rfl) (by kernel_rfl) (NX.ret [5000] a0 (by kernel_rfl))
 refine CD.skip ?_
 obtain rfl := sm h
 exact NX.inl (by kernel_rfl)
 refine CD.seq ?_
 rcases bd_some h with ⟨v10, g11, h⟩
 refine rg [(2, hV (iA (ln x0.f1))), (4, hC (.tup [iA v10.1, bA v10.2]) [bx (k25.a x1), bx (k25.a x0)] [1003, 1002] [])] [(6, iA v10.1), (7, bA v10.2)] [(1002, bx (k25.a x0)), (1003, bx (k25.a x1))] (a1 (o_ln k60 x0.f1) (a1 (c31 g11) a0)) (CD.seq (CD.seq (rg [] [(26, bA (!v10.2))] [] a0 (br h (fun g12 h => ?_) (fun g12 h => ?_)))))
 refine CD.seq (rg [] [(5, bA false)] [(1004, bx (.agg [.nils (.node [.cell, .cell, .cell]), .nils (.node [.cell, .cell, .cell])]))] a0 (CD.ret ?_))
 obtain rfl := sm h
 exact NX.own0b 1004 5000 [1] 61 (sh := (.node [.cell, .cell, .cell])) (c := .agg [.nils (.node [.cell, .cell, .cell]), .nils (.node [.cell, .cell, .cell])]) (c' := .agg [.nils (.node [.cell, .cell, .cell]), .own 5000 0]) (by kernel_rfl) (by kernel_rfl) (by kernel_rfl) (by kernel_rfl) (NX.ret [5000] a0 (by kernel_rfl))
 refine CD.skip (CD.seq ?_)
 rcases bd_some h with ⟨v13, g14, h⟩
 refine rg [(2, hC (.agg [k23.a v13.1, .own 0 v13.2.length]) [k60.r 61 (.node [.cell, .cell, .cell]) v13.2] [] [2600])] [(5, bA true)] [(1004, bx (.agg [k23.a v13.1, .own 2600 v13.2.length])), (2600, k60.r 61 (.node [.cell, .cell, .cell]) v13.2)] (a1 (c34 g14) a0) (CD.ret ?_)
 obtain rfl := sm h
 exact NX.ret [2600] a0 (by kernel_rfl)

theorem c8d {x0 : T25} {x1 : T25} {r : (List T53) × (List T60) × Bool} (h : f8 x0 x1 = some r) :
 FnD cx 8 [k25.a x0, k25.a x1] [] (.tup [k25.a (⟨r.1, r.2.1⟩ : T25), bA r.2.2]) [] :=
 FnD.data (xs := [.agg [k23.a r.1, .own 0 r.2.1.length], bA r.2.2]) (ys := [k25.a (⟨r.1, r.2.1⟩ : T25), bA r.2.2]) (p := True) (q := ((True ∧ ((r.2.1.length = (k60.m r.2.1).length) ∧ True)) ∧ (True ∧ True))) (c8 h) [] (by kernel_rfl) (by kernel_rfl) a0 (by kernel_rfl) (a1 (k_len' k60 r.2.1) a0)


-- f44 impl.isProgramVar
def f44 (x0 : Int) : Option (Bool) :=
 if (decide (x0 ≥ 1)) = true then
 some (decide (x0 ≤ 4))
 else
 some false
theorem c44 {x0 : Int} {r : Bool} (h : f44 x0 = some r) :
 FnD cx 44 [iA x0] [] (bA r) [] := by
 unfold f44 at h
 refine fnD_intro (fn := Tryz.f44) (by kernel_rfl) rfl (by kernel_rfl) (by kernel_rfl) fun E => ?_
 refine CD.seq (rg [] [] [] a0 (CD.seq ?_))
 rcases if_some h with ⟨g1, h⟩ | ⟨g1, h⟩
 refine rg [(2, hT1)] [(2, bA (decide (x0 ≤ 4)))] [] (a1 (oB (c := (decide (x0 ≥ 1))) g1) a0) (CD.ret ?_)
 obtain rfl := sm h
 exact NX.ret [] a0 (by kernel_rfl)
 refine rg [(2, hF1)] [(2, bA false)] [] (a1 (oB (c := (decide (x0 ≥ 1))) g1) a0) (CD.ret ?_)
 obtain rfl := sm h
 exact NX.ret [] a0 (by kernel_rfl)


-- f16 impl.ContractValid
def f16 (x0 : T28) : Option (Bool) :=
 jn (
 bd (f15 x0.f0) fun v4 =>
 if (!v4) = true then
 some (.inr false)
 else
 bd (f15 x0.f1) fun v7 =>
 if (!v7) = true then
 some (.inr false)
 else
 some (.inl ())) fun (v1 : Unit) =>
 jn (
 iter (fun (v23 : Int × Int) =>
 if (decide (v23.2 < (ln x0.f2))) = true then
 bd (ix x0.f2 v23.2) fun v27 =>
 bd (f44 v27) fun v29 =>
 if (!v29) = true then
 some (.inr (.inr false))
 else
 if (decide (v27 ≤ v23.1)) = true then
 some (.inr (.inr false))
 else
 some (.inl (v27, ad v23.2 1))
 else
 some (.inr (.inl ()))) (0, 0)) fun (v10 : Unit) =>
 some true
theorem c16 {x0 : T28} {r : Bool} (h : f16 x0 = some r) :
 FnD cx 16 [k28.a x0] [] (bA r) [] := by
 unfold f16 at h
 refine fnD_intro (fn := Tryz.f16) (by kernel_rfl) rfl (by kernel_rfl) (by kernel_rfl) fun E => ?_
 refine CD.seq (rg [] [(1, .ref 1001 [])] [(1001, bx (k28.a x0))] a0 (CD.join (fun (v1 : Unit) => ⟨[(1, .ref 1001 [])], [(1001, bx (k28.a x0))]⟩) h (fun u2 h q3 => ?_) (fun v1 h => ?_)))
 refine CD.seq ?_
 rcases bd_some h with ⟨v4, g5, h⟩
 rcases if_some h with ⟨g6, h⟩ | ⟨g6, h⟩
 refine rg [(2, hC (bA v4) [] [] []), (4, hT1)] [(15, bA true)] [] (a1 (c15 g5) (a1 (oB (c := (!v4)) g6) a0)) (CD.condT (b := true) (by kernel_rfl) rfl (CD.seq (rg [] [(2, bA false)] [] a0 (CD.ret ?_))))
 obtain rfl := sm h
 obtain rfl := q3 _ rfl
 exact NX.ret [] a0 (by kernel_rfl)
 rcases bd_some h with ⟨v7, g8, h⟩
 refine rg [(2, hC (bA v4) [] [] []), (4, hF1), (7, hC (bA v7) [] [] [])] [(15, bA (!v7))] [] (a1 (c15 g5) (a1 (oB (c := (!v4)) g6) (a1 (c15 g8) a0))) (br h (fun g9 h => ?_) (fun g9 h => ?_))
 refine CD.seq (rg [] [(2, bA false)] [] a0 (CD.ret ?_))
 obtain rfl := sm h
 obtain rfl := q3 _ rfl
 exact NX.ret [] a0 (by kernel_rfl)
 refine CD.skip ?_
 obtain rfl := sm h
 exact NX.inl (by kernel_rfl)
 refine CD.seq (rg [] [(3, iA 0)] [] a0 (CD.join (fun (v10 : Unit) => ⟨[], []⟩) h (fun u11 h q12 => ?_) (fun v10 h => ?_)))
 refine CD.seq (rg [(2, hV (iA (ln x0.f2)))] [(17, k27.a x0.f2), (18, iA (ln x0.f2)), (19, iA 0)] [] (a1 (o_ln k3 x0.f2) a0) (CD.block (CD.loopK (fun (v23 : Int × Int) => ⟨[(3, iA v23.1), (17, k27.a x0.f2), (18, iA (ln x0.f2)), (19, iA v23.2)], []⟩) h (by kernel_rfl) (fun v23 u24 h q25 => ?_))))
 refine CD.seq (rg [] [(20, bA (decide (v23.2 < (ln x0.f2))))] [] a0 (CD.seq (br h (fun g26 h => ?_) (fun g26 h => ?_))))
 refine CD.skip (CD.seq (CD.block (CD.seq ?_)))
 rcases bd_some h with ⟨v27, g28, h⟩
 refine rg [(0, hE (.int .i64 v27))] [(5, iA v27)] [] (a1 (o_ix k3 g28) a0) (CD.seq (CD.seq ?_))
 rcases bd_some h with ⟨v29, g30, h⟩
 rcases if_some h with ⟨g31, h⟩ | ⟨g31, h⟩
 refine rg [(1, hC (bA v29) [] [] []), (3, hT1)] [(30, bA true)] [] (a1 (c44 g30) (a1 (oB (c := (!v29)) g31) a0)) (CD.condT (b := true) (by kernel_rfl) rfl (CD.seq (rg [] [(2, bA false)] [] a0 (CD.ret ?_))))
 obtain rfl := sm h
 obtain rfl := q25 _ rfl
 obtain rfl := q12 _ rfl
 exact NX.ret [] a0 (by kernel_rfl)
 refine rg [(1, hC (bA v29) [] [] []), (3, hF1)] [(30, bA (decide (v27 ≤ v23.1)))] [] (a1 (c44 g30) (a1 (oB (c := (!v29)) g31) a0)) (br h (fun g32 h => ?_) (fun g32 h => ?_))
 refine CD.seq (rg [] [(2, bA false)] [] a0 (CD.ret ?_))
 obtain rfl := sm h
 obtain rfl := q25 _ rfl
 obtain rfl := q12 _ rfl
 exact NX.ret [] a0 (by kernel_rfl)
 refine CD.skip (rg [] [(3, iA v27)] [] a0 (NX.blN (rg [] [(19, iA (ad v23.2 1))] [] a0 ?_)))
 obtain rfl := sm h
 exact NX.inl (by kernel_rfl)
 refine CD.exit ?_
 obtain rfl := sm h
 obtain rfl := q25 _ rfl
 exact NX.th (NX.lq (NX.brk (NX.inl (by kernel_rfl))))
 refine CD.seq (rg [] [(2, bA true)] [] a0 (CD.ret ?_))
 obtain rfl := sm h
 exact NX.ret [] a0 (by kernel_rfl)


-- f18 impl.setOfTerms
def f18 (x0 : (List Int)) : Option (Int) :=
 jn (
 iter (fun (v12 : Int × Int) =>
 if (decide (v12.2 < (ln x0))) = true then
 bd (ix x0 v12.2) fun v16 =>
 bd (f45 v12.1 v16) fun v18 =>
 some (.inl (v18, ad v12.2 1))
 else
 some (.inr (.inl v12.1))) (0, 0)) fun (v1 : Int) =>
 some v1
theorem c18 {x0 : (List Int)} {r : Int} (h : f18 x0 = some r) :
 FnD cx 18 [k27.a x0] [] (k48.a r) [] := by
 unfold f18 at h
 refine fnD_intro (fn := Tryz.f18) (by kernel_rfl) rfl (by kernel_rfl) (by kernel_rfl) fun E => ?_
 refine CD.seq (rg [] [] [] a0 (CD.seq (rg [] [(3, k48.a 0)] [] a0 (CD.join (fun (v1 : Int) => ⟨[(3, k48.a v1)], []⟩) h (fun u2 h q3 => ?_) (fun v1 h => ?_)))))
 refine CD.seq (rg [(1, hV (iA (ln x0)))] [(6, k27.a x0), (7, iA (ln x0)), (8, iA 0)] [] (a1 (o_ln k3 x0) a0) (CD.block (CD.loopK (fun (v12 : Int × Int) => ⟨[(3, k48.a v12.1), (6, k27.a x0), (7, iA (ln x0)), (8, iA v12.2)], []⟩) h (by kernel_rfl) (fun v12 u13 h q14 => ?_))))
 refine CD.seq (rg [] [(9, bA (decide (v12.2 < (ln x0))))] [] a0 (CD.seq (br h (fun g15 h => ?_) (fun g15 h => ?_))))
 refine CD.skip (CD.seq (CD.block (CD.seq ?_)))
 rcases bd_some h with ⟨v16, g17, h⟩
 refine rg [(0, hE (.int .i64 v16))] [(5, iA v16)] [] (a1 (o_ix k3 g17) a0) ?_
 rcases bd_some h with ⟨v18, g19, h⟩
 refine rg [(2, hC (k48.a v18) [] [] [])] [(3, k48.a v18)] [] (a1 (c45 g19) a0) (NX.blN (rg [] [(8, iA (ad v12.2 1))] [] a0 ?_))
 obtain rfl := sm h
 exact NX.inl (by kernel_rfl)
 refine CD.exit ?_
 obtain rfl := sm h
 obtain rfl := q14 _ rfl
 exact NX.th (NX.lq (NX.brk (NX.inl (by kernel_rfl))))
 refine CD.seq (rg [] [(2, k48.a v1)] [] a0 (CD.ret ?_))
 obtain rfl := sm h
 exact NX.ret [] a0 (by kernel_rfl)


-- f47 impl.copyAssertion
def f47 (x0 : T25) : Option ((List T53) × (List T60)) :=
 bd (f19 x0.f0 []) fun v1 =>
 bd (f21 x0.f1 []) fun v3 =>
 some (v1, v3)
theorem c47 {x0 : T25} {r : (List T53) × (List T60)} (h : f47 x0 = some r) :
 FnD cx 47 [k25.a x0] [] (.agg [.own 0 r.1.length, .own 1 r.2.length]) [k53.r 54 (.node [.cell, .cell, .cell]) r.1, k60.r 61 (.node [.cell, .cell, .cell]) r.2] := by
 unfold f47 at h
 refine fnD_intro (fn := Tryz.f47) (by kernel_rfl) rfl (by kernel_rfl) (by kernel_rfl) fun E => ?_
 refine CD.seq (rg [] [(1, .ref 1001 []), (2, .ref 1002 [])] [(1002, bx (.agg [.nils (.node [.cell, .cell, .cell]), .nils (.node [.cell, .cell, .cell])])), (1001, bx (k25.a x0))] a0 (CD.seq ?_))
 rcases bd_some h with ⟨v1, g2, h⟩
 rcases bd_some h with ⟨v3, g4, h⟩
 refine rg [(0, hD [1001]), (1, hD [1001]), (2, hC (.own 0 v1.length) [k53.r 54 (.node [.cell, .cell, .cell]) v1] [] [2100]), (3, hD [1001]), (4, hD [1001]), (5, hC (.own 0 v3.length) [k60.r 61 (.node [.cell, .cell, .cell]) v3] [] [2160]), (7, hD [1002])] [] [(1002, bx (.agg [.own 2100 v1.length, .own 2160 v3.length])), (2160, k60.r 61 (.node [.cell, .cell, .cell]) v3), (2100, k53.r 54 (.node [.cell, .cell, .cell]) v1)] (a1 (c19 g2) (a1 (c21 g4) a0)) (CD.ret ?_)
 obtain rfl := sm h
 exact NX.ret [2100, 2160] a0 (by kernel_rfl)

theorem c47d {x0 : T25} {r : (List T53) × (List T60)} (h : f47 x0 = some r) :
 FnD cx 47 [k25.a x0] [] (k25.a (⟨r.1, r.2⟩ : T25)) [] :=
 FnD.data (xs := [.agg [.own 0 r.1.length, .own 1 r.2.length]]) (ys := [k25.a (⟨r.1, r.2⟩ : T25)]) (p := True) (q := (((r.1.length = (k53.m r.1).length) ∧ ((r.2.length = (k60.m r.2).length) ∧ True)) ∧ True)) (c47 h) [] (by kernel_rfl) (by kernel_rfl) a0 (by kernel_rfl) (a1 (k_len' k53 r.1) (a1 (k_len' k60 r.2) a0))


-- f69 impl.termSet).unused
def f69 (x0 : Int) : Option (Int × Bool) :=
 jn (
 iter (fun (v11 : Int) =>
 if (decide (v11 ≤ 8)) = true then
 bd (f46 x0 v11) fun v15 =>
 if (!v15) = true then
 some (.inr (.inr (v11, true)))
 else
 some (.inl (ad v11 1))
 else
 some (.inr (.inl ()))) 5) fun (v1 : Unit) =>
 some (0, false)
theorem c69 {x0 : Int} {r : Int × Bool} (h : f69 x0 = some r) :
 FnD cx 69 [k48.a x0] [] (.tup [iA r.1, bA r.2]) [] := by
 unfold f69 at h
 refine fnD_intro (fn := Tryz.f69) (by kernel_rfl) rfl (by kernel_rfl) (by kernel_rfl) fun E => ?_
 refine CD.seq (rg [] [] [] a0 (CD.join (fun (v1 : Unit) => ⟨[], []⟩) h (fun u2 h q3 => ?_) (fun v1 h => ?_)))
 refine CD.seq (rg [] [(4, iA 5)] [] a0 (CD.block (CD.loopK (fun (v11 : Int) => ⟨[(0, k48.a x0), (4, iA v11)], []⟩) h (by kernel_rfl) (fun v11 u12 h q13 => ?_))))
 refine CD.seq (CD.seq (rg [] [(6, bA (decide (v11 ≤ 8)))] [] a0 (br h (fun g14 h => ?_) (fun g14 h => ?_))))
 refine CD.skip (CD.seq (CD.block (CD.seq ?_)))
 rcases bd_some h with ⟨v15, g16, h⟩
 refine rg [(2, hC (bA v15) [] [] [])] [(12, bA (!v15))] [] (a1 (c46 g16) a0) (br h (fun g17 h => ?_) (fun g17 h => ?_))
 refine CD.seq (rg [] [(2, iA v11), (3, bA true)] [] a0 (CD.ret ?_))
 obtain rfl := sm h
 obtain rfl := q13 _ rfl
 obtain rfl := q3 _ rfl
 exact NX.ret [] a0 (by kernel_rfl)
 refine CD.skip (NX.blN (rg [] [(4, iA (ad v11 1))] [] a0 ?_))
 obtain rfl := sm h
 exact NX.inl (by kernel_rfl)
 refine CD.exit ?_
 obtain rfl := sm h
 obtain rfl := q13 _ rfl
 exact NX.th (NX.lq (NX.brk (NX.inl (by kernel_rfl))))
 refine CD.seq (rg [] [(2, iA 0), (3, bA false)] [] a0 (CD.ret ?_))
 obtain rfl := sm h
 exact NX.ret [] a0 (by kernel_rfl)


-- f48 impl.newVariable
def f48 (x0 : T25) (x1 : Int) : Option (Int × Bool) :=
 bd (f17 x0) fun v1 =>
 bd (f69 (bor .u16 v1 x1)) fun v3 =>
 some (v3.1, v3.2)
theorem c48 {x0 : T25} {x1 : Int} {r : Int × Bool} (h : f48 x0 x1 = some r) :
 FnD cx 48 [k25.a x0, k48.a x1] [] (.tup [iA r.1, bA r.2]) [] := by
 unfold f48 at h
 refine fnD_intro (fn := Tryz.f48) (by kernel_rfl) rfl (by kernel_rfl) (by kernel_rfl) fun E => ?_
 refine CD.seq (rg [] [(2, .ref 1002 [])] [(1002, bx (k25.a x0))] a0 (CD.seq ?_))
 rcases bd_some h with ⟨v1, g2, h⟩
 rcases bd_some h with ⟨v3, g4, h⟩
 refine rg [(1, hC (k48.a v1) [] [] []), (4, hC (.tup [iA v3.1, bA v3.2]) [] [] [])] [(4, iA v3.1), (5, bA v3.2)] [] (a1 (c17 g2) (a1 (c69 g4) a0)) (CD.ret ?_)
 obtain rfl := sm h
 exact NX.ret [] a0 (by kernel_rfl)


-- f70 impl.replaceTerm
def f70 (x0 : Int) (x1 : Int) (x2 : Int) : Option (Int) :=
 if (x0 == x1) = true then
 some x2
 else
 some x0
theorem c70 {x0 : Int} {x1 : Int} {x2 : Int} {r : Int} (h : f70 x0 x1 x2 = some r) :
 FnD cx 70 [iA x0, iA x1, iA x2] [] (iA r) [] := by
 unfold f70 at h
 refine fnD_intro (fn := Tryz.f70) (by kernel_rfl) rfl (by kernel_rfl) (by kernel_rfl) fun E => ?_
 refine CD.seq (rg [] [] [] a0 (CD.seq (CD.seq (rg [] [(9, bA (x0 == x1))] [] a0 (br h (fun g1 h => ?_) (fun g1 h => ?_))))))
 refine CD.seq (rg [] [(6, iA x2)] [] a0 (CD.ret ?_))
 obtain rfl := sm h
 exact NX.ret [] a0 (by kernel_rfl)
 refine CD.skip (CD.seq (rg [] [(6, iA x0)] [] a0 (CD.ret ?_)))
 obtain rfl := sm h
 exact NX.ret [] a0 (by kernel_rfl)


-- f49 impl.replaceIn
def f49 (x0 : T25) (x1 : Int) (x2 : Int) : Option ((List T53) × (List T60)) :=
 bd (f47 x0) fun v1 =>
 jn (
 iter (fun (v24 : (List T53) × Int) =>
 if (decide (v24.2 < (ln v1.1))) = true then
 bd (ix v24.1 v24.2) fun v28 =>
 bd (f70 v28.f1 x1 x2) fun v30 =>
 bd (ix v24.1 v24.2) fun v32 =>
 bd (st v24.1 v24.2 (⟨v32.f0, v30, v32.f2⟩ : T53)) fun v34 =>
 bd (f70 v28.f2 x1 x2) fun v36 =>
 bd (ix v34 v24.2) fun v38 =>
 bd (st v34 v24.2 (⟨v38.f0, v38.f1, v36⟩ : T53)) fun v40 =>
 some (.inl (v40, ad v24.2 1))
 else
 some (.inr (.inl v24.1))) (v1.1, 0)) fun (v3 : (List T53)) =>
 jn (
 iter (fun (v63 : (List T60) × Int) =>
 if (decide (v63.2 < (ln v1.2))) = true then
 bd (ix v63.1 v63.2) fun v67 =>
 bd (f70 v67.f1 x1 x2) fun v69 =>
 bd (ix v63.1 v63.2) fun v71 =>
 bd (st v63.1 v63.2 (⟨v71.f0, v69, v71.f2⟩ : T60)) fun v73 =>
 bd (f70 v67.f2 x1 x2) fun v75 =>
 bd (ix v73 v63.2) fun v77 =>
 bd (st v73 v63.2 (⟨v77.f0, v77.f1, v75⟩ : T60)) fun v79 =>
 some (.inl (v79, ad v63.2 1))
 else
 some (.inr (.inl v63.1))) (v1.2, 0)) fun (v42 : (List T60)) =>
 some (v3, v42)
theorem c49 {x0 : T25} {x1 : Int} {x2 : Int} {r : (List T53) × (List T60)} (h : f49 x0 x1 x2 = some r) :
 FnD cx 49 [k25.a x0, iA x1, iA x2] [] (.agg [.own 0 r.1.length, .own 1 r.2.length]) [k53.r 54 (.node [.cell, .cell, .cell]) r.1, k60.r 61 (.node [.cell, .cell, .cell]) r.2] := by
 unfold f49 at h
 refine fnD_intro (fn := Tryz.f49) (by kernel_rfl) rfl (by kernel_rfl) (by kernel_rfl) fun E => ?_
 refine CD.seq (rg [] [(3, .ref 1003 []), (6, .ref 1006 [])] [(1006, bx (.agg [.nils (.node [.cell, .cell, .cell]), .nils (.node [.cell, .cell, .cell])])), (1003, bx (k25.a x0))] a0 (CD.seq ?_))
 rcases bd_some h with ⟨v1, g2, h⟩
 refine rg [(1, hC (.agg [.own 0 v1.1.length, .own 1 v1.2.length]) [k53.r 54 (.node [.cell, .cell, .cell]) v1.1, k60.r 61 (.node [.cell, .cell, .cell]) v1.2] [] [2260, 2261])] [(7, .ref 1007 [])] [(1007, bx (.agg [.own 2260 v1.1.length, .own 2261 v1.2.length])), (2261, k60.r 61 (.node [.cell, .cell, .cell]) v1.2), (2260, k53.r 54 (.node [.cell, .cell, .cell]) v1.1)] (a1 (c47 g2) a0) (CD.join (fun (v3 : (List T53)) => ⟨[(1, iA x1), (2, iA x2), (6, .ref 1006 []), (7, .ref 1007 [])], [(2260, k53.r 54 (.node [.cell, .cell, .cell]) v3), (2261, k60.r 61 (.node [.cell, .cell, .cell]) v1.2), (1006, bx (.agg [.nils (.node [.cell, .cell, .cell]), .nils (.node [.cell, .cell, .cell])])), (1007, bx (.agg [.own 2260 v3.length, .own 2261 v1.2.length]))]⟩) h (fun u4 h q5 => ?_) (fun v3 h => ?_))
 refine CD.seq (rg [] [(15, .own 2260 v1.1.length), (16, iA (ln v1.1)), (17, iA 0)] [] a0 (CD.block (CD.loopK (fun (v24 : (List T53) × Int) => ⟨[(1, iA x1), (2, iA x2), (6, .ref 1006 []), (7, .ref 1007 []), (15, .own 2260 v24.1.length), (16, iA (ln v1.1)), (17, iA v24.2)], [(2260, k53.r 54 (.node [.cell, .cell, .cell]) v24.1), (2261, k60.r 61 (.node [.cell, .cell, .cell]) v1.2), (1006, bx (.agg [.nils (.node [.cell, .cell, .cell]), .nils (.node [.cell, .cell, .cell])])), (1007, bx (.agg [.own 2260 v24.1.length, .own 2261 v1.2.length]))]⟩) h (by kernel_rfl) (fun v24 u25 h q26 => ?_))))
 refine CD.seq (rg [] [(18, bA (decide (v24.2 < (ln v1.1))))] [] a0 (CD.seq (br h (fun g27 h => ?_) (fun g27 h => ?_))))
 refine CD.skip (CD.seq (CD.block (CD.seq ?_)))
 rcases bd_some h with ⟨v28, g29, h⟩
 refine rg [(2, hE (k53.x v28))] [(9, .ref 1009 []), (8, iA v24.2)] [(1009, bx (k53.a v28))] (a1 (o_ixr k53 g29) (a1 (o_ldr k53 g29) a0)) (CD.seq ?_)
 rcases bd_some h with ⟨v30, g31, h⟩
 rcases bd_some h with ⟨v32, g33, h⟩
 rcases bd_some h with ⟨v34, g35, h⟩
 refine rg [(0, hD [1007]), (1, hD [1007]), (3, hD [1009]), (4, hD [1009]), (7, hC (iA v30) [] [] []), (8, hD [2260]), (9, hD [2260]), (10, (hF (k53.x v32) [(2260, k53.r 54 (.node [.cell, .cell, .cell]) v34)]).g [2260])] [] [(2260, k53.r 54 (.node [.cell, .cell, .cell]) v34)] (a1 (c70 g31) (a1 (o_ixr k53 g33) (a1 (k_len' k53 v24.1) (a1 (o_st k53 (y' := (⟨v32.f0, v30, v32.f2⟩ : T53)) 2260 54 (.node [.cell, .cell, .cell]) g33 g35 (k_len' k53 v24.1)) a0)))) ?_
 rw [st_len g35]
 rcases bd_some h with ⟨v36, g37, h⟩
 rcases bd_some h with ⟨v38, g39, h⟩
 rcases bd_some h with ⟨v40, g41, h⟩
 refine rg [(0, hD [1007]), (1, hD [1007]), (3, hD [1009]), (4, hD [1009]), (7, hC (iA v36) [] [] []), (8, hD [2260]), (9, hD [2260]), (10, (hF (k53.x v38) [(2260, k53.r 54 (.node [.cell, .cell, .cell]) v40)]).g [2260])] [] [(2260, k53.r 54 (.node [.cell, .cell, .cell]) v40)] (a1 (c70 g37) (a1 (o_ixr k53 g39) (a1 (k_len' k53 v34) (a1 (o_st k53 (y' := (⟨v38.f0, v38.f1, v36⟩ : T53)) 2260 54 (.node [.cell, .cell, .cell]) g39 g41 (k_len' k53 v34)) a0)))) ?_
 rw [st_len g41]
 refine NX.blN (rg [] [(17, iA (ad v24.2 1))] [] a0 ?_)
 obtain rfl := sm h
 exact NX.inl (by kernel_rfl)
 refine CD.exit ?_
 obtain rfl := sm h
 obtain rfl := q26 _ rfl
 exact NX.th (NX.lq (NX.brk (NX.inl (by kernel_rfl))))
 refine CD.join (fun (v42 : (List T60)) => ⟨[(6, .ref 1006 []), (7, .ref 1007 [])], [(2260, k53.r 54 (.node [.cell, .cell, .cell]) v3), (2261, k60.r 61 (.node [.cell, .cell, .cell]) v42), (1006, bx (.agg [.nils (.node [.cell, .cell, .cell]), .nils (.node [.cell, .cell, .cell])])), (1007, bx (.agg [.own 2260 v3.length, .own 2261 v42.length]))]⟩) h (fun u43 h q44 => ?_) (fun v42 h => ?_)
 refine CD.seq (rg [] [(44, .own 2261 v1.2.length), (45, iA (ln v1.2)), (46, iA 0)] [] a0 (CD.block (CD.loopK (fun (v63 : (List T60) × Int) => ⟨[(1, iA x1), (2, iA x2), (6, .ref 1006 []), (7, .ref 1007 []), (44, .own 2261 v63.1.length), (45, iA (ln v1.2)), (46, iA v63.2)], [(2260, k53.r 54 (.node [.cell, .cell, .cell]) v3), (2261, k60.r 61 (.node [.cell, .cell, .cell]) v63.1), (1006, bx (.agg [.nils (.node [.cell, .cell, .cell]), .nils (.node [.cell, .cell, .cell])])), (1007, bx (.agg [.own 2260 v3.length, .own 2261 v63.1.length]))]⟩) h (by kernel_rfl) (fun v63 u64 h q65 => ?_))))
 refine CD.seq (rg [] [(47, bA (decide (v63.2 < (ln v1.2))))] [] a0 (CD.seq (br h (fun g66 h => ?_) (fun g66 h => ?_))))
 refine CD.skip (CD.seq (CD.block (CD.seq ?_)))
 rcases bd_some h with ⟨v67, g68, h⟩
 refine rg [(2, hE (k60.x v67))] [(11, .ref 1011 []), (10, iA v63.2)] [(1011, bx (k60.a v67))] (a1 (o_ixr k60 g68) (a1 (o_ldr k60 g68) a0)) (CD.seq ?_)
 rcases bd_some h with ⟨v69, g70, h⟩
 rcases bd_some h with ⟨v71, g72, h⟩
 rcases bd_some h with ⟨v73, g74, h⟩
 refine rg [(0, hD [1007]), (1, hD [1007]), (3, hD [1011]), (4, hD [1011]), (7, hC (iA v69) [] [] []), (8, hD [2261]), (9, hD [2261]), (10, (hF (k60.x v71) [(2261, k60.r 61 (.node [.cell, .cell, .cell]) v73)]).g [2261])] [] [(2261, k60.r 61 (.node [.cell, .cell, .cell]) v73)] (a1 (c70 g70) (a1 (o_ixr k60 g72) (a1 (k_len' k60 v63.1) (a1 (o_st k60 (y' := (⟨v71.f0, v69, v71.f2⟩ : T60)) 2261 61 (.node [.cell, .cell, .cell]) g72 g74 (k_len' k60 v63.1)) a0)))) ?_
 rw [st_len g74]
 rcases bd_some h with ⟨v75, g76, h⟩
 rcases bd_some h with ⟨v77, g78, h⟩
 rcases bd_some h with ⟨v79, g80, h⟩
 refine rg [(0, hD [1007]), (1, hD [1007]), (3, hD [1011]), (4, hD [1011]), (7, hC (iA v75) [] [] []), (8, hD [2261]), (9, hD [2261]), (10, (hF (k60.x v77) [(2261, k60.r 61 (.node [.cell, .cell, .cell]) v79)]).g [2261])] [] [(2261, k60.r 61 (.node [.cell, .cell, .cell]) v79)] (a1 (c70 g76) (a1 (o_ixr k60 g78) (a1 (k_len' k60 v73) (a1 (o_st k60 (y' := (⟨v77.f0, v77.f1, v75⟩ : T60)) 2261 61 (.node [.cell, .cell, .cell]) g78 g80 (k_len' k60 v73)) a0)))) ?_
 rw [st_len g80]
 refine NX.blN (rg [] [(46, iA (ad v63.2 1))] [] a0 ?_)
 obtain rfl := sm h
 exact NX.inl (by kernel_rfl)
 refine CD.exit ?_
 obtain rfl := sm h
 obtain rfl := q65 _ rfl
 exact NX.th (NX.lq (NX.brk (NX.inl (by kernel_rfl))))
 refine CD.seq (rg [] [] [(1006, bx (.agg [.own 2260 v3.length, .own 2261 v42.length]))] a0 (CD.ret ?_))
 obtain rfl := sm h
 exact NX.ret [2260, 2261] a0 (by kernel_rfl)

theorem c49d {x0 : T25} {x1 : Int} {x2 : Int} {r : (List T53) × (List T60)} (h : f49 x0 x1 x2 = some r) :
 FnD cx 49 [k25.a x0, iA x1, iA x2] [] (k25.a (⟨r.1, r.2⟩ : T25)) [] :=
 FnD.data (xs := [.agg [.own 0 r.1.length, .own 1 r.2.length]]) (ys := [k25.a (⟨r.1, r.2⟩ : T25)]) (p := True) (q := (((r.1.length = (k53.m r.1).length) ∧ ((r.2.length = (k60.m r.2).length) ∧ True)) ∧ True)) (c49 h) [] (by kernel_rfl) (by kernel_rfl) a0 (by kernel_rfl) (a1 (k_len' k53 r.1) (a1 (k_len' k60 r.2) a0))


-- f20 impl.forget
def f20 (x0 : T25) (x1 : Int) (x2 : Int) : Option ((List T53) × (List T60) × Int × Int × Bool) :=
 bd (f17 x0) fun v1 =>
 bd (f46 v1 x1) fun v3 =>
 if (!v3) = true then
 bd (f47 x0) fun v6 =>
 some (v6.1, v6.2, x1, x1, true)
 else
 bd (f48 x0 x2) fun v8 =>
 if (!v8.2) = true then
 some ([], [], 0, 0, false)
 else
 bd (f49 x0 x1 v8.1) fun v11 =>
 some (v11.1, v11.2, x1, v8.1, true)
theorem c20 {x0 : T25} {x1 : Int} {x2 : Int} {r : (List T53) × (List T60) × Int × Int × Bool} (h : f20 x0 x1 x2 = some r) :
 FnD cx 20 [k25.a x0, iA x1, k48.a x2] [] (.tup [.agg [.agg [.own 0 r.1.length, .own 1 r.2.1.length], iA r.2.2.1, iA r.2.2.2.1], bA r.2.2.2.2]) [k53.r 54 (.node [.cell, .cell, .cell]) r.1, k60.r 61 (.node [.cell, .cell, .cell]) r.2.1] := by
 unfold f20 at h
 refine fnD_intro (fn := Tryz.f20) (by kernel_rfl) rfl (by kernel_rfl) (by kernel_rfl) fun E => ?_
 refine CD.seq (rg [] [(3, .ref 1003 []), (6, .ref 1006 [])] [(1006, bx (.agg [.agg [.nils (.node [.cell, .cell, .cell]), .nils (.node [.cell, .cell, .cell])], iA 0, iA 0])), (1003, bx (k25.a x0))] a0 (CD.seq (CD.seq ?_)))
 rcases bd_some h with ⟨v1, g2, h⟩
 rcases bd_some h with ⟨v3, g4, h⟩
 refine rg [(1, hC (k48.a v1) [] [] []), (3, hC (bA v3) [] [] [])] [(14, bA (!v3))] [] (a1 (c17 g2) (a1 (c46 g4) a0)) (br h (fun g5 h => ?_) (fun g5 h => ?_))
 refine CD.seq ?_
 rcases bd_some h with ⟨v6, g7, h⟩
 refine rg [(1, hC (.agg [.own 0 v6.1.length, .own 1 v6.2.length]) [k53.r 54 (.node [.cell, .cell, .cell]) v6.1, k60.r 61 (.node [.cell, .cell, .cell]) v6.2] [] [2320, 2321])] [(7, bA true)] [(1006, bx (.agg [.agg [.own 2320 v6.1.length, .own 2321 v6.2.length], iA x1, iA x1])), (2321, k60.r 61 (.node [.cell, .cell, .cell]) v6.2), (2320, k53.r 54 (.node [.cell, .cell, .cell]) v6.1)] (a1 (c47 g7) a0) (CD.ret ?_)
 obtain rfl := sm h
 exact NX.ret [2320, 2321] a0 (by kernel_rfl)
 refine CD.skip (CD.seq ?_)
 rcases bd_some h with ⟨v8, g9, h⟩
 refine rg [(2, hC (.tup [iA v8.1, bA v8.2]) [] [] [])] [(8, iA v8.1), (9, bA v8.2)] [] (a1 (c48 g9) a0) (CD.seq (CD.seq (rg [] [(27, bA (!v8.2))] [] a0 (br h (fun g10 h => ?_) (fun g10 h => ?_)))))
 refine CD.seq (rg [] [(7, bA false)] [(1006, bx (.agg [.agg [.nils (.node [.cell, .cell, .cell]), .nils (.node [.cell, .cell, .cell])], iA 0, iA 0]))] a0 (CD.ret ?_))
 obtain rfl := sm h
 exact NX.own0b 1006 5000 [0, 0] 54 (sh := (.node [.cell, .cell, .cell])) (c := .agg [.agg [.nils (.node [.cell, .cell, .cell]), .nils (.node [.cell, .cell, .cell])], iA 0, iA 0]) (c' := .agg [.agg [.own 5000 0, .nils (.node [.cell, .cell, .cell])], iA 0, iA 0]) (by kernel_rfl) (by kernel_rfl) (by kernel_rfl) (by kernel_rfl) (NX.own0b 1006 5001 [0, 1] 61 (sh := (.node [.cell, .cell, .cell])) (c := .agg [.agg [.own 5000 0, .nils (.node [.cell, .cell, .cell])], iA 0, iA 0]) (c' := .agg [.agg [.own 5000 0, .own 5001 0], iA 0, iA 0]) (by kernel_rfl) (by kernel_rfl) (by kernel_rfl) (by kernel_rfl) (NX.ret [5000, 5001] a0 (by kernel_rfl)))
 refine CD.skip (CD.seq ?_)
 rcases bd_some h with ⟨v11, g12, h⟩
 refine rg [(3, hC (.agg [.own 0 v11.1.length, .own 1 v11.2.length]) [k53.r 54 (.node [.cell, .cell, .cell]) v11.1, k60.r 61 (.node [.cell, .cell, .cell]) v11.2] [] [2640, 2641])] [(7, bA true)] [(1006, bx (.agg [.agg [.own 2640 v11.1.length, .own 2641 v11.2.length], iA x1, iA v8.1])), (2641, k60.r 61 (.node [.cell, .cell, .cell]) v11.2), (2640, k53.r 54 (.node [.cell, .cell, .cell]) v11.1)] (a1 (c49 g12) a0) (CD.ret ?_)
 obtain rfl := sm h
 exact NX.ret [2640, 2641] a0 (by kernel_rfl)

theorem c20d {x0 : T25} {x1 : Int} {x2 : Int} {r : (List T53) × (List T60) × Int × Int × Bool} (h : f20 x0 x1 x2 = some r) :
 FnD cx 20 [k25.a x0, iA x1, k48.a x2] [] (.tup [k55.a (⟨(⟨r.1, r.2.1⟩ : T25), r.2.2.1, r.2.2.2.1⟩ : T55), bA r.2.2.2.2]) [] :=
 FnD.data (xs := [.agg [.agg [.own 0 r.1.length, .own 1 r.2.1.length], iA r.2.2.1, iA r.2.2.2.1], bA r.2.2.2.2]) (ys := [k55.a (⟨(⟨r.1, r.2.1⟩ : T25), r.2.2.1, r.2.2.2.1⟩ : T55), bA r.2.2.2.2]) (p := True) (q := ((((r.1.length = (k53.m r.1).length) ∧ ((r.2.1.length = (k60.m r.2.1).length) ∧ True)) ∧ (True ∧ (True ∧ True))) ∧ (True ∧ True))) (c20 h) [] (by kernel_rfl) (by kernel_rfl) a0 (by kernel_rfl) (a1 (k_len' k53 r.1) (a1 (k_len' k60 r.2.1) a0))


-- f5 impl.CallPost
def f5 (x0 : T25) (x1 : T28) (x2 : (List Int)) : Option ((List T53) × (List T60) × Bool) :=
 jn (
 bd (f15 x0) fun v4 =>
 if (!v4) = true then
 some (.inr ([], [], false))
 else
 bd (f16 x1) fun v7 =>
 if (!v7) = true then
 some (.inr ([], [], false))
 else
 some (.inl ())) fun (v1 : Unit) =>
 bd (f8 x0 x1.f0) fun v10 =>
 if (!v10.2.2) = true then
 some ([], [], false)
 else
 bd (f17 x0) fun v13 =>
 bd (f17 x1.f0) fun v15 =>
 bd (f17 x1.f1) fun v17 =>
 bd (f18 x2) fun v19 =>
 bd (f19 x0.f0 []) fun v21 =>
 jn (
 iter (fun (v35 : (List T53) × (List T60) × Int) =>
 if (decide (v35.2.2 < (ln x1.f2))) = true then
 bd (ix x1.f2 v35.2.2) fun v39 =>
 bd (f20 (⟨v35.1, v35.2.1⟩ : T25) v39 (bor .u16 (bor .u16 (bor .u16 v13 v15) v17) v19)) fun v41 =>
 if (!v41.2.2.2.2) = true then
 some (.inr (.inr ([], [], false)))
 else
 some (.inl (v41.1, v41.2.1, ad v35.2.2 1))
 else
 some (.inr (.inl (v35.1, v35.2.1)))) (v21, v10.2.1, 0)) fun (v23 : (List T53) × (List T60)) =>
 bd (f19 v23.1 x1.f1.f0) fun v44 =>
 bd (f21 x1.f1.f1 v23.2) fun v46 =>
 bd (f15 (⟨v44, v46⟩ : T25)) fun v48 =>
 if (!v48) = true then
 some ([], [], false)
 else
 some (v44, v46, true)
theorem c5 {x0 : T25} {x1 : T28} {x2 : (List Int)} {r : (List T53) × (List T60) × Bool} (h : f5 x0 x1 x2 = some r) :
 FnD cx 5 [k25.a x0, k28.a x1, k27.a x2] [] (.tup [.agg [.own 0 r.1.length, .own 1 r.2.1.length], bA r.2.2]) [k53.r 54 (.node [.cell, .cell, .cell]) r.1, k60.r 61 (.node [.cell, .cell, .cell]) r.2.1] := by
 unfold f5 at h
 refine fnD_intro (fn := Tryz.f5) (by kernel_rfl) rfl (by kernel_rfl) (by kernel_rfl) fun E => ?_
 refine CD.seq (rg [] [(3, .ref 1003 []), (4, .ref 1004 []), (6, .ref 1006 [])] [(1006, bx (.agg [.nils (.node [.cell, .cell, .cell]), .nils (.node [.cell, .cell, .cell])])), (1004, bx (k28.a x1)), (1003, bx (k25.a x0))] a0 (CD.join (fun (v1 : Unit) => ⟨[(2, k27.a x2), (3, .ref 1003 []), (4, .ref 1004 []), (6, .ref 1006 [])], [(1003, bx (k25.a x0)), (1004, bx (k28.a x1)), (1006, bx (.agg [.nils (.node [.cell, .cell, .cell]), .nils (.node [.cell, .cell, .cell])]))]⟩) h (fun u2 h q3 => ?_) (fun v1 h => ?_)))
 refine CD.seq ?_
 rcases bd_some h with ⟨v4, g5, h⟩
 rcases if_some h with ⟨g6, h⟩ | ⟨g6, h⟩
 refine rg [(1, hC (bA v4) [] [] []), (3, hT1)] [(24, bA true)] [] (a1 (c15 g5) (a1 (oB (c := (!v4)) g6) a0)) (CD.condT (b := true) (by kernel_rfl) rfl (CD.seq (rg [] [(7, bA false)] [(1006, bx (.agg [.nils (.node [.cell, .cell, .cell]), .nils (.node [.cell, .cell, .cell])]))] a0 (CD.ret ?_))))
 obtain rfl := sm h
 obtain rfl := q3 _ rfl
 exact NX.own0b 1006 5000 [0] 54 (sh := (.node [.cell, .cell, .cell])) (c := .agg [.nils (.node [.cell, .cell, .cell]), .nils (.node [.cell, .cell, .cell])]) (c' := .agg [.own 5000 0, .nils (.node [.cell, .cell, .cell])]) (by kernel_rfl) (by kernel_rfl) (by kernel_rfl) (by kernel_rfl) (NX.own0b 1006 5001 [1] 61 (sh := (.node [.cell, .cell, .cell])) (c := .agg [.own 5000 0, .nils (.node [.cell, .cell, .cell])]) (c' := .agg [.own 5000 0, .own 5001 0]) (by kernel_rfl) (by kernel_rfl) (by kernel_rfl) (by kernel_rfl) (NX.ret [5000, 5001] a0 (by kernel_rfl)))
 rcases bd_some h with ⟨v7, g8, h⟩
 refine rg [(1, hC (bA v4) [] [] []), (3, hF1), (5, hC (bA v7) [] [] [])] [(24, bA (!v7))] [] (a1 (c15 g5) (a1 (oB (c := (!v4)) g6) (a1 (c16 g8) a0))) (br h (fun g9 h => ?_) (fun g9 h => ?_))
 refine CD.seq (rg [] [(7, bA false)] [(1006, bx (.agg [.nils (.node [.cell, .cell, .cell]), .nils (.node [.cell, .cell, .cell])]))] a0 (CD.ret ?_))
 obtain rfl := sm h
 obtain rfl := q3 _ rfl
 exact NX.own0b 1006 5000 [0] 54 (sh := (.node [.cell, .cell, .cell])) (c := .agg [.nils (.node [.cell, .cell, .cell]), .nils (.node [.cell, .cell, .cell])]) (c' := .agg [.own 5000 0, .nils (.node [.cell, .cell, .cell])]) (by kernel_rfl) (by kernel_rfl) (by kernel_rfl) (by kernel_rfl) (NX.own0b 1006 5001 [1] 61 (sh := (.node [.cell, .cell, .cell])) (c := .agg [.own 5000 0, .nils (.node [.cell, .cell, .cell])]) (c' := .agg [.own 5000 0, .own 5001 0]) (by kernel_rfl) (by kernel_rfl) (by kernel_rfl) (by kernel_rfl) (NX.ret [5000, 5001] a0 (by kernel_rfl)))
 refine CD.skip ?_
 obtain rfl := sm h
 exact NX.inl (by kernel_rfl)
 refine CD.seq ?_
 rcases bd_some h with ⟨v10, g11, h⟩
 refine rg [(3, hC (.tup [.agg [k23.a v10.1, .own 0 v10.2.1.length], bA v10.2.2]) [k60.r 61 (.node [.cell, .cell, .cell]) v10.2.1] [] [2600])] [(8, .ref 1008 []), (9, bA v10.2.2)] [(1008, bx (.agg [k23.a v10.1, .own 2600 v10.2.1.length])), (2600, k60.r 61 (.node [.cell, .cell, .cell]) v10.2.1)] (a1 (c8 g11) a0) (CD.seq (CD.seq (rg [] [(34, bA (!v10.2.2))] [] a0 (br h (fun g12 h => ?_) (fun g12 h => ?_)))))
 refine CD.seq (rg [] [(7, bA false)] [(1006, bx (.agg [.nils (.node [.cell, .cell, .cell]), .nils (.node [.cell, .cell, .cell])]))] a0 (CD.ret ?_))
 obtain rfl := sm h
 exact NX.own0b 1006 5000 [0] 54 (sh := (.node [.cell, .cell, .cell])) (c := .agg [.nils (.node [.cell, .cell, .cell]), .nils (.node [.cell, .cell, .cell])]) (c' := .agg [.own 5000 0, .nils (.node [.cell, .cell, .cell])]) (by kernel_rfl) (by kernel_rfl) (by kernel_rfl) (by kernel_rfl) (NX.own0b 1006 5001 [1] 61 (sh := (.node [.cell, .cell, .cell])) (c := .agg [.own 5000 0, .nils (.node [.cell, .cell, .cell])]) (c' := .agg [.own 5000 0, .own 5001 0]) (by kernel_rfl) (by kernel_rfl) (by kernel_rfl) (by kernel_rfl) (NX.ret [5000, 5001] a0 (by kernel_rfl)))
 refine CD.skip (CD.seq ?_)
 rcases bd_some h with ⟨v13, g14, h⟩
 rcases bd_some h with ⟨v15, g16, h⟩
 rcases bd_some h with ⟨v17, g18, h⟩
 rcases bd_some h with ⟨v19, g20, h⟩
 refine rg [(0, hD [1003]), (1, hC (k48.a v13) [] [] []), (2, hD [1004]), (3, hD [1004]), (4, hC (k48.a v15) [] [] []), (6, hD [1004]), (7, hD [1004]), (8, hC (k48.a v17) [] [] []), (11, hC (k48.a v19) [] [] [])] [(10, k48.a (bor .u16 (bor .u16 (bor .u16 v13 v15) v17) v19))] [] (a1 (c17 g14) (a1 (c17 g16) (a1 (c17 g18) (a1 (c18 g20) a0)))) (CD.seq ?_)
 rcases bd_some h with ⟨v21, g22, h⟩
 refine rg [(0, hD [1003]), (1, hD [1003]), (2, hC (.own 0 v21.length) [k53.r 54 (.node [.cell, .cell, .cell]) v21] [] [3020]), (3, hD [1008]), (4, hD [1008]), (7, hD [1011])] [(11, .ref 1011 [])] [(1011, bx (.agg [.own 3020 v21.length, .own 2600 v10.2.1.length])), (3020, k53.r 54 (.node [.cell, .cell, .cell]) v21)] (a1 (c19 g22) a0) (CD.join (fun (v23 : (List T53) × (List T60)) => ⟨[(4, .ref 1004 []), (6, .ref 1006 []), (11, .ref 1011 [])], [(3020, k53.r 54 (.node [.cell, .cell, .cell]) v23.1), (2600, k60.r 61 (.node [.cell, .cell, .cell]) v23.2), (1004, bx (k28.a x1)), (1006, bx (.agg [.nils (.node [.cell, .cell, .cell]), .nils (.node [.cell, .cell, .cell])])), (1011, bx (.agg [.own 3020 v23.1.length, .own 2600 v23.2.length]))]⟩) h (fun u24 h q25 => ?_) (fun v23 h => ?_))
 refine CD.seq (rg [(2, hV (iA (ln x1.f2)))] [(56, k27.a x1.f2), (57, iA (ln x1.f2)), (58, iA 0)] [] (a1 (o_ln k3 x1.f2) a0) (CD.block (CD.loopK (fun (v35 : (List T53) × (List T60) × Int) => ⟨[(4, .ref 1004 []), (6, .ref 1006 []), (10, k48.a (bor .u16 (bor .u16 (bor .u16 v13 v15) v17) v19)), (11, .ref 1011 []), (56, k27.a x1.f2), (57, iA (ln x1.f2)), (58, iA v35.2.2)], [(3020, k53.r 54 (.node [.cell, .cell, .cell]) v35.1), (2600, k60.r 61 (.node [.cell, .cell, .cell]) v35.2.1), (1004, bx (k28.a x1)), (1006, bx (.agg [.nils (.node [.cell, .cell, .cell]), .nils (.node [.cell, .cell, .cell])])), (1011, bx (.agg [.own 3020 v35.1.length, .own 2600 v35.2.1.length]))]⟩) h (by kernel_rfl) (fun v35 u36 h q37 => ?_))))
 refine CD.seq (rg [] [(59, bA (decide (v35.2.2 < (ln x1.f2))))] [] a0 (CD.seq (br h (fun g38 h => ?_) (fun g38 h => ?_))))
 refine CD.skip (CD.seq (CD.block (CD.seq ?_)))
 rcases bd_some h with ⟨v39, g40, h⟩
 refine rg [(0, hE (.int .i64 v39))] [(13, iA v39)] [] (a1 (o_ix k3 g40) a0) (CD.seq ?_)
 rcases bd_some h with ⟨v41, g42, h⟩
 refine rg [(3, hC (.tup [.agg [.agg [.own 0 v41.1.length, .own 1 v41.2.1.length], iA v41.2.2.1, iA v41.2.2.2.1], bA v41.2.2.2.2]) [k53.r 54 (.node [.cell, .cell, .cell]) v41.1, k60.r 61 (.node [.cell, .cell, .cell]) v41.2.1] [] [3320, 3321])] [(14, .ref 1014 []), (15, bA v41.2.2.2.2)] [(1014, bx (.agg [.agg [.own 3320 v41.1.length, .own 3321 v41.2.1.length], iA v41.2.2.1, iA v41.2.2.2.1])), (3321, k60.r 61 (.node [.cell, .cell, .cell]) v41.2.1), (3320, k53.r 54 (.node [.cell, .cell, .cell]) v41.1)] (a1 (k_len' k53 v35.1) (a1 (k_len' k60 v35.2.1) (a1 (c20 g42) (a1 (show AV.plain (.tup [.agg [.agg [.own 0 v41.1.length, .own 1 v41.2.1.length], iA v41.2.2.1, iA v41.2.2.2.1], bA v41.2.2.2.2]) = true ∧ allPlain [k53.r 54 (.node [.cell, .cell, .cell]) v41.1, k60.r 61 (.node [.cell, .cell, .cell]) v41.2.1] = true from ⟨rfl, (plR k53 (fun _ => rfl) (plR k60 (fun _ => rfl) pl0))⟩) a0)))) (CD.seq (CD.seq (rg [] [(70, bA (!v41.2.2.2.2))] [] a0 ?_)))
 refine br h (fun g43 h => ?_) (fun g43 h => ?_)
 refine CD.seq (rg [] [(7, bA false)] [(1006, bx (.agg [.nils (.node [.cell, .cell, .cell]), .nils (.node [.cell, .cell, .cell])]))] a0 (CD.ret ?_))
 obtain rfl := sm h
 obtain rfl := q37 _ rfl
 obtain rfl := q25 _ rfl
 exact NX.own0b 1006 5000 [0] 54 (sh := (.node [.cell, .cell, .cell])) (c := .agg [.nils (.node [.cell, .cell, .cell]), .nils (.node [.cell, .cell, .cell])]) (c' := .agg [.own 5000 0, .nils (.node [.cell, .cell, .cell])]) (by kernel_rfl) (by kernel_rfl) (by kernel_rfl) (by kernel_rfl) (NX.own0b 1006 5001 [1] 61 (sh := (.node [.cell, .cell, .cell])) (c := .agg [.own 5000 0, .nils (.node [.cell, .cell, .cell])]) (c' := .agg [.own 5000 0, .own 5001 0]) (by kernel_rfl) (by kernel_rfl) (by kernel_rfl) (by kernel_rfl) (NX.ret [5000, 5001] a0 (by kernel_rfl)))
 refine CD.skip (rg [] [] [(1011, bx (.agg [.own 3320 v41.1.length, .own 3321 v41.2.1.length]))] a0 (NX.blN (rg [] [(58, iA (ad v35.2.2 1))] [] a0 ?_)))
 obtain rfl := sm h
 exact NX.ren 3020 3320 (by kernel_rfl) (NX.ren 2600 3321 (by kernel_rfl) (NX.inl (by kernel_rfl)))
 refine CD.exit ?_
 obtain rfl := sm h
 obtain rfl := q37 _ rfl
 exact NX.th (NX.lq (NX.brk (NX.inl (by kernel_rfl))))
 refine CD.seq ?_
 rcases bd_some h with ⟨v44, g45, h⟩
 rcases bd_some h with ⟨v46, g47, h⟩
 refine rg [(0, hD [1011]), (1, hD [1011]), (2, hD [1004]), (3, hD [1004]), (4, hD [1004]), (5, (hC (.own 0 v44.length) [k53.r 54 (.node [.cell, .cell, .cell]) v44] [] [3600]).g [3020]), (6, hD [1004]), (7, hD [1004]), (8, hD [1004]), (9, hD [1011]), (10, hD [1011]), (11, (hC (.own 0 v46.length) [k60.r 61 (.node [.cell, .cell, .cell]) v46] [] [3720]).g [2600]), (14, hD [1016])] [(16, .ref 1016 [])] [(1016, bx (.agg [.own 3600 v44.length, .own 3720 v46.length])), (3720, k60.r 61 (.node [.cell, .cell, .cell]) v46), (3600, k53.r 54 (.node [.cell, .cell, .cell]) v44)] (a1 (k_len' k53 v23.1) (a1 (c19 g45) (a1 (show AV.plain (.own 0 v44.length) = true ∧ allPlain [k53.r 54 (.node [.cell, .cell, .cell]) v44] = true from ⟨rfl, (plR k53 (fun _ => rfl) pl0)⟩) (a1 (k_len' k60 v23.2) (a1 (c21 g47) (a1 (show AV.plain (.own 0 v46.length) = true ∧ allPlain [k60.r 61 (.node [.cell, .cell, .cell]) v46] = true from ⟨rfl, (plR k60 (fun _ => rfl) pl0)⟩) a0)))))) (CD.seq ?_)
 refine CD.seq ?_
 rcases bd_some h with ⟨v48, g49, h⟩
 refine rg [(1, hC (bA v48) [] [] [])] [(90, bA (!v48))] [] (a1 (k_len' k53 v44) (a1 (k_len' k60 v46) (a1 (c15 g49) (a1 (show AV.plain (bA v48) = true ∧ allPlain [] = true from ⟨rfl, pl0⟩) a0)))) (br h (fun g50 h => ?_) (fun g50 h => ?_))
 refine CD.seq (rg [] [(7, bA false)] [(1006, bx (.agg [.nils (.node [.cell, .cell, .cell]), .nils (.node [.cell, .cell, .cell])]))] a0 (CD.ret ?_))
 obtain rfl := sm h
 exact NX.own0b 1006 5000 [0] 54 (sh := (.node [.cell, .cell, .cell])) (c := .agg [.nils (.node [.cell, .cell, .cell]), .nils (.node [.cell, .cell, .cell])]) (c' := .agg [.own 5000 0, .nils (.node [.cell, .cell, .cell])]) (by kernel_rfl) (by kernel_rfl) (by kernel_rfl) (by kernel_rfl) (NX.own0b 1006 5001 [1] 61 (sh := (.node [.cell, .cell, .cell])) (c := .agg [.own 5000 0, .nils (.node [.cell, .cell, .cell])]) (c' := .agg [.own 5000 0, .own 5001 0]) (by kernel_rfl) (by kernel_rfl) (by kernel_rfl) (by kernel_rfl) (NX.ret [5000, 5001] a0 (by kernel_rfl)))
 refine CD.skip (CD.seq (rg [] [(7, bA true)] [(1006, bx (.agg [.own 3600 v44.length, .own 3720 v46.length]))] a0 (CD.ret ?_)))
 obtain rfl := sm h
 exact NX.ret [3600, 3720] a0 (by kernel_rfl)

theorem c5d {x0 : T25} {x1 : T28} {x2 : (List Int)} {r : (List T53) × (List T60) × Bool} (h : f5 x0 x1 x2 = some r) :
 FnD cx 5 [k25.a x0, k28.a x1, k27.a x2] [] (.tup [k25.a (⟨r.1, r.2.1⟩ : T25), bA r.2.2]) [] :=
 FnD.data (xs := [.agg [.own 0 r.1.length, .own 1 r.2.1.length], bA r.2.2]) (ys := [k25.a (⟨r.1, r.2.1⟩ : T25), bA r.2.2]) (p := True) (q := (((r.1.length = (k53.m r.1).length) ∧ ((r.2.1.length = (k60.m r.2.1).length) ∧ True)) ∧ (True ∧ True))) (c5 h) [] (by kernel_rfl) (by kernel_rfl) a0 (by kernel_rfl) (a1 (k_len' k53 r.1) (a1 (k_len' k60 r.2.1) a0))


-- f23 spec.ContractValid
def f23 (x0 : T28) : Option (Bool) :=
 jn (
 iter (fun (v19 : Int) =>
 if (decide (v19 < (ln x0.f2))) = true then
 bd (ix x0.f2 v19) fun v23 =>
 bd (f52 v23) fun v25 =>
 if (!v25) = true then
 some (.inr (.inr false))
 else
 if (decide (v19 > 0)) = true then
 bd (ix x0.f2 (sb v19 1)) fun v29 =>
 bd (ix x0.f2 v19) fun v31 =>
 if (decide (v29 ≥ v31)) = true then
 some (.inr (.inr false))
 else
 some (.inl (ad v19 1))
 else
 some (.inl (ad v19 1))
 else
 some (.inr (.inl ()))) 0) fun (v1 : Unit) =>
 bd (f22 x0.f0) fun v34 =>
 if v34 = true then
 bd (f22 x0.f1) fun v37 =>
 some v37
 else
 some false
theorem c23 {x0 : T28} {r : Bool} (h : f23 x0 = some r) :
 FnD cx 23 [k28.a x0] [] (bA r) [] := by
 unfold f23 at h
 refine fnD_intro (fn := Tryz.f23) (by kernel_rfl) rfl (by kernel_rfl) (by kernel_rfl) fun E => ?_
 refine CD.seq (rg [] [(1, .ref 1001 [])] [(1001, bx (k28.a x0))] a0 (CD.join (fun (v1 : Unit) => ⟨[(1, .ref 1001 [])], [(1001, bx (k28.a x0))]⟩) h (fun u2 h q3 => ?_) (fun v1 h => ?_)))
 refine CD.seq (rg [] [(3, iA 0)] [] a0 (CD.block (CD.loopK (fun (v19 : Int) => ⟨[(1, .ref 1001 []), (3, iA v19)], [(1001, bx (k28.a x0))]⟩) h (by kernel_rfl) (fun v19 u20 h q21 => ?_))))
 refine CD.seq (CD.seq (rg [(3, hV (iA (ln x0.f2)))] [(8, bA (decide (v19 < (ln x0.f2))))] [] (a1 (o_ln k3 x0.f2) a0) (br h (fun g22 h => ?_) (fun g22 h => ?_))))
 refine CD.skip (CD.seq (CD.block (CD.seq ?_)))
 rcases bd_some h with ⟨v23, g24, h⟩
 rcases bd_some h with ⟨v25, g26, h⟩
 rcases if_some h with ⟨g27, h⟩ | ⟨g27, h⟩
 refine rg [(0, hD [1001]), (1, hD [1001]), (3, hE (.int .i64 v23)), (5, hC (bA v25) [] [] []), (7, hT1)] [(35, bA true)] [] (a1 (o_ix k3 g24) (a1 (c52 g26) (a1 (oB (c := (!v25)) g27) a0))) (CD.condT (b := true) (by kernel_rfl) rfl (CD.seq (rg [] [(2, bA false)] [] a0 (CD.ret ?_))))
 obtain rfl := sm h
 obtain rfl := q21 _ rfl
 obtain rfl := q3 _ rfl
 exact NX.ret [] a0 (by kernel_rfl)
 rcases if_some h with ⟨g28, h⟩ | ⟨g28, h⟩
 rcases bd_some h with ⟨v29, g30, h⟩
 rcases bd_some h with ⟨v31, g32, h⟩
 refine rg [(0, hD [1001]), (1, hD [1001]), (3, hE (.int .i64 v23)), (5, hC (bA v25) [] [] []), (7, hF1), (10, hT1), (11, hD [1001]), (12, hD [1001]), (15, hE (.int .i64 v29)), (17, hD [1001]), (18, hD [1001]), (20, hE (.int .i64 v31))] [(35, bA (decide (v29 ≥ v31)))] [] (a1 (o_ix k3 g24) (a1 (c52 g26) (a1 (oB (c := (!v25)) g27) (a1 (oB (c := (decide (v19 > 0))) g28) (a1 (o_ix k3 g30) (a1 (o_ix k3 g32) a0)))))) (br h (fun g33 h => ?_) (fun g33 h => ?_))
 refine CD.seq (rg [] [(2, bA false)] [] a0 (CD.ret ?_))
 obtain rfl := sm h
 obtain rfl := q21 _ rfl
 obtain rfl := q3 _ rfl
 exact NX.ret [] a0 (by kernel_rfl)
 refine CD.skip (NX.blN (rg [] [(3, iA (ad v19 1))] [] a0 ?_))
 obtain rfl := sm h
 exact NX.inl (by kernel_rfl)
 refine rg [(0, hD [1001]), (1, hD [1001]), (3, hE (.int .i64 v23)), (5, hC (bA v25) [] [] []), (7, hF1), (10, hF1)] [(35, bA false)] [] (a1 (o_ix k3 g24) (a1 (c52 g26) (a1 (oB (c := (!v25)) g27) (a1 (oB (c := (decide (v19 > 0))) g28) a0)))) (CD.condF (b := false) (by kernel_rfl) rfl (CD.skip (NX.blN (rg [] [(3, iA (ad v19 1))] [] a0 ?_))))
 obtain rfl := sm h
 exact NX.inl (by kernel_rfl)
 refine CD.exit ?_
 obtain rfl := sm h
 obtain rfl := q21 _ rfl
 exact NX.th (NX.lq (NX.brk (NX.inl (by kernel_rfl))))
 refine CD.seq ?_
 rcases bd_some h with ⟨v34, g35, h⟩
 rcases if_some h with ⟨g36, h⟩ | ⟨g36, h⟩
 rcases bd_some h with ⟨v37, g38, h⟩
 refine rg [(2, hC (bA v34) [] [] []), (3, hT1), (6, hC (bA v37) [] [] [])] [(2, bA v37)] [] (a1 (c22 g35) (a1 (oB (c := v34) g36) (a1 (c22 g38) a0))) (CD.ret ?_)
 obtain rfl := sm h
 exact NX.ret [] a0 (by kernel_rfl)
 refine rg [(2, hC (bA v34) [] [] []), (3, hF1)] [(2, bA false)] [] (a1 (c22 g35) (a1 (oB (c := v34) g36) a0)) (CD.ret ?_)
 obtain rfl := sm h
 exact NX.ret [] a0 (by kernel_rfl)

end Go.Sep.Y
