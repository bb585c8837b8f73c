/- Part of the proof: mirrors of the functions of this seat, and that the functions give what their mirrors give. -/
import Derived.Test.YtkchimbalpiilaaGreatSepYM4
set_option linter.all false
set_option linter.deprecated false
open Go Go.Sep Go.Proofs
set_option maxRecDepth 100000
namespace Go.Sep.Y
-- f36 spec.l11Triple
def f36 (x0 : T74) : Option ((List T53) × (List T60) × (List T128) × (List T53) × (List T60) × T74) :=
 bd (f38 (ln ([([([116, 114, 117, 101, 32, 124, 32, 97, 126, 110, 105, 108] : List UInt8), ([119, 104, 105, 108, 101, 32, 97, 33, 61, 110, 105, 108, 32, 119, 105, 116, 104, 32, 116, 114, 117, 101, 32, 124, 32, 97, 126, 110, 105, 108, 10, 99, 58, 61, 91, 97, 93, 10, 102, 114, 101, 101, 32, 97, 10, 97, 58, 61, 99, 10, 101, 110, 100, 10] : List UInt8), ([116, 114, 117, 101, 32, 124, 32, 101, 109, 112] : List UInt8)] : List (List UInt8)), ([([116, 114, 117, 101, 32, 124, 32, 97, 126, 110, 105, 108] : List UInt8), ([99, 58, 61, 110, 105, 108, 10, 119, 104, 105, 108, 101, 32, 97, 33, 61, 110, 105, 108, 32, 119, 105, 116, 104, 32, 116, 114, 117, 101, 32, 124, 32, 97, 126, 110, 105, 108, 32, 42, 32, 99, 126, 110, 105, 108, 10, 100, 58, 61, 91, 97, 93, 10, 91, 97, 93, 58, 61, 99, 10, 99, 58, 61, 97, 10, 97, 58, 61, 100, 10, 101, 110, 100, 10] : List UInt8), ([116, 114, 117, 101, 32, 124, 32, 99, 126, 110, 105, 108] : List UInt8)] : List (List UInt8)), ([([116, 114, 117, 101, 32, 124, 32, 97, 126, 110, 105, 108, 32, 42, 32, 98, 126, 110, 105, 108] : List UInt8), ([105, 102, 32, 97, 33, 61, 110, 105, 108, 10, 99, 58, 61, 91, 97, 93, 10, 91, 97, 93, 58, 61, 98, 10, 98, 58, 61, 97, 10, 97, 58, 61, 99, 10, 101, 110, 100, 10] : List UInt8), ([116, 114, 117, 101, 32, 124, 32, 97, 126, 110, 105, 108, 32, 42, 32, 98, 126, 110, 105, 108] : List UInt8)] : List (List UInt8)), ([([116, 114, 117, 101, 32, 124, 32, 97, 126, 110, 105, 108] : List UInt8), ([110, 101, 119, 32, 99, 10, 91, 99, 93, 58, 61, 97, 10, 97, 58, 61, 99, 10] : List UInt8), ([116, 114, 117, 101, 32, 124, 32, 97, 126, 110, 105, 108] : List UInt8)] : List (List UInt8)), ([([116, 114, 117, 101, 32, 124, 32, 97, 126, 110, 105, 108] : List UInt8), ([99, 58, 61, 97, 10, 119, 104, 105, 108, 101, 32, 99, 33, 61, 110, 105, 108, 32, 119, 105, 116, 104, 32, 116, 114, 117, 101, 32, 124, 32, 97, 126, 99, 32, 42, 32, 99, 126, 110, 105, 108, 10, 99, 58, 61, 91, 99, 93, 10, 101, 110, 100, 10] : List UInt8), ([99, 61, 110, 105, 108, 32, 124, 32, 97, 126, 110, 105, 108] : List UInt8)] : List (List UInt8)), ([([112, 61, 97, 32, 124, 32, 97, 126, 110, 105, 108] : List UInt8), ([98, 58, 61, 97, 10] : List UInt8), ([98, 61, 112, 32, 124, 32, 98, 126, 110, 105, 108] : List UInt8)] : List (List UInt8)), ([([116, 114, 117, 101, 32, 124, 32, 97, 126, 110, 105, 108, 32, 42, 32, 112, 126, 110, 105, 108] : List UInt8), ([119, 104, 105, 108, 101, 32, 97, 33, 61, 110, 105, 108, 32, 119, 105, 116, 104, 32, 116, 114, 117, 101, 32, 124, 32, 97, 126, 110, 105, 108, 10, 99, 58, 61, 91, 97, 93, 10, 102, 114, 101, 101, 32, 97, 10, 97, 58, 61, 99, 10, 101, 110, 100, 10] : List UInt8), ([116, 114, 117, 101, 32, 124, 32, 112, 126, 110, 105, 108] : List UInt8)] : List (List UInt8)), ([([116, 114, 117, 101, 32, 124, 32, 97, 62, 112] : List UInt8), ([98, 58, 61, 91, 97, 93, 10, 102, 114, 101, 101, 32, 97, 10] : List UInt8), ([98, 61, 112, 32, 124, 32, 101, 109, 112] : List UInt8)] : List (List UInt8))] : List (List (List UInt8)))) x0) fun v1 =>
 bd (ix ([([([116, 114, 117, 101, 32, 124, 32, 97, 126, 110, 105, 108] : List UInt8), ([119, 104, 105, 108, 101, 32, 97, 33, 61, 110, 105, 108, 32, 119, 105, 116, 104, 32, 116, 114, 117, 101, 32, 124, 32, 97, 126, 110, 105, 108, 10, 99, 58, 61, 91, 97, 93, 10, 102, 114, 101, 101, 32, 97, 10, 97, 58, 61, 99, 10, 101, 110, 100, 10] : List UInt8), ([116, 114, 117, 101, 32, 124, 32, 101, 109, 112] : List UInt8)] : List (List UInt8)), ([([116, 114, 117, 101, 32, 124, 32, 97, 126, 110, 105, 108] : List UInt8), ([99, 58, 61, 110, 105, 108, 10, 119, 104, 105, 108, 101, 32, 97, 33, 61, 110, 105, 108, 32, 119, 105, 116, 104, 32, 116, 114, 117, 101, 32, 124, 32, 97, 126, 110, 105, 108, 32, 42, 32, 99, 126, 110, 105, 108, 10, 100, 58, 61, 91, 97, 93, 10, 91, 97, 93, 58, 61, 99, 10, 99, 58, 61, 97, 10, 97, 58, 61, 100, 10, 101, 110, 100, 10] : List UInt8), ([116, 114, 117, 101, 32, 124, 32, 99, 126, 110, 105, 108] : List UInt8)] : List (List UInt8)), ([([116, 114, 117, 101, 32, 124, 32, 97, 126, 110, 105, 108, 32, 42, 32, 98, 126, 110, 105, 108] : List UInt8), ([105, 102, 32, 97, 33, 61, 110, 105, 108, 10, 99, 58, 61, 91, 97, 93, 10, 91, 97, 93, 58, 61, 98, 10, 98, 58, 61, 97, 10, 97, 58, 61, 99, 10, 101, 110, 100, 10] : List UInt8), ([116, 114, 117, 101, 32, 124, 32, 97, 126, 110, 105, 108, 32, 42, 32, 98, 126, 110, 105, 108] : List UInt8)] : List (List UInt8)), ([([116, 114, 117, 101, 32, 124, 32, 97, 126, 110, 105, 108] : List UInt8), ([110, 101, 119, 32, 99, 10, 91, 99, 93, 58, 61, 97, 10, 97, 58, 61, 99, 10] : List UInt8), ([116, 114, 117, 101, 32, 124, 32, 97, 126, 110, 105, 108] : List UInt8)] : List (List UInt8)), ([([116, 114, 117, 101, 32, 124, 32, 97, 126, 110, 105, 108] : List UInt8), ([99, 58, 61, 97, 10, 119, 104, 105, 108, 101, 32, 99, 33, 61, 110, 105, 108, 32, 119, 105, 116, 104, 32, 116, 114, 117, 101, 32, 124, 32, 97, 126, 99, 32, 42, 32, 99, 126, 110, 105, 108, 10, 99, 58, 61, 91, 99, 93, 10, 101, 110, 100, 10] : List UInt8), ([99, 61, 110, 105, 108, 32, 124, 32, 97, 126, 110, 105, 108] : List UInt8)] : List (List UInt8)), ([([112, 61, 97, 32, 124, 32, 97, 126, 110, 105, 108] : List UInt8), ([98, 58, 61, 97, 10] : List UInt8), ([98, 61, 112, 32, 124, 32, 98, 126, 110, 105, 108] : List UInt8)] : List (List UInt8)), ([([116, 114, 117, 101, 32, 124, 32, 97, 126, 110, 105, 108, 32, 42, 32, 112, 126, 110, 105, 108] : List UInt8), ([119, 104, 105, 108, 101, 32, 97, 33, 61, 110, 105, 108, 32, 119, 105, 116, 104, 32, 116, 114, 117, 101, 32, 124, 32, 97, 126, 110, 105, 108, 10, 99, 58, 61, 91, 97, 93, 10, 102, 114, 101, 101, 32, 97, 10, 97, 58, 61, 99, 10, 101, 110, 100, 10] : List UInt8), ([116, 114, 117, 101, 32, 124, 32, 112, 126, 110, 105, 108] : List UInt8)] : List (List UInt8)), ([([116, 114, 117, 101, 32, 124, 32, 97, 62, 112] : List UInt8), ([98, 58, 61, 91, 97, 93, 10, 102, 114, 101, 101, 32, 97, 10] : List UInt8), ([98, 61, 112, 32, 124, 32, 101, 109, 112] : List UInt8)] : List (List UInt8))] : List (List (List UInt8))) v1.1) fun v3 =>
 bd (ix v3 0) fun v5 =>
 bd (f59 v5) fun v7 =>
 bd (ix ([([([116, 114, 117, 101, 32, 124, 32, 97, 126, 110, 105, 108] : List UInt8), ([119, 104, 105, 108, 101, 32, 97, 33, 61, 110, 105, 108, 32, 119, 105, 116, 104, 32, 116, 114, 117, 101, 32, 124, 32, 97, 126, 110, 105, 108, 10, 99, 58, 61, 91, 97, 93, 10, 102, 114, 101, 101, 32, 97, 10, 97, 58, 61, 99, 10, 101, 110, 100, 10] : List UInt8), ([116, 114, 117, 101, 32, 124, 32, 101, 109, 112] : List UInt8)] : List (List UInt8)), ([([116, 114, 117, 101, 32, 124, 32, 97, 126, 110, 105, 108] : List UInt8), ([99, 58, 61, 110, 105, 108, 10, 119, 104, 105, 108, 101, 32, 97, 33, 61, 110, 105, 108, 32, 119, 105, 116, 104, 32, 116, 114, 117, 101, 32, 124, 32, 97, 126, 110, 105, 108, 32, 42, 32, 99, 126, 110, 105, 108, 10, 100, 58, 61, 91, 97, 93, 10, 91, 97, 93, 58, 61, 99, 10, 99, 58, 61, 97, 10, 97, 58, 61, 100, 10, 101, 110, 100, 10] : List UInt8), ([116, 114, 117, 101, 32, 124, 32, 99, 126, 110, 105, 108] : List UInt8)] : List (List UInt8)), ([([116, 114, 117, 101, 32, 124, 32, 97, 126, 110, 105, 108, 32, 42, 32, 98, 126, 110, 105, 108] : List UInt8), ([105, 102, 32, 97, 33, 61, 110, 105, 108, 10, 99, 58, 61, 91, 97, 93, 10, 91, 97, 93, 58, 61, 98, 10, 98, 58, 61, 97, 10, 97, 58, 61, 99, 10, 101, 110, 100, 10] : List UInt8), ([116, 114, 117, 101, 32, 124, 32, 97, 126, 110, 105, 108, 32, 42, 32, 98, 126, 110, 105, 108] : List UInt8)] : List (List UInt8)), ([([116, 114, 117, 101, 32, 124, 32, 97, 126, 110, 105, 108] : List UInt8), ([110, 101, 119, 32, 99, 10, 91, 99, 93, 58, 61, 97, 10, 97, 58, 61, 99, 10] : List UInt8), ([116, 114, 117, 101, 32, 124, 32, 97, 126, 110, 105, 108] : List UInt8)] : List (List UInt8)), ([([116, 114, 117, 101, 32, 124, 32, 97, 126, 110, 105, 108] : List UInt8), ([99, 58, 61, 97, 10, 119, 104, 105, 108, 101, 32, 99, 33, 61, 110, 105, 108, 32, 119, 105, 116, 104, 32, 116, 114, 117, 101, 32, 124, 32, 97, 126, 99, 32, 42, 32, 99, 126, 110, 105, 108, 10, 99, 58, 61, 91, 99, 93, 10, 101, 110, 100, 10] : List UInt8), ([99, 61, 110, 105, 108, 32, 124, 32, 97, 126, 110, 105, 108] : List UInt8)] : List (List UInt8)), ([([112, 61, 97, 32, 124, 32, 97, 126, 110, 105, 108] : List UInt8), ([98, 58, 61, 97, 10] : List UInt8), ([98, 61, 112, 32, 124, 32, 98, 126, 110, 105, 108] : List UInt8)] : List (List UInt8)), ([([116, 114, 117, 101, 32, 124, 32, 97, 126, 110, 105, 108, 32, 42, 32, 112, 126, 110, 105, 108] : List UInt8), ([119, 104, 105, 108, 101, 32, 97, 33, 61, 110, 105, 108, 32, 119, 105, 116, 104, 32, 116, 114, 117, 101, 32, 124, 32, 97, 126, 110, 105, 108, 10, 99, 58, 61, 91, 97, 93, 10, 102, 114, 101, 101, 32, 97, 10, 97, 58, 61, 99, 10, 101, 110, 100, 10] : List UInt8), ([116, 114, 117, 101, 32, 124, 32, 112, 126, 110, 105, 108] : List UInt8)] : List (List UInt8)), ([([116, 114, 117, 101, 32, 124, 32, 97, 62, 112] : List UInt8), ([98, 58, 61, 91, 97, 93, 10, 102, 114, 101, 101, 32, 97, 10] : List UInt8), ([98, 61, 112, 32, 124, 32, 101, 109, 112] : List UInt8)] : List (List UInt8))] : List (List (List UInt8))) v1.1) fun v9 =>
 bd (ix v9 1) fun v11 =>
 bd (f60 v11) fun v13 =>
 bd (ix ([([([116, 114, 117, 101, 32, 124, 32, 97, 126, 110, 105, 108] : List UInt8), ([119, 104, 105, 108, 101, 32, 97, 33, 61, 110, 105, 108, 32, 119, 105, 116, 104, 32, 116, 114, 117, 101, 32, 124, 32, 97, 126, 110, 105, 108, 10, 99, 58, 61, 91, 97, 93, 10, 102, 114, 101, 101, 32, 97, 10, 97, 58, 61, 99, 10, 101, 110, 100, 10] : List UInt8), ([116, 114, 117, 101, 32, 124, 32, 101, 109, 112] : List UInt8)] : List (List UInt8)), ([([116, 114, 117, 101, 32, 124, 32, 97, 126, 110, 105, 108] : List UInt8), ([99, 58, 61, 110, 105, 108, 10, 119, 104, 105, 108, 101, 32, 97, 33, 61, 110, 105, 108, 32, 119, 105, 116, 104, 32, 116, 114, 117, 101, 32, 124, 32, 97, 126, 110, 105, 108, 32, 42, 32, 99, 126, 110, 105, 108, 10, 100, 58, 61, 91, 97, 93, 10, 91, 97, 93, 58, 61, 99, 10, 99, 58, 61, 97, 10, 97, 58, 61, 100, 10, 101, 110, 100, 10] : List UInt8), ([116, 114, 117, 101, 32, 124, 32, 99, 126, 110, 105, 108] : List UInt8)] : List (List UInt8)), ([([116, 114, 117, 101, 32, 124, 32, 97, 126, 110, 105, 108, 32, 42, 32, 98, 126, 110, 105, 108] : List UInt8), ([105, 102, 32, 97, 33, 61, 110, 105, 108, 10, 99, 58, 61, 91, 97, 93, 10, 91, 97, 93, 58, 61, 98, 10, 98, 58, 61, 97, 10, 97, 58, 61, 99, 10, 101, 110, 100, 10] : List UInt8), ([116, 114, 117, 101, 32, 124, 32, 97, 126, 110, 105, 108, 32, 42, 32, 98, 126, 110, 105, 108] : List UInt8)] : List (List UInt8)), ([([116, 114, 117, 101, 32, 124, 32, 97, 126, 110, 105, 108] : List UInt8), ([110, 101, 119, 32, 99, 10, 91, 99, 93, 58, 61, 97, 10, 97, 58, 61, 99, 10] : List UInt8), ([116, 114, 117, 101, 32, 124, 32, 97, 126, 110, 105, 108] : List UInt8)] : List (List UInt8)), ([([116, 114, 117, 101, 32, 124, 32, 97, 126, 110, 105, 108] : List UInt8), ([99, 58, 61, 97, 10, 119, 104, 105, 108, 101, 32, 99, 33, 61, 110, 105, 108, 32, 119, 105, 116, 104, 32, 116, 114, 117, 101, 32, 124, 32, 97, 126, 99, 32, 42, 32, 99, 126, 110, 105, 108, 10, 99, 58, 61, 91, 99, 93, 10, 101, 110, 100, 10] : List UInt8), ([99, 61, 110, 105, 108, 32, 124, 32, 97, 126, 110, 105, 108] : List UInt8)] : List (List UInt8)), ([([112, 61, 97, 32, 124, 32, 97, 126, 110, 105, 108] : List UInt8), ([98, 58, 61, 97, 10] : List UInt8), ([98, 61, 112, 32, 124, 32, 98, 126, 110, 105, 108] : List UInt8)] : List (List UInt8)), ([([116, 114, 117, 101, 32, 124, 32, 97, 126, 110, 105, 108, 32, 42, 32, 112, 126, 110, 105, 108] : List UInt8), ([119, 104, 105, 108, 101, 32, 97, 33, 61, 110, 105, 108, 32, 119, 105, 116, 104, 32, 116, 114, 117, 101, 32, 124, 32, 97, 126, 110, 105, 108, 10, 99, 58, 61, 91, 97, 93, 10, 102, 114, 101, 101, 32, 97, 10, 97, 58, 61, 99, 10, 101, 110, 100, 10] : List UInt8), ([116, 114, 117, 101, 32, 124, 32, 112, 126, 110, 105, 108] : List UInt8)] : List (List UInt8)), ([([116, 114, 117, 101, 32, 124, 32, 97, 62, 112] : List UInt8), ([98, 58, 61, 91, 97, 93, 10, 102, 114, 101, 101, 32, 97, 10] : List UInt8), ([98, 61, 112, 32, 124, 32, 101, 109, 112] : List UInt8)] : List (List UInt8))] : List (List (List UInt8))) v1.1) fun v15 =>
 bd (ix v15 2) fun v17 =>
 bd (f59 v17) fun v19 =>
 jn (
 jn (
 if (!v7.2.2) = true then
 some (.inl (true, v1.2))
 else
 if (!v13.2) = true then
 some (.inl (true, v1.2))
 else
 if (!v19.2.2) = true then
 some (.inl (true, v1.2))
 else
 bd (f38 5 v1.2) fun v30 =>
 some (.inl (v30.1 == 0, v30.2))) fun (v24 : Bool × T74) =>
 if v24.1 = true then
 bd (f61 v24.2) fun v33 =>
 bd (f62 v33.2.2) fun v35 =>
 bd (f61 v35.2) fun v37 =>
 bd (f63 (⟨v37.1, v37.2.1⟩ : T25) v37.2.2) fun v39 =>
 some (.inr (v33.1, v33.2.1, v35.1, v39.1, v39.2.1, v39.2.2))
 else
 some (.inl v24.2)) fun (v21 : T74) =>
 bd (f38 6 v21) fun v41 =>
 if (v41.1 == 0) = true then
 bd (f63 (⟨v19.1, v19.2.1⟩ : T25) v41.2) fun v48 =>
 some (v7.1, v7.2.1, v13.1, v48.1, v48.2.1, v48.2.2)
 else
 some (v7.1, v7.2.1, v13.1, v19.1, v19.2.1, v41.2)
theorem c36 {x0 : T74} {r : (List T53) × (List T60) × (List T128) × (List T53) × (List T60) × T74} (h : f36 x0 = some r) :
 FnD cx 36 [.ref 0 []] [bx (k74.a x0)] (.tup [.agg [.own 1 r.1.length, .own 2 r.2.1.length], k39.a r.2.2.1, .agg [k23.a r.2.2.2.1, .own 3 r.2.2.2.2.1.length]]) [bx (k74.a r.2.2.2.2.2), k53.r 54 (.node [.cell, .cell, .cell]) r.1, k60.r 61 (.node [.cell, .cell, .cell]) r.2.1, k60.r 61 (.node [.cell, .cell, .cell]) r.2.2.2.2.1] := by
 unfold f36 at h
 refine fnD_intro (fn := Tryz.f36) (by kernel_rfl) rfl (by kernel_rfl) (by kernel_rfl) fun E => ?_
 refine CD.seq (rg [] [(2, .ref 1002 []), (4, .ref 1004 [])] [(1004, bx (.agg [.nils (.node [.cell, .cell, .cell]), .nils (.node [.cell, .cell, .cell])])), (1002, bx (.agg [.nils (.node [.cell, .cell, .cell]), .nils (.node [.cell, .cell, .cell])]))] a0 (CD.seq (rg [] [(5, k94.a ([([([116, 114, 117, 101, 32, 124, 32, 97, 126, 110, 105, 108] : List UInt8), ([119, 104, 105, 108, 101, 32, 97, 33, 61, 110, 105, 108, 32, 119, 105, 116, 104, 32, 116, 114, 117, 101, 32, 124, 32, 97, 126, 110, 105, 108, 10, 99, 58, 61, 91, 97, 93, 10, 102, 114, 101, 101, 32, 97, 10, 97, 58, 61, 99, 10, 101, 110, 100, 10] : List UInt8), ([116, 114, 117, 101, 32, 124, 32, 101, 109, 112] : List UInt8)] : List (List UInt8)), ([([116, 114, 117, 101, 32, 124, 32, 97, 126, 110, 105, 108] : List UInt8), ([99, 58, 61, 110, 105, 108, 10, 119, 104, 105, 108, 101, 32, 97, 33, 61, 110, 105, 108, 32, 119, 105, 116, 104, 32, 116, 114, 117, 101, 32, 124, 32, 97, 126, 110, 105, 108, 32, 42, 32, 99, 126, 110, 105, 108, 10, 100, 58, 61, 91, 97, 93, 10, 91, 97, 93, 58, 61, 99, 10, 99, 58, 61, 97, 10, 97, 58, 61, 100, 10, 101, 110, 100, 10] : List UInt8), ([116, 114, 117, 101, 32, 124, 32, 99, 126, 110, 105, 108] : List UInt8)] : List (List UInt8)), ([([116, 114, 117, 101, 32, 124, 32, 97, 126, 110, 105, 108, 32, 42, 32, 98, 126, 110, 105, 108] : List UInt8), ([105, 102, 32, 97, 33, 61, 110, 105, 108, 10, 99, 58, 61, 91, 97, 93, 10, 91, 97, 93, 58, 61, 98, 10, 98, 58, 61, 97, 10, 97, 58, 61, 99, 10, 101, 110, 100, 10] : List UInt8), ([116, 114, 117, 101, 32, 124, 32, 97, 126, 110, 105, 108, 32, 42, 32, 98, 126, 110, 105, 108] : List UInt8)] : List (List UInt8)), ([([116, 114, 117, 101, 32, 124, 32, 97, 126, 110, 105, 108] : List UInt8), ([110, 101, 119, 32, 99, 10, 91, 99, 93, 58, 61, 97, 10, 97, 58, 61, 99, 10] : List UInt8), ([116, 114, 117, 101, 32, 124, 32, 97, 126, 110, 105, 108] : List UInt8)] : List (List UInt8)), ([([116, 114, 117, 101, 32, 124, 32, 97, 126, 110, 105, 108] : List UInt8), ([99, 58, 61, 97, 10, 119, 104, 105, 108, 101, 32, 99, 33, 61, 110, 105, 108, 32, 119, 105, 116, 104, 32, 116, 114, 117, 101, 32, 124, 32, 97, 126, 99, 32, 42, 32, 99, 126, 110, 105, 108, 10, 99, 58, 61, 91, 99, 93, 10, 101, 110, 100, 10] : List UInt8), ([99, 61, 110, 105, 108, 32, 124, 32, 97, 126, 110, 105, 108] : List UInt8)] : List (List UInt8)), ([([112, 61, 97, 32, 124, 32, 97, 126, 110, 105, 108] : List UInt8), ([98, 58, 61, 97, 10] : List UInt8), ([98, 61, 112, 32, 124, 32, 98, 126, 110, 105, 108] : List UInt8)] : List (List UInt8)), ([([116, 114, 117, 101, 32, 124, 32, 97, 126, 110, 105, 108, 32, 42, 32, 112, 126, 110, 105, 108] : List UInt8), ([119, 104, 105, 108, 101, 32, 97, 33, 61, 110, 105, 108, 32, 119, 105, 116, 104, 32, 116, 114, 117, 101, 32, 124, 32, 97, 126, 110, 105, 108, 10, 99, 58, 61, 91, 97, 93, 10, 102, 114, 101, 101, 32, 97, 10, 97, 58, 61, 99, 10, 101, 110, 100, 10] : List UInt8), ([116, 114, 117, 101, 32, 124, 32, 112, 126, 110, 105, 108] : List UInt8)] : List (List UInt8)), ([([116, 114, 117, 101, 32, 124, 32, 97, 62, 112] : List UInt8), ([98, 58, 61, 91, 97, 93, 10, 102, 114, 101, 101, 32, 97, 10] : List UInt8), ([98, 61, 112, 32, 124, 32, 101, 109, 112] : List UInt8)] : List (List UInt8))] : List (List (List UInt8))))] [] a0 ?_)))
 refine CD.seq ?_
 rcases bd_some h with ⟨v1, g2, h⟩
 refine rg [(2, hV (iA (ln ([([([116, 114, 117, 101, 32, 124, 32, 97, 126, 110, 105, 108] : List UInt8), ([119, 104, 105, 108, 101, 32, 97, 33, 61, 110, 105, 108, 32, 119, 105, 116, 104, 32, 116, 114, 117, 101, 32, 124, 32, 97, 126, 110, 105, 108, 10, 99, 58, 61, 91, 97, 93, 10, 102, 114, 101, 101, 32, 97, 10, 97, 58, 61, 99, 10, 101, 110, 100, 10] : List UInt8), ([116, 114, 117, 101, 32, 124, 32, 101, 109, 112] : List UInt8)] : List (List UInt8)), ([([116, 114, 117, 101, 32, 124, 32, 97, 126, 110, 105, 108] : List UInt8), ([99, 58, 61, 110, 105, 108, 10, 119, 104, 105, 108, 101, 32, 97, 33, 61, 110, 105, 108, 32, 119, 105, 116, 104, 32, 116, 114, 117, 101, 32, 124, 32, 97, 126, 110, 105, 108, 32, 42, 32, 99, 126, 110, 105, 108, 10, 100, 58, 61, 91, 97, 93, 10, 91, 97, 93, 58, 61, 99, 10, 99, 58, 61, 97, 10, 97, 58, 61, 100, 10, 101, 110, 100, 10] : List UInt8), ([116, 114, 117, 101, 32, 124, 32, 99, 126, 110, 105, 108] : List UInt8)] : List (List UInt8)), ([([116, 114, 117, 101, 32, 124, 32, 97, 126, 110, 105, 108, 32, 42, 32, 98, 126, 110, 105, 108] : List UInt8), ([105, 102, 32, 97, 33, 61, 110, 105, 108, 10, 99, 58, 61, 91, 97, 93, 10, 91, 97, 93, 58, 61, 98, 10, 98, 58, 61, 97, 10, 97, 58, 61, 99, 10, 101, 110, 100, 10] : List UInt8), ([116, 114, 117, 101, 32, 124, 32, 97, 126, 110, 105, 108, 32, 42, 32, 98, 126, 110, 105, 108] : List UInt8)] : List (List UInt8)), ([([116, 114, 117, 101, 32, 124, 32, 97, 126, 110, 105, 108] : List UInt8), ([110, 101, 119, 32, 99, 10, 91, 99, 93, 58, 61, 97, 10, 97, 58, 61, 99, 10] : List UInt8), ([116, 114, 117, 101, 32, 124, 32, 97, 126, 110, 105, 108] : List UInt8)] : List (List UInt8)), ([([116, 114, 117, 101, 32, 124, 32, 97, 126, 110, 105, 108] : List UInt8), ([99, 58, 61, 97, 10, 119, 104, 105, 108, 101, 32, 99, 33, 61, 110, 105, 108, 32, 119, 105, 116, 104, 32, 116, 114, 117, 101, 32, 124, 32, 97, 126, 99, 32, 42, 32, 99, 126, 110, 105, 108, 10, 99, 58, 61, 91, 99, 93, 10, 101, 110, 100, 10] : List UInt8), ([99, 61, 110, 105, 108, 32, 124, 32, 97, 126, 110, 105, 108] : List UInt8)] : List (List UInt8)), ([([112, 61, 97, 32, 124, 32, 97, 126, 110, 105, 108] : List UInt8), ([98, 58, 61, 97, 10] : List UInt8), ([98, 61, 112, 32, 124, 32, 98, 126, 110, 105, 108] : List UInt8)] : List (List UInt8)), ([([116, 114, 117, 101, 32, 124, 32, 97, 126, 110, 105, 108, 32, 42, 32, 112, 126, 110, 105, 108] : List UInt8), ([119, 104, 105, 108, 101, 32, 97, 33, 61, 110, 105, 108, 32, 119, 105, 116, 104, 32, 116, 114, 117, 101, 32, 124, 32, 97, 126, 110, 105, 108, 10, 99, 58, 61, 91, 97, 93, 10, 102, 114, 101, 101, 32, 97, 10, 97, 58, 61, 99, 10, 101, 110, 100, 10] : List UInt8), ([116, 114, 117, 101, 32, 124, 32, 112, 126, 110, 105, 108] : List UInt8)] : List (List UInt8)), ([([116, 114, 117, 101, 32, 124, 32, 97, 62, 112] : List UInt8), ([98, 58, 61, 91, 97, 93, 10, 102, 114, 101, 101, 32, 97, 10] : List UInt8), ([98, 61, 112, 32, 124, 32, 101, 109, 112] : List UInt8)] : List (List UInt8))] : List (List (List UInt8)))))), (3, hC (iA v1.1) [bx (k74.a v1.2)] [0] [])] [(6, iA v1.1)] [(0, bx (k74.a v1.2))] (a1 (o_ln k93 ([([([116, 114, 117, 101, 32, 124, 32, 97, 126, 110, 105, 108] : List UInt8), ([119, 104, 105, 108, 101, 32, 97, 33, 61, 110, 105, 108, 32, 119, 105, 116, 104, 32, 116, 114, 117, 101, 32, 124, 32, 97, 126, 110, 105, 108, 10, 99, 58, 61, 91, 97, 93, 10, 102, 114, 101, 101, 32, 97, 10, 97, 58, 61, 99, 10, 101, 110, 100, 10] : List UInt8), ([116, 114, 117, 101, 32, 124, 32, 101, 109, 112] : List UInt8)] : List (List UInt8)), ([([116, 114, 117, 101, 32, 124, 32, 97, 126, 110, 105, 108] : List UInt8), ([99, 58, 61, 110, 105, 108, 10, 119, 104, 105, 108, 101, 32, 97, 33, 61, 110, 105, 108, 32, 119, 105, 116, 104, 32, 116, 114, 117, 101, 32, 124, 32, 97, 126, 110, 105, 108, 32, 42, 32, 99, 126, 110, 105, 108, 10, 100, 58, 61, 91, 97, 93, 10, 91, 97, 93, 58, 61, 99, 10, 99, 58, 61, 97, 10, 97, 58, 61, 100, 10, 101, 110, 100, 10] : List UInt8), ([116, 114, 117, 101, 32, 124, 32, 99, 126, 110, 105, 108] : List UInt8)] : List (List UInt8)), ([([116, 114, 117, 101, 32, 124, 32, 97, 126, 110, 105, 108, 32, 42, 32, 98, 126, 110, 105, 108] : List UInt8), ([105, 102, 32, 97, 33, 61, 110, 105, 108, 10, 99, 58, 61, 91, 97, 93, 10, 91, 97, 93, 58, 61, 98, 10, 98, 58, 61, 97, 10, 97, 58, 61, 99, 10, 101, 110, 100, 10] : List UInt8), ([116, 114, 117, 101, 32, 124, 32, 97, 126, 110, 105, 108, 32, 42, 32, 98, 126, 110, 105, 108] : List UInt8)] : List (List UInt8)), ([([116, 114, 117, 101, 32, 124, 32, 97, 126, 110, 105, 108] : List UInt8), ([110, 101, 119, 32, 99, 10, 91, 99, 93, 58, 61, 97, 10, 97, 58, 61, 99, 10] : List UInt8), ([116, 114, 117, 101, 32, 124, 32, 97, 126, 110, 105, 108] : List UInt8)] : List (List UInt8)), ([([116, 114, 117, 101, 32, 124, 32, 97, 126, 110, 105, 108] : List UInt8), ([99, 58, 61, 97, 10, 119, 104, 105, 108, 101, 32, 99, 33, 61, 110, 105, 108, 32, 119, 105, 116, 104, 32, 116, 114, 117, 101, 32, 124, 32, 97, 126, 99, 32, 42, 32, 99, 126, 110, 105, 108, 10, 99, 58, 61, 91, 99, 93, 10, 101, 110, 100, 10] : List UInt8), ([99, 61, 110, 105, 108, 32, 124, 32, 97, 126, 110, 105, 108] : List UInt8)] : List (List UInt8)), ([([112, 61, 97, 32, 124, 32, 97, 126, 110, 105, 108] : List UInt8), ([98, 58, 61, 97, 10] : List UInt8), ([98, 61, 112, 32, 124, 32, 98, 126, 110, 105, 108] : List UInt8)] : List (List UInt8)), ([([116, 114, 117, 101, 32, 124, 32, 97, 126, 110, 105, 108, 32, 42, 32, 112, 126, 110, 105, 108] : List UInt8), ([119, 104, 105, 108, 101, 32, 97, 33, 61, 110, 105, 108, 32, 119, 105, 116, 104, 32, 116, 114, 117, 101, 32, 124, 32, 97, 126, 110, 105, 108, 10, 99, 58, 61, 91, 97, 93, 10, 102, 114, 101, 101, 32, 97, 10, 97, 58, 61, 99, 10, 101, 110, 100, 10] : List UInt8), ([116, 114, 117, 101, 32, 124, 32, 112, 126, 110, 105, 108] : List UInt8)] : List (List UInt8)), ([([116, 114, 117, 101, 32, 124, 32, 97, 62, 112] : List UInt8), ([98, 58, 61, 91, 97, 93, 10, 102, 114, 101, 101, 32, 97, 10] : List UInt8), ([98, 61, 112, 32, 124, 32, 101, 109, 112] : List UInt8)] : List (List UInt8))] : List (List (List UInt8)))) (a1 (c38 g2) a0)) (CD.seq ?_)
 rcases bd_some h with ⟨v3, g4, h⟩
 rcases bd_some h with ⟨v5, g6, h⟩
 rcases bd_some h with ⟨v7, g8, h⟩
 refine rg [(2, hE (k93.x v3)), (4, hE (.str v5)), (6, hC (.tup [.agg [.own 0 v7.1.length, .own 1 v7.2.1.length], bA v7.2.2]) [k53.r 54 (.node [.cell, .cell, .cell]) v7.1, k60.r 61 (.node [.cell, .cell, .cell]) v7.2.1] [] [2660, 2661])] [(7, .ref 1007 []), (8, bA v7.2.2)] [(1007, bx (.agg [.own 2660 v7.1.length, .own 2661 v7.2.1.length])), (2661, k60.r 61 (.node [.cell, .cell, .cell]) v7.2.1), (2660, k53.r 54 (.node [.cell, .cell, .cell]) v7.1)] (a1 (o_ix k93 g4) (a1 (o_ix k9 g6) (a1 (c59 g8) a0))) (CD.seq ?_)
 rcases bd_some h with ⟨v9, g10, h⟩
 rcases bd_some h with ⟨v11, g12, h⟩
 rcases bd_some h with ⟨v13, g14, h⟩
 refine rg [(2, hE (k93.x v9)), (4, hE (.str v11)), (6, hC (.tup [k39.a v13.1, bA v13.2]) [] [] [])] [(9, k39.a v13.1), (10, bA v13.2)] [] (a1 (o_ix k93 g10) (a1 (o_ix k9 g12) (a1 (c60 g14) a0))) (CD.seq ?_)
 rcases bd_some h with ⟨v15, g16, h⟩
 rcases bd_some h with ⟨v17, g18, h⟩
 rcases bd_some h with ⟨v19, g20, h⟩
 refine rg [(2, hE (k93.x v15)), (4, hE (.str v17)), (6, hC (.tup [.agg [.own 0 v19.1.length, .own 1 v19.2.1.length], bA v19.2.2]) [k53.r 54 (.node [.cell, .cell, .cell]) v19.1, k60.r 61 (.node [.cell, .cell, .cell]) v19.2.1] [] [3060, 3061])] [(11, .ref 1011 []), (12, bA v19.2.2)] [(1011, bx (.agg [.own 3060 v19.1.length, .own 3061 v19.2.1.length])), (3061, k60.r 61 (.node [.cell, .cell, .cell]) v19.2.1), (3060, k53.r 54 (.node [.cell, .cell, .cell]) v19.1)] (a1 (o_ix k93 g16) (a1 (o_ix k9 g18) (a1 (c59 g20) a0))) (CD.join (fun (v21 : T74) => ⟨[(0, .ref 0 []), (2, .ref 1002 []), (4, .ref 1004 []), (7, .ref 1007 []), (9, k39.a v13.1), (11, .ref 1011 [])], [(2660, k53.r 54 (.node [.cell, .cell, .cell]) v7.1), (2661, k60.r 61 (.node [.cell, .cell, .cell]) v7.2.1), (3060, k53.r 54 (.node [.cell, .cell, .cell]) v19.1), (3061, k60.r 61 (.node [.cell, .cell, .cell]) v19.2.1), (0, bx (k74.a v21)), (1002, bx (.agg [.nils (.node [.cell, .cell, .cell]), .nils (.node [.cell, .cell, .cell])])), (1004, bx (.agg [.nils (.node [.cell, .cell, .cell]), .nils (.node [.cell, .cell, .cell])])), (1007, bx (.agg [.own 2660 v7.1.length, .own 2661 v7.2.1.length])), (1011, bx (.agg [.own 3060 v19.1.length, .own 3061 v19.2.1.length]))]⟩) h (fun u22 h q23 => ?_) (fun v21 h => ?_))
 refine CD.join (fun (v24 : Bool × T74) => ⟨[(0, .ref 0 []), (2, .ref 1002 []), (4, .ref 1004 []), (7, .ref 1007 []), (9, k39.a v13.1), (11, .ref 1011 []), (70, bA v24.1)], [(2660, k53.r 54 (.node [.cell, .cell, .cell]) v7.1), (2661, k60.r 61 (.node [.cell, .cell, .cell]) v7.2.1), (3060, k53.r 54 (.node [.cell, .cell, .cell]) v19.1), (3061, k60.r 61 (.node [.cell, .cell, .cell]) v19.2.1), (0, bx (k74.a v24.2)), (1002, bx (.agg [.nils (.node [.cell, .cell, .cell]), .nils (.node [.cell, .cell, .cell])])), (1004, bx (.agg [.nils (.node [.cell, .cell, .cell]), .nils (.node [.cell, .cell, .cell])])), (1007, bx (.agg [.own 2660 v7.1.length, .own 2661 v7.2.1.length])), (1011, bx (.agg [.own 3060 v19.1.length, .own 3061 v19.2.1.length]))]⟩) h (fun u25 h q26 => ?_) (fun v24 h => ?_)
 rcases if_some h with ⟨g27, h⟩ | ⟨g27, h⟩
 refine rg [(2, hT1)] [(70, bA true)] [] (a1 (oB (c := (!v7.2.2)) g27) a0) ?_
 obtain rfl := sm h
 exact NX.inl (by kernel_rfl)
 rcases if_some h with ⟨g28, h⟩ | ⟨g28, h⟩
 refine rg [(2, hF1), (6, hT1)] [(70, bA true)] [] (a1 (oB (c := (!v7.2.2)) g27) (a1 (oB (c := (!v13.2)) g28) a0)) ?_
 obtain rfl := sm h
 exact NX.inl (by kernel_rfl)
 rcases if_some h with ⟨g29, h⟩ | ⟨g29, h⟩
 refine rg [(2, hF1), (6, hF1), (10, hT1)] [(70, bA true)] [] (a1 (oB (c := (!v7.2.2)) g27) (a1 (oB (c := (!v13.2)) g28) (a1 (oB (c := (!v19.2.2)) g29) a0))) ?_
 obtain rfl := sm h
 exact NX.inl (by kernel_rfl)
 rcases bd_some h with ⟨v30, g31, h⟩
 refine rg [(2, hF1), (6, hF1), (10, hF1), (12, hC (iA v30.1) [bx (k74.a v30.2)] [0] [])] [(70, bA (v30.1 == 0))] [(0, bx (k74.a v30.2))] (a1 (oB (c := (!v7.2.2)) g27) (a1 (oB (c := (!v13.2)) g28) (a1 (oB (c := (!v19.2.2)) g29) (a1 (c38 g31) a0)))) ?_
 obtain rfl := sm h
 exact NX.inl (by kernel_rfl)
 refine br h (fun g32 h => ?_) (fun g32 h => ?_)
 refine CD.seq ?_
 rcases bd_some h with ⟨v33, g34, h⟩
 rcases bd_some h with ⟨v35, g36, h⟩
 rcases bd_some h with ⟨v37, g38, h⟩
 rcases bd_some h with ⟨v39, g40, h⟩
 refine rg [(1, hC (.agg [.own 1 v33.1.length, .own 2 v33.2.1.length]) [bx (k74.a v33.2.2), k53.r 54 (.node [.cell, .cell, .cell]) v33.1, k60.r 61 (.node [.cell, .cell, .cell]) v33.2.1] [0] [3440, 3441]), (3, hC (k39.a v35.1) [bx (k74.a v35.2)] [0] []), (6, hC (k25.a (⟨v37.1, v37.2.1⟩ : T25)) [bx (k74.a v37.2.2)] [0] []), (7, hC (.agg [k23.a v39.1, .own 1 v39.2.1.length]) [bx (k74.a v39.2.2), k60.r 61 (.node [.cell, .cell, .cell]) v39.2.1] [0] [3560])] [(3, k39.a v35.1)] [(1004, bx (.agg [k23.a v39.1, .own 3560 v39.2.1.length])), (1002, bx (.agg [.own 3440 v33.1.length, .own 3441 v33.2.1.length])), (3560, k60.r 61 (.node [.cell, .cell, .cell]) v39.2.1), (0, bx (k74.a v39.2.2)), (3441, k60.r 61 (.node [.cell, .cell, .cell]) v33.2.1), (3440, k53.r 54 (.node [.cell, .cell, .cell]) v33.1)] (a1 (c61 g34) (a1 (c62 g36) (a1 (c61d g38) (a1 (c63 g40) a0)))) (CD.ret ?_)
 obtain rfl := sm h
 obtain rfl := q23 _ rfl
 exact NX.ret [0, 3440, 3441, 3560] a0 (by kernel_rfl)
 refine CD.skip ?_
 obtain rfl := sm h
 exact NX.inl (by kernel_rfl)
 refine CD.seq (CD.seq ?_)
 rcases bd_some h with ⟨v41, g42, h⟩
 refine rg [(1, hC (iA v41.1) [bx (k74.a v41.2)] [0] [])] [(81, bA (v41.1 == 0))] [(0, bx (k74.a v41.2))] (a1 (c38 g42) a0) (br h (fun g43 h => ?_) (fun g43 h => ?_))
 rcases bd_some h with ⟨v48, g49, h⟩
 refine NX.fz k60 3061 61 (.node [.cell, .cell, .cell]) v19.2.1 (NX.fz k53 3060 54 (.node [.cell, .cell, .cell]) v19.1 (rg [(2, hC (.agg [k23.a v48.1, .own 1 v48.2.1.length]) [bx (k74.a v48.2.2), k60.r 61 (.node [.cell, .cell, .cell]) v48.2.1] [0] [3680])] [] [(1011, bx (.agg [k23.a v48.1, .own 3680 v48.2.1.length])), (3680, k60.r 61 (.node [.cell, .cell, .cell]) v48.2.1), (0, bx (k74.a v48.2.2))] (a1 (k_len' k53 v19.1) (a1 (k_len' k60 v19.2.1) (a1 (c63 g49) a0))) (CD.seq (rg [(0, hD [1007]), (2, hD [1011]), (3, hD [1002]), (5, hD [1004])] [(3, k39.a v13.1)] [(1004, bx (.agg [k23.a v48.1, .own 3680 v48.2.1.length])), (1002, bx (.agg [.own 2660 v7.1.length, .own 2661 v7.2.1.length]))] a0 (CD.ret ?_)))))
 obtain rfl := sm h
 exact NX.ret [0, 2660, 2661, 3680] a0 (by kernel_rfl)
 refine CD.skip (CD.seq (rg [(0, hD [1007]), (2, hD [1011]), (3, hD [1002]), (5, hD [1004])] [(3, k39.a v13.1)] [(1004, bx (.agg [.own 3060 v19.1.length, .own 3061 v19.2.1.length])), (1002, bx (.agg [.own 2660 v7.1.length, .own 2661 v7.2.1.length]))] a0 (CD.ret ?_)))
 obtain rfl := sm h
 exact NX.ret [0, 2660, 2661, 3061] (a1 (k_len' k53 v19.1) a0) (by kernel_rfl)

theorem c36d {x0 : T74} {r : (List T53) × (List T60) × (List T128) × (List T53) × (List T60) × T74} (h : f36 x0 = some r) :
 FnD cx 36 [.ref 0 []] [bx (k74.a x0)] (.tup [k25.a (⟨r.1, r.2.1⟩ : T25), k39.a r.2.2.1, k25.a (⟨r.2.2.2.1, r.2.2.2.2.1⟩ : T25)]) [bx (k74.a r.2.2.2.2.2)] :=
 FnD.data (xs := [.agg [.own 1 r.1.length, .own 2 r.2.1.length], k39.a r.2.2.1, .agg [k23.a r.2.2.2.1, .own 3 r.2.2.2.2.1.length]]) (ys := [k25.a (⟨r.1, r.2.1⟩ : T25), k39.a r.2.2.1, k25.a (⟨r.2.2.2.1, r.2.2.2.2.1⟩ : T25)]) (p := (True ∧ True)) (q := (((r.1.length = (k53.m r.1).length) ∧ ((r.2.1.length = (k60.m r.2.1).length) ∧ True)) ∧ (True ∧ ((True ∧ ((r.2.2.2.2.1.length = (k60.m r.2.2.2.2.1).length) ∧ True)) ∧ True)))) (c36 h) [0] (by kernel_rfl) (by kernel_rfl) a0 (by kernel_rfl) (a1 (k_len' k53 r.1) (a1 (k_len' k60 r.2.1) (a1 (k_len' k60 r.2.2.2.2.1) a0)))


-- f65 spec.l3List
def f65 (x0 : (List Bool)) : Option ((List Int)) :=
 jn (
 iter (fun (v13 : (List Int) × Int) =>
 if (decide (v13.2 < (ln x0))) = true then
 bd (ix x0 v13.2) fun v17 =>
 if v17 = true then
 bd (ap 8 v13.1 ([v13.2] : List Int)) fun v20 =>
 some (.inl (v20, ad v13.2 1))
 else
 some (.inl (v13.1, ad v13.2 1))
 else
 some (.inr (.inl v13.1))) (([] : List Int), 0)) fun (v1 : (List Int)) =>
 some v1
theorem c65 {x0 : (List Bool)} {r : (List Int)} (h : f65 x0 = some r) :
 FnD cx 65 [k62.a x0] [] (.own 0 r.length) [k3.r 3 .cell r] := by
 unfold f65 at h
 refine fnD_intro (fn := Tryz.f65) (by kernel_rfl) rfl (by kernel_rfl) (by kernel_rfl) fun E => ?_
 refine CD.seq (rg [] [] [] a0 (CD.seq (rg [(0, hO)] [(3, .own 1005 (([] : List Int).length))] [(1005, k3.r 3 .cell ([] : List Int))] a0 (CD.join (fun (v1 : (List Int)) => ⟨[(3, .own 1005 v1.length)], [(1005, k3.r 3 .cell v1)]⟩) h (fun u2 h q3 => ?_) (fun v1 h => ?_)))))
 refine CD.seq (rg [] [(4, iA 0)] [] a0 (CD.block (CD.loopK (fun (v13 : (List Int) × Int) => ⟨[(0, k62.a x0), (3, .own 1005 v13.1.length), (4, iA v13.2)], [(1005, k3.r 3 .cell v13.1)]⟩) h (by kernel_rfl) (fun v13 u14 h q15 => ?_))))
 refine CD.seq (CD.seq (rg [(2, hV (iA (ln x0)))] [(9, bA (decide (v13.2 < (ln x0))))] [] (a1 (o_ln k4 x0) a0) (br h (fun g16 h => ?_) (fun g16 h => ?_))))
 refine CD.skip (CD.seq (CD.block (CD.seq ?_)))
 rcases bd_some h with ⟨v17, g18, h⟩
 refine rg [(2, hE (.bool v17))] [(15, bA v17)] [] (a1 (o_ix k4 g18) a0) (br h (fun g19 h => ?_) (fun g19 h => ?_))
 rcases bd_some h with ⟨v20, g21, h⟩
 refine rg [(3, hW (.own 1005 v20.length) [(1005, k3.r 3 .cell v20)])] [(3, .own 1005 v20.length)] [(1005, k3.r 3 .cell v20)] (a1 (o_ap k3 1005 3 .cell g21 trivial) a0) (NX.blN (rg [] [(4, iA (ad v13.2 1))] [] a0 ?_))
 obtain rfl := sm h
 exact NX.inl (by kernel_rfl)
 refine CD.skip (NX.blN (rg [] [(4, iA (ad v13.2 1))] [] a0 ?_))
 obtain rfl := sm h
 exact NX.inl (by kernel_rfl)
 refine CD.exit ?_
 obtain rfl := sm h
 obtain rfl := q15 _ rfl
 exact NX.th (NX.lq (NX.brk (NX.inl (by kernel_rfl))))
 refine CD.seq (rg [] [(2, .own 1005 v1.length)] [] a0 (CD.ret ?_))
 obtain rfl := sm h
 exact NX.ret [1005] a0 (by kernel_rfl)

theorem c65d {x0 : (List Bool)} {r : (List Int)} (h : f65 x0 = some r) :
 FnD cx 65 [k62.a x0] [] (k27.a r) [] :=
 FnD.data (xs := [.own 0 r.length]) (ys := [k27.a r]) (p := True) (q := ((r.length = (k3.m r).length) ∧ True)) (c65 h) [] (by kernel_rfl) (by kernel_rfl) a0 (by kernel_rfl) (a1 (k_len' k3 r) a0)


-- f66b spec.l8Changed
def f66bo (r66b : (List T128) → (List Bool) → Option ((List Bool))) (x0 : (List T128)) (x1 : (List Bool)) : Option ((List Bool)) :=
 jn (
 iter (fun (v40 : (List Bool) × Int) =>
 if (decide (v40.2 < (ln x0))) = true then
 jn (
 jn (
 bd (ix x0 v40.2) fun v50 =>
 jn (
 if (v50.f0 == 1) = true then
 some (.inl (v50.f0 == 1))
 else
 if (v50.f0 == 2) = true then
 some (.inl (v50.f0 == 2))
 else
 some (.inl (v50.f0 == 4))) fun (v52 : Bool) =>
 if v52 = true then
 bd (ix x0 v40.2) fun v58 =>
 bd (ix v40.1 v58.f1) fun v60 =>
 bd (st v40.1 v58.f1 true) fun v62 =>
 some (.inl v62)
 else
 some (.inl v40.1)) fun (v47 : (List Bool)) =>
 bd (ix x0 v40.2) fun v64 =>
 bd (r66b v64.f5 v47) fun v66 =>
 bd (lq v47.length v66) fun u68 =>
 bd (ix x0 v40.2) fun v70 =>
 bd (r66b v70.f6 v66) fun v72 =>
 bd (lq v66.length v72) fun u74 =>
 some (.inl v72)) fun (v44 : (List Bool)) =>
 some (.inl (v44, ad v40.2 1))
 else
 some (.inr (.inl v40.1))) (x1, 0)) fun (v1 : (List Bool)) =>
 some v1
def f66bn : Nat → (List T128) → (List Bool) → Option ((List Bool))
| 0 => fun _ _ => none
| k + 1 => f66bo (f66bn k)
def f66b (x0 : (List T128)) (x1 : (List Bool)) : Option ((List Bool)) := f66bn LF x0 x1
theorem c66bo {r66b : (List T128) → (List Bool) → Option ((List Bool))} (i66b : ∀ {x0 : (List T128)} {x1 : (List Bool)} {r : (List Bool)}, r66b x0 x1 = some r → FnD cx 66 [.own 0 x1.length, k39.a x0] [k4.r 4 .cell x1] (.own 0 r.length) [k4.r 4 .cell r]) {x0 : (List T128)} {x1 : (List Bool)} {r : (List Bool)} (h : f66bo r66b x0 x1 = some r) :
 FnD cx 66 [.own 0 x1.length, k39.a x0] [k4.r 4 .cell x1] (.own 0 r.length) [k4.r 4 .cell r] := by
 unfold f66bo at h
 refine fnD_intro (fn := Tryz.f66) (by kernel_rfl) rfl (by kernel_rfl) (by kernel_rfl) fun E => ?_
 refine CD.seq (rg [] [] [] a0 (CD.join (fun (v1 : (List Bool)) => ⟨[(0, .own 0 v1.length)], [(0, k4.r 4 .cell v1)]⟩) h (fun u2 h q3 => ?_) (fun v1 h => ?_)))
 refine CD.seq (rg [] [(5, iA 0)] [] a0 (CD.block (CD.loopK (fun (v40 : (List Bool) × Int) => ⟨[(0, .own 0 v40.1.length), (1, k39.a x0), (5, iA v40.2)], [(0, k4.r 4 .cell v40.1)]⟩) h (by kernel_rfl) (fun v40 u41 h q42 => ?_))))
 refine CD.seq (CD.seq (rg [(2, hV (iA (ln x0)))] [(9, bA (decide (v40.2 < (ln x0))))] [] (a1 (o_ln k128 x0) a0) (br h (fun g43 h => ?_) (fun g43 h => ?_))))
 refine CD.skip (CD.join (fun (v44 : (List Bool)) => ⟨[(0, .own 0 v44.length), (1, k39.a x0), (5, iA v40.2)], [(0, k4.r 4 .cell v44)]⟩) h (fun u45 h q46 => ?_) (fun v44 h => ?_))
 refine CD.block (CD.join (fun (v47 : (List Bool)) => ⟨[(0, .own 0 v47.length), (1, k39.a x0), (5, iA v40.2)], [(0, k4.r 4 .cell v47)]⟩) h (fun u48 h q49 => ?_) (fun v47 h => ?_))
 refine CD.seq ?_
 rcases bd_some h with ⟨v50, g51, h⟩
 refine rg [(2, hE (k128.x v50))] [(16, iA v50.f0)] [] (a1 (o_ix k128 g51) a0) (CD.block (CD.join (fun (v52 : Bool) => ⟨[(0, .own 0 v40.1.length), (1, k39.a x0), (5, iA v40.2), (17, bA v52)], [(0, k4.r 4 .cell v40.1)]⟩) h (fun u53 h q54 => ?_) (fun v52 h => ?_)))
 refine CD.seq (rg [] [(17, bA (v50.f0 == 1))] [] a0 (br h (fun g55 h => ?_) (fun g55 h => ?_)))
 refine CD.skip ?_
 obtain rfl := sm h
 exact NX.inl (by kernel_rfl)
 refine CD.seq (rg [] [(17, bA (v50.f0 == 2))] [] a0 (br h (fun g56 h => ?_) (fun g56 h => ?_)))
 refine CD.skip ?_
 obtain rfl := sm h
 exact NX.inl (by kernel_rfl)
 refine rg [] [(17, bA (v50.f0 == 4))] [] a0 ?_
 obtain rfl := sm h
 exact NX.inl (by kernel_rfl)
 refine br h (fun g57 h => ?_) (fun g57 h => ?_)
 rcases bd_some h with ⟨v58, g59, h⟩
 rcases bd_some h with ⟨v60, g61, h⟩
 rcases bd_some h with ⟨v62, g63, h⟩
 refine rg [(3, hE (k128.x v58)), (7, hF (.bool v60) [(0, k4.r 4 .cell v62)])] [] [(0, k4.r 4 .cell v62)] (a1 (o_ix k128 g59) (a1 (o_ixr k4 g61) (a1 (o_st k4 (y' := true) 0 4 .cell g61 g63 (k_len' k4 v40.1)) a0))) ?_
 rw [st_len g63]
 obtain rfl := sm h
 exact NX.blN (NX.inl (by kernel_rfl))
 refine CD.skip ?_
 obtain rfl := sm h
 exact NX.blN (NX.inl (by kernel_rfl))
 rcases bd_some h with ⟨v64, g65, h⟩
 rcases bd_some h with ⟨v66, g67, h⟩
 rcases bd_some h with ⟨u68, g69, h⟩
 rcases bd_some h with ⟨v70, g71, h⟩
 rcases bd_some h with ⟨v72, g73, h⟩
 rcases bd_some h with ⟨u74, g75, h⟩
 refine rg [(3, hE (k128.x v64)), (6, (hC (.own 0 v66.length) [k4.r 4 .cell v66] [0] []).g [0]), (9, hE (k128.x v70)), (12, (hC (.own 0 v72.length) [k4.r 4 .cell v72] [0] []).g [0])] [(0, .own 0 v72.length)] [(0, k4.r 4 .cell v72)] (a1 (o_ix k128 g65) (a1 (i66b g67) (a1 (o_ix k128 g71) (a1 (i66b g73) a0)))) ?_
 obtain rfl := sm h
 exact NX.blN (NX.inl (by kernel_rfl))
 refine rg [] [(5, iA (ad v40.2 1))] [] a0 ?_
 obtain rfl := sm h
 exact NX.inl (by kernel_rfl)
 refine CD.exit ?_
 obtain rfl := sm h
 obtain rfl := q42 _ rfl
 exact NX.th (NX.lq (NX.brk (NX.inl (by kernel_rfl))))
 refine CD.seq (rg [] [(4, .own 0 v1.length)] [] a0 (CD.ret ?_))
 obtain rfl := sm h
 exact NX.ret [0] a0 (by kernel_rfl)

theorem c66bn : ∀ (k0 : Nat), ∀ {x0 : (List T128)} {x1 : (List Bool)} {r : (List Bool)}, f66bn k0 x0 x1 = some r → FnD cx 66 [.own 0 x1.length, k39.a x0] [k4.r 4 .cell x1] (.own 0 r.length) [k4.r 4 .cell r]
| 0 => fun h => by cases h
| k0 + 1 => fun h => c66bo (c66bn k0) h
theorem c66b {x0 : (List T128)} {x1 : (List Bool)} {r : (List Bool)} (h : f66b x0 x1 = some r) :
 FnD cx 66 [.own 0 x1.length, k39.a x0] [k4.r 4 .cell x1] (.own 0 r.length) [k4.r 4 .cell r] := c66bn LF h

-- f37 spec.ChangedTerms
def f37 (x0 : (List T128)) : Option ((List Int)) :=
 bd (f64 x0) fun v1 =>
 if (!v1) = true then
 some ([] : List Int)
 else
 bd (mk 1 (false : Bool) 9 9) fun v4 =>
 bd (f66b x0 v4) fun v6 =>
 bd (lq v4.length v6) fun u8 =>
 bd (f65 v6) fun v10 =>
 some v10
theorem c37 {x0 : (List T128)} {r : (List Int)} (h : f37 x0 = some r) :
 FnD cx 37 [k39.a x0] [] (k27.a r) [] := by
 unfold f37 at h
 refine fnD_intro (fn := Tryz.f37) (by kernel_rfl) rfl (by kernel_rfl) (by kernel_rfl) fun E => ?_
 refine CD.seq (rg [] [] [] a0 (CD.seq (CD.seq ?_)))
 rcases bd_some h with ⟨v1, g2, h⟩
 refine rg [(1, hC (bA v1) [] [] [])] [(5, bA (!v1))] [] (a1 (c64 g2) a0) (br h (fun g3 h => ?_) (fun g3 h => ?_))
 refine CD.seq (rg [] [(2, k27.a ([] : List Int))] [] a0 (CD.ret ?_))
 obtain rfl := sm h
 exact NX.ret [] a0 (by kernel_rfl)
 refine CD.skip (CD.seq ?_)
 rcases bd_some h with ⟨v4, g5, h⟩
 rcases bd_some h with ⟨v6, g7, h⟩
 rcases bd_some h with ⟨u8, g9, h⟩
 rcases bd_some h with ⟨v10, g11, h⟩
 refine rg [(0, hW (.own 1007 v4.length) [(1007, k4.r 4 .cell v4)]), (2, hC (.own 0 v6.length) [k4.r 4 .cell v6] [1007] []), (3, hC (.own 0 v10.length) [k3.r 3 .cell v10] [] [2200])] [(2, .own 2200 v10.length)] [(2200, k3.r 3 .cell v10), (1007, k4.r 4 .cell v6)] (a1 (o_mk k4 1007 4 .cell g5 trivial) (a1 (c66b g7) (a1 (k_len' k4 v6) (a1 (c65 g11) (a1 (show AV.plain (.own 0 v10.length) = true ∧ allPlain [k3.r 3 .cell v10] = true from ⟨rfl, (plR k3 (fun _ => rfl) pl0)⟩) a0))))) (CD.ret ?_)
 obtain rfl := sm h
 exact NX.ret [] (a1 (k_len' k3 v10) a0) (by kernel_rfl)


-- f10 spec.l12Draw
def f10 (x0 : T74) : Option ((List T128) × (List T53) × (List T60) × (List T53) × (List T60) × (List Int) × T74) :=
 bd (f36 x0) fun v1 =>
 bd (f37 v1.2.2.1) fun v3 =>
 bd (f38 8 v1.2.2.2.2.2) fun v5 =>
 if (v5.1 == 0) = true then
 some (v1.2.2.1, v1.1, v1.2.1, v1.2.2.2.1, v1.2.2.2.2.1, ([1, 2, 3, 4] : List Int), v5.2)
 else
 if (v5.1 == 1) = true then
 some (v1.2.2.1, v1.1, v1.2.1, v1.2.2.2.1, v1.2.2.2.2.1, [], v5.2)
 else
 some (v1.2.2.1, v1.1, v1.2.1, v1.2.2.2.1, v1.2.2.2.2.1, v3, v5.2)
theorem c10 {x0 : T74} {r : (List T128) × (List T53) × (List T60) × (List T53) × (List T60) × (List Int) × T74} (h : f10 x0 = some r) :
 FnD cx 10 [.ref 0 []] [bx (k74.a x0)] (.tup [k39.a r.1, .agg [.agg [.own 1 r.2.1.length, .own 2 r.2.2.1.length], .agg [k23.a r.2.2.2.1, .own 3 r.2.2.2.2.1.length], k27.a r.2.2.2.2.2.1]]) [bx (k74.a r.2.2.2.2.2.2), k53.r 54 (.node [.cell, .cell, .cell]) r.2.1, k60.r 61 (.node [.cell, .cell, .cell]) r.2.2.1, k60.r 61 (.node [.cell, .cell, .cell]) r.2.2.2.2.1] := by
 unfold f10 at h
 refine fnD_intro (fn := Tryz.f10) (by kernel_rfl) rfl (by kernel_rfl) (by kernel_rfl) fun E => ?_
 refine CD.seq (rg [] [(3, .ref 1003 [])] [(1003, bx (.agg [.agg [.nils (.node [.cell, .cell, .cell]), .nils (.node [.cell, .cell, .cell])], .agg [.nils (.node [.cell, .cell, .cell]), .nils (.node [.cell, .cell, .cell])], .nils .cell]))] a0 (CD.seq ?_))
 rcases bd_some h with ⟨v1, g2, h⟩
 refine rg [(1, hC (.tup [.agg [.own 1 v1.1.length, .own 2 v1.2.1.length], k39.a v1.2.2.1, .agg [k23.a v1.2.2.2.1, .own 3 v1.2.2.2.2.1.length]]) [bx (k74.a v1.2.2.2.2.2), k53.r 54 (.node [.cell, .cell, .cell]) v1.1, k60.r 61 (.node [.cell, .cell, .cell]) v1.2.1, k60.r 61 (.node [.cell, .cell, .cell]) v1.2.2.2.2.1] [0] [2200, 2201, 2202])] [(4, .ref 1004 []), (6, .ref 1006 []), (5, k39.a v1.2.2.1)] [(1006, bx (.agg [k23.a v1.2.2.2.1, .own 2202 v1.2.2.2.2.1.length])), (1004, bx (.agg [.own 2200 v1.1.length, .own 2201 v1.2.1.length])), (2202, k60.r 61 (.node [.cell, .cell, .cell]) v1.2.2.2.2.1), (2201, k60.r 61 (.node [.cell, .cell, .cell]) v1.2.1), (2200, k53.r 54 (.node [.cell, .cell, .cell]) v1.1), (0, bx (k74.a v1.2.2.2.2.2))] (a1 (c36 g2) a0) (CD.seq ?_)
 rcases bd_some h with ⟨v3, g4, h⟩
 refine rg [(0, hD [1004]), (1, hD [1006]), (3, hC (k27.a v3) [] [] []), (6, hD [1007])] [(7, .ref 1007 [])] [(1007, bx (.agg [.agg [.own 2200 v1.1.length, .own 2201 v1.2.1.length], .agg [k23.a v1.2.2.2.1, .own 2202 v1.2.2.2.2.1.length], k27.a v3]))] (a1 (c37 g4) a0) (CD.seq (CD.seq ?_))
 rcases bd_some h with ⟨v5, g6, h⟩
 refine rg [(1, hC (iA v5.1) [bx (k74.a v5.2)] [0] [])] [(20, iA v5.1)] [(0, bx (k74.a v5.2))] (a1 (c38 g6) a0) (CD.block (CD.seq (rg [] [(21, bA (v5.1 == 0))] [] a0 (br h (fun g7 h => ?_) (fun g7 h => ?_)))))
 refine rg [] [] [(1007, bx (.agg [.agg [.own 2200 v1.1.length, .own 2201 v1.2.1.length], .agg [k23.a v1.2.2.2.1, .own 2202 v1.2.2.2.2.1.length], k27.a ([1, 2, 3, 4] : List Int)]))] a0 (NX.blN (CD.seq (rg [(1, hD [1007]), (3, hD [1003])] [(2, k39.a v1.2.2.1)] [(1003, bx (.agg [.agg [.own 2200 v1.1.length, .own 2201 v1.2.1.length], .agg [k23.a v1.2.2.2.1, .own 2202 v1.2.2.2.2.1.length], k27.a ([1, 2, 3, 4] : List Int)]))] a0 (CD.ret ?_))))
 obtain rfl := sm h
 exact NX.ret [0, 2200, 2201, 2202] a0 (by kernel_rfl)
 refine CD.seq (rg [] [(25, bA (v5.1 == 1))] [] a0 (br h (fun g8 h => ?_) (fun g8 h => ?_)))
 refine rg [] [] [(1007, bx (.agg [.agg [.own 2200 v1.1.length, .own 2201 v1.2.1.length], .agg [k23.a v1.2.2.2.1, .own 2202 v1.2.2.2.2.1.length], .nils .cell]))] a0 (NX.blN (CD.seq (rg [(1, hD [1007]), (3, hD [1003])] [(2, k39.a v1.2.2.1)] [(1003, bx (.agg [.agg [.own 2200 v1.1.length, .own 2201 v1.2.1.length], .agg [k23.a v1.2.2.2.1, .own 2202 v1.2.2.2.2.1.length], .nils .cell]))] a0 (CD.ret ?_))))
 obtain rfl := sm h
 exact NX.ret [0, 2200, 2201, 2202] a0 (by kernel_rfl)
 refine CD.skip (NX.blN (CD.seq (rg [(1, hD [1007]), (3, hD [1003])] [(2, k39.a v1.2.2.1)] [(1003, bx (.agg [.agg [.own 2200 v1.1.length, .own 2201 v1.2.1.length], .agg [k23.a v1.2.2.2.1, .own 2202 v1.2.2.2.2.1.length], k27.a v3]))] a0 (CD.ret ?_))))
 obtain rfl := sm h
 exact NX.ret [0, 2200, 2201, 2202] a0 (by kernel_rfl)

theorem c10d {x0 : T74} {r : (List T128) × (List T53) × (List T60) × (List T53) × (List T60) × (List Int) × T74} (h : f10 x0 = some r) :
 FnD cx 10 [.ref 0 []] [bx (k74.a x0)] (.tup [k39.a r.1, k28.a (⟨(⟨r.2.1, r.2.2.1⟩ : T25), (⟨r.2.2.2.1, r.2.2.2.2.1⟩ : T25), r.2.2.2.2.2.1⟩ : T28)]) [bx (k74.a r.2.2.2.2.2.2)] :=
 FnD.data (xs := [k39.a r.1, .agg [.agg [.own 1 r.2.1.length, .own 2 r.2.2.1.length], .agg [k23.a r.2.2.2.1, .own 3 r.2.2.2.2.1.length], k27.a r.2.2.2.2.2.1]]) (ys := [k39.a r.1, k28.a (⟨(⟨r.2.1, r.2.2.1⟩ : T25), (⟨r.2.2.2.1, r.2.2.2.2.1⟩ : T25), r.2.2.2.2.2.1⟩ : T28)]) (p := (True ∧ True)) (q := (True ∧ ((((r.2.1.length = (k53.m r.2.1).length) ∧ ((r.2.2.1.length = (k60.m r.2.2.1).length) ∧ True)) ∧ ((True ∧ ((r.2.2.2.2.1.length = (k60.m r.2.2.2.2.1).length) ∧ True)) ∧ (True ∧ True))) ∧ True))) (c10 h) [0] (by kernel_rfl) (by kernel_rfl) a0 (by kernel_rfl) (a1 (k_len' k53 r.2.1) (a1 (k_len' k60 r.2.2.1) (a1 (k_len' k60 r.2.2.2.2.1) a0)))


-- f40 spec.l1Mutate
def f40 (x0 : (List T53)) (x1 : T74) : Option ((List T53) × T74) :=
 bd (ap 24 ([] : List T53) x0) fun v1 =>
 jn (
 bd (f38 40 x1) fun v6 =>
 if (v6.1 == 0) = true then
 bd (f41 ([(-1), 9, 9223372036854775807] : List Int) v6.2) fun v9 =>
 bd (ap 24 v1 ([(⟨false, v9.1, 0⟩ : T53)] : List T53)) fun v11 =>
 some (.inl (v11, v9.2))
 else
 if (v6.1 == 1) = true then
 iter (fun (v20 : (List T53)) =>
 if (decide ((ln v20) ≤ 12)) = true then
 bd (ap 24 v20 ([(⟨true, 1, 2⟩ : T53)] : List T53)) fun v24 =>
 some (.inl v24)
 else
 some (.inr (.inl (v20, v6.2)))) v1
 else
 some (.inl (v1, v6.2))) fun (v3 : (List T53) × T74) =>
 some (v3.1, v3.2)
theorem c40 {x0 : (List T53)} {x1 : T74} {r : (List T53) × T74} (h : f40 x0 x1 = some r) :
 FnD cx 40 [.ref 0 [], k23.a x0] [bx (k74.a x1)] (.own 1 r.1.length) [bx (k74.a r.2), k53.r 54 (.node [.cell, .cell, .cell]) r.1] := by
 unfold f40 at h
 refine fnD_intro (fn := Tryz.f40) (by kernel_rfl) rfl (by kernel_rfl) (by kernel_rfl) fun E => ?_
 refine CD.seq (rg [] [] [] a0 (CD.seq ?_))
 rcases bd_some h with ⟨v1, g2, h⟩
 refine rg [(0, hO), (2, hW (.own 1006 v1.length) [(1006, k53.r 54 (.node [.cell, .cell, .cell]) v1)])] [(5, .own 1006 v1.length)] [(1006, k53.r 54 (.node [.cell, .cell, .cell]) v1)] (a1 (o_ap k53 1006 54 (.node [.cell, .cell, .cell]) g2 trivial) a0) (CD.join (fun (v3 : (List T53) × T74) => ⟨[(5, .own 1006 v3.1.length)], [(1006, k53.r 54 (.node [.cell, .cell, .cell]) v3.1), (0, bx (k74.a v3.2))]⟩) h (fun u4 h q5 => ?_) (fun v3 h => ?_))
 refine CD.seq ?_
 rcases bd_some h with ⟨v6, g7, h⟩
 refine rg [(1, hC (iA v6.1) [bx (k74.a v6.2)] [0] [])] [(10, iA v6.1)] [(0, bx (k74.a v6.2))] (a1 (c38 g7) a0) (CD.block (CD.seq (rg [] [(11, bA (v6.1 == 0))] [] a0 (br h (fun g8 h => ?_) (fun g8 h => ?_)))))
 rcases bd_some h with ⟨v9, g10, h⟩
 rcases bd_some h with ⟨v11, g12, h⟩
 refine rg [(3, hC (iA v9.1) [bx (k74.a v9.2)] [0] []), (6, hW (.own 1006 v11.length) [(1006, k53.r 54 (.node [.cell, .cell, .cell]) v11)])] [(5, .own 1006 v11.length)] [(1006, k53.r 54 (.node [.cell, .cell, .cell]) v11), (0, bx (k74.a v9.2))] (a1 (c41 g10) (a1 (o_ap k53 1006 54 (.node [.cell, .cell, .cell]) g12 trivial) a0)) ?_
 obtain rfl := sm h
 exact NX.blN (NX.inl (by kernel_rfl))
 refine CD.seq (rg [] [(20, bA (v6.1 == 1))] [] a0 (br h (fun g13 h => ?_) (fun g13 h => ?_)))
 refine CD.block (CD.loopK (fun (v20 : (List T53)) => ⟨[(5, .own 1006 v20.length)], [(1006, k53.r 54 (.node [.cell, .cell, .cell]) v20), (0, bx (k74.a v6.2))]⟩) h (by kernel_rfl) (fun v20 u21 h q22 => ?_))
 refine CD.seq (CD.seq (rg [] [(24, bA (decide ((ln v20) ≤ 12)))] [] a0 (br h (fun g23 h => ?_) (fun g23 h => ?_))))
 refine CD.skip (CD.block ?_)
 rcases bd_some h with ⟨v24, g25, h⟩
 refine rg [(3, hW (.own 1006 v24.length) [(1006, k53.r 54 (.node [.cell, .cell, .cell]) v24)])] [(5, .own 1006 v24.length)] [(1006, k53.r 54 (.node [.cell, .cell, .cell]) v24)] (a1 (o_ap k53 1006 54 (.node [.cell, .cell, .cell]) g25 trivial) a0) ?_
 obtain rfl := sm h
 exact NX.blN (NX.inl (by kernel_rfl))
 refine CD.exit ?_
 obtain rfl := sm h
 obtain rfl := q22 _ rfl
 exact NX.th (NX.lq (NX.brk (NX.blN (NX.inl (by kernel_rfl)))))
 refine CD.skip ?_
 obtain rfl := sm h
 exact NX.blN (NX.inl (by kernel_rfl))
 refine CD.seq (rg [] [(4, .own 1006 v3.1.length)] [] a0 (CD.ret ?_))
 obtain rfl := sm h
 exact NX.ret [0, 1006] a0 (by kernel_rfl)

theorem c40d {x0 : (List T53)} {x1 : T74} {r : (List T53) × T74} (h : f40 x0 x1 = some r) :
 FnD cx 40 [.ref 0 [], k23.a x0] [bx (k74.a x1)] (k23.a r.1) [bx (k74.a r.2)] :=
 FnD.data (xs := [.own 1 r.1.length]) (ys := [k23.a r.1]) (p := (True ∧ True)) (q := ((r.1.length = (k53.m r.1).length) ∧ True)) (c40 h) [0] (by kernel_rfl) (by kernel_rfl) a0 (by kernel_rfl) (a1 (k_len' k53 r.1) a0)


-- f11 spec.l3Mutate
def f11 (x0 : T25) (x1 : T74) : Option ((List T53) × (List T60) × T74) :=
 bd (f39 x0) fun v1 =>
 jn (
 bd (f38 50 x1) fun v6 =>
 if (v6.1 == 0) = true then
 bd (ap 24 v1.1 ([(⟨false, 9, 0⟩ : T53)] : List T53)) fun v13 =>
 bd (f40 v13 v6.2) fun v15 =>
 some (.inl (v15.2, v15.1, v1.2))
 else
 if (v6.1 == 1) = true then
 bd (f41 ([0, 3, 1] : List Int) v6.2) fun v18 =>
 bd (f41 ([1, 9, (-1)] : List Int) v18.2) fun v20 =>
 bd (ap 24 v1.2 ([(⟨v18.1, v20.1, 2⟩ : T60)] : List T60)) fun v22 =>
 some (.inl (v20.2, v1.1, v22))
 else
 if (v6.1 == 2) = true then
 iter (fun (v31 : (List T60)) =>
 if (decide ((ln v31) ≤ 6)) = true then
 bd (ap 24 v31 ([(⟨2, 1, 1⟩ : T60)] : List T60)) fun v35 =>
 some (.inl v35)
 else
 some (.inr (.inl (v6.2, v1.1, v31)))) v1.2
 else
 some (.inl (v6.2, v1.1, v1.2))) fun (v3 : T74 × (List T53) × (List T60)) =>
 some (v3.2.1, v3.2.2, v3.1)
theorem c11 {x0 : T25} {x1 : T74} {r : (List T53) × (List T60) × T74} (h : f11 x0 x1 = some r) :
 FnD cx 11 [.ref 0 [], k25.a x0] [bx (k74.a x1)] (.agg [.own 1 r.1.length, .own 2 r.2.1.length]) [bx (k74.a r.2.2), k53.r 54 (.node [.cell, .cell, .cell]) r.1, k60.r 61 (.node [.cell, .cell, .cell]) r.2.1] := by
 unfold f11 at h
 refine fnD_intro (fn := Tryz.f11) (by kernel_rfl) rfl (by kernel_rfl) (by kernel_rfl) fun E => ?_
 refine CD.seq (rg [] [(3, .ref 1003 []), (4, .ref 1004 [])] [(1004, bx (.agg [.nils (.node [.cell, .cell, .cell]), .nils (.node [.cell, .cell, .cell])])), (1003, bx (k25.a x0))] a0 (CD.seq ?_))
 rcases bd_some h with ⟨v1, g2, h⟩
 refine rg [(1, hC (.agg [.own 0 v1.1.length, .own 1 v1.2.length]) [k53.r 54 (.node [.cell, .cell, .cell]) v1.1, k60.r 61 (.node [.cell, .cell, .cell]) v1.2] [] [2140, 2141])] [(5, .ref 1005 [])] [(1005, bx (.agg [.own 2140 v1.1.length, .own 2141 v1.2.length])), (2141, k60.r 61 (.node [.cell, .cell, .cell]) v1.2), (2140, k53.r 54 (.node [.cell, .cell, .cell]) v1.1)] (a1 (c39 g2) a0) (CD.join (fun (v3 : T74 × (List T53) × (List T60)) => ⟨[(4, .ref 1004 []), (5, .ref 1005 [])], [(2360, k53.r 54 (.node [.cell, .cell, .cell]) v3.2.1), (2141, k60.r 61 (.node [.cell, .cell, .cell]) v3.2.2), (1004, bx (.agg [.nils (.node [.cell, .cell, .cell]), .nils (.node [.cell, .cell, .cell])])), (1005, bx (.agg [.own 2360 v3.2.1.length, .own 2141 v3.2.2.length])), (0, bx (k74.a v3.1))]⟩) h (fun u4 h q5 => ?_) (fun v3 h => ?_))
 refine CD.seq ?_
 rcases bd_some h with ⟨v6, g7, h⟩
 refine rg [(1, hC (iA v6.1) [bx (k74.a v6.2)] [0] [])] [(9, iA v6.1)] [(0, bx (k74.a v6.2))] (a1 (c38 g7) a0) (CD.block (CD.seq (rg [] [(10, bA (v6.1 == 0))] [] a0 (br h (fun g8 h => ?_) (fun g8 h => ?_)))))
 rcases bd_some h with ⟨v13, g14, h⟩
 rcases bd_some h with ⟨v15, g16, h⟩
 refine rg [(5, ⟨.row, some (k23.a v13, [(2140, k53.z 54 (.node [.cell, .cell, .cell]) v13)]), []⟩), (6, hC (.own 1 v15.1.length) [bx (k74.a v15.2), k53.r 54 (.node [.cell, .cell, .cell]) v15.1] [0] [2360])] [] [(1005, bx (.agg [.own 2360 v15.1.length, .own 2141 v1.2.length])), (2360, k53.r 54 (.node [.cell, .cell, .cell]) v15.1), (0, bx (k74.a v15.2)), (2140, k53.z 54 (.node [.cell, .cell, .cell]) v13)] (a1 (o_apF k53 2140 54 (.node [.cell, .cell, .cell]) g14 trivial) (a1 (c40 g16) a0)) ?_
 obtain rfl := sm h
 exact NX.blN (NX.inl (by kernel_rfl))
 refine CD.seq (rg [] [(20, bA (v6.1 == 1))] [] a0 (br h (fun g17 h => ?_) (fun g17 h => ?_)))
 rcases bd_some h with ⟨v18, g19, h⟩
 rcases bd_some h with ⟨v20, g21, h⟩
 rcases bd_some h with ⟨v22, g23, h⟩
 refine rg [(0, hD [1005]), (1, hD [1005]), (4, (hC (iA v18.1) [bx (k74.a v18.2)] [0] []).g [0]), (7, (hC (iA v20.1) [bx (k74.a v20.2)] [0] []).g [0]), (10, (hW (.own 2141 v22.length) [(2141, k60.r 61 (.node [.cell, .cell, .cell]) v22)]).g [2141]), (11, hD [1005]), (12, hD [1005])] [] [(1005, bx (.agg [.own 2140 v1.1.length, .own 2141 v22.length])), (2141, k60.r 61 (.node [.cell, .cell, .cell]) v22), (0, bx (k74.a v20.2))] (a1 (c41 g19) (a1 (c41 g21) (a1 (o_ap k60 2141 61 (.node [.cell, .cell, .cell]) g23 trivial) a0))) ?_
 obtain rfl := sm h
 exact NX.blN (NX.ren 2360 2140 (by kernel_rfl) (NX.inl (by kernel_rfl)))
 refine CD.seq (rg [] [(34, bA (v6.1 == 2))] [] a0 (br h (fun g24 h => ?_) (fun g24 h => ?_)))
 refine CD.block (CD.loopK (fun (v31 : (List T60)) => ⟨[(4, .ref 1004 []), (5, .ref 1005 [])], [(2140, k53.r 54 (.node [.cell, .cell, .cell]) v1.1), (2141, k60.r 61 (.node [.cell, .cell, .cell]) v31), (0, bx (k74.a v6.2)), (1004, bx (.agg [.nils (.node [.cell, .cell, .cell]), .nils (.node [.cell, .cell, .cell])])), (1005, bx (.agg [.own 2140 v1.1.length, .own 2141 v31.length]))]⟩) h (by kernel_rfl) (fun v31 u32 h q33 => ?_))
 refine CD.seq (CD.seq (rg [] [(39, bA (decide ((ln v31) ≤ 6)))] [] a0 (br h (fun g34 h => ?_) (fun g34 h => ?_))))
 refine CD.skip (CD.block ?_)
 rcases bd_some h with ⟨v35, g36, h⟩
 refine rg [(4, hW (.own 2141 v35.length) [(2141, k60.r 61 (.node [.cell, .cell, .cell]) v35)])] [] [(1005, bx (.agg [.own 2140 v1.1.length, .own 2141 v35.length])), (2141, k60.r 61 (.node [.cell, .cell, .cell]) v35)] (a1 (o_ap k60 2141 61 (.node [.cell, .cell, .cell]) g36 trivial) a0) ?_
 obtain rfl := sm h
 exact NX.blN (NX.inl (by kernel_rfl))
 refine CD.exit ?_
 obtain rfl := sm h
 obtain rfl := q33 _ rfl
 exact NX.th (NX.lq (NX.brk (NX.blN (NX.ren 2360 2140 (by kernel_rfl) (NX.inl (by kernel_rfl))))))
 refine CD.skip ?_
 obtain rfl := sm h
 exact NX.blN (NX.ren 2360 2140 (by kernel_rfl) (NX.inl (by kernel_rfl)))
 refine CD.seq (rg [] [] [(1004, bx (.agg [.own 2360 v3.2.1.length, .own 2141 v3.2.2.length]))] a0 (CD.ret ?_))
 obtain rfl := sm h
 exact NX.ret [0, 2360, 2141] a0 (by kernel_rfl)

theorem c11d {x0 : T25} {x1 : T74} {r : (List T53) × (List T60) × T74} (h : f11 x0 x1 = some r) :
 FnD cx 11 [.ref 0 [], k25.a x0] [bx (k74.a x1)] (k25.a (⟨r.1, r.2.1⟩ : T25)) [bx (k74.a r.2.2)] :=
 FnD.data (xs := [.agg [.own 1 r.1.length, .own 2 r.2.1.length]]) (ys := [k25.a (⟨r.1, r.2.1⟩ : T25)]) (p := (True ∧ True)) (q := (((r.1.length = (k53.m r.1).length) ∧ ((r.2.1.length = (k60.m r.2.1).length) ∧ True)) ∧ True)) (c11 h) [0] (by kernel_rfl) (by kernel_rfl) a0 (by kernel_rfl) (a1 (k_len' k53 r.1) (a1 (k_len' k60 r.2.1) a0))

end Go.Sep.Y
