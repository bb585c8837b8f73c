/- Part of the proof: mirrors of the functions of this seat, and that the functions give what their mirrors give. -/
import Derived.Test.YtkchimbalpiilaaGreatSepX
import Derived.Test.YtkchimbalpiilaaGreatProg
import Derived.KernelRfl
set_option linter.all false
set_option linter.deprecated false
open Go Go.Sep Go.Proofs
set_option maxRecDepth 100000
namespace Go.Sep.Y
noncomputable def T : Tab := [
  (2, ⟨.int .i64, .cell, .d (.int .i64 0), 8⟩),
  (3, ⟨.int .i64, .cell, .d (.int .i64 0), 8⟩),
  (4, ⟨.bool, .cell, .d (.bool false), 1⟩),
  (5, ⟨.int .u8, .cell, .d (.int .u8 0), 1⟩),
  (6, ⟨.int .u8, .cell, .d (.int .u8 0), 1⟩),
  (7, ⟨.struct [2, 3, 4, 6], .node [.cell, .cell, .cell, .cell], .d (.agg [.int .i64 0, .int .i64 0, .bool false, .int .u8 0]), 24⟩),
  (8, ⟨.struct [2, 3, 4, 6], .node [.cell, .cell, .cell, .cell], .d (.agg [.int .i64 0, .int .i64 0, .bool false, .int .u8 0]), 24⟩),
  (9, ⟨.str, .cell, .d (.str []), 16⟩),
  (10, ⟨.str, .cell, .d (.str []), 16⟩),
  (11, ⟨.str, .cell, .d (.str []), 16⟩),
  (12, ⟨.int .u64, .cell, .d (.int .u64 0), 8⟩),
  (13, ⟨.struct [9, 12], .node [.cell, .cell], .d (.agg [.str [], .int .u64 0]), 24⟩),
  (14, ⟨.struct [9, 12], .node [.cell, .cell], .d (.agg [.str [], .int .u64 0]), 24⟩),
  (21, ⟨.int .i32, .cell, .d (.int .i32 0), 4⟩),
  (22, ⟨.slice 5, .cell, .nils (.cell), 24⟩),
  (23, ⟨.slice 54, .cell, .nils (.node [.cell, .cell, .cell]), 24⟩),
  (24, ⟨.slice 61, .cell, .nils (.node [.cell, .cell, .cell]), 24⟩),
  (25, ⟨.struct [23, 24], .node [.cell, .cell], .agg [.nils (.node [.cell, .cell, .cell]), .nils (.node [.cell, .cell, .cell])], 48⟩),
  (26, ⟨.struct [23, 24], .node [.cell, .cell], .agg [.nils (.node [.cell, .cell, .cell]), .nils (.node [.cell, .cell, .cell])], 48⟩),
  (27, ⟨.slice 3, .cell, .nils (.cell), 24⟩),
  (28, ⟨.struct [26, 26, 27], .node [.node [.cell, .cell], .node [.cell, .cell], .cell], .agg [.agg [.nils (.node [.cell, .cell, .cell]), .nils (.node [.cell, .cell, .cell])], .agg [.nils (.node [.cell, .cell, .cell]), .nils (.node [.cell, .cell, .cell])], .nils (.cell)], 120⟩),
  (29, ⟨.struct [26, 26, 27], .node [.node [.cell, .cell], .node [.cell, .cell], .cell], .agg [.agg [.nils (.node [.cell, .cell, .cell]), .nils (.node [.cell, .cell, .cell])], .agg [.nils (.node [.cell, .cell, .cell]), .nils (.node [.cell, .cell, .cell])], .nils (.cell)], 120⟩),
  (39, ⟨.slice 129, .cell, .nils (.node [.cell, .cell, .cell, .node [.cell, .cell, .cell], .node [.cell, .cell], .cell, .cell]), 24⟩),
  (48, ⟨.int .u16, .cell, .d (.int .u16 0), 2⟩),
  (49, ⟨.int .u16, .cell, .d (.int .u16 0), 2⟩),
  (53, ⟨.struct [4, 3, 3], .node [.cell, .cell, .cell], .d (.agg [.bool false, .int .i64 0, .int .i64 0]), 24⟩),
  (54, ⟨.struct [4, 3, 3], .node [.cell, .cell, .cell], .d (.agg [.bool false, .int .i64 0, .int .i64 0]), 24⟩),
  (55, ⟨.struct [26, 3, 3], .node [.node [.cell, .cell], .cell, .cell], .agg [.agg [.nils (.node [.cell, .cell, .cell]), .nils (.node [.cell, .cell, .cell])], .d (.int .i64 0), .d (.int .i64 0)], 64⟩),
  (56, ⟨.struct [26, 3, 3], .node [.node [.cell, .cell], .cell, .cell], .agg [.agg [.nils (.node [.cell, .cell, .cell]), .nils (.node [.cell, .cell, .cell])], .d (.int .i64 0), .d (.int .i64 0)], 64⟩),
  (60, ⟨.struct [3, 3, 3], .node [.cell, .cell, .cell], .d (.agg [.int .i64 0, .int .i64 0, .int .i64 0]), 24⟩),
  (61, ⟨.struct [3, 3, 3], .node [.cell, .cell, .cell], .d (.agg [.int .i64 0, .int .i64 0, .int .i64 0]), 24⟩),
  (62, ⟨.slice 4, .cell, .nils (.cell), 24⟩),
  (74, ⟨.struct [22, 3], .node [.cell, .cell], .agg [.nils (.cell), .d (.int .i64 0)], 32⟩),
  (75, ⟨.struct [22, 3], .node [.cell, .cell], .agg [.nils (.cell), .d (.int .i64 0)], 32⟩),
  (89, ⟨.arr 9 3, .arr 9 (.cell), .d (.arr (.cell) 9 [.int .i64 0, .int .i64 0, .int .i64 0, .int .i64 0, .int .i64 0, .int .i64 0, .int .i64 0, .int .i64 0, .int .i64 0]), 72⟩),
  (90, ⟨.arr 9 3, .arr 9 (.cell), .d (.arr (.cell) 9 [.int .i64 0, .int .i64 0, .int .i64 0, .int .i64 0, .int .i64 0, .int .i64 0, .int .i64 0, .int .i64 0, .int .i64 0]), 72⟩),
  (93, ⟨.slice 9, .cell, .nils (.cell), 24⟩),
  (94, ⟨.slice 93, .cell, .nils (.cell), 24⟩),
  (111, ⟨.slice 27, .cell, .nils (.cell), 24⟩),
  (128, ⟨.struct [3, 3, 3, 54, 26, 39, 39], .node [.cell, .cell, .cell, .node [.cell, .cell, .cell], .node [.cell, .cell], .cell, .cell], .agg [.d (.int .i64 0), .d (.int .i64 0), .d (.int .i64 0), .d (.agg [.bool false, .int .i64 0, .int .i64 0]), .agg [.nils (.node [.cell, .cell, .cell]), .nils (.node [.cell, .cell, .cell])], .nils (.node [.cell, .cell, .cell, .node [.cell, .cell, .cell], .node [.cell, .cell], .cell, .cell]), .nils (.node [.cell, .cell, .cell, .node [.cell, .cell, .cell], .node [.cell, .cell], .cell, .cell])], 144⟩),
  (129, ⟨.struct [3, 3, 3, 54, 26, 39, 39], .node [.cell, .cell, .cell, .node [.cell, .cell, .cell], .node [.cell, .cell], .cell, .cell], .agg [.d (.int .i64 0), .d (.int .i64 0), .d (.int .i64 0), .d (.agg [.bool false, .int .i64 0, .int .i64 0]), .agg [.nils (.node [.cell, .cell, .cell]), .nils (.node [.cell, .cell, .cell])], .nils (.node [.cell, .cell, .cell, .node [.cell, .cell, .cell], .node [.cell, .cell], .cell, .cell]), .nils (.node [.cell, .cell, .cell, .node [.cell, .cell, .cell], .node [.cell, .cell], .cell, .cell])], 144⟩),
  (136, ⟨.arr 6 4, .arr 6 (.cell), .d (.arr (.cell) 6 [.bool false, .bool false, .bool false, .bool false, .bool false, .bool false]), 6⟩),
  (137, ⟨.struct [24, 136, 3], .node [.cell, .arr 6 (.cell), .cell], .agg [.nils (.node [.cell, .cell, .cell]), .d (.arr (.cell) 6 [.bool false, .bool false, .bool false, .bool false, .bool false, .bool false]), .d (.int .i64 0)], 40⟩),
  (138, ⟨.struct [24, 136, 3], .node [.cell, .arr 6 (.cell), .cell], .agg [.nils (.node [.cell, .cell, .cell]), .d (.arr (.cell) 6 [.bool false, .bool false, .bool false, .bool false, .bool false, .bool false]), .d (.int .i64 0)], 40⟩),
  (176, ⟨.int .u32, .cell, .d (.int .u32 0), 4⟩),
  (177, ⟨.int .u8, .cell, .d (.int .u8 0), 1⟩),
  (178, ⟨.int .u8, .cell, .d (.int .u8 0), 1⟩),
  (181, ⟨.int .i32, .cell, .d (.int .i32 0), 4⟩),
  (182, ⟨.int .i32, .cell, .d (.int .i32 0), 4⟩),
  (189, ⟨.int .u64, .cell, .d (.int .u64 0), 8⟩)]
theorem tokT : tabB Tryz.prog T T = true := by kernel_rfl
def fnsB : Nat → Bool := fun k => Nat.ble 3 k && Nat.ble k 131 && !(memB k [])
theorem fnsAll : allLt (fun k => !(fnsB k) || funB Tryz.prog k) 132 = true := by kernel_rfl
noncomputable def cx : Cx := ⟨Tryz.prog, T, [], fnsB, tok tokT, fun k hk => funB_ok k (by
  have h1 := allLt_at fnsAll k (by
    unfold fnsB at hk
    simp only [Bool.and_eq_true] at hk
    have := Nat.le_of_ble_eq_true hk.1.2
    omega)
  rw [hk] at h1
  simpa using h1)⟩
def k3 : Ec Int := ⟨fun n => .int .i64 n, List.map fun n => .int .i64 n, fun _ => rfl⟩
def k4 : Ec Bool := ⟨.bool, List.map .bool, fun _ => rfl⟩
def k5 : Ec Int := ⟨fun n => .int .u8 n, List.map fun n => .int .u8 n, fun _ => rfl⟩
def k9 : Ec (List UInt8) := ⟨.str, List.map .str, fun _ => rfl⟩
def k22 : Ec (List Int) := ⟨fun xs => .sl .cell (k5.m xs), List.map fun xs => .sl .cell (k5.m xs), fun _ => rfl⟩
structure T53 where
  f0 : Bool
  f1 : Int
  f2 : Int
def e53 (x : T53) : D := .agg [.bool x.f0, .int .i64 x.f1, .int .i64 x.f2]
def k53 : Ec T53 := ⟨e53, List.map e53, fun _ => rfl⟩
def k23 : Ec (List T53) := ⟨fun xs => .sl (.node [.cell, .cell, .cell]) (k53.m xs), List.map fun xs => .sl (.node [.cell, .cell, .cell]) (k53.m xs), fun _ => rfl⟩
structure T60 where
  f0 : Int
  f1 : Int
  f2 : Int
def e60 (x : T60) : D := .agg [.int .i64 x.f0, .int .i64 x.f1, .int .i64 x.f2]
def k60 : Ec T60 := ⟨e60, List.map e60, fun _ => rfl⟩
def k24 : Ec (List T60) := ⟨fun xs => .sl (.node [.cell, .cell, .cell]) (k60.m xs), List.map fun xs => .sl (.node [.cell, .cell, .cell]) (k60.m xs), fun _ => rfl⟩
structure T25 where
  f0 : (List T53)
  f1 : (List T60)
def e25 (x : T25) : D := .agg [.sl (.node [.cell, .cell, .cell]) (k53.m x.f0), .sl (.node [.cell, .cell, .cell]) (k60.m x.f1)]
def k25 : Ec T25 := ⟨e25, List.map e25, fun _ => rfl⟩
def k27 : Ec (List Int) := ⟨fun xs => .sl .cell (k3.m xs), List.map fun xs => .sl .cell (k3.m xs), fun _ => rfl⟩
structure T28 where
  f0 : T25
  f1 : T25
  f2 : (List Int)
def e28 (x : T28) : D := .agg [k25.x x.f0, k25.x x.f1, .sl .cell (k3.m x.f2)]
def k28 : Ec T28 := ⟨e28, List.map e28, fun _ => rfl⟩
structure T128 where
  f0 : Int
  f1 : Int
  f2 : Int
  f3 : T53
  f4 : T25
  f5 : (List T128)
  f6 : (List T128)
mutual
def e128 : T128 → D
  | ⟨a0, a1, a2, a3, a4, a5, a6⟩ => .agg [.int .i64 a0, .int .i64 a1, .int .i64 a2, k53.x a3, k25.x a4, .sl (.node [.cell, .cell, .cell, .node [.cell, .cell, .cell], .node [.cell, .cell], .cell, .cell]) (m128 a5), .sl (.node [.cell, .cell, .cell, .node [.cell, .cell, .cell], .node [.cell, .cell], .cell, .cell]) (m128 a6)]
def m128 : List T128 → List D
  | [] => []
  | x :: xs => e128 x :: m128 xs
end
def x128 (v : T128) : D := .agg [.int .i64 v.f0, .int .i64 v.f1, .int .i64 v.f2, k53.x v.f3, k25.x v.f4, .sl (.node [.cell, .cell, .cell, .node [.cell, .cell, .cell], .node [.cell, .cell], .cell, .cell]) (m128 v.f5), .sl (.node [.cell, .cell, .cell, .node [.cell, .cell, .cell], .node [.cell, .cell], .cell, .cell]) (m128 v.f6)]
theorem x128_eq (v : T128) : e128 v = x128 v := by cases v; simp only [e128, x128]
theorem m128_eq : ∀ xs, m128 xs = xs.map x128
  | [] => by simp only [m128, List.map_nil]
  | x :: xs => by simp only [m128, List.map_cons, m128_eq xs, x128_eq]
def k128 : Ec T128 := ⟨x128, m128, m128_eq⟩
def k39 : Ec (List T128) := ⟨fun xs => .sl (.node [.cell, .cell, .cell, .node [.cell, .cell, .cell], .node [.cell, .cell], .cell, .cell]) (k128.m xs), List.map fun xs => .sl (.node [.cell, .cell, .cell, .node [.cell, .cell, .cell], .node [.cell, .cell], .cell, .cell]) (k128.m xs), fun _ => rfl⟩
def k48 : Ec Int := ⟨fun n => .int .u16 n, List.map fun n => .int .u16 n, fun _ => rfl⟩
structure T55 where
  f0 : T25
  f1 : Int
  f2 : Int
def e55 (x : T55) : D := .agg [k25.x x.f0, .int .i64 x.f1, .int .i64 x.f2]
def k55 : Ec T55 := ⟨e55, List.map e55, fun _ => rfl⟩
def k62 : Ec (List Bool) := ⟨fun xs => .sl .cell (k4.m xs), List.map fun xs => .sl .cell (k4.m xs), fun _ => rfl⟩
structure T74 where
  f0 : (List Int)
  f1 : Int
def e74 (x : T74) : D := .agg [.sl .cell (k5.m x.f0), .int .i64 x.f1]
def k74 : Ec T74 := ⟨e74, List.map e74, fun _ => rfl⟩
def k89 : Ec (List Int) := ⟨fun xs => .arr .cell 9 (k3.m xs), List.map fun xs => .arr .cell 9 (k3.m xs), fun _ => rfl⟩
def k93 : Ec (List (List UInt8)) := ⟨fun xs => .sl .cell (k9.m xs), List.map fun xs => .sl .cell (k9.m xs), fun _ => rfl⟩
def k94 : Ec (List (List (List UInt8))) := ⟨fun xs => .sl .cell (k93.m xs), List.map fun xs => .sl .cell (k93.m xs), fun _ => rfl⟩
def k111 : Ec (List (List Int)) := ⟨fun xs => .sl .cell (k27.m xs), List.map fun xs => .sl .cell (k27.m xs), fun _ => rfl⟩
def k136 : Ec (List Bool) := ⟨fun xs => .arr .cell 6 (k4.m xs), List.map fun xs => .arr .cell 6 (k4.m xs), fun _ => rfl⟩
structure T137 where
  f0 : (List T60)
  f1 : (List Bool)
  f2 : Int
def e137 (x : T137) : D := .agg [.sl (.node [.cell, .cell, .cell]) (k60.m x.f0), k136.x x.f1, .int .i64 x.f2]
def k137 : Ec T137 := ⟨e137, List.map e137, fun _ => rfl⟩

theorem mix : cx.P.follows .mixedOrders = true := by kernel_rfl
theorem rg {E : En} {N : Nat} {Q : Exit → Act → World → Prop} {s : S} {id : Nat} {ops : Array Oper} {dr : Bool} (hs : List (Nat × RH)) (dt : List (Nat × AV)) (od : List (Nat × Ob)) {ps : List Prop} (hp : All ps)
  (k : NX cx E N ⟨dt ++ s.t, od ++ s.o⟩ (Q .normal)) (h : regC cx N dr ops.toList hs s (keysOf dt) = some (dt, od, ps) := by kernel_rfl) : CD cx E N (.region id ops dr) s Q := CD.reg mix hs dt od hp h k
theorem br {E : En} {N : Nat} {Q : Exit → Act → World → Prop} {R : Type} {s : S} {c : Operand} {x y : Code} {b : Bool} {m1 m2 : Option R} {r : R} (h : (if b = true then m1 else m2) = some r)
  (kt : b = true → m1 = some r → CD cx E N x s Q) (kf : b = false → m2 = some r → CD cx E N y s Q) (hc : evA cx (at' s.t) 0 c = some (.d (.bool b)) := by kernel_rfl) : CD cx E N (.cond c x y) s Q := CD.br h kt kf hc
theorem eqs54 : eqOk cx.P 54 = true := by kernel_rfl
theorem eqs61 : eqOk cx.P 61 = true := by kernel_rfl
end Go.Sep.Y
