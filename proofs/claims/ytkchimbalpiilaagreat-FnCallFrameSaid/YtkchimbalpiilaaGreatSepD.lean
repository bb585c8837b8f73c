/- Operations that only compute or read: what they give, and that the machine gives it. -/
import Derived.Test.YtkchimbalpiilaaGreatSepC
import Derived.Laws.Sem
import Derived.Laws.Strings
import Derived.Laws.Small
set_option linter.all false
set_option linter.deprecated false
namespace Go.Sep
open Go

section
variable {G : Gh} {I : Nat → Prop} {w : World} {v : Value}
theorem val_int {k : IntKind} {n : Int} : AV.val G I w (.d (.int k n)) v ↔ v = .int k n := by
  simp only [AV.val, AV.cells, D.cells, AV.sh, D.sh]
  exact ⟨fun ⟨cs, h, e⟩ => by subst h; exact e, fun h => ⟨_, rfl, h⟩⟩
theorem val_bool {b : Bool} : AV.val G I w (.d (.bool b)) v ↔ v = .bool b := by
  simp only [AV.val, AV.cells, D.cells, AV.sh, D.sh]
  exact ⟨fun ⟨cs, h, e⟩ => by subst h; exact e, fun h => ⟨_, rfl, h⟩⟩
theorem val_str {s : List UInt8} : AV.val G I w (.d (.str s)) v ↔ v = .string ⟨s.toArray⟩ := by
  simp only [AV.val, AV.cells, D.cells, AV.sh, D.sh]
  exact ⟨fun ⟨cs, h, e⟩ => by subst h; exact e, fun h => ⟨_, rfl, h⟩⟩
theorem val_nils {sh : Sh} : AV.val G I w (.nils sh) v ↔ v = .slice none 0 0 := by
  simp only [AV.val, AV.cells, AV.sh]
  exact ⟨fun ⟨cs, h, e⟩ => by subst h; exact e, fun h => ⟨_, rfl, h⟩⟩
theorem val_ref {o : Nat} {p : List Nat} : AV.val G I w (.ref o p) v ↔ ∃ b k, Value.block? (G.val o) = some b ∧ G.off o p = some k ∧ v = .pointer (some ⟨b, k, none⟩) := by
  simp only [AV.val, AV.cells, AV.sh]
  exact ⟨fun ⟨cs, ⟨b, k, h1, h2, h⟩, e⟩ => ⟨b, k, h1, h2, by subst h; exact e⟩, fun ⟨b, k, h1, h2, h⟩ => ⟨_, ⟨b, k, h1, h2, rfl⟩, h⟩⟩
theorem val_cp {x : D} : AV.val G I w (.cp x) v ↔ ∃ b k vs, I b ∧ v = .pointer (some ⟨b, k, none⟩) ∧ (∀ (j : Nat) v, vs[j]? = some v → w.cell? ⟨b, k + j, none⟩ = some v) ∧ D.cells I w x vs := by
  simp only [AV.val, AV.cells, AV.sh]
  exact ⟨fun ⟨cs, ⟨b, k, vs, h1, h, h2⟩, e⟩ => ⟨b, k, vs, h1, by subst h; exact e, h2⟩, fun ⟨b, k, vs, h1, h, h2⟩ => ⟨_, ⟨b, k, vs, h1, rfl, h2⟩, h⟩⟩
theorem val_own {o k : Nat} : AV.val G I w (.own o k) v ↔ ∃ a c n, v = .slice a k c ∧ G.len o = some n ∧ k ≤ n ∧ (k = n → .slice a k c = G.val o) := by
  simp only [AV.val, AV.cells, AV.sh]
  exact ⟨fun ⟨cs, ⟨a, c, n, h, h1⟩, e⟩ => ⟨a, c, n, by subst h; exact e, h1⟩, fun ⟨a, c, n, h, h1⟩ => ⟨_, ⟨a, c, n, rfl, h1⟩, h⟩⟩
theorem val_rref {o k i : Nat} {p : List Nat} : AV.val G I w (.rref o k i p) v ↔ ∃ a n, v = .pointer (some a) ∧ G.len o = some n ∧ k ≤ n ∧ (k = n → ∃ b off, Value.block? (G.val o) = some b ∧ G.roff o i p = some off ∧ a = ⟨b, off, none⟩) := by
  simp only [AV.val, AV.cells, AV.sh]
  exact ⟨fun ⟨cs, ⟨a, n, h, h1⟩, e⟩ => ⟨a, n, by subst h; exact e, h1⟩, fun ⟨a, n, h, h1⟩ => ⟨_, ⟨a, n, rfl, h1⟩, h⟩⟩
theorem val_yd {o : Nat} : AV.val G I w (.yd o) v ↔ ∃ b k, Value.block? (G.val o) = some b ∧ G.off o [] = some k ∧ v = .func (.yield b) #[] #[] := by
  simp only [AV.val, AV.cells, AV.sh, vOf]
  exact ⟨fun ⟨cs, ⟨b, k, h1, h2, h⟩, e⟩ => by subst h e; exact ⟨b, k, h1, h2, rfl⟩, fun ⟨b, k, h1, h2, h⟩ => ⟨_, ⟨b, k, h1, h2, rfl⟩, by subst h; rfl⟩⟩
theorem val_fn {f : FuncId} {xs : List AV} : AV.val G I w (.fn f xs) v ↔ ∃ vs, v = .func (.func f) #[] vs.toArray ∧ AV.vals G I w xs vs := by
  simp only [AV.val, AV.cells, AV.sh]
  exact ⟨fun ⟨cs, ⟨vs, h, h1⟩, e⟩ => ⟨vs, by subst h; exact e, h1⟩, fun ⟨vs, h, h1⟩ => ⟨_, ⟨vs, rfl, h1⟩, h⟩⟩
theorem val_sl {sh : Sh} {xs : List D} : AV.val G I w (.d (.sl sh xs)) v ↔ ∃ a cap, v = .slice a xs.length cap ∧ xs.length ≤ cap ∧ xs.length ≤ lim ∧
      (xs = [] ∨ ∃ b off vs, a = some ⟨b, off, none⟩ ∧ I b ∧ (∀ (j : Nat) v, vs[j]? = some v → w.cell? ⟨b, off + j, none⟩ = some v) ∧ D.cellsL I w sh xs vs) := by
  simp only [AV.val, AV.cells, D.cells, AV.sh, D.sh]
  exact ⟨fun ⟨cs, ⟨a, cap, h, h1⟩, e⟩ => ⟨a, cap, by subst h; exact e, h1⟩, fun ⟨a, cap, h, h1⟩ => ⟨_, ⟨a, cap, rfl, h1⟩, h⟩⟩
theorem val_tup {xs : List AV} : AV.val G I w (.tup xs) v ↔ ∃ vs, v = .tuple vs.toArray ∧ AV.vals G I w xs vs := by
  simp only [AV.val]

/-- One value: no tuple, not unknown. -/
def AV.one : AV → Bool
  | .any => false
  | .tup _ => false
  | _ => true

theorem val_of_cells {x : AV} {cs : List Value} (h : AV.cells G I w x cs) : AV.val G I w x (vOf x.sh cs) := by
  cases x <;> simp only [AV.val] <;> first | exact ⟨cs, h, rfl⟩ | (simp only [AV.cells] at h)
theorem one_of_cells {x : AV} {cs : List Value} (h : AV.cells G I w x cs) : x.one = true := by
  cases x <;> first | rfl | (simp only [AV.cells] at h)
theorem cells_of_val {x : AV} (hx : x.one = true) (h : AV.val G I w x v) : ∃ cs, AV.cells G I w x cs ∧ v = vOf x.sh cs := by
  cases x <;> simp only [AV.val] at h <;> first | exact h | cases hx
theorem vOf_cells {x : AV} {cs : List Value} (h : AV.cells G I w x cs) : (vOf x.sh cs).cells.toList = cs := by
  have hl := AV.cells_length x cs h
  have h1 := AV.cells_one x cs h
  cases hs : x.sh with
  | cell =>
    rw [hs] at hl
    simp only [Sh.size] at hl
    match cs, hl with
    | [u], _ =>
      have := h1 u (by simp)
      cases u <;> simp_all [vOf, Value.cells, Value.oneCell']
  | node l => simp [vOf, Value.cells]
  | arr n s => simp [vOf, Value.cells]
end

/-- Whether values of this shape lie in several cells as one aggregate. -/
def Sh.isAgg : Sh → Bool
  | .cell => false
  | _ => true

theorem run_isAgg {C : Cx} {t : Nat} {e : TE} (h : lk C.T t = some e) (w : World) : (isAgg t).run C.P w = .ok e.sh.isAgg w := by
  have hu := (C.ok t e h).und
  unfold isAgg
  cases htd : e.td <;> rw [htd] at hu
  case int => rw [Sem.run_bind, run_underlying hu.1]; simp [hu.2, Sh.isAgg]
  case bool => rw [Sem.run_bind, run_underlying hu.1]; simp [hu.2, Sh.isAgg]
  case str => rw [Sem.run_bind, run_underlying hu.1]; simp [hu.2, Sh.isAgg]
  case ptr => obtain ⟨⟨u, h1⟩, h2⟩ := hu; rw [Sem.run_bind, run_underlying h1]; simp [h2, Sh.isAgg]
  case func => obtain ⟨⟨a, b, c, h1⟩, h2⟩ := hu; rw [Sem.run_bind, run_underlying h1]; simp [h2, Sh.isAgg]
  case slice => rw [Sem.run_bind, run_underlying hu.1]; simp [hu.2.1, Sh.isAgg]
  case struct => obtain ⟨fields, h1, _, l, h2, _⟩ := hu; rw [Sem.run_bind, run_underlying h1]; simp [h2, Sh.isAgg]
  case arr => obtain ⟨h1, ee, _, h2, _⟩ := hu; rw [Sem.run_bind, run_underlying h1]; simp [h2, Sh.isAgg]

theorem run_sizeOf' {C : Cx} {t : Nat} {e : TE} (h : lk C.T t = some e) (w : World) : (sizeOf t).run C.P w = .ok e.sh.size w := by
  obtain ⟨i, z, h1, h2, _⟩ := (C.ok t e h).info
  simp [sizeOf, typeInfo, h1, h2]

theorem add_none (b k j : Nat) : (⟨b, k, none⟩ : Addr).add j = ⟨b, k + j, none⟩ := by unfold Addr.add; split <;> simp_all

/-- A variable is loaded: its cells are known. -/
theorem run_loadVar' {C : Cx} {t : Nat} {e : TE} (h : lk C.T t = some e) {w : World} {b k : Nat} {cs : List Value} (hl : cs.length = e.sh.size)
    (hc : ∀ (j : Nat) v, cs[j]? = some v → w.cell? ⟨b, k + j, none⟩ = some v) : (loadVar t ⟨b, k, none⟩).run C.P w = .ok (vOf e.sh cs) w := by
  unfold loadVar
  rw [Sem.run_bind, run_isAgg h, Result.andThen_ok]
  have hcs : (loadCells ⟨b, k, none⟩ cs.length).run C.P w = .ok cs.toArray w :=
    run_loadCells_list (P := C.P) w ⟨b, k, none⟩ cs (fun j v hj => by rw [add_none]; exact hc j v hj)
  cases hs : e.sh with
  | cell =>
    rw [hs] at hl
    simp only [Sh.size] at hl
    match cs, hl with
    | [u], _ =>
      have := hc 0 u rfl
      simp only [Nat.add_zero] at this
      simp [Sh.isAgg, vOf, this]
  | node l =>
    rw [hs] at hl
    simp only [Sh.isAgg, if_true, Sem.run_bind, run_sizeOf' h, Result.andThen_ok, hs, ← hl, hcs, Sem.run_pure, vOf]
  | arr n s =>
    rw [hs] at hl
    simp only [Sh.isAgg, if_true, Sem.run_bind, run_sizeOf' h, Result.andThen_ok, hs, ← hl, hcs, Sem.run_pure, vOf]

theorem run_part {C : Cx} {t : Nat} {e : TE} (h : lk C.T t = some e) (w : World) {pre c post : List Value} (hl : c.length = e.sh.size) :
    (part t (pre ++ c ++ post).toArray pre.length).run C.P w = .ok (vOf e.sh c) w := by
  unfold part
  rw [Sem.run_bind, run_isAgg h, Result.andThen_ok]
  cases hs : e.sh with
  | cell =>
    rw [hs] at hl
    simp only [Sh.size] at hl
    match c, hl with
    | [u], _ => simp [Sh.isAgg, vOf]
  | node l =>
    rw [hs] at hl
    simp only [Sh.isAgg, if_true, Sem.run_bind, run_sizeOf' h, Result.andThen_ok, hs, ← hl, Sem.run_pure, vOf]
    congr 2
    apply Array.ext'
    simp [← Array.toList_inj]
  | arr n s =>
    rw [hs] at hl
    simp only [Sh.isAgg, if_true, Sem.run_bind, run_sizeOf' h, Result.andThen_ok, hs, ← hl, Sem.run_pure, vOf]
    congr 2
    apply Array.ext'
    simp [← Array.toList_inj]

/-! Operators. -/
def kindEq (a b : IntKind) : Bool := match a, b with
  | .i8, .i8 => true
  | .i16, .i16 => true
  | .i32, .i32 => true
  | .i64, .i64 => true
  | .u8, .u8 => true
  | .u16, .u16 => true
  | .u32, .u32 => true
  | .u64, .u64 => true
  | _, _ => false
theorem kindEq_eq {a b : IntKind} (h : kindEq a b = true) : a = b := by cases a <;> cases b <;> first | rfl | cases h

def intD (op : BinOp) (k : IntKind) (a b : Int) : Option (D × Prop) :=
  match op with
  | .add => some (.int k (k.wrap (a + b)), True)
  | .sub => some (.int k (k.wrap (a - b)), True)
  | .mul => some (.int k (k.wrap (a * b)), True)
  | .quo => some (.int k (k.wrap (a.tdiv b)), b ≠ 0)
  | .rem => some (.int k (a.tmod b), b ≠ 0)
  | .eql => some (.bool (a == b), True)
  | .neq => some (.bool (a != b), True)
  | .lss => some (.bool (decide (a < b)), True)
  | .leq => some (.bool (decide (a ≤ b)), True)
  | .gtr => some (.bool (decide (a > b)), True)
  | .geq => some (.bool (decide (a ≥ b)), True)
  | .and => some (.int k (k.wrap (BitVec.ofInt k.bits a &&& BitVec.ofInt k.bits b).toNat), True)
  | .or => some (.int k (k.wrap (BitVec.ofInt k.bits a ||| BitVec.ofInt k.bits b).toNat), True)
  | .xor => some (.int k (k.wrap (BitVec.ofInt k.bits a ^^^ BitVec.ofInt k.bits b).toNat), True)
  | .andNot => some (.int k (k.wrap (BitVec.ofInt k.bits a &&& ~~~BitVec.ofInt k.bits b).toNat), True)
  | _ => none
def shiftD (op : BinOp) (k : IntKind) (a b : Int) : Option (D × Prop) :=
  match op with
  | .shl => some (.int k (k.wrap (a * 2 ^ (min b.toNat k.bits))), 0 ≤ b)
  | .shr => some (.int k (a.fdiv (2 ^ (min b.toNat k.bits))), 0 ≤ b)
  | _ => none
def boolD (op : BinOp) (a b : Bool) : Option (D × Prop) :=
  match op with
  | .eql => some (.bool (a == b), True)
  | .neq => some (.bool (!(a == b)), True)
  | _ => none
def strD (op : BinOp) (a b : List UInt8) : Option (D × Prop) :=
  match op with
  | .add => some (.str (a ++ b), a.length + b.length ≤ lim)
  | .eql => some (.bool (a == b), True)
  | .neq => some (.bool (!(a == b)), True)
  | _ => none

/-- What an operator gives, and what is to be shown for it. -/
def binD (op : BinOp) (x y : D) : Option (D × Prop) :=
  match x, y with
  | .int k a, .int l b => match shiftD op k a b with
    | some r => some r
    | none => if kindEq k l then intD op k a b else none
  | .bool a, .bool b => boolD op a b
  | .str a, .str b => strD op a b
  | _, _ => none

theorem toList_mk (s : List UInt8) : (⟨s.toArray⟩ : ByteArray).toList = s := by
  have h : ∀ (b : ByteArray), b.toList = b.data.toList := by
    intro b
    exact ByteArray.toList_eq b
  rw [h]

section
variable {C : Cx} {w : World} {op : BinOp} {t : TypeId} {d : D} {p : Prop} {G : Gh} {I : Nat → Prop} {ox oy : Operand}
theorem run_shiftD {k l : IntKind} {a b : Int} (h : shiftD op k a b = some (d, p)) (hp : p) :
    ∃ r, (do eqGuard op t ox oy (.int k a) (.int l b); binOp op t (.int k a) (.int l b) : Sem Value).run C.P w = .ok r w ∧ AV.val G I w (.d d) r := by
  cases op <;> simp only [shiftD] at h <;> first | (cases h; done) | skip
  all_goals
    cases h
    have : ¬ b < 0 := by omega
    refine ⟨_, ?_, val_int.2 rfl⟩
    simp [eqGuard, binOp, Op.shift, this]

theorem run_intD {k : IntKind} {a b : Int} (h : intD op k a b = some (d, p)) (hp : p) :
    ∃ r, (do eqGuard op t ox oy (.int k a) (.int k b); binOp op t (.int k a) (.int k b) : Sem Value).run C.P w = .ok r w ∧ AV.val G I w (.d d) r := by
  cases op <;> simp only [intD] at h <;> first | (cases h; done) | skip
  all_goals
    cases h
    first
      | (refine ⟨_, ?_, val_int.2 rfl⟩; simp [eqGuard, binOp, Op.intArith]; done)
      | (refine ⟨_, ?_, val_bool.2 rfl⟩; simp [eqGuard, binOp, Op.intCmp]; done)
      | (refine ⟨_, ?_, val_int.2 rfl⟩; simp [eqGuard, binOp, Op.intBits]; done)
      | (refine ⟨_, ?_, val_int.2 rfl⟩; simp [eqGuard, binOp, Op.intDiv, hp]; done)

theorem run_boolD {e : TE} (ht : lk C.T t = some e) (hb : e.td = .bool) {a b : Bool} (h : boolD op a b = some (d, p)) :
    ∃ r, (do eqGuard op t ox oy (.bool a) (.bool b); binOp op t (.bool a) (.bool b) : Sem Value).run C.P w = .ok r w ∧ AV.val G I w (.d d) r := by
  have hund := (C.ok t e ht).und
  rw [hb] at hund
  have hg : (eqGuard op t ox oy (.bool a) (.bool b)).run C.P w = .ok () w := by
    cases op <;> simp [eqGuard]
  rw [Sem.run_bind, hg, Result.andThen_ok]
  cases op <;> simp only [boolD] at h <;> first | (cases h; done) | skip
  case eql => cases h; exact ⟨_, run_eql_bool w t a b hund.1, val_bool.2 rfl⟩
  case neq => cases h; exact ⟨_, run_neq_bool w t a b hund.1, val_bool.2 rfl⟩

theorem run_strD {a b : List UInt8} (h : strD op a b = some (d, p)) (hp : p) :
    ∃ r, (do eqGuard op t ox oy (.string ⟨a.toArray⟩) (.string ⟨b.toArray⟩); binOp op t (.string ⟨a.toArray⟩) (.string ⟨b.toArray⟩) : Sem Value).run C.P w = .ok r w ∧ AV.val G I w (.d d) r := by
  have hg : (eqGuard op t ox oy (.string ⟨a.toArray⟩) (.string ⟨b.toArray⟩)).run C.P w = .ok () w := by
    cases op <;> simp [eqGuard]
  rw [Sem.run_bind, hg, Result.andThen_ok]
  have hc : ∀ op', binOp op' t (.string ⟨a.toArray⟩) (.string ⟨b.toArray⟩) = Op.stringOp op' ⟨a.toArray⟩ ⟨b.toArray⟩ := by intro op'; cases op' <;> rfl
  rw [hc]
  cases op <;> simp only [strD] at h <;> first | (cases h; done) | skip
  case add =>
    cases h
    have hsz : ¬ (((⟨a.toArray⟩ : ByteArray).size + (⟨b.toArray⟩ : ByteArray).size : Nat) : Int) > IntKind.i64.max := by
      have h1 : (⟨a.toArray⟩ : ByteArray).size = a.length := by simp [ByteArray.size]
      have h2 : (⟨b.toArray⟩ : ByteArray).size = b.length := by simp [ByteArray.size]
      have h3 : IntKind.i64.max = 9223372036854775807 := by decide
      rw [h1, h2, h3]
      unfold lim at hp
      omega
    refine ⟨.string (⟨a.toArray⟩ ++ ⟨b.toArray⟩), by simp only [Op.stringOp, hsz, if_false, Sem.run_pure], val_str.2 ?_⟩
    congr 1
  all_goals
    cases h
    refine ⟨_, ?_, val_bool.2 rfl⟩
    simp only [Op.stringOp, Sem.run_pure, toList_mk]

theorem run_binD {e : TE} {x y : D} {u v : Value}
    (ht : lk C.T t = some e) (hb : e.td = .bool ∨ ∀ a, x ≠ .bool a)
    (h : binD op x y = some (d, p)) (hp : p) (hu : AV.val G I w (.d x) u) (hv : AV.val G I w (.d y) v) :
    ∃ r, (do eqGuard op t ox oy u v; binOp op t u v : Sem Value).run C.P w = .ok r w ∧ AV.val G I w (.d d) r := by
  cases x <;> cases y <;> simp only [binD] at h <;> first | (cases h; done) | skip
  case int.int k a l b =>
    rw [val_int] at hu hv
    subst hu hv
    cases hs : shiftD op k a b with
    | some r => rw [hs] at h; cases h; exact run_shiftD hs hp
    | none =>
      rw [hs] at h
      simp only at h
      split at h
      · rename_i hk
        cases kindEq_eq hk
        exact run_intD h hp
      · cases h
  case bool.bool a b =>
    rw [val_bool] at hu hv
    subst hu hv
    exact run_boolD ht (hb.resolve_right (fun hh => hh a rfl)) h
  case str.str a b =>
    rw [val_str] at hu hv
    subst hu hv
    exact run_strD h hp
end
end Go.Sep
