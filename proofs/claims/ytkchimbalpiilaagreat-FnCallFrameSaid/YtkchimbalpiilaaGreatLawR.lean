/- FnCallFrame answers true for every input, and its argument reads as it did: for all arguments. -/
import Derived.Test.YtkchimbalpiilaaGreatLawQ
import Derived.Test.YtkchimbalpiilaaGreatRows
import Derived.WalkKit
import Derived.ProofKit
import Derived.OpenShut
import Derived.ShutString
import Derived.ChangeOld
import Derived.Below
import Derived.SizedLaws
import Derived.ChangeSlices
set_option linter.all false
set_option linter.deprecated false
namespace Go.Proofs.YtkchimbalpiilaaGreat.Walk
open Go.Sep Go.RowKit
set_option maxRecDepth 100000

theorem bytes_cells {ok : Nat → Prop} {w : World} {x : Addr} (hs : x.spot = none) : ∀ (zs : List Int) (off : Nat), (∀ i, i < zs.length → w.cell? ⟨x.block, off + i, none⟩ = some (.int .u8 (zs.getD i 0))) →
    ∃ vs : List Value, (∀ (j : Nat) v, vs[j]? = some v → w.cell? ⟨x.block, off + j, none⟩ = some v) ∧ D.cellsL ok w .cell (Go.Sep.Y.k5.m zs) vs
  | [], off, _ => ⟨[], fun j v h => by simp at h, by rw [Go.Sep.Y.k5.hm]; simp [D.cellsL]⟩
  | z :: zs, off, h => by
    obtain ⟨vs, h1, h2⟩ := bytes_cells (ok := ok) hs zs (off + 1) (fun i hi => by
      have := h (i + 1) (by simp; omega)
      rw [show off + 1 + i = off + (i + 1) by omega]
      simpa using this)
    refine ⟨.int .u8 z :: vs, fun j v hj => ?_, ?_⟩
    · cases j with
      | zero =>
        simp at hj
        subst hj
        simpa using h 0 (by simp)
      | succ j =>
        rw [show off + (j + 1) = off + 1 + j by omega]
        exact h1 j v (by simpa using hj)
    · rw [Go.Sep.Y.k5.hm] at h2 ⊢
      simp only [List.map_cons, D.cellsL]
      refine ⟨[.int .u8 z], vs, rfl, rfl, ?_, h2⟩
      show D.cells ok w (.int .u8 z) [.int .u8 z]
      simp only [D.cells]

theorem walk (a : Option Addr) (len cap : Nat) (zs : List Int) (w : World)
    (h : (a = none ∧ len = 0 ∧ cap = 0 ∧ zs = []) ∨ ∃ x, a = some x ∧ len ≤ cap ∧ cap ≤ maxLen ∧ zs.length = cap ∧ (∀ i, i < zs.length → w.cell? (x.add i) = some (.int .u8 (zs.getD i 0))) ∧ ∀ n ∈ zs, (Lit.int .u8 n).wf = true)
    (y : len * 1 ≤ 140737488351232) : Calls Tryz.prog 3 #[.slice a len cap] w fun e w' => e = .returned (.bool true) ∧ Below w.heap.size w w' := by
  have hl : (zs.take len).length = len := by
    rcases h with ⟨_, rfl, _, rfl⟩ | ⟨x, _, h1, _, h2, _⟩
    · rfl
    · simp; omega
  have hb : ∀ v ∈ zs.take len, 0 ≤ v ∧ v < 256 := fun v hv => by
    rcases h with ⟨_, _, _, rfl⟩ | ⟨x, _, _, _, _, _, hw⟩
    · simp at hv
    · have := hw v (List.mem_of_mem_take hv)
      simp [Lit.wf, IntKind.min, IntKind.max, IntKind.bits, IntKind.signed] at this
      omega
  have c := Go.Sep.Y.c3 (Go.Sep.Y.law hb)
  have hm : Mem Go.Sep.Y.cx (en w (fun b => b < w.heap.size) [] fun _ => undef) (olist []) (fun _ => undef) (fun b => b < w.heap.size) w :=
    ⟨fun i c h => by simp [olist] at h, fun i j ci cj b h => by simp [olist] at h, fun b hb => ⟨hb, fun i c h => by simp [olist] at h⟩, fun b hb => hb, fun b hb => .inl hb, fun i c b h => by simp [olist] at h, Nat.le_refl _, fun _ _ _ => rfl,
      (fun g x h => by cases h), ⟨rfl, rfl, rfl⟩⟩
  have hv : AV.vals (gh (olist []) fun _ => undef) (fun b => b < w.heap.size) w [Go.Sep.Y.k22.a (zs.take len)] [.slice a len cap] := by
    simp only [AV.vals]
    refine ⟨[.slice a len cap], .slice a len cap, [], rfl, ?_, rfl, rfl⟩
    show AV.cells _ _ w (.d (.sl .cell (Go.Sep.Y.k5.m (zs.take len)))) _
    simp only [AV.cells, D.cells]
    have hk : (Go.Sep.Y.k5.m (zs.take len)).length = len := by rw [Go.Sep.Y.k5.hm, List.length_map, hl]
    refine ⟨a, cap, by rw [hk], ?_, by rw [hk]; unfold lim; omega, ?_⟩
    · rw [hk]
      rcases h with ⟨_, rfl, rfl, _⟩ | ⟨x, _, h1, _⟩
      · exact Nat.le_refl _
      · exact h1
    · rcases h with ⟨_, rfl, _, _⟩ | ⟨x, rfl, h1, h2, h3, h4, _⟩
      · left
        exact List.length_eq_zero_iff.mp hk
      · cases len with
        | zero => exact .inl (List.length_eq_zero_iff.mp hk)
        | succ n =>
          have h0 := h4 0 (by omega)
          have hsp : x.spot = none := by
            cases hx : x.spot with
            | none => rfl
            | some s =>
              exfalso
              unfold World.cell? at h0
              have : (x.add 0).spot = some s := by simp [Addr.add, hx]
              rw [this] at h0
              split at h0
              · simp at h0
              · cases h0
          have hblk : x.block < w.heap.size := by
            unfold World.cell? at h0
            have e : (x.add 0).block = x.block := rfl
            rw [e] at h0
            by_cases hlt : x.block < w.heap.size
            · exact hlt
            · rw [Array.getElem?_eq_none (by omega)] at h0
              cases h0
          have hx : x = ⟨x.block, x.off, none⟩ := by cases x; simp_all
          obtain ⟨vs, g1, g2⟩ := bytes_cells (ok := fun b => b < w.heap.size) (w := w) hsp (zs.take (n + 1)) x.off (fun i hi => by
            have hi' : i < n + 1 := by rw [List.length_take] at hi; omega
            have := h4 i (by omega)
            have hadd : x.add i = ⟨x.block, x.off + i, none⟩ := (congrArg (fun z : Addr => z.add i) hx).trans (add_none x.block x.off i)
            rw [hadd] at this
            rw [this]
            simp [List.getD_eq_getElem?_getD, List.getElem?_take, hi'])
          exact .inr ⟨x.block, x.off, vs, by rw [← hx], hblk, g1, g2⟩
  refine (c w (fun _ => undef) (fun b => b < w.heap.size) [.slice a len cap] hm hv).mono ?_
  rintro e w' ⟨v, m', I', rfl, hm', hl', hr⟩
  have hv' : v = .bool true := by
    obtain ⟨cs, h1, rfl⟩ := hr
    change AV.cells _ _ _ (.d (.bool true)) cs at h1
    rw [AV.cells_d] at h1
    simp only [D.cells] at h1
    subst h1
    rfl
  subst hv'
  exact ⟨rfl, hm'.sys.1, hm'.sys.2.2, hm'.sys.2.1, hm'.size, fun k hk => hm'.frame k hk (by
    rintro ⟨i, c, h, _⟩
    cases h)⟩
end Go.Proofs.YtkchimbalpiilaaGreat.Walk

namespace Go.Proofs.YtkchimbalpiilaaGreat.fnCallFrame
open Go.ChangeShapes Go.WideShapes Go.ChangeAt Go.RowKit
open Go.ChangeMaps (open_string shut_string)

/-- A row's slice of whole numbers is no longer than its weight allows. -/
theorem sizedRow {H : Type} {enc : TypeId × Value → H} {P : Program} {W : World} {base : Nat} {spare : Nat → Bool} {held : Bool} {t e : TypeId} {k : IntKind} {a : Option Addr} {len cap : Nat} {d : DataW H} {ps : List MemPlace} {ts : List TypeId} {ds : List (DataW H)} {j : Nat}
    (hsz : (DataW.weightsEach P ts ds).all (· ≤ reachBytes) = true) (ht : ts[j]? = some t) (hd : ds[j]? = some d) (hu : P.underlying t = some (.slice e)) (he : P.underlying e = some (.int k)) (hc : P.cellsOf e = 1) {B : Nat} (hB : P.bytesOf e = B)
    (h : DataW.Trod enc P W base spare held t (.slice a len cap) d ps) : len * B ≤ 140737488351232 := by
  obtain ⟨fuel, hf⟩ := h
  rcases open_ints hu he hc hf with ⟨hcs, _⟩ | ⟨x, l, c, zs, hcs, _, hl, _, hz, hx, _, _⟩
  · simp [Value.cells] at hcs
    obtain ⟨rfl, rfl, rfl⟩ := hcs
    simp
  · simp [Value.cells] at hcs
    obtain ⟨rfl, rfl, rfl⟩ := hcs
    obtain ⟨hx, _⟩ := Prod.mk.inj hx
    subst hx
    have z := sized_slice hsz ht hd hu
    rw [hB] at z
    have hl2 : len ≤ zs.length := by
      rw [hz]
      split
      · exact hl
      · exact Nat.le_refl _
    have h1 : (lits (H := H) k (zs.take len)).length + (lits (H := H) k (zs.drop len)).length = zs.length := by
      simp [lits]
      omega
    rw [h1] at z
    exact Nat.le_trans (Nat.mul_le_mul_right _ hl2) z

theorem own : ownKnob Tryz.prog.godebug = none := by kernel_rfl
theorem laidOut : laidOutB Tryz.prog = true := by kernel_rfl
def IsRow (k : IntKind) (w : World) (a : Option Addr) (len cap : Nat) (zs : List Int) : Prop :=
  (a = none ∧ len = 0 ∧ cap = 0 ∧ zs = []) ∨
  ∃ x, a = some x ∧ len ≤ cap ∧ cap ≤ maxLen ∧ zs.length = cap ∧ (∀ i, i < zs.length → w.cell? (x.add i) = some (.int k (zs.getD i 0))) ∧ ∀ n ∈ zs, (Lit.int k n).wf = true

set_option maxRecDepth 100000 in
theorem lifted (os : Os) (started : os.Started) (H : Type) (enc : TypeId × Value → H) :
    ReturnsInHanded {} Tryz.checked os 3 .any (Rows.fnCallFrameSpec.pre6 enc Tryz.prog Tryz.f3 Rows.fnCallFrameRow.domain false) (Rows.fnCallFrameSpec.post enc Tryz.prog Tryz.f3 false true false false) := by
  refine returnsInHanded_of_change_sized (C := Tryz.checked) own started (by kernel_rfl) Tryz.func3
    (ChangeSpec.witness6 (enc := enc) (C := Tryz.checked) false ⟨#[], #[.slice none 0 0], []⟩ 8 (by kernel_rfl) (by kernel_rfl) (by kernel_rfl) (by kernel_rfl)) ?_
  intro W base args ds gs before hval0 hW hcnd hsz0 _
  have hsz : (DataW.weightsEach Tryz.prog (Tryz.f3.params.toList ++ Rows.fnCallFrameSpec.plain.varTypes Tryz.prog) (ds ++ gs)).all (· ≤ reachBytes) = true := hsz0
  have hval : ∀ (j : Nat) t v, Tryz.f3.params[j]? = some t → args[j]? = some v → Value.okWide Tryz.prog W .any base t v := hval0
  have hW' := hW
  obtain ⟨p, q, hA0, hV, rfl, hfz, hnd⟩ := hW
  have hA : DataW.TrodAll enc Tryz.prog W 0 (fun _ => true) true Tryz.f3.params.toList args.toList ds p := hA0
  rw [Tryz.params3] at hA hval hsz
  obtain ⟨v0, vs0, d0, ds0, p0, q0, hargs, rfl, rfl, h0, r0⟩ := trodAll_cons hA
  obtain ⟨rfl, rfl, rfl⟩ := trodAll_nil r0
  obtain rfl : args = #[v0] := by cases args; simp_all
  obtain ⟨rfl, rfl⟩ := trodVars_none hV
  obtain ⟨a0, len0, cap0, rfl⟩ := okWide_slice Tryz.underlying22 (hval 0 22 v0 rfl rfl)
  have k0 := h0
  have lt0 : ∀ x ∈ p0, x.block < W.heap.size := by obtain ⟨m, hm⟩ := k0; exact DataW.trod_lt m _ _ _ hm
  obtain ⟨z0, w0⟩ : ∃ zs, IsRow .u8 W a0 len0 cap0 zs := by
    obtain ⟨fuel, hf⟩ := h0
    rcases open_ints Tryz.underlying22 Tryz.underlying5 (by kernel_rfl) hf with ⟨hcs, _⟩ | ⟨x, l, c, zs, hcs, _, hl, hm, hz, _, hcell, hwz⟩
    · simp [Value.cells] at hcs
      obtain ⟨rfl, rfl, rfl⟩ := hcs
      exact ⟨[], .inl ⟨rfl, rfl, rfl, rfl⟩⟩
    · simp [Value.cells] at hcs
      obtain ⟨rfl, rfl, rfl⟩ := hcs
      exact ⟨zs, .inr ⟨_, rfl, hl, hm, by simpa using hz, hcell, hwz⟩⟩
  have y0 : len0 * 1 ≤ 140737488351232 := sizedRow hsz (j := 0) (t := 22) rfl rfl Tryz.underlying22 Tryz.underlying5 (by kernel_rfl) (by kernel_rfl) h0
  clear hA0 hval0 hsz0 hsz
  refine (Walk.walk a0 len0 cap0 z0 W w0 y0).mono fun e W' ⟨he, bel⟩ => ?_
  subst he
  exact ⟨_, rfl, _, _, _, [], _, [], hW', trodAll_mk1 (shut_bool Tryz.underlying4 _), (trodAll_cons_mk (Below.trod laidOut (by kernel_rfl) (of_decide_eq_true (by kernel_rfl)) k0 bel lt0) trodAll_mk0), rfl, bel.frame _, fun h => by cases h⟩

theorem over : Rows.fnCallFrameRow.holds Tryz.pinned (OpenSpec.ofChange Rows.fnCallFrameSpec) :=
  OpenClaim.holds_of_wide 3 Tryz.f3 rfl rfl rfl rfl rfl rfl rfl ⟨rfl, rfl, rfl, rfl, rfl⟩ rfl rfl rfl rfl rfl (by kernel_rfl) Tryz.func3 (by kernel_rfl)
    (of_decide_eq_true (by kernel_rfl)) (by unfold Func.isWrapper; first | (rw [if_pos (by decide +kernel)]; kernel_rfl) | (rw [if_neg (by decide +kernel)]; exact ⟨rfl, rfl⟩))
    (fun os started H enc _ => lifted os started H enc)
theorem proved : Rows.FnCallFrameSaid := over
#print axioms proved
end Go.Proofs.YtkchimbalpiilaaGreat.fnCallFrame
namespace Go.Proofs.YtkchimbalpiilaaGreat
/-- The row, under a short name, for the claim. -/
theorem fnCallFrame_holds : Rows.FnCallFrameSaid := fnCallFrame.proved
end Go.Proofs.YtkchimbalpiilaaGreat
