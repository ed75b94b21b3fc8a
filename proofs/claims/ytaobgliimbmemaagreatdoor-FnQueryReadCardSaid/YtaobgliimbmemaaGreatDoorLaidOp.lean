/-
  What a card's list gives the walks: the map 'opNames'; a table of the library's.
-/
import Derived.Test.YtaobgliimbmemaaGreatDoorLaidQ
import Derived.Test.YtaobgliimbmemaaGreatDoorPutS3
import Derived.Maps.StringElems
import Derived.Maps.Own
import Derived.Lib.LaidTab
import Derived.Carry
namespace Go.Proofs.YtaobgliimbmemaaGreatDoor
open Go.RowKit Go.ChangeShapes Go.WideElems
set_option linter.unusedVariables false
set_option linter.unusedSimpArgs false

/-- the variable 'opNames' holds the map in block bo. -/
structure LaidOp (bo : Nat) (w : World) : Prop where
  gl : 0 < w.heap.size
  cell : w.cell? ⟨0, 0, none⟩ = some (.map (some bo))
  own : ∃ n, w.ownsMap Tryz.prog 3 (plainElem Tryz.prog 9) bo n (Rows.laid_loop_example_fossick_impl_opNames : DataW Unit)
theorem LaidOp.below {bo : Nat} {w w' : World} (h : LaidOp bo w) (hb : Below w.heap.size w w') : LaidOp bo w' := by
  obtain ⟨n, ho⟩ := h.own
  exact ⟨Nat.lt_of_lt_of_le h.gl hb.size, (belowL hb h.gl).trans h.cell, n, ho.kept (row := none) ⟨hb.os, hb.tape, hb.output, hb.size, fun k hk _ => hb.block k hk⟩ (by simp)⟩
theorem gOps : Tryz.prog.globalNamed "loop.example/fossick/impl.opNames" = some 0 := by kernel_rfl
theorem tOps : (Tryz.prog.globals[0]?).map (·.type) = some 53 := by kernel_rfl
theorem ops_at {kd : Int} (h : kd = 7 ∨ kd = 8 ∨ kd = 9 ∨ kd = 10) (z : DataW Unit) : Rows.laid_loop_example_fossick_impl_opNames.atKey (.int .i64 kd) z = .lit (.string (nameL kd)) := by
  rcases h with rfl | rfl | rfl | rfl <;> rfl
theorem zeroS (V : World) : (zeroValue 9).run Tryz.prog V = .ok (.string ⟨#[]⟩) V := by kernel_rfl
theorem LaidOp.look {bo : Nat} {w : World} (h : LaidOp bo w) {kn : Nat} (hk : 7 ≤ kn ∧ kn ≤ 10) :
    (Instr.lookup 53 (.map (some bo)) (.int .i64 (kn : Int)) false).run Tryz.prog w = .ok (.string (tb (nameL (kn : Int)))) w := by
  obtain ⟨n, ho⟩ := h.own
  obtain ⟨v, ps, hrun, hv⟩ := ho.lookup keyedInt Tryz.underlying53 (zeroS w) (plainElem_string Tryz.underlying9 (s := ⟨#[]⟩) (by decide)) (Maps.keyOf_int_mk Tryz.underlying3 (Go.WalkArith.wf_i64 (n := (kn : Int)) ⟨by omega, by omega⟩))
  rw [ops_at (by omega)] at hv
  obtain ⟨s, rfl, e, _⟩ := plainElem_string_inv Tryz.underlying9 hv
  have e1 := congrArg Prod.fst e
  simp only [DataW.lit.injEq, Lit.string.injEq] at e1
  rw [hrun, tb_eq e1.symm]
theorem laidOp_of {W : World} {L : List (String × DataW Unit)} (h : laidMetH Tryz.prog L W) (hp : (L.all fun x => x.2.handleName?.isNone) = true) (hm : ("loop.example/fossick/impl.opNames", Rows.laid_loop_example_fossick_impl_opNames) ∈ L) : ∃ bo, LaidOp bo W := by
  obtain ⟨g0, t0, cs0, f0, p0, hg0, ht0, hv0, hd0⟩ := laid_entry h hp hm
  obtain rfl := Option.some.inj (gOps.symm.trans hg0)
  obtain rfl := Option.some.inj (tOps.symm.trans ht0)
  rcases open_map Tryz.underlying53 hd0 with ⟨_, hx⟩ | ⟨bo, es, clock, m, rfl, hcs, hb, _, F, hx⟩
  · simp [Rows.laid_loop_example_fossick_impl_opNames] at hx
  simp only [Prod.mk.injEq] at hx
  have hcell : W.cell? ⟨0, 0, none⟩ = some (.map (some bo)) := by
    have := World.var?_cell hg0 hv0 0
    rw [Array.eq_one_of_toList hcs] at this
    simpa using this
  refine ⟨bo, World.block_lt_of_cell? W _ hcell, hcell, es.size, ?_⟩
  rw [hx.1]
  exact World.ownsMap_of_fit (R := plainElem Tryz.prog 9) hb F (fun x _ z hz => elemAt_plainElem_string Tryz.underlying9 hz)
theorem var_below {P : Program} {w w' : World} {n : String} {cs : Array Value} (h : w.var? P n = some cs) (hb : Below w.heap.size w w') : w'.var? P n = some cs := by
  unfold World.var? at h ⊢
  cases hg : P.globalNamed n with
  | none => simp [hg] at h
  | some g =>
    simp only [hg, Option.bind_some] at h ⊢
    cases ho : w.heap[g]? with
    | none => simp [ho] at h
    | some o =>
      rw [hb.block g (Array.getElem?_eq_some_iff.1 ho).1, ho]
      simpa [ho] using h
abbrev PowT (w : World) : Prop := Lib.TabIs Tryz.prog w "internal/strconv.uint64pow10" .u64 Lib.pow10Tab
/-- a table of the library's that lies in a world that has grown. -/
theorem tab_below {w w' : World} (h : PowT w) (hb : Below w.heap.size w w') : PowT w' := var_below h hb
theorem gPow : Tryz.prog.globalNamed "internal/strconv.uint64pow10" = some 5 := by kernel_rfl
theorem tPow : (Tryz.prog.globals[5]?).map (·.type) = some 111 := by kernel_rfl
theorem powT_of {W : World} {L : List (String × DataW Unit)} (h : laidMetH Tryz.prog L W) (hp : (L.all fun x => x.2.handleName?.isNone) = true) (hm : ("internal/strconv.uint64pow10", Rows.laid_internal_strconv_uint64pow10) ∈ L) : PowT W := by
  obtain ⟨g0, t0, cs0, f0, p0, hg0, ht0, hv0, hd0⟩ := laid_entry h hp hm
  obtain rfl := Option.some.inj (gPow.symm.trans hg0)
  obtain rfl := Option.some.inj (tPow.symm.trans ht0)
  have e : (Rows.laid_internal_strconv_uint64pow10 : DataW Unit) = Lib.tabData .u64 Lib.pow10Tab := by kernel_rfl
  rw [e] at hd0
  have hc := Lib.cells_of_tab Tryz.underlying111 Tryz.underlying95 (by kernel_rfl) (by kernel_rfl) hd0
  unfold PowT Lib.TabIs
  rw [hv0, ← hc]
end Go.Proofs.YtaobgliimbmemaaGreatDoor
