/-
  What a card's list gives the reader.
-/
import Derived.Test.YtaobgliimbmemaaGreatDoorLeafI
import Derived.LaidLaws
namespace Go.Proofs.YtaobgliimbmemaaGreatDoor
open Go.RowKit Go.ChangeShapes
set_option linter.unusedVariables false
set_option linter.unusedSimpArgs false

theorem errVar_of {P : Program} {W : World} {L : List (String × DataW Unit)} (h : laidMetH P L W) (hp : (L.all fun x => x.2.handleName?.isNone) = true) {nm : String} {g : Nat} {t : TypeId} {ms : Array (String × TypeId)} (hg : P.globalNamed nm = some g) (ht : (P.globals[g]?).map (·.type) = some t) (hi : P.underlying t = some (.interface ms))
    {name : String} {d : DataW Unit} (hm : (nm, DataW.iface name d) ∈ L) : ∃ te pe, W.cell? ⟨g, 0, none⟩ = some (.iface te pe) := by
  obtain ⟨g0, t0, cs0, f0, p0, hg0, ht0, hv0, hd0⟩ := laid_entry h hp hm
  obtain rfl := Option.some.inj (hg.symm.trans hg0)
  obtain rfl := Option.some.inj (ht.symm.trans ht0)
  obtain ⟨_, u, v, hcs, _, _⟩ := iface_of_trod hi hd0
  refine ⟨u, v, ?_⟩
  have := World.var?_cell hg0 hv0 0
  rw [Array.eq_one_of_toList hcs] at this
  simpa using this
theorem errSyn_of {W : World} {L : List (String × DataW Unit)} (h : laidMetH Tryz.prog L W) (hp : (L.all fun x => x.2.handleName?.isNone) = true) (hm : ("strconv.ErrSyntax", Rows.laid_strconv_ErrSyntax) ∈ L) : ∃ te pe, W.cell? ⟨3, 0, none⟩ = some (.iface te pe) :=
  errVar_of h hp (by kernel_rfl) (by kernel_rfl) Tryz.underlying68 hm
theorem errRng_of {W : World} {L : List (String × DataW Unit)} (h : laidMetH Tryz.prog L W) (hp : (L.all fun x => x.2.handleName?.isNone) = true) (hm : ("strconv.ErrRange", Rows.laid_strconv_ErrRange) ∈ L) : ∃ te pe, W.cell? ⟨4, 0, none⟩ = some (.iface te pe) :=
  errVar_of h hp (by kernel_rfl) (by kernel_rfl) Tryz.underlying68 hm
theorem maxLen_of {W : World} (h : W.ShapedOpen Tryz.prog) : ∃ m, W.cell? ⟨2, 0, none⟩ = some (.int .i64 m) :=
  Go.Proofs.cell_of_shapedOpen_int (zero := #[.int .i64 0]) (t := 3) h (of_decide_eq_true (by kernel_rfl)) (by kernel_rfl) rfl (by kernel_rfl) (by kernel_rfl) Tryz.underlying3
theorem laidR_mk {W : World} (h1 : ∃ bo, LaidOp bo W) (h2 : ∃ te pe, W.cell? ⟨3, 0, none⟩ = some (.iface te pe)) (h3 : ∃ te pe, W.cell? ⟨4, 0, none⟩ = some (.iface te pe)) (h4 : ∃ m, W.cell? ⟨2, 0, none⟩ = some (.int .i64 m)) : LaidR W := ⟨h1, h2, h3, h4⟩
end Go.Proofs.YtaobgliimbmemaaGreatDoor
