/-
  What a card's list gives the walks: the map 'shapes'; the world of the witness.
-/
import Derived.Test.YtaobgliimbmemaaGreatDoorNodeOk
import Derived.LaidMore
import Derived.ProofKit
import Derived.Maps.OwnSet
import Derived.Maps.Keyed
import Derived.Stop.Joined
namespace Go.Proofs.YtaobgliimbmemaaGreatDoor
open Go.RowKit Go.ChangeShapes Go.WideElems
set_option linter.unusedVariables false
set_option linter.unusedSimpArgs false

theorem laidVars_mem {P : Program} {w : World} : ∀ {L : List (String × DataW Unit)} {ps : List MemPlace}, DataW.LaidVars P w L ps → ∀ {n : String} {d : DataW Unit}, (n, d) ∈ L →
    ∃ g t cs fuel p, P.globalNamed n = some g ∧ (P.globals[g]?).map (·.type) = some t ∧ w.var? P n = some cs ∧ DataW.trod (fun _ => ()) P w 0 (fun _ => true) false fuel t cs.toList = some (d, p)
  | [], _, _, _, _, hm => by cases hm
  | (n', d') :: r, ps, h, n, d, hm => by
    obtain ⟨g, t, cs, fuel, p, q, h1, h2, h3, h4, h5, _⟩ := h
    rcases List.mem_cons.1 hm with e | hm
    · cases e; exact ⟨g, t, cs, fuel, p, h1, h2, h3, h4⟩
    · exact laidVars_mem h5 hm
theorem laid_entry {P : Program} {W : World} {L : List (String × DataW Unit)} (h : laidMetH P L W) (hp : (L.all fun x => x.2.handleName?.isNone) = true) {n : String} {d : DataW Unit} (hm : (n, d) ∈ L) :
    ∃ g t cs fuel p, P.globalNamed n = some g ∧ (P.globals[g]?).map (·.type) = some t ∧ W.var? P n = some cs ∧ DataW.trod (fun _ => ()) P W 0 (fun _ => true) false fuel t cs.toList = some (d, p) := by
  rw [MakeChecks.laidMetH_plain _ _ _ hp] at h
  obtain ⟨ps, hv, _⟩ := h
  exact laidVars_mem hv hm

theorem gShapes : Tryz.prog.globalNamed "loop.example/fossick/impl.shapes" = some 1 := by kernel_rfl
theorem tShapes : (Tryz.prog.globals[1]?).map (·.type) = some 60 := by kernel_rfl
theorem cShape : Tryz.prog.cellsOf 58 = 8 := by kernel_rfl
theorem cBoolQ : Tryz.prog.cellsOf 4 = 1 := by kernel_rfl
theorem cIntQ : Tryz.prog.cellsOf 3 = 1 := by kernel_rfl
theorem keyedInt : Maps.Keyed Tryz.prog 3 := Maps.int_keyed Tryz.underlying3
def shpD (x : Shp) : DataW Unit := .agg [.lit (.bool x.f), .lit (.int .i64 x.lw), .lit (.int .i64 x.mw), .lit (.int .i64 x.lo), .lit (.int .i64 x.hi), .lit (.bool x.rg), .lit (.int .i64 x.lk), .lit (.int .i64 x.tk)]
theorem shapes_at (kd : Int) (z : DataW Unit) : Rows.laid_loop_example_fossick_impl_shapes.atKey (.int .i64 kd) z = match shp kd with | none => z | some x => shpD x := by
  by_cases g1 : kd = 1
  · subst g1; rfl
  by_cases g2 : kd = 2
  · subst g2; rfl
  by_cases g3 : kd = 3
  · subst g3; rfl
  by_cases g4 : kd = 4
  · subst g4; rfl
  by_cases g5 : kd = 5
  · subst g5; rfl
  by_cases g6 : kd = 6
  · subst g6; rfl
  by_cases g7 : kd = 7
  · subst g7; rfl
  by_cases g8 : kd = 8
  · subst g8; rfl
  by_cases g9 : kd = 9
  · subst g9; rfl
  by_cases g10 : kd = 10
  · subst g10; rfl
  have h : shp kd = none := by simp [shp, g1, g2, g3, g4, g5, g6, g7, g8, g9, g10]
  rw [h]
  have e1 : ¬ 1 = kd := fun e => g1 e.symm
  have e2 : ¬ 2 = kd := fun e => g2 e.symm
  have e3 : ¬ 3 = kd := fun e => g3 e.symm
  have e4 : ¬ 4 = kd := fun e => g4 e.symm
  have e5 : ¬ 5 = kd := fun e => g5 e.symm
  have e6 : ¬ 6 = kd := fun e => g6 e.symm
  have e7 : ¬ 7 = kd := fun e => g7 e.symm
  have e8 : ¬ 8 = kd := fun e => g8 e.symm
  have e9 : ¬ 9 = kd := fun e => g9 e.symm
  have e10 : ¬ 10 = kd := fun e => g10 e.symm
  simp [DataW.atKey, Rows.laid_loop_example_fossick_impl_shapes, Lit.sameKey, e1, e2, e3, e4, e5, e6, e7, e8, e9, e10]
set_option maxRecDepth 20000 in
theorem shp_of {W : World} {n : Nat} {v : Value} {y : DataW Unit × List MemPlace} (h : elemAt (fun _ => ()) Tryz.prog W 0 (fun _ => true) false n 58 v = some y) {x : Shp} (hy : y.1 = shpD x) : v = shpV x := by
  unfold elemAt at h
  split at h
  · rename_i hf
    obtain ⟨cs, rfl⟩ : ∃ cs, v = .agg cs := by
      cases v <;> simp [Value.formed, Tryz.underlying58] at hf
      exact ⟨_, rfl⟩
    obtain ⟨l⟩ := cs
    replace h : DataW.trod (fun _ => ()) Tryz.prog W 0 (fun _ => true) false n 58 l = some y := h
    obtain ⟨xs, n1, rfl, rfl, hl, hxl, hfl⟩ := DataW.trod_struct Tryz.underlying58 h
    rw [cShape] at hl
    match l, hl with
    | [v0, v1, v2, v3, v4, v5, v6, v7], _ =>
    have hx8 : xs.length = 8 := hxl
    match xs, hx8 with
    | [y0, y1, y2, y3, y4, y5, y6, y7], _ =>
    have h0 : DataW.trod (fun _ => ()) Tryz.prog W 0 (fun _ => true) false n1 4 [v0] = some y0 := by simpa [cBoolQ] using hfl 0 _ rfl
    have h1 : DataW.trod (fun _ => ()) Tryz.prog W 0 (fun _ => true) false n1 3 [v1] = some y1 := by simpa [cIntQ] using hfl 1 _ rfl
    have h2 : DataW.trod (fun _ => ()) Tryz.prog W 0 (fun _ => true) false n1 3 [v2] = some y2 := by simpa [cIntQ] using hfl 2 _ rfl
    have h3 : DataW.trod (fun _ => ()) Tryz.prog W 0 (fun _ => true) false n1 3 [v3] = some y3 := by simpa [cIntQ] using hfl 3 _ rfl
    have h4 : DataW.trod (fun _ => ()) Tryz.prog W 0 (fun _ => true) false n1 3 [v4] = some y4 := by simpa [cIntQ] using hfl 4 _ rfl
    have h5 : DataW.trod (fun _ => ()) Tryz.prog W 0 (fun _ => true) false n1 4 [v5] = some y5 := by simpa [cBoolQ] using hfl 5 _ rfl
    have h6 : DataW.trod (fun _ => ()) Tryz.prog W 0 (fun _ => true) false n1 3 [v6] = some y6 := by simpa [cIntQ] using hfl 6 _ rfl
    have h7 : DataW.trod (fun _ => ()) Tryz.prog W 0 (fun _ => true) false n1 3 [v7] = some y7 := by simpa [cIntQ] using hfl 7 _ rfl
    obtain ⟨a0, e0, rfl⟩ := DataW.trod_bool Tryz.underlying4 h0
    obtain ⟨a1, e1, rfl, _⟩ := DataW.trod_int Tryz.underlying3 h1
    obtain ⟨a2, e2, rfl, _⟩ := DataW.trod_int Tryz.underlying3 h2
    obtain ⟨a3, e3, rfl, _⟩ := DataW.trod_int Tryz.underlying3 h3
    obtain ⟨a4, e4, rfl, _⟩ := DataW.trod_int Tryz.underlying3 h4
    obtain ⟨a5, e5, rfl⟩ := DataW.trod_bool Tryz.underlying4 h5
    obtain ⟨a6, e6, rfl, _⟩ := DataW.trod_int Tryz.underlying3 h6
    obtain ⟨a7, e7, rfl, _⟩ := DataW.trod_int Tryz.underlying3 h7
    simp at e0 e1 e2 e3 e4 e5 e6 e7
    subst e0 e1 e2 e3 e4 e5 e6 e7
    simp [shpD] at hy
    obtain ⟨rfl, rfl, rfl, rfl, rfl, rfl, rfl, rfl⟩ := hy
    rfl
  · cases h
theorem laidSh_of {W : World} {L : List (String × DataW Unit)} (h : laidMetH Tryz.prog L W) (hp : (L.all fun x => x.2.handleName?.isNone) = true) (hm : ("loop.example/fossick/impl.shapes", Rows.laid_loop_example_fossick_impl_shapes) ∈ L) : ∃ bm, LaidSh bm W := by
  obtain ⟨g0, t0, cs0, f0, p0, hg0, ht0, hv0, hd0⟩ := laid_entry h hp hm
  obtain rfl := Option.some.inj (gShapes.symm.trans hg0)
  obtain rfl := Option.some.inj (tShapes.symm.trans ht0)
  rcases open_map Tryz.underlying60 hd0 with ⟨_, hx⟩ | ⟨bm, es, clock, m, rfl, hcs, hb, _, F, hx⟩
  · simp [Rows.laid_loop_example_fossick_impl_shapes] at hx
  simp only [Prod.mk.injEq] at hx
  have hcell : W.cell? ⟨1, 0, none⟩ = some (.map (some bm)) := by
    have := World.var?_cell hg0 hv0 0
    rw [Array.eq_one_of_toList hcs] at this
    simpa using this
  refine ⟨bm, (Array.getElem?_eq_some_iff.1 hb).1, World.block_lt_of_cell? W _ hcell, hcell, fun V hV kd hk => ?_⟩
  have zero : (zeroValue 58).run Tryz.prog V = .ok (shpV zShp) V := by kernel_rfl
  rcases Maps.fit_look true keyedInt Tryz.underlying60 zero (hV.trans hb) F (Maps.keyOf_int_mk Tryz.underlying3 hk) with ⟨hrun, _, hat⟩ | ⟨e0, y, _, _, hrun, hR, hat, _⟩
  · rw [← hx.1] at hat
    cases hs : shp kd with
    | none => exact hrun
    | some x =>
      exfalso
      have h1 := hat .nil
      rw [shapes_at, hs] at h1
      cases h1
  · rw [← hx.1] at hat
    cases hs : shp kd with
    | none =>
      exfalso
      have h1 := hat .nil
      have h2 := hat (.lit (.bool true))
      rw [shapes_at, hs] at h1 h2
      dsimp only at h1 h2
      rw [← h1] at h2
      cases h2
    | some x =>
      have h1 := hat .nil
      rw [shapes_at, hs] at h1
      rw [shp_of hR h1.symm] at hrun
      exact hrun

/-- A world for the witness: what the door's own run leaves. -/
noncomputable def laidWorld (os : Os) : World := World.doorLaid Tryz.prog 162 os
end Go.Proofs.YtaobgliimbmemaaGreatDoor
