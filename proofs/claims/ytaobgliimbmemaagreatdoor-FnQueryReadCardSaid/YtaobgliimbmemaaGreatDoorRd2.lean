/-
  The reader of drawn bytes: contracts of l30Open and one.
-/
import Derived.Test.YtaobgliimbmemaaGreatDoorRd
import Derived.OpenShut
namespace Go.Proofs.YtaobgliimbmemaaGreatDoor
open Go.RowKit
set_option linter.unusedVariables false

theorem addr_add (b off i : Nat) : (Addr.add ⟨b, off, none⟩ i) = ⟨b, off + i, none⟩ := by
  unfold Addr.add; split
  · rename_i h; subst h; rfl
  · rfl
/-- A row that came in, as the reader takes it. -/
theorem code_of_row {w : World} {a : Option Addr} {len cap : Nat} {zs : List Int} (h : IsRow .u8 w a len cap zs) :
    cap ≤ 9223372036854775807 ∧ len ≤ cap ∧ (0 < len → ∃ b off, a = some ⟨b, off, none⟩ ∧ b < w.heap.size ∧ (∀ i, i < len → w.cell? ⟨b, off + i, none⟩ = some (.int .u8 (zs.getD i 0))) ∧ ∀ i, i < len → 0 ≤ zs.getD i 0 ∧ zs.getD i 0 ≤ 255) := by
  rcases h with ⟨rfl, rfl, rfl, rfl⟩ | ⟨x, rfl, hl, hm, hz, hcell, hwz⟩
  · exact ⟨by omega, by omega, fun h => absurd h (by omega)⟩
  · unfold maxLen at hm
    refine ⟨by omega, hl, fun h => ?_⟩
    obtain ⟨b, off, spot⟩ := x
    have hspot : spot = none := by
      have h0 := hcell 0 (by omega)
      simpa [Addr.add] using World.cell?_spot h0
    subst hspot
    have hc : ∀ i, i < len → w.cell? ⟨b, off + i, none⟩ = some (.int .u8 (zs.getD i 0)) := fun i hi => by
      have := hcell i (by omega)
      rwa [addr_add] at this
    refine ⟨b, off, rfl, World.block_lt_of_cell? w _ (hc 0 h), hc, fun i hi => ?_⟩
    have hi' : i < zs.length := by omega
    have := hwz (zs.getD i 0) (by rw [List.getD_eq_getElem?_getD, List.getElem?_eq_getElem hi']; simp)
    have := bounds_u8 this
    omega

theorem IsRow.below {w w' : World} {k : IntKind} {a : Option Addr} {len cap : Nat} {zs : List Int} (h : IsRow k w a len cap zs) (hb : Below w.heap.size w w') : IsRow k w' a len cap zs := by
  rcases h with h | ⟨x, rfl, hl, hm, hz, hcell, hwz⟩
  · exact .inl h
  · refine .inr ⟨x, rfl, hl, hm, hz, fun i hi => ?_, hwz⟩
    have := hcell i hi
    exact (hb.cell (World.block_lt_of_cell? w _ this)).trans this
theorem open_any (a : Option Addr) (len cap : Nat) (zs : List Int) (w : World) (h : IsRow .u8 w a len cap zs) :
    Calls Tryz.prog 10 #[.slice a len cap] w fun e w' => (e = .returned (.pointer (some ⟨w.heap.size, 0, none⟩)) ∧ Rd w' w.heap.size 0) ∧ Below w.heap.size w w' := by
  obtain ⟨h1, h2, h3⟩ := code_of_row h
  by_cases hl : len ≤ 2000
  · go_enter Tryz.func10, Tryz.ntmps10
    go_wp2
    go_ret
    refine ⟨⟨rfl, a, len, cap, zs, heap_alloc_new w _, ⟨hl, fun h => ?_⟩, by omega⟩, (Below.refl _ _).alloc (Nat.le_refl _) _⟩
    obtain ⟨b, off, e, hb, hc, hr⟩ := h3 h
    exact ⟨b, off, e, hb, fun i hi => (World.cell?_alloc_lt w _ ⟨b, off + i, none⟩ hb).trans (hc i hi), hr⟩
  · have hl' : (2000 : Int) < (len : Int) := by omega
    go_enter Tryz.func10, Tryz.ntmps10
    go_wp2
    go_ret
    refine ⟨⟨rfl, _, 2000, _, zs, heap_alloc_new w _, ⟨by omega, fun h => ?_⟩, by omega⟩, (Below.refl _ _).alloc (Nat.le_refl _) _⟩
    obtain ⟨b, off, e, hb, hc, hr⟩ := h3 (by omega)
    exact ⟨b, off, e, hb, fun i hi => (World.cell?_alloc_lt w _ ⟨b, off + i, none⟩ hb).trans (hc i (by omega)), fun i hi => hr i (by omega)⟩

end Go.Proofs.YtaobgliimbmemaaGreatDoor
