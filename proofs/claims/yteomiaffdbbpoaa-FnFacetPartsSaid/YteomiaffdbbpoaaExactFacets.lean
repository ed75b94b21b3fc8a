/-
  Contracts of what the exact laws call on slices of impl.Facet.
-/
import Derived.Test.YteomiaffdbbpoaaRecs2
namespace Go.Proofs.Yteomiaffdbbpoaa
open Go.RowKit
set_option linter.unusedVariables false

theorem infoFacet' : (Try.prog.info? 73).map (fun i => (i.zero, i.size, i.bytes)) = some (some (.agg #[.int .i64 0, .int .i64 0]), 2, 16) := by kernel_rfl
theorem rowTFacet : RowT Try.prog 69 73 2 16 := rowT_of Try.underlying69 infoFacet' rfl
theorem eqFacet_same (a b : Int) (w : World) :
    Calls Try.prog 83 #[.agg #[.int .i64 a, .int .i64 b], .agg #[.int .i64 a, .int .i64 b]] w fun e w' => e = .returned (.bool true) ∧ Below w.heap.size w w' := by
  go_enter Try.func83, Try.ntmps83
  go_wp2
  go_ret
  exact ⟨rfl, by (repeat' (first | exact Below.refl _ _ | apply Below.alloc | apply Below.setCell | apply Below.drew | apply below_draws)) <;> (first | omega | (simp <;> omega))⟩
theorem eqFacetS_same (A A' : Option Addr) (c c' : Nat) (L : List (Int × Int)) (w : World) (h : Rds w 2 A L.length (L.flatMap enc2)) (h' : Rds w 2 A' L.length (L.flatMap enc2)) (hn : L.length ≤ 4194304) :
    Calls Try.prog 49 #[.slice A L.length c, .slice A' L.length c'] w fun e w' => e = .returned (.bool true) ∧ Below w.heap.size w w' := by
  go_enter Try.func49, Try.ntmps49
  go_wp2
  go_loopw [5] (fun i wr => ∃ k : Nat, k ≤ L.length ∧ i = .int .i64 k ∧ Below w.heap.size w wr) (fun i _ => L.length - (intOf i).toNat)
  case atStart => exact ⟨0, Nat.zero_le _, rfl, Below.refl _ _⟩
  case round =>
    obtain ⟨k, hk, rfl, hB⟩ := hrel
    by_cases hlt : k < L.length
    · obtain ⟨b, off, rfl, hb, x0, x1⟩ := (h.below hB).at2 hlt
      obtain ⟨b', off', rfl, hb', x0', x1'⟩ := (h'.below hB).at2 hlt
      generalize L[k].1 = p at x0 x0'
      generalize L[k].2 = q at x1 x1'
      have k1 : ∀ w', Below wr.heap.size wr w' → w'.cell? ⟨b, off + k * 2, none⟩ = some (.int .i64 p) := fun w' h => (h.cell (p := ⟨_, _, _⟩) hb).trans x0
      have k2 : ∀ w', Below wr.heap.size wr w' → w'.cell? ⟨b, off + k * 2 + 1, none⟩ = some (.int .i64 q) := fun w' h => (h.cell (p := ⟨_, _, _⟩) hb).trans x1
      have k3 : ∀ w', Below wr.heap.size wr w' → w'.cell? ⟨b', off' + k * 2, none⟩ = some (.int .i64 p) := fun w' h => (h.cell (p := ⟨_, _, _⟩) hb').trans x0'
      have k4 : ∀ w', Below wr.heap.size wr w' → w'.cell? ⟨b', off' + k * 2 + 1, none⟩ = some (.int .i64 q) := fun w' h => (h.cell (p := ⟨_, _, _⟩) hb').trans x1'
      clear x0 x1 x0' x1' hb hb' h h'
      go_wp2_with fail
      go_region_held3 (fun w' => Below wr.heap.size wr w')
        ((repeat' (first | exact Below.refl _ _ | assumption | apply Below.alloc | apply Below.setCell | apply Below.drew | (refine Below.trans ?_ (Below.mono (by assumption) ?_)))) <;> (first | exact Below.size (by assumption) | omega | (simp; done) | (simp; omega) | (refine Nat.le_trans ?_ (Below.size (by assumption)); (first | omega | (simp <;> omega)))))
        (first | (go_at_call 83; refine (eqFacet_same _ _ _).mono ?_; rintro e w' ⟨rfl, hb⟩))
      rename_i hH
      go_wp2
      go_roundw
      case rel => exact ⟨k + 1, by omega, by go_num, hB.trans (hH.mono hB.size)⟩
      case measure => simp [intOf]; omega
    · go_wp2
      go_ret
      exact ⟨rfl, hB⟩
theorem markFacetS_any (g c base : Nat) (L : List (Int × Int)) (k : Int) (w : World) (h : OwnE enc2 73 2 w base g c L) (hn : L.length ≤ 4194304) (h0 : 0 ≤ k) (h1 : k ≤ 4611686018427387904) :
    Calls Try.prog 50 #[.slice (some ⟨g, 0, none⟩) L.length c, .int .i64 k] w fun e w' => (e = .returned (.int .i64 (k + 2 * L.length)) ∧ w'.ownsRow base 73 2 (.slice (some ⟨g, 0, none⟩) L.length c) L.length ((mk2 k L.length).flatMap enc2)) ∧ w.grownBy w' (Value.slice (some ⟨g, 0, none⟩) L.length c).ownBlock := by
  go_enter Try.func50, Try.ntmps50
  go_wp2
  go_loopw [1, 5] (fun m i wr => ∃ j : Nat, j ≤ L.length ∧ i = .int .i64 j ∧ m = .int .i64 (k + 2 * j) ∧ wr.ownsRow base 73 2 (.slice (some ⟨g, 0, none⟩) L.length c) L.length ((mkd2 L k j).flatMap enc2) ∧ w.grownBy wr (some g)) (fun _ i _ => L.length - (intOf i).toNat)
  case atStart => exact ⟨0, Nat.zero_le _, rfl, by simp, by rw [mkd2_zero]; exact h, grown_refl _ _⟩
  case round =>
    obtain ⟨j, hj, rfl, rfl, hown, hg⟩ := hrel
    by_cases hlt : j < L.length
    · have hstep := mkd2_step L k hlt
      obtain ⟨f0, f1⟩ := mkd2_get L k hlt
      generalize L[j].1 = p at f0
      generalize L[j].2 = q at f1
      have HS : Hid ((((mkd2 L k j).flatMap enc2).set (j * 2) (.int .i64 (k + 2 * j))).set (j * 2 + 1) (.int .i64 (k + 2 * j + 1)) = (mkd2 L k (j + 1)).flatMap enc2) := hstep
      clear hstep
      have g0 := (hown.cellAt (j * 2) (by omega)).trans f0
      have g1 := (hown.cellAt (j * 2 + 1) (by omega)).trans f1
      have z0 := hown.frozenAt (j * 2)
      have z1 := hown.frozenAt (j * 2 + 1)
      have own5 := ((hown.stored (j * 2) (.int .i64 (k + 2 * j))).1.stored (j * 2 + 1) (.int .i64 (k + 2 * j + 1))).1
      have hg5 := (hown.stored (j * 2) (.int .i64 (k + 2 * j))).2.trans ((hown.stored (j * 2) (.int .i64 (k + 2 * j))).1.stored (j * 2 + 1) (.int .i64 (k + 2 * j + 1))).2
      rw [HS.out] at own5
      have hg6 := hg.trans hg5
      clear hown hg hg5
      go_wp2
      go_roundw
      case rel => exact ⟨j + 1, by omega, by go_num, by go_num, own5, hg6⟩
      case measure => simp [intOf]; omega
    · obtain rfl : j = L.length := by omega
      rw [mkd2_all] at hown
      go_wp2
      go_ret
      exact ⟨⟨rfl, hown⟩, hg⟩
theorem heldFacetS_any (A : Option Addr) (c n : Nat) (k : Int) (w : World) (h : Rds w 2 A n ((mk2 k n).flatMap enc2)) (hn : n ≤ 4194304) (h0 : 0 ≤ k) (h1 : k ≤ 4611686018427387904) :
    Calls Try.prog 51 #[.slice A n c, .int .i64 k] w fun e w' => e = .returned (.int .i64 (k + 2 * n)) ∧ Below w.heap.size w w' := by
  go_enter Try.func51, Try.ntmps51
  go_wp2
  go_loop [1, 5] (fun m i => ∃ j : Nat, j ≤ n ∧ i = .int .i64 j ∧ m = .int .i64 (k + 2 * j)) (fun _ i => n - (intOf i).toNat)
  case atStart => exact ⟨0, Nat.zero_le _, rfl, by simp⟩
  case round =>
    obtain ⟨j, hj, rfl, rfl⟩ := hrel
    by_cases hlt : j < n
    · have h2 : Rds w 2 A (mk2 k n).length ((mk2 k n).flatMap enc2) := by rw [mk2_len]; exact h
      obtain ⟨b, off, rfl, hb, x0, x1⟩ := h2.at2 (k := j) (by rw [mk2_len]; exact hlt)
      rw [(mk2_get k hlt).1] at x0
      rw [(mk2_get k hlt).2] at x1
      go_wp2
      go_round
      case rel => exact ⟨j + 1, by omega, by go_num, by go_num⟩
      case measure => simp [intOf]; omega
    · obtain rfl : j = n := by omega
      go_wp2
      go_ret
      exact ⟨rfl, Below.refl _ _⟩
end Go.Proofs.Yteomiaffdbbpoaa
