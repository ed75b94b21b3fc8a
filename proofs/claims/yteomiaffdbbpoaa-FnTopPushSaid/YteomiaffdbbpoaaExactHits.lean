/-
  Contracts of what the exact laws call on slices of impl.Hit.
-/
import Derived.Test.YteomiaffdbbpoaaRecs2
namespace Go.Proofs.Yteomiaffdbbpoaa
open Go.RowKit
set_option linter.unusedVariables false

theorem infoHit' : (Try.prog.info? 49).map (fun i => (i.zero, i.size, i.bytes)) = some (some (.agg #[.int .i64 0, .int .i64 0]), 2, 16) := by kernel_rfl
theorem rowTHit : RowT Try.prog 25 49 2 16 := rowT_of Try.underlying25 infoHit' rfl
theorem toHit_any (a b : Int) (w : World) :
    Calls Try.prog 41 #[.agg #[.int .i64 a, .int .i64 b]] w fun e w' => e = .returned (.agg #[.int .i64 a, .int .i64 b]) ∧ Below w.heap.size w w' := by
  go_enter Try.func41, Try.ntmps41
  go_wp2
  exact bodyPost_ret (v := .agg #[.int .i64 a, .int .i64 b]) (by simp [results, Try.results41, go_sem]) rfl ⟨rfl, by (repeat' (first | exact Below.refl _ _ | apply Below.alloc | apply Below.setCell | apply Below.drew | apply below_draws)) <;> (first | omega | (simp <;> omega))⟩
theorem szHitS_any (A : Option Addr) (n c : Nat) (left : Int) (w : World) (hn : n ≤ 9223372036854775807) (h0 : 0 ≤ left) (h1 : left ≤ 1048576) :
    Calls Try.prog 13 #[.slice A n c, .int .i64 left] w (Sz1 n left w) := by
  by_cases h : left - (n : Int) < 0
  · go_enter Try.func13, Try.ntmps13
    go_wp2
    go_ret
    exact ⟨_, ⟨rfl, .inr (by omega), by omega, .inl (by omega)⟩, rfl⟩
  · go_enter Try.func13, Try.ntmps13
    go_wp2
    go_ret
    exact ⟨_, ⟨rfl, .inl rfl, by omega, .inr (by omega)⟩, rfl⟩
theorem toHitS_any (A : Option Addr) (c : Nat) (L : List (Int × Int)) (w : World) (h : Rds w 2 A L.length (L.flatMap enc2)) (hn : L.length ≤ 1048576) :
    Calls Try.prog 15 #[.slice A L.length c] w fun e w' => ∃ g : Nat, (e = .returned (.slice (some ⟨g, 0, none⟩) L.length L.length) ∧ OwnE enc2 49 2 w' w.heap.size g L.length L) ∧ Below w.heap.size w w' := by
  obtain ⟨i0, z, hi, hz0, hz1, hz2, hzs⟩ := rowTHit.info
  have hz0' : i0.zero = some (.agg #[.int .i64 0, .int .i64 0]) := by
    have := infoHit'
    rw [hi] at this
    simp only [Option.map_some, Option.some.injEq, Prod.mk.injEq] at this
    exact this.1
  obtain ⟨wm, hmk, hown0, hg0⟩ := run_make_full (P := Try.prog) w w.heap.size 25 49 i0 _ 2 Try.underlying25 hi hz0' hz1 .i64 .i64 L.length (by rw [hz2]; omega) (by unfold maxLen; omega) (Nat.le_refl _)
  have hB0 : Below w.heap.size w wm := (Below.refl _ _).grown hg0 (Nat.le_refl _) (fun k hk => by cases hk)
  clear hz0 hzs
  go_enter Try.func15, Try.ntmps15
  go_wp2
  go_loopw [4] (fun i wr => ∃ k : Nat, k ≤ L.length ∧ i = .int .i64 k ∧ wr.ownsRow w.heap.size 49 2 (.slice (some ⟨w.heap.size, 0, none⟩) L.length L.length) L.length (fill2 L k) ∧ Below w.heap.size w wr) (fun i _ => L.length - (intOf i).toNat)
  case atStart => exact ⟨0, Nat.zero_le _, rfl, by rw [fill2_zero, ← madeCells_two]; exact hown0, hB0⟩
  case round =>
    obtain ⟨k, hk, rfl, hown, hB⟩ := hrel
    by_cases hlt : k < L.length
    · obtain ⟨b, off, rfl, hb, x0, x1⟩ := (h.below hB).at2 hlt
      obtain ⟨f0, f1⟩ := fill2_get L hlt
      have hstep := fill2_step L hlt
      generalize L[k].1 = p at x0 hstep
      generalize L[k].2 = q at x1 hstep
      have HS : Hid (((fill2 L k).set (k * 2) (.int .i64 p)).set (k * 2 + 1) (.int .i64 q) = fill2 L (k + 1)) := hstep
      clear hstep
      go_wp2_with (go_at_call 41; refine (toHit_any p q _).mono ?_; rintro e w4 ⟨rfl, hb4⟩; have own4 := own_below hown hb4; have g0 := (own4.cellAt (k * 2) (by omega)).trans f0; have g1 := (own4.cellAt (k * 2 + 1) (by omega)).trans f1; have z0 := own4.frozenAt (k * 2); have z1 := own4.frozenAt (k * 2 + 1))
      have own5 := ((own4.stored (k * 2) (.int .i64 p)).1.stored (k * 2 + 1) (.int .i64 q)).1
      rw [HS.out] at own5
      have hB5 := (((hB.trans (hb4.mono hB.size)).setCell (p := ⟨w.heap.size, k * 2, none⟩) (Nat.le_refl _) (.int .i64 p)).setCell (p := ⟨w.heap.size, k * 2 + 1, none⟩) (Nat.le_refl _) (.int .i64 q))
      go_roundw
      case rel => exact ⟨k + 1, by omega, by go_num, own5, hB5⟩
      case measure => simp [intOf]; omega
    · obtain rfl : k = L.length := by omega
      rw [fill2_all] at hown
      go_wp2
      go_ret
      exact ⟨w.heap.size, ⟨rfl, hown⟩, hB⟩
theorem eqHit_same (a b : Int) (w : World) :
    Calls Try.prog 56 #[.agg #[.int .i64 a, .int .i64 b], .agg #[.int .i64 a, .int .i64 b]] w fun e w' => e = .returned (.bool true) ∧ Below w.heap.size w w' := by
  go_enter Try.func56, Try.ntmps56
  go_wp2
  go_ret
  exact ⟨rfl, by (repeat' (first | exact Below.refl _ _ | apply Below.alloc | apply Below.setCell | apply Below.drew | apply below_draws)) <;> (first | omega | (simp <;> omega))⟩
theorem eqHitS_same (A A' : Option Addr) (c c' : Nat) (L : List (Int × Int)) (w : World) (h : Rds w 2 A L.length (L.flatMap enc2)) (h' : Rds w 2 A' L.length (L.flatMap enc2)) (hn : L.length ≤ 4194304) :
    Calls Try.prog 17 #[.slice A L.length c, .slice A' L.length c'] w fun e w' => e = .returned (.bool true) ∧ Below w.heap.size w w' := by
  go_enter Try.func17, Try.ntmps17
  go_wp2
  go_loopw [5] (fun i wr => ∃ k : Nat, k ≤ L.length ∧ i = .int .i64 k ∧ Below w.heap.size w wr) (fun i _ => L.length - (intOf i).toNat)
  case atStart => exact ⟨0, Nat.zero_le _, rfl, Below.refl _ _⟩
  case round =>
    obtain ⟨k, hk, rfl, hB⟩ := hrel
    by_cases hlt : k < L.length
    · obtain ⟨b, off, rfl, hb, x0, x1⟩ := (h.below hB).at2 hlt
      obtain ⟨b', off', rfl, hb', x0', x1'⟩ := (h'.below hB).at2 hlt
      generalize L[k].1 = p at x0 x0'
      generalize L[k].2 = q at x1 x1'
      have k1 : ∀ w', Below wr.heap.size wr w' → w'.cell? ⟨b, off + k * 2, none⟩ = some (.int .i64 p) := fun w' h => (h.cell (p := ⟨_, _, _⟩) hb).trans x0
      have k2 : ∀ w', Below wr.heap.size wr w' → w'.cell? ⟨b, off + k * 2 + 1, none⟩ = some (.int .i64 q) := fun w' h => (h.cell (p := ⟨_, _, _⟩) hb).trans x1
      have k3 : ∀ w', Below wr.heap.size wr w' → w'.cell? ⟨b', off' + k * 2, none⟩ = some (.int .i64 p) := fun w' h => (h.cell (p := ⟨_, _, _⟩) hb').trans x0'
      have k4 : ∀ w', Below wr.heap.size wr w' → w'.cell? ⟨b', off' + k * 2 + 1, none⟩ = some (.int .i64 q) := fun w' h => (h.cell (p := ⟨_, _, _⟩) hb').trans x1'
      clear x0 x1 x0' x1' hb hb' h h'
      go_wp2_with fail
      go_region_held3 (fun w' => Below wr.heap.size wr w')
        ((repeat' (first | exact Below.refl _ _ | assumption | apply Below.alloc | apply Below.setCell | apply Below.drew | (refine Below.trans ?_ (Below.mono (by assumption) ?_)))) <;> (first | exact Below.size (by assumption) | omega | (simp; done) | (simp; omega) | (refine Nat.le_trans ?_ (Below.size (by assumption)); (first | omega | (simp <;> omega)))))
        (first | (go_at_call 56; refine (eqHit_same _ _ _).mono ?_; rintro e w' ⟨rfl, hb⟩))
      rename_i hH
      go_wp2
      go_roundw
      case rel => exact ⟨k + 1, by omega, by go_num, hB.trans (hH.mono hB.size)⟩
      case measure => simp [intOf]; omega
    · go_wp2
      go_ret
      exact ⟨rfl, hB⟩
theorem markHitS_any (g c base : Nat) (L : List (Int × Int)) (k : Int) (w : World) (h : OwnE enc2 49 2 w base g c L) (hn : L.length ≤ 4194304) (h0 : 0 ≤ k) (h1 : k ≤ 4611686018427387904) :
    Calls Try.prog 38 #[.slice (some ⟨g, 0, none⟩) L.length c, .int .i64 k] w fun e w' => (e = .returned (.int .i64 (k + 2 * L.length)) ∧ w'.ownsRow base 49 2 (.slice (some ⟨g, 0, none⟩) L.length c) L.length ((mk2 k L.length).flatMap enc2)) ∧ w.grownBy w' (Value.slice (some ⟨g, 0, none⟩) L.length c).ownBlock := by
  go_enter Try.func38, Try.ntmps38
  go_wp2
  go_loopw [1, 5] (fun m i wr => ∃ j : Nat, j ≤ L.length ∧ i = .int .i64 j ∧ m = .int .i64 (k + 2 * j) ∧ wr.ownsRow base 49 2 (.slice (some ⟨g, 0, none⟩) L.length c) L.length ((mkd2 L k j).flatMap enc2) ∧ w.grownBy wr (some g)) (fun _ i _ => L.length - (intOf i).toNat)
  case atStart => exact ⟨0, Nat.zero_le _, rfl, by simp, by rw [mkd2_zero]; exact h, grown_refl _ _⟩
  case round =>
    obtain ⟨j, hj, rfl, rfl, hown, hg⟩ := hrel
    by_cases hlt : j < L.length
    · have hstep := mkd2_step L k hlt
      obtain ⟨f0, f1⟩ := mkd2_get L k hlt
      generalize L[j].1 = p at f0
      generalize L[j].2 = q at f1
      have HS : Hid ((((mkd2 L k j).flatMap enc2).set (j * 2) (.int .i64 (k + 2 * j))).set (j * 2 + 1) (.int .i64 (k + 2 * j + 1)) = (mkd2 L k (j + 1)).flatMap enc2) := hstep
      clear hstep
      have g0 := (hown.cellAt (j * 2) (by omega)).trans f0
      have g1 := (hown.cellAt (j * 2 + 1) (by omega)).trans f1
      have z0 := hown.frozenAt (j * 2)
      have z1 := hown.frozenAt (j * 2 + 1)
      have own5 := ((hown.stored (j * 2) (.int .i64 (k + 2 * j))).1.stored (j * 2 + 1) (.int .i64 (k + 2 * j + 1))).1
      have hg5 := (hown.stored (j * 2) (.int .i64 (k + 2 * j))).2.trans ((hown.stored (j * 2) (.int .i64 (k + 2 * j))).1.stored (j * 2 + 1) (.int .i64 (k + 2 * j + 1))).2
      rw [HS.out] at own5
      have hg6 := hg.trans hg5
      clear hown hg hg5
      go_wp2
      go_roundw
      case rel => exact ⟨j + 1, by omega, by go_num, by go_num, own5, hg6⟩
      case measure => simp [intOf]; omega
    · obtain rfl : j = L.length := by omega
      rw [mkd2_all] at hown
      go_wp2
      go_ret
      exact ⟨⟨rfl, hown⟩, hg⟩
theorem heldHitS_any (A : Option Addr) (c n : Nat) (k : Int) (w : World) (h : Rds w 2 A n ((mk2 k n).flatMap enc2)) (hn : n ≤ 4194304) (h0 : 0 ≤ k) (h1 : k ≤ 4611686018427387904) :
    Calls Try.prog 39 #[.slice A n c, .int .i64 k] w fun e w' => e = .returned (.int .i64 (k + 2 * n)) ∧ Below w.heap.size w w' := by
  go_enter Try.func39, Try.ntmps39
  go_wp2
  go_loop [1, 5] (fun m i => ∃ j : Nat, j ≤ n ∧ i = .int .i64 j ∧ m = .int .i64 (k + 2 * j)) (fun _ i => n - (intOf i).toNat)
  case atStart => exact ⟨0, Nat.zero_le _, rfl, by simp⟩
  case round =>
    obtain ⟨j, hj, rfl, rfl⟩ := hrel
    by_cases hlt : j < n
    · have h2 : Rds w 2 A (mk2 k n).length ((mk2 k n).flatMap enc2) := by rw [mk2_len]; exact h
      obtain ⟨b, off, rfl, hb, x0, x1⟩ := h2.at2 (k := j) (by rw [mk2_len]; exact hlt)
      rw [(mk2_get k hlt).1] at x0
      rw [(mk2_get k hlt).2] at x1
      go_wp2
      go_round
      case rel => exact ⟨j + 1, by omega, by go_num, by go_num⟩
      case measure => simp [intOf]; omega
    · obtain rfl : j = n := by omega
      go_wp2
      go_ret
      exact ⟨rfl, Below.refl _ _⟩
end Go.Proofs.Yteomiaffdbbpoaa
