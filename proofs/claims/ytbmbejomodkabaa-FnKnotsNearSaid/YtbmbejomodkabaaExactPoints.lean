/-
  Contracts of what the exact laws call on slices of impl.Point.
-/
import Derived.Test.YtbmbejomodkabaaPtKn
namespace Go.Proofs.Ytbmbejomodkabaa
open Go.RowKit
set_option linter.unusedVariables false

set_option maxHeartbeats 4000000 in
set_option maxRecDepth 5000 in
theorem toPoint_any (v0 : Int) (v1 : Int) (v2 : Int) (w : World) :
    Calls Try.prog 46 #[.agg #[.int .i64 v0, .int .i64 v1, .int .i64 v2]] w fun e w' => e = .returned (.agg #[.int .i64 v0, .int .i64 v1, .int .i64 v2]) ∧ Below w.heap.size w w' := by
  go_enter Try.func46, Try.ntmps46
  go_wp2
  exact bodyPost_ret (v := .agg #[.int .i64 v0, .int .i64 v1, .int .i64 v2]) (by simp [results, Try.results46, go_sem]) rfl ⟨rfl, by (repeat' (first | exact Below.refl _ _ | apply Below.alloc | apply Below.setCell | apply Below.drew | apply below_draws)) <;> (first | omega | (simp <;> omega))⟩
theorem szPointS_any (A : Option Addr) (n c : Nat) (left : Int) (w : World) (hn : n ≤ 9223372036854775807) (h0 : 0 ≤ left) (h1 : left ≤ 1048576) :
    Calls Try.prog 24 #[.slice A n c, .int .i64 left] w (Sz1 n left w) := by
  by_cases h : left - (n : Int) < 0
  · go_enter Try.func24, Try.ntmps24
    go_wp2
    go_ret
    exact ⟨_, ⟨rfl, .inr (by omega), by omega, .inl (by omega)⟩, rfl⟩
  · go_enter Try.func24, Try.ntmps24
    go_wp2
    go_ret
    exact ⟨_, ⟨rfl, .inl rfl, by omega, .inr (by omega)⟩, rfl⟩
theorem madeCells_Point (n : Nat) : (madeCells (.agg #[.int .i64 0, .int .i64 0, .int .i64 0] : Value).cells (n * 3)).toList = List.replicate (n * 3) (.int .i64 0) := by
  have hz : (.agg #[.int .i64 0, .int .i64 0, .int .i64 0] : Value).cells = (Array.replicate 3 (.int .i64 0 : Value)) := rfl
  apply List.ext_getElem?
  intro j
  by_cases hj : j < n * 3
  · have h2 : j % 3 < 3 := Nat.mod_lt _ (by omega)
    rw [hz]
    simp [madeCells, hj, h2]
  · simp [madeCells, hj]
set_option maxHeartbeats 800000 in
set_option maxRecDepth 5000 in
theorem toPointS_any (A : Option Addr) (c : Nat) (L : List Pt) (w : World) (h : Rds w 3 A L.length (L.flatMap encPt)) (hn : L.length ≤ 1048576) :
    Calls Try.prog 25 #[.slice A L.length c] w fun e w' => ∃ g : Nat, (e = .returned (.slice (some ⟨g, 0, none⟩) L.length L.length) ∧ OwnE encPt 29 3 w' w.heap.size g L.length L) ∧ Below w.heap.size w w' := by
  obtain ⟨i0, z, hi, hz0, hz1, hz2, hzs⟩ := rowTPoint.info
  have hz0' : i0.zero = some (.agg #[.int .i64 0, .int .i64 0, .int .i64 0]) := by
    have := infoPoint'
    rw [hi] at this
    simp only [Option.map_some, Option.some.injEq, Prod.mk.injEq] at this
    exact this.1
  obtain ⟨wm, hmk, hown0, hg0⟩ := run_make_full (P := Try.prog) w w.heap.size 23 29 i0 _ 3 Try.underlying23 hi hz0' hz1 .i64 .i64 L.length (by rw [hz2]; omega) (by unfold maxLen; omega) (Nat.le_refl _)
  have hB0 : Below w.heap.size w wm := (Below.refl _ _).grown hg0 (Nat.le_refl _) (fun k hk => by cases hk)
  clear hz0 hzs
  have hXl := fl_len flPt_len L
  obtain ⟨X, hX⟩ : ∃ X, X = L.flatMap flPt := ⟨_, rfl⟩
  rw [← hX] at hXl
  have HX : Hid (X = L.flatMap flPt) := hX
  clear hX
  go_enter Try.func25, Try.ntmps25
  go_wp2
  go_loopw [4] (fun i wr => ∃ k : Nat, k ≤ L.length ∧ i = .int .i64 k ∧ wr.ownsRow w.heap.size 29 3 (.slice (some ⟨w.heap.size, 0, none⟩) L.length L.length) L.length (fillZ X (k * 3)) ∧ Below w.heap.size w wr) (fun i _ => L.length - (intOf i).toNat)
  case atStart => exact ⟨0, Nat.zero_le _, rfl, by rw [Nat.zero_mul, fillZ_zero, hXl, ← madeCells_Point]; exact hown0, hB0⟩
  case round =>
    obtain ⟨k, hk, rfl, hown, hB⟩ := hrel
    by_cases hlt : k < L.length
    · obtain ⟨b, off, rfl, hb, x0, x1, x2⟩ := (h.below hB).atPt hlt
      have f0 : (fillZ X (k * 3))[k * 3]? = some (.int .i64 0) := fillZ_get X (by omega) (by omega)
      have hs0 := fillZ_step X (k := k * 3) (v := L[k].i) (by rw [HX.out]; exact fl_get flPt_len hlt (by omega : 0 < 3))
      have f1 : (fillZ X (k * 3))[k * 3 + 1]? = some (.int .i64 0) := fillZ_get X (by omega) (by omega)
      have hs1 := fillZ_step X (k := k * 3 + 1) (v := L[k].x) (by rw [HX.out]; exact fl_get flPt_len hlt (by omega : 1 < 3))
      have f2 : (fillZ X (k * 3))[k * 3 + 2]? = some (.int .i64 0) := fillZ_get X (by omega) (by omega)
      have hs2 := fillZ_step X (k := k * 3 + 2) (v := L[k].y) (by rw [HX.out]; exact fl_get flPt_len hlt (by omega : 2 < 3))
      generalize L[k].i = p0 at x0 hs0
      generalize L[k].x = p1 at x1 hs1
      generalize L[k].y = p2 at x2 hs2
      have HS0 : Hid ((fillZ X (k * 3)).set (k * 3) (.int .i64 p0) = fillZ X (k * 3 + 1)) := hs0
      have HS1 : Hid ((fillZ X (k * 3 + 1)).set (k * 3 + 1) (.int .i64 p1) = fillZ X (k * 3 + 2)) := hs1
      have HS2 : Hid ((fillZ X (k * 3 + 2)).set (k * 3 + 2) (.int .i64 p2) = fillZ X ((k + 1) * 3)) := by show _ = _; rw [hs2]; congr 1; omega
      clear hs0 hs1 hs2
      clear hXl
      go_wp2_with (go_at_call 46; refine (toPoint_any p0 p1 p2 _).mono ?_; rintro e w4 ⟨rfl, hb4⟩; have own4 := own_below hown hb4; have g0 := (own4.cellAt (k * 3) (by omega)).trans f0; have z0 := own4.frozenAt (k * 3); have g1 := (own4.cellAt (k * 3 + 1) (by omega)).trans f1; have z1 := own4.frozenAt (k * 3 + 1); have g2 := (own4.cellAt (k * 3 + 2) (by omega)).trans f2; have z2 := own4.frozenAt (k * 3 + 2))
      have o0 := (own4.stored (k * 3) (.int .i64 p0)).1
      rw [HS0.out] at o0
      have o1 := (o0.stored (k * 3 + 1) (.int .i64 p1)).1
      rw [HS1.out] at o1
      have o2 := (o1.stored (k * 3 + 2) (.int .i64 p2)).1
      rw [HS2.out] at o2
      have hB5 := ((((hB.trans (hb4.mono hB.size)).setCell (p := ⟨w.heap.size, k * 3, none⟩) (Nat.le_refl _) (.int .i64 p0)).setCell (p := ⟨w.heap.size, k * 3 + 1, none⟩) (Nat.le_refl _) (.int .i64 p1)).setCell (p := ⟨w.heap.size, k * 3 + 2, none⟩) (Nat.le_refl _) (.int .i64 p2))
      go_roundw
      case rel => exact ⟨k + 1, by omega, by go_num, o2, hB5⟩
      case measure => simp [intOf]; omega
    · obtain rfl : k = L.length := by omega
      rw [show L.length * 3 = X.length by omega, fillZ_all, HX.out, ← encPt_flat] at hown
      go_wp2
      go_ret
      exact ⟨w.heap.size, ⟨rfl, hown⟩, hB⟩
theorem eqPoint_same (v0 : Int) (v1 : Int) (v2 : Int) (w : World) :
    Calls Try.prog 47 #[.agg #[.int .i64 v0, .int .i64 v1, .int .i64 v2], .agg #[.int .i64 v0, .int .i64 v1, .int .i64 v2]] w fun e w' => e = .returned (.bool true) ∧ Below w.heap.size w w' := by
  go_enter Try.func47, Try.ntmps47
  go_wp2
  go_ret
  exact ⟨rfl, by (repeat' (first | exact Below.refl _ _ | apply Below.alloc | apply Below.setCell | apply Below.drew | apply below_draws)) <;> (first | omega | (simp <;> omega))⟩
set_option maxHeartbeats 800000 in
set_option maxRecDepth 5000 in
theorem eqPointS_same (A A' : Option Addr) (c c' : Nat) (L : List Pt) (w : World) (h : Rds w 3 A L.length (L.flatMap encPt)) (h' : Rds w 3 A' L.length (L.flatMap encPt)) (hn : L.length ≤ 4194304) :
    Calls Try.prog 26 #[.slice A L.length c, .slice A' L.length c'] w fun e w' => e = .returned (.bool true) ∧ Below w.heap.size w w' := by
  go_enter Try.func26, Try.ntmps26
  go_wp2
  go_loopw [5] (fun i wr => ∃ k : Nat, k ≤ L.length ∧ i = .int .i64 k ∧ Below w.heap.size w wr) (fun i _ => L.length - (intOf i).toNat)
  case atStart => exact ⟨0, Nat.zero_le _, rfl, Below.refl _ _⟩
  case round =>
    obtain ⟨k, hk, rfl, hB⟩ := hrel
    by_cases hlt : k < L.length
    · obtain ⟨b, off, rfl, hb, x0, x1, x2⟩ := (h.below hB).atPt hlt
      obtain ⟨b', off', rfl, hb', x0', x1', x2'⟩ := (h'.below hB).atPt hlt
      generalize L[k].i = p0 at x0 x0'
      generalize L[k].x = p1 at x1 x1'
      generalize L[k].y = p2 at x2 x2'
      have k0 : ∀ w', Below wr.heap.size wr w' → w'.cell? ⟨b, off + k * 3, none⟩ = some (.int .i64 p0) := fun w' h => (h.cell (p := ⟨_, _, _⟩) hb).trans x0
      have l0 : ∀ w', Below wr.heap.size wr w' → w'.cell? ⟨b', off' + k * 3, none⟩ = some (.int .i64 p0) := fun w' h => (h.cell (p := ⟨_, _, _⟩) hb').trans x0'
      have k1 : ∀ w', Below wr.heap.size wr w' → w'.cell? ⟨b, off + k * 3 + 1, none⟩ = some (.int .i64 p1) := fun w' h => (h.cell (p := ⟨_, _, _⟩) hb).trans x1
      have l1 : ∀ w', Below wr.heap.size wr w' → w'.cell? ⟨b', off' + k * 3 + 1, none⟩ = some (.int .i64 p1) := fun w' h => (h.cell (p := ⟨_, _, _⟩) hb').trans x1'
      have k2 : ∀ w', Below wr.heap.size wr w' → w'.cell? ⟨b, off + k * 3 + 2, none⟩ = some (.int .i64 p2) := fun w' h => (h.cell (p := ⟨_, _, _⟩) hb).trans x2
      have l2 : ∀ w', Below wr.heap.size wr w' → w'.cell? ⟨b', off' + k * 3 + 2, none⟩ = some (.int .i64 p2) := fun w' h => (h.cell (p := ⟨_, _, _⟩) hb').trans x2'
      clear x0 x1 x2 x0' x1' x2' hb hb' h h'
      go_wp2_with fail
      go_region_held3 (fun w' => Below wr.heap.size wr w')
        ((repeat' (first | exact Below.refl _ _ | assumption | apply Below.alloc | apply Below.setCell | apply Below.drew | (refine Below.trans ?_ (Below.mono (by assumption) ?_)))) <;> (first | exact Below.size (by assumption) | omega | (simp; done) | (simp; omega) | (refine Nat.le_trans ?_ (Below.size (by assumption)); (first | omega | (simp <;> omega)))))
        (first | (go_at_call 47; refine (eqPoint_same _ _ _ _).mono ?_; rintro e w' ⟨rfl, hb⟩))
      rename_i hH
      go_wp2
      go_roundw
      case rel => exact ⟨k + 1, by omega, by go_num, hB.trans (hH.mono hB.size)⟩
      case measure => simp [intOf]; omega
    · go_wp2
      go_ret
      exact ⟨rfl, hB⟩
set_option maxHeartbeats 1600000 in
set_option maxRecDepth 5000 in
theorem markPointS_any (g c base : Nat) (L : List Pt) (k : Int) (w : World) (h : OwnE encPt 29 3 w base g c L) (hn : L.length ≤ 4194304) (h0 : 0 ≤ k) (h1 : k ≤ 4611686018427387904) :
    Calls Try.prog 27 #[.slice (some ⟨g, 0, none⟩) L.length c, .int .i64 k] w fun e w' => (e = .returned (.int .i64 (k + 3 * L.length)) ∧ w'.ownsRow base 29 3 (.slice (some ⟨g, 0, none⟩) L.length c) L.length (ints (mkZ k (L.length * 3)))) ∧ w.grownBy w' (Value.slice (some ⟨g, 0, none⟩) L.length c).ownBlock := by
  have h' := h
  unfold OwnE at h'
  rw [encPt_flat] at h'
  have hXl := fl_len flPt_len L
  generalize L.flatMap flPt = X at h' hXl
  clear h
  go_enter Try.func27, Try.ntmps27
  go_wp2
  go_loopw [1, 5] (fun m i wr => ∃ j : Nat, j ≤ L.length ∧ i = .int .i64 j ∧ m = .int .i64 (k + 3 * j) ∧ wr.ownsRow base 29 3 (.slice (some ⟨g, 0, none⟩) L.length c) L.length (ints (mkdZ X k (j * 3))) ∧ w.grownBy wr (some g)) (fun _ i _ => L.length - (intOf i).toNat)
  case atStart => exact ⟨0, Nat.zero_le _, rfl, by simp, by rw [Nat.zero_mul, mkdZ_zero]; exact h', grown_refl _ _⟩
  case round =>
    obtain ⟨j, hj, rfl, rfl, hown, hg⟩ := hrel
    by_cases hlt : j < L.length
    · have hs0 := mkdZ_step X k (j := j * 3) (by omega)
      obtain ⟨q0, f0⟩ := mkdZ_get X k (i := j * 3) (j := j * 3) (by omega) (by omega)
      have e0 : (k : Int) + ((j * 3 : Nat) : Int) = k + 3 * j := by push_cast; omega
      rw [e0] at hs0
      have HS0 : Hid ((ints (mkdZ X k (j * 3))).set (j * 3) (.int .i64 (k + 3 * j)) = ints (mkdZ X k (j * 3 + 1))) := hs0
      have hs1 := mkdZ_step X k (j := j * 3 + 1) (by omega)
      obtain ⟨q1, f1⟩ := mkdZ_get X k (i := j * 3) (j := j * 3 + 1) (by omega) (by omega)
      have e1 : (k : Int) + ((j * 3 + 1 : Nat) : Int) = k + 3 * j + 1 := by push_cast; omega
      rw [e1] at hs1
      have HS1 : Hid ((ints (mkdZ X k (j * 3 + 1))).set (j * 3 + 1) (.int .i64 (k + 3 * j + 1)) = ints (mkdZ X k (j * 3 + 2))) := hs1
      have hs2 := mkdZ_step X k (j := j * 3 + 2) (by omega)
      obtain ⟨q2, f2⟩ := mkdZ_get X k (i := j * 3) (j := j * 3 + 2) (by omega) (by omega)
      have e2 : (k : Int) + ((j * 3 + 2 : Nat) : Int) = k + 3 * j + 1 + 1 := by push_cast; omega
      rw [e2] at hs2
      have HS2 : Hid ((ints (mkdZ X k (j * 3 + 2))).set (j * 3 + 2) (.int .i64 (k + 3 * j + 1 + 1)) = ints (mkdZ X k ((j + 1) * 3))) := by show _ = _; rw [hs2]; congr 2; omega
      clear hs0 e0 hs1 e1 hs2 e2
      have g0 := (hown.cellAt (j * 3) (by omega)).trans f0
      have z0 := hown.frozenAt (j * 3)
      have g1 := (hown.cellAt (j * 3 + 1) (by omega)).trans f1
      have z1 := hown.frozenAt (j * 3 + 1)
      have g2 := (hown.cellAt (j * 3 + 2) (by omega)).trans f2
      have z2 := hown.frozenAt (j * 3 + 2)
      have o0 := hown.stored (j * 3) (.int .i64 (k + 3 * j))
      rw [HS0.out] at o0
      have o1 := o0.1.stored (j * 3 + 1) (.int .i64 (k + 3 * j + 1))
      rw [HS1.out] at o1
      have o2 := o1.1.stored (j * 3 + 2) (.int .i64 (k + 3 * j + 1 + 1))
      rw [HS2.out] at o2
      have hg6 := hg.trans ((o0.2.trans o1.2).trans o2.2)
      have own5 := o2.1
      clear o0 o1 o2 hown hg hXl
      clear HS0 f0 HS1 f1 HS2 f2
      go_wp2
      go_roundw
      case rel => exact ⟨j + 1, by omega, by go_num, by go_num, own5, hg6⟩
      case measure => simp [intOf]; omega
    · obtain rfl : j = L.length := by omega
      rw [← hXl, mkdZ_all, hXl] at hown
      go_wp2
      go_ret
      exact ⟨⟨rfl, hown⟩, hg⟩
theorem toBox_any (v0 v1 v2 v3 : Int) (w : World) :
    Calls Try.prog 54 #[.agg #[.int .i64 v0, .int .i64 v1, .int .i64 v2, .int .i64 v3]] w fun e w' => e = .returned (.agg #[.int .i64 v0, .int .i64 v1, .int .i64 v2, .int .i64 v3]) ∧ Below w.heap.size w w' := by
  go_enter Try.func54, Try.ntmps54
  go_wp2
  exact bodyPost_ret (v := .agg #[.int .i64 v0, .int .i64 v1, .int .i64 v2, .int .i64 v3]) (by simp [results, Try.results54, go_sem]) rfl ⟨rfl, by (repeat' (first | exact Below.refl _ _ | apply Below.alloc | apply Below.setCell | apply Below.drew | apply below_draws)) <;> (first | omega | (simp <;> omega))⟩
theorem eqBox_same (v0 v1 v2 v3 : Int) (w : World) :
    Calls Try.prog 55 #[.agg #[.int .i64 v0, .int .i64 v1, .int .i64 v2, .int .i64 v3], .agg #[.int .i64 v0, .int .i64 v1, .int .i64 v2, .int .i64 v3]] w fun e w' => e = .returned (.bool true) ∧ Below w.heap.size w w' := by
  go_enter Try.func55, Try.ntmps55
  go_wp2
  go_ret
  exact ⟨rfl, by (repeat' (first | exact Below.refl _ _ | apply Below.alloc | apply Below.setCell | apply Below.drew | apply below_draws)) <;> (first | omega | (simp <;> omega))⟩
end Go.Proofs.Ytbmbejomodkabaa
