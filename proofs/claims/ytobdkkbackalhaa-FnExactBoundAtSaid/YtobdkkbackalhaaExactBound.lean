/-
  The walk of FnExactBoundAt.
-/
import Derived.Test.YtobdkkbackalhaaBound
import Derived.Test.YtobdkkbackalhaaStructs
import Derived.OwnWalk
import Derived.RegionTactic
import Derived.Deep.RegionHeld3
namespace Go.Proofs.Ytobdkkbackalhaa
open Go.RowKit
set_option linter.unusedVariables false

theorem own_form {w : World} {base e size n : Nat} {v : Value} {xs : List Value} (h : w.ownsRow base e size v n xs) : ∃ A c, v = .slice A n c := by
  rcases h.2 with ⟨h', h0⟩ | ⟨g, cap, cur, hv, _⟩
  · exact ⟨none, 0, by rw [h', h0]⟩
  · exact ⟨_, _, hv⟩
theorem infoBlock' : (Try.prog.info? 44).map (fun i => (i.zero, i.size, i.bytes)) = some (some (.agg #[.int .i64 0, .int .i64 0]), 2, 16) := by kernel_rfl
theorem info_parts' {P : Program} {t : TypeId} {z : Option Value} {s b : Nat} (h : (P.info? t).map (fun i => (i.zero, i.size, i.bytes)) = some (z, s, b)) : ∃ i, P.info? t = some i ∧ i.zero = z ∧ i.size = s ∧ i.bytes = b := by
  cases hi : P.info? t with
  | none => rw [hi] at h; cases h
  | some i =>
    rw [hi] at h
    simp only [Option.map_some, Option.some.injEq, Prod.mk.injEq] at h
    exact ⟨i, rfl, h.1, h.2.1, h.2.2⟩

theorem toBlock_any (a b : Int) (w : World) :
    Calls Try.prog 42 #[.agg #[.int .i64 a, .int .i64 b]] w fun e w' => e = .returned (.agg #[.int .i64 a, .int .i64 b]) ∧ Below w.heap.size w w' := by
  go_enter Try.func42, Try.ntmps42
  go_wp2
  exact bodyPost_ret (v := .agg #[.int .i64 a, .int .i64 b]) (by simp [results, Try.results42, go_sem]) rfl ⟨rfl, by (repeat' (first | exact Below.refl _ _ | apply Below.alloc | apply Below.setCell | apply Below.drew | apply below_draws)) <;> (first | omega | (simp <;> omega))⟩

theorem eqBlock_same (a b : Int) (w : World) :
    Calls Try.prog 43 #[.agg #[.int .i64 a, .int .i64 b], .agg #[.int .i64 a, .int .i64 b]] w fun e w' => e = .returned (.bool true) ∧ Below w.heap.size w w' := by
  go_enter Try.func43, Try.ntmps43
  go_wp2
  go_ret
  exact ⟨rfl, by (repeat' (first | exact Below.refl _ _ | apply Below.alloc | apply Below.setCell | apply Below.drew | apply below_draws)) <;> (first | omega | (simp <;> omega))⟩

theorem szBlockS_any (A : Option Addr) (n c : Nat) (w : World) (hn : n ≤ 9223372036854775807) :
    Calls Try.prog 27 #[.slice A n c, .int .i64 1048576] w fun e w' => e = .returned (.int .i64 (if n ≤ 1048576 then 1048576 - (n : Int) else -1)) ∧ w = w' := by
  by_cases h : n ≤ 1048576
  · have H : Hid ((if n ≤ 1048576 then 1048576 - (n : Int) else -1) = 1048576 - (n : Int)) := if_pos h
    go_enter Try.func27, Try.ntmps27
    go_wp2
    go_ret
    exact ⟨rfl, rfl⟩
  · have H : Hid ((if n ≤ 1048576 then 1048576 - (n : Int) else -1) = -1) := if_neg h
    go_enter Try.func27, Try.ntmps27
    go_wp2
    go_ret
    exact ⟨rfl, rfl⟩

theorem own_below {w w' : World} {base e size n : Nat} {v : Value} {xs : List Value} (h : w.ownsRow base e size v n xs) (hb : Below w.heap.size w w') : w'.ownsRow base e size v n xs :=
  h.kept (row := none) ⟨hb.os, hb.tape, hb.output, hb.size, fun k hk _ => hb.block k hk⟩ (Classical.em _)
theorem madeCells_two (n : Nat) : (madeCells (Value.agg #[.int .i64 0, .int .i64 0]).cells (n * 2)).toList = List.replicate (n * 2) (.int .i64 0) := by
  apply List.ext_getElem?
  intro j
  by_cases hj : j < n * 2
  · have h2 : j % 2 = 0 ∨ j % 2 = 1 := by omega
    rcases h2 with h2 | h2 <;> simp [madeCells, hj, Value.cells, h2]
  · simp [madeCells, hj]
/-- a row that is filled from its head: the first k records, then noughts. -/
def fill2 (L : List (Int × Int)) (k : Nat) : List Value := (L.take k).flatMap enc2 ++ List.replicate ((L.length - k) * 2) (.int .i64 0)
theorem fill2_zero (L : List (Int × Int)) : fill2 L 0 = List.replicate (L.length * 2) (.int .i64 0) := by simp [fill2]
theorem fill2_all (L : List (Int × Int)) : fill2 L L.length = L.flatMap enc2 := by simp [fill2]
theorem fill2_split (L : List (Int × Int)) {k : Nat} (hk : k < L.length) : fill2 L k = (L.take k).flatMap enc2 ++ (.int .i64 0 :: .int .i64 0 :: List.replicate ((L.length - (k + 1)) * 2) (.int .i64 0)) := by
  unfold fill2
  rw [show (L.length - k) * 2 = ((L.length - (k + 1)) * 2 + 1) + 1 by omega, List.replicate_succ, List.replicate_succ]
theorem fill2_len (L : List (Int × Int)) {k : Nat} (hk : k ≤ L.length) : ((L.take k).flatMap enc2).length = k * 2 := by
  rw [flat_len enc2_len, List.length_take, Nat.min_eq_left hk]
theorem fill2_get (L : List (Int × Int)) {k : Nat} (hk : k < L.length) : (fill2 L k)[k * 2]? = some (.int .i64 0) ∧ (fill2 L k)[k * 2 + 1]? = some (.int .i64 0) := by
  have hl := fill2_len L (Nat.le_of_lt hk)
  rw [fill2_split L hk]
  constructor
  · rw [List.getElem?_append_right (by omega), hl, Nat.sub_self]; rfl
  · rw [List.getElem?_append_right (by omega), hl, show k * 2 + 1 - k * 2 = 1 by omega]; rfl
theorem fill2_step (L : List (Int × Int)) {k : Nat} (hk : k < L.length) : ((fill2 L k).set (k * 2) (.int .i64 L[k].1)).set (k * 2 + 1) (.int .i64 L[k].2) = fill2 L (k + 1) := by
  have hl := fill2_len L (Nat.le_of_lt hk)
  rw [fill2_split L hk, List.set_append_right _ _ (by omega), hl, Nat.sub_self, List.set_append_right _ _ (by omega), hl, show k * 2 + 1 - k * 2 = 1 by omega]
  unfold fill2
  rw [← List.take_append_getElem hk, List.flatMap_append]
  simp [enc2]
theorem toBlockS_any (A : Option Addr) (c : Nat) (L : List (Int × Int)) (w : World) (h : Rds w 2 A L.length (L.flatMap enc2)) (hn : L.length ≤ 1048576) :
    Calls Try.prog 28 #[.slice A L.length c] w fun e w' => ∃ g : Nat, (e = .returned (.slice (some ⟨g, 0, none⟩) L.length L.length) ∧ w'.ownsRow w.heap.size 44 2 (.slice (some ⟨g, 0, none⟩) L.length L.length) L.length (L.flatMap enc2)) ∧ Below w.heap.size w w' := by
  obtain ⟨i0, hi, hz0, hz1, hz2⟩ := info_parts' infoBlock'
  obtain ⟨wm, hmk, hown0, hg0⟩ := run_make_full (P := Try.prog) w w.heap.size 39 44 i0 _ 2 Try.underlying39 hi hz0 hz1 .i64 .i64 L.length (by rw [hz2]; omega) (by unfold maxLen; omega) (Nat.le_refl _)
  have hB0 : Below w.heap.size w wm := (Below.refl _ _).grown hg0 (Nat.le_refl _) (fun k hk => by cases hk)
  go_enter Try.func28, Try.ntmps28
  go_wp2
  go_loopw [4] (fun i wr => ∃ k : Nat, k ≤ L.length ∧ i = .int .i64 k ∧ wr.ownsRow w.heap.size 44 2 (.slice (some ⟨w.heap.size, 0, none⟩) L.length L.length) L.length (fill2 L k) ∧ Below w.heap.size w wr) (fun i _ => L.length - (intOf i).toNat)
  case atStart => exact ⟨0, Nat.zero_le _, rfl, by rw [fill2_zero, ← madeCells_two]; exact hown0, hB0⟩
  case round =>
    obtain ⟨k, hk, rfl, hown, hB⟩ := hrel
    by_cases hlt : k < L.length
    · obtain ⟨b, off, rfl, hb, x0, x1⟩ := (h.below hB).at2 hlt
      obtain ⟨f0, f1⟩ := fill2_get L hlt
      have hstep := fill2_step L hlt
      generalize L[k].1 = p at x0 hstep
      generalize L[k].2 = q at x1 hstep
      have HS : Hid (((fill2 L k).set (k * 2) (.int .i64 p)).set (k * 2 + 1) (.int .i64 q) = fill2 L (k + 1)) := hstep
      clear hstep
      go_wp2_with (go_at_call 42; refine (toBlock_any p q _).mono ?_; rintro e w4 ⟨rfl, hb4⟩; have own4 := own_below hown hb4; have g0 := (own4.cellAt (k * 2) (by omega)).trans f0; have g1 := (own4.cellAt (k * 2 + 1) (by omega)).trans f1; have z0 := own4.frozenAt (k * 2); have z1 := own4.frozenAt (k * 2 + 1))
      have own5 := ((own4.stored (k * 2) (.int .i64 p)).1.stored (k * 2 + 1) (.int .i64 q)).1
      rw [HS.out] at own5
      have hB5 := (((hB.trans (hb4.mono hB.size)).setCell (p := ⟨w.heap.size, k * 2, none⟩) (Nat.le_refl _) (.int .i64 p)).setCell (p := ⟨w.heap.size, k * 2 + 1, none⟩) (Nat.le_refl _) (.int .i64 q))
      go_roundw
      case rel => exact ⟨k + 1, by omega, by go_num, own5, hB5⟩
      case measure => simp [intOf]; omega
    · obtain rfl : k = L.length := by omega
      rw [fill2_all] at hown
      go_wp2
      go_ret
      exact ⟨w.heap.size, ⟨rfl, hown⟩, hB⟩

theorem eqBlockS_same (A A' : Option Addr) (c c' : Nat) (L : List (Int × Int)) (w : World) (h : Rds w 2 A L.length (L.flatMap enc2)) (h' : Rds w 2 A' L.length (L.flatMap enc2)) (hn : L.length ≤ 1048576) :
    Calls Try.prog 29 #[.slice A L.length c, .slice A' L.length c'] w fun e w' => e = .returned (.bool true) ∧ Below w.heap.size w w' := by
  go_enter Try.func29, Try.ntmps29
  go_wp2
  go_loopw [5] (fun i wr => ∃ k : Nat, k ≤ L.length ∧ i = .int .i64 k ∧ Below w.heap.size w wr) (fun i _ => L.length - (intOf i).toNat)
  case atStart => exact ⟨0, Nat.zero_le _, rfl, Below.refl _ _⟩
  case round =>
    obtain ⟨k, hk, rfl, hB⟩ := hrel
    by_cases hlt : k < L.length
    · obtain ⟨b, off, rfl, hb, x0, x1⟩ := (h.below hB).at2 hlt
      obtain ⟨b', off', rfl, hb', x0', x1'⟩ := (h'.below hB).at2 hlt
      generalize L[k].1 = p at x0 x0'
      generalize L[k].2 = q at x1 x1'
      have k1 : ∀ w', Below wr.heap.size wr w' → w'.cell? ⟨b, off + k * 2, none⟩ = some (.int .i64 p) := fun w' h => (h.cell (p := ⟨_, _, _⟩) hb).trans x0
      have k2 : ∀ w', Below wr.heap.size wr w' → w'.cell? ⟨b, off + k * 2 + 1, none⟩ = some (.int .i64 q) := fun w' h => (h.cell (p := ⟨_, _, _⟩) hb).trans x1
      have k3 : ∀ w', Below wr.heap.size wr w' → w'.cell? ⟨b', off' + k * 2, none⟩ = some (.int .i64 p) := fun w' h => (h.cell (p := ⟨_, _, _⟩) hb').trans x0'
      have k4 : ∀ w', Below wr.heap.size wr w' → w'.cell? ⟨b', off' + k * 2 + 1, none⟩ = some (.int .i64 q) := fun w' h => (h.cell (p := ⟨_, _, _⟩) hb').trans x1'
      clear x0 x1 x0' x1' hb hb' h h'
      go_wp2_with fail
      go_region_held3 (fun w' => Below wr.heap.size wr w')
        ((repeat' (first | exact Below.refl _ _ | assumption | apply Below.alloc | apply Below.setCell | apply Below.drew | (refine Below.trans ?_ (Below.mono (by assumption) ?_)))) <;> (first | exact Below.size (by assumption) | omega | (simp; done) | (simp; omega) | (refine Nat.le_trans ?_ (Below.size (by assumption)); (first | omega | (simp <;> omega)))))
        (first | (go_at_call 43; refine (eqBlock_same _ _ _).mono ?_; rintro e w' ⟨rfl, hb⟩))
      rename_i hH
      go_wp2
      go_roundw
      case rel => exact ⟨k + 1, by omega, by go_num, hB.trans (hH.mono hB.size)⟩
      case measure => simp [intOf]; omega
    · go_wp2
      go_ret
      exact ⟨rfl, hB⟩

theorem walk_FnExactBoundAt (A : Option Addr) (len cap : Nat) (z : List (Int × Int)) (id : Int) (_ : (Lit.int .i64 id).wf = true) (w : World) (hz : z.length = len) (h : Rds w 2 A len (z.flatMap enc2) ∧ len ≤ cap ∧ cap ≤ maxLen) :
    Calls Try.prog 9 #[.slice A len cap, .int .i64 id] w fun e w' => e = .returned (.bool true) ∧ Below w.heap.size w w' := by
  subst hz
  obtain ⟨h, hc1, hc2⟩ := h
  by_cases hs : z.length ≤ 1048576
  · have hS : Hid ((if z.length ≤ 1048576 then 1048576 - (z.length : Int) else -1) = 1048576 - (z.length : Int)) := if_pos hs
    go_enter Try.func9, Try.ntmps9
    go_wp2_with (go_at_call 27; refine (szBlockS_any _ _ _ _ (by unfold maxLen at hc2; omega)).mono ?_; rintro e w1 ⟨rfl, rfl⟩; rw [hS.out])
    refine (toBlockS_any _ _ z _ h hs).mono ?_
    rintro e w1 ⟨g1, ⟨rfl, o1⟩, hb1⟩
    go_wp2_with fail
    refine (specBoundAt_any _ _ z _ _ (Rds.own o1) hs).mono ?_
    rintro e w2 ⟨rfl, q, rfl⟩
    have hb2 : Below w.heap.size w (w1.drewN q) := ⟨hb1.os, hb1.tape, hb1.output, hb1.size, hb1.block⟩
    go_wp2_with fail
    refine (toBlockS_any _ _ z _ (h.below hb2) hs).mono ?_
    rintro e w3 ⟨g3, ⟨rfl, o3⟩, hb3⟩
    have hB3 := hb2.trans (hb3.mono hb2.size)
    go_wp2_with fail
    refine (boundAt_any _ _ z _ _ (Rds.own o3) hs).mono ?_
    rintro e w4 ⟨rfl, hb4⟩
    have hB4 := hB3.trans (hb4.mono hB3.size)
    have o4 := own_below o3 hb4
    go_wp2_with fail
    refine (toBlockS_any _ _ z _ (h.below hB4) hs).mono ?_
    rintro e w5 ⟨g5, ⟨rfl, o5⟩, hb5⟩
    have hB5 := hB4.trans (hb5.mono hB4.size)
    have o6 := own_below o4 hb5
    go_wp2_with fail
    refine (eqBlockS_same _ _ _ _ z _ (Rds.own o6) (Rds.own o5) hs).mono ?_
    rintro e w6 ⟨rfl, hb6⟩
    go_wp2
    go_ret
    exact ⟨rfl, hB5.trans (hb6.mono hB5.size)⟩
  · have hS : Hid ((if z.length ≤ 1048576 then 1048576 - (z.length : Int) else -1) = -1) := if_neg hs
    go_enter Try.func9, Try.ntmps9
    go_wp2_with (go_at_call 27; refine (szBlockS_any _ _ _ _ (by unfold maxLen at hc2; omega)).mono ?_; rintro e w1 ⟨rfl, rfl⟩; rw [hS.out])
    go_ret
    exact ⟨rfl, Below.refl _ _⟩
end Go.Proofs.Ytobdkkbackalhaa
