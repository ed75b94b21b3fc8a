/-
  Contracts of what the exact laws call on slices of impl.Knot.
-/
import Derived.Test.YtbmbejomodkabaaPtKn
import Derived.Test.YtbmbejomodkabaaExactPoints
namespace Go.Proofs.Ytbmbejomodkabaa
open Go.RowKit
set_option linter.unusedVariables false

theorem three_blocks (w : World) (a b c : Obj) : (((w.alloc a).alloc b).alloc c).heap[w.heap.size]? = some a ∧ (((w.alloc a).alloc b).alloc c).heap[w.heap.size + 1]? = some b ∧ (((w.alloc a).alloc b).alloc c).heap[w.heap.size + 1 + 1]? = some c := by
  have h0 := heap_alloc_new w a
  have h1 := heap_alloc_new (w.alloc a) b
  have h2 := heap_alloc_new ((w.alloc a).alloc b) c
  have s1 : (w.alloc a).heap.size = w.heap.size + 1 := by simp
  have s2 : ((w.alloc a).alloc b).heap.size = w.heap.size + 1 + 1 := by simp
  rw [s1] at h1
  rw [s2] at h2
  exact ⟨(heap_alloc_old _ _ (by omega)).trans ((heap_alloc_old _ _ (by omega)).trans h0), (heap_alloc_old _ _ (by omega)).trans h1, h2⟩
theorem bk {B n : Nat} {w w' : World} {o : Obj} (hb : Below B w w') (h : w.heap[n]? = some o) (hl : n < B) : w'.heap[n]? = some o := (hb.block n hl).trans h
theorem set_other {w : World} {n m j : Nat} {v : Value} {o : Obj} (h : w.heap[n]? = some o) (hne : n ≠ m) : (w.setCell ⟨m, j, none⟩ v).heap[n]? = some o := by
  rw [Below.heap_setCell w _ v n (by show n ≠ m; exact hne)]; exact h
set_option maxHeartbeats 4000000 in
set_option maxRecDepth 5000 in
theorem toKnot_any (v0 : Int) (v1 : Int) (v2 : Int) (v3 : Int) (v4 : Int) (v5 : Int) (v6 : Int) (v7 : Int) (w : World) :
    Calls Try.prog 39 #[.agg #[.int .i64 v0, .int .i64 v1, .int .i64 v2, .int .i64 v3, .int .i64 v4, .int .i64 v5, .int .i64 v6, .int .i64 v7]] w fun e w' => e = .returned (.agg #[.int .i64 v0, .int .i64 v1, .int .i64 v2, .int .i64 v3, .int .i64 v4, .int .i64 v5, .int .i64 v6, .int .i64 v7]) ∧ Below w.heap.size w w' := by
  go_enter Try.func39, Try.ntmps39
  obtain ⟨hA, hR, hT⟩ := three_blocks w (.cells #[.int .i64 v0, .int .i64 v1, .int .i64 v2, .int .i64 v3, .int .i64 v4, .int .i64 v5, .int .i64 v6, .int .i64 v7] 67) (.cells #[.int .i64 0, .int .i64 0, .int .i64 0, .int .i64 0, .int .i64 0, .int .i64 0, .int .i64 0, .int .i64 0] 33) (.cells #[.int .i64 0, .int .i64 0, .int .i64 0, .int .i64 0, .int .i64 0, .int .i64 0, .int .i64 0, .int .i64 0] 33)
  have hB0 : Below w.heap.size w (((w.alloc (.cells #[.int .i64 v0, .int .i64 v1, .int .i64 v2, .int .i64 v3, .int .i64 v4, .int .i64 v5, .int .i64 v6, .int .i64 v7] 67)).alloc (.cells #[.int .i64 0, .int .i64 0, .int .i64 0, .int .i64 0, .int .i64 0, .int .i64 0, .int .i64 0, .int .i64 0] 33)).alloc (.cells #[.int .i64 0, .int .i64 0, .int .i64 0, .int .i64 0, .int .i64 0, .int .i64 0, .int .i64 0, .int .i64 0] 33)) := by (repeat' (first | exact Below.refl _ _ | apply Below.alloc | apply Below.setCell | apply Below.drew | apply below_draws)) <;> (first | omega | (simp <;> omega))
  have hs0 : (((w.alloc (.cells #[.int .i64 v0, .int .i64 v1, .int .i64 v2, .int .i64 v3, .int .i64 v4, .int .i64 v5, .int .i64 v6, .int .i64 v7] 67)).alloc (.cells #[.int .i64 0, .int .i64 0, .int .i64 0, .int .i64 0, .int .i64 0, .int .i64 0, .int .i64 0, .int .i64 0] 33)).alloc (.cells #[.int .i64 0, .int .i64 0, .int .i64 0, .int .i64 0, .int .i64 0, .int .i64 0, .int .i64 0, .int .i64 0] 33)).heap.size = w.heap.size + 3 := by simp
  go_wp2_with fail
  generalize (((w.alloc (.cells #[.int .i64 v0, .int .i64 v1, .int .i64 v2, .int .i64 v3, .int .i64 v4, .int .i64 v5, .int .i64 v6, .int .i64 v7] 67)).alloc (.cells #[.int .i64 0, .int .i64 0, .int .i64 0, .int .i64 0, .int .i64 0, .int .i64 0, .int .i64 0, .int .i64 0] 33)).alloc (.cells #[.int .i64 0, .int .i64 0, .int .i64 0, .int .i64 0, .int .i64 0, .int .i64 0, .int .i64 0, .int .i64 0] 33)) = w0 at hA hR hT hB0 hs0 ⊢
  refine (toPoint_any v0 v1 v2 _).mono ?_
  rintro e w1 ⟨rfl, hb1⟩
  replace hA := bk hb1 hA (by omega)
  replace hR := bk hb1 hR (by omega)
  replace hT := bk hb1 hT (by omega)
  have hB1 := hB0.trans (hb1.mono hB0.size)
  have hs1 := hb1.size
  clear hb1
  rw [hs0] at hs1
  clear hs0 hB0
  generalize hn : w.heap.size = n at hA hR hT hB1 hs1 ⊢
  have x0 : w1.cell? ⟨n, 0, none⟩ = some (.int .i64 v0) := by simp [World.cell?, hA]
  have x1 : w1.cell? ⟨n, 1, none⟩ = some (.int .i64 v1) := by simp [World.cell?, hA]
  have x2 : w1.cell? ⟨n, 2, none⟩ = some (.int .i64 v2) := by simp [World.cell?, hA]
  have x3 : w1.cell? ⟨n, 3, none⟩ = some (.int .i64 v3) := by simp [World.cell?, hA]
  have x4 : w1.cell? ⟨n, 4, none⟩ = some (.int .i64 v4) := by simp [World.cell?, hA]
  have x5 : w1.cell? ⟨n, 5, none⟩ = some (.int .i64 v5) := by simp [World.cell?, hA]
  have x6 : w1.cell? ⟨n, 6, none⟩ = some (.int .i64 v6) := by simp [World.cell?, hA]
  have x7 : w1.cell? ⟨n, 7, none⟩ = some (.int .i64 v7) := by simp [World.cell?, hA]
  have y0 : w1.cell? ⟨n + 1 + 1, 0, none⟩ = some (.int .i64 0) := by simp [World.cell?, hT]
  have y1 : w1.cell? ⟨n + 1 + 1, 1, none⟩ = some (.int .i64 0) := by simp [World.cell?, hT]
  have y2 : w1.cell? ⟨n + 1 + 1, 2, none⟩ = some (.int .i64 0) := by simp [World.cell?, hT]
  have y3 : w1.cell? ⟨n + 1 + 1, 3, none⟩ = some (.int .i64 0) := by simp [World.cell?, hT]
  have z0 : w1.frozen? ⟨n + 1 + 1, 0, none⟩ = false := by simp [World.frozen?, hT]
  have z1 : w1.frozen? ⟨n + 1 + 1, 1, none⟩ = false := by simp [World.frozen?, hT]
  have z2 : w1.frozen? ⟨n + 1 + 1, 2, none⟩ = false := by simp [World.frozen?, hT]
  have z3 : w1.frozen? ⟨n + 1 + 1, 3, none⟩ = false := by simp [World.frozen?, hT]
  have hA2 : ((((w1.setCell ⟨n + 1 + 1, 0, none⟩ (.int .i64 v0)).setCell ⟨n + 1 + 1, 1, none⟩ (.int .i64 v1)).setCell ⟨n + 1 + 1, 2, none⟩ (.int .i64 v2)).setCell ⟨n + 1 + 1, 3, none⟩ (.int .i64 v3)).heap[n]? = some (.cells #[.int .i64 v0, .int .i64 v1, .int .i64 v2, .int .i64 v3, .int .i64 v4, .int .i64 v5, .int .i64 v6, .int .i64 v7] 67 (0, 0)) := set_other (set_other (set_other (set_other hA (by omega)) (by omega)) (by omega)) (by omega)
  have hR2 : ((((w1.setCell ⟨n + 1 + 1, 0, none⟩ (.int .i64 v0)).setCell ⟨n + 1 + 1, 1, none⟩ (.int .i64 v1)).setCell ⟨n + 1 + 1, 2, none⟩ (.int .i64 v2)).setCell ⟨n + 1 + 1, 3, none⟩ (.int .i64 v3)).heap[n + 1]? = some (.cells #[.int .i64 0, .int .i64 0, .int .i64 0, .int .i64 0, .int .i64 0, .int .i64 0, .int .i64 0, .int .i64 0] 33 (0, 0)) := set_other (set_other (set_other (set_other hR (by omega)) (by omega)) (by omega)) (by omega)
  have hT2 : ((((w1.setCell ⟨n + 1 + 1, 0, none⟩ (.int .i64 v0)).setCell ⟨n + 1 + 1, 1, none⟩ (.int .i64 v1)).setCell ⟨n + 1 + 1, 2, none⟩ (.int .i64 v2)).setCell ⟨n + 1 + 1, 3, none⟩ (.int .i64 v3)).heap[n + 1 + 1]? = some (.cells #[.int .i64 v0, .int .i64 v1, .int .i64 v2, .int .i64 v3, .int .i64 0, .int .i64 0, .int .i64 0, .int .i64 0] 33 (0, 0)) := by simp [World.setCell, Array.getElem?_modify, hT]
  have hB2 : Below n w ((((w1.setCell ⟨n + 1 + 1, 0, none⟩ (.int .i64 v0)).setCell ⟨n + 1 + 1, 1, none⟩ (.int .i64 v1)).setCell ⟨n + 1 + 1, 2, none⟩ (.int .i64 v2)).setCell ⟨n + 1 + 1, 3, none⟩ (.int .i64 v3)) := (((hB1.setCell (p := ⟨n + 1 + 1, 0, none⟩) (by show n ≤ n + 1 + 1; omega) _).setCell (p := ⟨n + 1 + 1, 1, none⟩) (by show n ≤ n + 1 + 1; omega) _).setCell (p := ⟨n + 1 + 1, 2, none⟩) (by show n ≤ n + 1 + 1; omega) _).setCell (p := ⟨n + 1 + 1, 3, none⟩) (by show n ≤ n + 1 + 1; omega) _
  have hs2 : n + 3 ≤ ((((w1.setCell ⟨n + 1 + 1, 0, none⟩ (.int .i64 v0)).setCell ⟨n + 1 + 1, 1, none⟩ (.int .i64 v1)).setCell ⟨n + 1 + 1, 2, none⟩ (.int .i64 v2)).setCell ⟨n + 1 + 1, 3, none⟩ (.int .i64 v3)).heap.size := by simpa [World.setCell] using hs1
  go_wp2_with fail
  generalize ((((w1.setCell ⟨n + 1 + 1, 0, none⟩ (.int .i64 v0)).setCell ⟨n + 1 + 1, 1, none⟩ (.int .i64 v1)).setCell ⟨n + 1 + 1, 2, none⟩ (.int .i64 v2)).setCell ⟨n + 1 + 1, 3, none⟩ (.int .i64 v3)) = w2 at hA2 hR2 hT2 hB2 hs2 ⊢
  clear hA hR hT hB1 hs1 x0 x1 x2 x3 x4 x5 x6 x7 y0 y1 y2 y3 z0 z1 z2 z3
  refine (toBox_any v4 v5 v6 v7 _).mono ?_
  rintro e w3 ⟨rfl, hb3⟩
  replace hR2 := bk hb3 hR2 (by omega)
  replace hT2 := bk hb3 hT2 (by omega)
  have hB3 := hB2.trans (hb3.mono (by omega))
  clear hb3 hA2 hB2
  have p0 : w3.cell? ⟨n + 1, 0, none⟩ = some (.int .i64 0) := by simp [World.cell?, hR2]
  have p1 : w3.cell? ⟨n + 1, 1, none⟩ = some (.int .i64 0) := by simp [World.cell?, hR2]
  have p2 : w3.cell? ⟨n + 1, 2, none⟩ = some (.int .i64 0) := by simp [World.cell?, hR2]
  have p3 : w3.cell? ⟨n + 1, 3, none⟩ = some (.int .i64 0) := by simp [World.cell?, hR2]
  have p4 : w3.cell? ⟨n + 1, 4, none⟩ = some (.int .i64 0) := by simp [World.cell?, hR2]
  have p5 : w3.cell? ⟨n + 1, 5, none⟩ = some (.int .i64 0) := by simp [World.cell?, hR2]
  have p6 : w3.cell? ⟨n + 1, 6, none⟩ = some (.int .i64 0) := by simp [World.cell?, hR2]
  have p7 : w3.cell? ⟨n + 1, 7, none⟩ = some (.int .i64 0) := by simp [World.cell?, hR2]
  have q0 : w3.frozen? ⟨n + 1, 0, none⟩ = false := by simp [World.frozen?, hR2]
  have q1 : w3.frozen? ⟨n + 1, 1, none⟩ = false := by simp [World.frozen?, hR2]
  have q2 : w3.frozen? ⟨n + 1, 2, none⟩ = false := by simp [World.frozen?, hR2]
  have q3 : w3.frozen? ⟨n + 1, 3, none⟩ = false := by simp [World.frozen?, hR2]
  have q4 : w3.frozen? ⟨n + 1, 4, none⟩ = false := by simp [World.frozen?, hR2]
  have q5 : w3.frozen? ⟨n + 1, 5, none⟩ = false := by simp [World.frozen?, hR2]
  have q6 : w3.frozen? ⟨n + 1, 6, none⟩ = false := by simp [World.frozen?, hR2]
  have q7 : w3.frozen? ⟨n + 1, 7, none⟩ = false := by simp [World.frozen?, hR2]
  have r0 : w3.cell? ⟨n + 1 + 1, 0, none⟩ = some (.int .i64 v0) := by simp [World.cell?, hT2]
  have r1 : w3.cell? ⟨n + 1 + 1, 1, none⟩ = some (.int .i64 v1) := by simp [World.cell?, hT2]
  have r2 : w3.cell? ⟨n + 1 + 1, 2, none⟩ = some (.int .i64 v2) := by simp [World.cell?, hT2]
  have r3 : w3.cell? ⟨n + 1 + 1, 3, none⟩ = some (.int .i64 v3) := by simp [World.cell?, hT2]
  have r4 : w3.cell? ⟨n + 1 + 1, 4, none⟩ = some (.int .i64 0) := by simp [World.cell?, hT2]
  have r5 : w3.cell? ⟨n + 1 + 1, 5, none⟩ = some (.int .i64 0) := by simp [World.cell?, hT2]
  have r6 : w3.cell? ⟨n + 1 + 1, 6, none⟩ = some (.int .i64 0) := by simp [World.cell?, hT2]
  have r7 : w3.cell? ⟨n + 1 + 1, 7, none⟩ = some (.int .i64 0) := by simp [World.cell?, hT2]
  have s0 : w3.frozen? ⟨n + 1 + 1, 0, none⟩ = false := by simp [World.frozen?, hT2]
  have s1 : w3.frozen? ⟨n + 1 + 1, 1, none⟩ = false := by simp [World.frozen?, hT2]
  have s2 : w3.frozen? ⟨n + 1 + 1, 2, none⟩ = false := by simp [World.frozen?, hT2]
  have s3 : w3.frozen? ⟨n + 1 + 1, 3, none⟩ = false := by simp [World.frozen?, hT2]
  have s4 : w3.frozen? ⟨n + 1 + 1, 4, none⟩ = false := by simp [World.frozen?, hT2]
  have s5 : w3.frozen? ⟨n + 1 + 1, 5, none⟩ = false := by simp [World.frozen?, hT2]
  have s6 : w3.frozen? ⟨n + 1 + 1, 6, none⟩ = false := by simp [World.frozen?, hT2]
  have s7 : w3.frozen? ⟨n + 1 + 1, 7, none⟩ = false := by simp [World.frozen?, hT2]
  clear hR2 hT2
  go_wp2
  refine bodyPost_ret (v := .agg #[.int .i64 v0, .int .i64 v1, .int .i64 v2, .int .i64 v3, .int .i64 v4, .int .i64 v5, .int .i64 v6, .int .i64 v7]) (by simp [results, Try.results39, go_sem, *]) rfl ⟨rfl, ?_⟩
  subst hn
  exact ((((((((((((hB3.setCell (p := ⟨w.heap.size + 1 + 1, 4, none⟩) (by show w.heap.size ≤ w.heap.size + 1 + 1; omega) _).setCell (p := ⟨w.heap.size + 1 + 1, 5, none⟩) (by show w.heap.size ≤ w.heap.size + 1 + 1; omega) _).setCell (p := ⟨w.heap.size + 1 + 1, 6, none⟩) (by show w.heap.size ≤ w.heap.size + 1 + 1; omega) _).setCell (p := ⟨w.heap.size + 1 + 1, 7, none⟩) (by show w.heap.size ≤ w.heap.size + 1 + 1; omega) _).setCell (p := ⟨w.heap.size + 1, 0, none⟩) (by show w.heap.size ≤ w.heap.size + 1; omega) _).setCell (p := ⟨w.heap.size + 1, 1, none⟩) (by show w.heap.size ≤ w.heap.size + 1; omega) _).setCell (p := ⟨w.heap.size + 1, 2, none⟩) (by show w.heap.size ≤ w.heap.size + 1; omega) _).setCell (p := ⟨w.heap.size + 1, 3, none⟩) (by show w.heap.size ≤ w.heap.size + 1; omega) _).setCell (p := ⟨w.heap.size + 1, 4, none⟩) (by show w.heap.size ≤ w.heap.size + 1; omega) _).setCell (p := ⟨w.heap.size + 1, 5, none⟩) (by show w.heap.size ≤ w.heap.size + 1; omega) _).setCell (p := ⟨w.heap.size + 1, 6, none⟩) (by show w.heap.size ≤ w.heap.size + 1; omega) _).setCell (p := ⟨w.heap.size + 1, 7, none⟩) (by show w.heap.size ≤ w.heap.size + 1; omega) _)
theorem szKnotS_any (A : Option Addr) (n c : Nat) (left : Int) (w : World) (hn : n ≤ 9223372036854775807) (h0 : 0 ≤ left) (h1 : left ≤ 1048576) :
    Calls Try.prog 16 #[.slice A n c, .int .i64 left] w (Sz1 n left w) := by
  by_cases h : left - (n : Int) < 0
  · go_enter Try.func16, Try.ntmps16
    go_wp2
    go_ret
    exact ⟨_, ⟨rfl, .inr (by omega), by omega, .inl (by omega)⟩, rfl⟩
  · go_enter Try.func16, Try.ntmps16
    go_wp2
    go_ret
    exact ⟨_, ⟨rfl, .inl rfl, by omega, .inr (by omega)⟩, rfl⟩
theorem madeCells_Knot (n : Nat) : (madeCells (.agg #[.int .i64 0, .int .i64 0, .int .i64 0, .int .i64 0, .int .i64 0, .int .i64 0, .int .i64 0, .int .i64 0] : Value).cells (n * 8)).toList = List.replicate (n * 8) (.int .i64 0) := by
  have hz : (.agg #[.int .i64 0, .int .i64 0, .int .i64 0, .int .i64 0, .int .i64 0, .int .i64 0, .int .i64 0, .int .i64 0] : Value).cells = (Array.replicate 8 (.int .i64 0 : Value)) := rfl
  apply List.ext_getElem?
  intro j
  by_cases hj : j < n * 8
  · have h2 : j % 8 < 8 := Nat.mod_lt _ (by omega)
    rw [hz]
    simp [madeCells, hj, h2]
  · simp [madeCells, hj]
set_option maxHeartbeats 4000000 in
set_option maxRecDepth 5000 in
theorem toKnotS_any (A : Option Addr) (c : Nat) (L : List Kn) (w : World) (h : Rds w 8 A L.length (L.flatMap encKn)) (hn : L.length ≤ 1048576) :
    Calls Try.prog 18 #[.slice A L.length c] w fun e w' => ∃ g : Nat, (e = .returned (.slice (some ⟨g, 0, none⟩) L.length L.length) ∧ OwnE encKn 33 8 w' w.heap.size g L.length L) ∧ Below w.heap.size w w' := by
  obtain ⟨i0, z, hi, hz0, hz1, hz2, hzs⟩ := rowTKnot.info
  have hz0' : i0.zero = some (.agg #[.int .i64 0, .int .i64 0, .int .i64 0, .int .i64 0, .int .i64 0, .int .i64 0, .int .i64 0, .int .i64 0]) := by
    have := infoKnot'
    rw [hi] at this
    simp only [Option.map_some, Option.some.injEq, Prod.mk.injEq] at this
    exact this.1
  obtain ⟨wm, hmk, hown0, hg0⟩ := run_make_full (P := Try.prog) w w.heap.size 25 33 i0 _ 8 Try.underlying25 hi hz0' hz1 .i64 .i64 L.length (by rw [hz2]; omega) (by unfold maxLen; omega) (Nat.le_refl _)
  have hB0 : Below w.heap.size w wm := (Below.refl _ _).grown hg0 (Nat.le_refl _) (fun k hk => by cases hk)
  clear hz0 hzs
  have hXl := fl_len flKn_len L
  obtain ⟨X, hX⟩ : ∃ X, X = L.flatMap flKn := ⟨_, rfl⟩
  rw [← hX] at hXl
  have HX : Hid (X = L.flatMap flKn) := hX
  clear hX
  go_enter Try.func18, Try.ntmps18
  go_wp2
  go_loopw [4] (fun i wr => ∃ k : Nat, k ≤ L.length ∧ i = .int .i64 k ∧ wr.ownsRow w.heap.size 33 8 (.slice (some ⟨w.heap.size, 0, none⟩) L.length L.length) L.length (fillZ X (k * 8)) ∧ Below w.heap.size w wr) (fun i _ => L.length - (intOf i).toNat)
  case atStart => exact ⟨0, Nat.zero_le _, rfl, by rw [Nat.zero_mul, fillZ_zero, hXl, ← madeCells_Knot]; exact hown0, hB0⟩
  case round =>
    obtain ⟨k, hk, rfl, hown, hB⟩ := hrel
    by_cases hlt : k < L.length
    · obtain ⟨b, off, rfl, hb, x0, x1, x2, x3, x4, x5, x6, x7⟩ := (h.below hB).atKn hlt
      have f0 : (fillZ X (k * 8))[k * 8]? = some (.int .i64 0) := fillZ_get X (by omega) (by omega)
      have hs0 := fillZ_step X (k := k * 8) (v := L[k].i) (by rw [HX.out]; exact fl_get flKn_len hlt (by omega : 0 < 8))
      have f1 : (fillZ X (k * 8))[k * 8 + 1]? = some (.int .i64 0) := fillZ_get X (by omega) (by omega)
      have hs1 := fillZ_step X (k := k * 8 + 1) (v := L[k].x) (by rw [HX.out]; exact fl_get flKn_len hlt (by omega : 1 < 8))
      have f2 : (fillZ X (k * 8))[k * 8 + 2]? = some (.int .i64 0) := fillZ_get X (by omega) (by omega)
      have hs2 := fillZ_step X (k := k * 8 + 2) (v := L[k].y) (by rw [HX.out]; exact fl_get flKn_len hlt (by omega : 2 < 8))
      have f3 : (fillZ X (k * 8))[k * 8 + 3]? = some (.int .i64 0) := fillZ_get X (by omega) (by omega)
      have hs3 := fillZ_step X (k := k * 8 + 3) (v := L[k].l) (by rw [HX.out]; exact fl_get flKn_len hlt (by omega : 3 < 8))
      have f4 : (fillZ X (k * 8))[k * 8 + 4]? = some (.int .i64 0) := fillZ_get X (by omega) (by omega)
      have hs4 := fillZ_step X (k := k * 8 + 4) (v := L[k].a) (by rw [HX.out]; exact fl_get flKn_len hlt (by omega : 4 < 8))
      have f5 : (fillZ X (k * 8))[k * 8 + 5]? = some (.int .i64 0) := fillZ_get X (by omega) (by omega)
      have hs5 := fillZ_step X (k := k * 8 + 5) (v := L[k].b) (by rw [HX.out]; exact fl_get flKn_len hlt (by omega : 5 < 8))
      have f6 : (fillZ X (k * 8))[k * 8 + 6]? = some (.int .i64 0) := fillZ_get X (by omega) (by omega)
      have hs6 := fillZ_step X (k := k * 8 + 6) (v := L[k].c) (by rw [HX.out]; exact fl_get flKn_len hlt (by omega : 6 < 8))
      have f7 : (fillZ X (k * 8))[k * 8 + 7]? = some (.int .i64 0) := fillZ_get X (by omega) (by omega)
      have hs7 := fillZ_step X (k := k * 8 + 7) (v := L[k].d) (by rw [HX.out]; exact fl_get flKn_len hlt (by omega : 7 < 8))
      generalize L[k].i = p0 at x0 hs0
      generalize L[k].x = p1 at x1 hs1
      generalize L[k].y = p2 at x2 hs2
      generalize L[k].l = p3 at x3 hs3
      generalize L[k].a = p4 at x4 hs4
      generalize L[k].b = p5 at x5 hs5
      generalize L[k].c = p6 at x6 hs6
      generalize L[k].d = p7 at x7 hs7
      have HS0 : Hid ((fillZ X (k * 8)).set (k * 8) (.int .i64 p0) = fillZ X (k * 8 + 1)) := hs0
      have HS1 : Hid ((fillZ X (k * 8 + 1)).set (k * 8 + 1) (.int .i64 p1) = fillZ X (k * 8 + 2)) := hs1
      have HS2 : Hid ((fillZ X (k * 8 + 2)).set (k * 8 + 2) (.int .i64 p2) = fillZ X (k * 8 + 3)) := hs2
      have HS3 : Hid ((fillZ X (k * 8 + 3)).set (k * 8 + 3) (.int .i64 p3) = fillZ X (k * 8 + 4)) := hs3
      have HS4 : Hid ((fillZ X (k * 8 + 4)).set (k * 8 + 4) (.int .i64 p4) = fillZ X (k * 8 + 5)) := hs4
      have HS5 : Hid ((fillZ X (k * 8 + 5)).set (k * 8 + 5) (.int .i64 p5) = fillZ X (k * 8 + 6)) := hs5
      have HS6 : Hid ((fillZ X (k * 8 + 6)).set (k * 8 + 6) (.int .i64 p6) = fillZ X (k * 8 + 7)) := hs6
      have HS7 : Hid ((fillZ X (k * 8 + 7)).set (k * 8 + 7) (.int .i64 p7) = fillZ X ((k + 1) * 8)) := by show _ = _; rw [hs7]; congr 1; omega
      clear hs0 hs1 hs2 hs3 hs4 hs5 hs6 hs7
      clear hXl
      go_wp2_with (go_at_call 39; refine (toKnot_any p0 p1 p2 p3 p4 p5 p6 p7 _).mono ?_; rintro e w4 ⟨rfl, hb4⟩; have own4 := own_below hown hb4; have g0 := (own4.cellAt (k * 8) (by omega)).trans f0; have z0 := own4.frozenAt (k * 8); have g1 := (own4.cellAt (k * 8 + 1) (by omega)).trans f1; have z1 := own4.frozenAt (k * 8 + 1); have g2 := (own4.cellAt (k * 8 + 2) (by omega)).trans f2; have z2 := own4.frozenAt (k * 8 + 2); have g3 := (own4.cellAt (k * 8 + 3) (by omega)).trans f3; have z3 := own4.frozenAt (k * 8 + 3); have g4 := (own4.cellAt (k * 8 + 4) (by omega)).trans f4; have z4 := own4.frozenAt (k * 8 + 4); have g5 := (own4.cellAt (k * 8 + 5) (by omega)).trans f5; have z5 := own4.frozenAt (k * 8 + 5); have g6 := (own4.cellAt (k * 8 + 6) (by omega)).trans f6; have z6 := own4.frozenAt (k * 8 + 6); have g7 := (own4.cellAt (k * 8 + 7) (by omega)).trans f7; have z7 := own4.frozenAt (k * 8 + 7))
      have o0 := (own4.stored (k * 8) (.int .i64 p0)).1
      rw [HS0.out] at o0
      have o1 := (o0.stored (k * 8 + 1) (.int .i64 p1)).1
      rw [HS1.out] at o1
      have o2 := (o1.stored (k * 8 + 2) (.int .i64 p2)).1
      rw [HS2.out] at o2
      have o3 := (o2.stored (k * 8 + 3) (.int .i64 p3)).1
      rw [HS3.out] at o3
      have o4 := (o3.stored (k * 8 + 4) (.int .i64 p4)).1
      rw [HS4.out] at o4
      have o5 := (o4.stored (k * 8 + 5) (.int .i64 p5)).1
      rw [HS5.out] at o5
      have o6 := (o5.stored (k * 8 + 6) (.int .i64 p6)).1
      rw [HS6.out] at o6
      have o7 := (o6.stored (k * 8 + 7) (.int .i64 p7)).1
      rw [HS7.out] at o7
      have hB5 := (((((((((hB.trans (hb4.mono hB.size)).setCell (p := ⟨w.heap.size, k * 8, none⟩) (Nat.le_refl _) (.int .i64 p0)).setCell (p := ⟨w.heap.size, k * 8 + 1, none⟩) (Nat.le_refl _) (.int .i64 p1)).setCell (p := ⟨w.heap.size, k * 8 + 2, none⟩) (Nat.le_refl _) (.int .i64 p2)).setCell (p := ⟨w.heap.size, k * 8 + 3, none⟩) (Nat.le_refl _) (.int .i64 p3)).setCell (p := ⟨w.heap.size, k * 8 + 4, none⟩) (Nat.le_refl _) (.int .i64 p4)).setCell (p := ⟨w.heap.size, k * 8 + 5, none⟩) (Nat.le_refl _) (.int .i64 p5)).setCell (p := ⟨w.heap.size, k * 8 + 6, none⟩) (Nat.le_refl _) (.int .i64 p6)).setCell (p := ⟨w.heap.size, k * 8 + 7, none⟩) (Nat.le_refl _) (.int .i64 p7))
      go_roundw
      case rel => exact ⟨k + 1, by omega, by go_num, o7, hB5⟩
      case measure => simp [intOf]; omega
    · obtain rfl : k = L.length := by omega
      rw [show L.length * 8 = X.length by omega, fillZ_all, HX.out, ← encKn_flat] at hown
      go_wp2
      go_ret
      exact ⟨w.heap.size, ⟨rfl, hown⟩, hB⟩
theorem eqKnot_same (v0 : Int) (v1 : Int) (v2 : Int) (v3 : Int) (v4 : Int) (v5 : Int) (v6 : Int) (v7 : Int) (w : World) :
    Calls Try.prog 40 #[.agg #[.int .i64 v0, .int .i64 v1, .int .i64 v2, .int .i64 v3, .int .i64 v4, .int .i64 v5, .int .i64 v6, .int .i64 v7], .agg #[.int .i64 v0, .int .i64 v1, .int .i64 v2, .int .i64 v3, .int .i64 v4, .int .i64 v5, .int .i64 v6, .int .i64 v7]] w fun e w' => e = .returned (.bool true) ∧ Below w.heap.size w w' := by
  go_enter Try.func40, Try.ntmps40
  go_wp2_with (first | (go_at_call 47; refine (eqPoint_same v0 v1 v2 _).mono ?_; rintro e w1 ⟨rfl, hb1⟩; have bc1 := bcell hb1; have bl1 := blt hb1) | (go_at_call 55; refine (eqBox_same v4 v5 v6 v7 _).mono ?_; rintro e w2 ⟨rfl, hb2⟩; have bc2 := bcell hb2; have bl2 := blt hb2))
  go_ret
  have q1 : Below w.heap.size w w1 := Below.trans (by (repeat' (first | exact Below.refl _ _ | apply Below.alloc | apply Below.setCell | apply Below.drew | apply below_draws)) <;> (first | omega | (simp <;> omega))) (hb1.mono (by simp <;> omega))
  exact ⟨rfl, Below.trans (Below.trans q1 (by (repeat' (first | exact Below.refl _ _ | apply Below.alloc | apply Below.setCell | apply Below.drew | apply below_draws)) <;> (first | omega | (simp <;> omega)))) (hb2.mono (by have := q1.size; simp <;> omega))⟩
set_option maxHeartbeats 4000000 in
set_option maxRecDepth 5000 in
theorem eqKnotS_same (A A' : Option Addr) (c c' : Nat) (L : List Kn) (w : World) (h : Rds w 8 A L.length (L.flatMap encKn)) (h' : Rds w 8 A' L.length (L.flatMap encKn)) (hn : L.length ≤ 4194304) :
    Calls Try.prog 19 #[.slice A L.length c, .slice A' L.length c'] w fun e w' => e = .returned (.bool true) ∧ Below w.heap.size w w' := by
  go_enter Try.func19, Try.ntmps19
  go_wp2
  go_loopw [5] (fun i wr => ∃ k : Nat, k ≤ L.length ∧ i = .int .i64 k ∧ Below w.heap.size w wr) (fun i _ => L.length - (intOf i).toNat)
  case atStart => exact ⟨0, Nat.zero_le _, rfl, Below.refl _ _⟩
  case round =>
    obtain ⟨k, hk, rfl, hB⟩ := hrel
    by_cases hlt : k < L.length
    · obtain ⟨b, off, rfl, hb, x0, x1, x2, x3, x4, x5, x6, x7⟩ := (h.below hB).atKn hlt
      obtain ⟨b', off', rfl, hb', x0', x1', x2', x3', x4', x5', x6', x7'⟩ := (h'.below hB).atKn hlt
      generalize L[k].i = p0 at x0 x0'
      generalize L[k].x = p1 at x1 x1'
      generalize L[k].y = p2 at x2 x2'
      generalize L[k].l = p3 at x3 x3'
      generalize L[k].a = p4 at x4 x4'
      generalize L[k].b = p5 at x5 x5'
      generalize L[k].c = p6 at x6 x6'
      generalize L[k].d = p7 at x7 x7'
      have k0 : ∀ w', Below wr.heap.size wr w' → w'.cell? ⟨b, off + k * 8, none⟩ = some (.int .i64 p0) := fun w' h => (h.cell (p := ⟨_, _, _⟩) hb).trans x0
      have l0 : ∀ w', Below wr.heap.size wr w' → w'.cell? ⟨b', off' + k * 8, none⟩ = some (.int .i64 p0) := fun w' h => (h.cell (p := ⟨_, _, _⟩) hb').trans x0'
      have k1 : ∀ w', Below wr.heap.size wr w' → w'.cell? ⟨b, off + k * 8 + 1, none⟩ = some (.int .i64 p1) := fun w' h => (h.cell (p := ⟨_, _, _⟩) hb).trans x1
      have l1 : ∀ w', Below wr.heap.size wr w' → w'.cell? ⟨b', off' + k * 8 + 1, none⟩ = some (.int .i64 p1) := fun w' h => (h.cell (p := ⟨_, _, _⟩) hb').trans x1'
      have k2 : ∀ w', Below wr.heap.size wr w' → w'.cell? ⟨b, off + k * 8 + 2, none⟩ = some (.int .i64 p2) := fun w' h => (h.cell (p := ⟨_, _, _⟩) hb).trans x2
      have l2 : ∀ w', Below wr.heap.size wr w' → w'.cell? ⟨b', off' + k * 8 + 2, none⟩ = some (.int .i64 p2) := fun w' h => (h.cell (p := ⟨_, _, _⟩) hb').trans x2'
      have k3 : ∀ w', Below wr.heap.size wr w' → w'.cell? ⟨b, off + k * 8 + 3, none⟩ = some (.int .i64 p3) := fun w' h => (h.cell (p := ⟨_, _, _⟩) hb).trans x3
      have l3 : ∀ w', Below wr.heap.size wr w' → w'.cell? ⟨b', off' + k * 8 + 3, none⟩ = some (.int .i64 p3) := fun w' h => (h.cell (p := ⟨_, _, _⟩) hb').trans x3'
      have k4 : ∀ w', Below wr.heap.size wr w' → w'.cell? ⟨b, off + k * 8 + 4, none⟩ = some (.int .i64 p4) := fun w' h => (h.cell (p := ⟨_, _, _⟩) hb).trans x4
      have l4 : ∀ w', Below wr.heap.size wr w' → w'.cell? ⟨b', off' + k * 8 + 4, none⟩ = some (.int .i64 p4) := fun w' h => (h.cell (p := ⟨_, _, _⟩) hb').trans x4'
      have k5 : ∀ w', Below wr.heap.size wr w' → w'.cell? ⟨b, off + k * 8 + 5, none⟩ = some (.int .i64 p5) := fun w' h => (h.cell (p := ⟨_, _, _⟩) hb).trans x5
      have l5 : ∀ w', Below wr.heap.size wr w' → w'.cell? ⟨b', off' + k * 8 + 5, none⟩ = some (.int .i64 p5) := fun w' h => (h.cell (p := ⟨_, _, _⟩) hb').trans x5'
      have k6 : ∀ w', Below wr.heap.size wr w' → w'.cell? ⟨b, off + k * 8 + 6, none⟩ = some (.int .i64 p6) := fun w' h => (h.cell (p := ⟨_, _, _⟩) hb).trans x6
      have l6 : ∀ w', Below wr.heap.size wr w' → w'.cell? ⟨b', off' + k * 8 + 6, none⟩ = some (.int .i64 p6) := fun w' h => (h.cell (p := ⟨_, _, _⟩) hb').trans x6'
      have k7 : ∀ w', Below wr.heap.size wr w' → w'.cell? ⟨b, off + k * 8 + 7, none⟩ = some (.int .i64 p7) := fun w' h => (h.cell (p := ⟨_, _, _⟩) hb).trans x7
      have l7 : ∀ w', Below wr.heap.size wr w' → w'.cell? ⟨b', off' + k * 8 + 7, none⟩ = some (.int .i64 p7) := fun w' h => (h.cell (p := ⟨_, _, _⟩) hb').trans x7'
      clear x0 x1 x2 x3 x4 x5 x6 x7 x0' x1' x2' x3' x4' x5' x6' x7' hb hb' h h'
      go_wp2_with fail
      go_region_held3 (fun w' => Below wr.heap.size wr w')
        ((repeat' (first | exact Below.refl _ _ | assumption | apply Below.alloc | apply Below.setCell | apply Below.drew | (refine Below.trans ?_ (Below.mono (by assumption) ?_)))) <;> (first | exact Below.size (by assumption) | omega | (simp; done) | (simp; omega) | (refine Nat.le_trans ?_ (Below.size (by assumption)); (first | omega | (simp <;> omega)))))
        (first | (go_at_call 40; refine (eqKnot_same _ _ _ _ _ _ _ _ _).mono ?_; rintro e w' ⟨rfl, hb⟩))
      rename_i hH
      go_wp2
      go_roundw
      case rel => exact ⟨k + 1, by omega, by go_num, hB.trans (hH.mono hB.size)⟩
      case measure => simp [intOf]; omega
    · go_wp2
      go_ret
      exact ⟨rfl, hB⟩
set_option maxHeartbeats 4000000 in
set_option maxRecDepth 5000 in
theorem markKnotS_any (g c base : Nat) (L : List Kn) (k : Int) (w : World) (h : OwnE encKn 33 8 w base g c L) (hn : L.length ≤ 4194304) (h0 : 0 ≤ k) (h1 : k ≤ 4611686018427387904) :
    Calls Try.prog 28 #[.slice (some ⟨g, 0, none⟩) L.length c, .int .i64 k] w fun e w' => (e = .returned (.int .i64 (k + 8 * L.length)) ∧ w'.ownsRow base 33 8 (.slice (some ⟨g, 0, none⟩) L.length c) L.length (ints (mkZ k (L.length * 8)))) ∧ w.grownBy w' (Value.slice (some ⟨g, 0, none⟩) L.length c).ownBlock := by
  have h' := h
  unfold OwnE at h'
  rw [encKn_flat] at h'
  have hXl := fl_len flKn_len L
  generalize L.flatMap flKn = X at h' hXl
  clear h
  go_enter Try.func28, Try.ntmps28
  go_wp2
  go_loopw [1, 5] (fun m i wr => ∃ j : Nat, j ≤ L.length ∧ i = .int .i64 j ∧ m = .int .i64 (k + 8 * j) ∧ wr.ownsRow base 33 8 (.slice (some ⟨g, 0, none⟩) L.length c) L.length (ints (mkdZ X k (j * 8))) ∧ w.grownBy wr (some g)) (fun _ i _ => L.length - (intOf i).toNat)
  case atStart => exact ⟨0, Nat.zero_le _, rfl, by simp, by rw [Nat.zero_mul, mkdZ_zero]; exact h', grown_refl _ _⟩
  case round =>
    obtain ⟨j, hj, rfl, rfl, hown, hg⟩ := hrel
    by_cases hlt : j < L.length
    · have hs0 := mkdZ_step X k (j := j * 8) (by omega)
      obtain ⟨q0, f0⟩ := mkdZ_get X k (i := j * 8) (j := j * 8) (by omega) (by omega)
      have e0 : (k : Int) + ((j * 8 : Nat) : Int) = k + 8 * j := by push_cast; omega
      rw [e0] at hs0
      have HS0 : Hid ((ints (mkdZ X k (j * 8))).set (j * 8) (.int .i64 (k + 8 * j)) = ints (mkdZ X k (j * 8 + 1))) := hs0
      have hs1 := mkdZ_step X k (j := j * 8 + 1) (by omega)
      obtain ⟨q1, f1⟩ := mkdZ_get X k (i := j * 8) (j := j * 8 + 1) (by omega) (by omega)
      have e1 : (k : Int) + ((j * 8 + 1 : Nat) : Int) = k + 8 * j + 1 := by push_cast; omega
      rw [e1] at hs1
      have HS1 : Hid ((ints (mkdZ X k (j * 8 + 1))).set (j * 8 + 1) (.int .i64 (k + 8 * j + 1)) = ints (mkdZ X k (j * 8 + 2))) := hs1
      have hs2 := mkdZ_step X k (j := j * 8 + 2) (by omega)
      obtain ⟨q2, f2⟩ := mkdZ_get X k (i := j * 8) (j := j * 8 + 2) (by omega) (by omega)
      have e2 : (k : Int) + ((j * 8 + 2 : Nat) : Int) = k + 8 * j + 1 + 1 := by push_cast; omega
      rw [e2] at hs2
      have HS2 : Hid ((ints (mkdZ X k (j * 8 + 2))).set (j * 8 + 2) (.int .i64 (k + 8 * j + 1 + 1)) = ints (mkdZ X k (j * 8 + 3))) := hs2
      have hs3 := mkdZ_step X k (j := j * 8 + 3) (by omega)
      obtain ⟨q3, f3⟩ := mkdZ_get X k (i := j * 8) (j := j * 8 + 3) (by omega) (by omega)
      have e3 : (k : Int) + ((j * 8 + 3 : Nat) : Int) = k + 8 * j + 1 + 1 + 1 := by push_cast; omega
      rw [e3] at hs3
      have HS3 : Hid ((ints (mkdZ X k (j * 8 + 3))).set (j * 8 + 3) (.int .i64 (k + 8 * j + 1 + 1 + 1)) = ints (mkdZ X k (j * 8 + 4))) := hs3
      have hs4 := mkdZ_step X k (j := j * 8 + 4) (by omega)
      obtain ⟨q4, f4⟩ := mkdZ_get X k (i := j * 8) (j := j * 8 + 4) (by omega) (by omega)
      have e4 : (k : Int) + ((j * 8 + 4 : Nat) : Int) = k + 8 * j + 1 + 1 + 1 + 1 := by push_cast; omega
      rw [e4] at hs4
      have HS4 : Hid ((ints (mkdZ X k (j * 8 + 4))).set (j * 8 + 4) (.int .i64 (k + 8 * j + 1 + 1 + 1 + 1)) = ints (mkdZ X k (j * 8 + 5))) := hs4
      have hs5 := mkdZ_step X k (j := j * 8 + 5) (by omega)
      obtain ⟨q5, f5⟩ := mkdZ_get X k (i := j * 8) (j := j * 8 + 5) (by omega) (by omega)
      have e5 : (k : Int) + ((j * 8 + 5 : Nat) : Int) = k + 8 * j + 1 + 1 + 1 + 1 + 1 := by push_cast; omega
      rw [e5] at hs5
      have HS5 : Hid ((ints (mkdZ X k (j * 8 + 5))).set (j * 8 + 5) (.int .i64 (k + 8 * j + 1 + 1 + 1 + 1 + 1)) = ints (mkdZ X k (j * 8 + 6))) := hs5
      have hs6 := mkdZ_step X k (j := j * 8 + 6) (by omega)
      obtain ⟨q6, f6⟩ := mkdZ_get X k (i := j * 8) (j := j * 8 + 6) (by omega) (by omega)
      have e6 : (k : Int) + ((j * 8 + 6 : Nat) : Int) = k + 8 * j + 1 + 1 + 1 + 1 + 1 + 1 := by push_cast; omega
      rw [e6] at hs6
      have HS6 : Hid ((ints (mkdZ X k (j * 8 + 6))).set (j * 8 + 6) (.int .i64 (k + 8 * j + 1 + 1 + 1 + 1 + 1 + 1)) = ints (mkdZ X k (j * 8 + 7))) := hs6
      have hs7 := mkdZ_step X k (j := j * 8 + 7) (by omega)
      obtain ⟨q7, f7⟩ := mkdZ_get X k (i := j * 8) (j := j * 8 + 7) (by omega) (by omega)
      have e7 : (k : Int) + ((j * 8 + 7 : Nat) : Int) = k + 8 * j + 1 + 1 + 1 + 1 + 1 + 1 + 1 := by push_cast; omega
      rw [e7] at hs7
      have HS7 : Hid ((ints (mkdZ X k (j * 8 + 7))).set (j * 8 + 7) (.int .i64 (k + 8 * j + 1 + 1 + 1 + 1 + 1 + 1 + 1)) = ints (mkdZ X k ((j + 1) * 8))) := by show _ = _; rw [hs7]; congr 2; omega
      clear hs0 e0 hs1 e1 hs2 e2 hs3 e3 hs4 e4 hs5 e5 hs6 e6 hs7 e7
      have g0 := (hown.cellAt (j * 8) (by omega)).trans f0
      have z0 := hown.frozenAt (j * 8)
      have g1 := (hown.cellAt (j * 8 + 1) (by omega)).trans f1
      have z1 := hown.frozenAt (j * 8 + 1)
      have g2 := (hown.cellAt (j * 8 + 2) (by omega)).trans f2
      have z2 := hown.frozenAt (j * 8 + 2)
      have g3 := (hown.cellAt (j * 8 + 3) (by omega)).trans f3
      have z3 := hown.frozenAt (j * 8 + 3)
      have g4 := (hown.cellAt (j * 8 + 4) (by omega)).trans f4
      have z4 := hown.frozenAt (j * 8 + 4)
      have g5 := (hown.cellAt (j * 8 + 5) (by omega)).trans f5
      have z5 := hown.frozenAt (j * 8 + 5)
      have g6 := (hown.cellAt (j * 8 + 6) (by omega)).trans f6
      have z6 := hown.frozenAt (j * 8 + 6)
      have g7 := (hown.cellAt (j * 8 + 7) (by omega)).trans f7
      have z7 := hown.frozenAt (j * 8 + 7)
      have o0 := hown.stored (j * 8) (.int .i64 (k + 8 * j))
      rw [HS0.out] at o0
      have o1 := o0.1.stored (j * 8 + 1) (.int .i64 (k + 8 * j + 1))
      rw [HS1.out] at o1
      have o2 := o1.1.stored (j * 8 + 2) (.int .i64 (k + 8 * j + 1 + 1))
      rw [HS2.out] at o2
      have o3 := o2.1.stored (j * 8 + 3) (.int .i64 (k + 8 * j + 1 + 1 + 1))
      rw [HS3.out] at o3
      have o4 := o3.1.stored (j * 8 + 4) (.int .i64 (k + 8 * j + 1 + 1 + 1 + 1))
      rw [HS4.out] at o4
      have o5 := o4.1.stored (j * 8 + 5) (.int .i64 (k + 8 * j + 1 + 1 + 1 + 1 + 1))
      rw [HS5.out] at o5
      have o6 := o5.1.stored (j * 8 + 6) (.int .i64 (k + 8 * j + 1 + 1 + 1 + 1 + 1 + 1))
      rw [HS6.out] at o6
      have o7 := o6.1.stored (j * 8 + 7) (.int .i64 (k + 8 * j + 1 + 1 + 1 + 1 + 1 + 1 + 1))
      rw [HS7.out] at o7
      have hg6 := hg.trans (((((((o0.2.trans o1.2).trans o2.2).trans o3.2).trans o4.2).trans o5.2).trans o6.2).trans o7.2)
      have own5 := o7.1
      clear o0 o1 o2 o3 o4 o5 o6 o7 hown hg hXl
      clear HS0 f0 HS1 f1 HS2 f2 HS3 f3 HS4 f4 HS5 f5 HS6 f6 HS7 f7
      go_wp2
      go_roundw
      case rel => exact ⟨j + 1, by omega, by go_num, by go_num, own5, hg6⟩
      case measure => simp [intOf]; omega
    · obtain rfl : j = L.length := by omega
      rw [← hXl, mkdZ_all, hXl] at hown
      go_wp2
      go_ret
      exact ⟨⟨rfl, hown⟩, hg⟩
set_option maxHeartbeats 4000000 in
set_option maxRecDepth 5000 in
theorem heldKnotS_any (A : Option Addr) (c n : Nat) (k : Int) (w : World) (h : Rds w 8 A n (ints (mkZ k (n * 8)))) (hn : n ≤ 4194304) (h0 : 0 ≤ k) (h1 : k ≤ 4611686018427387904) :
    Calls Try.prog 29 #[.slice A n c, .int .i64 k] w fun e w' => e = .returned (.int .i64 (k + 8 * n)) ∧ Below w.heap.size w w' := by
  go_enter Try.func29, Try.ntmps29
  go_wp2
  go_loop [1, 5] (fun m i => ∃ j : Nat, j ≤ n ∧ i = .int .i64 j ∧ m = .int .i64 (k + 8 * j)) (fun _ i => n - (intOf i).toNat)
  case atStart => exact ⟨0, Nat.zero_le _, rfl, by simp⟩
  case round =>
    obtain ⟨j, hj, rfl, rfl⟩ := hrel
    by_cases hlt : j < n
    · obtain ⟨b, off, rfl, hb, hx⟩ := h.atZ (by omega)
      have x0 : w.cell? ⟨b, off + j * 8, none⟩ = some (.int .i64 (k + 8 * j)) := by
        have := hx (j * 8 + 0) _ (mkZ_get k (by omega))
        rw [show (k : Int) + ((j * 8 + 0 : Nat) : Int) = k + 8 * j by push_cast; omega] at this
        simpa [Nat.add_assoc] using this
      have x1 : w.cell? ⟨b, off + j * 8 + 1, none⟩ = some (.int .i64 (k + 8 * j + 1)) := by
        have := hx (j * 8 + 1) _ (mkZ_get k (by omega))
        rw [show (k : Int) + ((j * 8 + 1 : Nat) : Int) = k + 8 * j + 1 by push_cast; omega] at this
        simpa [Nat.add_assoc] using this
      have x2 : w.cell? ⟨b, off + j * 8 + 2, none⟩ = some (.int .i64 (k + 8 * j + 2)) := by
        have := hx (j * 8 + 2) _ (mkZ_get k (by omega))
        rw [show (k : Int) + ((j * 8 + 2 : Nat) : Int) = k + 8 * j + 2 by push_cast; omega] at this
        simpa [Nat.add_assoc] using this
      have x3 : w.cell? ⟨b, off + j * 8 + 3, none⟩ = some (.int .i64 (k + 8 * j + 3)) := by
        have := hx (j * 8 + 3) _ (mkZ_get k (by omega))
        rw [show (k : Int) + ((j * 8 + 3 : Nat) : Int) = k + 8 * j + 3 by push_cast; omega] at this
        simpa [Nat.add_assoc] using this
      have x4 : w.cell? ⟨b, off + j * 8 + 4, none⟩ = some (.int .i64 (k + 8 * j + 4)) := by
        have := hx (j * 8 + 4) _ (mkZ_get k (by omega))
        rw [show (k : Int) + ((j * 8 + 4 : Nat) : Int) = k + 8 * j + 4 by push_cast; omega] at this
        simpa [Nat.add_assoc] using this
      have x5 : w.cell? ⟨b, off + j * 8 + 5, none⟩ = some (.int .i64 (k + 8 * j + 5)) := by
        have := hx (j * 8 + 5) _ (mkZ_get k (by omega))
        rw [show (k : Int) + ((j * 8 + 5 : Nat) : Int) = k + 8 * j + 5 by push_cast; omega] at this
        simpa [Nat.add_assoc] using this
      have x6 : w.cell? ⟨b, off + j * 8 + 6, none⟩ = some (.int .i64 (k + 8 * j + 6)) := by
        have := hx (j * 8 + 6) _ (mkZ_get k (by omega))
        rw [show (k : Int) + ((j * 8 + 6 : Nat) : Int) = k + 8 * j + 6 by push_cast; omega] at this
        simpa [Nat.add_assoc] using this
      have x7 : w.cell? ⟨b, off + j * 8 + 7, none⟩ = some (.int .i64 (k + 8 * j + 7)) := by
        have := hx (j * 8 + 7) _ (mkZ_get k (by omega))
        rw [show (k : Int) + ((j * 8 + 7 : Nat) : Int) = k + 8 * j + 7 by push_cast; omega] at this
        simpa [Nat.add_assoc] using this
      clear hx h
      go_wp2
      go_round
      case rel => exact ⟨j + 1, by omega, by go_num, by go_num⟩
      case measure => simp [intOf]; omega
    · obtain rfl : j = n := by omega
      go_wp2
      go_ret
      exact ⟨rfl, Below.refl _ _⟩
end Go.Proofs.Ytbmbejomodkabaa
