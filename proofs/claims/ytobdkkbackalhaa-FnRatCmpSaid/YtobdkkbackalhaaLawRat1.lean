/-
  The walks of the laws FnRatCmp and FnRatFloor.
-/
import Derived.Test.YtobdkkbackalhaaRatCmp
import Derived.Test.YtobdkkbackalhaaRatFloor
import Derived.Test.YtobdkkbackalhaaDrawRat
namespace Go.Proofs.Ytobdkkbackalhaa
open Go.RowKit
set_option linter.unusedVariables false

theorem drawRatFloor_any (a0 : Option Addr) (len cap : Nat) (zs : List Int) (w : World) (h : IsRow .u8 w a0 len cap zs) :
    Calls Try.prog 30 #[.slice a0 len cap] w fun e w' => ∃ a b t : Int, e = .returned (.tuple #[.agg #[.int .i64 a, .int .i64 b], .int .i64 t]) ∧ Below w.heap.size w w' := by
  go_enter Try.func30, Try.ntmps30
  go_wp2_with fail
  have hb0 : Below w.heap.size w (w.alloc (.cells #[.int .i64 0, .int .i64 0] 33)) := by (repeat' (first | exact Below.refl _ _ | apply Below.alloc | apply Below.setCell | apply Below.drew)) <;> (first | omega | (simp <;> omega))
  have hs : (w.alloc (.cells #[.int .i64 0, .int .i64 0] 33)).heap.size = w.heap.size + 1 := by simp
  generalize hW : w.alloc (.cells #[.int .i64 0, .int .i64 0] 33) = w0 at hb0 hs ⊢
  have h0 : IsRow .u8 w0 a0 len cap zs := h.below hb0
  have hs2 : w.heap.size < w0.heap.size := by omega
  have k00 : w0.cell? ⟨w.heap.size, 0, none⟩ = some (.int .i64 0) := by rw [← hW]; simp
  have k01 : w0.cell? ⟨w.heap.size, 1, none⟩ = some (.int .i64 0) := by rw [← hW]; simp
  have f00 : w0.frozen? ⟨w.heap.size, 0, none⟩ = false := by rw [← hW]; simp
  have f01 : w0.frozen? ⟨w.heap.size, 1, none⟩ = false := by rw [← hW]; simp
  clear hW
  refine (open_any a0 len cap zs _ h0).mono ?_
  rintro e w1 ⟨⟨rfl, r1⟩, hb1⟩
  obtain ⟨g, hg⟩ : ∃ g, g = w0.heap.size := ⟨_, rfl⟩
  rw [← hg] at r1 hb1 hs2 ⊢
  clear hs hg
  go_wp2_with fail
  refine (l30AnyRat_any g 0 _ r1 (by omega)).mono ?_
  rintro e w2 ⟨a, b, rfl, p2, hp2, r2, o2⟩
  have hlt1 := r1.lt
  have O : Outer g g w0 w2 := (Outer.of hb1).trans (o2.mono (by omega))
  have hlt2 := r2.lt
  have r3 : Rd (w2.alloc (.cells #[.int .i64 a, .int .i64 b] 33)) g p2 := r2.below (by (repeat' (first | exact Below.refl _ _ | apply Below.alloc | apply Below.setCell | apply Below.drew)) <;> (first | omega | (simp <;> omega)))
  go_wp2_with fail
  have hO3 : Outer g g w0 (w2.alloc (.cells #[.int .i64 a, .int .i64 b] 33)) := O.below (by (repeat' (first | exact Below.refl _ _ | apply Below.alloc | apply Below.setCell | apply Below.drew)) <;> (first | omega | (simp <;> omega)))
  have hx : w2.heap.size < (w2.alloc (.cells #[.int .i64 a, .int .i64 b] 33)).heap.size := by simp
  have l0 : (w2.alloc (.cells #[.int .i64 a, .int .i64 b] 33)).cell? ⟨w2.heap.size, 0, none⟩ = some (.int .i64 a) := by simp
  have l1 : (w2.alloc (.cells #[.int .i64 a, .int .i64 b] 33)).cell? ⟨w2.heap.size, 1, none⟩ = some (.int .i64 b) := by simp
  generalize w2.alloc (.cells #[.int .i64 a, .int .i64 b] 33) = w3 at r3 hO3 hx l0 l1 ⊢
  obtain ⟨b2, hb2⟩ : ∃ b2, b2 = w2.heap.size := ⟨_, rfl⟩
  rw [← hb2] at hx l0 l1 hlt2 ⊢
  obtain ⟨c3, d3⟩ := hO3.cells
  have n0 : w.heap.size ≠ g := by omega
  have n2 : b2 ≠ g := by omega
  have s0 : w.heap.size < w3.heap.size := by omega
  have q00 : w3.cell? ⟨w.heap.size, 0, none⟩ = some (.int .i64 0) := (c3 _ _ (by omega) n0).trans k00
  have q01 : w3.cell? ⟨w.heap.size, 1, none⟩ = some (.int .i64 0) := (c3 _ _ (by omega) n0).trans k01
  have t00 : w3.frozen? ⟨w.heap.size, 0, none⟩ = false := (d3 _ _ (by omega) n0).trans f00
  have t01 : w3.frozen? ⟨w.heap.size, 1, none⟩ = false := (d3 _ _ (by omega) n0).trans f01
  clear hb2 O o2 r2 r1 hb1 c3 d3 k00 k01 f00 f01 h0
  have r4 : Rd (w3.alloc (.cells #[.int .i64 1, .int .i64 10, .int .i64 1000, .int .i64 0, .int .i64 1001] 3)) g p2 := r3.below (by (repeat' (first | exact Below.refl _ _ | apply Below.alloc | apply Below.setCell | apply Below.drew)) <;> (first | omega | (simp <;> omega)))
  have m4 : ∀ i, i < 5 → ((w3.alloc (.cells #[.int .i64 1, .int .i64 10, .int .i64 1000, .int .i64 0, .int .i64 1001] 3))).cell? ⟨w3.heap.size, i, none⟩ = some (.int .i64 (([1, 10, 1000, 0, 1001] : List Int).getD i 0)) := by
    intro i hi
    rcases i with _ | _ | _ | _ | _ | i
    all_goals first | omega | simp
  have hbA : Below w3.heap.size w3 (w3.alloc (.cells #[.int .i64 1, .int .i64 10, .int .i64 1000, .int .i64 0, .int .i64 1001] 3)) := by (repeat' (first | exact Below.refl _ _ | apply Below.alloc | apply Below.setCell | apply Below.drew)) <;> (first | omega | (simp <;> omega))
  obtain ⟨cA, dA⟩ := bcell hbA
  have L0 := (cA b2 0 hx).trans l0
  have L1 := (cA b2 1 hx).trans l1
  have Q0 := (cA w.heap.size 0 s0).trans q00
  have Q1 := (cA w.heap.size 1 s0).trans q01
  have T0 := (dA w.heap.size 0 s0).trans t00
  have T1 := (dA w.heap.size 1 s0).trans t01
  have X2 : b2 < (w3.alloc (.cells #[.int .i64 1, .int .i64 10, .int .i64 1000, .int .i64 0, .int .i64 1001] 3)).heap.size := by simp; omega
  have X0 : w.heap.size < (w3.alloc (.cells #[.int .i64 1, .int .i64 10, .int .i64 1000, .int .i64 0, .int .i64 1001] 3)).heap.size := by simp; omega
  have ng : w3.heap.size ≠ g := by omega
  clear cA dA q00 q01 t00 t01
  go_region_with (go_at_call 45; go_must (refine (one_any g p2 w3.heap.size 5 [1, 10, 1000, 0, 1001] _ (by exact r4) (by omega) rfl (by omega) (by omega) ng (by exact m4)).mono ?_); rintro e w4 ⟨t, ⟨rfl, ht⟩, p4, hp4, r4, o4⟩; clear ht; obtain ⟨c4, d4⟩ := o4.cells; have y0 := (c4 b2 0 X2 n2).trans L0; have y1 := (c4 b2 1 X2 n2).trans L1; have y2 := (c4 w.heap.size 0 X0 n0).trans Q0; have y3 := (c4 w.heap.size 1 X0 n0).trans Q1; have y6 := (d4 w.heap.size 0 X0 n0).trans T0; have y7 := (d4 w.heap.size 1 X0 n0).trans T1; clear c4 d4)
  all_goals
    have o5 : Outer (w3.alloc (.cells #[.int .i64 1, .int .i64 10, .int .i64 1000, .int .i64 0, .int .i64 1001] 3)).heap.size g (w3.alloc (.cells #[.int .i64 1, .int .i64 10, .int .i64 1000, .int .i64 0, .int .i64 1001] 3)) w4 := o4
    have hsz : w3.heap.size ≤ w4.heap.size := Nat.le_trans hbA.size o4.2.1
    have O5 : Below w.heap.size w w4 := ((Outer.of hb0).trans ((hO3.mono (by omega)).trans ((Outer.of (hbA.mono (by omega))).trans (o5.mono (by omega))))).under (Nat.le_refl _) (by omega)
    clear o4 o5 hbA m4 r4
    go_wp2
    refine bodyPost_ret (v := .tuple #[.agg #[.int .i64 a, .int .i64 b], .int .i64 t]) (by simp [results, Try.results30, go_sem, y2, y3]) rfl ?_
    exact ⟨a, b, t, rfl, O5.trans (by (repeat' (first | exact Below.refl _ _ | apply Below.alloc | apply Below.setCell | apply Below.drew)) <;> (first | omega | (simp <;> omega)))⟩
end Go.Proofs.Ytobdkkbackalhaa
