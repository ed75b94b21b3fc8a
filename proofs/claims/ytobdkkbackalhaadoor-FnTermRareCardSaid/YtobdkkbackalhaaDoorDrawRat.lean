/-
  What is drawn of fractions: contracts of l30Rat, l30AnyRat, DrawRatAdd, DrawRatCmp, DrawRatFloor.
-/
import Derived.Test.YtobdkkbackalhaaDoorRd2
import Derived.Test.YtobdkkbackalhaaDoorMake
import Derived.Deep.RegionWith
namespace Go.Proofs.YtobdkkbackalhaaDoor
open Go.RowKit
set_option linter.unusedVariables false

theorem l30Rat_any (g p : Nat) (w : World) (hr : Rd w g p) (hp : p + 2 < 1000000) :
    Calls Tryd.prog 45 #[.pointer (some ⟨g, 0, none⟩)] w fun e w' => ∃ a b : Int, e = .returned (.agg #[.int .i64 a, .int .i64 b]) ∧ Gen w w' g p 2 := by
  have hg := hr.lt
  have hb0 : Below w.heap.size w (w.alloc (.cells #[.int .i64 0, .int .i64 0] 23)) := by (repeat' (first | exact Below.refl _ _ | apply Below.alloc | apply Below.setCell | apply Below.drew | apply below_draws)) <;> (first | omega | (simp <;> omega))
  have hr0 := hr.below (hb0.mono hg)
  have hs0 : w.heap.size < (w.alloc (.cells #[.int .i64 0, .int .i64 0] 23)).heap.size := by simp
  go_enter Tryd.func45, Tryd.ntmps45
  go_wp2_with fail
  generalize hW : w.alloc (.cells #[.int .i64 0, .int .i64 0] 23) = w0 at hb0 hr0 hs0 ⊢
  have k0 : w0.cell? ⟨w.heap.size, 0, none⟩ = some (.int .i64 0) := by rw [← hW]; simp
  have k1 : w0.cell? ⟨w.heap.size, 1, none⟩ = some (.int .i64 0) := by rw [← hW]; simp
  have f0 : w0.frozen? ⟨w.heap.size, 0, none⟩ = false := by rw [← hW]; simp
  have f1 : w0.frozen? ⟨w.heap.size, 1, none⟩ = false := by rw [← hW]; simp
  clear hW
  refine (pick_gen g p _ (by omega) (by omega) _ hr0 (by omega)).mono ?_
  rintro e w1 ⟨v1, ⟨rfl, h1, h2⟩, p1, hp1, r1, o1⟩
  go_wp2_with fail
  refine (pick_gen g p1 _ (by omega) (by omega) _ r1 (by omega)).mono ?_
  rintro e w2 ⟨v2, ⟨rfl, h3, h4⟩, p2, hp2, r2, o2⟩
  go_wp2_with fail
  refine (l10Make_any _ _ _ (by omega) (by omega) (by omega)).mono ?_
  rintro e w3 ⟨rfl, hb3⟩
  generalize upOf _ _ = a
  generalize downOf _ _ = b
  have O : Outer w0.heap.size g w0 w3 := (o1.trans (o2.mono o1.2.1)).below (hb3.mono (Nat.le_trans o1.2.1 o2.2.1))
  obtain ⟨c3, d3⟩ := O.cells
  have hne : w.heap.size ≠ g := by omega
  have r3 := r2.below (hb3.mono r2.lt)
  clear o1 o2 hr0 r1 r2
  go_wp2
  have hsz : w0.heap.size ≤ w3.heap.size := O.2.1
  have e0 : w3.cell? ⟨w.heap.size, 0, none⟩ = some (.int .i64 0) := (c3 _ _ hs0 hne).trans k0
  have e1 : w3.cell? ⟨w.heap.size, 1, none⟩ = some (.int .i64 0) := (c3 _ _ hs0 hne).trans k1
  refine bodyPost_ret (v := .agg #[.int .i64 a, .int .i64 b]) (by simp [results, Tryd.results45, go_sem, e0, e1]) rfl ?_
  exact ⟨a, b, rfl, p2, by omega, r3.below (by (repeat' (first | exact Below.refl _ _ | apply Below.alloc | apply Below.setCell | apply Below.drew | apply below_draws)) <;> (first | omega | (simp <;> omega))), ((Outer.of hb0).trans (O.mono (by omega))).below (by (repeat' (first | exact Below.refl _ _ | apply Below.alloc | apply Below.setCell | apply Below.drew | apply below_draws)) <;> (first | omega | (simp <;> omega)))⟩

theorem l30AnyRat_any (g p : Nat) (w : World) (hr : Rd w g p) (hp : p + 3 < 1000000) :
    Calls Tryd.prog 41 #[.pointer (some ⟨g, 0, none⟩)] w fun e w' => ∃ a b : Int, e = .returned (.agg #[.int .i64 a, .int .i64 b]) ∧ Gen w w' g p 3 := by
  have hg := hr.lt
  have hb0 : Below w.heap.size w (w.alloc (.cells #[.int .i64 0, .int .i64 0] 23)) := by (repeat' (first | exact Below.refl _ _ | apply Below.alloc | apply Below.setCell | apply Below.drew | apply below_draws)) <;> (first | omega | (simp <;> omega))
  have hr0 := hr.below (hb0.mono hg)
  have hs0 : w.heap.size < (w.alloc (.cells #[.int .i64 0, .int .i64 0] 23)).heap.size := by simp
  go_enter Tryd.func41, Tryd.ntmps41
  go_wp2_with fail
  generalize hW : w.alloc (.cells #[.int .i64 0, .int .i64 0] 23) = w0 at hb0 hr0 hs0 ⊢
  have k0 : w0.cell? ⟨w.heap.size, 0, none⟩ = some (.int .i64 0) := by rw [← hW]; simp
  have k1 : w0.cell? ⟨w.heap.size, 1, none⟩ = some (.int .i64 0) := by rw [← hW]; simp
  have f0 : w0.frozen? ⟨w.heap.size, 0, none⟩ = false := by rw [← hW]; simp
  have f1 : w0.frozen? ⟨w.heap.size, 1, none⟩ = false := by rw [← hW]; simp
  clear hW
  have hne : w.heap.size ≠ g := by omega
  refine (pick_gen g p _ (by omega) (by omega) _ hr0 (by omega)).mono ?_
  rintro e w1 ⟨v1, ⟨rfl, h1, h2⟩, p1, hp1, r1, o1⟩
  obtain ⟨c1, d1⟩ := o1.cells
  have hsz1 : w0.heap.size ≤ w1.heap.size := o1.2.1
  have e0 : w1.cell? ⟨w.heap.size, 0, none⟩ = some (.int .i64 0) := (c1 _ _ hs0 hne).trans k0
  have e1 : w1.cell? ⟨w.heap.size, 1, none⟩ = some (.int .i64 0) := (c1 _ _ hs0 hne).trans k1
  go_wp2_with fail
  · refine bodyPost_ret (v := .agg #[.int .i64 2, .int .i64 4]) (by simp [results, Tryd.results41, go_sem, e0, e1]) rfl ?_
    exact ⟨_, _, rfl, p1, by omega, r1.below (by (repeat' (first | exact Below.refl _ _ | apply Below.alloc | apply Below.setCell | apply Below.drew | apply below_draws)) <;> (first | omega | (simp <;> omega))), ((Outer.of hb0).trans (o1.mono (by omega))).below (by (repeat' (first | exact Below.refl _ _ | apply Below.alloc | apply Below.setCell | apply Below.drew | apply below_draws)) <;> (first | omega | (simp <;> omega)))⟩
  · refine bodyPost_ret (v := .agg #[.int .i64 1, .int .i64 0]) (by simp [results, Tryd.results41, go_sem, e0, e1]) rfl ?_
    exact ⟨_, _, rfl, p1, by omega, r1.below (by (repeat' (first | exact Below.refl _ _ | apply Below.alloc | apply Below.setCell | apply Below.drew | apply below_draws)) <;> (first | omega | (simp <;> omega))), ((Outer.of hb0).trans (o1.mono (by omega))).below (by (repeat' (first | exact Below.refl _ _ | apply Below.alloc | apply Below.setCell | apply Below.drew | apply below_draws)) <;> (first | omega | (simp <;> omega)))⟩
  · refine bodyPost_ret (v := .agg #[.int .i64 999999999, .int .i64 1000000000]) (by simp [results, Tryd.results41, go_sem, e0, e1]) rfl ?_
    exact ⟨_, _, rfl, p1, by omega, r1.below (by (repeat' (first | exact Below.refl _ _ | apply Below.alloc | apply Below.setCell | apply Below.drew | apply below_draws)) <;> (first | omega | (simp <;> omega))), ((Outer.of hb0).trans (o1.mono (by omega))).below (by (repeat' (first | exact Below.refl _ _ | apply Below.alloc | apply Below.setCell | apply Below.drew | apply below_draws)) <;> (first | omega | (simp <;> omega)))⟩
  · refine bodyPost_ret (v := .agg #[.int .i64 1000000000, .int .i64 999999999]) (by simp [results, Tryd.results41, go_sem, e0, e1]) rfl ?_
    exact ⟨_, _, rfl, p1, by omega, r1.below (by (repeat' (first | exact Below.refl _ _ | apply Below.alloc | apply Below.setCell | apply Below.drew | apply below_draws)) <;> (first | omega | (simp <;> omega))), ((Outer.of hb0).trans (o1.mono (by omega))).below (by (repeat' (first | exact Below.refl _ _ | apply Below.alloc | apply Below.setCell | apply Below.drew | apply below_draws)) <;> (first | omega | (simp <;> omega)))⟩
  · refine (l30Rat_any g p1 _ r1 (by omega)).mono ?_
    rintro e w2 ⟨a, b, rfl, p2, hp2, r2, o2⟩
    have O : Outer w0.heap.size g w0 w2 := o1.trans (o2.mono o1.2.1)
    obtain ⟨c3, d3⟩ := O.cells
    have hsz2 : w0.heap.size ≤ w2.heap.size := O.2.1
    have e0 : w2.cell? ⟨w.heap.size, 0, none⟩ = some (.int .i64 0) := (c3 _ _ hs0 hne).trans k0
    have e1 : w2.cell? ⟨w.heap.size, 1, none⟩ = some (.int .i64 0) := (c3 _ _ hs0 hne).trans k1
    clear o1 o2 hr0 c1 d1
    go_wp2
    refine bodyPost_ret (v := .agg #[.int .i64 a, .int .i64 b]) (by simp [results, Tryd.results41, go_sem, e0, e1]) rfl ?_
    exact ⟨a, b, rfl, p2, by omega, r2.below (by (repeat' (first | exact Below.refl _ _ | apply Below.alloc | apply Below.setCell | apply Below.drew | apply below_draws)) <;> (first | omega | (simp <;> omega))), ((Outer.of hb0).trans (O.mono (by omega))).below (by (repeat' (first | exact Below.refl _ _ | apply Below.alloc | apply Below.setCell | apply Below.drew | apply below_draws)) <;> (first | omega | (simp <;> omega)))⟩

theorem drawRatAdd_any (a0 : Option Addr) (len cap : Nat) (zs : List Int) (w : World) (h : IsRow .u8 w a0 len cap zs) :
    Calls Tryd.prog 27 #[.slice a0 len cap] w fun e w' => ∃ a b c d : Int, e = .returned (.tuple #[.agg #[.int .i64 a, .int .i64 b], .agg #[.int .i64 c, .int .i64 d]]) ∧ Below w.heap.size w w' := by
  go_enter Tryd.func27, Tryd.ntmps27
  go_wp2_with fail
  have hb0 : Below w.heap.size w ((w.alloc (.cells #[.int .i64 0, .int .i64 0] 23)).alloc (.cells #[.int .i64 0, .int .i64 0] 23)) := by (repeat' (first | exact Below.refl _ _ | apply Below.alloc | apply Below.setCell | apply Below.drew | apply below_draws)) <;> (first | omega | (simp <;> omega))
  have hs : ((w.alloc (.cells #[.int .i64 0, .int .i64 0] 23)).alloc (.cells #[.int .i64 0, .int .i64 0] 23)).heap.size = w.heap.size + 2 := by simp
  generalize hW : (w.alloc (.cells #[.int .i64 0, .int .i64 0] 23)).alloc (.cells #[.int .i64 0, .int .i64 0] 23) = w0 at hb0 hs ⊢
  have h0 : IsRow .u8 w0 a0 len cap zs := h.below hb0
  have hs2 : w.heap.size + 1 < w0.heap.size := by omega
  have k00 : w0.cell? ⟨w.heap.size, 0, none⟩ = some (.int .i64 0) := by rw [← hW]; simp
  have k01 : w0.cell? ⟨w.heap.size, 1, none⟩ = some (.int .i64 0) := by rw [← hW]; simp
  have k10 : w0.cell? ⟨w.heap.size + 1, 0, none⟩ = some (.int .i64 0) := by rw [← hW]; simp
  have k11 : w0.cell? ⟨w.heap.size + 1, 1, none⟩ = some (.int .i64 0) := by rw [← hW]; simp
  have f00 : w0.frozen? ⟨w.heap.size, 0, none⟩ = false := by rw [← hW]; simp
  have f01 : w0.frozen? ⟨w.heap.size, 1, none⟩ = false := by rw [← hW]; simp
  have f10 : w0.frozen? ⟨w.heap.size + 1, 0, none⟩ = false := by rw [← hW]; simp
  have f11 : w0.frozen? ⟨w.heap.size + 1, 1, none⟩ = false := by rw [← hW]; simp
  clear hW
  refine (open_any a0 len cap zs _ h0).mono ?_
  rintro e w1 ⟨⟨rfl, r1⟩, hb1⟩
  obtain ⟨g, hg⟩ : ∃ g, g = w0.heap.size := ⟨_, rfl⟩
  rw [← hg] at r1 hb1 hs2 ⊢
  have hgw : w.heap.size + 2 ≤ g := by omega
  clear hs hg
  go_wp2_with fail
  refine (l30AnyRat_any g 0 _ r1 (by omega)).mono ?_
  rintro e w2 ⟨a, b, rfl, p2, hp2, r2, o2⟩
  have hlt1 := r1.lt
  have O : Outer g g w0 w2 := (Outer.of hb1).trans (o2.mono (by omega))
  have hlt2 := r2.lt
  have r3 : Rd (w2.alloc (.cells #[.int .i64 a, .int .i64 b] 23)) g p2 := r2.below (by (repeat' (first | exact Below.refl _ _ | apply Below.alloc | apply Below.setCell | apply Below.drew | apply below_draws)) <;> (first | omega | (simp <;> omega)))
  go_wp2_with fail
  have hO3 : Outer g g w0 (w2.alloc (.cells #[.int .i64 a, .int .i64 b] 23)) := O.below (by (repeat' (first | exact Below.refl _ _ | apply Below.alloc | apply Below.setCell | apply Below.drew | apply below_draws)) <;> (first | omega | (simp <;> omega)))
  have hx : w2.heap.size < (w2.alloc (.cells #[.int .i64 a, .int .i64 b] 23)).heap.size := by simp
  have l0 : (w2.alloc (.cells #[.int .i64 a, .int .i64 b] 23)).cell? ⟨w2.heap.size, 0, none⟩ = some (.int .i64 a) := by simp
  have l1 : (w2.alloc (.cells #[.int .i64 a, .int .i64 b] 23)).cell? ⟨w2.heap.size, 1, none⟩ = some (.int .i64 b) := by simp
  generalize w2.alloc (.cells #[.int .i64 a, .int .i64 b] 23) = w3 at r3 hO3 hx l0 l1 ⊢
  obtain ⟨b2, hb2⟩ : ∃ b2, b2 = w2.heap.size := ⟨_, rfl⟩
  rw [← hb2] at hx l0 l1 hlt2 ⊢
  obtain ⟨c3, d3⟩ := hO3.cells
  have n0 : w.heap.size ≠ g := by omega
  have n1 : w.heap.size + 1 ≠ g := by omega
  have n2 : b2 ≠ g := by omega
  have s0 : w.heap.size < w3.heap.size := by omega
  have s1 : w.heap.size + 1 < w3.heap.size := by omega
  have q00 : w3.cell? ⟨w.heap.size, 0, none⟩ = some (.int .i64 0) := (c3 _ _ (by omega) n0).trans k00
  have q01 : w3.cell? ⟨w.heap.size, 1, none⟩ = some (.int .i64 0) := (c3 _ _ (by omega) n0).trans k01
  have q10 : w3.cell? ⟨w.heap.size + 1, 0, none⟩ = some (.int .i64 0) := (c3 _ _ (by omega) n1).trans k10
  have q11 : w3.cell? ⟨w.heap.size + 1, 1, none⟩ = some (.int .i64 0) := (c3 _ _ (by omega) n1).trans k11
  have t00 : w3.frozen? ⟨w.heap.size, 0, none⟩ = false := (d3 _ _ (by omega) n0).trans f00
  have t01 : w3.frozen? ⟨w.heap.size, 1, none⟩ = false := (d3 _ _ (by omega) n0).trans f01
  have t10 : w3.frozen? ⟨w.heap.size + 1, 0, none⟩ = false := (d3 _ _ (by omega) n1).trans f10
  have t11 : w3.frozen? ⟨w.heap.size + 1, 1, none⟩ = false := (d3 _ _ (by omega) n1).trans f11
  clear hb2 O o2 r2 r1 hb1 c3 d3 k00 k01 k10 k11 f00 f01 f10 f11 h0
  go_region_with (go_at_call 41; go_must (refine (l30AnyRat_any g p2 _ (by exact r3) (by omega)).mono ?_); rintro e w4 ⟨c, d, rfl, p4, hp4, r4, o4⟩; obtain ⟨c4, d4⟩ := o4.cells; have y0 := (c4 b2 0 hx n2).trans l0; have y1 := (c4 b2 1 hx n2).trans l1; have y2 := (c4 w.heap.size 0 s0 n0).trans q00; have y3 := (c4 w.heap.size 1 s0 n0).trans q01; have y4 := (c4 (w.heap.size + 1) 0 s1 n1).trans q10; have y5 := (c4 (w.heap.size + 1) 1 s1 n1).trans q11; have y6 := (d4 w.heap.size 0 s0 n0).trans t00; have y7 := (d4 w.heap.size 1 s0 n0).trans t01; have y8 := (d4 (w.heap.size + 1) 0 s1 n1).trans t10; have y9 := (d4 (w.heap.size + 1) 1 s1 n1).trans t11; clear c4 d4)
  all_goals
    have o5 : Outer w3.heap.size g w3 w4 := o4
    have hsz : w3.heap.size ≤ w4.heap.size := o4.2.1
    have O5 : Below w.heap.size w w4 := ((Outer.of hb0).trans ((hO3.mono (by omega)).trans (o5.mono (by omega)))).under (Nat.le_refl _) (by omega)
    go_wp2
    refine bodyPost_ret (v := .tuple #[.agg #[.int .i64 a, .int .i64 b], .agg #[.int .i64 c, .int .i64 d]]) (by simp [results, Tryd.results27, go_sem, y2, y3, y4, y5]) rfl ?_
    exact ⟨a, b, c, d, rfl, O5.trans (by (repeat' (first | exact Below.refl _ _ | apply Below.alloc | apply Below.setCell | apply Below.drew | apply below_draws)) <;> (first | omega | (simp <;> omega)))⟩

end Go.Proofs.YtobdkkbackalhaaDoor
