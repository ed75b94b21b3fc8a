/-
  What is drawn: contracts of DrawRatOk, DrawRatOf, DrawRatMul, DrawTermScore.
-/
import Derived.Test.YtobdkkbackalhaaDoorDrawRat
namespace Go.Proofs.YtobdkkbackalhaaDoor
open Go.RowKit
set_option linter.unusedVariables false

theorem drawRatOk_any (a0 : Option Addr) (len cap : Nat) (zs : List Int) (w : World) (h : IsRow .u8 w a0 len cap zs) :
    Calls Tryd.prog 25 #[.slice a0 len cap] w fun e w' => ∃ a b : Int, e = .returned (.agg #[.int .i64 a, .int .i64 b]) ∧ Below w.heap.size w w' := by
  go_enter Tryd.func25, Tryd.ntmps25
  go_wp2_with fail
  have hb0 : Below w.heap.size w (w.alloc (.cells #[.int .i64 0, .int .i64 0] 23)) := by (repeat' (first | exact Below.refl _ _ | apply Below.alloc | apply Below.setCell | apply Below.drew | apply below_draws)) <;> (first | omega | (simp <;> omega))
  have hs : (w.alloc (.cells #[.int .i64 0, .int .i64 0] 23)).heap.size = w.heap.size + 1 := by simp
  generalize hW : w.alloc (.cells #[.int .i64 0, .int .i64 0] 23) = w0 at hb0 hs ⊢
  have h0 : IsRow .u8 w0 a0 len cap zs := h.below hb0
  have hs2 : w.heap.size < w0.heap.size := by omega
  have k00 : w0.cell? ⟨w.heap.size, 0, none⟩ = some (.int .i64 0) := by rw [← hW]; simp
  have k01 : w0.cell? ⟨w.heap.size, 1, none⟩ = some (.int .i64 0) := by rw [← hW]; simp
  have f00 : w0.frozen? ⟨w.heap.size, 0, none⟩ = false := by rw [← hW]; simp
  have f01 : w0.frozen? ⟨w.heap.size, 1, none⟩ = false := by rw [← hW]; simp
  clear hW
  refine (open_any a0 len cap zs _ h0).mono ?_
  rintro e w1 ⟨⟨rfl, r1⟩, hb1⟩
  obtain ⟨g, hg⟩ : ∃ g, g = w0.heap.size := ⟨_, rfl⟩
  rw [← hg] at r1 hb1 hs2 ⊢
  clear hs hg
  go_wp2_with fail
  refine (l30AnyRat_any g 0 _ r1 (by omega)).mono ?_
  rintro e w2 ⟨a, b, rfl, p2, hp2, r2, o2⟩
  have hlt1 := r1.lt
  have O : Outer g g w0 w2 := (Outer.of hb1).trans (o2.mono (by omega))
  obtain ⟨c3, d3⟩ := O.cells
  have n0 : w.heap.size ≠ g := by omega
  have q00 : w2.cell? ⟨w.heap.size, 0, none⟩ = some (.int .i64 0) := (c3 _ _ (by omega) n0).trans k00
  have q01 : w2.cell? ⟨w.heap.size, 1, none⟩ = some (.int .i64 0) := (c3 _ _ (by omega) n0).trans k01
  have t00 : w2.frozen? ⟨w.heap.size, 0, none⟩ = false := (d3 _ _ (by omega) n0).trans f00
  have t01 : w2.frozen? ⟨w.heap.size, 1, none⟩ = false := (d3 _ _ (by omega) n0).trans f01
  have O5 : Below w.heap.size w w2 := ((Outer.of hb0).trans (O.mono (by omega))).under (Nat.le_refl _) (by omega)
  clear c3 d3 k00 k01 f00 f01 h0 o2 O hb1
  go_wp2
  refine bodyPost_ret (v := .agg #[.int .i64 a, .int .i64 b]) (by simp [results, Tryd.results25, go_sem, q00, q01]) rfl ?_
  exact ⟨a, b, rfl, O5.trans (by (repeat' (first | exact Below.refl _ _ | apply Below.alloc | apply Below.setCell | apply Below.drew | apply below_draws)) <;> (first | omega | (simp <;> omega)))⟩

theorem drawRatMul_any (a0 : Option Addr) (len cap : Nat) (zs : List Int) (w : World) (h : IsRow .u8 w a0 len cap zs) :
    Calls Tryd.prog 28 #[.slice a0 len cap] w fun e w' => ∃ a b c d : Int, e = .returned (.tuple #[.agg #[.int .i64 a, .int .i64 b], .agg #[.int .i64 c, .int .i64 d]]) ∧ Below w.heap.size w w' := by
  go_enter Tryd.func28, Tryd.ntmps28
  go_wp2_with fail
  have hb0 : Below w.heap.size w ((w.alloc (.cells #[.int .i64 0, .int .i64 0] 23)).alloc (.cells #[.int .i64 0, .int .i64 0] 23)) := by (repeat' (first | exact Below.refl _ _ | apply Below.alloc | apply Below.setCell | apply Below.drew | apply below_draws)) <;> (first | omega | (simp <;> omega))
  have hs : ((w.alloc (.cells #[.int .i64 0, .int .i64 0] 23)).alloc (.cells #[.int .i64 0, .int .i64 0] 23)).heap.size = w.heap.size + 2 := by simp
  refine (drawRatAdd_any a0 len cap zs _ (h.below hb0)).mono ?_
  rintro e w1 ⟨a, b, c, d, rfl, hb1⟩
  obtain ⟨c1, d1⟩ := bcell hb1
  have hz : w.heap.size + 2 ≤ w1.heap.size := by have := hb1.size; omega
  have y2 : w1.cell? ⟨w.heap.size, 0, none⟩ = some (.int .i64 0) := (c1 _ _ (by omega)).trans (by simp)
  have y3 : w1.cell? ⟨w.heap.size, 1, none⟩ = some (.int .i64 0) := (c1 _ _ (by omega)).trans (by simp)
  have y4 : w1.cell? ⟨w.heap.size + 1, 0, none⟩ = some (.int .i64 0) := (c1 _ _ (by omega)).trans (by simp)
  have y5 : w1.cell? ⟨w.heap.size + 1, 1, none⟩ = some (.int .i64 0) := (c1 _ _ (by omega)).trans (by simp)
  have y6 : w1.frozen? ⟨w.heap.size, 0, none⟩ = false := (d1 _ _ (by omega)).trans (by simp)
  have y7 : w1.frozen? ⟨w.heap.size, 1, none⟩ = false := (d1 _ _ (by omega)).trans (by simp)
  have y8 : w1.frozen? ⟨w.heap.size + 1, 0, none⟩ = false := (d1 _ _ (by omega)).trans (by simp)
  have y9 : w1.frozen? ⟨w.heap.size + 1, 1, none⟩ = false := (d1 _ _ (by omega)).trans (by simp)
  have O5 : Below w.heap.size w w1 := hb0.trans (hb1.mono (by omega))
  clear hb0 hs hb1 c1 d1
  go_wp2
  refine bodyPost_ret (v := .tuple #[.agg #[.int .i64 a, .int .i64 b], .agg #[.int .i64 c, .int .i64 d]]) (by simp [results, Tryd.results28, go_sem, y2, y3, y4, y5]) rfl ?_
  exact ⟨a, b, c, d, rfl, O5.trans (by (repeat' (first | exact Below.refl _ _ | apply Below.alloc | apply Below.setCell | apply Below.drew | apply below_draws)) <;> (first | omega | (simp <;> omega)))⟩

theorem drawRatOf_any (a0 : Option Addr) (len cap : Nat) (zs : List Int) (w : World) (h : IsRow .u8 w a0 len cap zs) :
    Calls Tryd.prog 23 #[.slice a0 len cap] w fun e w' => ∃ a b : Int, e = .returned (.tuple #[.int .i64 a, .int .i64 b]) ∧ Below w.heap.size w w' := by
  go_enter Tryd.func23, Tryd.ntmps23
  go_wp2_with fail
  refine (open_any a0 len cap zs _ h).mono ?_
  rintro e w1 ⟨⟨rfl, r1⟩, hb1⟩
  obtain ⟨g, hg⟩ : ∃ g, g = w.heap.size := ⟨_, rfl⟩
  have hgw : w.heap.size ≤ g := by omega
  rw [← hg] at r1 ⊢
  have hlt1 := r1.lt
  clear hg
  go_wp2_with fail
  refine (pick_gen g 0 _ (by omega) (by omega) _ r1 (by omega)).mono ?_
  rintro e w2 ⟨v1, ⟨rfl, h1, h2⟩, p2, hp2, r2, o2⟩
  have hlt2 := r2.lt
  go_wp2_with fail
  refine (one_any g p2 w2.heap.size 7 [0, 1, -6, 12, 1000000000, 1000000001, v1] _ (r2.below (by (repeat' (first | exact Below.refl _ _ | apply Below.alloc | apply Below.setCell | apply Below.drew | apply below_draws)) <;> (first | omega | (simp <;> omega)))) (by omega) rfl (by omega) (by omega) (by omega) (fun i hi => ?_)).mono ?_
  · rcases i with _ | _ | _ | _ | _ | _ | _ | i
    all_goals first | omega | simp
  rintro e w3 ⟨a, ⟨rfl, ha⟩, p3, hp3, r3, o3⟩
  clear ha
  have hlt3 := r3.lt
  have O3 : Outer w.heap.size g w w3 := ((Outer.of hb1).trans (o2.mono (by have := hb1.size; omega))).trans ((Outer.of (B := w.heap.size) (by (repeat' (first | exact Below.refl _ _ | apply Below.alloc | apply Below.setCell | apply Below.drew | apply below_draws)) <;> (first | omega | (simp <;> omega)))).trans (o3.mono (by have := hb1.size; have := o2.2.1; simp; omega)))
  clear o3 o2 hb1
  go_wp2_with fail
  refine (pick_gen g p3 _ (by omega) (by omega) _ r3 (by omega)).mono ?_
  rintro e w4 ⟨v2, ⟨rfl, h3, h4⟩, p4, hp4, r4, o4⟩
  have hlt4 := r4.lt
  go_wp2_with fail
  refine (one_any g p4 w4.heap.size 7 [0, 1, -4, 8, 1000000000, -1000000001, 1 + v2] _ (r4.below (by (repeat' (first | exact Below.refl _ _ | apply Below.alloc | apply Below.setCell | apply Below.drew | apply below_draws)) <;> (first | omega | (simp <;> omega)))) (by omega) rfl (by omega) (by omega) (by omega) (fun i hi => ?_)).mono ?_
  · rcases i with _ | _ | _ | _ | _ | _ | _ | i
    all_goals first | omega | simp
  rintro e w5 ⟨b, ⟨rfl, hb⟩, p5, hp5, r5, o5⟩
  clear hb
  have O5 : Outer w.heap.size g w w5 := (O3.trans (o4.mono (O3.2.1))).trans ((Outer.of (B := w.heap.size) (by (repeat' (first | exact Below.refl _ _ | apply Below.alloc | apply Below.setCell | apply Below.drew | apply below_draws)) <;> (first | omega | (simp <;> omega)))).trans (o5.mono (by have := O3.2.1; have := o4.2.1; simp; omega)))
  go_wp2
  go_ret2
  exact ⟨a, b, rfl, O5.under (Nat.le_refl _) hgw⟩

theorem drawTermScore_any (a0 : Option Addr) (len cap : Nat) (zs : List Int) (w : World) (h : IsRow .u8 w a0 len cap zs) :
    Calls Tryd.prog 29 #[.slice a0 len cap] w fun e w' => ∃ tf long total docs df : Int, (e = .returned (.tuple #[.int .i64 tf, .int .i64 long, .int .i64 total, .int .i64 docs, .int .i64 df]) ∧ (0 ≤ tf ∧ tf ≤ 81) ∧ (1 ≤ long ∧ long ≤ 20) ∧ (1 ≤ total ∧ total ≤ 80) ∧ (1 ≤ docs ∧ docs ≤ 8) ∧ (1 ≤ df ∧ df ≤ 8)) ∧ Below w.heap.size w w' := by
  go_enter Tryd.func29, Tryd.ntmps29
  go_wp2_with fail
  refine (open_any a0 len cap zs _ h).mono ?_
  rintro e w1 ⟨⟨rfl, r1⟩, hb1⟩
  obtain ⟨g, hg⟩ : ∃ g, g = w.heap.size := ⟨_, rfl⟩
  have hgw : w.heap.size ≤ g := by omega
  rw [← hg] at r1 ⊢
  have O1 : Outer w.heap.size g w w1 := Outer.of hb1
  clear hg hb1
  go_wp2_with fail
  refine (pick_gen g 0 _ (by omega) (by omega) _ r1 (by omega)).mono ?_
  rintro e w2 ⟨v2, ⟨rfl, h1, h2⟩, p2, hp2, r2, o2⟩
  have O2 := O1.trans (o2.mono O1.2.1)
  clear O1 o2 r1
  go_wp2_with fail
  refine (pick_gen g p2 _ (by omega) (by omega) _ r2 (by omega)).mono ?_
  rintro e w3 ⟨v3, ⟨rfl, h3, h4⟩, p3, hp3, r3, o3⟩
  have O3 := O2.trans (o3.mono O2.2.1)
  clear O2 o3 r2
  go_wp2_with fail
  refine (pick_gen g p3 _ (by omega) (by omega) _ r3 (by omega)).mono ?_
  rintro e w4 ⟨v4, ⟨rfl, h5, h6⟩, p4, hp4, r4, o4⟩
  have O4 := O3.trans (o4.mono O3.2.1)
  clear O3 o4 r3
  go_wp2_with fail
  refine (pick_gen g p4 _ (by omega) (by omega) _ r4 (by omega)).mono ?_
  rintro e w5 ⟨v5, ⟨rfl, h7, h8⟩, p5, hp5, r5, o5⟩
  have O5 := O4.trans (o5.mono O4.2.1)
  clear O4 o5 r4
  go_wp2_with fail
  refine (pick_gen g p5 _ (by omega) (by omega) _ r5 (by omega)).mono ?_
  rintro e w6 ⟨v6, ⟨rfl, h9, h10⟩, p6, hp6, r6, o6⟩
  have O6 := O5.trans (o6.mono O5.2.1)
  clear O5 o6 r5
  go_wp2_with fail
  refine (pick_gen g p6 _ (by omega) (by omega) _ r6 (by omega)).mono ?_
  rintro e w7 ⟨v7, ⟨rfl, h11, h12⟩, p7, hp7, r7, o7⟩
  have O7 := O6.trans (o7.mono O6.2.1)
  have hlt7 := r7.lt
  clear O6 o7 r6
  by_cases hv : v7 = 0
  · have hv' : (v7 == 0) = true := by simpa using hv
    clear hv
    go_wp2_with fail
    refine (one_any g p7 w7.heap.size 2 [0, 81] _ (r7.below (by (repeat' (first | exact Below.refl _ _ | apply Below.alloc | apply Below.setCell | apply Below.drew | apply below_draws)) <;> (first | omega | (simp <;> omega)))) (by omega) rfl (by omega) (by omega) (by omega) (fun i hi => ?_)).mono ?_
    · rcases i with _ | _ | i
      all_goals first | omega | simp
    rintro e w8 ⟨tf, ⟨rfl, ht⟩, p8, hp8, r8, o8⟩
    have ht2 : 0 ≤ tf ∧ tf ≤ 81 := by
      simp at ht
      omega
    clear ht
    have O8 : Outer w.heap.size g w w8 := O7.trans ((Outer.of (B := w.heap.size) (by (repeat' (first | exact Below.refl _ _ | apply Below.alloc | apply Below.setCell | apply Below.drew | apply below_draws)) <;> (first | omega | (simp <;> omega)))).trans (o8.mono (by have := O7.2.1; simp; omega)))
    go_wp2
    refine bodyPost_ret (v := .tuple #[.int .i64 tf, .int .i64 (1 + v2 + v3), .int .i64 (1 + v2 + v3 + v6), .int .i64 (1 + v4), .int .i64 (1 + v5)]) (by simp [results, Tryd.results29, go_sem]) rfl ?_
    exact ⟨tf, _, _, _, _, ⟨rfl, ht2, by omega, by omega, by omega, by omega⟩, O8.under (Nat.le_refl _) hgw⟩
  · have hv' : (v7 == 0) = false := by simpa using hv
    clear hv
    go_wp2
    refine bodyPost_ret (v := .tuple #[.int .i64 (1 + v2), .int .i64 (1 + v2 + v3), .int .i64 (1 + v2 + v3 + v6), .int .i64 (1 + v4), .int .i64 (1 + v5)]) (by simp [results, Tryd.results29, go_sem]) rfl ?_
    exact ⟨_, _, _, _, _, ⟨rfl, by omega, by omega, by omega, by omega, by omega⟩, O7.under (Nat.le_refl _) hgw⟩
end Go.Proofs.YtobdkkbackalhaaDoor
