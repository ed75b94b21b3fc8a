/-
  The walks of FnExactRatOf, FnExactRatAdd, FnExactRatMul.
-/
import Derived.Test.YtobdkkbackalhaaDoorRatOps
import Derived.Deep.RegionHeld3
import Derived.Deep.DeepCutAuto
namespace Go.Proofs.YtobdkkbackalhaaDoor
open Go.RowKit
set_option linter.unusedVariables false

/-- behind three calls made in the world A behind a draw, a new block. -/
theorem chain3 {A b c d : World} (h3 : Below c.heap.size c d) (h2 : Below b.heap.size b c) (h1 : Below A.drew.heap.size A.drew b) (o : Obj) : Below A.heap.size A (d.alloc o) := by
  have k1 : Below A.heap.size A b := ⟨h1.os, h1.tape, h1.output, h1.size, h1.block⟩
  have k2 := k1.trans (h2.mono k1.size)
  have k3 := k2.trans (h3.mono k2.size)
  exact k3.alloc k3.size _

theorem setTwo {A d : World} {b : Nat} (h : Below A.heap.size A d) (hp : A.heap.size ≤ b) (u v : Value) : Below A.heap.size A ((d.setCell ⟨b, 0, none⟩ u).setCell ⟨b, 1, none⟩ v) := (h.setCell (p := ⟨b, 0, none⟩) hp u).setCell (p := ⟨b, 1, none⟩) hp v
theorem setTwo0 {A d : World} (h : Below A.heap.size A d) (u v : Value) : Below A.heap.size A ((d.setCell ⟨A.heap.size, 0, none⟩ u).setCell ⟨A.heap.size, 1, none⟩ v) := setTwo h (Nat.le_refl _) u v
theorem setTwo1 {A b d : World} (h : Below A.heap.size A d) (h1 : Below A.drew.heap.size A.drew b) (u v : Value) : Below A.heap.size A ((d.setCell ⟨b.heap.size, 0, none⟩ u).setCell ⟨b.heap.size, 1, none⟩ v) := setTwo h h1.size u v
theorem setTwo2 {A b c d : World} (h : Below A.heap.size A d) (h2 : Below b.heap.size b c) (h1 : Below A.drew.heap.size A.drew b) (u v : Value) : Below A.heap.size A ((d.setCell ⟨c.heap.size, 0, none⟩ u).setCell ⟨c.heap.size, 1, none⟩ v) := setTwo h (Nat.le_trans h1.size h2.size) u v

theorem set2_0 {w : World} {b : Nat} {x u v : Value} (h0 : w.cell? ⟨b, 0, none⟩ = some x) : ((w.setCell ⟨b, 0, none⟩ u).setCell ⟨b, 1, none⟩ v).cell? ⟨b, 0, none⟩ = some u := by
  rw [World.cell?_setCell_other _ _ _ _ (by simp)]
  simp [h0, go_sem]
theorem set2_1 {w : World} {b : Nat} {y u v : Value} (h1 : w.cell? ⟨b, 1, none⟩ = some y) : ((w.setCell ⟨b, 0, none⟩ u).setCell ⟨b, 1, none⟩ v).cell? ⟨b, 1, none⟩ = some v := by
  have : (w.setCell ⟨b, 0, none⟩ u).cell? ⟨b, 1, none⟩ = some y := by rw [World.cell?_setCell_other _ _ _ _ (by simp)]; exact h1
  simp [this, go_sem]
theorem toRat_exact (a b : Int) (w : World) :
    Calls Tryd.prog 17 #[.agg #[.int .i64 a, .int .i64 b]] w fun e w' => e = .returned (.agg #[.int .i64 a, .int .i64 b]) ∧ ((w.alloc (.cells #[.int .i64 a, .int .i64 b] 28)).alloc (.cells #[.int .i64 a, .int .i64 b] 23)).alloc (.cells #[.int .i64 a, .int .i64 b] 23) = w' := by
  go_enter Tryd.func17, Tryd.ntmps17
  go_wp2
  exact bodyPost_ret (v := .agg #[.int .i64 a, .int .i64 b]) (by simp [results, Tryd.results17, go_sem]) rfl ⟨rfl, rfl⟩

theorem eqRat_same (a b : Int) (w : World) :
    Calls Tryd.prog 15 #[.agg #[.int .i64 a, .int .i64 b], .agg #[.int .i64 a, .int .i64 b]] w fun e w' => e = .returned (.bool true) ∧ Below w.heap.size w w' := by
  go_enter Tryd.func15, Tryd.ntmps15
  go_wp2
  go_ret
  exact ⟨rfl, by (repeat' (first | exact Below.refl _ _ | apply Below.alloc | apply Below.setCell | apply Below.drew | apply below_draws)) <;> (first | omega | (simp <;> omega))⟩

theorem walk_FnExactRatOf (a : Int) (wa : (Lit.int .i64 a).wf = true) (b : Int) (wb : (Lit.int .i64 b).wf = true) (w : World) (hL : Laid w) :
    Calls Tryd.prog 3 #[.int .i64 a, .int .i64 b] w fun e w' => e = .returned (.bool true) ∧ Below w.heap.size w w' := by
  clear wa wb
  have hlt := hL.lt
  go_enter Tryd.func3, Tryd.ntmps3
  go_wp2_with fail
  refine (specRatOf_any a b _).mono ?_
  rintro e w1 ⟨rfl, hb1⟩
  go_wp2_with fail
  have hB1 : Below w.heap.size w (w1.alloc (.cells #[.int .i64 (pickU (ofC a b) (fitU a b)), .int .i64 (pickD (ofC a b) (fitD a b))] 23)) := hb1.trans (Below.alloc (Below.refl _ _) hb1.size _)
  refine (ratOf_any a b _ (hL.below hB1 hlt)).mono ?_
  rintro e w2 ⟨rfl, hb2⟩
  obtain ⟨c2, f2⟩ := bcell hb2
  have hz2 := hb2.size
  have q0 : w2.cell? ⟨w1.heap.size, 0, none⟩ = some (.int .i64 (pickU (ofC a b) (fitU a b))) := (c2 _ _ (by simp)).trans (by simp [go_sem])
  have q1 : w2.cell? ⟨w1.heap.size, 1, none⟩ = some (.int .i64 (pickD (ofC a b) (fitD a b))) := (c2 _ _ (by simp)).trans (by simp [go_sem])
  have hz3 : w1.heap.size < w2.heap.size := by simp at hz2; omega
  have hB2 : Below w.heap.size w w2 := hB1.trans (hb2.mono hB1.size)
  clear c2 f2 hz2 hb2 hb1 hB1
  go_wp2_with fail
  refine (eqRat_same _ _ _).mono ?_
  rintro e w3 ⟨rfl, hb3⟩
  go_wp2
  go_ret
  exact ⟨rfl, hB2.trans (Below.trans (Below.alloc (Below.refl _ _) hB2.size _) (hb3.mono (by have := hB2.size; simp; omega)))⟩

set_option maxHeartbeats 2000000 in
theorem walk_FnExactRatAdd (a : Int) (wa : (Lit.int .i64 a).wf = true) (b : Int) (wb : (Lit.int .i64 b).wf = true) (c : Int) (wc : (Lit.int .i64 c).wf = true) (d : Int) (wd : (Lit.int .i64 d).wf = true) (w : World) (hL : Laid w) :
    Calls Tryd.prog 4 #[.agg #[.int .i64 a, .int .i64 b], .agg #[.int .i64 c, .int .i64 d]] w fun e w' => e = .returned (.bool true) ∧ Below w.heap.size w w' := by
  clear wa wb wc wd
  have hlt := hL.lt
  have hB : Below w.heap.size w ((w.alloc (.cells #[.int .i64 a, .int .i64 b] 28)).alloc (.cells #[.int .i64 c, .int .i64 d] 28)) := by (repeat' (first | exact Below.refl _ _ | apply Below.alloc | apply Below.setCell | apply Below.drew | apply below_draws)) <;> (first | omega | (simp <;> omega))
  go_enter Tryd.func4, Tryd.ntmps4
  go_wp2_with fail
  generalize hW : (w.alloc (.cells #[.int .i64 a, .int .i64 b] 28)).alloc (.cells #[.int .i64 c, .int .i64 d] 28) = W0 at hB ⊢
  have hS : W0.heap.size = w.heap.size + 2 ∧ W0.cell? ⟨w.heap.size, 0, none⟩ = some (.int .i64 a) ∧ W0.cell? ⟨w.heap.size, 1, none⟩ = some (.int .i64 b) ∧ W0.cell? ⟨w.heap.size + 1, 0, none⟩ = some (.int .i64 c) ∧ W0.cell? ⟨w.heap.size + 1, 1, none⟩ = some (.int .i64 d) := by
    subst hW
    refine ⟨?_, ?_, ?_, ?_, ?_⟩ <;> simp
  clear hW
  obtain ⟨hz, g1, g2, g3, g4⟩ := hS
  have h1 : ∀ w', Below W0.heap.size W0 w' → w'.cell? ⟨w.heap.size, 0, none⟩ = some (.int .i64 a) := fun w' h => (h.cell (p := ⟨_, _, _⟩) (show w.heap.size < _ by omega)).trans g1
  have h2 : ∀ w', Below W0.heap.size W0 w' → w'.cell? ⟨w.heap.size, 1, none⟩ = some (.int .i64 b) := fun w' h => (h.cell (p := ⟨_, _, _⟩) (show w.heap.size < _ by omega)).trans g2
  have h3 : ∀ w', Below W0.heap.size W0 w' → w'.cell? ⟨w.heap.size + 1, 0, none⟩ = some (.int .i64 c) := fun w' h => (h.cell (p := ⟨_, _, _⟩) (show w.heap.size + 1 < _ by omega)).trans g3
  have h4 : ∀ w', Below W0.heap.size W0 w' → w'.cell? ⟨w.heap.size + 1, 1, none⟩ = some (.int .i64 d) := fun w' h => (h.cell (p := ⟨_, _, _⟩) (show w.heap.size + 1 < _ by omega)).trans g4
  have hL0 : Laid W0 := hL.below hB hlt
  have hlt0 := hL0.lt
  clear g1 g2 g3 g4 hz
  go_upto_region 1 with (fail)
  go_cut [5, 6] (fun s5 s6 wx => ∃ B5 : Nat, s5 = .pointer (some ⟨B5, 0, none⟩) ∧ s6 = .bool (twoC a b c d && fitB (a * d + c * b) (b * d)) ∧ Below W0.heap.size W0 wx ∧ B5 < wx.heap.size ∧ wx.cell? ⟨B5, 0, none⟩ = some (.int .i64 (pickU (twoC a b c d) (fitU (a * d + c * b) (b * d)))) ∧ wx.cell? ⟨B5, 1, none⟩ = some (.int .i64 (pickD (twoC a b c d) (fitD (a * d + c * b) (b * d)))))
  case first =>
    go_region_held3 (fun w' => Below W0.heap.size W0 w')
      ((repeat' (first | exact Below.refl _ _ | assumption | apply Below.alloc | apply Below.setCell | apply Below.drew | (refine Below.trans ?_ (Below.mono (by assumption) ?_)))) <;> (first | exact Below.size (by assumption) | omega | (simp; done) | (simp; omega) | (refine Nat.le_trans ?_ (Below.size (by assumption)); (first | omega | (simp <;> omega)))))
      (first | (go_at_call 17; refine (toRat_exact _ _ _).mono ?_; rintro e w' ⟨rfl, rfl⟩) | (go_at_call 16; refine (specRatAdd_any _ _ _ _ _).mono ?_; rintro e w' ⟨rfl, hb⟩; obtain ⟨hc, hf⟩ := bcell hb; have hz := blt hb))
    all_goals (go_wp2_with fail; go_meet; refine ⟨_, rfl, rfl, by assumption, ?_, ?_, ?_⟩)
    all_goals first | ((with_reducible refine set2_0 (x := .int .i64 0) ?_); refine (hc _ _ ?_).trans ?_; (first | (simp; done) | (simp; omega)); (simp [go_sem]; done)) | ((with_reducible refine set2_1 (y := .int .i64 0) ?_); refine (hc _ _ ?_).trans ?_; (first | (simp; done) | (simp; omega)); (simp [go_sem]; done)) | (simp [*, go_sem]; done) | (simp [*, go_sem]; omega) | (simp [World.setCell]; refine hz _ ?_; first | (simp; done) | (simp; omega))
  case rest =>
    obtain ⟨B5, rfl, rfl, hBx, hlt5, y0, y1⟩ := hcut
    have hL5 : Laid wc := hL0.below hBx hlt0
    have hlt5b := hL5.lt
    have k1 : ∀ w', Below wc.heap.size wc w' → w'.cell? ⟨w.heap.size, 0, none⟩ = some (.int .i64 a) := fun w' h => h1 w' (hBx.trans (h.mono hBx.size))
    have k2 : ∀ w', Below wc.heap.size wc w' → w'.cell? ⟨w.heap.size, 1, none⟩ = some (.int .i64 b) := fun w' h => h2 w' (hBx.trans (h.mono hBx.size))
    have k3 : ∀ w', Below wc.heap.size wc w' → w'.cell? ⟨w.heap.size + 1, 0, none⟩ = some (.int .i64 c) := fun w' h => h3 w' (hBx.trans (h.mono hBx.size))
    have k4 : ∀ w', Below wc.heap.size wc w' → w'.cell? ⟨w.heap.size + 1, 1, none⟩ = some (.int .i64 d) := fun w' h => h4 w' (hBx.trans (h.mono hBx.size))
    have hBw : Below w.heap.size w wc := hB.trans (hBx.mono hB.size)
    have k5 : ∀ w', Below wc.heap.size wc w' → w'.cell? ⟨B5, 0, none⟩ = some (.int .i64 (pickU (twoC a b c d) (fitU (a * d + c * b) (b * d)))) := fun w' h => (h.cell (p := ⟨_, _, _⟩) hlt5).trans y0
    have k6 : ∀ w', Below wc.heap.size wc w' → w'.cell? ⟨B5, 1, none⟩ = some (.int .i64 (pickD (twoC a b c d) (fitD (a * d + c * b) (b * d)))) := fun w' h => (h.cell (p := ⟨_, _, _⟩) hlt5).trans y1
    clear h1 h2 h3 h4 hB hBx hL0 hlt0 y0 y1
    go_upto_region 2 with (fail)
    go_cut [7, 8] (fun s7 s8 wx => ∃ B7 : Nat, s7 = .pointer (some ⟨B7, 0, none⟩) ∧ s8 = .bool (twoC a b c d && fitB (a * d + c * b) (b * d)) ∧ Below wc.heap.size wc wx ∧ B7 < wx.heap.size ∧ wx.cell? ⟨B7, 0, none⟩ = some (.int .i64 (pickU (twoC a b c d) (fitU (a * d + c * b) (b * d)))) ∧ wx.cell? ⟨B7, 1, none⟩ = some (.int .i64 (pickD (twoC a b c d) (fitD (a * d + c * b) (b * d)))))
    case first =>
      go_region_held3 (fun w' => Below wc.heap.size wc w')
        ((repeat' (first | exact Below.refl _ _ | assumption | apply Below.alloc | apply Below.setCell | apply Below.drew | (refine Below.trans ?_ (Below.mono (by assumption) ?_)))) <;> (first | exact Below.size (by assumption) | omega | (simp; done) | (simp; omega) | (refine Nat.le_trans ?_ (Below.size (by assumption)); (first | omega | (simp <;> omega)))))
        (first | (go_at_call 17; refine (toRat_exact _ _ _).mono ?_; rintro e w' ⟨rfl, rfl⟩) | (go_at_call 18; refine (ratAdd_any _ _ _ _ _ (hL5.below (by assumption) hlt5b)).mono ?_; rintro e w' ⟨rfl, hb⟩; obtain ⟨hc, hf⟩ := bcell hb; have hz := blt hb))
      all_goals (go_wp2_with fail; go_meet; refine ⟨_, rfl, rfl, by assumption, ?_, ?_, ?_⟩)
      all_goals first | ((with_reducible refine set2_0 (x := .int .i64 0) ?_); refine (hc _ _ ?_).trans ?_; (first | (simp; done) | (simp; omega)); (simp [go_sem]; done)) | ((with_reducible refine set2_1 (y := .int .i64 0) ?_); refine (hc _ _ ?_).trans ?_; (first | (simp; done) | (simp; omega)); (simp [go_sem]; done)) | (simp [*, go_sem]; done) | (simp [*, go_sem]; omega) | (simp [World.setCell]; refine hz _ ?_; first | (simp; done) | (simp; omega))
    case rest =>
      obtain ⟨B7, rfl, rfl, hBx, hlt7, y0, y1⟩ := hcut
      have z0 := k5 _ hBx
      have z1 := k6 _ hBx
      clear k1 k2 k3 k4 k5 k6
      go_wp2_with (go_at_call 15; refine (eqRat_same _ _ _).mono ?_; rintro e w3 ⟨rfl, hb3⟩)
      go_ret
      exact ⟨rfl, (hBw.trans (hBx.mono hBw.size)).trans (hb3.mono (Nat.le_trans hBw.size hBx.size))⟩

set_option maxHeartbeats 2000000 in
theorem walk_FnExactRatMul (a : Int) (wa : (Lit.int .i64 a).wf = true) (b : Int) (wb : (Lit.int .i64 b).wf = true) (c : Int) (wc : (Lit.int .i64 c).wf = true) (d : Int) (wd : (Lit.int .i64 d).wf = true) (w : World) (hL : Laid w) :
    Calls Tryd.prog 5 #[.agg #[.int .i64 a, .int .i64 b], .agg #[.int .i64 c, .int .i64 d]] w fun e w' => e = .returned (.bool true) ∧ Below w.heap.size w w' := by
  clear wa wb wc wd
  have hlt := hL.lt
  have hB : Below w.heap.size w ((w.alloc (.cells #[.int .i64 a, .int .i64 b] 28)).alloc (.cells #[.int .i64 c, .int .i64 d] 28)) := by (repeat' (first | exact Below.refl _ _ | apply Below.alloc | apply Below.setCell | apply Below.drew | apply below_draws)) <;> (first | omega | (simp <;> omega))
  go_enter Tryd.func5, Tryd.ntmps5
  go_wp2_with fail
  generalize hW : (w.alloc (.cells #[.int .i64 a, .int .i64 b] 28)).alloc (.cells #[.int .i64 c, .int .i64 d] 28) = W0 at hB ⊢
  have hS : W0.heap.size = w.heap.size + 2 ∧ W0.cell? ⟨w.heap.size, 0, none⟩ = some (.int .i64 a) ∧ W0.cell? ⟨w.heap.size, 1, none⟩ = some (.int .i64 b) ∧ W0.cell? ⟨w.heap.size + 1, 0, none⟩ = some (.int .i64 c) ∧ W0.cell? ⟨w.heap.size + 1, 1, none⟩ = some (.int .i64 d) := by
    subst hW
    refine ⟨?_, ?_, ?_, ?_, ?_⟩ <;> simp
  clear hW
  obtain ⟨hz, g1, g2, g3, g4⟩ := hS
  have h1 : ∀ w', Below W0.heap.size W0 w' → w'.cell? ⟨w.heap.size, 0, none⟩ = some (.int .i64 a) := fun w' h => (h.cell (p := ⟨_, _, _⟩) (show w.heap.size < _ by omega)).trans g1
  have h2 : ∀ w', Below W0.heap.size W0 w' → w'.cell? ⟨w.heap.size, 1, none⟩ = some (.int .i64 b) := fun w' h => (h.cell (p := ⟨_, _, _⟩) (show w.heap.size < _ by omega)).trans g2
  have h3 : ∀ w', Below W0.heap.size W0 w' → w'.cell? ⟨w.heap.size + 1, 0, none⟩ = some (.int .i64 c) := fun w' h => (h.cell (p := ⟨_, _, _⟩) (show w.heap.size + 1 < _ by omega)).trans g3
  have h4 : ∀ w', Below W0.heap.size W0 w' → w'.cell? ⟨w.heap.size + 1, 1, none⟩ = some (.int .i64 d) := fun w' h => (h.cell (p := ⟨_, _, _⟩) (show w.heap.size + 1 < _ by omega)).trans g4
  have hL0 : Laid W0 := hL.below hB hlt
  have hlt0 := hL0.lt
  clear g1 g2 g3 g4 hz
  go_upto_region 1 with (fail)
  go_cut [5, 6] (fun s5 s6 wx => ∃ B5 : Nat, s5 = .pointer (some ⟨B5, 0, none⟩) ∧ s6 = .bool (twoC a b c d && fitB (a * c) (b * d)) ∧ Below W0.heap.size W0 wx ∧ B5 < wx.heap.size ∧ wx.cell? ⟨B5, 0, none⟩ = some (.int .i64 (pickU (twoC a b c d) (fitU (a * c) (b * d)))) ∧ wx.cell? ⟨B5, 1, none⟩ = some (.int .i64 (pickD (twoC a b c d) (fitD (a * c) (b * d)))))
  case first =>
    go_region_held3 (fun w' => Below W0.heap.size W0 w')
      ((repeat' (first | exact Below.refl _ _ | assumption | apply Below.alloc | apply Below.setCell | apply Below.drew | (refine Below.trans ?_ (Below.mono (by assumption) ?_)))) <;> (first | exact Below.size (by assumption) | omega | (simp; done) | (simp; omega) | (refine Nat.le_trans ?_ (Below.size (by assumption)); (first | omega | (simp <;> omega)))))
      (first | (go_at_call 17; refine (toRat_exact _ _ _).mono ?_; rintro e w' ⟨rfl, rfl⟩) | (go_at_call 19; refine (specRatMul_any _ _ _ _ _).mono ?_; rintro e w' ⟨rfl, hb⟩; obtain ⟨hc, hf⟩ := bcell hb; have hz := blt hb))
    all_goals (go_wp2_with fail; go_meet; refine ⟨_, rfl, rfl, by assumption, ?_, ?_, ?_⟩)
    all_goals first | ((with_reducible refine set2_0 (x := .int .i64 0) ?_); refine (hc _ _ ?_).trans ?_; (first | (simp; done) | (simp; omega)); (simp [go_sem]; done)) | ((with_reducible refine set2_1 (y := .int .i64 0) ?_); refine (hc _ _ ?_).trans ?_; (first | (simp; done) | (simp; omega)); (simp [go_sem]; done)) | (simp [*, go_sem]; done) | (simp [*, go_sem]; omega) | (simp [World.setCell]; refine hz _ ?_; first | (simp; done) | (simp; omega))
  case rest =>
    obtain ⟨B5, rfl, rfl, hBx, hlt5, y0, y1⟩ := hcut
    have hL5 : Laid wc := hL0.below hBx hlt0
    have hlt5b := hL5.lt
    have k1 : ∀ w', Below wc.heap.size wc w' → w'.cell? ⟨w.heap.size, 0, none⟩ = some (.int .i64 a) := fun w' h => h1 w' (hBx.trans (h.mono hBx.size))
    have k2 : ∀ w', Below wc.heap.size wc w' → w'.cell? ⟨w.heap.size, 1, none⟩ = some (.int .i64 b) := fun w' h => h2 w' (hBx.trans (h.mono hBx.size))
    have k3 : ∀ w', Below wc.heap.size wc w' → w'.cell? ⟨w.heap.size + 1, 0, none⟩ = some (.int .i64 c) := fun w' h => h3 w' (hBx.trans (h.mono hBx.size))
    have k4 : ∀ w', Below wc.heap.size wc w' → w'.cell? ⟨w.heap.size + 1, 1, none⟩ = some (.int .i64 d) := fun w' h => h4 w' (hBx.trans (h.mono hBx.size))
    have hBw : Below w.heap.size w wc := hB.trans (hBx.mono hB.size)
    have k5 : ∀ w', Below wc.heap.size wc w' → w'.cell? ⟨B5, 0, none⟩ = some (.int .i64 (pickU (twoC a b c d) (fitU (a * c) (b * d)))) := fun w' h => (h.cell (p := ⟨_, _, _⟩) hlt5).trans y0
    have k6 : ∀ w', Below wc.heap.size wc w' → w'.cell? ⟨B5, 1, none⟩ = some (.int .i64 (pickD (twoC a b c d) (fitD (a * c) (b * d)))) := fun w' h => (h.cell (p := ⟨_, _, _⟩) hlt5).trans y1
    clear h1 h2 h3 h4 hB hBx hL0 hlt0 y0 y1
    go_upto_region 2 with (fail)
    go_cut [7, 8] (fun s7 s8 wx => ∃ B7 : Nat, s7 = .pointer (some ⟨B7, 0, none⟩) ∧ s8 = .bool (twoC a b c d && fitB (a * c) (b * d)) ∧ Below wc.heap.size wc wx ∧ B7 < wx.heap.size ∧ wx.cell? ⟨B7, 0, none⟩ = some (.int .i64 (pickU (twoC a b c d) (fitU (a * c) (b * d)))) ∧ wx.cell? ⟨B7, 1, none⟩ = some (.int .i64 (pickD (twoC a b c d) (fitD (a * c) (b * d)))))
    case first =>
      go_region_held3 (fun w' => Below wc.heap.size wc w')
        ((repeat' (first | exact Below.refl _ _ | assumption | apply Below.alloc | apply Below.setCell | apply Below.drew | (refine Below.trans ?_ (Below.mono (by assumption) ?_)))) <;> (first | exact Below.size (by assumption) | omega | (simp; done) | (simp; omega) | (refine Nat.le_trans ?_ (Below.size (by assumption)); (first | omega | (simp <;> omega)))))
        (first | (go_at_call 17; refine (toRat_exact _ _ _).mono ?_; rintro e w' ⟨rfl, rfl⟩) | (go_at_call 20; refine (ratMul_any _ _ _ _ _ (hL5.below (by assumption) hlt5b)).mono ?_; rintro e w' ⟨rfl, hb⟩; obtain ⟨hc, hf⟩ := bcell hb; have hz := blt hb))
      all_goals (go_wp2_with fail; go_meet; refine ⟨_, rfl, rfl, by assumption, ?_, ?_, ?_⟩)
      all_goals first | ((with_reducible refine set2_0 (x := .int .i64 0) ?_); refine (hc _ _ ?_).trans ?_; (first | (simp; done) | (simp; omega)); (simp [go_sem]; done)) | ((with_reducible refine set2_1 (y := .int .i64 0) ?_); refine (hc _ _ ?_).trans ?_; (first | (simp; done) | (simp; omega)); (simp [go_sem]; done)) | (simp [*, go_sem]; done) | (simp [*, go_sem]; omega) | (simp [World.setCell]; refine hz _ ?_; first | (simp; done) | (simp; omega))
    case rest =>
      obtain ⟨B7, rfl, rfl, hBx, hlt7, y0, y1⟩ := hcut
      have z0 := k5 _ hBx
      have z1 := k6 _ hBx
      clear k1 k2 k3 k4 k5 k6
      go_wp2_with (go_at_call 15; refine (eqRat_same _ _ _).mono ?_; rintro e w3 ⟨rfl, hb3⟩)
      go_ret
      exact ⟨rfl, (hBw.trans (hBx.mono hBw.size)).trans (hb3.mono (Nat.le_trans hBw.size hBx.size))⟩
end Go.Proofs.YtobdkkbackalhaaDoor
