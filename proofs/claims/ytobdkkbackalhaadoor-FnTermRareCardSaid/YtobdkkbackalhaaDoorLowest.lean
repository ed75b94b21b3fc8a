/-
  lowest, l10Fit, RatOf, RatAdd, RatMul: both programs make the same fraction.
-/
import Derived.Test.YtobdkkbackalhaaDoorLaid
import Derived.Test.YtobdkkbackalhaaDoorMake
namespace Go.Proofs.YtobdkkbackalhaaDoor
open Go.RowKit
set_option linter.unusedVariables false

/-- the fraction that is made, where it fits; else 0/1. -/
def fitB (a b : Int) : Bool := ratOkB (upOf a b) (downOf a b)
def fitU (a b : Int) : Int := if fitB a b then upOf a b else 0
def fitD (a b : Int) : Int := if fitB a b then downOf a b else 1

theorem lowest_any (a b : Int) (w : World) (ha : a.natAbs ≤ 4000000000000000000) (hb : b.natAbs ≤ 4000000000000000000) (h0 : b ≠ 0) (hL : Laid w) :
    Calls Tryd.prog 34 #[.int .i64 a, .int .i64 b] w fun e w' => e = .returned (.tuple #[.agg #[.int .i64 (fitU a b), .int .i64 (fitD a b)], .bool (fitB a b)]) ∧ Below w.heap.size w w' := by
  have hg := gcdI_pos (a := a) h0
  have hlt := hL.lt
  have hL0 : Laid (w.alloc (.cells #[.int .i64 0, .int .i64 0] 23)) := hL.below (B := w.heap.size) (by (repeat' (first | exact Below.refl _ _ | apply Below.alloc | apply Below.setCell | apply Below.drew | apply below_draws)) <;> (first | omega | (simp <;> omega))) hlt
  by_cases hn : b < 0
  · have hu : Hid (upOf a b = (-a).tdiv (gcdI (-a) (-b))) := by unfold upOf; rw [if_pos hn, gcdI_neg]; exact rfl
    have hd : Hid (downOf a b = (-b) / (gcdI (-a) (-b))) := by unfold downOf; rw [if_pos hn, gcdI_neg]; exact rfl
    rw [← gcdI_neg] at hg
    have hxa : (-a).natAbs ≤ 4000000000000000000 := by omega
    have hyb : (-b).natAbs ≤ 4000000000000000000 := by omega
    have hy0 : 0 < -b := by omega
    go_enter Tryd.func34, Tryd.ntmps34
    go_wp2_with fail
    refine (divisor_any _ _ _ hxa hyb).mono ?_
    rintro e w1 ⟨rfl, q, rfl⟩
    obtain ⟨g, hgg⟩ : ∃ g, g = gcdI (-a) (-b) := ⟨_, rfl⟩
    rw [← hgg] at hg hu hd ⊢
    clear hgg
    generalize -a = x at hxa hu ⊢
    generalize -b = y at hyb hy0 hd ⊢
    have hb1 := tdiv_bound x g hg 4000000000000000000 hxa
    obtain ⟨hb1, hb2⟩ := hb1
    have hb3 : y ≤ 4000000000000000000 := by omega
    have hd1 : 0 ≤ y / g := Int.ediv_nonneg (by omega) (by omega)
    have hd2 : y / g ≤ 4000000000000000000 := Int.le_trans (Int.ediv_le_self _ (by omega)) hb3
    clear ha hb h0 hn hxa hyb
    go_wp2
    go_region
    go_wp2_with fail
    refine (ratOk_any _ _ _).mono ?_
    rintro e w2 ⟨rfl, hb2⟩
    obtain ⟨c2, f2⟩ := bcell hb2
    have hB2 : Below w.heap.size w w2 := by
      refine Below.trans ?_ (hb2.mono ?_)
      · exact (by (repeat' (first | exact Below.refl _ _ | apply Below.alloc | apply Below.setCell | apply Below.drew | apply below_draws)) <;> (first | omega | (simp <;> omega)))
      · first | omega | (simp <;> omega)
    have hL2 : Laid w2 := hL.below hB2 hlt
    obtain ⟨z0, z1⟩ := hL2
    have hz2 : w.heap.size < w2.heap.size := by have := hb2.size; simp at this; omega
    have r0 : w2.cell? ⟨w.heap.size, 0, none⟩ = some (.int .i64 0) := (c2 _ _ (by simp; omega)).trans (by simp [go_sem])
    have r1 : w2.cell? ⟨w.heap.size, 1, none⟩ = some (.int .i64 0) := (c2 _ _ (by simp; omega)).trans (by simp [go_sem])
    have r2 : w2.frozen? ⟨w.heap.size, 0, none⟩ = false := (f2 _ _ (by simp; omega)).trans (by simp [go_sem])
    have r3 : w2.frozen? ⟨w.heap.size, 1, none⟩ = false := (f2 _ _ (by simp; omega)).trans (by simp [go_sem])
    have r4 : w2.cell? ⟨w.heap.size + 1, 0, none⟩ = some (.int .i64 (x.tdiv g)) := (c2 _ _ (by simp)).trans (by simp [go_sem])
    have r5 : w2.cell? ⟨w.heap.size + 1, 1, none⟩ = some (.int .i64 (y / g)) := (c2 _ _ (by simp)).trans (by simp [go_sem])
    clear c2 f2 hb2
    by_cases hf : fitB a b = true
    · have hU : Hid (fitU a b = x.tdiv g) := by unfold fitU; rw [if_pos hf, hu.out]; exact rfl
      have hD : Hid (fitD a b = y / g) := by unfold fitD; rw [if_pos hf, hd.out]; exact rfl
      have hok : ratOkB (x.tdiv g) (y / g) = true := by rw [← hu.out, ← hd.out]; exact hf
      go_wp2
      refine bodyPost_ret (v := .tuple #[.agg #[.int .i64 (fitU a b), .int .i64 (fitD a b)], .bool (fitB a b)]) (by simp [results, Tryd.results34, go_sem, hU.out, hD.out, hf, r0, r1]) rfl ⟨rfl, hB2.trans (by (repeat' (first | exact Below.refl _ _ | apply Below.alloc | apply Below.setCell | apply Below.drew | apply below_draws)) <;> (first | omega | (simp <;> omega)))⟩
    · have hf' : fitB a b = false := by simpa using hf
      have hU : Hid (fitU a b = 0) := by unfold fitU; rw [if_neg hf]; exact rfl
      have hD : Hid (fitD a b = 1) := by unfold fitD; rw [if_neg hf]; exact rfl
      have hok : ratOkB (x.tdiv g) (y / g) = false := by rw [← hu.out, ← hd.out]; exact hf'
      go_wp2
      refine bodyPost_ret (v := .tuple #[.agg #[.int .i64 (fitU a b), .int .i64 (fitD a b)], .bool (fitB a b)]) (by simp [results, Tryd.results34, go_sem, hU.out, hD.out, hf', r0, r1]) rfl ⟨rfl, hB2.trans (by (repeat' (first | exact Below.refl _ _ | apply Below.alloc | apply Below.setCell | apply Below.drew | apply below_draws)) <;> (first | omega | (simp <;> omega)))⟩
  · have hp : 0 < b := by omega
    have hu : Hid (upOf a b = a.tdiv (gcdI a b)) := by unfold upOf; rw [if_neg hn]; exact rfl
    have hd : Hid (downOf a b = b / (gcdI a b)) := by unfold downOf; rw [if_neg hn]; exact rfl
    go_enter Tryd.func34, Tryd.ntmps34
    go_wp2_with fail
    refine (divisor_any _ _ _ ha hb).mono ?_
    rintro e w1 ⟨rfl, q, rfl⟩
    obtain ⟨g, hgg⟩ : ∃ g, g = gcdI a b := ⟨_, rfl⟩
    rw [← hgg] at hg hu hd ⊢
    clear hgg
    obtain ⟨hb1, hb2⟩ := tdiv_bound a g hg 4000000000000000000 ha
    have hb3 : b ≤ 4000000000000000000 := by omega
    have hd1 : 0 ≤ b / g := Int.ediv_nonneg (by omega) (by omega)
    have hd2 : b / g ≤ 4000000000000000000 := Int.le_trans (Int.ediv_le_self _ (by omega)) hb3
    clear ha hb h0
    go_wp2
    go_region
    go_wp2_with fail
    refine (ratOk_any _ _ _).mono ?_
    rintro e w2 ⟨rfl, hb2⟩
    obtain ⟨c2, f2⟩ := bcell hb2
    have hB2 : Below w.heap.size w w2 := by
      refine Below.trans ?_ (hb2.mono ?_)
      · exact (by (repeat' (first | exact Below.refl _ _ | apply Below.alloc | apply Below.setCell | apply Below.drew | apply below_draws)) <;> (first | omega | (simp <;> omega)))
      · first | omega | (simp <;> omega)
    have hL2 : Laid w2 := hL.below hB2 hlt
    obtain ⟨z0, z1⟩ := hL2
    have hz2 : w.heap.size < w2.heap.size := by have := hb2.size; simp at this; omega
    have r0 : w2.cell? ⟨w.heap.size, 0, none⟩ = some (.int .i64 0) := (c2 _ _ (by simp; omega)).trans (by simp [go_sem])
    have r1 : w2.cell? ⟨w.heap.size, 1, none⟩ = some (.int .i64 0) := (c2 _ _ (by simp; omega)).trans (by simp [go_sem])
    have r2 : w2.frozen? ⟨w.heap.size, 0, none⟩ = false := (f2 _ _ (by simp; omega)).trans (by simp [go_sem])
    have r3 : w2.frozen? ⟨w.heap.size, 1, none⟩ = false := (f2 _ _ (by simp; omega)).trans (by simp [go_sem])
    have r4 : w2.cell? ⟨w.heap.size + 1, 0, none⟩ = some (.int .i64 (a.tdiv g)) := (c2 _ _ (by simp)).trans (by simp [go_sem])
    have r5 : w2.cell? ⟨w.heap.size + 1, 1, none⟩ = some (.int .i64 (b / g)) := (c2 _ _ (by simp)).trans (by simp [go_sem])
    clear c2 f2 hb2
    by_cases hf : fitB a b = true
    · have hU : Hid (fitU a b = a.tdiv g) := by unfold fitU; rw [if_pos hf, hu.out]; exact rfl
      have hD : Hid (fitD a b = b / g) := by unfold fitD; rw [if_pos hf, hd.out]; exact rfl
      have hok : ratOkB (a.tdiv g) (b / g) = true := by rw [← hu.out, ← hd.out]; exact hf
      go_wp2
      refine bodyPost_ret (v := .tuple #[.agg #[.int .i64 (fitU a b), .int .i64 (fitD a b)], .bool (fitB a b)]) (by simp [results, Tryd.results34, go_sem, hU.out, hD.out, hf, r0, r1]) rfl ⟨rfl, hB2.trans (by (repeat' (first | exact Below.refl _ _ | apply Below.alloc | apply Below.setCell | apply Below.drew | apply below_draws)) <;> (first | omega | (simp <;> omega)))⟩
    · have hf' : fitB a b = false := by simpa using hf
      have hU : Hid (fitU a b = 0) := by unfold fitU; rw [if_neg hf]; exact rfl
      have hD : Hid (fitD a b = 1) := by unfold fitD; rw [if_neg hf]; exact rfl
      have hok : ratOkB (a.tdiv g) (b / g) = false := by rw [← hu.out, ← hd.out]; exact hf'
      go_wp2
      refine bodyPost_ret (v := .tuple #[.agg #[.int .i64 (fitU a b), .int .i64 (fitD a b)], .bool (fitB a b)]) (by simp [results, Tryd.results34, go_sem, hU.out, hD.out, hf', r0, r1]) rfl ⟨rfl, hB2.trans (by (repeat' (first | exact Below.refl _ _ | apply Below.alloc | apply Below.setCell | apply Below.drew | apply below_draws)) <;> (first | omega | (simp <;> omega)))⟩

theorem l10Fit_any (a b : Int) (w : World) (ha : a.natAbs ≤ 4000000000000000000) (hb : b.natAbs ≤ 4000000000000000000) (h0 : b ≠ 0) :
    Calls Tryd.prog 32 #[.int .i64 a, .int .i64 b] w fun e w' => e = .returned (.tuple #[.agg #[.int .i64 (fitU a b), .int .i64 (fitD a b)], .bool (fitB a b)]) ∧ Below w.heap.size w w' := by
  go_enter Tryd.func32, Tryd.ntmps32
  go_wp2_with fail
  refine (l10Make_any a b _ ha hb h0).mono ?_
  rintro e w1 ⟨rfl, hb1⟩
  clear ha hb h0
  obtain ⟨c1, f1⟩ := bcell hb1
  have hz1 : w.heap.size < w1.heap.size := by have := hb1.size; simp at this; omega
  have q0 : w1.cell? ⟨w.heap.size, 0, none⟩ = some (.int .i64 0) := (c1 _ _ (by simp)).trans (by simp [go_sem])
  have q1 : w1.cell? ⟨w.heap.size, 1, none⟩ = some (.int .i64 0) := (c1 _ _ (by simp)).trans (by simp [go_sem])
  have q2 : w1.frozen? ⟨w.heap.size, 0, none⟩ = false := (f1 _ _ (by simp)).trans (by simp [go_sem])
  have q3 : w1.frozen? ⟨w.heap.size, 1, none⟩ = false := (f1 _ _ (by simp)).trans (by simp [go_sem])
  have hB1 : Below w.heap.size w w1 := by
    refine Below.trans ?_ (hb1.mono ?_)
    · exact (by (repeat' (first | exact Below.refl _ _ | apply Below.alloc | apply Below.setCell | apply Below.drew | apply below_draws)) <;> (first | omega | (simp <;> omega)))
    · first | omega | (simp <;> omega)
  clear c1 f1 hb1
  go_wp2_with fail
  refine (l10Ok_any _ _ _).mono ?_
  rintro e w2 ⟨rfl, hb2⟩
  obtain ⟨c2, f2⟩ := bcell hb2
  have hz2 : w.heap.size < w2.heap.size := by have := hb2.size; simp at this; omega
  have r0 : w2.cell? ⟨w.heap.size, 0, none⟩ = some (.int .i64 0) := (c2 _ _ (by simp; omega)).trans ((World.cell?_alloc_lt _ _ _ hz1).trans q0)
  have r1 : w2.cell? ⟨w.heap.size, 1, none⟩ = some (.int .i64 0) := (c2 _ _ (by simp; omega)).trans ((World.cell?_alloc_lt _ _ _ hz1).trans q1)
  have r2 : w2.frozen? ⟨w.heap.size, 0, none⟩ = false := (f2 _ _ (by simp; omega)).trans ((World.frozen?_alloc_past _ _ _ hz1).trans q2)
  have r3 : w2.frozen? ⟨w.heap.size, 1, none⟩ = false := (f2 _ _ (by simp; omega)).trans ((World.frozen?_alloc_past _ _ _ hz1).trans q3)
  have r4 : w2.cell? ⟨w1.heap.size, 0, none⟩ = some (.int .i64 (upOf a b)) := (c2 _ _ (by simp)).trans (by simp [go_sem])
  have r5 : w2.cell? ⟨w1.heap.size, 1, none⟩ = some (.int .i64 (downOf a b)) := (c2 _ _ (by simp)).trans (by simp [go_sem])
  have hB2 : Below w.heap.size w w2 := by
    refine Below.trans (hB1.alloc (by omega) _) (hb2.mono ?_)
    first | omega | (simp <;> omega)
  clear c2 f2 hb2
  by_cases hf : fitB a b = true
  · have hU : Hid (fitU a b = upOf a b) := by unfold fitU; rw [if_pos hf]; exact rfl
    have hD : Hid (fitD a b = downOf a b) := by unfold fitD; rw [if_pos hf]; exact rfl
    have hok : ratOkB (upOf a b) (downOf a b) = true := hf
    go_wp2
    refine bodyPost_ret (v := .tuple #[.agg #[.int .i64 (fitU a b), .int .i64 (fitD a b)], .bool (fitB a b)]) (by simp [results, Tryd.results32, go_sem, hU.out, hD.out, hf, r0, r1]) rfl ⟨rfl, hB2.trans (by (repeat' (first | exact Below.refl _ _ | apply Below.alloc | apply Below.setCell | apply Below.drew | apply below_draws)) <;> (first | omega | (simp <;> omega)))⟩
  · have hf' : fitB a b = false := by simpa using hf
    have hU : Hid (fitU a b = 0) := by unfold fitU; rw [if_neg hf]; exact rfl
    have hD : Hid (fitD a b = 1) := by unfold fitD; rw [if_neg hf]; exact rfl
    have hok : ratOkB (upOf a b) (downOf a b) = false := hf'
    go_wp2
    refine bodyPost_ret (v := .tuple #[.agg #[.int .i64 (fitU a b), .int .i64 (fitD a b)], .bool (fitB a b)]) (by simp [results, Tryd.results32, go_sem, hU.out, hD.out, hf', r0, r1]) rfl ⟨rfl, hB2.trans (by (repeat' (first | exact Below.refl _ _ | apply Below.alloc | apply Below.setCell | apply Below.drew | apply below_draws)) <;> (first | omega | (simp <;> omega)))⟩
end Go.Proofs.YtobdkkbackalhaaDoor
