/-
  Plain laws of fractions: what is made is as short as may be, keeps its value; comparing. No program in sight.
-/
import Derived.Test.YtobdkkbackalhaaDoorScore
namespace Go.Proofs.YtobdkkbackalhaaDoor
open Go.RowKit
set_option linter.unusedVariables false

theorem same_of_cross {a b c d : Int} (hb1 : 1 ≤ b) (hd1 : 1 ≤ d) (g1 : gcdI a b = 1) (g2 : gcdI c d = 1) (h : a * d = c * b) : a = c ∧ b = d := by
  have k1 : Nat.Coprime b.natAbs a.natAbs := by
    have : Nat.gcd a.natAbs b.natAbs = 1 := by unfold gcdI at g1; exact Int.ofNat.inj g1
    rw [Nat.coprime_iff_gcd_eq_one, Nat.gcd_comm]; exact this
  have k2 : Nat.Coprime d.natAbs c.natAbs := by
    have : Nat.gcd c.natAbs d.natAbs = 1 := by unfold gcdI at g2; exact Int.ofNat.inj g2
    rw [Nat.coprime_iff_gcd_eq_one, Nat.gcd_comm]; exact this
  have hn : a.natAbs * d.natAbs = c.natAbs * b.natAbs := by rw [← Int.natAbs_mul, ← Int.natAbs_mul, h]
  have d1 : b.natAbs ∣ d.natAbs := k1.dvd_of_dvd_mul_left (by rw [hn]; exact Nat.dvd_mul_left _ _)
  have d2 : d.natAbs ∣ b.natAbs := k2.dvd_of_dvd_mul_left (by rw [← hn]; exact Nat.dvd_mul_left _ _)
  have e : b.natAbs = d.natAbs := Nat.dvd_antisymm d1 d2
  have e2 : b = d := by omega
  subst e2
  exact ⟨Int.eq_of_mul_eq_mul_right (show b ≠ 0 by omega) h, rfl⟩

/-- the parts, in terms of a divisor g: a = g * up, b = g * down (b > 0). -/
theorem made_pos {a b : Int} (hb : 1 ≤ b) : ∃ g : Int, 1 ≤ g ∧ a = g * upOf a b ∧ b = g * downOf a b ∧ 1 ≤ downOf a b ∧ gcdI (upOf a b) (downOf a b) = 1 := by
  have hg := gcdI_pos (a := a) (show b ≠ 0 by omega)
  have hda : gcdI a b ∣ a := by unfold gcdI; exact Int.gcd_dvd_left _ _
  have hdb : gcdI a b ∣ b := by unfold gcdI; exact Int.gcd_dvd_right _ _
  have hu : upOf a b = a / gcdI a b := by unfold upOf; rw [if_neg (by omega), Int.tdiv_eq_ediv_of_dvd hda]
  have hd : downOf a b = b / gcdI a b := by unfold downOf; rw [if_neg (by omega)]
  refine ⟨gcdI a b, hg, ?_, ?_, ?_, ?_⟩
  · rw [hu, Int.mul_ediv_cancel' hda]
  · rw [hd, Int.mul_ediv_cancel' hdb]
  · rw [hd, Int.le_ediv_iff_mul_le (by omega)]
    have := gcdI_le (a := a) (show b ≠ 0 by omega)
    omega
  · rw [hu, hd]
    unfold gcdI at hg ⊢
    rw [Int.gcd_ediv_gcd_ediv_gcd (by omega)]
    rfl
theorem made_neg {a b : Int} (hb : b < 0) : upOf a b = upOf (-a) (-b) ∧ downOf a b = downOf (-a) (-b) := by
  unfold upOf downOf
  rw [if_pos hb, if_pos hb, if_neg (by omega), if_neg (by omega), gcdI_neg]
  exact ⟨rfl, rfl⟩
/-- the value is kept. -/
theorem made_cross {a b : Int} (hb : b ≠ 0) : upOf a b * b = a * downOf a b := by
  rcases Int.lt_or_gt_of_ne hb with h | h
  · obtain ⟨e1, e2⟩ := made_neg (a := a) h
    obtain ⟨g, hg, h1, h2, _, _⟩ := made_pos (a := -a) (b := -b) (by omega)
    rw [e1, e2]
    generalize upOf (-a) (-b) = u at *
    generalize downOf (-a) (-b) = v at *
    have ha : a = -(g * u) := by omega
    have hb' : b = -(g * v) := by omega
    rw [ha, hb', Int.mul_neg, Int.neg_mul, Int.mul_comm g u, Int.mul_assoc, Int.mul_left_comm, ← Int.mul_assoc, Int.mul_comm g u]
  · obtain ⟨g, hg, h1, h2, _, _⟩ := made_pos (a := a) (b := b) (by omega)
    generalize upOf a b = u at *
    generalize downOf a b = v at *
    rw [h1, h2, Int.mul_comm g u, Int.mul_assoc]
/-- a fraction that is ok is made again of itself. -/
theorem made_same {a b : Int} (h : ratOkB a b = true) : upOf a b = a ∧ downOf a b = b := by
  obtain ⟨_, ⟨hb1, _⟩, g1⟩ := ratOkB_iff.1 h
  obtain ⟨g, hg, h1, h2, h3, h4⟩ := made_pos (a := a) hb1
  exact same_of_cross h3 hb1 h4 g1 (made_cross (by omega))
/-- two numbers of a fraction's value make it. -/
theorem made_of {n m a b : Int} (h : ratOkB a b = true) (hm : 1 ≤ m) (hx : n * b = a * m) : upOf n m = a ∧ downOf n m = b := by
  obtain ⟨_, ⟨hb1, _⟩, g1⟩ := ratOkB_iff.1 h
  obtain ⟨g, hg, h1, h2, h3, h4⟩ := made_pos (a := n) hm
  refine same_of_cross h3 hb1 h4 g1 ?_
  generalize upOf n m = u at *
  generalize downOf n m = v at *
  have : g * (u * b) = g * (a * v) := by
    rw [← Int.mul_assoc, ← h1, hx, h2, Int.mul_left_comm]
  exact Int.eq_of_mul_eq_mul_left (show g ≠ 0 by omega) this

theorem sgn_scale (k x y : Int) (hk : 1 ≤ k) : sgnOf (k * x) (k * y) = sgnOf x y := by
  unfold sgnOf
  have e1 : k * x < k * y ↔ x < y := Int.mul_lt_mul_left (by omega)
  have e2 : k * y < k * x ↔ y < x := Int.mul_lt_mul_left (by omega)
  simp only [e1, e2]
/-- comparing what is made of two fractions is comparing them. -/
theorem sgn_made {a b c d : Int} (hb : 1 ≤ b) (hd : 1 ≤ d) : sgnOf (upOf a b * downOf c d) (upOf c d * downOf a b) = sgnOf (a * d) (c * b) := by
  obtain ⟨g, hg, h1, h2, _, _⟩ := made_pos (a := a) hb
  obtain ⟨k, hk, h3, h4, _, _⟩ := made_pos (a := c) hd
  generalize upOf a b = u at *
  generalize downOf a b = v at *
  generalize upOf c d = x at *
  generalize downOf c d = y at *
  rw [h1, h2, h3, h4]
  have e1 : g * u * (k * y) = (g * k) * (u * y) := by rw [Int.mul_assoc, Int.mul_assoc, Int.mul_left_comm u k y]
  have e2 : k * x * (g * v) = (g * k) * (x * v) := by rw [Int.mul_assoc, Int.mul_left_comm x g v, ← Int.mul_assoc, Int.mul_comm k g]
  rw [e1, e2, sgn_scale _ _ _ (by have := mul_pos9 hg hk; omega)]
end Go.Proofs.YtobdkkbackalhaaDoor
