/-
  A fraction made as short as may be: contracts of l10Make (and of lowest, where the seat has it).
-/
import Derived.Test.YtobdkkbackalhaaDoorRatOk
import Derived.RegionTactic
namespace Go.Proofs.YtobdkkbackalhaaDoor
open Go.RowKit
set_option linter.unusedVariables false

theorem gcdI_neg (a b : Int) : gcdI (-a) (-b) = gcdI a b := by unfold gcdI; rw [Int.gcd_neg, Int.neg_gcd]
theorem gcdI_pos {a b : Int} (h : b ≠ 0) : 1 ≤ gcdI a b := by
  unfold gcdI
  have : 0 < Int.gcd a b := Int.gcd_pos_of_ne_zero_right _ h
  omega
theorem gcdI_le {a b : Int} (h : b ≠ 0) : gcdI a b ≤ b.natAbs := by
  unfold gcdI
  have : Int.gcd a b ≤ b.natAbs := Nat.le_of_dvd (by omega) (Nat.gcd_dvd_right _ _)
  omega

/-- above and below the line of the shortest fraction. -/
def upOf (a b : Int) : Int := (if b < 0 then -a else a).tdiv (gcdI a b)
def downOf (a b : Int) : Int := (if b < 0 then -b else b) / gcdI a b
theorem tdiv_bound (x d : Int) (hd : 1 ≤ d) (n : Nat) (hx : x.natAbs ≤ n) : -(n : Int) ≤ x.tdiv d ∧ x.tdiv d ≤ n := by
  have h3 : (x.tdiv d).natAbs ≤ n := by rw [Int.natAbs_tdiv]; exact Nat.le_trans (Nat.div_le_self _ _) hx
  generalize x.tdiv d = y at h3 ⊢
  omega

theorem l10Make_any (a b : Int) (w : World) (ha : a.natAbs ≤ 4000000000000000000) (hb : b.natAbs ≤ 4000000000000000000) (h0 : b ≠ 0) :
    Calls Tryd.prog 42 #[.int .i64 a, .int .i64 b] w fun e w' => e = .returned (.agg #[.int .i64 (upOf a b), .int .i64 (downOf a b)]) ∧ Below w.heap.size w w' := by
  have hg := gcdI_pos (a := a) h0
  by_cases hn : b < 0
  · have hu : Hid (upOf a b = (-a).tdiv (gcdI (-a) (-b))) := by unfold upOf; rw [if_pos hn, gcdI_neg]; exact rfl
    have hd : Hid (downOf a b = (-b) / (gcdI (-a) (-b))) := by unfold downOf; rw [if_pos hn, gcdI_neg]; exact rfl
    rw [← gcdI_neg] at hg
    go_enter Tryd.func42, Tryd.ntmps42
    go_wp2_with fail
    refine (l10Gcd_any _ _ _ _ (Nat.le_refl _) (by omega) (by omega)).mono ?_
    rintro e w1 ⟨rfl, rfl⟩
    obtain ⟨g, hgg⟩ : ∃ g, g = gcdI (-a) (-b) := ⟨_, rfl⟩
    rw [← hgg] at hg hu hd ⊢
    clear hgg
    have hxa : (-a).natAbs ≤ 4000000000000000000 := by omega
    have hyb : -b ≤ 4000000000000000000 := by omega
    have hy0 : 0 < -b := by omega
    generalize -a = x at hxa hu ⊢
    generalize -b = y at hyb hy0 hd ⊢
    have hb1 := tdiv_bound x g hg 4000000000000000000 hxa
    obtain ⟨hb1, hb2⟩ := hb1
    go_wp2
    go_region
    go_wp2
    exact bodyPost_ret (v := .agg #[.int .i64 (upOf a b), .int .i64 (downOf a b)]) (by simp [results, Tryd.results42, go_sem, hu.out, hd.out]) rfl ⟨rfl, by (repeat' (first | exact Below.refl _ _ | apply Below.alloc | apply Below.setCell | apply Below.drew | apply below_draws)) <;> (first | omega | (simp <;> omega))⟩
  · have hp : 0 < b := by omega
    have hu : Hid (upOf a b = a.tdiv (gcdI a b)) := by unfold upOf; rw [if_neg hn]; exact rfl
    have hd : Hid (downOf a b = b / (gcdI a b)) := by unfold downOf; rw [if_neg hn]; exact rfl
    go_enter Tryd.func42, Tryd.ntmps42
    go_wp2_with fail
    refine (l10Gcd_any _ _ _ _ (Nat.le_refl _) (by omega) (by omega)).mono ?_
    rintro e w1 ⟨rfl, rfl⟩
    obtain ⟨g, hgg⟩ : ∃ g, g = gcdI a b := ⟨_, rfl⟩
    rw [← hgg] at hg hu hd ⊢
    clear hgg
    have hb1 := tdiv_bound a g hg 4000000000000000000 (by omega)
    obtain ⟨hb1, hb2⟩ := hb1
    go_wp2
    go_region
    go_wp2
    exact bodyPost_ret (v := .agg #[.int .i64 (upOf a b), .int .i64 (downOf a b)]) (by simp [results, Tryd.results42, go_sem, hu.out, hd.out]) rfl ⟨rfl, by (repeat' (first | exact Below.refl _ _ | apply Below.alloc | apply Below.setCell | apply Below.drew | apply below_draws)) <;> (first | omega | (simp <;> omega))⟩
end Go.Proofs.YtobdkkbackalhaaDoor
