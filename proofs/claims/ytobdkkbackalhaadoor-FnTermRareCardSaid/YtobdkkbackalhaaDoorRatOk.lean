/-
  Fractions that are ok: contracts of toRat, RatOk, l10Ok, and the walk of the law FnExactRatOk.
-/
import Derived.Test.YtobdkkbackalhaaDoorGcd
namespace Go.Proofs.YtobdkkbackalhaaDoor
open Go.RowKit
set_option linter.unusedVariables false

theorem gcdI_comm (a b : Int) : gcdI a b = gcdI b a := by unfold gcdI; rw [Int.gcd_comm]

/-- a fraction that is ok. -/
def ratOkB (a b : Int) : Bool := wi a (-1000000000) 1000000000 && wi b 1 1000000000 && gcdI a b == 1
theorem ratOkB_iff {a b : Int} : ratOkB a b = true ↔ (-1000000000 ≤ a ∧ a ≤ 1000000000) ∧ (1 ≤ b ∧ b ≤ 1000000000) ∧ gcdI a b = 1 := by
  simp [ratOkB, wi_true, and_assoc]
theorem ratOkB_no1 {a b : Int} (h : wi a (-1000000000) 1000000000 = false) : ratOkB a b = false := by simp [ratOkB, h]
theorem ratOkB_no2 {a b : Int} (h : wi b 1 1000000000 = false) : ratOkB a b = false := by simp [ratOkB, h]
theorem ratOkB_yes {a b : Int} (h : wi a (-1000000000) 1000000000 = true) (h2 : wi b 1 1000000000 = true) : ratOkB a b = (gcdI a b == 1) := by simp [ratOkB, h, h2]

def sgnOf (x y : Int) : Int := if x < y then -1 else if y < x then 1 else 0
theorem mul_bound9 {a t : Int} (h1 : -1000000000 ≤ a) (h2 : a ≤ 1000000000) (h3 : 1 ≤ t) (h4 : t ≤ 1000000000) : -1000000000000000000 ≤ a * t ∧ a * t ≤ 1000000000000000000 := by
  constructor
  · have := Int.mul_le_mul_of_nonneg_right h1 (show 0 ≤ t by omega)
    omega
  · have := Int.mul_le_mul_of_nonneg_right h2 (show 0 ≤ t by omega)
    omega
theorem toRat_any (a b : Int) (w : World) :
    Calls Tryd.prog 17 #[.agg #[.int .i64 a, .int .i64 b]] w fun e w' => e = .returned (.agg #[.int .i64 a, .int .i64 b]) ∧ Below w.heap.size w w' := by
  go_enter Tryd.func17, Tryd.ntmps17
  go_wp2
  exact bodyPost_ret (v := .agg #[.int .i64 a, .int .i64 b]) (by simp [results, Tryd.results17, go_sem]) rfl ⟨rfl, by (repeat' (first | exact Below.refl _ _ | apply Below.alloc | apply Below.setCell | apply Below.drew | apply below_draws)) <;> (first | omega | (simp <;> omega))⟩
theorem ratOk_any (a b : Int) (w : World) :
    Calls Tryd.prog 24 #[.agg #[.int .i64 a, .int .i64 b]] w fun e w' => e = .returned (.bool (ratOkB a b)) ∧ Below w.heap.size w w' := by
  by_cases h1 : wi a (-1000000000) 1000000000 = true
  · by_cases h2 : wi b 1 1000000000 = true
    · have h3 := wi_true.1 h1
      have h4 := wi_true.1 h2
      go_enter Tryd.func24, Tryd.ntmps24
      go_wp2_with (first | (go_at_call 33; refine (within_any _ _ _ _).mono ?_; rintro e w' ⟨rfl, rfl⟩) | (go_at_call 40; refine (divisor_any _ _ _ (by omega) (by omega)).mono ?_; rintro e w' ⟨rfl, n, rfl⟩))
      go_ret
      exact ⟨ret_bool (ratOkB_yes h1 h2).symm, (((Below.refl _ _).alloc (Nat.le_refl _) _).trans ⟨rfl, rfl, rfl, Nat.le_refl _, fun _ _ => rfl⟩)⟩
    · have h2' : wi b 1 1000000000 = false := by simpa using h2
      go_enter Tryd.func24, Tryd.ntmps24
      go_wp2_with (go_at_call 33; refine (within_any _ _ _ _).mono ?_; rintro e w' ⟨rfl, rfl⟩)
      go_ret
      exact ⟨ret_bool (ratOkB_no2 h2').symm, (Below.refl _ _).alloc (Nat.le_refl _) _⟩
  · have h1' : wi a (-1000000000) 1000000000 = false := by simpa using h1
    go_enter Tryd.func24, Tryd.ntmps24
    go_wp2_with (go_at_call 33; refine (within_any _ _ _ _).mono ?_; rintro e w' ⟨rfl, rfl⟩)
    go_ret
    exact ⟨ret_bool (ratOkB_no1 h1').symm, (Below.refl _ _).alloc (Nat.le_refl _) _⟩
theorem l10Ok_any (a b : Int) (w : World) :
    Calls Tryd.prog 35 #[.agg #[.int .i64 a, .int .i64 b]] w fun e w' => e = .returned (.bool (ratOkB a b)) ∧ Below w.heap.size w w' := by
  by_cases h1 : wi a (-1000000000) 1000000000 = true
  · by_cases h2 : wi b 1 1000000000 = true
    · have h3 := wi_true.1 h1
      have h4 := wi_true.1 h2
      go_enter Tryd.func35, Tryd.ntmps35
      go_wp2_with (first | (go_at_call 31; refine (l1In_any _ _ _ _).mono ?_; rintro e w' ⟨rfl, rfl⟩) | (go_at_call 43; refine (l10Gcd_any _ _ _ _ (Nat.le_refl _) (by omega) (by omega)).mono ?_; rintro e w' ⟨rfl, rfl⟩))
      go_ret
      exact ⟨ret_bool (by rw [ratOkB_yes h1 h2, gcdI_comm]), (Below.refl _ _).alloc (Nat.le_refl _) _⟩
    · have h2' : wi b 1 1000000000 = false := by simpa using h2
      go_enter Tryd.func35, Tryd.ntmps35
      go_wp2_with (go_at_call 31; refine (l1In_any _ _ _ _).mono ?_; rintro e w' ⟨rfl, rfl⟩)
      go_ret
      exact ⟨ret_bool (ratOkB_no2 h2').symm, (Below.refl _ _).alloc (Nat.le_refl _) _⟩
  · have h1' : wi a (-1000000000) 1000000000 = false := by simpa using h1
    go_enter Tryd.func35, Tryd.ntmps35
    go_wp2_with (go_at_call 31; refine (l1In_any _ _ _ _).mono ?_; rintro e w' ⟨rfl, rfl⟩)
    go_ret
    exact ⟨ret_bool (ratOkB_no1 h1').symm, (Below.refl _ _).alloc (Nat.le_refl _) _⟩
theorem specRatOk_any (a b : Int) (w : World) :
    Calls Tryd.prog 26 #[.agg #[.int .i64 a, .int .i64 b]] w fun e w' => e = .returned (.bool (ratOkB a b)) ∧ Below w.heap.size w w' := by
  go_enter Tryd.func26, Tryd.ntmps26
  go_wp2_with fail
  refine (l10Ok_any _ _ _).mono ?_
  rintro e w1 ⟨rfl, hb⟩
  go_wp2
  go_ret
  exact ⟨rfl, ((Below.refl _ _).alloc (Nat.le_refl _) _).trans (hb.mono (by simp))⟩

end Go.Proofs.YtobdkkbackalhaaDoor
