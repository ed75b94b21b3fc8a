/-
  Fractions that are ok: contracts of toRat, RatOk, l10Ok, and the walk of the law FnExactRatOk.
-/
import Derived.Test.YtobdkkbackalhaaGcd
namespace Go.Proofs.Ytobdkkbackalhaa
open Go.RowKit
set_option linter.unusedVariables false

theorem gcdI_comm (a b : Int) : gcdI a b = gcdI b a := by unfold gcdI; rw [Int.gcd_comm]

/-- a fraction that is ok. -/
def ratOkB (a b : Int) : Bool := wi a (-1000000000) 1000000000 && wi b 1 1000000000 && gcdI a b == 1
theorem ratOkB_iff {a b : Int} : ratOkB a b = true ↔ (-1000000000 ≤ a ∧ a ≤ 1000000000) ∧ (1 ≤ b ∧ b ≤ 1000000000) ∧ gcdI a b = 1 := by
  simp [ratOkB, wi_true, and_assoc]
theorem ratOkB_no1 {a b : Int} (h : wi a (-1000000000) 1000000000 = false) : ratOkB a b = false := by simp [ratOkB, h]
theorem ratOkB_no2 {a b : Int} (h : wi b 1 1000000000 = false) : ratOkB a b = false := by simp [ratOkB, h]
theorem ratOkB_yes {a b : Int} (h : wi a (-1000000000) 1000000000 = true) (h2 : wi b 1 1000000000 = true) : ratOkB a b = (gcdI a b == 1) := by simp [ratOkB, h, h2]

theorem toRat_any (a b : Int) (w : World) :
    Calls Try.prog 18 #[.agg #[.int .i64 a, .int .i64 b]] w fun e w' => e = .returned (.agg #[.int .i64 a, .int .i64 b]) ∧ Below w.heap.size w w' := by
  go_enter Try.func18, Try.ntmps18
  go_wp2
  exact bodyPost_ret (v := .agg #[.int .i64 a, .int .i64 b]) (by simp [results, Try.results18, go_sem]) rfl ⟨rfl, by (repeat' (first | exact Below.refl _ _ | apply Below.alloc | apply Below.setCell | apply Below.drew)) <;> (simp <;> omega)⟩
theorem ratOk_any (a b : Int) (w : World) :
    Calls Try.prog 19 #[.agg #[.int .i64 a, .int .i64 b]] w fun e w' => e = .returned (.bool (ratOkB a b)) ∧ Below w.heap.size w w' := by
  by_cases h1 : wi a (-1000000000) 1000000000 = true
  · by_cases h2 : wi b 1 1000000000 = true
    · have h3 := wi_true.1 h1
      have h4 := wi_true.1 h2
      go_enter Try.func19, Try.ntmps19
      go_wp2_with (first | (go_at_call 33; refine (within_any _ _ _ _).mono ?_; rintro e w' ⟨rfl, rfl⟩) | (go_at_call 36; refine (divisor_any _ _ _ (by omega) (by omega)).mono ?_; rintro e w' ⟨rfl, n, rfl⟩))
      go_ret
      exact ⟨ret_bool (ratOkB_yes h1 h2).symm, (((Below.refl _ _).alloc (Nat.le_refl _) _).trans ⟨rfl, rfl, rfl, Nat.le_refl _, fun _ _ => rfl⟩)⟩
    · have h2' : wi b 1 1000000000 = false := by simpa using h2
      go_enter Try.func19, Try.ntmps19
      go_wp2_with (go_at_call 33; refine (within_any _ _ _ _).mono ?_; rintro e w' ⟨rfl, rfl⟩)
      go_ret
      exact ⟨ret_bool (ratOkB_no2 h2').symm, (Below.refl _ _).alloc (Nat.le_refl _) _⟩
  · have h1' : wi a (-1000000000) 1000000000 = false := by simpa using h1
    go_enter Try.func19, Try.ntmps19
    go_wp2_with (go_at_call 33; refine (within_any _ _ _ _).mono ?_; rintro e w' ⟨rfl, rfl⟩)
    go_ret
    exact ⟨ret_bool (ratOkB_no1 h1').symm, (Below.refl _ _).alloc (Nat.le_refl _) _⟩
theorem l10Ok_any (a b : Int) (w : World) :
    Calls Try.prog 35 #[.agg #[.int .i64 a, .int .i64 b]] w fun e w' => e = .returned (.bool (ratOkB a b)) ∧ Below w.heap.size w w' := by
  by_cases h1 : wi a (-1000000000) 1000000000 = true
  · by_cases h2 : wi b 1 1000000000 = true
    · have h3 := wi_true.1 h1
      have h4 := wi_true.1 h2
      go_enter Try.func35, Try.ntmps35
      go_wp2_with (first | (go_at_call 37; refine (l1In_any _ _ _ _).mono ?_; rintro e w' ⟨rfl, rfl⟩) | (go_at_call 47; refine (l10Gcd_any _ _ _ _ (Nat.le_refl _) (by omega) (by omega)).mono ?_; rintro e w' ⟨rfl, rfl⟩))
      go_ret
      exact ⟨ret_bool (by rw [ratOkB_yes h1 h2, gcdI_comm]), (Below.refl _ _).alloc (Nat.le_refl _) _⟩
    · have h2' : wi b 1 1000000000 = false := by simpa using h2
      go_enter Try.func35, Try.ntmps35
      go_wp2_with (go_at_call 37; refine (l1In_any _ _ _ _).mono ?_; rintro e w' ⟨rfl, rfl⟩)
      go_ret
      exact ⟨ret_bool (ratOkB_no2 h2').symm, (Below.refl _ _).alloc (Nat.le_refl _) _⟩
  · have h1' : wi a (-1000000000) 1000000000 = false := by simpa using h1
    go_enter Try.func35, Try.ntmps35
    go_wp2_with (go_at_call 37; refine (l1In_any _ _ _ _).mono ?_; rintro e w' ⟨rfl, rfl⟩)
    go_ret
    exact ⟨ret_bool (ratOkB_no1 h1').symm, (Below.refl _ _).alloc (Nat.le_refl _) _⟩
theorem specRatOk_any (a b : Int) (w : World) :
    Calls Try.prog 17 #[.agg #[.int .i64 a, .int .i64 b]] w fun e w' => e = .returned (.bool (ratOkB a b)) ∧ Below w.heap.size w w' := by
  go_enter Try.func17, Try.ntmps17
  go_wp2_with fail
  refine (l10Ok_any _ _ _).mono ?_
  rintro e w1 ⟨rfl, hb⟩
  go_wp2
  go_ret
  exact ⟨rfl, ((Below.refl _ _).alloc (Nat.le_refl _) _).trans (hb.mono (by simp))⟩
theorem walk_FnExactRatOk (a : Int) (wa : (Lit.int .i64 a).wf = true) (b : Int) (wb : (Lit.int .i64 b).wf = true) (w : World) :
    Calls Try.prog 5 #[.agg #[.int .i64 a, .int .i64 b]] w fun e w' => e = .returned (.bool true) ∧ Below w.heap.size w w' := by
  clear wa wb
  go_enter Try.func5, Try.ntmps5
  go_wp2_with fail
  refine (toRat_any _ _ _).mono ?_
  rintro e w1 ⟨rfl, hb1⟩
  obtain ⟨hc1, hf1⟩ := bcell hb1
  go_wp2_with fail
  refine (specRatOk_any _ _ _).mono ?_
  rintro e w2 ⟨rfl, hb2⟩
  obtain ⟨hc2, hf2⟩ := bcell hb2
  have hz1 : w.heap.size < w1.heap.size := by have := hb1.size; simp at this; omega
  go_wp2_with fail
  refine (toRat_any _ _ _).mono ?_
  rintro e w3 ⟨rfl, hb3⟩
  obtain ⟨hc3, hf3⟩ := bcell hb3
  go_wp2_with fail
  refine (ratOk_any _ _ _).mono ?_
  rintro e w4 ⟨rfl, hb4⟩
  go_wp2
  go_ret
  exact ⟨rfl, ((((Below.refl _ _).alloc (Nat.le_refl _) _).trans (hb1.mono (by simp))).trans (hb2.mono (by omega))).trans ((hb3.mono (by have := hb2.size; omega)).trans (hb4.mono (by have := hb2.size; have := hb3.size; omega)))⟩

end Go.Proofs.Ytobdkkbackalhaa
