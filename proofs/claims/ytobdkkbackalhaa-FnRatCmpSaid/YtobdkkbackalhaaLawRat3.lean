/-
  The walk of the law FnRatCmp.
-/
import Derived.Test.YtobdkkbackalhaaLawRat1
namespace Go.Proofs.Ytobdkkbackalhaa
open Go.RowKit
set_option linter.unusedVariables false

theorem same_of_cross {a b c d : Int} (h1 : ratOkB a b = true) (h2 : ratOkB c d = true) (h : a * d = c * b) : a = c ∧ b = d := by
  obtain ⟨⟨_, _⟩, ⟨hb1, _⟩, g1⟩ := ratOkB_iff.1 h1
  obtain ⟨⟨_, _⟩, ⟨hd1, _⟩, g2⟩ := ratOkB_iff.1 h2
  have k1 : Nat.Coprime b.natAbs a.natAbs := by
    have : Nat.gcd a.natAbs b.natAbs = 1 := by unfold gcdI at g1; exact Int.ofNat.inj g1
    rw [Nat.coprime_iff_gcd_eq_one, Nat.gcd_comm]; exact this
  have k2 : Nat.Coprime d.natAbs c.natAbs := by
    have : Nat.gcd c.natAbs d.natAbs = 1 := by unfold gcdI at g2; exact Int.ofNat.inj g2
    rw [Nat.coprime_iff_gcd_eq_one, Nat.gcd_comm]; exact this
  have hn : a.natAbs * d.natAbs = c.natAbs * b.natAbs := by rw [← Int.natAbs_mul, ← Int.natAbs_mul, h]
  have d1 : b.natAbs ∣ d.natAbs := k1.dvd_of_dvd_mul_left (by rw [hn]; exact Nat.dvd_mul_left _ _)
  have d2 : d.natAbs ∣ b.natAbs := k2.dvd_of_dvd_mul_left (by rw [← hn]; exact Nat.dvd_mul_left _ _)
  have e : b.natAbs = d.natAbs := Nat.dvd_antisymm d1 d2
  have e2 : b = d := by omega
  subst e2
  exact ⟨Int.eq_of_mul_eq_mul_right (show b ≠ 0 by omega) h, rfl⟩

theorem sgn_flip (x y : Int) : sgnOf y x = -(sgnOf x y) := by unfold sgnOf; repeat' split <;> omega
theorem sgn_range (x y : Int) : -1 ≤ sgnOf x y ∧ sgnOf x y ≤ 1 := by unfold sgnOf; repeat' split <;> omega
theorem sgn_zero (x y : Int) : sgnOf x y = 0 ↔ x = y := by unfold sgnOf; repeat' split <;> omega
theorem cmp_law {a b c d : Int} (h1 : ratOkB a b = true) (h2 : ratOkB c d = true) :
    (cmpB c d a b == -(cmpB a b c d)) = true ∧ ((cmpB a b c d == 0) = (a == c && b == d)) ∧ -1 ≤ cmpB a b c d ∧ cmpB a b c d ≤ 1 := by
  rw [cmpB_yes h1 h2, cmpB_yes h2 h1, sgn_flip]
  obtain ⟨r1, r2⟩ := sgn_range (a * d) (c * b)
  refine ⟨by simp, ?_, r1, r2⟩
  rw [Bool.eq_iff_iff]
  simp only [beq_iff_eq, Bool.and_eq_true, sgn_zero]
  constructor
  · exact same_of_cross h1 h2
  · rintro ⟨rfl, rfl⟩; rfl

theorem walk_FnRatCmp (a0 : Option Addr) (len cap : Nat) (zs : List Int) (w : World) (hrow : IsRow .u8 w a0 len cap zs) :
    Calls Try.prog 11 #[.slice a0 len cap] w fun e w' => e = .returned (.bool true) ∧ Below w.heap.size w w' := by
  obtain ⟨hc1, hc2, _⟩ := code_of_row hrow
  by_cases hbig : (1048576 : Int) < (len : Int)
  · go_enter Try.func11, Try.ntmps11
    go_wp2
    go_ret
    exact ⟨rfl, Below.refl _ _⟩
  · go_enter Try.func11, Try.ntmps11
    go_wp2_with fail
    refine (drawRatCmp_any a0 len cap zs _ hrow).mono ?_
    rintro e w1 ⟨a, b, c, d, rfl, hb1⟩
    go_wp2_with fail
    have hB : Below w.heap.size w ((w1.alloc (.cells #[.int .i64 a, .int .i64 b] 33)).alloc (.cells #[.int .i64 c, .int .i64 d] 33)) := hb1.trans (Below.alloc (Below.alloc (Below.refl _ _) hb1.size _) (by have := hb1.size; simp; omega) _)
    have hx : w1.heap.size < ((w1.alloc (.cells #[.int .i64 a, .int .i64 b] 33)).alloc (.cells #[.int .i64 c, .int .i64 d] 33)).heap.size := by simp; omega
    have hx1 : w1.heap.size + 1 < ((w1.alloc (.cells #[.int .i64 a, .int .i64 b] 33)).alloc (.cells #[.int .i64 c, .int .i64 d] 33)).heap.size := by simp
    have l0 : ∀ w', Below ((w1.alloc (.cells #[.int .i64 a, .int .i64 b] 33)).alloc (.cells #[.int .i64 c, .int .i64 d] 33)).heap.size ((w1.alloc (.cells #[.int .i64 a, .int .i64 b] 33)).alloc (.cells #[.int .i64 c, .int .i64 d] 33)) w' → w'.cell? ⟨w1.heap.size, 0, none⟩ = some (.int .i64 a) := fun w' h => (h.cell (p := ⟨_, _, _⟩) hx).trans (by simp)
    have l1 : ∀ w', Below ((w1.alloc (.cells #[.int .i64 a, .int .i64 b] 33)).alloc (.cells #[.int .i64 c, .int .i64 d] 33)).heap.size ((w1.alloc (.cells #[.int .i64 a, .int .i64 b] 33)).alloc (.cells #[.int .i64 c, .int .i64 d] 33)) w' → w'.cell? ⟨w1.heap.size, 1, none⟩ = some (.int .i64 b) := fun w' h => (h.cell (p := ⟨_, _, _⟩) hx).trans (by simp)
    have l2 : ∀ w', Below ((w1.alloc (.cells #[.int .i64 a, .int .i64 b] 33)).alloc (.cells #[.int .i64 c, .int .i64 d] 33)).heap.size ((w1.alloc (.cells #[.int .i64 a, .int .i64 b] 33)).alloc (.cells #[.int .i64 c, .int .i64 d] 33)) w' → w'.cell? ⟨w1.heap.size + 1, 0, none⟩ = some (.int .i64 c) := fun w' h => (h.cell (p := ⟨_, _, _⟩) hx1).trans (by simp)
    have l3 : ∀ w', Below ((w1.alloc (.cells #[.int .i64 a, .int .i64 b] 33)).alloc (.cells #[.int .i64 c, .int .i64 d] 33)).heap.size ((w1.alloc (.cells #[.int .i64 a, .int .i64 b] 33)).alloc (.cells #[.int .i64 c, .int .i64 d] 33)) w' → w'.cell? ⟨w1.heap.size + 1, 1, none⟩ = some (.int .i64 d) := fun w' h => (h.cell (p := ⟨_, _, _⟩) hx1).trans (by simp)
    have hH := Below.refl ((w1.alloc (.cells #[.int .i64 a, .int .i64 b] 33)).alloc (.cells #[.int .i64 c, .int .i64 d] 33)).heap.size ((w1.alloc (.cells #[.int .i64 a, .int .i64 b] 33)).alloc (.cells #[.int .i64 c, .int .i64 d] 33))
    generalize hW : (w1.alloc (.cells #[.int .i64 a, .int .i64 b] 33)).alloc (.cells #[.int .i64 c, .int .i64 d] 33) = W0 at hB hx hx1 l0 l1 l2 l3 hH ⊢
    generalize w1.heap.size = g at hx hx1 l0 l1 l2 l3 ⊢
    clear hW hb1 hrow
    by_cases ho : ratOkB a b = true
    · by_cases h2 : ratOkB c d = true
      · obtain ⟨m1, m2, m3, m4⟩ := cmp_law ho h2
        by_cases hac : a = c
        · by_cases hbd : b = d
          · subst hac hbd
            have hz : cmpB a b a b = 0 := by simpa using m2
            clear m2
            go_wp2_with (first | (go_at_call 26; refine (ratCmp_any _ _ _ _ _).mono ?_; rintro e w' ⟨rfl, hb⟩; replace hH := hH.trans (hb.mono hH.size); clear hb) | (go_at_call 25; refine (specRatCmp_any _ _ _ _ _).mono ?_; rintro e w' ⟨rfl, hb⟩; replace hH := hH.trans (hb.mono hH.size); clear hb) | (go_at_call 19; refine (ratOk_any _ _ _).mono ?_; rintro e w' ⟨rfl, hb⟩; replace hH := hH.trans (hb.mono hH.size); clear hb))
            go_ret
            exact ⟨rfl, hB.trans (hH.mono hB.size)⟩
          · subst hac
            have hz : (cmpB a b a d == 0) = false := by rw [m2]; simp [hbd]
            clear m2
            go_wp2_with (first | (go_at_call 26; refine (ratCmp_any _ _ _ _ _).mono ?_; rintro e w' ⟨rfl, hb⟩; replace hH := hH.trans (hb.mono hH.size); clear hb) | (go_at_call 25; refine (specRatCmp_any _ _ _ _ _).mono ?_; rintro e w' ⟨rfl, hb⟩; replace hH := hH.trans (hb.mono hH.size); clear hb) | (go_at_call 19; refine (ratOk_any _ _ _).mono ?_; rintro e w' ⟨rfl, hb⟩; replace hH := hH.trans (hb.mono hH.size); clear hb))
            go_ret
            exact ⟨rfl, hB.trans (hH.mono hB.size)⟩
        · have hz : (cmpB a b c d == 0) = false := by rw [m2]; simp [hac]
          clear m2
          go_wp2_with (first | (go_at_call 26; refine (ratCmp_any _ _ _ _ _).mono ?_; rintro e w' ⟨rfl, hb⟩; replace hH := hH.trans (hb.mono hH.size); clear hb) | (go_at_call 25; refine (specRatCmp_any _ _ _ _ _).mono ?_; rintro e w' ⟨rfl, hb⟩; replace hH := hH.trans (hb.mono hH.size); clear hb) | (go_at_call 19; refine (ratOk_any _ _ _).mono ?_; rintro e w' ⟨rfl, hb⟩; replace hH := hH.trans (hb.mono hH.size); clear hb))
          go_ret
          exact ⟨rfl, hB.trans (hH.mono hB.size)⟩
      · go_wp2_with (first | (go_at_call 26; refine (ratCmp_any _ _ _ _ _).mono ?_; rintro e w' ⟨rfl, hb⟩; replace hH := hH.trans (hb.mono hH.size); clear hb) | (go_at_call 25; refine (specRatCmp_any _ _ _ _ _).mono ?_; rintro e w' ⟨rfl, hb⟩; replace hH := hH.trans (hb.mono hH.size); clear hb) | (go_at_call 19; refine (ratOk_any _ _ _).mono ?_; rintro e w' ⟨rfl, hb⟩; replace hH := hH.trans (hb.mono hH.size); clear hb))
        all_goals (go_ret; exact ⟨rfl, hB.trans (hH.mono hB.size)⟩)
    · go_wp2_with (first | (go_at_call 26; refine (ratCmp_any _ _ _ _ _).mono ?_; rintro e w' ⟨rfl, hb⟩; replace hH := hH.trans (hb.mono hH.size); clear hb) | (go_at_call 25; refine (specRatCmp_any _ _ _ _ _).mono ?_; rintro e w' ⟨rfl, hb⟩; replace hH := hH.trans (hb.mono hH.size); clear hb) | (go_at_call 19; refine (ratOk_any _ _ _).mono ?_; rintro e w' ⟨rfl, hb⟩; replace hH := hH.trans (hb.mono hH.size); clear hb))
      all_goals (go_ret; exact ⟨rfl, hB.trans (hH.mono hB.size)⟩)
end Go.Proofs.Ytobdkkbackalhaa
