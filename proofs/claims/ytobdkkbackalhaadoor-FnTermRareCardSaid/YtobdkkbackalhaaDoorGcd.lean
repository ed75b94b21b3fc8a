/-
  Contracts of divisor and l10Gcd: both return the greatest common divisor, for numbers of at most 4e18.
-/
import Derived.Test.YtobdkkbackalhaaDoorBase
namespace Go.Proofs.YtobdkkbackalhaaDoor
open Go.RowKit
set_option linter.unusedVariables false

theorem gcd_step (a b : Int) : Int.gcd b (a.tmod b) = Int.gcd a b := by
  show Nat.gcd b.natAbs (a.tmod b).natAbs = Nat.gcd a.natAbs b.natAbs
  rw [Int.natAbs_tmod, Nat.gcd_comm, ← Nat.gcd_rec, Nat.gcd_comm]
theorem tmod_lt (a b : Int) (hb : b ≠ 0) : (a.tmod b).natAbs < b.natAbs := by
  rw [Int.natAbs_tmod]; exact Nat.mod_lt _ (by omega)
theorem tmod_le (a b : Int) : (a.tmod b).natAbs ≤ a.natAbs := by
  rw [Int.natAbs_tmod]; exact Nat.mod_le _ _
/-- the greatest common divisor, closed to the walk's simp. -/
def gcdI (a b : Int) : Int := (Int.gcd a b : Nat)
theorem gcdI_zero (a : Int) : gcdI a 0 = if a < 0 then -a else a := by
  unfold gcdI; rw [Int.gcd_zero_right]; split <;> omega
theorem gcdI_step (a b : Int) : gcdI b (a.tmod b) = gcdI a b := by unfold gcdI; rw [gcd_step]
theorem gcdI_step_neg (a b : Int) : gcdI b (-(a.tmod b)) = gcdI a b := by unfold gcdI; rw [Int.gcd_neg, gcd_step]

theorem divisor_any (a b : Int) (w : World) (ha : a.natAbs ≤ 4000000000000000000) (hb : b.natAbs ≤ 4000000000000000000) :
    Calls Tryd.prog 40 #[.int .i64 a, .int .i64 b] w fun e w' => e = .returned (.int .i64 (gcdI a b)) ∧ ∃ n, w' = w.drewN n := by
  go_enter Tryd.func40, Tryd.ntmps40
  go_wp2
  go_loopw [0, 1] (fun s t wr => ∃ x y : Int, s = .int .i64 x ∧ t = .int .i64 y ∧ x.natAbs ≤ 4000000000000000000 ∧ y.natAbs ≤ 4000000000000000000 ∧ Hid (gcdI x y = gcdI a b) ∧ ∃ n, wr = w.drewN n) (fun _ t _ => (intOf t).natAbs)
  case atStart => exact ⟨a, b, rfl, rfl, ha, hb, Lib.hid rfl, 0, rfl⟩
  case round =>
    obtain ⟨x, y, rfl, rfl, hx, hy, hg, n, rfl⟩ := hrel
    by_cases hz : y = 0
    · subst hz
      have e : Hid (gcdI a b = if x < 0 then -x else x) := by have e := gcdI_zero x; rw [hg.out] at e; exact e
      go_wp2
      · go_ret
        exact ⟨by rw [e.out, if_pos (by omega)]; rfl, n, rfl⟩
      · go_ret
        exact ⟨by rw [e.out, if_neg (by omega)]; rfl, n, rfl⟩
    · have hne : (y != 0) = true := by simpa using hz
      have h1 := tmod_lt x y hz
      have h2 := tmod_le x y
      have h3 : Hid (gcdI y (x.tmod y) = gcdI a b) := by have := gcdI_step x y; rw [hg.out] at this; exact this
      go_wp2
      go_quiet (fail)
      go_roundw
      case rel => (repeat apply Exists.intro); exact ⟨⟨y, x.tmod y, rfl, rfl, hy, Nat.le_trans h2 hx, h3, n + nq, World.drewN_drewN _ _ _⟩, rfl⟩
      case measure => exact h1
theorem l10Gcd_any (k : Nat) : ∀ (a b : Int) (w : World), b.natAbs ≤ k → a.natAbs ≤ 4000000000000000000 → b.natAbs ≤ 4000000000000000000 →
    Calls Tryd.prog 43 #[.int .i64 a, .int .i64 b] w fun e w' => e = .returned (.int .i64 (gcdI a b)) ∧ w = w' := by
  induction k with
  | zero =>
    intro a b w hk ha hb
    obtain rfl : b = 0 := by omega
    have e : Hid (gcdI a 0 = if a < 0 then -a else a) := gcdI_zero a
    clear hk hb
    by_cases h : a < 0
    · go_enter Tryd.func43, Tryd.ntmps43
      go_wp2_with fail
      go_ret
      exact ⟨by rw [e.out, if_pos h]; rfl, rfl⟩
    · go_enter Tryd.func43, Tryd.ntmps43
      go_wp2_with fail
      go_ret
      exact ⟨by rw [e.out, if_neg (by omega)]; rfl, rfl⟩
  | succ k ih =>
    intro a b w hk ha hb
    have IH := Lib.hid ih
    clear ih
    by_cases hz : b = 0
    · subst hz
      have e : Hid (gcdI a 0 = if a < 0 then -a else a) := gcdI_zero a
      clear hk hb
      by_cases h : a < 0
      · go_enter Tryd.func43, Tryd.ntmps43
        go_wp2_with fail
        go_ret
        exact ⟨by rw [e.out, if_pos h]; rfl, rfl⟩
      · go_enter Tryd.func43, Tryd.ntmps43
        go_wp2_with fail
        go_ret
        exact ⟨by rw [e.out, if_neg (by omega)]; rfl, rfl⟩
    · have hne : (b == 0) = false := by simpa using hz
      have hk1 : (a.tmod b).natAbs ≤ k := Nat.le_of_lt_succ (Nat.lt_of_lt_of_le (tmod_lt a b hz) hk)
      have hr1 : (a.tmod b).natAbs ≤ 4000000000000000000 := Nat.le_trans (tmod_le a b) ha
      by_cases h : a < 0
      · have hk' : (-(a.tmod b)).natAbs ≤ k := by rw [Int.natAbs_neg]; exact hk1
        have hr : (-(a.tmod b)).natAbs ≤ 4000000000000000000 := by rw [Int.natAbs_neg]; exact hr1
        have g : Hid (gcdI b (-(a.tmod b)) = gcdI a b) := gcdI_step_neg a b
        clear hk1 hr1
        have HK := Lib.hid hk'
        have HR := Lib.hid hr
        clear hk' hr
        go_enter Tryd.func43, Tryd.ntmps43
        go_wp2_with fail
        refine (IH.out _ _ _ HK.out hb HR.out).mono ?_
        rintro e w' ⟨rfl, rfl⟩
        rw [g.out]
        go_wp2_with fail
        go_ret
        exact ⟨rfl, rfl⟩
      · have ht : a.tmod b = a % b := Int.tmod_eq_emod_of_nonneg (by omega)
        have g : Hid (gcdI b (a % b) = gcdI a b) := by rw [← ht]; exact gcdI_step a b
        rw [ht] at hk1 hr1
        have HK := Lib.hid hk1
        have HR := Lib.hid hr1
        clear hk1 hr1 ht
        go_enter Tryd.func43, Tryd.ntmps43
        go_wp2_with fail
        refine (IH.out _ _ _ HK.out hb HR.out).mono ?_
        rintro e w' ⟨rfl, rfl⟩
        rw [g.out]
        go_wp2_with fail
        go_ret
        exact ⟨rfl, rfl⟩

end Go.Proofs.YtobdkkbackalhaaDoor
