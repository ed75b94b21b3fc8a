/-
  FnExactHitsOk: the walk.
-/
import Derived.Test.YteomiaffdbbpoaaImplHits
import Derived.Test.YteomiaffdbbpoaaExactHits
import Derived.Test.YteomiaffdbbpoaaStructs
namespace Go.Proofs.Yteomiaffdbbpoaa
open Go.RowKit
set_option linter.unusedVariables false

theorem walk_FnExactHitsOk (A : Option Addr) (len cap : Nat) (z : List (Int × Int)) (w : World) (hz : z.length = len) (h : Rds w 2 A len (z.flatMap enc2) ∧ len ≤ cap ∧ cap ≤ maxLen) :
    Calls Try.prog 3 #[.slice A len cap] w fun e w' => e = .returned (.bool true) ∧ Below w.heap.size w w' := by
  subst hz
  obtain ⟨h, hc1, hc2⟩ := h
  obtain ⟨R, hR⟩ : ∃ R, R = hitsB z := ⟨_, rfl⟩
  have HR : Hid (hitsB z = R) := hR.symm
  clear hR
  go_enter Try.func3, Try.ntmps3
  go_wp2_with fail
  refine (szHitS_any A z.length cap 1048576 _ (by unfold maxLen at hc2; omega) (by omega) (by omega)).mono ?_
  rintro e w1 ⟨r, ⟨rfl, hr1, hr2, hr3⟩, rfl⟩
  by_cases hr : r < 0
  · go_wp2
    go_ret
    exact ⟨rfl, Below.refl _ _⟩
  · have hs : z.length ≤ 1048576 := by rcases hr3 with h9 | h9 <;> omega
    clear hr1 hr2 hr3
    go_wp2_with fail
    refine (toHitS_any A _ z _ h hs).mono ?_
    rintro e w1 ⟨g1, ⟨rfl, o1⟩, hb1⟩
    go_wp2_with fail
    refine (specHitsOk_any _ _ z _ (Rds.own o1) hs).mono ?_
    rintro e w2 ⟨rfl, hb2⟩
    rw [HR.out]
    have hB2 := hb1.trans (hb2.mono hb1.size)
    go_wp2_with fail
    refine (toHitS_any A _ z _ (h.below hB2) hs).mono ?_
    rintro e w3 ⟨g3, ⟨rfl, o3⟩, hb3⟩
    have hB3 := hB2.trans (hb3.mono hB2.size)
    go_wp2_with fail
    refine (implHitsOk_any _ _ z _ (Rds.own o3) hs (Nat.le_refl _) (by omega)).mono ?_
    rintro e w4 ⟨rfl, hb4⟩
    rw [HR.out]
    have hB4 := hB3.trans (hb4.mono hB3.size)
    have o4 := own_below o3 hb4
    cases R
    all_goals
      go_wp2_with fail
      refine (toHitS_any A _ z _ (h.below hB4) hs).mono ?_
      rintro e w5 ⟨g5, ⟨rfl, o5⟩, hb5⟩
      have hB5 := hB4.trans (hb5.mono hB4.size)
      have o6 := own_below o4 hb5
      go_wp2_with fail
      refine (eqHitS_same _ _ _ _ z _ (Rds.own o6) (Rds.own o5) (by omega)).mono ?_
      rintro e w6 ⟨rfl, hb6⟩
      go_wp2
      go_ret
      exact ⟨rfl, hB5.trans (hb6.mono hB5.size)⟩
end Go.Proofs.Yteomiaffdbbpoaa
