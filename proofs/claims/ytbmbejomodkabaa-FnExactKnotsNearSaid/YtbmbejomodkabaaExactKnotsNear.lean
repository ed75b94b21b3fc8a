/-
  The walk of FnExactKnotsNear.
-/
import Derived.Test.YtbmbejomodkabaaKnotsNear
import Derived.Test.YtbmbejomodkabaaRowRecs
namespace Go.Proofs.Ytbmbejomodkabaa
open Go.RowKit
set_option linter.unusedVariables false

theorem walk_FnExactKnotsNear (A : Option Addr) (len cap : Nat) (z : List Kn) (px : Int) (_ : (Lit.int .i64 px).wf = true) (py : Int) (_ : (Lit.int .i64 py).wf = true) (w : World) (hz : z.length = len) (h : Rds w 8 A len (z.flatMap encKn) ∧ len ≤ cap ∧ cap ≤ maxLen) :
    Calls Try.prog 7 #[.slice A len cap, .int .i64 px, .int .i64 py] w fun e w' => e = .returned (.bool true) ∧ Below w.heap.size w w' := by
  subst hz
  obtain ⟨h, hc1, hc2⟩ := h
  obtain ⟨R, hR⟩ : ∃ R, R = nearL z px py := ⟨_, rfl⟩
  have ci := fun A c w h hn => implKnotsNear_any A c z px py w h hn
  have cs := fun A c w h hn => specKnotsNear_any A c z px py w h hn
  rw [← hR] at ci cs
  have CI := Lib.hid ci
  have CS := Lib.hid cs
  clear hR ci cs
  go_enter Try.func7, Try.ntmps7
  go_wp2_with fail
  refine (szKnotS_any A z.length cap 1048576 _ (by unfold maxLen at hc2; omega) (by omega) (by omega)).mono ?_
  rintro e w1 ⟨r, ⟨rfl, hr1, hr2, hr3⟩, rfl⟩
  by_cases hr : r < 0
  · go_wp2
    go_ret
    exact ⟨rfl, Below.refl _ _⟩
  · have hs : z.length ≤ 1048576 := by rcases hr3 with h9 | h9 <;> omega
    clear hr1 hr2 hr3
    go_wp2_with fail
    refine (toKnotS_any A _ z _ h hs).mono ?_
    rintro e w1 ⟨g1, ⟨rfl, o1⟩, hb1⟩
    go_wp2_with fail
    refine (CS.out _ _ _ (OwnE.src (enc := encKn) o1) hs).mono ?_
    rintro e w2 ⟨rfl, hb2⟩
    have hB2 := hb1.trans (hb2.mono hb1.size)
    go_wp2_with fail
    refine (toKnotS_any A _ z _ (h.below hB2) hs).mono ?_
    rintro e w3 ⟨g3, ⟨rfl, o3⟩, hb3⟩
    have hB3 := hB2.trans (hb3.mono hB2.size)
    go_wp2_with fail
    refine (CI.out _ _ _ (OwnE.src (enc := encKn) o3) hs).mono ?_
    rintro e w4 ⟨rfl, hb4⟩
    have hB4 := hB3.trans (hb4.mono hB3.size)
    have o4 := own_below o3 hb4
    all_goals
      go_wp2_with fail
      refine (toKnotS_any A _ z _ (h.below hB4) hs).mono ?_
      rintro e w5 ⟨g5, ⟨rfl, o5⟩, hb5⟩
      have hB5 := hB4.trans (hb5.mono hB4.size)
      have o6 := own_below o4 hb5
      go_wp2_with fail
      refine (eqKnotS_same _ _ _ _ z _ (Rds.own o6) (Rds.own o5) (by omega)).mono ?_
      rintro e w6 ⟨rfl, hb6⟩
      go_wp2
      go_ret
      exact ⟨rfl, hB5.trans (hb6.mono hB5.size)⟩
end Go.Proofs.Ytbmbejomodkabaa
