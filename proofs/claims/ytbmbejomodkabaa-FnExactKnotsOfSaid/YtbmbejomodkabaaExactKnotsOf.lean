/-
  The walk of FnExactKnotsOf.
-/
import Derived.Test.YtbmbejomodkabaaKnotsOf
import Derived.Test.YtbmbejomodkabaaRowRecs
namespace Go.Proofs.Ytbmbejomodkabaa
open Go.RowKit
set_option linter.unusedVariables false

set_option maxHeartbeats 1600000 in
set_option maxRecDepth 4000 in
theorem walk_FnExactKnotsOf (A : Option Addr) (len cap : Nat) (z : List Pt) (w : World) (hz : z.length = len) (h : Rds w 3 A len (z.flatMap encPt) ∧ len ≤ cap ∧ cap ≤ maxLen) :
    Calls Try.prog 8 #[.slice A len cap] w fun e w' => e = .returned (.bool true) ∧ Below w.heap.size w w' := by
  subst hz
  obtain ⟨h, hc1, hc2⟩ := h
  obtain ⟨X, hX⟩ : ∃ X, X = knotsL z := ⟨_, rfl⟩
  have hXl : X.length ≤ 24 := by rw [hX]; exact knotsL_len_le z
  have ci := fun A c w h hn => implKnotsOf_any A c z w h hn
  have cs := fun A c w h hn => specKnotsOf_any A c z w h hn
  rw [← hX] at ci cs
  have CI := Lib.hid ci
  have CS := Lib.hid cs
  clear hX ci cs
  go_enter Try.func8, Try.ntmps8
  go_wp2_with fail
  refine (szPointS_any A z.length cap 1048576 _ (by unfold maxLen at hc2; omega) (by omega) (by omega)).mono ?_
  rintro e w1 ⟨r, ⟨rfl, hr1, hr2, hr3⟩, rfl⟩
  by_cases hr : r < 0
  · go_wp2
    go_ret
    exact ⟨rfl, Below.refl _ _⟩
  · have hs : z.length ≤ 1048576 := by rcases hr3 with h9 | h9 <;> omega
    clear hr1 hr2 hr3
    go_wp2_with fail
    refine (toPointS_any A _ z _ h hs).mono ?_
    rintro e w2 ⟨g2, ⟨rfl, o2⟩, hb2⟩
    go_wp2_with fail
    refine (CS.out _ _ _ (OwnE.src (enc := encPt) o2) hs).mono ?_
    rintro e w7 ⟨A7, c7, ⟨rfl, s7⟩, hb7⟩
    have hBA7 := hb2.trans (hb7.mono hb2.size)
    have uA7 := hBA7.size
    have hB77 : Below w7.heap.size w7 w7 := Below.refl _ _
    clear o2 hb2 hb7
    go_wp2_with fail
    refine (toPointS_any A _ z _ (h.below hBA7) hs).mono ?_
    rintro e w20 ⟨gX, ⟨rfl, rX⟩, hb⟩
    have tX := rX.lt
    have hBA20 := hBA7.trans (hb.mono hBA7.size)
    have hB720 := hB77.trans (hb.mono hB77.size)
    have ub20 := hb.size
    clear hb
    have uA20 := hBA20.size
    have u720 := hB720.size
    go_wp2_with fail
    refine (CI.out _ _ _ (OwnE.src (enc := encPt) rX) hs).mono ?_
    rintro e w21 ⟨gG, cG, ⟨rfl, rG⟩, hb⟩
    have tG := rG.lt
    replace rX := own_below rX hb
    have hBA21 := hBA20.trans (hb.mono hBA20.size)
    have hB721 := hB720.trans (hb.mono hB720.size)
    have ub21 := hb.size
    clear hb
    have uA21 := hBA21.size
    have u721 := hB721.size
    go_wp2_with fail
    refine (eqKnotS_same _ _ _ _ X _ (Rds.own rG) (s7.below hB721).1 (by omega)).mono ?_
    rintro e w22 ⟨rfl, hb⟩
    replace rX := own_below rX hb
    replace rG := own_below rG hb
    have hBA22 := hBA21.trans (hb.mono hBA21.size)
    have hB722 := hB721.trans (hb.mono hB721.size)
    have ub22 := hb.size
    clear hb
    have uA22 := hBA22.size
    have u722 := hB722.size
    go_wp2_with fail
    refine (toPointS_any A _ z _ (h.below hBA22) hs).mono ?_
    rintro e w23 ⟨gE, ⟨rfl, rE⟩, hb⟩
    have tE := rE.lt
    replace rX := own_below rX hb
    replace rG := own_below rG hb
    have hBA23 := hBA22.trans (hb.mono hBA22.size)
    have hB723 := hB722.trans (hb.mono hB722.size)
    have ub23 := hb.size
    clear hb
    have uA23 := hBA23.size
    have u723 := hB723.size
    go_wp2_with fail
    refine (eqPointS_same _ _ _ _ z _ (Rds.own rX) (Rds.own rE) (by omega)).mono ?_
    rintro e w24 ⟨rfl, hb⟩
    replace rX := own_below rX hb
    replace rG := own_below rG hb
    replace rE := own_below rE hb
    have hBA24 := hBA23.trans (hb.mono hBA23.size)
    have hB724 := hB723.trans (hb.mono hB723.size)
    have ub24 := hb.size
    clear hb
    have uA24 := hBA24.size
    have u724 := hB724.size
    clear rE tE
    go_wp2_with fail
    refine (markPointS_any _ _ _ z 1 _ rX (by omega) (by omega) (by omega)).mono ?_
    rintro e w25 ⟨⟨rfl, rn⟩, hg⟩
    have hb7 : Below w7.heap.size w24 w25 := below_append rX hg (by omega) (by omega)
    have hbw : Below w.heap.size w24 w25 := hb7.mono (by omega)
    replace rG := own_kept rG hg (fun k k2 e1 e2 => by have := tG k e1; have := tX k2 e2; omega)
    replace rX := rn
    clear rn
    have hBA25 := hBA24.trans hbw
    have hB725 := hB724.trans hb7
    have ub25 := hg.size
    clear hb7 hbw hg
    have uA25 := hBA25.size
    have u725 := hB725.size
    go_wp2_with fail
    refine (eqKnotS_same _ _ _ _ X _ (Rds.own rG) (s7.below hB725).1 (by omega)).mono ?_
    rintro e w26 ⟨rfl, hb⟩
    replace rX := own_below rX hb
    replace rG := own_below rG hb
    have hBA26 := hBA25.trans (hb.mono hBA25.size)
    have hB726 := hB725.trans (hb.mono hB725.size)
    have ub26 := hb.size
    clear hb
    have uA26 := hBA26.size
    have u726 := hB726.size
    go_wp2_with fail
    refine (markKnotS_any _ _ _ X 1 _ rG (by omega) (by omega) (by omega)).mono ?_
    rintro e w27 ⟨⟨rfl, rn⟩, hg⟩
    have hb7 : Below w7.heap.size w26 w27 := below_append rG hg (by omega) (by omega)
    have hbw : Below w.heap.size w26 w27 := hb7.mono (by omega)
    replace rX := own_kept rX hg (fun k k2 e1 e2 => by have := tX k e1; have := tG k2 e2; omega)
    replace rG := rn
    clear rn
    have hBA27 := hBA26.trans hbw
    have hB727 := hB726.trans hb7
    have ub27 := hg.size
    clear hb7 hbw hg
    have uA27 := hBA27.size
    have u727 := hB727.size
    go_wp2_with fail
    refine (heldKnotS_any _ _ X.length 1 _ (Rds.own rG) (by omega) (by omega) (by omega)).mono ?_
    rintro e w28 ⟨rfl, hb⟩
    replace rX := own_below rX hb
    replace rG := own_below rG hb
    have hBA28 := hBA27.trans (hb.mono hBA27.size)
    have hB728 := hB727.trans (hb.mono hB727.size)
    have ub28 := hb.size
    clear hb
    have uA28 := hBA28.size
    have u728 := hB728.size
    clear rX tX
    go_wp2_with fail
    refine (toPointS_any A _ z _ (h.below hBA28) hs).mono ?_
    rintro e w29 ⟨gJ, ⟨rfl, rJ⟩, hb⟩
    have tJ := rJ.lt
    replace rG := own_below rG hb
    have hBA29 := hBA28.trans (hb.mono hBA28.size)
    have hB729 := hB728.trans (hb.mono hB728.size)
    have ub29 := hb.size
    clear hb
    have uA29 := hBA29.size
    have u729 := hB729.size
    go_wp2_with fail
    refine (CI.out _ _ _ (OwnE.src (enc := encPt) rJ) hs).mono ?_
    rintro e w30 ⟨gH, cH, ⟨rfl, rH⟩, hb⟩
    have tH := rH.lt
    replace rG := own_below rG hb
    replace rJ := own_below rJ hb
    have hBA30 := hBA29.trans (hb.mono hBA29.size)
    have hB730 := hB729.trans (hb.mono hB729.size)
    have ub30 := hb.size
    clear hb
    have uA30 := hBA30.size
    have u730 := hB730.size
    go_wp2_with fail
    refine (eqKnotS_same _ _ _ _ X _ (Rds.own rH) (s7.below hB730).1 (by omega)).mono ?_
    rintro e w31 ⟨rfl, hb⟩
    replace rG := own_below rG hb
    replace rJ := own_below rJ hb
    replace rH := own_below rH hb
    have hBA31 := hBA30.trans (hb.mono hBA30.size)
    have hB731 := hB730.trans (hb.mono hB730.size)
    have ub31 := hb.size
    clear hb
    have uA31 := hBA31.size
    have u731 := hB731.size
    go_wp2_with fail
    refine (heldKnotS_any _ _ X.length 1 _ (Rds.own rG) (by omega) (by omega) (by omega)).mono ?_
    rintro e w32 ⟨rfl, hb⟩
    replace rG := own_below rG hb
    replace rJ := own_below rJ hb
    replace rH := own_below rH hb
    have hBA32 := hBA31.trans (hb.mono hBA31.size)
    have hB732 := hB731.trans (hb.mono hB731.size)
    have ub32 := hb.size
    clear hb
    have uA32 := hBA32.size
    have u732 := hB732.size
    go_wp2
    go_ret
    exact ⟨rfl, hBA32⟩
end Go.Proofs.Ytbmbejomodkabaa
