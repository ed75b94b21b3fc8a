/-
  The walk of FnPhraseNear.
-/
import Derived.Test.YtoifknepebplnaaFoNear
namespace Go.Proofs.Ytoifknepebplnaa
open Go.RowKit
set_option linter.unusedVariables false

set_option maxHeartbeats 800000 in
theorem walk_FnPhraseNear (a0 : Option Addr) (len cap : Nat) (zs : List Int) (w : World) (hrow : IsRow .u8 w a0 len cap zs) :
    Calls Try.prog 11 #[.slice a0 len cap] w fun e w' => e = .returned (.bool true) ∧ Below w.heap.size w w' := by
  obtain ⟨hc1, hc2, _⟩ := code_of_row hrow
  by_cases hbig : (1048576 : Int) < (len : Int)
  · go_enter Try.func11, Try.ntmps11
    go_wp2
    go_ret
    exact ⟨rfl, Below.refl _ _⟩
  · go_enter Try.func11, Try.ntmps11
    go_wp2_with fail
    refine (drawPhraseOf_any a0 len cap zs _ hrow).mono ?_
    rintro e w0 ⟨B, d, Ls, slop, ⟨rfl, hl1, hl5, hL4, hm0, hm6, hS, hcd, hcd2⟩, hB0⟩
    clear hrow
    have hn : total Ls ≤ 1048576 := by have := total_le 4 hL4; omega
    obtain ⟨X, hX⟩ : ∃ X, X = phrI Ls slop := ⟨_, rfl⟩
    have hXl : X.length ≤ 1048576 := by rw [hX]; exact phrI_len Ls slop hn
    have ci := fun A c w h => phraseOf_any A c Ls slop w h hn
    have cs := fun A c w h => specPhraseOf_phr A c Ls slop w h hn
    rw [← hX] at ci cs
    have CI := Lib.hid ci
    have CS := Lib.hid cs
    have HX := Lib.hid hX
    clear hX ci cs hL4
    go_wp2_with fail
    refine (CI.out _ _ _ hS hcd hcd2).mono ?_
    rintro e w1 ⟨b1, d1, ⟨rfl, rX⟩, hb⟩
    replace hS := hS.below hb
    have hB1 := hB0.trans (hb.mono hB0.size)
    clear hb hB0
    go_wp2_with fail
    refine (CS.out _ _ _ hS hcd hcd2).mono ?_
    rintro e w2 ⟨b2, d2, ⟨rfl, rS⟩, hb⟩
    replace hS := hS.below hb
    replace rX := own_below rX hb
    have hB2 := hB1.trans (hb.mono hB1.size)
    clear hb hB1
    go_wp2_with fail
    refine (foInts_same _ _ _ _ X _ (Rds.own rX) (Rds.own rS) (by omega)).mono ?_
    rintro e w3 ⟨rfl, hb⟩
    replace hS := hS.below hb
    replace rX := own_below rX hb
    have hB3 := hB2.trans (hb.mono hB2.size)
    clear hb hB2 rS
    by_cases hz : X.length = 0
    · have hz1 : ((X.length : Int) == 0) = true := by simp [hz]
      have hz2 : X.length ≤ 0 := by omega
      clear hz
      go_wp2_with fail
      refine (CS.out _ _ _ hS hcd hcd2).mono ?_
      rintro e w4 ⟨b4, d4, ⟨rfl, rT⟩, hb⟩
      replace rX := own_below rX hb
      have hB4 := hB3.trans (hb.mono hB3.size)
      clear hb hB3
      go_wp2_with fail
      refine (foInts_same _ _ _ _ X _ (Rds.own rX) (Rds.own rT) (by omega)).mono ?_
      rintro e w5 ⟨rfl, hb⟩
      have hB5 := hB4.trans (hb.mono hB4.size)
      go_wp2
      go_ret
      exact ⟨rfl, hB5⟩
    · have hz1 : ((X.length : Int) == 0) = false := beq_eq_false_iff_ne.2 (by omega)
      have hw := width_phr (Ls := Ls) (slop := slop) (fun e => hz (by rw [HX.out, e]; rfl))
      have cW := fun A c w h => nearWidth_any A c Ls w h hn
      obtain ⟨n, hnn⟩ : ∃ n, n = widthI Ls := ⟨_, rfl⟩
      rw [← hnn] at hw cW
      have CW := Lib.hid cW
      obtain ⟨hw1, hw2⟩ := hw
      clear hnn cW HX CI CS hz
      go_wp2_with fail
      refine (CW.out _ _ _ hS).mono ?_
      rintro e w4 ⟨rfl, hb⟩
      have hB4 := hB3.trans (hb.mono hB3.size)
      clear hb hB3
      go_wp2
      go_ret
      exact ⟨rfl, hB4⟩
end Go.Proofs.Ytoifknepebplnaa
