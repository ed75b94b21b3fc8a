/-
  The walk of FnExactNearWidth.
-/
import Derived.Test.YtoifknepebplnaaNearWidth
import Derived.Test.YtoifknepebplnaaExactSS
namespace Go.Proofs.Ytoifknepebplnaa
open Go.RowKit
set_option linter.unusedVariables false

theorem core_FnExactNearWidth (A : Option Addr) (c : Nat) (Ls : List (List Int)) (w : World) (h : RdSS w A Ls) (hl : Ls.length ≤ 9223372036854775807) (hL : ∀ L ∈ Ls, L.length ≤ 9223372036854775807) :
    Calls Try.prog 14 #[.slice A Ls.length c] w fun e w' => e = .returned (.bool true) ∧ Below w.heap.size w w' := by
  have hsz := szIntSS_any A c Ls w h hl hL
  by_cases hn : total Ls ≤ 1048576
  · obtain ⟨X, hX⟩ : ∃ X, X = widthI Ls := ⟨_, rfl⟩
    have ci := fun A c w h => nearWidth_any A c Ls w h hn
    have cs := fun A c w h => specNearWidth_any A c Ls w h hn
    rw [← hX] at ci cs
    have CI := Lib.hid ci
    have CS := Lib.hid cs
    have HL := Lib.hid hL
    have HSZ := Lib.hid hsz
    clear hX ci cs hL hsz
    have hB0 : Below w.heap.size w w := Below.refl _ _
    go_enter Try.func14, Try.ntmps14
    go_wp2_with fail
    refine (HSZ.out).mono ?_
    rintro e w0 ⟨r, ⟨rfl, hr1, hr2⟩, rfl⟩
    clear hr2 HSZ
    by_cases hneg : r < 0
    · go_wp2
      go_ret
      exact ⟨rfl, Below.refl _ _⟩
    · go_wp2_with fail
      refine (toIntSS_any A c Ls _ (h.below hB0) hn).mono ?_
      rintro e w1 ⟨b1, d1, ⟨rfl, qa1, va1, ma1⟩, hb⟩
      have hB1 := hB0.trans (hb.mono hB0.size)
      have s1 := hb.size
      have u1 := hB1.size
      clear hb
      clear va1
      go_wp2_with fail
      refine (CS.out _ _ _ qa1).mono ?_
      rintro e w2 ⟨rfl, hb⟩
      replace qa1 := qa1.below hb
      have hB2 := hB1.trans (hb.mono hB1.size)
      have s2 := hb.size
      have u2 := hB2.size
      clear hb
      clear qa1
      go_wp2_with fail
      refine (toIntSS_any A c Ls _ (h.below hB2) hn).mono ?_
      rintro e w3 ⟨b3, d3, ⟨rfl, qX, vX, mX⟩, hb⟩
      have hB3 := hB2.trans (hb.mono hB2.size)
      have s3 := hb.size
      have u3 := hB3.size
      clear hb
      clear vX
      go_wp2_with fail
      refine (CI.out _ _ _ qX).mono ?_
      rintro e w4 ⟨rfl, hb⟩
      replace qX := qX.below hb
      have hB4 := hB3.trans (hb.mono hB3.size)
      have s4 := hb.size
      have u4 := hB4.size
      clear hb
      go_wp2_with fail
      refine (toIntSS_any A c Ls _ (h.below hB4) hn).mono ?_
      rintro e w5 ⟨b5, d5, ⟨rfl, qa2, va2, ma2⟩, hb⟩
      replace qX := qX.below hb
      have hB5 := hB4.trans (hb.mono hB4.size)
      have s5 := hb.size
      have u5 := hB5.size
      clear hb
      clear va2
      go_wp2_with fail
      refine (eqIntSS_b _ _ _ _ Ls _ qX qa2 hn).mono ?_
      rintro e w6 ⟨rfl, hb⟩
      replace qX := qX.below hb
      replace qa2 := qa2.below hb
      have hB6 := hB5.trans (hb.mono hB5.size)
      have s6 := hb.size
      have u6 := hB6.size
      clear hb
      go_wp2
      go_ret
      exact ⟨rfl, hB6⟩
  · have HL := Lib.hid hL
    have HSZ := Lib.hid hsz
    clear hL hsz
    go_enter Try.func14, Try.ntmps14
    go_wp2_with fail
    refine (HSZ.out).mono ?_
    rintro e w0 ⟨r, ⟨rfl, hr1, hr2⟩, rfl⟩
    have hneg : r < 0 := by omega
    go_wp2
    go_ret
    exact ⟨rfl, Below.refl _ _⟩

theorem walk_FnExactNearWidth (a0 : Option Addr) (len0 cap0 : Nat) (Ls : List (List Int)) (w : World) (hlen : Ls.length = len0) (h : RdSS w a0 Ls) (hl : len0 ≤ 9223372036854775807) (hL : ∀ L ∈ Ls, L.length ≤ 9223372036854775807) :
    Calls Try.prog 14 #[.slice a0 len0 cap0] w fun e w' => e = .returned (.bool true) ∧ Below w.heap.size w w' := by
  subst hlen
  exact core_FnExactNearWidth a0 cap0 Ls w h hl hL
end Go.Proofs.Ytoifknepebplnaa
