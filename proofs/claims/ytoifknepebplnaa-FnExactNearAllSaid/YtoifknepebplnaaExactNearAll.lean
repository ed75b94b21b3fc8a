/-
  The walk of FnExactNearAll.
-/
import Derived.Test.YtoifknepebplnaaNearLaw
import Derived.Test.YtoifknepebplnaaExactSpans
namespace Go.Proofs.Ytoifknepebplnaa
open Go.RowKit
set_option linter.unusedVariables false

theorem core_FnExactNearAll (A : Option Addr) (c : Nat) (Ls : List (List Int)) (w : World) (h : RdSS w A Ls) (hl : Ls.length ≤ 9223372036854775807) (hL : ∀ L ∈ Ls, L.length ≤ 9223372036854775807) :
    Calls Try.prog 16 #[.slice A Ls.length c] w fun e w' => e = .returned (.bool true) ∧ Below w.heap.size w w' := by
  have hsz := szIntSS_any A c Ls w h hl hL
  by_cases hn : total Ls ≤ 1048576
  · obtain ⟨X, hX⟩ : ∃ X, X = nearI Ls := ⟨_, rfl⟩
    have hXl : X.length ≤ 4194304 := by rw [hX]; exact Nat.le_trans (near_len Ls hn) (by omega)
    have ci := fun A c w h => nearAll_any A c Ls w h hn
    have cs := fun A c w h => specNearAll_near A c Ls w h hn
    rw [← hX] at ci cs
    have CI := Lib.hid ci
    have CS := Lib.hid cs
    have HL := Lib.hid hL
    have HSZ := Lib.hid hsz
    clear hX ci cs hL hsz
    have hB0 : Below w.heap.size w w := Below.refl _ _
    go_enter Try.func16, Try.ntmps16
    go_wp2_with fail
    refine (HSZ.out).mono ?_
    rintro e w0 ⟨r, ⟨rfl, hr1, hr2⟩, rfl⟩
    clear hr2 HSZ
    by_cases hneg : r < 0
    · go_wp2
      go_ret
      exact ⟨rfl, Below.refl _ _⟩
    · go_wp2_with fail
      refine (toIntSS_any A c Ls _ (h.below hB0) hn).mono ?_
      rintro e w1 ⟨b1, d1, ⟨rfl, qa1, va1, ma1⟩, hb⟩
      have hB1 := hB0.trans (hb.mono hB0.size)
      have s1 := hb.size
      have u1 := hB1.size
      clear hb
      clear va1
      go_wp2_with fail
      refine (CS.out _ _ _ qa1).mono ?_
      rintro e w2 ⟨b2, d2, ⟨rfl, rW⟩, hb⟩
      have tW := rW.lt
      replace qa1 := qa1.below hb
      have hB2 := hB1.trans (hb.mono hB1.size)
      have s2 := hb.size
      have u2 := hB2.size
      clear hb
      clear qa1
      go_wp2_with fail
      refine (toIntSS_any A c Ls _ (h.below hB2) hn).mono ?_
      rintro e w3 ⟨b3, d3, ⟨rfl, qX, vX, mX⟩, hb⟩
      replace rW := own_below rW hb
      have hB3 := hB2.trans (hb.mono hB2.size)
      have s3 := hb.size
      have u3 := hB3.size
      clear hb
      go_wp2_with fail
      refine (CI.out _ _ _ qX).mono ?_
      rintro e w4 ⟨b4, d4, ⟨rfl, rG⟩, hb⟩
      have tG := rG.lt
      replace rW := own_below rW hb
      replace qX := qX.below hb
      replace vX := vX.below hb
      have hB4 := hB3.trans (hb.mono hB3.size)
      have s4 := hb.size
      have u4 := hB4.size
      clear hb
      go_wp2_with fail
      refine (eqSpanS_same _ _ _ _ X _ (Rds.own rG) (Rds.own rW) (by omega)).mono ?_
      rintro e w5 ⟨rfl, hb⟩
      replace rW := own_below rW hb
      replace rG := own_below rG hb
      replace qX := qX.below hb
      replace vX := vX.below hb
      have hB5 := hB4.trans (hb.mono hB4.size)
      have s5 := hb.size
      have u5 := hB5.size
      clear hb
      go_wp2_with fail
      refine (toIntSS_any A c Ls _ (h.below hB5) hn).mono ?_
      rintro e w6 ⟨b6, d6, ⟨rfl, qa2, va2, ma2⟩, hb⟩
      replace rW := own_below rW hb
      replace rG := own_below rG hb
      replace qX := qX.below hb
      replace vX := vX.below hb
      have hB6 := hB5.trans (hb.mono hB5.size)
      have s6 := hb.size
      have u6 := hB6.size
      clear hb
      clear va2
      go_wp2_with fail
      refine (eqIntSS_b _ _ _ _ Ls _ qX qa2 hn).mono ?_
      rintro e w7 ⟨rfl, hb⟩
      replace rW := own_below rW hb
      replace rG := own_below rG hb
      replace qX := qX.below hb
      replace qa2 := qa2.below hb
      replace vX := vX.below hb
      have hB7 := hB6.trans (hb.mono hB6.size)
      have s7 := hb.size
      have u7 := hB7.size
      clear hb
      clear qa2 qX
      go_wp2_with fail
      refine (markIntSS_any w2.heap.size w3.heap.size _ _ Ls _ vX hn).mono ?_
      rintro e w8 ⟨k8, ⟨rfl, hk8⟩, hz⟩
      have hb : Below w.heap.size w7 w8 := hz.below (by omega) (by omega)
      replace rG := own_zone rG hz (fun k e => by have := tG k e; omega)
      replace rW := own_zone rW hz (fun k e => by have := tW k e; omega)
      have hB8 := hB7.trans hb
      have s8 := hb.size
      have u8 := hB8.size
      clear hb hz
      go_wp2_with fail
      refine (eqSpanS_same _ _ _ _ X _ (Rds.own rG) (Rds.own rW) (by omega)).mono ?_
      rintro e w9 ⟨rfl, hb⟩
      replace rW := own_below rW hb
      replace rG := own_below rG hb
      have hB9 := hB8.trans (hb.mono hB8.size)
      have s9 := hb.size
      have u9 := hB9.size
      clear hb
      go_wp2_with fail
      refine (markSpanS_any _ _ _ X 1 _ rG (by omega) (by omega) (by omega)).mono ?_
      rintro e w10 ⟨⟨rfl, rn⟩, hg⟩
      have hb : Below w.heap.size w9 w10 := below_append rG hg (by omega) (by omega)
      replace rW := own_kept rW hg (fun k k2 e1 e2 => by have := tW k e1; have := tG k2 e2; omega)
      replace rG := rn
      clear rn hg
      have hB10 := hB9.trans hb
      have s10 := hb.size
      have u10 := hB10.size
      clear hb
      go_wp2_with fail
      refine (heldSpanS_any _ _ X.length 1 _ (Rds.own rG) (by omega) (by omega) (by omega)).mono ?_
      rintro e w11 ⟨rfl, hb⟩
      replace rW := own_below rW hb
      replace rG := own_below rG hb
      have hB11 := hB10.trans (hb.mono hB10.size)
      have s11 := hb.size
      have u11 := hB11.size
      clear hb
      go_wp2_with fail
      refine (toIntSS_any A c Ls _ (h.below hB11) hn).mono ?_
      rintro e w12 ⟨b12, d12, ⟨rfl, qa3, va3, ma3⟩, hb⟩
      replace rW := own_below rW hb
      replace rG := own_below rG hb
      have hB12 := hB11.trans (hb.mono hB11.size)
      have s12 := hb.size
      have u12 := hB12.size
      clear hb
      clear va3
      go_wp2_with fail
      refine (CI.out _ _ _ qa3).mono ?_
      rintro e w13 ⟨b13, d13, ⟨rfl, rH⟩, hb⟩
      have tH := rH.lt
      replace rW := own_below rW hb
      replace rG := own_below rG hb
      replace qa3 := qa3.below hb
      have hB13 := hB12.trans (hb.mono hB12.size)
      have s13 := hb.size
      have u13 := hB13.size
      clear hb
      go_wp2_with fail
      refine (eqSpanS_same _ _ _ _ X _ (Rds.own rH) (Rds.own rW) (by omega)).mono ?_
      rintro e w14 ⟨rfl, hb⟩
      replace rW := own_below rW hb
      replace rG := own_below rG hb
      replace rH := own_below rH hb
      replace qa3 := qa3.below hb
      have hB14 := hB13.trans (hb.mono hB13.size)
      have s14 := hb.size
      have u14 := hB14.size
      clear hb
      go_wp2_with fail
      refine (heldSpanS_any _ _ X.length 1 _ (Rds.own rG) (by omega) (by omega) (by omega)).mono ?_
      rintro e w15 ⟨rfl, hb⟩
      replace rW := own_below rW hb
      replace rG := own_below rG hb
      replace rH := own_below rH hb
      replace qa3 := qa3.below hb
      have hB15 := hB14.trans (hb.mono hB14.size)
      have s15 := hb.size
      have u15 := hB15.size
      clear hb
      go_wp2
      go_ret
      exact ⟨rfl, hB15⟩
  · have HL := Lib.hid hL
    have HSZ := Lib.hid hsz
    clear hL hsz
    go_enter Try.func16, Try.ntmps16
    go_wp2_with fail
    refine (HSZ.out).mono ?_
    rintro e w0 ⟨r, ⟨rfl, hr1, hr2⟩, rfl⟩
    have hneg : r < 0 := by omega
    go_wp2
    go_ret
    exact ⟨rfl, Below.refl _ _⟩

theorem walk_FnExactNearAll (a0 : Option Addr) (len0 cap0 : Nat) (Ls : List (List Int)) (w : World) (hlen : Ls.length = len0) (h : RdSS w a0 Ls) (hl : len0 ≤ 9223372036854775807) (hL : ∀ L ∈ Ls, L.length ≤ 9223372036854775807) :
    Calls Try.prog 16 #[.slice a0 len0 cap0] w fun e w' => e = .returned (.bool true) ∧ Below w.heap.size w w' := by
  subst hlen
  exact core_FnExactNearAll a0 cap0 Ls w h hl hL
end Go.Proofs.Ytoifknepebplnaa
