/-
  The walk of FnExactSetOr.
-/
import Derived.Test.YtoifknepebplnaaSpecOr
import Derived.Test.YtoifknepebplnaaExactInts
namespace Go.Proofs.Ytoifknepebplnaa
open Go.RowKit
set_option linter.unusedVariables false

theorem row_ints {w : World} {a : Option Addr} {len cap : Nat} {zs : List Int} (h : IsRow .i64 w a len cap zs) : ∃ L : List Int, L.length = len ∧ RdI w a L ∧ len ≤ 9223372036854775807 := by
  obtain ⟨h1, h2, h3⟩ := Rds.row h
  have hl : (zs.take len).length = len := by have := h1.1; simpa [ints] using this
  exact ⟨zs.take len, hl, by unfold RdI; rw [hl]; exact h1, by unfold maxLen at h3; omega⟩

theorem core_FnExactSetOr (A A' : Option Addr) (c c' : Nat) (L M : List Int) (w : World) (h : RdI w A L) (h' : RdI w A' M) (hm : L.length ≤ 9223372036854775807) (hm' : M.length ≤ 9223372036854775807) :
    Calls Try.prog 7 #[.slice A L.length c, .slice A' M.length c'] w fun e w' => e = .returned (.bool true) ∧ Below w.heap.size w w' := by
  by_cases hn : L.length ≤ 1048576
  · by_cases hn' : M.length ≤ 1048576
    · obtain ⟨X, hX⟩ : ∃ X, X = orL L M := ⟨_, rfl⟩
      have hXl : X.length ≤ 4194304 := by rw [hX]; exact len_orL L M hn hn'
      have ci := setOr_any (L := L) (M := M)
      have cs := specSetOr_or (L := L) (M := M)
      rw [← hX] at ci cs
      clear hX
      have hB0 : Below w.heap.size w w := Below.refl _ _
      go_enter Try.func7, Try.ntmps7
      go_wp2_with fail
      refine (toIntS_any A c L _ (h.below hB0) hn).mono ?_
      rintro e w1 ⟨b1, d1, ⟨rfl, ra1⟩, hb⟩
      have ta1 := ra1.lt
      have hB1 := hB0.trans (hb.mono hB0.size)
      have s1 := hb.size
      have u1 := hB1.size
      clear hb
      go_wp2_with fail
      refine (toIntS_any A' c' M _ (h'.below hB1) hn').mono ?_
      rintro e w2 ⟨b2, d2, ⟨rfl, ra2⟩, hb⟩
      have ta2 := ra2.lt
      replace ra1 := own_below ra1 hb
      have hB2 := hB1.trans (hb.mono hB1.size)
      have s2 := hb.size
      have u2 := hB2.size
      clear hb
      go_wp2_with fail
      refine (cs _ _ _ _ _ (OwnI.src ra1) (OwnI.src ra2) hn hn').mono ?_
      rintro e w3 ⟨b3, d3, ⟨rfl, rW⟩, hb⟩
      have tW := rW.lt
      replace ra1 := own_below ra1 hb
      replace ra2 := own_below ra2 hb
      have hB3 := hB2.trans (hb.mono hB2.size)
      have s3 := hb.size
      have u3 := hB3.size
      clear hb
      go_wp2_with fail
      refine (toIntS_any A c L _ (h.below hB3) hn).mono ?_
      rintro e w4 ⟨b4, d4, ⟨rfl, rX⟩, hb⟩
      have tX := rX.lt
      replace ra1 := own_below ra1 hb
      replace ra2 := own_below ra2 hb
      replace rW := own_below rW hb
      have hB4 := hB3.trans (hb.mono hB3.size)
      have s4 := hb.size
      have u4 := hB4.size
      clear hb
      go_wp2_with fail
      refine (toIntS_any A' c' M _ (h'.below hB4) hn').mono ?_
      rintro e w5 ⟨b5, d5, ⟨rfl, rY⟩, hb⟩
      have tY := rY.lt
      replace ra1 := own_below ra1 hb
      replace ra2 := own_below ra2 hb
      replace rW := own_below rW hb
      replace rX := own_below rX hb
      have hB5 := hB4.trans (hb.mono hB4.size)
      have s5 := hb.size
      have u5 := hB5.size
      clear hb
      go_wp2_with fail
      refine (ci _ _ _ _ _ (OwnI.src rX) (OwnI.src rY) hn hn').mono ?_
      rintro e w6 ⟨b6, d6, ⟨rfl, rG⟩, hb⟩
      have tG := rG.lt
      replace ra1 := own_below ra1 hb
      replace ra2 := own_below ra2 hb
      replace rW := own_below rW hb
      replace rX := own_below rX hb
      replace rY := own_below rY hb
      have hB6 := hB5.trans (hb.mono hB5.size)
      have s6 := hb.size
      have u6 := hB6.size
      clear hb
      go_wp2_with fail
      refine (eqIntS_same _ _ _ _ X _ (Rds.own rG) (Rds.own rW) (by omega)).mono ?_
      rintro e w7 ⟨rfl, hb⟩
      replace ra1 := own_below ra1 hb
      replace ra2 := own_below ra2 hb
      replace rW := own_below rW hb
      replace rX := own_below rX hb
      replace rY := own_below rY hb
      replace rG := own_below rG hb
      have hB7 := hB6.trans (hb.mono hB6.size)
      have s7 := hb.size
      have u7 := hB7.size
      clear hb
      go_wp2_with fail
      refine (toIntS_any A c L _ (h.below hB7) hn).mono ?_
      rintro e w8 ⟨b8, d8, ⟨rfl, ra3⟩, hb⟩
      have ta3 := ra3.lt
      replace ra1 := own_below ra1 hb
      replace ra2 := own_below ra2 hb
      replace rW := own_below rW hb
      replace rX := own_below rX hb
      replace rY := own_below rY hb
      replace rG := own_below rG hb
      have hB8 := hB7.trans (hb.mono hB7.size)
      have s8 := hb.size
      have u8 := hB8.size
      clear hb
      go_wp2_with fail
      refine (eqIntS_same _ _ _ _ L _ (Rds.own rX) (Rds.own ra3) (by omega)).mono ?_
      rintro e w9 ⟨rfl, hb⟩
      replace ra1 := own_below ra1 hb
      replace ra2 := own_below ra2 hb
      replace rW := own_below rW hb
      replace rX := own_below rX hb
      replace rY := own_below rY hb
      replace rG := own_below rG hb
      replace ra3 := own_below ra3 hb
      have hB9 := hB8.trans (hb.mono hB8.size)
      have s9 := hb.size
      have u9 := hB9.size
      clear hb
      go_wp2_with fail
      refine (toIntS_any A' c' M _ (h'.below hB9) hn').mono ?_
      rintro e w10 ⟨b10, d10, ⟨rfl, ra4⟩, hb⟩
      have ta4 := ra4.lt
      replace ra1 := own_below ra1 hb
      replace ra2 := own_below ra2 hb
      replace rW := own_below rW hb
      replace rX := own_below rX hb
      replace rY := own_below rY hb
      replace rG := own_below rG hb
      replace ra3 := own_below ra3 hb
      have hB10 := hB9.trans (hb.mono hB9.size)
      have s10 := hb.size
      have u10 := hB10.size
      clear hb
      go_wp2_with fail
      refine (eqIntS_same _ _ _ _ M _ (Rds.own rY) (Rds.own ra4) (by omega)).mono ?_
      rintro e w11 ⟨rfl, hb⟩
      replace ra1 := own_below ra1 hb
      replace ra2 := own_below ra2 hb
      replace rW := own_below rW hb
      replace rX := own_below rX hb
      replace rY := own_below rY hb
      replace rG := own_below rG hb
      replace ra3 := own_below ra3 hb
      replace ra4 := own_below ra4 hb
      have hB11 := hB10.trans (hb.mono hB10.size)
      have s11 := hb.size
      have u11 := hB11.size
      clear hb
      go_wp2_with fail
      refine (markIntS_any _ _ L 1 _ _ rX (by omega) (by omega) (by omega)).mono ?_
      rintro e w12 ⟨⟨rfl, rn⟩, hg⟩
      have hb : Below w.heap.size w11 w12 := below_append rX hg (by omega) (by omega)
      replace ra1 := own_kept ra1 hg (fun k k2 e1 e2 => by have := ta1 k e1; have := tX k2 e2; omega)
      replace ra2 := own_kept ra2 hg (fun k k2 e1 e2 => by have := ta2 k e1; have := tX k2 e2; omega)
      replace rW := own_kept rW hg (fun k k2 e1 e2 => by have := tW k e1; have := tX k2 e2; omega)
      replace rY := own_kept rY hg (fun k k2 e1 e2 => by have := tY k e1; have := tX k2 e2; omega)
      replace rG := own_kept rG hg (fun k k2 e1 e2 => by have := tG k e1; have := tX k2 e2; omega)
      replace ra3 := own_kept ra3 hg (fun k k2 e1 e2 => by have := ta3 k e1; have := tX k2 e2; omega)
      replace ra4 := own_kept ra4 hg (fun k k2 e1 e2 => by have := ta4 k e1; have := tX k2 e2; omega)
      replace rX := rn
      clear rn hg
      have hB12 := hB11.trans hb
      have s12 := hb.size
      have u12 := hB12.size
      clear hb
      go_wp2_with fail
      refine (markIntS_any _ _ M (1 + L.length) _ _ rY (by omega) (by omega) (by omega)).mono ?_
      rintro e w13 ⟨⟨rfl, rn⟩, hg⟩
      have hb : Below w.heap.size w12 w13 := below_append rY hg (by omega) (by omega)
      replace ra1 := own_kept ra1 hg (fun k k2 e1 e2 => by have := ta1 k e1; have := tY k2 e2; omega)
      replace ra2 := own_kept ra2 hg (fun k k2 e1 e2 => by have := ta2 k e1; have := tY k2 e2; omega)
      replace rW := own_kept rW hg (fun k k2 e1 e2 => by have := tW k e1; have := tY k2 e2; omega)
      replace rX := own_kept rX hg (fun k k2 e1 e2 => by have := tX k e1; have := tY k2 e2; omega)
      replace rG := own_kept rG hg (fun k k2 e1 e2 => by have := tG k e1; have := tY k2 e2; omega)
      replace ra3 := own_kept ra3 hg (fun k k2 e1 e2 => by have := ta3 k e1; have := tY k2 e2; omega)
      replace ra4 := own_kept ra4 hg (fun k k2 e1 e2 => by have := ta4 k e1; have := tY k2 e2; omega)
      replace rY := rn
      clear rn hg
      have hB13 := hB12.trans hb
      have s13 := hb.size
      have u13 := hB13.size
      clear hb
      go_wp2_with fail
      refine (eqIntS_same _ _ _ _ X _ (Rds.own rG) (Rds.own rW) (by omega)).mono ?_
      rintro e w14 ⟨rfl, hb⟩
      replace ra1 := own_below ra1 hb
      replace ra2 := own_below ra2 hb
      replace rW := own_below rW hb
      replace rG := own_below rG hb
      replace ra3 := own_below ra3 hb
      replace ra4 := own_below ra4 hb
      have hB14 := hB13.trans (hb.mono hB13.size)
      have s14 := hb.size
      have u14 := hB14.size
      clear hb
      go_wp2_with fail
      refine (markIntS_any _ _ X 1 _ _ rG (by omega) (by omega) (by omega)).mono ?_
      rintro e w15 ⟨⟨rfl, rn⟩, hg⟩
      have hb : Below w.heap.size w14 w15 := below_append rG hg (by omega) (by omega)
      replace ra1 := own_kept ra1 hg (fun k k2 e1 e2 => by have := ta1 k e1; have := tG k2 e2; omega)
      replace ra2 := own_kept ra2 hg (fun k k2 e1 e2 => by have := ta2 k e1; have := tG k2 e2; omega)
      replace rW := own_kept rW hg (fun k k2 e1 e2 => by have := tW k e1; have := tG k2 e2; omega)
      replace ra3 := own_kept ra3 hg (fun k k2 e1 e2 => by have := ta3 k e1; have := tG k2 e2; omega)
      replace ra4 := own_kept ra4 hg (fun k k2 e1 e2 => by have := ta4 k e1; have := tG k2 e2; omega)
      replace rG := rn
      clear rn hg
      have hB15 := hB14.trans hb
      have s15 := hb.size
      have u15 := hB15.size
      clear hb
      go_wp2_with fail
      refine (heldIntS_any _ _ X.length 1 _ (Rds.own rG) (by omega) (by omega) (by omega)).mono ?_
      rintro e w16 ⟨rfl, hb⟩
      replace ra1 := own_below ra1 hb
      replace ra2 := own_below ra2 hb
      replace rW := own_below rW hb
      replace rG := own_below rG hb
      replace ra3 := own_below ra3 hb
      replace ra4 := own_below ra4 hb
      have hB16 := hB15.trans (hb.mono hB15.size)
      have s16 := hb.size
      have u16 := hB16.size
      clear hb
      go_wp2_with fail
      refine (toIntS_any A c L _ (h.below hB16) hn).mono ?_
      rintro e w17 ⟨b17, d17, ⟨rfl, ra5⟩, hb⟩
      have ta5 := ra5.lt
      replace ra1 := own_below ra1 hb
      replace ra2 := own_below ra2 hb
      replace rW := own_below rW hb
      replace rG := own_below rG hb
      replace ra3 := own_below ra3 hb
      replace ra4 := own_below ra4 hb
      have hB17 := hB16.trans (hb.mono hB16.size)
      have s17 := hb.size
      have u17 := hB17.size
      clear hb
      go_wp2_with fail
      refine (toIntS_any A' c' M _ (h'.below hB17) hn').mono ?_
      rintro e w18 ⟨b18, d18, ⟨rfl, ra6⟩, hb⟩
      have ta6 := ra6.lt
      replace ra1 := own_below ra1 hb
      replace ra2 := own_below ra2 hb
      replace rW := own_below rW hb
      replace rG := own_below rG hb
      replace ra3 := own_below ra3 hb
      replace ra4 := own_below ra4 hb
      replace ra5 := own_below ra5 hb
      have hB18 := hB17.trans (hb.mono hB17.size)
      have s18 := hb.size
      have u18 := hB18.size
      clear hb
      go_wp2_with fail
      refine (ci _ _ _ _ _ (OwnI.src ra5) (OwnI.src ra6) hn hn').mono ?_
      rintro e w19 ⟨b19, d19, ⟨rfl, rH⟩, hb⟩
      have tH := rH.lt
      replace ra1 := own_below ra1 hb
      replace ra2 := own_below ra2 hb
      replace rW := own_below rW hb
      replace rG := own_below rG hb
      replace ra3 := own_below ra3 hb
      replace ra4 := own_below ra4 hb
      replace ra5 := own_below ra5 hb
      replace ra6 := own_below ra6 hb
      have hB19 := hB18.trans (hb.mono hB18.size)
      have s19 := hb.size
      have u19 := hB19.size
      clear hb
      go_wp2_with fail
      refine (eqIntS_same _ _ _ _ X _ (Rds.own rH) (Rds.own rW) (by omega)).mono ?_
      rintro e w20 ⟨rfl, hb⟩
      replace ra1 := own_below ra1 hb
      replace ra2 := own_below ra2 hb
      replace rW := own_below rW hb
      replace rG := own_below rG hb
      replace ra3 := own_below ra3 hb
      replace ra4 := own_below ra4 hb
      replace ra5 := own_below ra5 hb
      replace ra6 := own_below ra6 hb
      replace rH := own_below rH hb
      have hB20 := hB19.trans (hb.mono hB19.size)
      have s20 := hb.size
      have u20 := hB20.size
      clear hb
      go_wp2_with fail
      refine (heldIntS_any _ _ X.length 1 _ (Rds.own rG) (by omega) (by omega) (by omega)).mono ?_
      rintro e w21 ⟨rfl, hb⟩
      replace ra1 := own_below ra1 hb
      replace ra2 := own_below ra2 hb
      replace rW := own_below rW hb
      replace rG := own_below rG hb
      replace ra3 := own_below ra3 hb
      replace ra4 := own_below ra4 hb
      replace ra5 := own_below ra5 hb
      replace ra6 := own_below ra6 hb
      replace rH := own_below rH hb
      have hB21 := hB20.trans (hb.mono hB20.size)
      have s21 := hb.size
      have u21 := hB21.size
      clear hb
      go_wp2
      go_ret
      exact ⟨rfl, hB21⟩
    · go_enter Try.func7, Try.ntmps7
      go_wp2
      go_ret
      exact ⟨rfl, Below.refl _ _⟩
  · go_enter Try.func7, Try.ntmps7
    go_wp2
    go_ret
    exact ⟨rfl, Below.refl _ _⟩

theorem walk_FnExactSetOr (a0 : Option Addr) (len0 cap0 : Nat) (zs0 : List Int) (a1 : Option Addr) (len1 cap1 : Nat) (zs1 : List Int) (w : World) (h0 : IsRow .i64 w a0 len0 cap0 zs0) (h1 : IsRow .i64 w a1 len1 cap1 zs1) :
    Calls Try.prog 7 #[.slice a0 len0 cap0, .slice a1 len1 cap1] w fun e w' => e = .returned (.bool true) ∧ Below w.heap.size w w' := by
  obtain ⟨L, rfl, hL, hm⟩ := row_ints h0
  obtain ⟨M, rfl, hM, hm'⟩ := row_ints h1
  exact core_FnExactSetOr _ _ _ _ L M w hL hM hm hm'
end Go.Proofs.Ytoifknepebplnaa
