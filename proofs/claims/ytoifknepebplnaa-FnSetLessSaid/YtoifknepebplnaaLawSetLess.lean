/-
  The walk of FnSetLess.
-/
import Derived.Test.YtoifknepebplnaaDrawInts
import Derived.Test.YtoifknepebplnaaSetLaw
import Derived.Test.YtoifknepebplnaaOrMore
namespace Go.Proofs.Ytoifknepebplnaa
open Go.RowKit
set_option linter.unusedVariables false

theorem foInts_same (A A' : Option Addr) (c c' : Nat) (L : List Int) (w : World) (h : RdI w A L) (h' : RdI w A' L) (hn : L.length ≤ 4194304) :
    Calls Try.prog 25 #[.slice A L.length c, .slice A' L.length c'] w fun e w' => e = .returned (.bool true) ∧ Below w.heap.size w w' := by
  refine (foInts_any A A' c c' L L w h h' (by omega) (by omega)).mono ?_
  rintro e w' ⟨rfl, q, rfl⟩
  exact ⟨ret_bool (by simp), below_of_drewN⟩
theorem upOk_b (A : Option Addr) (c : Nat) (L : List Int) (w : World) (h : RdI w A L) (hn : L.length ≤ 4194304) :
    Calls Try.prog 27 #[.slice A L.length c] w fun e w' => e = .returned (.bool (upB L)) ∧ Below w.heap.size w w' := by
  refine (upOk_any A c L w h (by omega)).mono ?_
  rintro e w' ⟨rfl, q, rfl⟩
  exact ⟨rfl, below_of_drewN⟩

set_option maxHeartbeats 1000000 in
theorem walk_FnSetLess (a0 : Option Addr) (len cap : Nat) (zs : List Int) (w : World) (hrow : IsRow .u8 w a0 len cap zs) :
    Calls Try.prog 9 #[.slice a0 len cap] w fun e w' => e = .returned (.bool true) ∧ Below w.heap.size w w' := by
  obtain ⟨hc1, hc2, _⟩ := code_of_row hrow
  by_cases hbig : (1048576 : Int) < (len : Int)
  · go_enter Try.func9, Try.ntmps9
    go_wp2
    go_ret
    exact ⟨rfl, Below.refl _ _⟩
  · go_enter Try.func9, Try.ntmps9
    go_wp2_with fail
    refine (drawSetLess_any a0 len cap zs _ hrow).mono ?_
    rintro e w0 ⟨B, d, L, B', d', M, ⟨rfl, hn, hn', hL, hM⟩, hB0⟩
    clear hrow
    obtain ⟨X, hX⟩ : ∃ X, X = lessL L M := ⟨_, rfl⟩
    have hXl : X.length ≤ 4194304 := by rw [hX]; exact len_lessL L M (by omega) (by omega)
    have ci := setLess_any (L := L) (M := M)
    have cs := specSetLess_any (L := L) (M := M)
    rw [← hX] at ci cs
    have HX : Hid (X = lessL L M) := hX
    clear hX
    go_wp2_with fail
    refine (ci _ _ _ _ _ hL.1 hM.1 (by omega) (by omega)).mono ?_
    rintro e w1 ⟨b1, d1, ⟨rfl, rX⟩, hb⟩
    replace hL := Src.below hL hb
    replace hM := Src.below hM hb
    have hB1 := hB0.trans (hb.mono hB0.size)
    have s1 := hb.size
    clear hb
    go_wp2_with fail
    refine (cs _ _ _ _ _ hL.1 hM.1 (by omega) (by omega)).mono ?_
    rintro e w2 ⟨b2, d2, ⟨rfl, rS⟩, hb⟩
    replace rX := own_below rX hb
    replace hL := Src.below hL hb
    replace hM := Src.below hM hb
    have hB2 := hB1.trans (hb.mono hB1.size)
    have s2 := hb.size
    clear hb
    go_wp2_with fail
    refine (foInts_same _ _ _ _ X _ (Rds.own rX) (Rds.own rS) (by omega)).mono ?_
    rintro e w3 ⟨rfl, hb⟩
    replace rX := own_below rX hb
    replace rS := own_below rS hb
    replace hL := Src.below hL hb
    replace hM := Src.below hM hb
    have hB3 := hB2.trans (hb.mono hB2.size)
    have s3 := hb.size
    clear hb
    go_wp2_with fail
    refine (upOk_b _ _ L _ hL.1 (by omega)).mono ?_
    rintro e w4 ⟨rfl, hb⟩
    replace rX := own_below rX hb
    replace rS := own_below rS hb
    replace hL := Src.below hL hb
    replace hM := Src.below hM hb
    have hB4 := hB3.trans (hb.mono hB3.size)
    have s4 := hb.size
    clear hb
    cases hu1 : upB L with
    | false =>
      go_wp2_with fail
      refine (cs _ _ _ _ _ hL.1 hM.1 (by omega) (by omega)).mono ?_
      rintro e w5 ⟨b5, d5, ⟨rfl, rT⟩, hb⟩
      replace rX := own_below rX hb
      replace rS := own_below rS hb
      replace hL := Src.below hL hb
      replace hM := Src.below hM hb
      have hB5 := hB4.trans (hb.mono hB4.size)
      have s5 := hb.size
      clear hb
      go_wp2_with fail
      refine (foInts_same _ _ _ _ X _ (Rds.own rX) (Rds.own rT) (by omega)).mono ?_
      rintro e w6 ⟨rfl, hb⟩
      replace rX := own_below rX hb
      replace rS := own_below rS hb
      replace rT := own_below rT hb
      replace hL := Src.below hL hb
      replace hM := Src.below hM hb
      have hB6 := hB5.trans (hb.mono hB5.size)
      have s6 := hb.size
      clear hb
      go_wp2
      go_ret
      exact ⟨rfl, hB6⟩
    | true =>
      go_wp2_with fail
      refine (upOk_b _ _ M _ hM.1 (by omega)).mono ?_
      rintro e w5 ⟨rfl, hb⟩
      replace rX := own_below rX hb
      replace rS := own_below rS hb
      replace hL := Src.below hL hb
      replace hM := Src.below hM hb
      have hB5 := hB4.trans (hb.mono hB4.size)
      have s5 := hb.size
      clear hb
      cases hu2 : upB M with
      | false =>
        go_wp2_with fail
        refine (cs _ _ _ _ _ hL.1 hM.1 (by omega) (by omega)).mono ?_
        rintro e w6 ⟨b6, d6, ⟨rfl, rT⟩, hb⟩
        replace rX := own_below rX hb
        replace rS := own_below rS hb
        replace hL := Src.below hL hb
        replace hM := Src.below hM hb
        have hB6 := hB5.trans (hb.mono hB5.size)
        have s6 := hb.size
        clear hb
        go_wp2_with fail
        refine (foInts_same _ _ _ _ X _ (Rds.own rX) (Rds.own rT) (by omega)).mono ?_
        rintro e w7 ⟨rfl, hb⟩
        replace rX := own_below rX hb
        replace rS := own_below rS hb
        replace rT := own_below rT hb
        replace hL := Src.below hL hb
        replace hM := Src.below hM hb
        have hB7 := hB6.trans (hb.mono hB6.size)
        have s7 := hb.size
        clear hb
        go_wp2
        go_ret
        exact ⟨rfl, hB7⟩
      | true =>
        have cA := setAnd_any (L := L) (M := M)
        have cA2 := setAnd_any (L := X) (M := M)
        have cO := setOr_any (L := X) (M := andL L M)
        have cL := setLess_any (L := L) (M := L)
        have hNl : (andL L M).length ≤ 61 := Nat.le_trans (and_len_law L M) hn
        have hX61 : X.length ≤ 61 := by rw [HX.out, lessL_yes hu1 hu2]; exact Nat.le_trans (List.length_filter_le _ _) hn
        have eO : orL X (andL L M) = L := by rw [HX.out]; exact less_or_law hu1 hu2
        have eA : andL X M = [] := by rw [HX.out]; exact List.length_eq_zero_iff.1 and_less_law
        have eL : lessL L L = [] := List.length_eq_zero_iff.1 less_self_law
        rw [eO] at cO
        rw [eA] at cA2
        rw [eL] at cL
        generalize andL L M = N at cA cO hNl
        clear eO eA eL ci cs HX hu1 hu2
        clear rS
        go_wp2_with fail
        refine (cA _ _ _ _ _ hL.1 hM.1 (by omega) (by omega)).mono ?_
        rintro e w6 ⟨b6, d6, ⟨rfl, rN⟩, hb⟩
        replace rX := own_below rX hb
        replace hL := Src.below hL hb
        replace hM := Src.below hM hb
        have hB6 := hB5.trans (hb.mono hB5.size)
        have s6 := hb.size
        clear hb
        go_wp2_with fail
        refine (cO _ _ _ _ _ (OwnI.src rX) (OwnI.src rN) (by omega) (by omega)).mono ?_
        rintro e w7 ⟨b7, d7, ⟨rfl, rO⟩, hb⟩
        replace rX := own_below rX hb
        replace rN := own_below rN hb
        replace hL := Src.below hL hb
        replace hM := Src.below hM hb
        have hB7 := hB6.trans (hb.mono hB6.size)
        have s7 := hb.size
        clear hb
        go_wp2_with fail
        refine (foInts_same _ _ _ _ L _ (Rds.own rO) hL.1 (by omega)).mono ?_
        rintro e w8 ⟨rfl, hb⟩
        replace rX := own_below rX hb
        replace rN := own_below rN hb
        replace rO := own_below rO hb
        replace hL := Src.below hL hb
        replace hM := Src.below hM hb
        have hB8 := hB7.trans (hb.mono hB7.size)
        have s8 := hb.size
        clear hb
        go_wp2_with fail
        refine (cA2 _ _ _ _ _ (Rds.own rX) hM.1 (by omega) (by omega)).mono ?_
        rintro e w9 ⟨b9, d9, ⟨rfl, rP⟩, hb⟩
        replace rX := own_below rX hb
        replace rN := own_below rN hb
        replace rO := own_below rO hb
        replace hL := Src.below hL hb
        replace hM := Src.below hM hb
        have hB9 := hB8.trans (hb.mono hB8.size)
        have s9 := hb.size
        clear hb
        go_wp2_with fail
        refine (cL _ _ _ _ _ hL.1 hL.1 (by omega) (by omega)).mono ?_
        rintro e w10 ⟨b10, d10, ⟨rfl, rR⟩, hb⟩
        replace rX := own_below rX hb
        replace rN := own_below rN hb
        replace rO := own_below rO hb
        replace rP := own_below rP hb
        replace hL := Src.below hL hb
        replace hM := Src.below hM hb
        have hB10 := hB9.trans (hb.mono hB9.size)
        have s10 := hb.size
        clear hb
        go_wp2
        go_ret
        exact ⟨rfl, hB10⟩
end Go.Proofs.Ytoifknepebplnaa
