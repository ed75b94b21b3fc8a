/-
  The walk of FnSetAnd.
-/
import Derived.Test.YtoifknepebplnaaDrawInts
import Derived.Test.YtoifknepebplnaaSetLaw
namespace Go.Proofs.Ytoifknepebplnaa
open Go.RowKit
set_option linter.unusedVariables false

theorem below_of_drewN {w : World} {n : Nat} : Below w.heap.size w (w.drewN n) := ⟨rfl, rfl, rfl, Nat.le_refl _, fun _ _ => rfl⟩
theorem foInts_same (A A' : Option Addr) (c c' : Nat) (L : List Int) (w : World) (h : RdI w A L) (h' : RdI w A' L) (hn : L.length ≤ 4194304) :
    Calls Try.prog 25 #[.slice A L.length c, .slice A' L.length c'] w fun e w' => e = .returned (.bool true) ∧ Below w.heap.size w w' := by
  refine (foInts_any A A' c c' L L w h h' (by omega) (by omega)).mono ?_
  rintro e w' ⟨rfl, q, rfl⟩
  exact ⟨ret_bool (by simp), below_of_drewN⟩
theorem upOk_b (A : Option Addr) (c : Nat) (L : List Int) (w : World) (h : RdI w A L) (hn : L.length ≤ 4194304) :
    Calls Try.prog 27 #[.slice A L.length c] w fun e w' => e = .returned (.bool (upB L)) ∧ Below w.heap.size w w' := by
  refine (upOk_any A c L w h (by omega)).mono ?_
  rintro e w' ⟨rfl, q, rfl⟩
  exact ⟨rfl, below_of_drewN⟩

theorem walk_FnSetAnd (a0 : Option Addr) (len cap : Nat) (zs : List Int) (w : World) (hrow : IsRow .u8 w a0 len cap zs) :
    Calls Try.prog 4 #[.slice a0 len cap] w fun e w' => e = .returned (.bool true) ∧ Below w.heap.size w w' := by
  obtain ⟨hc1, hc2, _⟩ := code_of_row hrow
  by_cases hbig : (1048576 : Int) < (len : Int)
  · go_enter Try.func4, Try.ntmps4
    go_wp2
    go_ret
    exact ⟨rfl, Below.refl _ _⟩
  · go_enter Try.func4, Try.ntmps4
    go_wp2_with fail
    refine (drawSetAnd_any a0 len cap zs _ hrow).mono ?_
    rintro e w0 ⟨B, d, L, B', d', M, ⟨rfl, hn, hn', hL, hM⟩, hB0⟩
    clear hrow
    obtain ⟨X, hX⟩ : ∃ X, X = andL L M := ⟨_, rfl⟩
    have hXl : X.length ≤ 4194304 := by rw [hX]; exact len_andL L M (by omega) (by omega)
    have ci := setAnd_any (L := L) (M := M)
    have cs := specSetAnd_any (L := L) (M := M)
    rw [← hX] at ci cs
    have HX : Hid (X = andL L M) := hX
    clear hX
    go_wp2_with fail
    refine (ci _ _ _ _ _ hL hM (by omega) (by omega)).mono ?_
    rintro e w1 ⟨b1, d1, ⟨rfl, rX⟩, hb⟩
    replace hL := Rds.below hL hb
    replace hM := Rds.below hM hb
    have hB1 := hB0.trans (hb.mono hB0.size)
    have s1 := hb.size
    clear hb
    go_wp2_with fail
    refine (cs _ _ _ _ _ hL hM (by omega) (by omega)).mono ?_
    rintro e w2 ⟨b2, d2, ⟨rfl, rS⟩, hb⟩
    replace rX := own_below rX hb
    replace hL := Rds.below hL hb
    replace hM := Rds.below hM hb
    have hB2 := hB1.trans (hb.mono hB1.size)
    have s2 := hb.size
    clear hb
    go_wp2_with fail
    refine (foInts_same _ _ _ _ X _ (Rds.own rX) (Rds.own rS) (by omega)).mono ?_
    rintro e w3 ⟨rfl, hb⟩
    replace rX := own_below rX hb
    replace rS := own_below rS hb
    replace hL := Rds.below hL hb
    replace hM := Rds.below hM hb
    have hB3 := hB2.trans (hb.mono hB2.size)
    have s3 := hb.size
    clear hb
    go_wp2_with fail
    refine (upOk_b _ _ L _ hL (by omega)).mono ?_
    rintro e w4 ⟨rfl, hb⟩
    replace rX := own_below rX hb
    replace rS := own_below rS hb
    replace hL := Rds.below hL hb
    replace hM := Rds.below hM hb
    have hB4 := hB3.trans (hb.mono hB3.size)
    have s4 := hb.size
    clear hb
    cases hu1 : upB L with
    | false =>
      go_wp2_with fail
      refine (cs _ _ _ _ _ hL hM (by omega) (by omega)).mono ?_
      rintro e w5 ⟨b5, d5, ⟨rfl, rT⟩, hb⟩
      replace rX := own_below rX hb
      replace rS := own_below rS hb
      replace hL := Rds.below hL hb
      replace hM := Rds.below hM hb
      have hB5 := hB4.trans (hb.mono hB4.size)
      have s5 := hb.size
      clear hb
      go_wp2_with fail
      refine (foInts_same _ _ _ _ X _ (Rds.own rX) (Rds.own rT) (by omega)).mono ?_
      rintro e w6 ⟨rfl, hb⟩
      replace rX := own_below rX hb
      replace rS := own_below rS hb
      replace rT := own_below rT hb
      replace hL := Rds.below hL hb
      replace hM := Rds.below hM hb
      have hB6 := hB5.trans (hb.mono hB5.size)
      have s6 := hb.size
      clear hb
      go_wp2
      go_ret
      exact ⟨rfl, hB6⟩
    | true =>
      go_wp2_with fail
      refine (upOk_b _ _ M _ hM (by omega)).mono ?_
      rintro e w5 ⟨rfl, hb⟩
      replace rX := own_below rX hb
      replace rS := own_below rS hb
      replace hL := Rds.below hL hb
      replace hM := Rds.below hM hb
      have hB5 := hB4.trans (hb.mono hB4.size)
      have s5 := hb.size
      clear hb
      cases hu2 : upB M with
      | false =>
        go_wp2_with fail
        refine (cs _ _ _ _ _ hL hM (by omega) (by omega)).mono ?_
        rintro e w6 ⟨b6, d6, ⟨rfl, rT⟩, hb⟩
        replace rX := own_below rX hb
        replace rS := own_below rS hb
        replace hL := Rds.below hL hb
        replace hM := Rds.below hM hb
        have hB6 := hB5.trans (hb.mono hB5.size)
        have s6 := hb.size
        clear hb
        go_wp2_with fail
        refine (foInts_same _ _ _ _ X _ (Rds.own rX) (Rds.own rT) (by omega)).mono ?_
        rintro e w7 ⟨rfl, hb⟩
        replace rX := own_below rX hb
        replace rS := own_below rS hb
        replace rT := own_below rT hb
        replace hL := Rds.below hL hb
        replace hM := Rds.below hM hb
        have hB7 := hB6.trans (hb.mono hB6.size)
        have s7 := hb.size
        clear hb
        go_wp2
        go_ret
        exact ⟨rfl, hB7⟩
      | true =>
        have hin : ∀ k, (h : k < L.length) → inB X L[k] = inB M L[k] := fun k h => by rw [HX.out]; exact and_in_law hu1 hu2 (List.getElem_mem h)
        have hXX : upB X = true := by rw [HX.out]; exact up_and hu1 hu2
        have ci2 := setAnd_any (L := M) (M := L)
        have ci3 := setAnd_any (L := L) (M := L)
        rw [and_comm_law hu1 hu2, ← HX.out] at ci2
        rw [and_self_law hu1] at ci3
        have hle : X.length ≤ L.length := by rw [HX.out]; exact and_len_law L M
        clear ci cs HX hu1 hu2
        clear rS
        have hX0 := Rds.own rX
        go_wp2_with fail
        go_loopw [6] (fun i wr => ∃ k : Nat, k ≤ L.length ∧ i = .int .i64 k ∧ ∃ q, wr = w5.drewN q) (fun i _ => L.length - (intOf i).toNat)
        case atStart => exact ⟨0, Nat.zero_le _, rfl, 0, rfl⟩
        case round =>
          obtain ⟨k, hk, rfl, q, rfl⟩ := hrel
          by_cases hlt : k < L.length
          · obtain ⟨b, off, rfl, hb, x0⟩ := hL.at1 hlt
            have hi0 : (k : Int) < (L.length : Int) := by omega
            have hp := hin k hlt
            generalize L[k] = p at x0 hp
            cases hpm : inB M p with
            | true =>
              rw [hpm] at hp
              go_wp2_with fail
              go_quiet ((go_at_call 28; first | exact qsame (foIn_any _ _ _ _ _ (by first | exact hX0.drawn _ | exact hM.drawn _) (by omega)) | exact qsame2 (foIn_any _ _ _ _ _ (by first | exact hX0.drawn _ | exact hM.drawn _) (by omega))))
              go_wp2
              go_roundw
              case rel => exact ⟨k + 1, by omega, by go_num, _, (by first | rfl | exact World.drewN_drewN _ _ _)⟩
              case measure => simp [intOf]; omega
            | false =>
              rw [hpm] at hp
              go_wp2_with fail
              go_quiet ((go_at_call 28; first | exact qsame (foIn_any _ _ _ _ _ (by first | exact hX0.drawn _ | exact hM.drawn _) (by omega)) | exact qsame2 (foIn_any _ _ _ _ _ (by first | exact hX0.drawn _ | exact hM.drawn _) (by omega))))
              go_wp2
              go_roundw
              case rel => exact ⟨k + 1, by omega, by go_num, _, (by first | rfl | exact World.drewN_drewN _ _ _)⟩
              case measure => simp [intOf]; omega
          · obtain ⟨wz, hz⟩ : ∃ wz, wz = w5.drewN q := ⟨_, rfl⟩
            have hb : Below w5.heap.size w5 wz := by rw [hz]; exact below_of_drewN
            rw [← hz]
            clear hz
            replace rX := own_below rX hb
            replace hL := Rds.below hL hb
            replace hM := Rds.below hM hb
            have hBz := hB5.trans (hb.mono hB5.size)
            clear hb
            go_wp2_with fail
            refine (upOk_b _ _ X _ (Rds.own rX) (by omega)).mono ?_
            rintro e w7 ⟨rfl, hb⟩
            rw [hXX]
            replace rX := own_below rX hb
            replace hL := Rds.below hL hb
            replace hM := Rds.below hM hb
            have hB7 := hBz.trans (hb.mono hBz.size)
            have s7 := hb.size
            clear hb
            go_wp2_with fail
            refine (ci2 _ _ _ _ _ hM hL (by omega) (by omega)).mono ?_
            rintro e w8 ⟨b8, d8, ⟨rfl, rC⟩, hb⟩
            replace rX := own_below rX hb
            replace hL := Rds.below hL hb
            replace hM := Rds.below hM hb
            have hB8 := hB7.trans (hb.mono hB7.size)
            have s8 := hb.size
            clear hb
            go_wp2_with fail
            refine (foInts_same _ _ _ _ X _ (Rds.own rC) (Rds.own rX) (by omega)).mono ?_
            rintro e w9 ⟨rfl, hb⟩
            replace rX := own_below rX hb
            replace rC := own_below rC hb
            replace hL := Rds.below hL hb
            replace hM := Rds.below hM hb
            have hB9 := hB8.trans (hb.mono hB8.size)
            have s9 := hb.size
            clear hb
            go_wp2_with fail
            refine (ci3 _ _ _ _ _ hL hL (by omega) (by omega)).mono ?_
            rintro e w10 ⟨b10, d10, ⟨rfl, rD⟩, hb⟩
            replace rX := own_below rX hb
            replace rC := own_below rC hb
            replace hL := Rds.below hL hb
            replace hM := Rds.below hM hb
            have hB10 := hB9.trans (hb.mono hB9.size)
            have s10 := hb.size
            clear hb
            go_wp2_with fail
            refine (foInts_same _ _ _ _ L _ (Rds.own rD) hL (by omega)).mono ?_
            rintro e w11 ⟨rfl, hb⟩
            replace rX := own_below rX hb
            replace rC := own_below rC hb
            replace rD := own_below rD hb
            replace hL := Rds.below hL hb
            replace hM := Rds.below hM hb
            have hB11 := hB10.trans (hb.mono hB10.size)
            have s11 := hb.size
            clear hb
            go_wp2
            go_ret
            exact ⟨rfl, hB11⟩
end Go.Proofs.Ytoifknepebplnaa
