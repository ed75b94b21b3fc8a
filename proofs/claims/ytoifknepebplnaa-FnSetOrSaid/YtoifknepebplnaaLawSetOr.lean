/-
  The walk of FnSetOr.
-/
import Derived.Test.YtoifknepebplnaaDrawInts
import Derived.Test.YtoifknepebplnaaSetLaw
import Derived.Test.YtoifknepebplnaaOrMore
namespace Go.Proofs.Ytoifknepebplnaa
open Go.RowKit
set_option linter.unusedVariables false

theorem foInts_same (A A' : Option Addr) (c c' : Nat) (L : List Int) (w : World) (h : RdI w A L) (h' : RdI w A' L) (hn : L.length ≤ 4194304) :
    Calls Try.prog 25 #[.slice A L.length c, .slice A' L.length c'] w fun e w' => e = .returned (.bool true) ∧ Below w.heap.size w w' := by
  refine (foInts_any A A' c c' L L w h h' (by omega) (by omega)).mono ?_
  rintro e w' ⟨rfl, q, rfl⟩
  exact ⟨ret_bool (by simp), below_of_drewN⟩
theorem upOk_b (A : Option Addr) (c : Nat) (L : List Int) (w : World) (h : RdI w A L) (hn : L.length ≤ 4194304) :
    Calls Try.prog 27 #[.slice A L.length c] w fun e w' => e = .returned (.bool (upB L)) ∧ Below w.heap.size w w' := by
  refine (upOk_any A c L w h (by omega)).mono ?_
  rintro e w' ⟨rfl, q, rfl⟩
  exact ⟨rfl, below_of_drewN⟩

set_option maxHeartbeats 1000000 in
theorem walk_FnSetOr (a0 : Option Addr) (len cap : Nat) (zs : List Int) (w : World) (hrow : IsRow .u8 w a0 len cap zs) :
    Calls Try.prog 8 #[.slice a0 len cap] w fun e w' => e = .returned (.bool true) ∧ Below w.heap.size w w' := by
  obtain ⟨hc1, hc2, _⟩ := code_of_row hrow
  by_cases hbig : (1048576 : Int) < (len : Int)
  · go_enter Try.func8, Try.ntmps8
    go_wp2
    go_ret
    exact ⟨rfl, Below.refl _ _⟩
  · go_enter Try.func8, Try.ntmps8
    go_wp2_with fail
    refine (drawSetOr_any a0 len cap zs _ hrow).mono ?_
    rintro e w0 ⟨B, d, L, B', d', M, ⟨rfl, hn, hn', hL, hM⟩, hB0⟩
    clear hrow
    obtain ⟨X, hX⟩ : ∃ X, X = orL L M := ⟨_, rfl⟩
    have hXl : X.length ≤ 4194304 := by rw [hX]; exact len_orL L M (by omega) (by omega)
    have ci := setOr_any (L := L) (M := M)
    have cs := specSetOr_or (L := L) (M := M)
    rw [← hX] at ci cs
    have HX : Hid (X = orL L M) := hX
    clear hX
    go_wp2_with fail
    refine (ci _ _ _ _ _ hL hM (by omega) (by omega)).mono ?_
    rintro e w1 ⟨b1, d1, ⟨rfl, rX⟩, hb⟩
    replace hL := Src.below hL hb
    replace hM := Src.below hM hb
    have hB1 := hB0.trans (hb.mono hB0.size)
    have s1 := hb.size
    clear hb
    go_wp2_with fail
    refine (cs _ _ _ _ _ hL hM (by omega) (by omega)).mono ?_
    rintro e w2 ⟨b2, d2, ⟨rfl, rS⟩, hb⟩
    replace rX := own_below rX hb
    replace hL := Src.below hL hb
    replace hM := Src.below hM hb
    have hB2 := hB1.trans (hb.mono hB1.size)
    have s2 := hb.size
    clear hb
    go_wp2_with fail
    refine (foInts_same _ _ _ _ X _ (Rds.own rX) (Rds.own rS) (by omega)).mono ?_
    rintro e w3 ⟨rfl, hb⟩
    replace rX := own_below rX hb
    replace rS := own_below rS hb
    replace hL := Src.below hL hb
    replace hM := Src.below hM hb
    have hB3 := hB2.trans (hb.mono hB2.size)
    have s3 := hb.size
    clear hb
    go_wp2_with fail
    refine (upOk_b _ _ L _ hL.1 (by omega)).mono ?_
    rintro e w4 ⟨rfl, hb⟩
    replace rX := own_below rX hb
    replace rS := own_below rS hb
    replace hL := Src.below hL hb
    replace hM := Src.below hM hb
    have hB4 := hB3.trans (hb.mono hB3.size)
    have s4 := hb.size
    clear hb
    cases hu1 : upB L with
    | false =>
      go_wp2_with fail
      refine (cs _ _ _ _ _ hL hM (by omega) (by omega)).mono ?_
      rintro e w5 ⟨b5, d5, ⟨rfl, rT⟩, hb⟩
      replace rX := own_below rX hb
      replace rS := own_below rS hb
      replace hL := Src.below hL hb
      replace hM := Src.below hM hb
      have hB5 := hB4.trans (hb.mono hB4.size)
      have s5 := hb.size
      clear hb
      go_wp2_with fail
      refine (foInts_same _ _ _ _ X _ (Rds.own rX) (Rds.own rT) (by omega)).mono ?_
      rintro e w6 ⟨rfl, hb⟩
      replace rX := own_below rX hb
      replace rS := own_below rS hb
      replace rT := own_below rT hb
      replace hL := Src.below hL hb
      replace hM := Src.below hM hb
      have hB6 := hB5.trans (hb.mono hB5.size)
      have s6 := hb.size
      clear hb
      go_wp2
      go_ret
      exact ⟨rfl, hB6⟩
    | true =>
      go_wp2_with fail
      refine (upOk_b _ _ M _ hM.1 (by omega)).mono ?_
      rintro e w5 ⟨rfl, hb⟩
      replace rX := own_below rX hb
      replace rS := own_below rS hb
      replace hL := Src.below hL hb
      replace hM := Src.below hM hb
      have hB5 := hB4.trans (hb.mono hB4.size)
      have s5 := hb.size
      clear hb
      cases hu2 : upB M with
      | false =>
        go_wp2_with fail
        refine (cs _ _ _ _ _ hL hM (by omega) (by omega)).mono ?_
        rintro e w6 ⟨b6, d6, ⟨rfl, rT⟩, hb⟩
        replace rX := own_below rX hb
        replace rS := own_below rS hb
        replace hL := Src.below hL hb
        replace hM := Src.below hM hb
        have hB6 := hB5.trans (hb.mono hB5.size)
        have s6 := hb.size
        clear hb
        go_wp2_with fail
        refine (foInts_same _ _ _ _ X _ (Rds.own rX) (Rds.own rT) (by omega)).mono ?_
        rintro e w7 ⟨rfl, hb⟩
        replace rX := own_below rX hb
        replace rS := own_below rS hb
        replace rT := own_below rT hb
        replace hL := Src.below hL hb
        replace hM := Src.below hM hb
        have hB7 := hB6.trans (hb.mono hB6.size)
        have s7 := hb.size
        clear hb
        go_wp2
        go_ret
        exact ⟨rfl, hB7⟩
      | true =>
        have hin : ∀ k, (h : k < X.length) → (inB L X[k] || inB M X[k]) = true := fun k h => by rw [← or_in_law hu1 hu2]; rw [← HX.out]; exact inB_iff.2 (List.getElem_mem h)
        have hup : ∀ j, (h : j + 1 < X.length) → X[j] < X[j + 1] := fun j h => (List.pairwise_iff_getElem.1 (by rw [HX.out, orL_yes hu1 hu2]; exact unionI_asc L M) j (j + 1) (by omega) h (by omega))
        have ci2 := setOr_any (L := M) (M := L)
        rw [or_comm_law hu1 hu2, ← HX.out] at ci2
        have ca := setAnd_any (L := L) (M := M)
        have hlen : Hid (X.length + (andL L M).length = L.length + M.length) := by show X.length + _ = _; rw [HX.out]; exact or_len_law hu1 hu2
        have hNl := len_andL L M (by omega) (by omega)
        obtain ⟨N, hN⟩ : ∃ N, N = andL L M := ⟨_, rfl⟩
        rw [← hN] at ca hlen hNl
        clear ci cs HX hu1 hu2 hN
        clear rS
        have hX0 := Rds.own rX
        go_wp2_with fail
        go_loopw [6] (fun i wr => ∃ k : Nat, k ≤ X.length ∧ i = .int .i64 k ∧ ∃ q, wr = w5.drewN q) (fun i _ => X.length - (intOf i).toNat)
        case atStart => exact ⟨0, Nat.zero_le _, rfl, 0, rfl⟩
        case round =>
          obtain ⟨k, hk, rfl, q, rfl⟩ := hrel
          by_cases hlt : k < X.length
          · obtain ⟨b, off, rfl, hb, x0⟩ := hX0.at1 hlt
            have hi0 : (k : Int) < (X.length : Int) := by omega
            have hp := hin k hlt
            rcases Nat.eq_zero_or_pos k with rfl | hpos
            · rw [Nat.add_zero] at x0
              generalize X[0] = p at x0 hp
              cases h1 : inB L p with
              | true =>
                go_wp2_with fail
                go_quiet ((go_at_call 28; first | exact qsame (foIn_any _ _ _ _ _ (by first | exact hL.1.drawn _ | exact hM.1.drawn _) (by omega)) | exact qsame2 (foIn_any _ _ _ _ _ (by first | exact hL.1.drawn _ | exact hM.1.drawn _) (by omega))))
                go_wp2
                go_roundw
                case rel => exact ⟨1, by omega, by first | rfl | go_num, _, (by first | rfl | exact World.drewN_drewN _ _ _)⟩
                case measure => simp [intOf]; omega
              | false =>
                rw [h1, Bool.false_or] at hp
                go_wp2_with fail
                go_quiet ((go_at_call 28; first | exact qsame (foIn_any _ _ _ _ _ (by first | exact hL.1.drawn _ | exact hM.1.drawn _) (by omega)) | exact qsame2 (foIn_any _ _ _ _ _ (by first | exact hL.1.drawn _ | exact hM.1.drawn _) (by omega))))
                go_wp2
                go_roundw
                case rel => exact ⟨1, by omega, by first | rfl | go_num, _, (by first | rfl | exact World.drewN_drewN _ _ _)⟩
                case measure => simp [intOf]; omega
            · obtain ⟨j, rfl⟩ : ∃ j, k = j + 1 := ⟨k - 1, by omega⟩
              obtain ⟨_, y0⟩ := Rds.all1 hX0 (k := j) (by omega)
              have hlt2 := hup j hlt
              generalize (X[j]'(by omega)) = p' at y0 hlt2
              generalize X[j + 1] = p at x0 hp hlt2
              have x0' := x0
              rw [← Nat.add_assoc] at x0'
              have hi1 : (j : Int) + 1 < (X.length : Int) := by omega
              have hi2 : (j : Int) < (X.length : Int) := by omega
              have t1 : ((j : Int) + 1).toNat = j + 1 := by omega
              have nle : decide (p ≤ p') = false := by simp; omega
              cases h1 : inB L p with
              | true =>
                go_wp2_with fail
                go_quiet ((go_at_call 28; first | exact qsame (foIn_any _ _ _ _ _ (by first | exact hL.1.drawn _ | exact hM.1.drawn _) (by omega)) | exact qsame2 (foIn_any _ _ _ _ _ (by first | exact hL.1.drawn _ | exact hM.1.drawn _) (by omega))))
                go_wp2
                go_roundw
                case rel => exact ⟨j + 2, by omega, by first | rfl | go_num, _, (by first | rfl | exact World.drewN_drewN _ _ _)⟩
                case measure => simp [intOf]; omega
              | false =>
                rw [h1, Bool.false_or] at hp
                go_wp2_with fail
                go_quiet ((go_at_call 28; first | exact qsame (foIn_any _ _ _ _ _ (by first | exact hL.1.drawn _ | exact hM.1.drawn _) (by omega)) | exact qsame2 (foIn_any _ _ _ _ _ (by first | exact hL.1.drawn _ | exact hM.1.drawn _) (by omega))))
                go_wp2
                go_roundw
                case rel => exact ⟨j + 2, by omega, by first | rfl | go_num, _, (by first | rfl | exact World.drewN_drewN _ _ _)⟩
                case measure => simp [intOf]; omega
          · have tok := trivial
            obtain ⟨wz, hz⟩ : ∃ wz, wz = w5.drewN q := ⟨_, rfl⟩
            have hb : Below w5.heap.size w5 wz := by rw [hz]; exact below_of_drewN
            rw [← hz]
            clear hz
            replace rX := own_below rX hb
            replace hL := Src.below hL hb
            replace hM := Src.below hM hb
            have hBz := hB5.trans (hb.mono hB5.size)
            have sz := hb.size
            clear hb
            go_wp2_with fail
            refine (ca _ _ _ _ _ hL.1 hM.1 (by omega) (by omega)).mono ?_
            rintro e w7 ⟨b7, d7, ⟨rfl, rN⟩, hb⟩
            replace rX := own_below rX hb
            replace hL := Src.below hL hb
            replace hM := Src.below hM hb
            have hB7 := hBz.trans (hb.mono hBz.size)
            have s7 := hb.size
            clear hb
            have e1 : ((X.length : Int) == (L.length : Int) + (M.length : Int) - (N.length : Int)) = true := by have := hlen.out; rw [beq_iff_eq]; omega
            go_wp2_with fail
            refine (ci2 _ _ _ _ _ hM hL (by omega) (by omega)).mono ?_
            rintro e w8 ⟨b8, d8, ⟨rfl, rC⟩, hb⟩
            replace rX := own_below rX hb
            replace rN := own_below rN hb
            replace hL := Src.below hL hb
            replace hM := Src.below hM hb
            have hB8 := hB7.trans (hb.mono hB7.size)
            have s8 := hb.size
            clear hb
            go_wp2_with fail
            refine (foInts_same _ _ _ _ X _ (Rds.own rC) (Rds.own rX) (by omega)).mono ?_
            rintro e w9 ⟨rfl, hb⟩
            replace rX := own_below rX hb
            replace rN := own_below rN hb
            replace rC := own_below rC hb
            replace hL := Src.below hL hb
            replace hM := Src.below hM hb
            have hB9 := hB8.trans (hb.mono hB8.size)
            have s9 := hb.size
            clear hb
            go_wp2
            go_ret
            exact ⟨rfl, hB9⟩
end Go.Proofs.Ytoifknepebplnaa
