/-
  The walk of FnFacetBands.
-/
import Derived.Test.YteomiaffdbbpoaaDrawFacet
import Derived.Test.YteomiaffdbbpoaaSpecBands
namespace Go.Proofs.Yteomiaffdbbpoaa
open Go.RowKit
set_option linter.unusedVariables false

theorem foInts_same (A A' : Option Addr) (c c' : Nat) (L : List Int) (w : World) (h : RdI w A L) (h' : RdI w A' L) (hn : L.length ≤ 4194304) :
    Calls Try.prog 20 #[.slice A L.length c, .slice A' L.length c'] w fun e w' => e = .returned (.bool true) ∧ Below w.heap.size w w' := by
  refine (foInts_any A A' c c' L L w h h' (by omega) (by omega)).mono ?_
  rintro e w' ⟨rfl, q, rfl⟩
  exact ⟨ret_bool (by simp), below_of_drewN⟩
/-- how many of the first j documents are in band k. -/
def nBand (M ids : List Int) (name : ByteArray) (Ds : List DocD) (k j : Nat) : Nat := (Ds.take j).countP (fun d => inB ids d.id && inBand M (docNum d name) k)
theorem nBand_zero (M ids : List Int) (name : ByteArray) (Ds : List DocD) (k : Nat) : nBand M ids name Ds k 0 = 0 := by simp [nBand]
theorem nBand_succ {M ids : List Int} {name : ByteArray} {Ds : List DocD} {k j : Nat} (hj : j < Ds.length) : nBand M ids name Ds k (j + 1) = nBand M ids name Ds k j + if (inB ids Ds[j].id && inBand M (docNum Ds[j] name) k) = true then 1 else 0 := by
  unfold nBand
  rw [← List.take_append_getElem hj, List.countP_append, List.countP_singleton]
theorem nBand_le {M ids : List Int} {name : ByteArray} {Ds : List DocD} {k j : Nat} (hj : j ≤ Ds.length) : nBand M ids name Ds k j ≤ j := by
  unfold nBand
  have := List.countP_le_length (p := fun d => inB ids d.id && inBand M (docNum d name) k) (l := Ds.take j)
  rw [List.length_take] at this
  omega
theorem nBand_all {M ids : List Int} {name : ByteArray} {Ds : List DocD} {k : Nat} (hM : upB M = true) (hk : k < M.length) : ((nBand M ids name Ds k Ds.length : Nat) : Int) = cntB M (selL ids name Ds) k := by
  unfold nBand cntB selL
  rw [List.take_length, List.countP_map, List.countP_filter]
  congr 1
  refine List.countP_congr (fun d _ => ?_)
  have h0 := ((upB_iff.1 hM).1 M[k] (List.getElem_mem _)).1
  have hg : M.getD k 0 = M[k] := by rw [List.getD_eq_getElem?_getD, List.getElem?_eq_getElem hk]; rfl
  simp only [Function.comp, selP, inBand, hg, Bool.and_eq_true, Bool.or_eq_true, decide_eq_true_eq]
  constructor
  · rintro ⟨h1, h2, h3⟩
    exact ⟨⟨h2, h3⟩, by omega, h1⟩
  · rintro ⟨⟨h2, h3⟩, _, h1⟩
    exact ⟨h1, h2, h3⟩
set_option maxHeartbeats 3200000 in
set_option maxRecDepth 6000 in
theorem walk_FnFacetBands (a0 : Option Addr) (len cap : Nat) (zs : List Int) (w : World) (hrow : IsRow .u8 w a0 len cap zs) :
    Calls Try.prog 4 #[.slice a0 len cap] w fun e w' => e = .returned (.bool true) ∧ Below w.heap.size w w' := by
  obtain ⟨hc1, hc2, _⟩ := code_of_row hrow
  by_cases hbig : (1048576 : Int) < (len : Int)
  · go_enter Try.func4, Try.ntmps4
    go_wp2
    go_ret
    exact ⟨rfl, Below.refl _ _⟩
  · go_enter Try.func4, Try.ntmps4
    go_wp2_with fail
    refine (drawFacetBands_any a0 len cap zs _ hrow).mono ?_
    rintro e w0 ⟨B, d, Ds, I, di, L, s, E, de, M, ⟨rfl, hl6, hL6, hM61, hD, hsm, hI, hE⟩, hB0⟩
    clear hrow
    obtain ⟨R, hR⟩ : ∃ R, R = bandsF Ds L s M := ⟨_, rfl⟩
    have hRl : R.length ≤ M.length := by rw [hR]; exact bandsF_len Ds L s M
    have ci := fun A Ai Ae c ci ce w h hi he => implBands_any A Ai Ae c ci ce Ds L s M w h hsm hi (by omega) he (by omega)
    have cs := fun A Ai Ae c ci ce w h hi he => specBands_any A Ai Ae c ci ce Ds L s M w h hsm hi (by omega) he (by omega)
    rw [← hR] at ci cs
    have CI := Lib.hid ci
    have CS := Lib.hid cs
    have HR := Lib.hid hR
    clear hR ci cs
    go_wp2_with fail
    refine (CI.out _ _ _ _ _ _ _ hD hI hE).mono ?_
    rintro e w1 ⟨b1, d1, ⟨rfl, rX⟩, hb⟩
    have hX : RdI w1 b1 R := Rds.own rX
    replace hD := hD.below hb
    replace hI := hI.below hb
    replace hE := hE.below hb
    have hB1 := hB0.trans (hb.mono hB0.size)
    clear hb hB0 rX
    go_wp2_with fail
    refine (CS.out _ _ _ _ _ _ _ hD hI hE).mono ?_
    rintro e w2 ⟨b2, d2, ⟨rfl, rS⟩, hb⟩
    have hS : RdI w2 b2 R := Rds.own rS
    replace hD := hD.below hb
    replace hI := hI.below hb
    replace hE := hE.below hb
    replace hX := hX.below hb
    have hB2 := hB1.trans (hb.mono hB1.size)
    clear hb hB1 rS
    go_wp2_with fail
    refine (foInts_same _ _ _ _ R _ hX hS (by omega)).mono ?_
    rintro e w3 ⟨rfl, hb⟩
    replace hD := hD.below hb
    replace hI := hI.below hb
    replace hE := hE.below hb
    replace hX := hX.below hb
    have hB3 := hB2.trans (hb.mono hB2.size)
    clear hb hB2 hS
    go_wp2_with fail
    refine (docsOk_any _ _ Ds _ hD hsm).mono ?_
    rintro e w4 ⟨rfl, hb⟩
    replace hD := hD.below hb
    replace hI := hI.below hb
    replace hE := hE.below hb
    replace hX := hX.below hb
    have hB4 := hB3.trans (hb.mono hB3.size)
    clear hb hB3
    cases hdk : docsB Ds with
    | false =>
      go_wp2_with fail
      refine (CS.out _ _ _ _ _ _ _ hD hI hE).mono ?_
      rintro e w5 ⟨b5, d5, ⟨rfl, rS⟩, hb⟩
      replace hX := hX.below hb
      have hB5 := hB4.trans (hb.mono hB4.size)
      clear hb hB4
      go_wp2_with fail
      refine (foInts_same _ _ _ _ R _ hX (Rds.own rS) (by omega)).mono ?_
      rintro e w6 ⟨rfl, hb⟩
      have hB6 := hB5.trans (hb.mono hB5.size)
      go_wp2
      go_ret
      exact ⟨rfl, hB6⟩
    | true =>
      go_wp2_with fail
      refine (upOk_any _ _ L _ hI (by omega)).mono ?_
      rintro e w5 ⟨rfl, q, rfl⟩
      have hb : Below w4.heap.size w4 (w4.drewN q) := below_of_drewN
      generalize w4.drewN q = w5 at hb ⊢
      replace hD := hD.below hb
      replace hI := hI.below hb
      replace hE := hE.below hb
      replace hX := hX.below hb
      have hB5 := hB4.trans (hb.mono hB4.size)
      clear hb hB4
      cases hul : upB L with
      | false =>
        go_wp2_with fail
        refine (CS.out _ _ _ _ _ _ _ hD hI hE).mono ?_
        rintro e w5 ⟨b5, d5, ⟨rfl, rS⟩, hb⟩
        replace hX := hX.below hb
        have hB6 := hB5.trans (hb.mono hB5.size)
        clear hb hB5
        go_wp2_with fail
        refine (foInts_same _ _ _ _ R _ hX (Rds.own rS) (by omega)).mono ?_
        rintro e w6 ⟨rfl, hb⟩
        have hB7 := hB6.trans (hb.mono hB6.size)
        go_wp2
        go_ret
        exact ⟨rfl, hB7⟩
      | true =>
        go_wp2_with fail
        refine (upOk_any _ _ M _ hE (by omega)).mono ?_
        rintro e w6 ⟨rfl, q, rfl⟩
        have hb : Below w5.heap.size w5 (w5.drewN q) := below_of_drewN
        generalize w5.drewN q = w6 at hb ⊢
        replace hD := hD.below hb
        replace hI := hI.below hb
        replace hE := hE.below hb
        replace hX := hX.below hb
        have hB6 := hB5.trans (hb.mono hB5.size)
        clear hb hB5
        cases hum : upB M with
        | false =>
          go_wp2_with fail
          refine (CS.out _ _ _ _ _ _ _ hD hI hE).mono ?_
          rintro e w5 ⟨b5, d5, ⟨rfl, rS⟩, hb⟩
          replace hX := hX.below hb
          have hB7 := hB6.trans (hb.mono hB6.size)
          clear hb hB6
          go_wp2_with fail
          refine (foInts_same _ _ _ _ R _ hX (Rds.own rS) (by omega)).mono ?_
          rintro e w6 ⟨rfl, hb⟩
          have hB8 := hB7.trans (hb.mono hB7.size)
          go_wp2
          go_ret
          exact ⟨rfl, hB8⟩
        | true =>
          have hRb : R = bandsL M (selL L s Ds) := by rw [HR.out]; unfold bandsF; rw [if_pos ⟨hdk, hul, hum⟩]
          have hRlen : R.length = M.length := by rw [hRb, bandsL_len]
          have hRat : ∀ k, (hk : k < R.length) → R[k] = ((nBand M L s Ds k Ds.length : Nat) : Int) := fun k hk => by
            have hk2 : k < (bandsL M (selL L s Ds)).length := by rw [← hRb]; exact hk
            rw [nBand_all hum (by omega)]
            rw [← bandsL_at hk2]
            simp [hRb]
          have HRat := Lib.hid hRat
          have HRL := Lib.hid hRlen
          clear hRb hRlen hRat HR CI CS hRl
          go_wp2_with fail
          go_loopw [8, 9, 10, 11] (fun kv nv iv mv wr => ∃ k : Nat, k ≤ M.length ∧ kv = .int .i64 (k : Int) ∧ Below w6.heap.size w6 wr) (fun kv _ _ _ _ => M.length - (intOf kv).toNat)
          case atStart => exact ⟨0, Nat.zero_le _, rfl, Below.refl _ _⟩
          case round =>
            obtain ⟨k, hk, rfl, hbW⟩ := hrel
            by_cases hlt : k < M.length
            · have hk0 : (k : Int) < (M.length : Int) := by omega
              go_wp2_with fail
              go_loopw [9, 10, 11] (fun nv iv mv wr => ∃ j : Nat, j ≤ Ds.length ∧ iv = .int .i64 (j : Int) ∧ nv = .int .i64 ((nBand M L s Ds k j : Nat) : Int) ∧ Below w6.heap.size w6 wr) (fun _ iv _ _ => Ds.length - (intOf iv).toNat)
              case atStart => exact ⟨0, Nat.zero_le _, rfl, by rw [nBand_zero]; rfl, hbW⟩
              case round =>
                obtain ⟨j, hj, rfl, rfl, hbV⟩ := hrel
                by_cases hlj : j < Ds.length
                · have hj0 : (j : Int) < (Ds.length : Int) := by omega
                  have hsu := nBand_succ (M := M) (ids := L) (name := s) (k := k) hlj
                  have hle := nBand_le (M := M) (ids := L) (name := s) (k := k) (j := j) (Ds := Ds) hj
                  obtain ⟨b, off, A1, c1, A2, c2, hBe, hb, x0, x1, x2, hh⟩ := (hD.below hbV) j hlj
                  have e1 : (⟨B, 0, none⟩ : Addr) = ⟨b, off, none⟩ := by injection hBe
                  injection e1 with e1 e2
                  subst e1 e2
                  rw [Nat.zero_add] at x0 x1 x2
                  have hsd := hsm.2 Ds[j] (List.getElem_mem _)
                  have HSU := Lib.hid hsu
                  clear hsu hBe hbW
                  generalize Ds[j] = dd at x0 x1 x2 hh hsd HSU
                  generalize nBand M L s Ds k j = n at HSU hle ⊢
                  go_wp2_with fail
                  refine (docNum_any dd A1 A2 c1 c2 s _ hh hsd).mono ?_
                  rintro e w7 ⟨rfl, hb7⟩
                  have y0 := (hb7.cell (p := ⟨B, j * 3, none⟩) hb).trans x0
                  have hbU := hbV.trans (hb7.mono hbV.size)
                  have hI7 := hI.below hbU
                  have hE7 := hE.below hbU
                  clear x0 x1 x2 hh hsd hb7 hbV
                  generalize docNum dd s = m at HSU ⊢
                  generalize dd.id = idd at HSU y0 ⊢
                  go_wp2_with fail
                  refine (foIn_any _ _ L idd _ hI7 (by omega)).mono ?_
                  rintro e w8 ⟨rfl, rfl⟩
                  cases hin : inB L idd with
                  | false =>
                    have hN : Hid (nBand M L s Ds k (j + 1) = n) := by show _ = _; rw [HSU.out, hin]; simp
                    clear HSU
                    go_wp2
                    go_roundw
                    case rel => exact ⟨j + 1, by omega, by go_num, by rw [hN.out], hbU⟩
                    case measure => simp [intOf]; omega
                  | true =>
                    obtain ⟨bE, offE, hEe, hbE, z0⟩ := hE7.at1 hlt
                    subst hEe
                    have hib0 : inBand M m k = (decide (M[k] ≤ m) && (decide (k + 1 = M.length) || decide (m < M.getD (k + 1) 0))) := by unfold inBand; rw [getB hlt]
                    by_cases h1 : M[k] ≤ m
                    · by_cases h2 : k + 1 = M.length
                      · have hN : Hid (nBand M L s Ds k (j + 1) = n + 1) := by show _ = _; rw [HSU.out, hin, hib0, decide_eq_true h1, decide_eq_true h2]; simp
                        have hq : ((k : Int) == (M.length : Int) - 1) = true := by rw [beq_iff_eq]; omega
                        clear HSU hib0 h2
                        generalize M[k] = ek at z0 h1
                        go_wp2
                        go_roundw
                        case rel => exact ⟨j + 1, by omega, by go_num, by rw [hN.out]; go_num, hbU⟩
                        case measure => simp [intOf]; omega
                      · have hkk : k + 1 < M.length := by omega
                        obtain ⟨_, z1⟩ := Rds.all1 hE7 (k := k + 1) hkk
                        rw [getB hkk] at hib0
                        have z2 := z1
                        rw [← Nat.add_assoc] at z2
                        have hk1 : (k : Int) + 1 < (M.length : Int) := by omega
                        have hq : ((k : Int) == (M.length : Int) - 1) = false := by rw [beq_eq_false_iff_ne]; omega
                        have ht1 : ((k : Int) + 1).toNat = k + 1 := by omega
                        have hN : Hid (nBand M L s Ds k (j + 1) = n + if m < M[k + 1] then 1 else 0) := by show _ = _; rw [HSU.out, hin, hib0, decide_eq_true h1, decide_eq_false h2]; simp
                        clear HSU hib0 h2
                        generalize M[k] = ek at z0 h1
                        generalize M[k + 1] = el at z1 z2 hN
                        clear hkk
                        by_cases h3 : m < el
                        · replace hN : Hid (nBand M L s Ds k (j + 1) = n + 1) := by show _ = _; rw [hN.out, if_pos h3]
                          go_wp2
                          go_roundw
                          case rel => exact ⟨j + 1, by omega, by go_num, by rw [hN.out]; go_num, hbU⟩
                          case measure => simp [intOf]; omega
                        · replace hN : Hid (nBand M L s Ds k (j + 1) = n) := by show _ = _; rw [hN.out, if_neg h3]; rfl
                          go_wp2
                          go_roundw
                          case rel => exact ⟨j + 1, by omega, by go_num, by rw [hN.out], hbU⟩
                          case measure => simp [intOf]; omega
                    · have hN : Hid (nBand M L s Ds k (j + 1) = n) := by show _ = _; rw [HSU.out, hin, hib0, decide_eq_false h1]; simp
                      clear HSU hib0
                      generalize M[k] = ek at z0 h1
                      go_wp2
                      go_roundw
                      case rel => exact ⟨j + 1, by omega, by go_num, by rw [hN.out], hbU⟩
                      case measure => simp [intOf]; omega
                · obtain rfl : j = Ds.length := by omega
                  have hkr : k < R.length := by rw [HRL.out]; exact hlt
                  have hrl := HRL.out
                  have hX7 := hX.below hbV
                  obtain ⟨bR, offR, hRe, hbR, r0⟩ := hX7.at1 hkr
                  subst hRe
                  rw [HRat.out k hkr] at r0
                  generalize nBand M L s Ds k Ds.length = n at r0 ⊢
                  have hkr2 : (k : Int) < (R.length : Int) := by omega
                  clear hkr hrl hX7
                  go_wp2
                  go_roundw
                  case rel => exact ⟨k + 1, by omega, by go_num, hbV⟩
                  case measure => simp [intOf]; omega
            · have hrl : ((R.length : Int) == (M.length : Int)) = true := by rw [HRL.out]; simp
              go_wp2
              go_ret
              exact ⟨ret_bool (by first | rfl | exact hrl), hB6.trans (hbW.mono hB6.size)⟩
end Go.Proofs.Yteomiaffdbbpoaa
