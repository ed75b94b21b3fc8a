/-
  The walk of FnExactFacetOf.
-/
import Derived.Test.YteomiaffdbbpoaaFacetOf
import Derived.Test.YteomiaffdbbpoaaExactDocs
import Derived.Test.YteomiaffdbbpoaaDocsOf
namespace Go.Proofs.Yteomiaffdbbpoaa
open Go.RowKit
set_option linter.unusedVariables false

theorem row_intsD {w : World} {a : Option Addr} {len cap : Nat} {zs : List Int} (h : IsRow .i64 w a len cap zs) : ∃ L : List Int, L.length = len ∧ RdI w a L ∧ len ≤ 9223372036854775807 := by
  obtain ⟨h1, h2, h3⟩ := Rds.row h
  have hl : (zs.take len).length = len := by have := h1.1; simpa [ints] using this
  exact ⟨zs.take len, hl, by unfold RdI; rw [hl]; exact h1, by unfold maxLen at h3; omega⟩

set_option maxRecDepth 4000 in
set_option maxHeartbeats 3200000 in
theorem core_FnExactFacetOf (w : World) (A : Option Addr) (c : Nat) (Ds : List DocD) (h : RdD w A Ds) (hD0 : Ds.length ≤ 9223372036854775807) (hbg : ∀ d ∈ Ds, BgD d) (name : ByteArray) (hnm0 : name.size ≤ 9223372036854775807) (Ai : Option Addr) (ci : Nat) (ids : List Int) (h_ids : RdI w Ai ids) (hil0 : ids.length ≤ 9223372036854775807) :
    Calls Try.prog 12 #[.slice A Ds.length c, .slice Ai ids.length ci, .string name] w fun e w' => e = .returned (.bool true) ∧ Below w.heap.size w w' := by
  by_cases hl_ids : ids.length ≤ 1048576
  case neg =>
    have hh : (1048576 : Int) < (ids.length : Int) := by omega
    go_enter Try.func12, Try.ntmps12
    go_wp2
    go_ret
    exact ⟨rfl, Below.refl _ _⟩
  by_cases hl_name : name.size ≤ 1048576
  case neg =>
    have hh : (1048576 : Int) < (name.size : Int) := by omega
    go_enter Try.func12, Try.ntmps12
    go_wp2
    go_ret
    exact ⟨rfl, Below.refl _ _⟩
  have HBG := Lib.hid hbg
  clear hbg
  go_enter Try.func12, Try.ntmps12
  go_wp2_with fail
  refine (szDocS_any A c Ds 1048576 _ h hD0 HBG.out (by omega) (by omega)).mono ?_
  rintro e w1 ⟨r1, ⟨rfl, hr1, hs1⟩, hb⟩
  have hB1 := hb
  by_cases hn1 : r1 < 0
  case pos =>
    go_wp2
    go_ret
    exact ⟨rfl, hB1⟩
  have hSD := Lib.hid (hs1.resolve_left hn1)
  clear hs1 HBG hb
  have hDl := hSD.out.1
  obtain ⟨X, hX⟩ : ∃ X : List (Int × Int), X = facetF Ds ids name := ⟨_, rfl⟩
  have hXl : X.length ≤ 1048576 := by rw [hX]; have := facetF_len Ds ids name; omega
  have ci9 := fun A Ai c ci w hd hi => implFacet_any A Ai c ci Ds ids name w hd hSD.out hi (by omega)
  have cs9 := fun A Ai c ci w hd hi => specFacet_any A Ai c ci Ds ids name w hd hSD.out hi (by omega)
  rw [← hX] at ci9 cs9
  have CI := Lib.hid ci9
  have CS := Lib.hid cs9
  clear hX ci9 cs9
  have sz0 := hB1.size
  go_wp2_with fail
  refine (toDocS_any A c Ds _ (h.below hB1) hSD.out).mono ?_
  rintro e w3 ⟨ga, ⟨rfl, da, xa⟩, hb⟩
  have hb9 := hb.size
  have hB3 := hB1.trans (hb.mono hB1.size)
  have za : w1.heap.size ≤ w3.heap.size := hb9
  have s3 : w1.heap.size ≤ w3.heap.size := hb9
  clear hb9 hb
  clear xa
  go_wp2_with fail
  refine (toIntS_any Ai ci ids _ (h_ids.below hB3) hl_ids).mono ?_
  rintro e w4 ⟨ba0, ca0, ⟨rfl, ra0⟩, hb⟩
  have ta0 := ra0.lt
  have hb9 := hb.size
  replace da := da.below hb
  have hB4 := hB3.trans (hb.mono hB3.size)
  have s4 : w3.heap.size ≤ w4.heap.size := hb9
  clear hb9 hb
  go_wp2_with fail
  refine (CS.out _ _ _ _ _ da (Rds.own ra0)).mono ?_
  rintro e w5 ⟨bW, cW, ⟨rfl, rW⟩, hb⟩
  have hb9 := hb.size
  replace ra0 := own_below ra0 hb
  replace da := da.below hb
  have hB5 := hB4.trans (hb.mono hB4.size)
  have hBW : Below w5.heap.size w5 w5 := Below.refl _ _
  have s5 : w4.heap.size ≤ w5.heap.size := hb9
  clear hb9 hb
  clear ra0 ta0
  clear da
  go_wp2_with fail
  refine (toDocS_any A c Ds _ (h.below hB5) hSD.out).mono ?_
  rintro e w6 ⟨gm, ⟨rfl, dm, xm⟩, hb⟩
  have hb9 := hb.size
  replace hBW := hBW.trans (hb.mono hBW.size)
  have hB6 := hB5.trans (hb.mono hB5.size)
  have zm : w5.heap.size ≤ w6.heap.size := hb9
  have s6 : w5.heap.size ≤ w6.heap.size := hb9
  clear hb9 hb
  go_wp2_with fail
  refine (toIntS_any Ai ci ids _ (h_ids.below hB6) hl_ids).mono ?_
  rintro e w7 ⟨bm0, cm0, ⟨rfl, rm0⟩, hb⟩
  have tm0 := rm0.lt
  have hb9 := hb.size
  replace dm := dm.below hb
  replace xm := xm.below hb
  replace hBW := hBW.trans (hb.mono hBW.size)
  have hB7 := hB6.trans (hb.mono hB6.size)
  have s7 : w6.heap.size ≤ w7.heap.size := hb9
  clear hb9 hb
  go_wp2_with fail
  refine (CI.out _ _ _ _ _ dm (Rds.own rm0)).mono ?_
  rintro e w8 ⟨bG, cG, ⟨rfl, rG⟩, hb⟩
  have tG := rG.lt
  have hb9 := hb.size
  replace rm0 := own_below rm0 hb
  replace dm := dm.below hb
  replace xm := xm.below hb
  replace hBW := hBW.trans (hb.mono hBW.size)
  have hB8 := hB7.trans (hb.mono hB7.size)
  have s8 : w7.heap.size ≤ w8.heap.size := hb9
  clear hb9 hb
  go_wp2_with fail
  refine (eqFacetS_same _ _ _ _ X _ (Rds.own rG) (rW.below hBW).1 (by omega)).mono ?_
  rintro e w9 ⟨rfl, hb⟩
  have hb9 := hb.size
  replace rm0 := own_below rm0 hb
  replace rG := own_below rG hb
  replace dm := dm.below hb
  replace xm := xm.below hb
  replace hBW := hBW.trans (hb.mono hBW.size)
  have hB9 := hB8.trans (hb.mono hB8.size)
  have s9 : w8.heap.size ≤ w9.heap.size := hb9
  clear hb9 hb
  go_wp2_with fail
  refine (toDocS_any A c Ds _ (h.below hB9) hSD.out).mono ?_
  rintro e w10 ⟨gq, ⟨rfl, dq, xq⟩, hb⟩
  have hb9 := hb.size
  replace rm0 := own_below rm0 hb
  replace rG := own_below rG hb
  replace dm := dm.below hb
  replace xm := xm.below hb
  replace hBW := hBW.trans (hb.mono hBW.size)
  have hB10 := hB9.trans (hb.mono hB9.size)
  have zq : w9.heap.size ≤ w10.heap.size := hb9
  have s10 : w9.heap.size ≤ w10.heap.size := hb9
  clear hb9 hb
  clear xq
  go_wp2_with fail
  refine (eqDocS_same _ _ _ _ Ds _ dm dq hSD.out).mono ?_
  rintro e w11 ⟨rfl, hb⟩
  have hb9 := hb.size
  replace rm0 := own_below rm0 hb
  replace rG := own_below rG hb
  replace dm := dm.below hb
  replace dq := dq.below hb
  replace xm := xm.below hb
  replace hBW := hBW.trans (hb.mono hBW.size)
  have hB11 := hB10.trans (hb.mono hB10.size)
  have s11 : w10.heap.size ≤ w11.heap.size := hb9
  clear hb9 hb
  clear dq
  go_wp2_with fail
  refine (toIntS_any Ai ci ids _ (h_ids.below hB11) hl_ids).mono ?_
  rintro e w12 ⟨bq0, cq0, ⟨rfl, rq0⟩, hb⟩
  have tq0 := rq0.lt
  have hb9 := hb.size
  replace rm0 := own_below rm0 hb
  replace rG := own_below rG hb
  replace dm := dm.below hb
  replace xm := xm.below hb
  replace hBW := hBW.trans (hb.mono hBW.size)
  have hB12 := hB11.trans (hb.mono hB11.size)
  have s12 : w11.heap.size ≤ w12.heap.size := hb9
  clear hb9 hb
  go_wp2_with fail
  refine (eqIntS_same _ _ _ _ ids _ (Rds.own rm0) (Rds.own rq0) (by omega)).mono ?_
  rintro e w13 ⟨rfl, hb⟩
  have hb9 := hb.size
  replace rm0 := own_below rm0 hb
  replace rG := own_below rG hb
  replace rq0 := own_below rq0 hb
  replace dm := dm.below hb
  replace xm := xm.below hb
  replace hBW := hBW.trans (hb.mono hBW.size)
  have hB13 := hB12.trans (hb.mono hB12.size)
  have s13 : w12.heap.size ≤ w13.heap.size := hb9
  clear hb9 hb
  clear rq0 tq0
  go_wp2_with fail
  refine (markDocS_any _ _ _ _ Ds _ xm hSD.out).mono ?_
  rintro e w14 ⟨km, ⟨rfl, hk0, hk1⟩, hz⟩
  have hb9 := hz.2.1
  have hWs := hBW.size
  replace hBW := hBW.trans (hz.below (by omega) (by omega))
  clear hWs
  have hB14 := hB13.trans (hz.below (by omega) (by omega))
  replace rm0 := own_zoneR rm0 hz (fun k hk => by have := tm0 k hk; omega)
  replace rG := own_zoneR rG hz (fun k hk => by have := tG k hk; omega)
  clear hz xm dm
  have s14 : w13.heap.size ≤ w14.heap.size := hb9
  clear hb9
  go_wp2_with fail
  refine (markIntS_any _ _ ids (km) _ _ rm0 (by omega) (by omega) (by omega)).mono ?_
  rintro e w15 ⟨⟨rfl, rn⟩, hg⟩
  have hb9 := hg.size
  have hWs := hBW.size
  replace hBW := hBW.trans (below_append rm0 hg (by omega) (by omega))
  clear hWs
  have hB15 := hB14.trans (below_append rm0 hg (by omega) (by omega))
  replace rG := own_kept rG hg (fun k k2 e1 e2 => by have := tG k e1; have := tm0 k2 e2; omega)
  replace rm0 := rn
  clear rn hg
  have s15 : w14.heap.size ≤ w15.heap.size := hb9
  clear hb9
  clear rm0 tm0
  go_wp2_with fail
  refine (eqFacetS_same _ _ _ _ X _ (Rds.own rG) (rW.below hBW).1 (by omega)).mono ?_
  rintro e w16 ⟨rfl, hb⟩
  have hb9 := hb.size
  replace rG := own_below rG hb
  replace hBW := hBW.trans (hb.mono hBW.size)
  have hB16 := hB15.trans (hb.mono hB15.size)
  have s16 : w15.heap.size ≤ w16.heap.size := hb9
  clear hb9 hb
  go_wp2_with fail
  refine (markFacetS_any _ _ _ X 1 _ rG (by omega) (by omega) (by omega)).mono ?_
  rintro e w17 ⟨⟨rfl, rn⟩, hg⟩
  have hb9 := hg.size
  have hWs := hBW.size
  replace hBW := hBW.trans (below_append rG hg (by omega) (by omega))
  clear hWs
  have hB17 := hB16.trans (below_append rG hg (by omega) (by omega))
  replace rG := rn
  clear rn hg
  have s17 : w16.heap.size ≤ w17.heap.size := hb9
  clear hb9
  go_wp2_with fail
  refine (heldFacetS_any _ _ X.length 1 _ (Rds.own rG) (by omega) (by omega) (by omega)).mono ?_
  rintro e w18 ⟨rfl, hb⟩
  have hb9 := hb.size
  replace rG := own_below rG hb
  replace hBW := hBW.trans (hb.mono hBW.size)
  have hB18 := hB17.trans (hb.mono hB17.size)
  have s18 : w17.heap.size ≤ w18.heap.size := hb9
  clear hb9 hb
  go_wp2_with fail
  refine (toDocS_any A c Ds _ (h.below hB18) hSD.out).mono ?_
  rintro e w19 ⟨ge, ⟨rfl, de, xe⟩, hb⟩
  have hb9 := hb.size
  replace rG := own_below rG hb
  replace hBW := hBW.trans (hb.mono hBW.size)
  have hB19 := hB18.trans (hb.mono hB18.size)
  have ze : w18.heap.size ≤ w19.heap.size := hb9
  have s19 : w18.heap.size ≤ w19.heap.size := hb9
  clear hb9 hb
  clear xe
  go_wp2_with fail
  refine (toIntS_any Ai ci ids _ (h_ids.below hB19) hl_ids).mono ?_
  rintro e w20 ⟨be0, ce0, ⟨rfl, re0⟩, hb⟩
  have te0 := re0.lt
  have hb9 := hb.size
  replace rG := own_below rG hb
  replace de := de.below hb
  replace hBW := hBW.trans (hb.mono hBW.size)
  have hB20 := hB19.trans (hb.mono hB19.size)
  have s20 : w19.heap.size ≤ w20.heap.size := hb9
  clear hb9 hb
  go_wp2_with fail
  refine (CI.out _ _ _ _ _ de (Rds.own re0)).mono ?_
  rintro e w21 ⟨bH, cH, ⟨rfl, rH⟩, hb⟩
  have tH := rH.lt
  have hb9 := hb.size
  replace rG := own_below rG hb
  replace re0 := own_below re0 hb
  replace de := de.below hb
  replace hBW := hBW.trans (hb.mono hBW.size)
  have hB21 := hB20.trans (hb.mono hB20.size)
  have s21 : w20.heap.size ≤ w21.heap.size := hb9
  clear hb9 hb
  clear re0 te0
  clear de
  go_wp2_with fail
  refine (eqFacetS_same _ _ _ _ X _ (Rds.own rH) (rW.below hBW).1 (by omega)).mono ?_
  rintro e w22 ⟨rfl, hb⟩
  have hb9 := hb.size
  replace rG := own_below rG hb
  replace rH := own_below rH hb
  replace hBW := hBW.trans (hb.mono hBW.size)
  have hB22 := hB21.trans (hb.mono hB21.size)
  have s22 : w21.heap.size ≤ w22.heap.size := hb9
  clear hb9 hb
  clear rH tH
  go_wp2_with fail
  refine (heldFacetS_any _ _ X.length 1 _ (Rds.own rG) (by omega) (by omega) (by omega)).mono ?_
  rintro e w23 ⟨rfl, hb⟩
  have hb9 := hb.size
  replace rG := own_below rG hb
  replace hBW := hBW.trans (hb.mono hBW.size)
  have hB23 := hB22.trans (hb.mono hB22.size)
  have s23 : w22.heap.size ≤ w23.heap.size := hb9
  clear hb9 hb
  go_wp2
  go_ret
  exact ⟨rfl, hB23⟩
theorem walk_FnExactFacetOf (a0 : Option Addr) (len0 cap0 : Nat) (z0 : List DocD) (a1 : Option Addr) (len1 cap1 : Nat) (z1 : List Int) (name : ByteArray) (hnm : name.size ≤ maxLen) (w : World)
    (hz0 : z0.length = len0) (h0 : RdD w a0 z0) (l0 : len0 ≤ cap0 ∧ cap0 ≤ maxLen) (b0 : ∀ d ∈ z0, BgD d) (h1 : IsRow .i64 w a1 len1 cap1 z1) :
    Calls Try.prog 12 #[.slice a0 len0 cap0, .slice a1 len1 cap1, .string name] w fun e w' => e = .returned (.bool true) ∧ Below w.heap.size w w' := by
  obtain ⟨L, rfl, hL, hm⟩ := row_intsD h1
  subst hz0
  unfold maxLen at hnm l0
  exact core_FnExactFacetOf w a0 cap0 z0 h0 (by omega) b0 name hnm a1 cap1 L hL hm
end Go.Proofs.Yteomiaffdbbpoaa
