/-
  Contracts of l16Of, spec.FacetOf.
-/
import Derived.Test.YteomiaffdbbpoaaFacetSort
import Derived.Test.YteomiaffdbbpoaaTopSpec
namespace Go.Proofs.Yteomiaffdbbpoaa
open Go.RowKit Go.Sort Go.Maps
set_option linter.unusedVariables false

set_option maxRecDepth 4000 in
set_option maxHeartbeats 1600000 in
theorem l16Of_any (A Ai : Option Addr) (c ci : Nat) (Ds : List DocD) (ids : List Int) (name : ByteArray) (w : World) (h : RdD w A Ds) (hs : SmDs Ds) (hi : RdI w Ai ids) (hil : ids.length ≤ 4194304) (hdb : docsB Ds = true) :
    Calls Try.prog 82 #[.slice A Ds.length c, .slice Ai ids.length ci, .string name] w (MakesF (facetL (selL ids name Ds)) w) := by
  have hDl := hs.1
  have HSM := Lib.hid hs.2
  have HDB := Lib.hid (docsB_doc hdb)
  clear hdb
  obtain ⟨R, hR⟩ : ∃ R, R = facetL (selL ids name Ds) := ⟨_, rfl⟩
  rw [← hR]
  have HR := Lib.hid hR
  clear hR
  have hB0 : Below w.heap.size w (w.alloc (.cells #[] 73)) := (Below.refl _ _).alloc (Nat.le_refl _) _
  have own0 := ownE_made (enc := enc2) (F := 2) 73 w w.heap.size (Nat.le_refl _)
  go_enter Try.func82, Try.ntmps82
  go_wp2_with fail
  go_loopw [7, 8, 9] (fun ov iv _ wr => ∃ i : Nat, i ≤ Ds.length ∧ iv = .int .i64 i ∧ ∃ (g c : Nat) (L : FacL), ov = .slice (some ⟨g, 0, none⟩) L.length c ∧ Hid (AscF L ∧ OfS L (selL ids name (Ds.take i))) ∧ L.length ≤ i ∧ OwnE enc2 73 2 wr w.heap.size g c L ∧ Below w.heap.size w wr) (fun _ iv _ _ => Ds.length - (intOf iv).toNat)
  case atStart => exact ⟨0, Nat.zero_le _, rfl, w.heap.size, 0, [], rfl, ⟨List.Pairwise.nil, fun p => by simp [selL]⟩, Nat.le_refl _, own0, hB0⟩
  case round =>
    obtain ⟨i, hik, rfl, g, co, L, rfl, hL, hLl, hown, hB⟩ := hrel
    have hBs := hB.size
    by_cases hlt : i < Ds.length
    · obtain ⟨b, off, A1, c1, A2, c2, hAe, hb, x0, x1, x2, hdd⟩ := (h.below hB) i hlt
      subst hAe
      have hi0 : (i : Int) < (Ds.length : Int) := by omega
      have hsm := HSM.out _ (List.getElem_mem hlt)
      have hdn := docNum_ok (HDB.out i hlt) name
      have hrg := docNum_range9 (d := Ds[i]) name
      rw [hdn] at hrg
      have hy := selL_yes (ids := ids) (name := name) hlt
      have hno := selL_no (ids := ids) (name := name) hlt
      unfold selP at hy hno
      rw [hdn] at hy hno
      have hsl : (selL ids name (Ds.take i)).length ≤ Ds.length := Nat.le_trans (selL_len _ _ _) (by rw [List.length_take]; omega)
      have HY := Lib.hid hy
      have HNO := Lib.hid hno
      clear hy hno hdn
      generalize selL ids name (Ds.take i) = S at hL HY HNO hsl
      generalize Ds[i] = d at x0 x1 x2 hdd hsm HY HNO hrg
      obtain ⟨id, fs, ns⟩ := d
      dsimp only at x0 x1 x2 HY HNO hrg
      go_wp2_with fail
      refine (l6Num_any ⟨id, fs, ns⟩ A1 A2 c1 c2 name _ hdd hsm).mono ?_
      rintro e w5 ⟨rfl, hb5⟩
      have own5 : OwnE enc2 73 2 w5 w.heap.size g co L := own_below hown hb5
      have hB5 := hB.trans (hb5.mono hB.size)
      have y0 := (hb5.cell (p := ⟨b, off + i * 3, none⟩) hb).trans x0
      have hi5 := hi.below hB5
      have hB5s := hB5.size
      clear hown hb5 hB x0 x1 x2 hdd hsm
      dsimp only
      generalize numR name ns = n at HY HNO hrg ⊢
      by_cases hn : 0 ≤ n
      · go_wp2_with fail
        refine (l8Has_any Ai ci ids id _ hi5 (by omega)).mono ?_
        rintro e w6 ⟨rfl, rfl⟩
        cases hin : inB ids id with
        | true =>
          have hS' := HY.out (by rw [hin, decide_eq_true (by omega)]; rfl)
          have hcap := own5.capOk
          have hcm := hcap.2.1
          unfold maxLen at hcm
          have hcnt : ∀ p ∈ L, 0 ≤ p.2 ∧ p.2 ≤ 1048576 := fun p hp => by
            have h1 := (hL.out.2 p).1 hp
            have h2 := cntI_le S p.1
            rw [h1.2]; omega
          go_wp2_with fail
          refine (l16Put_any _ co L S n _ own5.src (by omega) hcap.1 (by omega) hL.out.1 hL.out.2 hcnt).mono ?_
          rintro e w7 ⟨g7, c7, N, ⟨rfl, hN1, hN2, hNl, own7⟩, hb7⟩
          have own7b : OwnE enc2 73 2 w7 w.heap.size g7 c7 N := own_mono own7 hB5s
          have hB7 := hB5.trans (hb7.mono hB5s)
          have HN : Hid (AscF N ∧ OfS N (selL ids name (Ds.take (i + 1)))) := ⟨hN1, by rw [hS']; exact hN2⟩
          clear hN1 hN2 hS' hcnt hL HY HNO own5 own7 hb7 hB5
          go_wp2
          go_roundw
          case rel => exact ⟨i + 1, by omega, by go_num, g7, c7, N, rfl, HN, by omega, own7b, hB7⟩
          case measure => simp [intOf]; omega
        | false =>
          have HS : Hid (AscF L ∧ OfS L (selL ids name (Ds.take (i + 1)))) := by show _ ∧ _; rw [HNO.out (by rw [hin]; simp)]; exact hL.out
          clear hL HY HNO
          go_wp2
          go_roundw
          case rel => exact ⟨i + 1, by omega, by go_num, g, co, L, rfl, HS, by omega, own5, hB5⟩
          case measure => simp [intOf]; omega
      · have HS : Hid (AscF L ∧ OfS L (selL ids name (Ds.take (i + 1)))) := by show _ ∧ _; rw [HNO.out (by rw [decide_eq_false (by omega)]; rfl)]; exact hL.out
        clear hL HY HNO
        go_wp2
        go_roundw
        case rel => exact ⟨i + 1, by omega, by go_num, g, co, L, rfl, HS, by omega, own5, hB5⟩
        case measure => simp [intOf]; omega
    · obtain rfl : i = Ds.length := by omega
      have hL2 := hL.out
      rw [List.take_length] at hL2
      have hR := insAll_facet hL2.1 hL2.2
      rw [← HR.out] at hR
      have hasc := hL2.1
      clear hL hL2 HR
      go_wp2_with fail
      refine (l16Sort_any _ co L _ hown.src (by omega) hasc).mono ?_
      rw [hR]
      rintro e w7 ⟨g7, c7, ⟨rfl, own7⟩, hb7⟩
      go_wp2
      go_ret
      exact ⟨g7, c7, ⟨rfl, own_mono own7 hBs⟩, hB.trans (hb7.mono hBs)⟩
theorem specFacet_any (A Ai : Option Addr) (c ci : Nat) (Ds : List DocD) (ids : List Int) (name : ByteArray) (w : World) (h : RdD w A Ds) (hs : SmDs Ds) (hi : RdI w Ai ids) (hil : ids.length ≤ 4194304) :
    Calls Try.prog 48 #[.slice A Ds.length c, .slice Ai ids.length ci, .string name] w (ReadsH (facetF Ds ids name) w) := by
  obtain ⟨R, hR⟩ : ∃ R, R = facetF Ds ids name := ⟨_, rfl⟩
  rw [← hR]
  have HR := Lib.hid hR
  clear hR
  have hDl := hs.1
  go_enter Try.func48, Try.ntmps48
  go_wp2_with fail
  refine (l6Docs_any A c Ds _ h hs).mono ?_
  rintro e w1 ⟨rfl, hb1⟩
  cases hd : docsB Ds with
  | false =>
    obtain rfl : R = [] := by rw [HR.out]; unfold facetF; rw [if_neg (by rw [hd]; simp)]
    go_wp2
    go_ret
    exact ⟨none, 0, ⟨rfl, SrcE.nil_ _ 0⟩, hb1⟩
  | true =>
    go_wp2_with fail
    refine (l3Up_any Ai ci ids _ (hi.below hb1) (by omega)).mono ?_
    rintro e w2 ⟨rfl, q2, rfl⟩
    have hb2 : Below w.heap.size w (w1.drewN q2) := hb1.trans (below_of_drewN.mono hb1.size)
    generalize w1.drewN q2 = w2 at hb2 ⊢
    clear hb1
    cases hu : upB ids with
    | false =>
      obtain rfl : R = [] := by rw [HR.out]; unfold facetF; rw [if_neg (by rw [hu]; simp)]
      go_wp2
      go_ret
      exact ⟨none, 0, ⟨rfl, SrcE.nil_ _ 0⟩, hb2⟩
    | true =>
      have hc := l16Of_any A Ai c ci Ds ids name w2 (h.below hb2) hs (hi.below hb2) hil hd
      have hR2 : facetL (selL ids name Ds) = R := by rw [HR.out]; unfold facetF; rw [if_pos ⟨hd, hu⟩]
      rw [hR2] at hc
      clear HR hR2
      go_wp2_with fail
      refine hc.mono ?_
      rintro e w3 ⟨g3, c3, ⟨rfl, own3⟩, hb3⟩
      go_wp2
      go_ret
      exact ⟨_, _, ⟨rfl, OwnE.src (enc := enc2) own3⟩, hb2.trans (hb3.mono hb2.size)⟩
end Go.Proofs.Yteomiaffdbbpoaa
