/-
  The walk of FnNearAll.
-/
import Derived.Test.YtoifknepebplnaaFoNear
namespace Go.Proofs.Ytoifknepebplnaa
open Go.RowKit
set_option linter.unusedVariables false

theorem foSpans_b (A A' : Option Addr) (c c' : Nat) (L : List (Int × Int)) (w : World) (h : Rds w 2 A L.length (L.flatMap enc2)) (h' : Rds w 2 A' L.length (L.flatMap enc2)) (hn : L.length ≤ 4194304) :
    Calls Try.prog 45 #[.slice A L.length c, .slice A' L.length c'] w fun e w' => e = .returned (.bool true) ∧ Below w.heap.size w w' := by
  refine (foSpans_same A A' c c' L w h h' hn).mono ?_
  rintro e w' ⟨rfl, q, rfl⟩
  exact ⟨rfl, below_of_drewN⟩
set_option maxHeartbeats 1600000 in
theorem walk_FnNearAll (a0 : Option Addr) (len cap : Nat) (zs : List Int) (w : World) (hrow : IsRow .u8 w a0 len cap zs) :
    Calls Try.prog 12 #[.slice a0 len cap] w fun e w' => e = .returned (.bool true) ∧ Below w.heap.size w w' := by
  obtain ⟨hc1, hc2, _⟩ := code_of_row hrow
  by_cases hbig : (1048576 : Int) < (len : Int)
  · go_enter Try.func12, Try.ntmps12
    go_wp2
    go_ret
    exact ⟨rfl, Below.refl _ _⟩
  · go_enter Try.func12, Try.ntmps12
    go_wp2_with fail
    refine (drawNearAll_any a0 len cap zs _ hrow).mono ?_
    rintro e w0 ⟨B, d, Ls, ⟨rfl, hl1, hl5, hL4, hS, hcd, hcd2⟩, hB0⟩
    clear hrow
    have hn : total Ls ≤ 1048576 := by have := total_le 4 hL4; omega
    have hSl := near_len Ls hn
    have cN := fun A c w h => nearAll_any A c Ls w h hn
    have cS := fun A c w h => specNearAll_near A c Ls w h hn
    have hIs : ∀ s ∈ nearI Ls, all9 Ls s.1 s.2 = true ∧ all9 Ls (s.1 + 1) s.2 = false ∧ all9 Ls s.1 (s.2 - 1) = false ∧ s.1 ≤ s.2 ∧ 0 ≤ s.1 ∧ s.2 ≤ 999999999 := fun s hs => near_is hs
    have hAsc := near_asc (Ls := Ls)
    obtain ⟨S, hSS⟩ : ∃ S, S = nearI Ls := ⟨_, rfl⟩
    rw [← hSS] at cN cS hSl hIs hAsc
    have CN := Lib.hid cN
    have CS := Lib.hid cS
    have HIs := Lib.hid hIs
    have HAsc := Lib.hid hAsc
    clear hSS cN cS hIs hAsc hL4
    go_wp2_with fail
    refine (CN.out _ _ _ hS).mono ?_
    rintro e w1 ⟨g1, d1, ⟨rfl, own⟩, hb⟩
    replace hS := hS.below hb
    have hB1 := hB0.trans (hb.mono hB0.size)
    clear hb hB0
    go_wp2_with fail
    refine (CS.out _ _ _ hS).mono ?_
    rintro e w2 ⟨b2, d2, ⟨rfl, rS⟩, hb⟩
    replace hS := hS.below hb
    replace own := own_below own hb
    have hB2 := hB1.trans (hb.mono hB1.size)
    clear hb hB1
    go_wp2_with fail
    refine (foSpans_b _ _ _ _ S _ (Rds.own own) (Rds.own rS) (by omega)).mono ?_
    rintro e w3 ⟨rfl, hb⟩
    replace hS := hS.below hb
    replace own := own_below own hb
    have hB3 := hB2.trans (hb.mono hB2.size)
    clear hb hB2 rS
    by_cases hz : S.length = 0
    · have hz1 : ((S.length : Int) == 0) = true := by simp [hz]
      clear hz
      go_wp2_with fail
      refine (CS.out _ _ _ hS).mono ?_
      rintro e w4 ⟨b4, d4, ⟨rfl, rT⟩, hb⟩
      replace own := own_below own hb
      have hB4 := hB3.trans (hb.mono hB3.size)
      clear hb hB3
      go_wp2_with fail
      refine (foSpans_b _ _ _ _ S _ (Rds.own own) (Rds.own rT) (by omega)).mono ?_
      rintro e w5 ⟨rfl, hb⟩
      have hB5 := hB4.trans (hb.mono hB4.size)
      go_wp2
      go_ret
      exact ⟨rfl, hB5⟩
    · have hz1 : ((S.length : Int) == 0) = false := beq_eq_false_iff_ne.2 (by omega)
      clear hz CN CS
      go_wp2_with fail
      go_loopw [5, 6] (fun iv _ wr => ∃ i : Nat, i ≤ S.length ∧ iv = .int .i64 i ∧ Below w3.heap.size w3 wr) (fun iv _ _ => S.length - (intOf iv).toNat)
      case atStart => exact ⟨0, Nat.zero_le _, rfl, Below.refl _ _⟩
      case round =>
        obtain ⟨i, hi, rfl, hBi⟩ := hrel
        have hBs := hBi.size
        by_cases hlt : i < S.length
        · obtain ⟨b, off, e, hb, x0, x1⟩ := ((Rds.own own).below hBi).at2 hlt
          simp only [Option.some.injEq, Addr.mk.injEq, and_true] at e
          obtain ⟨rfl, rfl⟩ := e
          rw [Nat.zero_add] at x0 x1
          have hi0 : (i : Int) < (S.length : Int) := by omega
          obtain ⟨a1, a2, a3, hp1, hp0, hp2⟩ := HIs.out S[i] (List.getElem_mem _)
          have hS2 := hS.below hBi
          have hS3 := hS2.below (w' := wr.alloc (.cells #[.int .i64 S[i].1, .int .i64 S[i].2] 47)) (by (repeat' (first | exact Below.refl _ _ | apply Below.alloc | apply Below.setCell | apply Below.drew | apply below_draws)) <;> (first | omega | (simp <;> omega)))
          rcases Nat.eq_zero_or_pos i with rfl | hpos
          · rw [Nat.zero_mul] at x0
            rw [Nat.zero_mul, Nat.zero_add] at x1
            generalize S[0].1 = p at x0 a1 a2 a3 hp0 hp1 hS3
            generalize S[0].2 = r at x1 a1 a2 a3 hp1 hp2 hS3
            have hw1 : IntKind.i64.wrap (p + 1) = p + 1 := IntWalk.i64_in _ (by omega)
            have hw2 : IntKind.i64.wrap (r - 1) = r - 1 := IntWalk.i64_in _ (by omega)
            go_wp2_with fail
            go_quiet ((go_at_call 47; first | exact qsame (foAll_any _ _ _ _ _ _ (hS3.drawn _) hn) | exact qsame2 (foAll_any _ _ _ _ _ _ (hS3.drawn _) hn)))
            go_wp2
            go_roundw
            case rel => exact ⟨1, by omega, by first | rfl | go_num, hBi.trans (by (repeat' (first | exact Below.refl _ _ | apply Below.alloc | apply Below.setCell | apply Below.drew | apply below_draws)) <;> (first | omega | (simp <;> omega)))⟩
            case measure => simp [intOf]; omega
          · obtain ⟨j, rfl⟩ : ∃ j, i = j + 1 := ⟨i - 1, by omega⟩
            obtain ⟨b, off, e, hb', y0, y1⟩ := ((Rds.own own).below hBi).at2 (k := j) (by omega)
            simp only [Option.some.injEq, Addr.mk.injEq, and_true] at e
            obtain ⟨rfl, rfl⟩ := e
            rw [Nat.zero_add] at y0 y1
            obtain ⟨hf1, hf2⟩ := List.pairwise_iff_getElem.1 HAsc.out j (j + 1) (by omega) hlt (by omega)
            obtain ⟨_, _, _, hq1, hq0, hq2⟩ := HIs.out (S[j]'(by omega)) (List.getElem_mem _)
            generalize (S[j]'(by omega)).1 = p' at y0 hf1 hq0 hq1
            generalize (S[j]'(by omega)).2 = r' at y1 hf2 hq1 hq2
            generalize S[j + 1].1 = p at x0 a1 a2 a3 hp0 hp1 hS3 hf1
            generalize S[j + 1].2 = r at x1 a1 a2 a3 hp1 hp2 hS3 hf2
            have hw1 : IntKind.i64.wrap (p + 1) = p + 1 := IntWalk.i64_in _ (by omega)
            have hw2 : IntKind.i64.wrap (r - 1) = r - 1 := IntWalk.i64_in _ (by omega)
            have hi1 : (j : Int) + 1 < (S.length : Int) := by omega
            have hi2 : (j : Int) < (S.length : Int) := by omega
            have t1 : ((j : Int) + 1).toNat = j + 1 := by omega
            have nle1 : decide (p ≤ p') = false := by simp; omega
            have nle2 : decide (r ≤ r') = false := by simp; omega
            go_wp2_with fail
            go_quiet ((go_at_call 47; first | exact qsame (foAll_any _ _ _ _ _ _ (hS3.drawn _) hn) | exact qsame2 (foAll_any _ _ _ _ _ _ (hS3.drawn _) hn)))
            go_wp2
            go_roundw
            case rel => exact ⟨j + 2, by omega, by first | rfl | go_num, hBi.trans (by (repeat' (first | exact Below.refl _ _ | apply Below.alloc | apply Below.setCell | apply Below.drew | apply below_draws)) <;> (first | omega | (simp <;> omega)))⟩
            case measure => simp [intOf]; omega
        · go_wp2
          go_ret
          exact ⟨rfl, hB3.trans (hBi.mono hB3.size)⟩
end Go.Proofs.Ytoifknepebplnaa
