/-
  The walk of FnNearWidth.
-/
import Derived.Test.YtoifknepebplnaaFoNear
namespace Go.Proofs.Ytoifknepebplnaa
open Go.RowKit
set_option linter.unusedVariables false

set_option maxHeartbeats 1600000 in
theorem walk_FnNearWidth (a0 : Option Addr) (len cap : Nat) (zs : List Int) (w : World) (hrow : IsRow .u8 w a0 len cap zs) :
    Calls Try.prog 13 #[.slice a0 len cap] w fun e w' => e = .returned (.bool true) ∧ Below w.heap.size w w' := by
  obtain ⟨hc1, hc2, _⟩ := code_of_row hrow
  by_cases hbig : (1048576 : Int) < (len : Int)
  · go_enter Try.func13, Try.ntmps13
    go_wp2
    go_ret
    exact ⟨rfl, Below.refl _ _⟩
  · go_enter Try.func13, Try.ntmps13
    go_wp2_with fail
    refine (drawNearWidth_any a0 len cap zs _ hrow).mono ?_
    rintro e w0 ⟨B, d, Ls, ⟨rfl, hl1, hl5, hL4, hS, hcd, hcd2⟩, hB0⟩
    clear hrow
    have hn : total Ls ≤ 1048576 := by have := total_le 4 hL4; omega
    obtain ⟨n, hnn⟩ : ∃ n, n = widthI Ls := ⟨_, rfl⟩
    have ci := fun A c w h => nearWidth_any A c Ls w h hn
    have cs := fun A c w h => specNearWidth_any A c Ls w h hn
    rw [← hnn] at ci cs
    have CI := Lib.hid ci
    have CS := Lib.hid cs
    have HN := Lib.hid hnn
    have HL := Lib.hid hL4
    clear hnn ci cs hL4
    go_wp2_with fail
    refine (CI.out _ _ _ hS).mono ?_
    rintro e w1 ⟨rfl, hb⟩
    replace hS := hS.below hb
    have hB1 := hB0.trans (hb.mono hB0.size)
    clear hb hB0
    go_wp2_with fail
    refine (CS.out _ _ _ hS).mono ?_
    rintro e w2 ⟨rfl, hb⟩
    replace hS := hS.below hb
    have hB2 := hB1.trans (hb.mono hB1.size)
    clear hb hB1 CI CS
    go_wp2_with fail
    go_loopw [5, 6] (fun ov iv wr => ∃ k : Nat, k ≤ Ls.length ∧ iv = .int .i64 k ∧ (∃ o : Bool, ov = .bool o ∧ Hid (o = fullB (Ls.take k))) ∧ Hid (allUp Ls = allUp (Ls.drop k)) ∧ ∃ q, wr = w2.drewN q) (fun _ iv _ => Ls.length - (intOf iv).toNat)
    case atStart => exact ⟨0, Nat.zero_le _, rfl, ⟨true, rfl, rfl⟩, rfl, 0, rfl⟩
    case round =>
      obtain ⟨k, hk, rfl, ⟨o, rfl, ho⟩, hu, q, rfl⟩ := hrel
      by_cases hlt : k < Ls.length
      · obtain ⟨b, off, B', d', e, hb, hc, hs⟩ := hS k hlt
        simp only [Option.some.injEq, Addr.mk.injEq, and_true] at e
        obtain ⟨rfl, rfl⟩ := e
        rw [Nat.zero_add] at hc
        have hi0 : (k : Int) < (Ls.length : Int) := by omega
        have hLk := HL.out Ls[k] (List.getElem_mem _)
        have hd := allUp_drop hlt
        have hno := width_not hlt
        have hft := fullB_take hlt
        generalize Ls[k] = L at hc hs hLk hd hno hft
        cases hul : upB L with
        | true =>
          have HD : Hid (allUp Ls = allUp (Ls.drop (k + 1))) := by show _ = _; rw [hu.out, hd, hul, Bool.true_and]
          have HO : Hid ((o && decide (0 < L.length)) = fullB (Ls.take (k + 1))) := by show _ = _; rw [hft, ← ho.out]
          clear hd hu hno hft ho
          cases o with
          | true =>
            go_wp2_with fail
            refine (upOk_any B' d' L _ (hs.1.drawn _) (by omega)).mono ?_
            rintro e w4 ⟨rfl, q2, rfl⟩
            rw [hul]
            go_wp2
            go_roundw
            case rel => exact ⟨k + 1, by omega, by go_num, ⟨decide (0 < L.length), by first | rfl | simp, by show _ = _; rw [← HO.out, Bool.true_and]⟩, HD, _, (by first | rfl | exact World.drewN_drewN _ _ _)⟩
            case measure => simp [intOf]; omega
          | false =>
            go_wp2_with fail
            refine (upOk_any B' d' L _ (hs.1.drawn _) (by omega)).mono ?_
            rintro e w4 ⟨rfl, q2, rfl⟩
            rw [hul]
            go_wp2
            go_roundw
            case rel => exact ⟨k + 1, by omega, by go_num, ⟨false, rfl, by show _ = _; rw [← HO.out, Bool.false_and]⟩, HD, _, (by first | rfl | exact World.drewN_drewN _ _ _)⟩
            case measure => simp [intOf]; omega
        | false =>
          have hz := hno hul
          rw [← HN.out] at hz
          clear hd hu hno hft ho HN
          subst hz
          go_wp2_with fail
          refine (upOk_any B' d' L _ (hs.1.drawn _) (by omega)).mono ?_
          rintro e w4 ⟨rfl, q2, rfl⟩
          rw [hul]
          go_wp2
          go_ret
          exact ⟨rfl, hB2.trans (by first | exact below_of_drewN.mono hB2.size | (rw [World.drewN_drewN]; exact below_of_drewN.mono hB2.size))⟩
      · have hU : placesB Ls = true := by unfold placesB listsB; rw [hu.out, List.drop_of_length_le (by omega), decide_eq_true (by omega : 0 < Ls.length), decide_eq_true (by omega : Ls.length ≤ 6)]; rfl
        obtain ⟨W4, hW4⟩ : ∃ W4, W4 = w2.drewN q := ⟨_, rfl⟩
        have hb4 : Below w2.heap.size w2 W4 := by rw [hW4]; exact below_of_drewN
        rw [← hW4]
        clear hW4 hu
        replace hS := hS.below hb4
        have hB4 := hB2.trans (hb4.mono hB2.size)
        clear hb4 hB2
        have hfull : decide (0 < n) = o := by rw [HN.out, width_full hU, ho.out, List.take_of_length_le (by omega)]
        have hleast : ∀ s ∈ nearI Ls, n ≤ s.2 - s.1 + 1 := fun s hs => by rw [HN.out]; exact (minW_ok (S := nearI Ls) (fun s hs => (near_b Ls s hs).2.1)).2.2 s hs
        have hphr : phrI Ls 0 ≠ [] → n ≤ Ls.length := fun hne => by rw [HN.out]; have := (width_phr hne).2; omega
        have hSb := near_b Ls
        have hSl := near_len Ls hn
        have hPl := phrI_len Ls 0 hn
        have cN := fun A c w h => nearAll_any A c Ls w h hn
        have cP := fun A c w h => phraseOf_any A c Ls 0 w h hn
        obtain ⟨S, hSS⟩ : ∃ S, S = nearI Ls := ⟨_, rfl⟩
        rw [← hSS] at cN hleast hSb hSl
        obtain ⟨N, hNN⟩ : ∃ N, N = phrI Ls 0 := ⟨_, rfl⟩
        rw [← hNN] at cP hphr hPl
        have CN := Lib.hid cN
        have CP := Lib.hid cP
        have HLeast := Lib.hid hleast
        have HSb := Lib.hid hSb
        have HPhr := Lib.hid hphr
        have HFull := Lib.hid hfull
        clear cN cP hleast hSb hphr hSS hNN hfull ho HN hU
        go_wp2_with fail
        refine (CN.out _ _ _ hS).mono ?_
        rintro e w5 ⟨g5, d5, ⟨rfl, own5⟩, hb⟩
        replace hS := hS.below hb
        have hB5 := hB4.trans (hb.mono hB4.size)
        clear hb hB4
        go_wp2_with fail
        go_loopw [8] (fun iv wr => ∃ i : Nat, i ≤ S.length ∧ iv = .int .i64 i ∧ ∃ q, wr = w5.drewN q) (fun iv _ => S.length - (intOf iv).toNat)
        case atStart => exact ⟨0, Nat.zero_le _, rfl, 0, rfl⟩
        case round =>
          obtain ⟨i, hi, rfl, q2, rfl⟩ := hrel
          by_cases hlt2 : i < S.length
          · obtain ⟨b, off, e, hb, x0, x1⟩ := (Rds.own own5).at2 hlt2
            simp only [Option.some.injEq, Addr.mk.injEq, and_true] at e
            obtain ⟨rfl, rfl⟩ := e
            rw [Nat.zero_add] at x0 x1
            have hi0 : (i : Int) < (S.length : Int) := by omega
            obtain ⟨hp0, hp1, hp2⟩ := HSb.out S[i] (List.getElem_mem _)
            have hle := HLeast.out S[i] (List.getElem_mem _)
            generalize S[i].1 = p at x0 hp0 hp1 hle
            generalize S[i].2 = r at x1 hp1 hp2 hle
            have hw1 : IntKind.i64.wrap (r - p) = r - p := IntWalk.i64_in _ (by omega)
            have hw2 : IntKind.i64.wrap (r - p + 1) = r - p + 1 := IntWalk.i64_in _ (by omega)
            have hnl : ¬ (r - p + 1 < n) := by omega
            go_wp2_with fail
            go_quiet (fail)
            go_wp2
            go_roundw
            case rel => exact ⟨i + 1, by omega, by go_num, _, (by first | rfl | exact World.drewN_drewN _ _ _)⟩
            case measure => simp [intOf]; omega
          · go_wp2_with fail
            refine (CP.out _ _ _ (hS.drawn _) hcd hcd2).mono ?_
            rintro e w6 ⟨b6, d6, ⟨rfl, r6⟩, hb6⟩
            have hB6 := hB5.trans ((below_of_drewN (n := q2)).mono hB5.size) |>.trans (hb6.mono (by have := hB5.size; simpa using this))
            clear hb6 hB5
            have hn0 : decide (0 < n) = o := HFull.out
            cases o with
            | true =>
              have hpos : 0 < n := of_decide_eq_true hn0
              clear hn0
              by_cases hz : N.length = 0
              · have hz1 : ((N.length : Int) == 0) = true := by simp [hz]
                clear hz
                go_wp2
                go_ret
                exact ⟨rfl, hB6⟩
              · have hz1 : ((N.length : Int) == 0) = false := beq_eq_false_iff_ne.2 (by omega)
                have hle := HPhr.out (fun e => hz (by rw [e]; rfl))
                go_wp2
                go_ret
                exact ⟨rfl, hB6⟩
            | false =>
              have hpos : ¬ 0 < n := of_decide_eq_false hn0
              clear hn0
              by_cases hz : N.length = 0
              · have hz1 : ((N.length : Int) == 0) = true := by simp [hz]
                clear hz
                go_wp2
                go_ret
                exact ⟨ret_bool (by first | rfl | (simp; omega)), hB6⟩
              · have hz1 : ((N.length : Int) == 0) = false := beq_eq_false_iff_ne.2 (by omega)
                have hle := HPhr.out (fun e => hz (by rw [e]; rfl))
                go_wp2
                go_ret
                exact ⟨ret_bool (by first | rfl | (simp; omega)), hB6⟩
end Go.Proofs.Ytoifknepebplnaa
