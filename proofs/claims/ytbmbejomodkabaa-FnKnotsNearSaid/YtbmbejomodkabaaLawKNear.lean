/-
  The walk of FnKnotsNear: no point is nearer than the nearest.
-/
import Derived.Test.YtbmbejomodkabaaLawKnots
namespace Go.Proofs.Ytbmbejomodkabaa
open Go.RowKit Go.Sort
set_option linter.unusedVariables false

set_option maxRecDepth 8000 in
set_option maxHeartbeats 8000000 in
theorem walk_FnKnotsNear (a0 : Option Addr) (len cap : Nat) (zs : List Int) (w : World) (h : IsRow .u8 w a0 len cap zs) :
    Calls Try.prog 6 #[.slice a0 len cap] w fun e w' => e = .returned (.bool true) ∧ Below w.heap.size w w' := by
  by_cases hbig : (1048576 : Int) < (len : Int)
  · go_enter Try.func6, Try.ntmps6
    go_wp2
    go_ret
    exact ⟨rfl, Below.refl _ _⟩
  · go_enter Try.func6, Try.ntmps6
    go_wp2_with fail
    refine (drawKnotsNear_any a0 len cap zs _ h).mono ?_
    rintro e w1 ⟨A, c, X, px, py, ⟨rfl, s1, hXl⟩, hb1⟩
    clear h hbig
    obtain ⟨n, hn⟩ : ∃ n, n = nearL X px py := ⟨_, rfl⟩
    obtain ⟨K, hK⟩ : ∃ K, K = knotsOkL X := ⟨_, rfl⟩
    have ci := fun w h => implKnotsNear_any A c X px py w h (by omega)
    have cs := fun w h => specKnotsNear_any A c X px py w h (by omega)
    have ck := fun w h => implKnotsOk_any A c X w h (by omega)
    rw [← hn] at ci cs
    rw [← hK] at ck
    have CI := Lib.hid ci
    have CS := Lib.hid cs
    have CK := Lib.hid ck
    have HN := Lib.hid hn
    have HK := Lib.hid hK
    clear ci cs ck hn hK
    go_wp2_with fail
    refine (CI.out _ s1).mono ?_
    rintro e w2 ⟨rfl, hb2⟩
    have s2 := s1.below hb2
    have hB2 := hb1.trans (hb2.mono hb1.size)
    clear s1 hb1 hb2 CI
    go_wp2_with fail
    refine (CS.out _ s2).mono ?_
    rintro e w3 ⟨rfl, hb3⟩
    have s3 := s2.below hb3
    have hB3 := hB2.trans (hb3.mono hB2.size)
    clear s2 hb3 hB2
    go_wp2_with fail
    refine (CK.out _ s3).mono ?_
    rintro e w4 ⟨rfl, hb4⟩
    have s4 := s3.below hb4
    have hB4 := hB3.trans (hb4.mono hB3.size)
    clear s3 hb4 hB3 CK
    cases K with
    | false =>
      go_wp2_with fail
      refine (CS.out _ s4).mono ?_
      rintro e w5 ⟨rfl, hb5⟩
      go_wp2
      go_ret
      exact ⟨by first | rfl | simp, hB4.trans (hb5.mono hB4.size)⟩
    | true =>
      by_cases c1 : px < 0
      · go_wp2_with fail
        refine (CS.out _ s4).mono ?_
        rintro e w5 ⟨rfl, hb5⟩
        go_wp2
        go_ret
        exact ⟨by first | rfl | simp, hB4.trans (hb5.mono hB4.size)⟩
      · have e1 : decide (px < 0) = false := decide_eq_false c1
        by_cases c2 : 999 < px
        · go_wp2_with fail
          refine (CS.out _ s4).mono ?_
          rintro e w5 ⟨rfl, hb5⟩
          go_wp2
          go_ret
          exact ⟨by first | rfl | simp, hB4.trans (hb5.mono hB4.size)⟩
        · have e2 : decide (999 < px) = false := decide_eq_false c2
          by_cases c3 : py < 0
          · go_wp2_with fail
            refine (CS.out _ s4).mono ?_
            rintro e w5 ⟨rfl, hb5⟩
            go_wp2
            go_ret
            exact ⟨by first | rfl | simp, hB4.trans (hb5.mono hB4.size)⟩
          · have e3 : decide (py < 0) = false := decide_eq_false c3
            by_cases c4 : 999 < py
            · go_wp2_with fail
              refine (CS.out _ s4).mono ?_
              rintro e w5 ⟨rfl, hb5⟩
              go_wp2
              go_ret
              exact ⟨by first | rfl | simp, hB4.trans (hb5.mono hB4.size)⟩
            · have e4 : decide (999 < py) = false := decide_eq_false c4
              rcases Nat.eq_zero_or_pos X.length with h0 | h0
              · obtain rfl : X = [] := List.length_eq_zero_iff.1 h0
                clear h0
                go_wp2_with fail
                refine (CS.out _ s4).mono ?_
                rintro e w5 ⟨rfl, hb5⟩
                go_wp2
                go_ret
                exact ⟨by first | rfl | simp, hB4.trans (hb5.mono hB4.size)⟩
              · have hX0 : (0 : Int) < (X.length : Int) := by omega
                have hne0 : ((X.length : Int) == 0) = false := beq_eq_false_iff_ne.2 (by omega)
                obtain ⟨_, hXb, _⟩ := okX HK.out.symm
                obtain ⟨hF0, hFall⟩ := near_law (px := px) (py := py) HK.out.symm (wi_true.2 (by omega)) (wi_true.2 (by omega)) h0
                rw [← HN.out] at hF0 hFall
                obtain ⟨F, hF⟩ : ∃ F, F = farL px py n X := ⟨_, rfl⟩
                rw [← hF] at hF0 hFall
                have HFA := Lib.hid hFall
                have HF := Lib.hid hF
                have HXB := Lib.hid hXb
                have s5 := s4.1
                clear hFall hF hXb CS HN HK s4
                go_wp2_with fail
                go_loopw [7, 8] (fun fv iv wr => ∃ (i : Nat) (f : Int), i ≤ X.length ∧ iv = .int .i64 i ∧ fv = .int .i64 f ∧ Hid (f = farL px py n (X.take i)) ∧ Below w4.heap.size w4 wr) (fun _ iv _ => X.length - (intOf iv).toNat)
                case atStart => exact ⟨0, -1, Nat.zero_le _, rfl, rfl, rfl, Below.refl _ _⟩
                case round =>
                  obtain ⟨i, f, hi, rfl, rfl, hm, hbv⟩ := hrel
                  obtain ⟨wo, hwo⟩ : ∃ wo, wo = wr := ⟨_, rfl⟩
                  subst hwo
                  by_cases hlt : i < X.length
                  · have hi0 : (i : Int) < (X.length : Int) := by omega
                    obtain ⟨b, off, rfl, hb, x0, x1, x2, x3, x4, x5, x6, x7⟩ := (s5.below hbv).atKn hlt
                    obtain ⟨_, hb1, hb2⟩ := HXB.out i hlt
                    have hst := farL_succ px py n hlt
                    rw [← hm.out, way_wy] at hst
                    have HST := Lib.hid hst
                    clear hst hm x3 x4 x5 x6 x7
                    generalize X[i].i = p0 at x0 HST
                    generalize X[i].x = p1 at x1 HST hb1
                    generalize X[i].y = p2 at x2 HST hb2
                    by_cases he : p0 = n
                    · subst he
                      have HN2 : Hid (wy p1 px + wy p2 py = farL px py p0 (X.take (i + 1))) := by show _ = _; rw [HST.out, if_pos rfl]
                      clear HST
                      go_wp2_with fail
                      refine (foWay_any p0 p1 p2 px py (by omega) (by omega) (by omega) (by omega) (by omega) (by omega) (by omega) (by omega) _).mono ?_
                      rintro e w7 ⟨rfl, hb7⟩
                      have hB7 := hbv.trans (hb7.mono hbv.size)
                      go_wp2
                      go_roundw
                      case rel => exact ⟨i + 1, _, by omega, by go_num, rfl, HN2, hB7⟩
                      case measure => simp [intOf]; omega
                    · have hne : (p0 == n) = false := beq_eq_false_iff_ne.2 he
                      have HN2 : Hid (f = farL px py n (X.take (i + 1))) := by show _ = _; rw [HST.out, if_neg he]
                      clear HST he
                      go_wp2
                      go_roundw
                      case rel => exact ⟨i + 1, _, by omega, by go_num, rfl, HN2, hbv⟩
                      case measure => simp [intOf]; omega
                  · obtain rfl : f = F := by rw [hm.out, HF.out, List.take_of_length_le (by omega)]
                    clear hm HF
                    have s6 := s5.below hbv
                    have hB6 := hB4.trans (hbv.mono hB4.size)
                    clear s5 hbv hB4
                    go_wp2_with fail
                    go_loopw [9, 10] (fun iv _ wr => ∃ i : Nat, i ≤ X.length ∧ iv = .int .i64 i ∧ Below wo.heap.size wo wr) (fun iv _ _ => X.length - (intOf iv).toNat)
                    case atStart => exact ⟨0, Nat.zero_le _, rfl, Below.refl _ _⟩
                    case round =>
                      obtain ⟨j, hj, rfl, hbu⟩ := hrel
                      by_cases hlt2 : j < X.length
                      · have hj0 : (j : Int) < (X.length : Int) := by omega
                        obtain ⟨b, off, rfl, hb, x0, x1, x2, x3, x4, x5, x6, x7⟩ := (s6.below hbu).atKn hlt2
                        obtain ⟨_, hb1, hb2⟩ := HXB.out j hlt2
                        obtain ⟨hle, hid2⟩ := HFA.out j hlt2
                        rw [way_wy] at hle hid2
                        have HID := Lib.hid hid2
                        clear hid2 x3 x4 x5 x6 x7
                        generalize X[j].i = p0 at x0 HID
                        generalize X[j].x = p1 at x1 HID hb1 hle
                        generalize X[j].y = p2 at x2 HID hb2 hle
                        go_wp2_with fail
                        refine (foWay_any p0 p1 p2 px py (by omega) (by omega) (by omega) (by omega) (by omega) (by omega) (by omega) (by omega) _).mono ?_
                        rintro e w7 ⟨rfl, hb7⟩
                        replace x0 := (hb7.cell (p := ⟨b, off + j * 8, none⟩) hb).trans x0
                        have hB7 := hbu.trans (hb7.mono hbu.size)
                        clear x1 x2 hb7
                        generalize wy p1 px + wy p2 py = d at HID hle ⊢
                        by_cases he : d = f
                        · have hge := HID.out he
                          subst he
                          have e5 : decide (d < d) = false := decide_eq_false (by omega)
                          have e6 : decide (p0 < n) = false := decide_eq_false (by omega)
                          clear HID
                          go_wp2
                          go_roundw
                          case rel => exact ⟨j + 1, by omega, by go_num, hB7⟩
                          case measure => simp [intOf]; omega
                        · have hne : (d == f) = false := beq_eq_false_iff_ne.2 he
                          have e5 : decide (d < f) = false := decide_eq_false (by omega)
                          clear HID he
                          go_wp2
                          go_roundw
                          case rel => exact ⟨j + 1, by omega, by go_num, hB7⟩
                          case measure => simp [intOf]; omega
                      · go_wp2
                        go_ret
                        exact ⟨by first | rfl | simp [hF0], hB6.trans (hbu.mono hB6.size)⟩
end Go.Proofs.Ytbmbejomodkabaa
