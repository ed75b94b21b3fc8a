/-
  Contract of l2Ok.
-/
import Derived.Test.YtaobgliimbmemaaDoorConfOk
namespace Go.Proofs.YtaobgliimbmemaaDoor
open Go.RowKit Go.Sort
set_option linter.unusedVariables false

set_option maxRecDepth 4000 in
set_option maxHeartbeats 8000000 in
theorem l2Ok_any (c : ConfD) (A1 A2 : Option Addr) (c1 c2 : Nat) (w : World) (h : HasC w c A1 c1 A2) (hs : SmC c) :
    Calls Tryd.prog 55 #[.agg #[.slice A1 c.st.length c1, .slice A2 c.sy.length c2]] w fun e w' => e = .returned (.bool (confB c)) ∧ Below w.heap.size w w' := by
  obtain ⟨hsT, hsl, hsY⟩ := hs
  obtain ⟨st, sy⟩ := c
  obtain ⟨R, hR⟩ : ∃ R, R = confB ⟨st, sy⟩ := ⟨_, rfl⟩
  have H1 : Hid (¬ st.length ≤ 6 → R = false) := fun h => by rw [hR]; exact confB_st h
  have H2 : Hid (¬ sy.length ≤ 4 → R = false) := fun h => by rw [hR]; exact confB_sy h
  have H3 : Hid (∀ k, k < st.length → okW st k = false → R = false) := fun k hk h => by rw [hR]; exact confB_up (toW_false hk h)
  have H4 : Hid (∀ k (hk : k < sy.length), okY st sy[k] = false → R = false) := fun k hk h => by rw [hR]; exact confB_bad hk h
  have H5 : Hid (st.length ≤ 6 → sy.length ≤ 4 → toW st st.length = true → sy.all (okY st) = true → R = true) := fun h1 h2 h3 h4 => by rw [hR, confB_good (c := ⟨st, sy⟩) (show upB st = true from h3) h4, decide_eq_true h1, decide_eq_true h2]; rfl
  rw [← hR]
  have HSY := Lib.hid hsY
  clear hR hsY
  dsimp only at h hsT hsl ⊢
  obtain ⟨hst, hsy⟩ := h
  obtain ⟨hsT1, hsT2⟩ := hsT
  have HST := Lib.hid hsT2
  clear hsT2
  dsimp only at hst hsy
  have hB0 : Below w.heap.size w (w.alloc (.cells #[.slice A1 st.length c1, .slice A2 sy.length c2] 44)) := by (repeat' (first | exact Below.refl _ _ | apply Below.alloc | apply Below.setCell | apply Below.drew | apply below_draws)) <;> (first | omega | (simp <;> omega))
  have f0 : (w.alloc (.cells #[.slice A1 st.length c1, .slice A2 sy.length c2] 44)).cell? ⟨w.heap.size, 0, none⟩ = some (.slice A1 st.length c1) := by simp [go_sem]
  have f1 : (w.alloc (.cells #[.slice A1 st.length c1, .slice A2 sy.length c2] 44)).cell? ⟨w.heap.size, 1, none⟩ = some (.slice A2 sy.length c2) := by simp [go_sem]
  have hs0 : w.heap.size < (w.alloc (.cells #[.slice A1 st.length c1, .slice A2 sy.length c2] 44)).heap.size := by simp
  replace hst := hst.below hB0
  replace hsy := hsy.below hB0
  go_enter Tryd.func55, Tryd.ntmps55
  go_wp2_with fail
  generalize (w.alloc (.cells #[.slice A1 st.length c1, .slice A2 sy.length c2] 44)) = W0 at hB0 f0 f1 hs0 hst hsy ⊢
  have hBw := hB0.size
  generalize hRw : w.heap.size = R0 at f0 f1 hs0 ⊢
  go_loopw [3] (fun iv wr => ∃ k : Nat, k ≤ st.length ∧ iv = .int .i64 k ∧ Hid (toW st k = true) ∧ Below W0.heap.size W0 wr) (fun iv _ => st.length - (intOf iv).toNat)
  case atStart => exact ⟨0, Nat.zero_le _, rfl, rfl, Below.refl _ _⟩
  case round =>
    obtain ⟨k, hk, rfl, hm, hB⟩ := hrel
    obtain ⟨wo, hwo⟩ : ∃ wo, wo = wr := ⟨_, rfl⟩
    subst hwo
    have hBs := hB.size
    have g0 := (hB.cell (p := ⟨R0, 0, none⟩) hs0).trans f0
    by_cases hlt : k < st.length
    · have hi0 : (k : Int) < (st.length : Int) := by omega
      obtain ⟨b, off, rfl, hb, x0⟩ := (hst.below hB).atT hlt
      have hsz := HST.out st[k] (List.getElem_mem _)
      have hok := okW_at hlt
      have HF := Lib.hid (H3.out k hlt)
      have HSUC := Lib.hid (toW_succ st k)
      have m0 := cell_regrown g0
      have m1 := cell_regrown x0
      cases s1 : wordB st[k] with
      | false =>
        have HN : Hid (R = false) := HF.out (by rw [hok, s1]; rfl)
        clear hok HF HSUC
        generalize st[k] = x at m1 hsz s1 x0
        go_wp2_with fail
        refine region_qw (by kernel_rfl) (by kernel_rfl) ?_
        repeat (
          refine qw_step (fun K hK => ?_)
          go_simp
          first
            | (refine hK _ ?_; clear hK K)
            | (apply Exists.intro
               refine ⟨fun _ => ?_, hK _ ?_⟩
               (first | (go_at_call 86; exact cL1Word _ _ s1 (by omega) _ _ _))
               clear hK K)
            | fail)
        refine qw_nil ?_
        intro _ hw'
        obtain ⟨⟨dq, osq⟩, hw''⟩ := hw'
        subst hw''
        have hBq := hB.trans ((below_regrown wo dq osq).mono hB.size)
        go_wp2
        go_ret
        exact ⟨ret_bool HN.out.symm, hB0.trans (hBq.mono hBw)⟩
      | true =>
        rw [s1, Bool.true_and] at hok
        by_cases hk0 : k = 0
        · subst hk0
          have HN : Hid (toW st (0 + 1) = true) := by show _ = _; rw [HSUC.out, hm.out, hok]; rfl
          clear hok HF HSUC
          have hd1 : decide ((0 : Int) < ((0 : Nat) : Int)) = false := by decide
          generalize st[0] = x at m1 hsz s1 x0
          rw [Nat.add_zero] at m1
          go_wp2_with fail
          refine region_qw (by kernel_rfl) (by kernel_rfl) ?_
          repeat (
            refine qw_step (fun K hK => ?_)
            go_simp
            first
              | (refine hK _ ?_; clear hK K)
              | (apply Exists.intro
                 refine ⟨fun _ => ?_, hK _ ?_⟩
                 (first | (go_at_call 86; exact cL1Word _ _ s1 (by omega) _ _ _))
                 clear hK K)
              | fail)
          refine qw_nil ?_
          intro _ hw'
          obtain ⟨⟨dq, osq⟩, hw''⟩ := hw'
          subst hw''
          have hBq := hB.trans ((below_regrown wo dq osq).mono hB.size)
          dsimp only
          generalize (grow (redrawn wo dq) osq) = W2 at hBq ⊢
          go_wp2
          go_roundw
          case rel => exact ⟨0 + 1, by omega, by go_num, HN, hBq⟩
          case measure => simp [intOf]; omega
        · obtain ⟨j0, hkj⟩ : ∃ j0, k = j0 + 1 := ⟨k - 1, by omega⟩
          have hjl : j0 < st.length := by omega
          obtain ⟨_, y0⟩ := (hst.below hB).allT hjl
          rw [decide_eq_false hk0, Bool.false_or, show k - 1 = j0 by omega, getT hjl] at hok
          have HOK := Lib.hid hok
          have m2 := cell_regrown y0
          have hi2 : (j0 : Int) < (st.length : Int) := by omega
          have hz1 : (0 : Int) ≤ (j0 : Int) := by omega
          have hw3 : IntKind.i64.wrap ((k : Int) - 1) = (j0 : Int) := by rw [show (k : Int) - 1 = (j0 : Int) by omega]; exact IntWalk.i64_in _ (by omega)
          have hkz : decide ((0 : Int) < (k : Int)) = true := decide_eq_true (by omega)
          have hkz2 : decide (0 < k) = true := decide_eq_true (by omega)
          clear hkj hok
          cases hls : ltS st[j0] st[k] with
          | false =>
            have HN : Hid (R = false) := HF.out (by rw [okW_at hlt, s1, Bool.true_and]; exact (by have := HOK.out; rw [hls] at this; first | exact this | (rw [okW_at hlt, s1, Bool.true_and] at this; exact this)))
            clear HOK HF HSUC hk0
            generalize st[k] = x at m1 hsz s1 x0 hls
            generalize st[j0] = y at m2 y0 hls
            have hlw : (Op.bytesLess x.toList y.toList || x.toList == y.toList) = true := by rw [leqS, hls]; rfl
            go_wp2_with fail
            refine region_qw (by kernel_rfl) (by kernel_rfl) ?_
            repeat (
              refine qw_step (fun K hK => ?_)
              go_simp
              first
                | (refine hK _ ?_; clear hK K)
                | (apply Exists.intro
                   refine ⟨fun _ => ?_, hK _ ?_⟩
                   (first | (go_at_call 86; exact cL1Word _ _ s1 (by omega) _ _ _))
                   clear hK K)
                | fail)
            refine qw_nil ?_
            intro _ hw'
            obtain ⟨⟨dq, osq⟩, hw''⟩ := hw'
            subst hw''
            have hBq := hB.trans ((below_regrown wo dq osq).mono hB.size)
            go_wp2
            go_ret
            exact ⟨ret_bool HN.out.symm, hB0.trans (hBq.mono hBw)⟩
          | true =>
            have HN : Hid (toW st (k + 1) = true) := by show _ = _; rw [HSUC.out, hm.out, HOK.out, hls]; rfl
            clear HOK HF HSUC hk0
            generalize st[k] = x at m1 hsz s1 x0 hls
            generalize st[j0] = y at m2 y0 hls
            have hlw : (Op.bytesLess x.toList y.toList || x.toList == y.toList) = false := by rw [leqS, hls]; rfl
            go_wp2_with fail
            refine region_qw (by kernel_rfl) (by kernel_rfl) ?_
            repeat (
              refine qw_step (fun K hK => ?_)
              go_simp
              first
                | (refine hK _ ?_; clear hK K)
                | (apply Exists.intro
                   refine ⟨fun _ => ?_, hK _ ?_⟩
                   (first | (go_at_call 86; exact cL1Word _ _ s1 (by omega) _ _ _))
                   clear hK K)
                | fail)
            refine qw_nil ?_
            intro _ hw'
            obtain ⟨⟨dq, osq⟩, hw''⟩ := hw'
            subst hw''
            have hBq := hB.trans ((below_regrown wo dq osq).mono hB.size)
            dsimp only
            generalize (grow (redrawn wo dq) osq) = W2 at hBq ⊢
            go_wp2
            go_roundw
            case rel => exact ⟨k + 1, by omega, by go_num, HN, hBq⟩
            case measure => simp [intOf]; omega
    · have HUP : Hid (toW st st.length = true) := by show _ = _; rw [show st.length = k by omega]; exact hm.out
      clear hm H3
      go_wp2_with fail
      clear g0
      go_loopw [4, 5, 6] (fun iv _ _ wr => ∃ i : Nat, i ≤ sy.length ∧ iv = .int .i64 i ∧ Hid ((sy.take i).all (okY st) = true) ∧ Below W0.heap.size W0 wr) (fun iv _ _ _ => sy.length - (intOf iv).toNat)
      case atStart => exact ⟨0, Nat.zero_le _, rfl, rfl, hB⟩
      case round =>
        clear hB hBs
        obtain ⟨i, hi, rfl, hm, hB⟩ := hrel
        obtain ⟨wo2, hwo2⟩ : ∃ wo2, wo2 = wr := ⟨_, rfl⟩
        subst hwo2
        have hBs := hB.size
        have g1 := (hB.cell (p := ⟨R0, 1, none⟩) hs0).trans f1
        by_cases hlt2 : i < sy.length
        · have hi0 : (i : Int) < (sy.length : Int) := by omega
          obtain ⟨b, off, A3, c3, rfl, hbb, x0, x1, x2⟩ := (hsy.below hB) i hlt2
          obtain ⟨⟨hf1, hf2⟩, hto⟩ := HSY.out sy[i] (List.getElem_mem _)
          have HBAD := Lib.hid (H4.out i hlt2)
          have HSUC := Lib.hid (all_succ (okY st) hlt2)
          obtain ⟨y, hy⟩ : ∃ y, y = sy[i] := ⟨_, rfl⟩
          rw [← hy] at x0 x1 x2 hf1 hf2 hto HBAD HSUC
          clear hy
          have hfi : ((y.fr.length : Nat) : Int) ≤ 1048576 := by omega
          have hBA : Below wo2.heap.size wo2 (wo2.alloc (.cells #[.slice A3 y.fr.length c3, .string y.tgt] 82)) := by (repeat' (first | exact Below.refl _ _ | apply Below.alloc | apply Below.setCell | apply Below.drew | apply below_draws)) <;> (first | omega | (simp <;> omega))
          have k0 : (wo2.alloc (.cells #[.slice A3 y.fr.length c3, .string y.tgt] 82)).cell? ⟨wo2.heap.size, 0, none⟩ = some (.slice A3 y.fr.length c3) := by simp [go_sem]
          have k1 : (wo2.alloc (.cells #[.slice A3 y.fr.length c3, .string y.tgt] 82)).cell? ⟨wo2.heap.size, 1, none⟩ = some (.string y.tgt) := by simp [go_sem]
          have hlA : wo2.heap.size < (wo2.alloc (.cells #[.slice A3 y.fr.length c3, .string y.tgt] 82)).heap.size := by simp
          have x3 := x2.below hBA
          have hBn := hB.trans (hBA.mono hBs)
          go_wp2_with fail
          clear x0 x1 x2 hBA hB
          generalize (wo2.alloc (.cells #[.slice A3 y.fr.length c3, .string y.tgt] 82)) = W1 at k0 k1 x3 hBn hlA ⊢
          generalize wo2.heap.size = R1 at k0 k1 hlA ⊢
          have HSs := Lib.hid hf2
          have HY4 : Hid (∀ k (hk : k < y.fr.length), okS st y.fr[k] = false → R = false) := fun k hk h => HBAD.out (okY_4 hk h)
          clear hf2 g1
          go_loopw [6] (fun jv wv => ∃ j : Nat, j ≤ y.fr.length ∧ jv = .int .i64 j ∧ Hid ((y.fr.take j).all (okS st) = true) ∧ Below W1.heap.size W1 wv) (fun jv _ => y.fr.length - (intOf jv).toNat)
          case atStart => exact ⟨0, Nat.zero_le _, rfl, rfl, Below.refl _ _⟩
          case round =>
            obtain ⟨j, hj, rfl, hm2, hB3⟩ := hrel
            obtain ⟨wi3, hwi3⟩ : ∃ wi3, wi3 = wr := ⟨_, rfl⟩
            subst hwi3
            have hBq3 := hBn.trans (hB3.mono hBn.size)
            have p0 := (hB3.cell (p := ⟨R1, 0, none⟩) hlA).trans k0
            have p1 := (hB3.cell (p := ⟨R1, 1, none⟩) hlA).trans k1
            have g0 := (hBq3.cell (p := ⟨R0, 0, none⟩) hs0).trans f0
            have stw := hst.below hBq3
            have r0 := cell_regrown p0
            have r1 := cell_regrown p1
            have r2 := cell_regrown g0
            by_cases hltj : j < y.fr.length
            · have hj0 : (j : Int) < (y.fr.length : Int) := by omega
              obtain ⟨b4, off4, rfl, hb4, z0⟩ := (x3.below hB3).atT hltj
              have hsz := HSs.out y.fr[j] (List.getElem_mem _)
              have HB4 := Lib.hid (HY4.out j hltj)
              have HS4 := Lib.hid (all_succ (okS st) hltj)
              generalize y.fr[j] = x at z0 hsz HB4 HS4
              have r3 := cell_regrown z0
              cases s1 : wordB x with
              | false =>
                have HN : Hid (R = false) := HB4.out (okS_1 s1)
                go_wp2_with fail
                refine region_qw (by kernel_rfl) (by kernel_rfl) ?_
                repeat (
                  refine qw_step (fun K hK => ?_)
                  go_simp
                  first
                    | (refine hK _ ?_; clear hK K)
                    | (apply Exists.intro
                       refine ⟨fun _ => ?_, hK _ ?_⟩
                       (first | (go_at_call 86; exact cL1Word _ _ s1 (by omega) _ _ _))
                       clear hK K)
                    | fail)
                refine qw_nil ?_
                intro _ hw'
                obtain ⟨⟨dq, osq⟩, hw''⟩ := hw'
                subst hw''
                have hBq := hBq3.trans ((below_regrown wi3 dq osq).mono hBq3.size)
                go_wp2
                go_ret
                exact ⟨ret_bool HN.out.symm, hB0.trans (hBq.mono hBw)⟩
              | true =>
                by_cases s2 : stemB x = x
                · have ht := s2
                  have hq : (x.toList == x.toList) = true := by simp
                  cases s3 : hasB st x with
                  | true =>
                    have HN : Hid (R = false) := HB4.out (okS_3 s3)
                    go_wp2_with fail
                    refine region_qw (by kernel_rfl) (by kernel_rfl) ?_
                    repeat (
                      refine qw_step (fun K hK => ?_)
                      go_simp
                      first
                        | (refine hK _ ?_; clear hK K)
                        | (apply Exists.intro
                           refine ⟨fun _ => ?_, hK _ ?_⟩
                           (first | (go_at_call 86; exact cL1Word _ _ s1 (by omega) _ _ _) | (go_at_call 87; exact cL2Stem _ _ ht (by omega) _ _ _) | (go_at_call 88; exact cL2Has _ _ _ _ _ s3 _ stw (by omega) _ _))
                           clear hK K)
                        | fail)
                    refine qw_nil ?_
                    intro _ hw'
                    obtain ⟨⟨dq, osq⟩, hw''⟩ := hw'
                    subst hw''
                    have hBq := hBq3.trans ((below_regrown wi3 dq osq).mono hBq3.size)
                    go_wp2
                    go_ret
                    exact ⟨ret_bool HN.out.symm, hB0.trans (hBq.mono hBw)⟩
                  | false =>
                    have HN : Hid ((y.fr.take (j + 1)).all (okS st) = true) := by show _ = _; rw [HS4.out, hm2.out, okS_4 s1 s2 s3]; rfl
                    clear hm2 HS4 HB4
                    go_wp2_with fail
                    refine region_qw (by kernel_rfl) (by kernel_rfl) ?_
                    repeat (
                      refine qw_step (fun K hK => ?_)
                      go_simp
                      first
                        | (refine hK _ ?_; clear hK K)
                        | (apply Exists.intro
                           refine ⟨fun _ => ?_, hK _ ?_⟩
                           (first | (go_at_call 86; exact cL1Word _ _ s1 (by omega) _ _ _) | (go_at_call 87; exact cL2Stem _ _ ht (by omega) _ _ _) | (go_at_call 88; exact cL2Has _ _ _ _ _ s3 _ stw (by omega) _ _))
                           clear hK K)
                        | fail)
                    refine qw_nil ?_
                    intro _ hw'
                    obtain ⟨⟨dq, osq⟩, hw''⟩ := hw'
                    subst hw''
                    have hBq := hB3.trans ((below_regrown wi3 dq osq).mono hB3.size)
                    clear s1 s2 s3 ht hq
                    go_wp2
                    go_roundw
                    case rel => exact ⟨j + 1, by omega, by go_num, HN, hBq⟩
                    case measure => simp [intOf]; omega
                · have HN : Hid (R = false) := HB4.out (okS_2 s2)
                  obtain ⟨t, ht⟩ : ∃ t, stemB x = t := ⟨_, rfl⟩
                  have hq : (t.toList == x.toList) = false := by rw [bytes_eq, ← ht]; exact decide_eq_false s2
                  clear s2
                  go_wp2_with fail
                  refine region_qw (by kernel_rfl) (by kernel_rfl) ?_
                  repeat (
                    refine qw_step (fun K hK => ?_)
                    go_simp
                    first
                      | (refine hK _ ?_; clear hK K)
                      | (apply Exists.intro
                         refine ⟨fun _ => ?_, hK _ ?_⟩
                         (first | (go_at_call 86; exact cL1Word _ _ s1 (by omega) _ _ _) | (go_at_call 87; exact cL2Stem _ _ ht (by omega) _ _ _))
                         clear hK K)
                      | fail)
                  refine qw_nil ?_
                  intro _ hw'
                  obtain ⟨⟨dq, osq⟩, hw''⟩ := hw'
                  subst hw''
                  have hBq := hBq3.trans ((below_regrown wi3 dq osq).mono hBq3.size)
                  go_wp2
                  go_ret
                  exact ⟨ret_bool HN.out.symm, hB0.trans (hBq.mono hBw)⟩
            · have hAll := all_full hm2.out hltj
              have HY5 : Hid (wi (y.fr.length : Int) 1 3 = true → wordB y.tgt = true → stemB y.tgt = y.tgt → okY st y = true) := fun h1 h2 h3 => okY_5 h1 h2 h3 hAll
              clear hAll hm2
              cases q1 : wi (y.fr.length : Int) 1 3 with
              | false =>
                have HN : Hid (R = false) := HBAD.out (okY_1 q1)
                go_wp2_with fail
                refine region_qw (by kernel_rfl) (by kernel_rfl) ?_
                repeat (
                  refine qw_step (fun K hK => ?_)
                  go_simp
                  first
                    | (refine hK _ ?_; clear hK K)
                    | (apply Exists.intro
                       refine ⟨fun _ => ?_, hK _ ?_⟩
                       (first | (go_at_call 89; exact cL1In _ _ _ _ q1 _ _ _))
                       clear hK K)
                    | fail)
                refine qw_nil ?_
                intro _ hw'
                obtain ⟨⟨dq, osq⟩, hw''⟩ := hw'
                subst hw''
                have hBq := hBq3.trans ((below_regrown wi3 dq osq).mono hBq3.size)
                go_wp2
                go_ret
                exact ⟨ret_bool HN.out.symm, hB0.trans (hBq.mono hBw)⟩
              | true =>
                cases q2 : wordB y.tgt with
                | false =>
                  have HN : Hid (R = false) := HBAD.out (okY_2 q2)
                  go_wp2_with fail
                  refine region_qw (by kernel_rfl) (by kernel_rfl) ?_
                  repeat (
                    refine qw_step (fun K hK => ?_)
                    go_simp
                    first
                      | (refine hK _ ?_; clear hK K)
                      | (apply Exists.intro
                         refine ⟨fun _ => ?_, hK _ ?_⟩
                         (first | (go_at_call 89; exact cL1In _ _ _ _ q1 _ _ _) | (go_at_call 86; exact cL1Word _ _ q2 (by omega) _ _ _))
                         clear hK K)
                      | fail)
                  refine qw_nil ?_
                  intro _ hw'
                  obtain ⟨⟨dq, osq⟩, hw''⟩ := hw'
                  subst hw''
                  have hBq := hBq3.trans ((below_regrown wi3 dq osq).mono hBq3.size)
                  go_wp2
                  go_ret
                  exact ⟨ret_bool HN.out.symm, hB0.trans (hBq.mono hBw)⟩
                | true =>
                  by_cases q3 : stemB y.tgt = y.tgt
                  · have ht := q3
                    have hq : (y.tgt.toList == y.tgt.toList) = true := by simp
                    have HN : Hid ((sy.take (i + 1)).all (okY st) = true) := by show _ = _; rw [HSUC.out, hm.out, HY5.out q1 q2 q3]; rfl
                    go_wp2_with fail
                    refine region_qw (by kernel_rfl) (by kernel_rfl) ?_
                    repeat (
                      refine qw_step (fun K hK => ?_)
                      go_simp
                      first
                        | (refine hK _ ?_; clear hK K)
                        | (apply Exists.intro
                           refine ⟨fun _ => ?_, hK _ ?_⟩
                           (first | (go_at_call 89; exact cL1In _ _ _ _ q1 _ _ _) | (go_at_call 86; exact cL1Word _ _ q2 (by omega) _ _ _) | (go_at_call 87; exact cL2Stem _ _ ht (by omega) _ _ _))
                           clear hK K)
                        | fail)
                    refine qw_nil ?_
                    intro _ hw'
                    obtain ⟨⟨dq, osq⟩, hw''⟩ := hw'
                    subst hw''
                    have hBq := hBq3.trans ((below_regrown wi3 dq osq).mono hBq3.size)
                    clear q1 q2 q3 ht hq
                    go_wp2
                    go_roundw
                    case rel => exact ⟨i + 1, by omega, by go_num, HN, hBq⟩
                    case measure => simp [intOf]; omega
                  · have HN : Hid (R = false) := HBAD.out (okY_3 q3)
                    obtain ⟨t, ht⟩ : ∃ t, stemB y.tgt = t := ⟨_, rfl⟩
                    have hq : (t.toList == y.tgt.toList) = false := by rw [bytes_eq, ← ht]; exact decide_eq_false q3
                    clear q3
                    go_wp2_with fail
                    refine region_qw (by kernel_rfl) (by kernel_rfl) ?_
                    repeat (
                      refine qw_step (fun K hK => ?_)
                      go_simp
                      first
                        | (refine hK _ ?_; clear hK K)
                        | (apply Exists.intro
                           refine ⟨fun _ => ?_, hK _ ?_⟩
                           (first | (go_at_call 89; exact cL1In _ _ _ _ q1 _ _ _) | (go_at_call 86; exact cL1Word _ _ q2 (by omega) _ _ _) | (go_at_call 87; exact cL2Stem _ _ ht (by omega) _ _ _))
                           clear hK K)
                        | fail)
                    refine qw_nil ?_
                    intro _ hw'
                    obtain ⟨⟨dq, osq⟩, hw''⟩ := hw'
                    subst hw''
                    have hBq := hBq3.trans ((below_regrown wi3 dq osq).mono hBq3.size)
                    go_wp2
                    go_ret
                    exact ⟨ret_bool HN.out.symm, hB0.trans (hBq.mono hBw)⟩
        · have hAll := all_full hm.out hlt2
          have g0 := (hB.cell (p := ⟨R0, 0, none⟩) hs0).trans f0
          have HG : Hid (st.length ≤ 6 → sy.length ≤ 4 → R = true) := fun h1 h2 => H5.out h1 h2 HUP.out hAll
          clear hm hAll
          by_cases hl6 : st.length ≤ 6
          · have hd6 : decide ((st.length : Int) ≤ 6) = true := decide_eq_true (by omega)
            by_cases hl4 : sy.length ≤ 4
            · have HN : Hid (R = true) := HG.out hl6 hl4
              have hl4' : (sy.length : Int) ≤ 4 := by omega
              go_wp2
              go_ret
              exact ⟨ret_bool HN.out.symm, by first | exact hB0.trans (hB.mono hBw) | (rw [← hRw]; exact hB0.trans (hB.mono hBw))⟩
            · have HN : Hid (R = false) := H2.out hl4
              have hl4' : ¬ (sy.length : Int) ≤ 4 := by omega
              go_wp2
              go_ret
              exact ⟨ret_bool HN.out.symm, by first | exact hB0.trans (hB.mono hBw) | (rw [← hRw]; exact hB0.trans (hB.mono hBw))⟩
          · have HN : Hid (R = false) := H1.out hl6
            have hd6 : decide ((st.length : Int) ≤ 6) = false := decide_eq_false (by omega)
            go_wp2
            go_ret
            exact ⟨ret_bool HN.out.symm, by first | exact hB0.trans (hB.mono hBw) | (rw [← hRw]; exact hB0.trans (hB.mono hBw))⟩
end Go.Proofs.YtaobgliimbmemaaDoor
