/-
  Contract of l2Plain.
-/
import Derived.Test.YtaobgliimbmemaaDoorSpecTerms
namespace Go.Proofs.YtaobgliimbmemaaDoor
open Go.RowKit Go.Sort
set_option linter.unusedVariables false

set_option maxRecDepth 4000 in
set_option maxHeartbeats 3200000 in
theorem l2Plain_any (d : ConfD) (A1 A2 : Option Addr) (c1 c2 : Nat) (s : ByteArray) (w : World) (h : HasC w d A1 c1 A2) (hs : SmC d) (hsz : s.size ≤ 1048576) :
    Calls Tryd.prog 115 #[.agg #[.slice A1 d.st.length c1, .slice A2 d.sy.length c2], .string s] w (MakesTm (plainL d.st (wordsB s)) w) := by
  obtain ⟨st, sy⟩ := d
  obtain ⟨hsT, hsl, hsY⟩ := hs
  clear hsY
  dsimp only at hsT hsl ⊢
  obtain ⟨hsT1, hsT2⟩ := hsT
  clear hsT2
  obtain ⟨hst, hsy⟩ := h
  dsimp only at hsy hst
  clear hsy
  obtain ⟨R, hR⟩ : ∃ R, R = plainL st (wordsB s) := ⟨_, rfl⟩
  rw [← hR]
  have hwl := wordsB_len s
  have HWO : Hid (∀ x ∈ wordsB s, wordB x.tx = true ∧ x.fr < x.tgt ∧ x.tgt ≤ s.size) := wordsFrom_ok s 0 0
  have HCW := fun w => l1Words_any s w hsz
  generalize wordsB s = ws at hR hwl HWO HCW
  have HR := Lib.hid hR
  clear hR
  have hB0 : Below w.heap.size w ((w.alloc (.cells #[.slice A1 st.length c1, .slice A2 sy.length c2] 44)).alloc (.cells #[] 108)) := by (repeat' (first | exact Below.refl _ _ | apply Below.alloc | apply Below.setCell | apply Below.drew | apply below_draws)) <;> (first | omega | (simp <;> omega))
  have f0 : ((w.alloc (.cells #[.slice A1 st.length c1, .slice A2 sy.length c2] 44)).alloc (.cells #[] 108)).cell? ⟨w.heap.size, 0, none⟩ = some (.slice A1 st.length c1) := by simp [go_sem]
  have hs0 : w.heap.size + 2 = ((w.alloc (.cells #[.slice A1 st.length c1, .slice A2 sy.length c2] 44)).alloc (.cells #[] 108)).heap.size := by simp
  have own0 := ownE_made (enc := encTm) (F := 2) 108 (w.alloc (.cells #[.slice A1 st.length c1, .slice A2 sy.length c2] 44)) (w.heap.size + 1) (by simp)
  rw [show (w.alloc (.cells #[.slice A1 st.length c1, .slice A2 sy.length c2] 44)).heap.size = w.heap.size + 1 by simp] at own0
  go_enter Tryd.func115, Tryd.ntmps115
  go_wp2_with fail
  generalize ((w.alloc (.cells #[.slice A1 st.length c1, .slice A2 sy.length c2] 44)).alloc (.cells #[] 108)) = W0 at hB0 f0 hs0 own0 ⊢
  have hs0' : w.heap.size < W0.heap.size := by omega
  refine (HCW _).mono ?_
  rintro e w1 ⟨gw, cw, ⟨rfl, ownW0⟩, hb1⟩
  have hB1 := hB0.trans (hb1.mono hB0.size)
  have g0 := (belowL hb1 hs0').trans f0
  have own1 := own_belowZ own0 hb1
  have ownW1 := own_monoZ ownW0 (show w.heap.size + 1 ≤ W0.heap.size by omega)
  have hw1s := hb1.size
  clear own0 hb1 hB0 f0 HCW ownW0
  go_wp2_with fail
  go_loopw [5, 7, 8] (fun ov iv _ wr => ∃ k : Nat, k ≤ ws.length ∧ iv = .int .i64 k ∧ ∃ (g c : Nat) (O : List TmD), ov = .slice (some ⟨g, 0, none⟩) O.length c ∧ Hid (O = plainL st (ws.take k)) ∧ OwnE encTm 108 2 wr (w.heap.size + 1) g c O ∧ OwnE encW 132 4 wr (w.heap.size + 1) gw cw ws ∧ Below (w.heap.size + 1) w1 wr) (fun _ iv _ _ => ws.length - (intOf iv).toNat)
  case atStart => exact ⟨0, Nat.zero_le _, rfl, _, _, [], rfl, rfl, own1, ownW1, Below.refl _ _⟩
  case round =>
    clear own1 ownW1
    obtain ⟨k, hk, rfl, g, co, O, rfl, hO, own, ownW, hB⟩ := hrel
    obtain ⟨wo, hwo⟩ : ∃ wo, wo = wr := ⟨_, rfl⟩
    subst hwo
    have hBs := hB.size
    have hBs2 : w.heap.size + 1 ≤ wo.heap.size := by omega
    by_cases hlt : k < ws.length
    · have hi0 : (k : Int) < (ws.length : Int) := by omega
      obtain ⟨b, off, e, hb, x0, x1, _, _⟩ := SrcE.atW ownW.src hlt
      simp only [Option.some.injEq, Addr.mk.injEq, and_true] at e
      obtain ⟨rfl, rfl⟩ := e
      simp only [Nat.zero_add] at x0 x1
      have hwo := HWO.out ws[k] (List.getElem_mem _)
      have hws := wordB_size hwo.1
      have hy := plainL_yes (st := st) hlt
      have hn := plainL_no (st := st) hlt
      have hol : O.length ≤ k := by
        rw [hO.out]
        exact Nat.le_trans (plainL_len _ _) (by rw [List.length_take]; omega)
      have hip : isPl st ws[k] = (!(hasB st ws[k].tx) && !(hasB st (stemB ws[k].tx))) := rfl
      rw [hip, ← hO.out] at hy hn
      clear hwo hip hO
      generalize ws[k].tx = tx at x0 hy hn hws
      generalize ws[k].at' = p at x1 hy hn
      have HY := Lib.hid hy
      have HN := Lib.hid hn
      clear hy hn
      go_wp2_with fail
      refine (l2Stem_any tx _ (by omega)).mono ?_
      rintro e w2 ⟨rfl, hb2⟩
      generalize stemB tx = sm at HY HN ⊢
      have hB2 := hB.trans (hb2.mono hBs2)
      have hB2s := hB2.size
      have g1 := (belowL hB2 (show w.heap.size < w.heap.size + 1 by omega)).trans g0
      have hst2 := hst.below (hB1.trans (hB2.mono (Nat.le_succ _)))
      have own2 := own_belowZ own hb2
      have ownW2 := own_belowZ ownW hb2
      have y0 := (belowL hb2 hb).trans x0
      have y1 := (belowL hb2 hb).trans x1
      have m0 := cell_regrown g1
      have m1 := cell_regrown y0
      clear x0 x1 own ownW hb2 g1
      cases h1 : hasB st tx with
      | true =>
        have HM : Hid (plainL st (ws.take (k + 1)) = O) := HN.out (by rw [h1]; rfl)
        clear HY HN
        go_wp2_with fail
        refine region_qw (by kernel_rfl) (by kernel_rfl) ?_
        repeat (
          refine qw_step (fun K hK => ?_)
          go_simp
          first
            | (refine hK _ ?_; clear hK K)
            | (apply Exists.intro
               refine ⟨fun _ => ?_, hK _ ?_⟩
               (first | (go_at_call 88; exact cL2Has _ _ _ _ _ rfl _ hst2 hsT1 _ _))
               clear hK K)
            | fail)
        refine qw_nil ?_
        intro _ hw'
        obtain ⟨⟨dq, osq⟩, hw''⟩ := hw'
        subst hw''
        have hBq := hB2.trans ((below_regrown w2 dq osq).mono (by have := hB2.size; omega))
        have own3 := own_belowZ own2 (below_regrown w2 dq osq)
        have ownW3 := own_belowZ ownW2 (below_regrown w2 dq osq)
        clear own2 ownW2
        go_wp2
        go_roundw
        case rel => exact ⟨k + 1, by omega, by go_num, g, co, O, rfl, HM.out.symm, own3, ownW3, hBq⟩
        case measure => simp [intOf] <;> omega
      | false =>
        cases h2 : hasB st sm with
        | true =>
          have HM : Hid (plainL st (ws.take (k + 1)) = O) := HN.out (by rw [h1, h2]; rfl)
          clear HY HN
          go_wp2_with fail
          refine region_qw (by kernel_rfl) (by kernel_rfl) ?_
          repeat (
            refine qw_step (fun K hK => ?_)
            go_simp
            first
              | (refine hK _ ?_; clear hK K)
              | (apply Exists.intro
                 refine ⟨fun _ => ?_, hK _ ?_⟩
                 (first | (go_at_call 88; exact cL2Has _ _ _ _ _ rfl _ hst2 hsT1 _ _))
                 clear hK K)
              | fail)
          refine qw_nil ?_
          intro _ hw'
          obtain ⟨⟨dq, osq⟩, hw''⟩ := hw'
          subst hw''
          have hBq := hB2.trans ((below_regrown w2 dq osq).mono (by have := hB2.size; omega))
          have own3 := own_belowZ own2 (below_regrown w2 dq osq)
          have ownW3 := own_belowZ ownW2 (below_regrown w2 dq osq)
          clear own2 ownW2
          go_wp2
          go_roundw
          case rel => exact ⟨k + 1, by omega, by go_num, g, co, O, rfl, HM.out.symm, own3, ownW3, hBq⟩
          case measure => simp [intOf] <;> omega
        | false =>
          have HM : Hid (plainL st (ws.take (k + 1)) = O ++ [(sm, p)]) := HY.out (by rw [h1, h2]; rfl)
          clear HY HN
          go_wp2_with fail
          refine region_qw (by kernel_rfl) (by kernel_rfl) ?_
          repeat (
            refine qw_step (fun K hK => ?_)
            go_simp
            first
              | (refine hK _ ?_; clear hK K)
              | (apply Exists.intro
                 refine ⟨fun _ => ?_, hK _ ?_⟩
                 (first | (go_at_call 88; exact cL2Has _ _ _ _ _ rfl _ hst2 hsT1 _ _))
                 clear hK K)
              | fail)
          refine qw_nil ?_
          intro _ hw'
          obtain ⟨⟨dq, osq⟩, hw''⟩ := hw'
          subst hw''
          have hBq := hB2.trans ((below_regrown w2 dq osq).mono (by have := hB2.size; omega))
          have own3 := own_belowZ own2 (below_regrown w2 dq osq)
          have ownW3 := own_belowZ ownW2 (below_regrown w2 dq osq)
          have m2 := cell_regrown y1 dq osq
          clear own2 ownW2
          generalize grow (redrawn w2 dq) osq = w3 at hBq own3 ownW3 m2 ⊢
          have hw3s := hBq.size
          go_wp2_with (at_builtin; refine append_rec rowTTm encTm_ok (by decide) rfl _ _ rfl (w.heap.size + 1) _ _ O rfl (own3.alloc _) _ _ _ [(sm, p)] rfl rfl ?_ (by simp only [List.length_cons, List.length_nil]; omega) (by omega) (by simp <;> omega) ?_; exact srcE_litAt encTm_ok #[.string sm, .int .i64 (p : Int)] [(sm, p)] rfl (by rfl) (by first | rfl | (simp; done)))
          intro N hN g7 c7 w7 own7 hg7 hat7 hb7
          have ownW7 := own_other (ownW3.alloc _) hg7 (own_ne ownW3 own3 (by decide) _ _ rfl rfl)
          have hB7 : Below (w.heap.size + 1) w1 w7 := hBq.trans (Below.trans (by (repeat' (first | exact Below.refl _ _ | apply Below.alloc | apply Below.setCell | apply Below.drew | apply below_draws)) <;> (first | omega | (simp <;> omega))) hb7)
          have HN2 : Hid (N = plainL st (ws.take (k + 1))) := by show _ = _; rw [HM.out]; exact hN.out
          clear hN hg7 hat7 hb7 own3 ownW3 HM
          go_wp2
          go_roundw
          case rel => exact ⟨k + 1, by omega, by go_num, g7, c7, N, rfl, HN2, own7, ownW7, hB7⟩
          case measure => simp [intOf] <;> omega
    · have HE : Hid (O = R) := by show _ = _; rw [hO.out, HR.out, List.take_of_length_le (by omega)]
      clear hO
      have := HE.out
      subst this
      clear HR
      go_wp2
      go_ret
      exact ⟨g, co, ⟨rfl, own_monoZ own (by omega)⟩, hB1.trans (hB.mono (by omega))⟩
end Go.Proofs.YtaobgliimbmemaaDoor
