/-
  Contract of ConfOk.
-/
import Derived.Test.YtaobgliimbmemaaDoorConfKit
namespace Go.Proofs.YtaobgliimbmemaaDoor
open Go.RowKit Go.Sort
set_option linter.unusedVariables false

theorem confB_st {c : ConfD} (h : ¬ c.st.length ≤ 6) : confB c = false := by unfold confB; rw [decide_eq_false h]; rfl
theorem confB_sy {c : ConfD} (h : ¬ c.sy.length ≤ 4) : confB c = false := by unfold confB; rw [decide_eq_false h]; simp
theorem confB_up {c : ConfD} (h : upB c.st = false) : confB c = false := by unfold confB; rw [h]; simp
theorem confB_bad {c : ConfD} {k : Nat} (hk : k < c.sy.length) (h : okY c.st c.sy[k] = false) : confB c = false := by unfold confB; rw [all_bad hk h]; simp
theorem confB_good {c : ConfD} (h1 : upB c.st = true) (h2 : c.sy.all (okY c.st) = true) : confB c = (decide (c.st.length ≤ 6) && decide (c.sy.length ≤ 4)) := by unfold confB; rw [h1, h2]; simp
theorem okY_1 {st : List ByteArray} {y : SynD} (h : wi (y.fr.length : Int) 1 3 = false) : okY st y = false := by unfold okY; rw [h]; rfl
theorem okY_2 {st : List ByteArray} {y : SynD} (h : wordB y.tgt = false) : okY st y = false := by unfold okY; rw [h]; simp
theorem okY_3 {st : List ByteArray} {y : SynD} (h : ¬ stemB y.tgt = y.tgt) : okY st y = false := by unfold okY; rw [decide_eq_false h]; simp
theorem okY_4 {st : List ByteArray} {y : SynD} {k : Nat} (hk : k < y.fr.length) (h : okS st y.fr[k] = false) : okY st y = false := by unfold okY; rw [all_bad hk h]; simp
theorem okY_5 {st : List ByteArray} {y : SynD} (h1 : wi (y.fr.length : Int) 1 3 = true) (h2 : wordB y.tgt = true) (h3 : stemB y.tgt = y.tgt) (h4 : y.fr.all (okS st) = true) : okY st y = true := by unfold okY; rw [h1, h2, decide_eq_true h3, h4]; rfl
theorem okS_1 {st : List ByteArray} {s : ByteArray} (h : wordB s = false) : okS st s = false := by unfold okS; rw [h]; rfl
theorem okS_2 {st : List ByteArray} {s : ByteArray} (h : ¬ stemB s = s) : okS st s = false := by unfold okS; rw [decide_eq_false h]; simp
theorem okS_3 {st : List ByteArray} {s : ByteArray} (h : hasB st s = true) : okS st s = false := by unfold okS; rw [h]; simp
theorem okS_4 {st : List ByteArray} {s : ByteArray} (h1 : wordB s = true) (h2 : stemB s = s) (h3 : hasB st s = false) : okS st s = true := by unfold okS; rw [h1, decide_eq_true h2, h3]; rfl
theorem all_full {α : Type} {f : α → Bool} {L : List α} {k : Nat} (h : (L.take k).all f = true) (hk : ¬ k < L.length) : L.all f = true := by rw [List.take_of_length_le (by omega)] at h; exact h
set_option maxRecDepth 4000 in
set_option maxHeartbeats 8000000 in
theorem confOk_any (c : ConfD) (A1 A2 : Option Addr) (c1 c2 : Nat) (w : World) (h : HasC w c A1 c1 A2) (hs : SmC c) :
    Calls Tryd.prog 28 #[.agg #[.slice A1 c.st.length c1, .slice A2 c.sy.length c2]] w fun e w' => e = .returned (.bool (confB c)) ∧ Below w.heap.size w w' := by
  obtain ⟨hsT, hsl, hsY⟩ := hs
  obtain ⟨st, sy⟩ := c
  obtain ⟨R, hR⟩ : ∃ R, R = confB ⟨st, sy⟩ := ⟨_, rfl⟩
  have H1 : Hid (¬ st.length ≤ 6 → R = false) := fun h => by rw [hR]; exact confB_st h
  have H2 : Hid (¬ sy.length ≤ 4 → R = false) := fun h => by rw [hR]; exact confB_sy h
  have H3 : Hid (upB st = false → R = false) := fun h => by rw [hR]; exact confB_up h
  have H4 : Hid (∀ k (hk : k < sy.length), okY st sy[k] = false → R = false) := fun k hk h => by rw [hR]; exact confB_bad hk h
  have H5 : Hid (st.length ≤ 6 → sy.length ≤ 4 → upB st = true → sy.all (okY st) = true → R = true) := fun h1 h2 h3 h4 => by rw [hR, confB_good h3 h4, decide_eq_true h1, decide_eq_true h2]; rfl
  rw [← hR]
  have HSY := Lib.hid hsY
  clear hR hsY
  dsimp only at h hsT hsl ⊢
  obtain ⟨hst, hsy⟩ := h
  dsimp only at hst hsy
  have hB0 : Below w.heap.size w (w.alloc (.cells #[.slice A1 st.length c1, .slice A2 sy.length c2] 44)) := by (repeat' (first | exact Below.refl _ _ | apply Below.alloc | apply Below.setCell | apply Below.drew | apply below_draws)) <;> (first | omega | (simp <;> omega))
  have f0 : (w.alloc (.cells #[.slice A1 st.length c1, .slice A2 sy.length c2] 44)).cell? ⟨w.heap.size, 0, none⟩ = some (.slice A1 st.length c1) := by simp [go_sem]
  have f1 : (w.alloc (.cells #[.slice A1 st.length c1, .slice A2 sy.length c2] 44)).cell? ⟨w.heap.size, 1, none⟩ = some (.slice A2 sy.length c2) := by simp [go_sem]
  have hs0 : w.heap.size < (w.alloc (.cells #[.slice A1 st.length c1, .slice A2 sy.length c2] 44)).heap.size := by simp
  replace hst := hst.below hB0
  replace hsy := hsy.below hB0
  by_cases hl6 : st.length ≤ 6
  · have hl6' : (st.length : Int) ≤ 6 := by omega
    have hd6 : decide ((6 : Int) < (st.length : Int)) = false := decide_eq_false (by omega)
    go_enter Tryd.func28, Tryd.ntmps28
    go_wp2_with fail
    generalize (w.alloc (.cells #[.slice A1 st.length c1, .slice A2 sy.length c2] 44)) = W0 at hB0 f0 f1 hs0 hst hsy ⊢
    have hBw := hB0.size
    generalize hRw : w.heap.size = R0 at f0 f1 hs0 ⊢
    refine (wordsAscend_any A1 c1 st _ hst hsT).mono ?_
    rintro e w1 ⟨rfl, hb1⟩
    have g1 := (hb1.cell (p := ⟨R0, 1, none⟩) hs0).trans f1
    have hB1 := hB0.trans (hb1.mono hBw)
    cases hup : upB st with
    | false =>
      have HN : Hid (R = false) := H3.out hup
      go_wp2
      go_ret
      exact ⟨ret_bool HN.out.symm, hB1⟩
    | true =>
      by_cases hl4 : sy.length ≤ 4
      · have hd4 : decide ((4 : Int) < (sy.length : Int)) = false := decide_eq_false (by omega)
        have HG : Hid (sy.all (okY st) = true → R = true) := H5.out hl6 hl4 hup
        clear H1 H2 H3 H5 hup
        go_wp2_with fail
        go_loopw [4, 6, 26, 52] (fun _ _ iv _ wr => ∃ i : Nat, i ≤ sy.length ∧ iv = .int .i64 i ∧ Hid ((sy.take i).all (okY st) = true) ∧ Below W0.heap.size W0 wr) (fun _ _ iv _ _ => sy.length - (intOf iv).toNat)
        case atStart => exact ⟨0, Nat.zero_le _, rfl, rfl, hb1⟩
        case round =>
          obtain ⟨i, hi, rfl, hm, hB⟩ := hrel
          obtain ⟨wo, hwo⟩ : ∃ wo, wo = wr := ⟨_, rfl⟩
          subst hwo
          have hBs := hB.size
          by_cases hlt : i < sy.length
          · have hi0 : (i : Int) < (sy.length : Int) := by omega
            obtain ⟨b, off, A3, c3, rfl, hbb, x0, x1, x2⟩ := (hsy.below hB) i hlt
            obtain ⟨⟨hf1, hf2⟩, hto⟩ := HSY.out sy[i] (List.getElem_mem _)
            have HBAD := Lib.hid (H4.out i hlt)
            have HSUC := Lib.hid (all_succ (okY st) hlt)
            obtain ⟨y, hy⟩ : ∃ y, y = sy[i] := ⟨_, rfl⟩
            rw [← hy] at x0 x1 x2 hf1 hf2 hto HBAD HSUC
            clear hy
            have hfi : ((y.fr.length : Nat) : Int) ≤ 1048576 := by omega
            have hBA : Below wo.heap.size wo (wo.alloc (.cells #[.slice A3 y.fr.length c3, .string y.tgt] 82)) := by (repeat' (first | exact Below.refl _ _ | apply Below.alloc | apply Below.setCell | apply Below.drew | apply below_draws)) <;> (first | omega | (simp <;> omega))
            have k0 : (wo.alloc (.cells #[.slice A3 y.fr.length c3, .string y.tgt] 82)).cell? ⟨wo.heap.size, 0, none⟩ = some (.slice A3 y.fr.length c3) := by simp [go_sem]
            have k1 : (wo.alloc (.cells #[.slice A3 y.fr.length c3, .string y.tgt] 82)).cell? ⟨wo.heap.size, 1, none⟩ = some (.string y.tgt) := by simp [go_sem]
            have hlA : wo.heap.size < (wo.alloc (.cells #[.slice A3 y.fr.length c3, .string y.tgt] 82)).heap.size := by simp
            have x3 := x2.below hBA
            have hBn := hB.trans (hBA.mono hBs)
            go_wp2_with fail
            clear x0 x1 x2 hBA hB
            generalize (wo.alloc (.cells #[.slice A3 y.fr.length c3, .string y.tgt] 82)) = W1 at k0 k1 x3 hBn hlA ⊢
            generalize wo.heap.size = R1 at k0 k1 hlA ⊢
            have m0 := cell_regrown k0
            have m1 := cell_regrown k1
            have HSs := Lib.hid hf2
            clear hf2
            cases q1 : wi (y.fr.length : Int) 1 3 with
            | false =>
              have HN : Hid (R = false) := HBAD.out (okY_1 q1)

              refine region_qw (by kernel_rfl) (by kernel_rfl) ?_
              repeat (
                refine qw_step (fun K hK => ?_)
                go_simp
                first
                  | (refine hK _ ?_; clear hK K)
                  | (apply Exists.intro
                     refine ⟨fun _ => ?_, hK _ ?_⟩
                     (first | (go_at_call 58; exact cWith _ _ _ _ q1 _ _ _))
                     clear hK K)
                  | fail)
              refine qw_nil ?_
              intro _ hw'
              obtain ⟨⟨dq, osq⟩, hw''⟩ := hw'
              subst hw''
              have hBq := hBn.trans ((below_regrown W1 dq osq).mono hBn.size)
              go_wp2
              go_ret
              exact ⟨ret_bool HN.out.symm, hB0.trans (hBq.mono hBw)⟩
            | true =>
              cases q2 : wordB y.tgt with
              | false =>
                have HN : Hid (R = false) := HBAD.out (okY_2 q2)
                refine region_qw (by kernel_rfl) (by kernel_rfl) ?_
                repeat (
                  refine qw_step (fun K hK => ?_)
                  go_simp
                  first
                    | (refine hK _ ?_; clear hK K)
                    | (apply Exists.intro
                       refine ⟨fun _ => ?_, hK _ ?_⟩
                       (first | (go_at_call 58; exact cWith _ _ _ _ q1 _ _ _) | (go_at_call 59; exact cWordOk _ _ q2 (by omega) _ _ _))
                       clear hK K)
                    | fail)
                refine qw_nil ?_
                intro _ hw'
                obtain ⟨⟨dq, osq⟩, hw''⟩ := hw'
                subst hw''
                have hBq := hBn.trans ((below_regrown W1 dq osq).mono hBn.size)
                go_wp2
                go_ret
                exact ⟨ret_bool HN.out.symm, hB0.trans (hBq.mono hBw)⟩
              | true =>
                by_cases q3 : stemB y.tgt = y.tgt
                · have ht := q3
                  have hq : (y.tgt.toList == y.tgt.toList) = true := by simp
                  refine region_qw (by kernel_rfl) (by kernel_rfl) ?_
                  repeat (
                    refine qw_step (fun K hK => ?_)
                    go_simp
                    first
                      | (refine hK _ ?_; clear hK K)
                      | (apply Exists.intro
                         refine ⟨fun _ => ?_, hK _ ?_⟩
                         (first | (go_at_call 58; exact cWith _ _ _ _ q1 _ _ _) | (go_at_call 59; exact cWordOk _ _ q2 (by omega) _ _ _) | (go_at_call 60; exact cStemOf _ _ ht (by omega) q2 _ _ _))
                         clear hK K)
                      | fail)
                  refine qw_nil ?_
                  intro _ hw'
                  obtain ⟨⟨dq, osq⟩, hw''⟩ := hw'
                  subst hw''
                  have hBq := hBn.trans ((below_regrown W1 dq osq).mono hBn.size)
                  have p0 := m0 dq osq
                  have x4 := x3.below (below_regrown W1 dq osq)
                  have hlB := Nat.lt_of_lt_of_le hlA (below_regrown W1 dq osq).size
                  dsimp only
                  clear m0 m1 x3 hBn k0 k1 hlA
                  generalize (grow (redrawn W1 dq) osq) = W2 at hBq p0 x4 hlB ⊢
                  have HY5 : Hid (y.fr.all (okS st) = true → okY st y = true) := fun h => okY_5 q1 q2 q3 h
                  have HY4 : Hid (∀ k (hk : k < y.fr.length), okS st y.fr[k] = false → R = false) := fun k hk h => HBAD.out (okY_4 hk h)
                  clear HBAD q1 q2 q3 hq ht
                  go_wp2_with fail
                  go_loopw [6, 52] (fun _ jv wv => ∃ j : Nat, j ≤ y.fr.length ∧ jv = .int .i64 j ∧ Hid ((y.fr.take j).all (okS st) = true) ∧ Below W2.heap.size W2 wv) (fun _ jv _ => y.fr.length - (intOf jv).toNat)
                  case atStart => exact ⟨0, Nat.zero_le _, rfl, rfl, Below.refl _ _⟩
                  case round =>
                    obtain ⟨j, hj, rfl, hm2, hB3⟩ := hrel
                    obtain ⟨wi3, hwi3⟩ : ∃ wi3, wi3 = wr := ⟨_, rfl⟩
                    subst hwi3
                    have hBq3 := hBq.trans (hB3.mono hBq.size)
                    by_cases hltj : j < y.fr.length
                    · have hj0 : (j : Int) < (y.fr.length : Int) := by omega
                      obtain ⟨b4, off4, rfl, hb4, z0⟩ := (x4.below hB3).atT hltj
                      have hsz := HSs.out y.fr[j] (List.getElem_mem _)
                      have HB4 := Lib.hid (HY4.out j hltj)
                      have HS4 := Lib.hid (all_succ (okS st) hltj)
                      generalize y.fr[j] = x at z0 hsz HB4 HS4
                      go_wp2_with fail
                      refine (wordOk_any x _ (by omega)).mono ?_
                      rintro e w5 ⟨rfl, rfl⟩
                      cases s1 : wordB x with
                      | false =>
                        have HN : Hid (R = false) := HB4.out (okS_1 s1)
                        go_wp2
                        go_ret
                        exact ⟨ret_bool HN.out.symm, hB0.trans (hBq3.mono hBw)⟩
                      | true =>
                        go_wp2_with fail
                        refine (stemOf_any x _ (by omega) s1).mono ?_
                        rintro e w6 ⟨rfl, hb6⟩
                        have hB6 := hBq3.trans (hb6.mono hBq3.size)
                        have hB36 := hB3.trans (hb6.mono hB3.size)
                        by_cases s2 : stemB x = x
                        · have hq2 : ((stemB x).toList == x.toList) = true := by rw [s2]; simp
                          have g0 := (hB6.cell (p := ⟨R0, 0, none⟩) hs0).trans f0
                          have st6 := hst.below hB6
                          have hq3 : (x.toList == x.toList) = true := by simp
                          rw [s2]
                          go_wp2_with fail
                          refine (contains_any A1 c1 st x _ st6 (by omega)).mono ?_
                          rintro e w7 ⟨rfl, rfl⟩
                          cases s3 : hasB st x with
                          | true =>
                            have HN : Hid (R = false) := HB4.out (okS_3 s3)
                            go_wp2
                            go_ret
                            exact ⟨ret_bool HN.out.symm, hB0.trans (hB6.mono hBw)⟩
                          | false =>
                            have HN : Hid ((y.fr.take (j + 1)).all (okS st) = true) := by show _ = _; rw [HS4.out, hm2.out, okS_4 s1 s2 s3]; rfl
                            clear hq2 hq3 s1 s2 s3 hm2 HS4 HB4
                            go_wp2
                            go_roundw
                            case rel => exact ⟨j + 1, by omega, by go_num, HN, hB36⟩
                            case measure => simp [intOf]; omega
                        · have hq2 : ((stemB x).toList == x.toList) = false := by rw [bytes_eq]; exact decide_eq_false s2
                          have HN : Hid (R = false) := HB4.out (okS_2 s2)
                          clear s2
                          go_wp2
                          go_ret
                          exact ⟨ret_bool HN.out.symm, hB0.trans (hB6.mono hBw)⟩
                    · have HYO := HY5.out (all_full hm2.out hltj)
                      have HN : Hid ((sy.take (i + 1)).all (okY st) = true) := by show _ = _; rw [HSUC.out, hm.out, HYO]; rfl
                      clear hm hm2 HYO HSUC
                      go_wp2
                      go_roundw
                      case rel => exact ⟨i + 1, by omega, by go_num, HN, hBq3⟩
                      case measure => simp [intOf]; omega
                · have HN : Hid (R = false) := HBAD.out (okY_3 q3)
                  obtain ⟨t, ht⟩ : ∃ t, stemB y.tgt = t := ⟨_, rfl⟩
                  have hq : (t.toList == y.tgt.toList) = false := by rw [bytes_eq, ← ht]; exact decide_eq_false q3
                  clear q3
                  refine region_qw (by kernel_rfl) (by kernel_rfl) ?_
                  repeat (
                    refine qw_step (fun K hK => ?_)
                    go_simp
                    first
                      | (refine hK _ ?_; clear hK K)
                      | (apply Exists.intro
                         refine ⟨fun _ => ?_, hK _ ?_⟩
                         (first | (go_at_call 58; exact cWith _ _ _ _ q1 _ _ _) | (go_at_call 59; exact cWordOk _ _ q2 (by omega) _ _ _) | (go_at_call 60; exact cStemOf _ _ ht (by omega) q2 _ _ _))
                         clear hK K)
                      | fail)
                  refine qw_nil ?_
                  intro _ hw'
                  obtain ⟨⟨dq, osq⟩, hw''⟩ := hw'
                  subst hw''
                  have hBq := hBn.trans ((below_regrown W1 dq osq).mono hBn.size)
                  go_wp2
                  go_ret
                  exact ⟨ret_bool HN.out.symm, hB0.trans (hBq.mono hBw)⟩
          · have HN : Hid (R = true) := HG.out (all_full hm.out hlt)
            clear hm
            go_wp2
            go_ret
            exact ⟨ret_bool HN.out.symm, hB0.trans (hB.mono hBw)⟩
      · have HN : Hid (R = false) := H2.out hl4
        have hd4 : (4 : Int) < (sy.length : Int) := by omega
        go_wp2
        go_ret
        exact ⟨ret_bool HN.out.symm, hB1⟩
  · have hl6' : (6 : Int) < (st.length : Int) := by omega
    have HN : Hid (R = false) := H1.out hl6
    go_enter Tryd.func28, Tryd.ntmps28
    go_wp2
    go_ret
    exact ⟨ret_bool HN.out.symm, hB0⟩
end Go.Proofs.YtaobgliimbmemaaDoor
