/-
  Contract of TermsOf.
-/
import Derived.Test.YtaobgliimbmemaaDoorRuleAt
import Derived.Test.YtaobgliimbmemaaDoorSpecTm
namespace Go.Proofs.YtaobgliimbmemaaDoor
open Go.RowKit Go.Sort
set_option linter.unusedVariables false

/-- the answer of TermsOf. -/
def termsT (d : ConfD) (s : ByteArray) : List TmD := if (confB d && textB s) = true then termsB d s else []
theorem ptrY_none (A : Option Addr) : ptrY A none = .pointer none := by cases A <;> rfl
theorem ptrY_some (b off k : Nat) : ptrY (some ⟨b, off, none⟩) (some k) = .pointer (some ⟨b, off + k * 2, none⟩) := rfl
set_option maxRecDepth 8000 in
set_option maxHeartbeats 6400000 in
theorem termsOf_any (d : ConfD) (A1 A2 : Option Addr) (c1 c2 : Nat) (s : ByteArray) (w : World) (h : HasC w d A1 c1 A2) (hs : SmC d) (hsz : s.size ≤ 1048576) :
    Calls Tryd.prog 84 #[.agg #[.slice A1 d.st.length c1, .slice A2 d.sy.length c2], .string s] w (MakesTm (termsT d s) w) := by
  have HCF := Lib.hid (fun w h => confOk_any d A1 A2 c1 c2 w h hs)
  have HCR := Lib.hid (fun L A3 c3 a w h hL hsL ha => ruleAt_any d A1 A2 A3 c1 c2 c3 L a w h hs hL hsL ha)
  have HFR : Hid (confB d = true → ∀ k (hk : k < d.sy.length), 1 ≤ d.sy[k].fr.length ∧ d.sy[k].fr.length ≤ 3) := fun hc => confB_fr hc
  have HH := Lib.hid h
  have hT : termsT d s = if (confB d && textB s) = true then termsB d s else [] := rfl
  obtain ⟨R, hR⟩ : ∃ R, R = termsT d s := ⟨_, rfl⟩
  rw [← hR]
  rw [hT] at hR
  unfold termsB at hR
  generalize confB d = C at HCF HFR hR
  have hst := h.st
  have hsy := h.sy
  have hs1 := hs.1.1
  have hsl := hs.2.1
  obtain ⟨st, sy⟩ := d
  dsimp only at HFR HCR HH hR hst hsy hs1 hsl ⊢
  clear hT h hs
  have hB0 : Below w.heap.size w ((w.alloc (.cells #[.slice A1 st.length c1, .slice A2 sy.length c2] 44)).alloc (.cells #[] 108)) := by (repeat' (first | exact Below.refl _ _ | apply Below.alloc | apply Below.setCell | apply Below.drew | apply below_draws)) <;> (first | omega | (simp <;> omega))
  have f0 : ((w.alloc (.cells #[.slice A1 st.length c1, .slice A2 sy.length c2] 44)).alloc (.cells #[] 108)).cell? ⟨w.heap.size, 0, none⟩ = some (.slice A1 st.length c1) := by simp [go_sem]
  have f1 : ((w.alloc (.cells #[.slice A1 st.length c1, .slice A2 sy.length c2] 44)).alloc (.cells #[] 108)).cell? ⟨w.heap.size, 1, none⟩ = some (.slice A2 sy.length c2) := by simp [go_sem]
  have hs0 : w.heap.size + 2 ≤ ((w.alloc (.cells #[.slice A1 st.length c1, .slice A2 sy.length c2] 44)).alloc (.cells #[] 108)).heap.size := by simp
  have own0 := ownE_made (enc := encTm) (F := 2) 108 (w.alloc (.cells #[.slice A1 st.length c1, .slice A2 sy.length c2] 44)) (w.heap.size + 1) (by simp)
  rw [show (w.alloc (.cells #[.slice A1 st.length c1, .slice A2 sy.length c2] 44)).heap.size = w.heap.size + 1 by simp] at own0
  have HR := Lib.hid hR
  clear hR
  go_enter Tryd.func84, Tryd.ntmps84
  go_wp2_with fail
  generalize ((w.alloc (.cells #[.slice A1 st.length c1, .slice A2 sy.length c2] 44)).alloc (.cells #[] 108)) = W0 at hB0 f0 f1 hs0 own0 ⊢
  have hs0' : w.heap.size < W0.heap.size := by omega
  refine (HCF.out _ (HH.out.below hB0)).mono ?_
  rintro e w1 ⟨rfl, hb1⟩
  have hB1 := hB0.trans (hb1.mono hB0.size)
  have g0 := (belowL hb1 hs0').trans f0
  have g1 := (belowL hb1 hs0').trans f1
  have own1 := own_belowZ own0 hb1
  have hw1s := hb1.size
  clear own0 hb1 hB0 f0 f1 HCF
  cases C with
  | false =>
    have HE : Hid (R = []) := HR.out
    clear HR
    have := HE.out
    subst this
    go_wp2
    go_ret
    exact ⟨_, _, ⟨rfl, own_monoZ own1 (by omega)⟩, hB1⟩
  | true =>
    cases ht : textB s with
    | false =>
      have HE : Hid (R = []) := by show _ = _; rw [HR.out, ht]; rfl
      clear HR
      have := HE.out
      subst this
      go_wp2_with fail
      refine (textOk_any s _ (by omega)).mono ?_
      rintro e w2 ⟨rfl, rfl⟩
      rw [ht]
      go_wp2
      go_ret
      exact ⟨_, _, ⟨rfl, own_monoZ own1 (by omega)⟩, hB1⟩
    | true =>
      have HE : Hid (R = termsL sy (plainL st (wordsB s))) := by show _ = _; rw [HR.out, ht]; rfl
      have HFR2 := Lib.hid (HFR.out rfl)
      have HCW : Hid (∀ w, Calls Tryd.prog 109 #[.string s] w (MakesW (wordsB s) w)) := fun w => by
        have h1 := wordsOf_any s w hsz
        have e : wordsT s = wordsB s := by unfold wordsT; rw [ht]; rfl
        rwa [e] at h1
      have hwl := wordsB_len s
      have HWO : Hid (∀ x ∈ wordsB s, wordB x.tx = true ∧ x.fr < x.tgt ∧ x.tgt ≤ s.size) := wordsFrom_ok s 0 0
      have HPM : Hid (SmTm (plainL st (wordsB s))) := plainL_sm hsz
      clear HR HFR
      have HTX := Lib.hid ht
      clear ht
      go_wp2_with fail
      refine (textOk_any s _ (by omega)).mono ?_
      rintro e w2 ⟨rfl, rfl⟩
      rw [HTX.out]
      clear HTX
      have hb2 : Below w1.heap.size w1 (w1.alloc (.cells #[] 108)) := by (repeat' (first | exact Below.refl _ _ | apply Below.alloc | apply Below.setCell | apply Below.drew | apply below_draws)) <;> (first | omega | (simp <;> omega))
      have ownT0 := ownE_made (enc := encTm) (F := 2) 108 w1 (w.heap.size + 2) (by omega)
      go_wp2_with fail
      generalize hgt : w1.heap.size = gt0 at hb2 ownT0 hw1s ⊢
      generalize (w1.alloc (.cells #[] 108)) = w2 at hb2 ownT0 ⊢
      subst hgt
      generalize wordsB s = ws at HE HCW hwl HWO HPM
      refine (HCW.out _).mono ?_
      rintro e w3 ⟨gw, cw, ⟨rfl, ownW0⟩, hb3⟩
      have hb23 := hb2.trans (hb3.mono hb2.size)
      have hB3 := hB1.trans (hb23.mono hB1.size)
      have k0 := (belowL hb23 (show w.heap.size < w1.heap.size by omega)).trans g0
      have k1 := (belowL hb23 (show w.heap.size < w1.heap.size by omega)).trans g1
      have own3 := own_belowZ own1 hb23
      have ownT3 := own_belowZ ownT0 hb3
      have hw3s := hb23.size
      have hw2s := hb2.size
      have ownW3 := own_monoZ ownW0 (show w.heap.size + 2 ≤ w2.heap.size by omega)
      clear own1 ownT0 ownW0 hb2 hb3 hb23 g0 g1 HCW
      go_wp2_with fail
      go_loopw [6, 8, 9, 26] (fun tv _ _ iv wr => ∃ k : Nat, k ≤ ws.length ∧ iv = .int .i64 k ∧ ∃ (g c : Nat) (O : List TmD), tv = .slice (some ⟨g, 0, none⟩) O.length c ∧ Hid (O = plainL st (ws.take k)) ∧ OwnE encTm 108 2 wr (w.heap.size + 2) g c O ∧ OwnE encW 132 4 wr (w.heap.size + 2) gw cw ws ∧ Below (w.heap.size + 2) w3 wr) (fun _ _ _ iv _ => ws.length - (intOf iv).toNat)
      case atStart => exact ⟨0, Nat.zero_le _, rfl, _, _, [], rfl, rfl, ownT3, ownW3, Below.refl _ _⟩
      case round =>
        clear ownT3 ownW3
        obtain ⟨k, hk, rfl, g, co, O, rfl, hO, own, ownW, hB⟩ := hrel
        obtain ⟨wo, hwo⟩ : ∃ wo, wo = wr := ⟨_, rfl⟩
        subst hwo
        have hBs := hB.size
        have hBs2 : w.heap.size + 2 ≤ wo.heap.size := by omega
        by_cases hlt : k < ws.length
        · have hi0 : (k : Int) < (ws.length : Int) := by omega
          obtain ⟨b, off, e, hb, x0, x1, x2, x3⟩ := SrcE.atW ownW.src hlt
          simp only [Option.some.injEq, Addr.mk.injEq, and_true] at e
          obtain ⟨rfl, rfl⟩ := e
          simp only [Nat.zero_add] at x0 x1 x2 x3
          have hwo := HWO.out ws[k] (List.getElem_mem _)
          have hws := wordB_size hwo.1
          have HWB := Lib.hid hwo.1
          have hy := plainL_yes (st := st) hlt
          have hn := plainL_no (st := st) hlt
          have hol : O.length ≤ k := by
            rw [hO.out]
            exact Nat.le_trans (plainL_len _ _) (by rw [List.length_take]; omega)
          have hip : isPl st ws[k] = (!(hasB st ws[k].tx) && !(hasB st (stemB ws[k].tx))) := rfl
          rw [hip, ← hO.out] at hy hn
          clear hwo hip hO
          generalize ws[k].tx = tx at x0 hy hn hws HWB
          generalize ws[k].at' = p at x1 hy hn
          generalize ws[k].fr = p2 at x2
          generalize ws[k].tgt = p3 at x3
          have HY := Lib.hid hy
          have HN := Lib.hid hn
          clear hy hn
          have hba : Below wo.heap.size wo (wo.alloc (.cells #[.string tx, .int .i64 (p : Int), .int .i64 (p2 : Int), .int .i64 (p3 : Int)] 132)) := by (repeat' (first | exact Below.refl _ _ | apply Below.alloc | apply Below.setCell | apply Below.drew | apply below_draws)) <;> (first | omega | (simp <;> omega))
          have u0 : (wo.alloc (.cells #[.string tx, .int .i64 (p : Int), .int .i64 (p2 : Int), .int .i64 (p3 : Int)] 132)).cell? ⟨wo.heap.size, 0, none⟩ = some (.string tx) := by simp [go_sem]
          have u1 : (wo.alloc (.cells #[.string tx, .int .i64 (p : Int), .int .i64 (p2 : Int), .int .i64 (p3 : Int)] 132)).cell? ⟨wo.heap.size, 1, none⟩ = some (.int .i64 (p : Int)) := by simp [go_sem]
          have hsa : wo.heap.size + 1 = (wo.alloc (.cells #[.string tx, .int .i64 (p : Int), .int .i64 (p2 : Int), .int .i64 (p3 : Int)] 132)).heap.size := by simp
          go_wp2_with fail
          generalize (wo.alloc (.cells #[.string tx, .int .i64 (p : Int), .int .i64 (p2 : Int), .int .i64 (p3 : Int)] 132)) = wz at hba u0 u1 hsa ⊢
          refine (stemOf_any tx _ (by omega) HWB.out).mono ?_
          rintro e w4 ⟨rfl, hb4⟩
          generalize stemB tx = sm at HY HN ⊢
          have hb5 := hba.trans (hb4.mono hba.size)
          have hB4 := hB.trans (hb5.mono hBs2)
          have hB4s := hB4.size
          have v0 := (belowL hb4 (show wo.heap.size < wz.heap.size by omega)).trans u0
          have v1 := (belowL hb4 (show wo.heap.size < wz.heap.size by omega)).trans u1
          have h0 := (belowL hB4 (show w.heap.size < w.heap.size + 2 by omega)).trans k0
          have hst4 := hst.below (hB3.trans (hB4.mono (by omega)))
          have own4 := own_belowZ own hb5
          have ownW4 := own_belowZ ownW hb5
          clear x0 x1 x2 x3 own ownW hb4 hba u0 u1 hb5
          cases h1 : hasB st tx with
          | true =>
            have HM : Hid (plainL st (ws.take (k + 1)) = O) := HN.out (by rw [h1]; rfl)
            clear HY HN
            go_wp2_with fail
            refine (contains_any _ _ st tx _ hst4 (by omega)).mono ?_
            rintro e w5 ⟨rfl, rfl⟩
            rw [h1]
            go_wp2
            go_roundw
            case rel => exact ⟨k + 1, by omega, by go_num, g, co, O, rfl, HM.out.symm, own4, ownW4, hB4⟩
            case measure => simp [intOf] <;> omega
          | false =>
            cases h2 : hasB st sm with
            | true =>
              have HM : Hid (plainL st (ws.take (k + 1)) = O) := HN.out (by rw [h1, h2]; rfl)
              clear HY HN
              go_wp2_with fail
              refine (contains_any _ _ st tx _ hst4 (by omega)).mono ?_
              rintro e w5 ⟨rfl, rfl⟩
              rw [h1]
              go_wp2_with fail
              refine (contains_any _ _ st sm _ hst4 (by omega)).mono ?_
              rintro e w5 ⟨rfl, rfl⟩
              rw [h2]
              go_wp2
              go_roundw
              case rel => exact ⟨k + 1, by omega, by go_num, g, co, O, rfl, HM.out.symm, own4, ownW4, hB4⟩
              case measure => simp [intOf] <;> omega
            | false =>
              have HM : Hid (plainL st (ws.take (k + 1)) = O ++ [(sm, p)]) := HY.out (by rw [h1, h2]; rfl)
              clear HY HN
              go_wp2_with fail
              refine (contains_any _ _ st tx _ hst4 (by omega)).mono ?_
              rintro e w5 ⟨rfl, rfl⟩
              rw [h1]
              go_wp2_with fail
              refine (contains_any _ _ st sm _ hst4 (by omega)).mono ?_
              rintro e w5 ⟨rfl, rfl⟩
              rw [h2]
              clear h1 h2
              have hne : gw ≠ g := own_ne ownW4 own4 (by decide) _ _ rfl rfl
              go_wp2_with (at_builtin; refine append_rec rowTTm encTm_ok (by decide) rfl _ _ rfl (w.heap.size + 2) _ _ O rfl (own4.alloc _) _ _ _ [(sm, p)] rfl rfl ?_ (by simp only [List.length_cons, List.length_nil]; omega) (by omega) (by simp <;> omega) ?_; exact srcE_litAt encTm_ok #[.string sm, .int .i64 (p : Int)] [(sm, p)] rfl (by rfl) (by first | rfl | (simp; done)))
              intro N hN g7 c7 w7 own7 hg7 hat7 hb7
              have ownW7 := own_other (ownW4.alloc _) hg7 hne
              have hB7 : Below (w.heap.size + 2) w3 w7 := hB4.trans (Below.trans (by (repeat' (first | exact Below.refl _ _ | apply Below.alloc | apply Below.setCell | apply Below.drew | apply below_draws)) <;> (first | omega | (simp <;> omega))) hb7)
              have HN2 : Hid (N = plainL st (ws.take (k + 1))) := by show _ = _; rw [HM.out]; exact hN.out
              clear hN hg7 hat7 hb7 own4 ownW4 HM
              go_wp2
              go_roundw
              case rel => exact ⟨k + 1, by omega, by go_num, g7, c7, N, rfl, HN2, own7, ownW7, hB7⟩
              case measure => simp [intOf] <;> omega
        · have e1 : O = plainL st ws := by rw [hO.out, List.take_of_length_le (by omega)]
          clear hO
          subst e1
          generalize plainL st ws = P at own HE HPM ⊢
          obtain ⟨hP1, hP2⟩ := HPM.out
          have HP2 := Lib.hid hP2
          clear hP2 HPM HWO ownW
          have hB4 := hB3.trans (hB.mono (by omega))
          have j0 := (belowL hB (show w.heap.size < w.heap.size + 2 by omega)).trans k0
          have j1 := (belowL hB (show w.heap.size < w.heap.size + 2 by omega)).trans k1
          have own5 := own_under (B := w.heap.size + 2) own3 hB (fun k hk => by simp [Value.ownBlock] at hk; omega)
          have hcapT := OwnE.capOk own
          have srcP := own.src
          clear own own3 k0 k1
          generalize hgg : w.heap.size + 1 = g0 at own5 ⊢
          have hg0 : g0 ≠ g := by omega
          have own6 := own_monoZ own5 (show w.heap.size + 1 ≤ g0 by omega)
          have hBW := hB4
          have hwos := hBs2
          clear hB hB4 own5 hgg
          have HEE : Hid (R = [] ++ termsL sy (P.drop 0)) := HE.out
          clear HE
          go_wp2_with fail
          go_loopw [5, 10, 11] (fun ov av _ wq => ∃ a : Nat, a ≤ P.length ∧ av = .int .i64 a ∧ ∃ (g' c' : Nat) (O : List TmD), ov = .slice (some ⟨g', 0, none⟩) O.length c' ∧ Hid (R = O ++ termsL sy (P.drop a)) ∧ Hid (O.length ≤ a) ∧ g' ≠ g ∧ SrcE encTm 2 wq (some ⟨g, 0, none⟩) co P ∧ OwnE encTm 108 2 wq (w.heap.size + 1) g' c' O ∧ Below (w.heap.size + 1) wo wq) (fun _ av _ _ => P.length - (intOf av).toNat)
          case atStart => exact ⟨0, Nat.zero_le _, rfl, _, _, [], rfl, HEE.out, Nat.le_refl _, hg0, srcP, own6, Below.refl _ _⟩
          case round =>
            clear own6 srcP HEE hg0
            obtain ⟨a, ha, rfl, g', c', O, rfl, hR2, hOl, hne, hP, own, hB⟩ := hrel
            obtain ⟨wq, hwq⟩ : ∃ wq, wq = wr := ⟨_, rfl⟩
            subst hwq
            have hBs := hB.size
            have hBq2 : w.heap.size + 1 ≤ wq.heap.size := by omega
            have hBw : Below w.heap.size w wq := hBW.trans (hB.mono (by omega))
            by_cases hlt : a < P.length
            · have hi0 : (a : Int) < (P.length : Int) := by omega
              have hol : O.length ≤ a := hOl.out
              have q0 := (belowL hB (show w.heap.size < w.heap.size + 1 by omega)).trans j0
              have q1 := (belowL hB (show w.heap.size < w.heap.size + 1 by omega)).trans j1
              go_wp2_with fail
              refine (HCR.out P _ _ a _ (HH.out.below hBw) hP ⟨hP1, HP2.out⟩ hlt).mono ?_
              rintro e w5 ⟨rfl, hb5⟩
              have hB5 := hB.trans (hb5.mono hBq2)
              have hB5s := hB5.size
              have hP5 := hP.below hb5
              have own5 := own_belowZ own hb5
              have hBw5 : Below w.heap.size w w5 := hBw.trans (hb5.mono (by omega))
              obtain ⟨hgb, t0, t1⟩ := hP5.allTm hlt
              rw [Nat.zero_add] at t0 t1
              clear q0 q1 own hP hb5
              cases hr : ruleS sy (P.drop a) sy.length with
              | none =>
                have HT : Hid (termsL sy (P.drop a) = P[a] :: termsL sy (P.drop (a + 1))) := termsL_none hlt hr
                clear hr
                rw [ptrY_none]
                generalize hx : P[a].1 = tx at t0
                generalize hp : P[a].2 = p at t1
                have HXP : Hid (P[a] = (tx, p)) := by show _ = _; rw [← hx, ← hp]
                clear hx hp
                go_wp2_with (at_builtin; refine append_rec rowTTm encTm_ok (by decide) rfl _ _ rfl (w.heap.size + 1) _ _ O rfl (own5.alloc _) _ _ _ [(tx, p)] rfl rfl ?_ (by simp only [List.length_cons, List.length_nil]; omega) (by omega) (by simp <;> omega) ?_; exact srcE_litAt encTm_ok #[.string tx, .int .i64 (p : Int)] [(tx, p)] rfl (by rfl) (by first | rfl | (simp; done)))
                intro N hN g7 c7 w7 own7 hg7 hat7 hb7
                have hB7 : Below (w.heap.size + 1) wo w7 := hB5.trans (Below.trans (by (repeat' (first | exact Below.refl _ _ | apply Below.alloc | apply Below.setCell | apply Below.drew | apply below_draws)) <;> (first | omega | (simp <;> omega))) hb7)
                have hP7 := (hP5.below (w' := w5.alloc (.cells #[.string tx, .int .i64 (p : Int)] 108)) (by (repeat' (first | exact Below.refl _ _ | apply Below.alloc | apply Below.setCell | apply Below.drew | apply below_draws)) <;> (first | omega | (simp <;> omega)))).kept hg7 (fun e => hne e.symm)
                have hne7 : g7 ≠ g := by
                  rcases hat7 with h | h
                  · omega
                  · first | omega | (simp at h; omega)
                have HN : Hid (R = N ++ termsL sy (P.drop (a + 1))) := by show _ = _; rw [hN.out, hR2.out, HT.out, HXP.out, List.append_assoc]; rfl
                have HNL : Hid (N.length ≤ a + 1) := by show _ ≤ _; rw [hN.out, List.length_append]; simp only [List.length_cons, List.length_nil]; omega
                clear hN hg7 hat7 hb7 HT HXP hR2 own5 hP5 t0 t1
                go_wp2
                go_roundw
                case rel => exact ⟨a + 1, by omega, by go_num, g7, c7, N, rfl, HN, HNL, hne7, hP7, own7, hB7⟩
                case measure => simp [intOf] <;> omega
              | some k =>
                have hkl := ruleS_lt sy _ sy.length k hr
                have hbg := ruleS_beg sy _ sy.length k hr
                have hfr := HFR2.out k hkl
                have hT0 := termsL_some hlt hr (by rw [frAt_get hkl]; exact hfr.1)
                rw [frAt_get hkl, toAt_get hkl] at hT0
                rw [frAt_get hkl] at hbg
                have hfl : a + sy[k].fr.length ≤ P.length := by
                  unfold begB at hbg
                  rw [Bool.and_eq_true, decide_eq_true_eq, List.length_drop] at hbg
                  omega
                obtain ⟨b, off, _, _, rfl, hbw, _⟩ := hsy k hkl
                obtain ⟨B1, d1, hbb, x0, x1, _⟩ := (hsy.below hBw5).all hkl
                rw [ptrY_some]
                have HT := Lib.hid hT0
                clear hr hT0 hbg t0
                generalize hn : sy[k].fr.length = n at x0 hfr hfl HT
                generalize hto : sy[k].tgt = tgt at x1 HT
                generalize hp : P[a].2 = p at t1 HT
                clear hn hto hp
                have hg1 := OwnE.capOk own5
                have n2 : b ≠ g' := by omega
                have n3 : g ≠ g' := fun e => hne e.symm
                go_wp2_with fail
                go_region_held3 (fun w' => w'.cell? ⟨b, off + k * 2 + 1, none⟩ = some (.string tgt) ∧ w'.cell? ⟨g, a * 2 + 1, none⟩ = some (.int .i64 (p : Int)))
                  (first
                    | go_keep
                    | (go_split_ands
                       refine ⟨?_, ?_⟩
                       · (rw [grown_cell hg7 (by simp; omega) n2]; assumption)
                       · (rw [grown_cell hg7 (by simp; omega) n3]; assumption)))
                  ((refine step_append_rec rowTTm encTm_ok (by decide) rfl _ _ rfl (w.heap.size + 1) g' c' O rfl (own5.alloc _) _ _ _ [(tgt, p)] rfl rfl (SrcE.blk (cs := #[.string tgt, .int .i64 (p : Int)]) encTm_ok (heap_alloc_new _ _) rfl) (by simp only [List.length_cons, List.length_nil]; omega) (by omega) (by simp; omega) ?_; intro N hN g7 c7 w7 own7 hg7 hat7 hb7))
                rename_i hHeld
                clear hHeld
                have hbl : Below w5.heap.size w5 ((w5.alloc (.cells #[.string tgt, .int .i64 (p : Int)] 108)).drew) := by (repeat' (first | exact Below.refl _ _ | apply Below.alloc | apply Below.setCell | apply Below.drew | apply below_draws)) <;> (first | omega | (simp <;> omega))
                have h7d := (grown_cell hg7 (Nat.lt_of_lt_of_le hbb hbl.size) n2 (off := off + k * 2)).trans ((belowL hbl hbb).trans x0)
                have hB7 : Below (w.heap.size + 1) wo w7 := hB5.trans (Below.trans (by (repeat' (first | exact Below.refl _ _ | apply Below.alloc | apply Below.setCell | apply Below.drew | apply below_draws)) <;> (first | omega | (simp <;> omega))) hb7)
                have hP7 := (hP5.below hbl).kept hg7 n3
                have hne7 : g7 ≠ g := by
                  rcases hat7 with h | h
                  · omega
                  · first | omega | (simp at h; omega)
                have HN : Hid (R = N ++ termsL sy (P.drop (a + n))) := by show _ = _; rw [hN.out, hR2.out, HT.out, List.append_assoc]; rfl
                have HNL : Hid (N.length ≤ a + n) := by show _ ≤ _; rw [hN.out, List.length_append]; simp only [List.length_cons, List.length_nil]; omega
                clear hN hg7 hat7 hb7 HT hR2 own5 hP5 x0 x1 t1 hbl
                go_wp2
                go_roundw
                case rel => exact ⟨a + n, by omega, by go_num, g7, c7, N, rfl, HN, HNL, hne7, hP7, own7, hB7⟩
                case measure => simp [intOf] <;> omega
            · have HE : Hid (O = R) := by show _ = _; rw [hR2.out, List.drop_of_length_le (by omega), termsL_nil, List.append_nil]
              clear hR2
              have := HE.out
              subst this
              go_wp2
              go_ret
              exact ⟨g', c', ⟨rfl, own_monoZ own (by omega)⟩, hBw⟩
end Go.Proofs.YtaobgliimbmemaaDoor
