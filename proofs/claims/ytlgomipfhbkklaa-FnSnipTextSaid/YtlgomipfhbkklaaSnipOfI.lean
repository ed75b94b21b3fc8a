/-
  Contract of SnipOf (impl).
-/
import Derived.Test.YtlgomipfhbkklaaSnipI
namespace Go.Proofs.Ytlgomipfhbkklaa
open Go.RowKit Go.Sort Go.Maps
set_option linter.unusedVariables false

theorem ret_i {a b : Int} (h : a = b) : Ending.returned (.int .i64 a) = .returned (.int .i64 b) := by rw [h]
theorem fullB_eq (x : ByteArray) : (x.toList == (⟨#[]⟩ : ByteArray).toList) = !(fullB x) := by
  rw [bytes_eq]
  show decide (x = ByteArray.empty) = !(decide (x ≠ ByteArray.empty))
  by_cases h : x = ByteArray.empty <;> simp [h]
theorem fullB_emp (x : ByteArray) : x.toList.isEmpty = !(fullB x) := by
  have h := fullB_eq x
  have e : (⟨#[]⟩ : ByteArray).toList = [] := by first | rfl | decide | simp
  rw [e] at h
  rw [← h]
  cases x.toList <;> rfl
theorem SetS.mono {w : World} {b n n' : Nat} {xs : List ByteArray} (h : SetS w b n xs) (hn : n ≤ n') : SetS w b n' xs := by
  obtain ⟨es, clock, h1, h2, h3, h4⟩ := h
  exact ⟨es, clock, h1, h2, Nat.le_trans h3 hn, h4⟩
/-- the head of a row. -/
theorem SrcE.headT {w : World} {A : Option Addr} {c c' : Nat} {L : List ByteArray} (h : SrcT w A c L) {k : Nat} (hk : k ≤ L.length) (hA : L ≠ []) : SrcT w A c' (L.take k) := by
  obtain ⟨b, off, rfl, _⟩ := h.atT (k := 0) (List.length_pos_iff.2 hA)
  exact h.take encT_ok hk
theorem winL_nil (M : List ByteArray) (a w : Nat) : (winL M a w).take 0 = [] := rfl
set_option maxRecDepth 8000 in
set_option maxHeartbeats 12800000 in
theorem snipOf_any (d : ConfD) (A1 A2 A3 : Option Addr) (c1 c2 c3 : Nat) (s : ByteArray) (ts : List ByteArray) (wd : Int) (w : World) (h : HasC w d A1 c1 A2) (hs : SmC d) (hT : SrcT w A3 c3 ts) (htl : ts.length ≤ 1048576) (htc : ts.length ≤ c3 ∧ c3 ≤ maxLen) (hsz : s.size ≤ 1048576) (hts : ∀ t ∈ ts, t.size ≤ 1048576) :
    Calls Try.prog 9 #[.agg #[.slice A1 d.st.length c1, .slice A2 d.sy.length c2], .string s, .slice A3 ts.length c3, .int .i64 wd] w fun e w' => e = .returned (.int .i64 (snipL d s ts wd)) ∧ Below w.heap.size w w' := by
  obtain ⟨R, hR⟩ : ∃ R, R = snipL d s ts wd := ⟨_, rfl⟩
  rw [← hR]
  have HCF := Lib.hid (fun w h => confOk_any d A1 A2 c1 c2 w h hs)
  have HCM : Hid (confB d = true → textB s = true → ∀ w, HasC w d A1 c1 A2 → SrcT w A3 c3 ts → Calls Try.prog 42 #[.agg #[.slice A1 d.st.length c1, .slice A2 d.sy.length c2], .string s, .slice A3 ts.length c3] w (MakesT (markL (wordsB s).length ts (termsB d s)) w)) := fun h1 h2 w h3 h4 => marks_any d A1 A2 A3 c1 c2 c3 s ts w h3 hs h1 h2 h4 htl hsz
  have HH := Lib.hid h
  have HR : Hid (R = if snipOkB d s ts wd = true then ((bestL (termsB d s) (wordsB s).length ts wd.toNat : Nat) : Int) else -1) := hR
  have HL : Hid (∀ t ∈ termsB d s, t.2 < (wordsB s).length) := termsB_lt d s
  have HND : Hid (((termsB d s).map (·.2)).Nodup) := termsB_nodup d s
  have hwl := wordsB_len s
  have HTS := Lib.hid hts
  obtain ⟨n1, hn1⟩ : ∃ n1, n1 = d.st.length := ⟨_, rfl⟩
  obtain ⟨n2, hn2⟩ : ∃ n2, n2 = d.sy.length := ⟨_, rfl⟩
  rw [← hn1, ← hn2] at HCF HCM ⊢
  clear hn1 hn2 h hs hR hts
  have hB0 : Below w.heap.size w (w.alloc (.cells #[.slice A1 n1 c1, .slice A2 n2 c2] 26)) := by (repeat' (first | exact Below.refl _ _ | apply Below.alloc | apply Below.setCell | apply Below.drew | apply below_draws)) <;> (first | omega | (simp <;> omega))
  have f0 : (w.alloc (.cells #[.slice A1 n1 c1, .slice A2 n2 c2] 26)).cell? ⟨w.heap.size, 0, none⟩ = some (.slice A1 n1 c1) := by simp [go_sem]
  have f1 : (w.alloc (.cells #[.slice A1 n1 c1, .slice A2 n2 c2] 26)).cell? ⟨w.heap.size, 1, none⟩ = some (.slice A2 n2 c2) := by simp [go_sem]
  have hs0 : w.heap.size + 1 ≤ (w.alloc (.cells #[.slice A1 n1 c1, .slice A2 n2 c2] 26)).heap.size := by simp
  have hmm := @run_makeMap Try.prog
  go_enter Try.func9, Try.ntmps9
  go_wp2_with fail
  generalize (w.alloc (.cells #[.slice A1 n1 c1, .slice A2 n2 c2] 26)) = W0 at hB0 f0 f1 hs0 ⊢
  refine (HCF.out _ (HH.out.below hB0)).mono ?_
  rintro e w1 ⟨rfl, hb1⟩
  have hB1 := hB0.trans (hb1.mono hB0.size)
  have g0 := (belowL hb1 (show w.heap.size < W0.heap.size by omega)).trans f0
  have g1 := (belowL hb1 (show w.heap.size < W0.heap.size by omega)).trans f1
  clear f0 f1 hB0 HCF
  cases hc : confB d with
  | false =>
    have HE : Hid (R = -1) := by show _ = _; rw [HR.out, if_neg (by unfold snipOkB; rw [hc]; simp)]
    go_wp2
    go_ret
    exact ⟨ret_i HE.out.symm, hB1⟩
  | true =>
  cases ht : textB s with
  | false =>
    have HE : Hid (R = -1) := by show _ = _; rw [HR.out, if_neg (by unfold snipOkB; rw [ht]; simp)]
    go_wp2_with fail
    refine (textOk_any s _ (by omega)).mono ?_
    rintro e w2 ⟨rfl, rfl⟩
    rw [ht]
    go_wp2
    go_ret
    exact ⟨ret_i HE.out.symm, hB1⟩
  | true =>
  have HCM2 := Lib.hid (HCM.out hc ht)
  have HTX := Lib.hid ht
  have HC := Lib.hid hc
  clear hc ht HCM
  go_wp2_with fail
  refine (textOk_any s _ (by omega)).mono ?_
  rintro e w2 ⟨rfl, rfl⟩
  rw [HTX.out]
  by_cases h4 : 4 < ts.length
  · have HE : Hid (R = -1) := by show _ = _; rw [HR.out, if_neg (by unfold snipOkB; rw [decide_eq_false (show ¬ ts.length ≤ 4 by omega)]; simp)]
    go_wp2
    go_ret
    exact ⟨ret_i HE.out.symm, hB1⟩
  have h4b : ts.length ≤ 4 := by omega
  go_wp2_with fail
  refine (within_any _ _ _ _).mono ?_
  rintro e w2 ⟨rfl, rfl⟩
  cases hwi : wi wd 1 12 with
  | false =>
    have HE : Hid (R = -1) := by show _ = _; rw [HR.out, if_neg (by unfold snipOkB; rw [hwi]; simp)]
    go_wp2
    go_ret
    exact ⟨ret_i HE.out.symm, hB1⟩
  | true =>
  have hwd := wi_true.1 hwi
  obtain ⟨wn, rfl⟩ := Int.eq_ofNat_of_zero_le (show 0 ≤ wd by omega)
  have HE : Hid (termsTo ts ts.length = false → R = -1) := fun h => by rw [HR.out, if_neg (by unfold snipOkB; rw [h]; simp)]
  have HE2 : Hid (termsTo ts ts.length = true → R = ((bestL (termsB d s) (wordsB s).length ts wn : Nat) : Int)) := fun h => by
    rw [HR.out, if_pos (by unfold snipOkB; rw [h, hwi, HC.out, HTX.out, decide_eq_true h4b]; rfl)]; rfl
  clear hwi HR HC HTX
  go_wp2_with fail
  go_loopw [9, 10, 40] (fun _ _ iv wr => ∃ k : Nat, k ≤ ts.length ∧ iv = .int .i64 k ∧ Hid (termsTo ts k = true) ∧ wr = w1) (fun _ _ iv _ => ts.length - (intOf iv).toNat)
  case atStart => exact ⟨0, Nat.zero_le _, rfl, rfl, rfl⟩
  case round =>
    obtain ⟨k, hk, rfl, hm, rfl⟩ := hrel
    by_cases hlt : k < ts.length
    · have hi0 : (k : Int) < (ts.length : Int) := by omega
      have hne : ts ≠ [] := by intro e; rw [e] at hlt; simp at hlt
      have hT1 := hT.below hB1
      obtain ⟨b, off, rfl, hb, x0⟩ := hT1.atT hlt
      have hsx := HTS.out ts[k] (List.getElem_mem _)
      have hkc : k ≤ c3 := by omega
      have htk : SrcT wr (some ⟨b, off, none⟩) c3 (ts.take k) := hT1.take encT_ok (by omega)
      have htl2 : Hid ((ts.take k).length = k) := by show _ = _; rw [List.length_take]; omega
      have hok : termOk ts k = (wordB ts[k] && !(hasB (ts.take k) ts[k])) := by unfold termOk; rw [getT hlt]
      have hsuc := termsTo_succ ts k
      have hsp := termsTo_stop hlt
      rw [hok] at hsuc hsp
      have HCC := Lib.hid (fun w5 h => contains_any (some ⟨b, off, none⟩) c3 (ts.take k) ts[k] w5 h (by rw [htl2.out]; omega))
      rw [htl2.out] at HCC
      generalize ts[k] = x at x0 hsx hsuc hsp HCC
      have HSUC := Lib.hid hsuc
      have HSP := Lib.hid hsp
      clear hsuc hsp hok
      go_wp2_with fail
      refine (wordOk_any x _ (by omega)).mono ?_
      rintro e w3 ⟨rfl, rfl⟩
      cases h1 : wordB x with
      | false =>
        have HN : Hid (R = -1) := HE.out (HSP.out (by rw [h1]; rfl))
        go_wp2
        go_ret
        exact ⟨ret_i HN.out.symm, hB1⟩
      | true =>
        go_wp2_with fail
        refine (HCC.out _ htk).mono ?_
        rintro e w3 ⟨rfl, rfl⟩
        cases h2 : hasB (ts.take k) x with
        | true =>
          have HN : Hid (R = -1) := HE.out (HSP.out (by rw [h1, h2]; rfl))
          go_wp2
          go_ret
          exact ⟨ret_i HN.out.symm, hB1⟩
        | false =>
          have HM : Hid (termsTo ts (k + 1) = true) := by show _ = _; rw [HSUC.out, hm.out, h1, h2]; rfl
          clear h1 h2 HSUC HSP HCC htl2 hm
          go_wp2
          go_roundw
          case rel => exact ⟨k + 1, by omega, by go_num, HM, by first | rfl | trivial⟩
          case measure => simp [intOf] <;> omega
    · have htt : termsTo ts ts.length = true := by have := hm.out; rwa [show k = ts.length by omega] at this
      obtain ⟨wc, hwc⟩ : ∃ wc, wc = wr := ⟨_, rfl⟩
      subst hwc
      have hRR := HE2.out htt
      have hND := termsTo_nodup ts ts.length (Nat.le_refl _) htt
      rw [List.take_length] at hND
      have HSC : Hid (∀ a, scM (markL (wordsB s).length ts (termsB d s)) wn a = scT (termsB d s) ts wn a) := fun a => by
        have := mark_sc (wordsB s).length ts (termsB d s) a wn hND.1 (fun x hx => wordB_ne (hND.2 x hx)) HND.out HL.out
        unfold scM scT fullW
        rw [this.1, this.2]
      have hML := markL_len (wordsB s).length ts (termsB d s)
      have hMX : ∀ x ∈ markL (wordsB s).length ts (termsB d s), x.size ≤ 12 := fun x hx => by
        rcases mark_mem _ ts _ x hx with rfl | h
        · exact Nat.zero_le _
        · exact (wordB_size (hND.2 x (hasB_iff.1 h))).2
      have hRR2 : R = ((bestF (scM (markL (wordsB s).length ts (termsB d s)) wn) ((markL (wordsB s).length ts (termsB d s)).length + 1 - wn)).1 : Int) := by
        rw [hRR, hML]
        unfold bestL
        rw [bestF_congr (sc' := scM (markL (wordsB s).length ts (termsB d s)) wn) _ (fun k _ => (HSC.out k).symm)]
      clear HSC hND hRR htt hm HE HE2 HND HL
      generalize markL (wordsB s).length ts (termsB d s) = M at hML hMX hRR2 HCM2
      have HRR := Lib.hid hRR2
      have HMX := Lib.hid hMX
      have hMl : M.length ≤ 1048576 := by omega
      clear hRR2 hMX hML
      have hT1 := hT.below hB1
      go_wp2_with fail
      refine (HCM2.out _ (HH.out.below hB1) hT1).mono ?_
      rintro e w3 ⟨g, co, ⟨rfl, own⟩, hb3⟩
      have hB3 := hB1.trans (hb3.mono hB1.size)
      have hcap := OwnE.capOk own
      have hwr := hB1.size
      have hw3 : wc.heap.size ≤ w3.heap.size := hb3.size
      clear hb3 g0 g1 hT1 HCM2 HTS hlt hk h4 h4b
      generalize hsc : scM M wn = sc at HRR
      have HSC := Lib.hid hsc
      clear hsc
      go_wp2_with fail
      go_loopw [12, 13, 14, 15, 16, 17, 19, 76] (fun bv kv mv av _ _ _ _ wq => ∃ a : Nat, a ≤ M.length + 1 - wn ∧ av = .int .i64 a ∧ bv = .int .i64 ((bestF sc a).1 : Int) ∧ kv = .int .i64 (bestF sc a).2.1 ∧ mv = .int .i64 (bestF sc a).2.2 ∧ OwnT wq wc.heap.size g co M ∧ Below w3.heap.size w3 wq) (fun _ _ _ av _ _ _ _ _ => M.length + 1 - (intOf av).toNat)
      case atStart => exact ⟨0, Nat.zero_le _, rfl, rfl, rfl, rfl, own, Below.refl _ _⟩
      case round =>
        clear own
        obtain ⟨a, ha, rfl, rfl, rfl, rfl, own, hB⟩ := hrel
        obtain ⟨wq, hwq⟩ : ∃ wq, wq = wr := ⟨_, rfl⟩
        subst hwq
        have hBs := hB.size
        by_cases hlt : a + wn ≤ M.length
        · have hi0 : (a : Int) + (wn : Int) ≤ (M.length : Int) := by omega
          have hy := bestF_yes (sc := sc) (m := a)
          have hn := bestF_no (sc := sc) (m := a)
          have hsa : sc a = ((((dedB (fullW M wn a)).length : Nat) : Int), (((fullW M wn a).length : Nat) : Int)) := by rw [← HSC.out]; rfl
          rw [hsa] at hy hn
          dsimp only at hy hn
          have hfl : (fullW M wn a).length ≤ wn := by
            refine Nat.le_trans (List.length_filter_le _ _) ?_
            rw [winL_len]; omega
          have hdl : (dedB (fullW M wn a)).length ≤ (fullW M wn a).length := by have := dedB_len (fullW M wn a) []; simp at this; exact this
          have HSS : Hid (∀ j (hj : j < wn), fullW M wn a = ((winL M a wn).take wn).filter fullB ∧ ((winL M a wn).take (j + 1)).filter fullB = if fullB (M[a + j]'(by omega)) = true then ((winL M a wn).take j).filter fullB ++ [M[a + j]'(by omega)] else ((winL M a wn).take j).filter fullB) := fun j hj => by
            have hwl : (winL M a wn).length = wn := by rw [winL_len]; omega
            refine ⟨?_, ?_⟩
            · unfold fullW; rw [List.take_of_length_le (by omega)]
            · have hg := winL_get M a wn j (by omega)
              rw [List.getElem?_eq_getElem (by omega), List.getElem?_eq_getElem (by omega)] at hg
              rw [← List.take_append_getElem (show j < (winL M a wn).length by omega), List.filter_append, Option.some.inj hg]
              cases hb : fullB (M[a + j]'(by omega)) with
              | true => rw [if_pos rfl]; simp [hb]
              | false => rw [if_neg (by simp)]; simp [hb]
          have hFE : Hid (((winL M a wn).take wn).filter fullB = fullW M wn a) := by
            have hwl : (winL M a wn).length = wn := by rw [winL_len]; omega
            show _ = _
            unfold fullW; rw [List.take_of_length_le (by omega)]
          generalize winL M a wn = W at HSS hFE
          generalize hfw : fullW M wn a = FW at hy hn hfl hdl hFE HSS
          clear hfw hsa
          generalize hbb : bestF sc a = bb at hy hn ⊢
          obtain ⟨b0, bk, bn⟩ := bb
          dsimp only at hy hn ⊢
          have HY := Lib.hid hy
          have HN := Lib.hid hn
          clear hy hn hbb
          have hca : ¬ co = a := by omega
          have hcd : decide (co = a) = false := decide_eq_false hca
          have hac : a + wn ≤ co := by omega
          have hset0 := SetS.made wq
          have hba : Below wq.heap.size wq (wq.alloc (.map #[] 0)) := by (repeat' (first | exact Below.refl _ _ | apply Below.alloc | apply Below.setCell | apply Below.drew | apply below_draws)) <;> (first | omega | (simp <;> omega))
          have own1 := own_belowZ own hba
          have hgq : g < wq.heap.size := (OwnE.capOk own).2.2.2
          clear own
          go_wp2_with fail
          generalize (wq.alloc (.map #[] 0)) = wz at hset0 hba own1 ⊢
          have hgb : g ≠ wq.heap.size := by omega
          have hBq : w3.heap.size ≤ wq.heap.size := hBs
          generalize hbm : wq.heap.size = bm at hset0 hba hgb hBq ⊢
          have hbe : bm ≤ wq.heap.size := by omega
          clear hbm
          go_loopw [17, 19, 76] (fun nv _ jv wv => ∃ j : Nat, j ≤ wn ∧ jv = .int .i64 j ∧ nv = .int .i64 ((((W.take j).filter fullB).length : Nat) : Int) ∧ SetS wv bm j ((W.take j).filter fullB) ∧ OwnT wv wc.heap.size g co M ∧ Below bm wq wv) (fun _ _ jv _ => wn - (intOf jv).toNat)
          case atStart => exact ⟨0, Nat.zero_le _, rfl, rfl, hset0, own1, hba⟩
          case round =>
            clear own1 hset0 hba
            obtain ⟨j, hj, rfl, rfl, hset, own2, hb2⟩ := hrel
            obtain ⟨wv, hwv⟩ : ∃ wv, wv = wr := ⟨_, rfl⟩
            subst hwv
            have hbs2 := hb2.size
            by_cases hlj : j < wn
            · have hj0 : (j : Int) < (wn : Int) := by omega
              have haj : a + j < M.length := by omega
              obtain ⟨hgb2, x0⟩ := (OwnE.src own2).allT haj
              rw [Nat.zero_add] at x0
              have hss := (HSS.out j hlj).2
              have hmx := HMX.out M[a + j] (List.getElem_mem _)
              have hfj : ((W.take j).filter fullB).length ≤ j := Nat.le_trans (List.length_filter_le _ _) (by rw [List.length_take]; omega)
              generalize (W.take j).filter fullB = F at hss hset hfj ⊢
              generalize M[a + j] = x at x0 hss hmx
              have hq0 := fullB_emp x
              cases hfx : fullB x with
              | true =>
                rw [hfx] at hq0 hss
                replace hq0 : x.toList.isEmpty = false := hq0
                have HF : Hid ((W.take (j + 1)).filter fullB = F ++ [x]) := by show _ = _; rw [hss, if_pos rfl]
                have hkey := keyS (x := x) (by unfold maxLen; omega)
                clear hss hfx
                obtain ⟨w5, hrun, hset5, hg5⟩ := hset.update keyedS Try.underlying72 (by unfold maxLen; omega) hkey (plainElem_bool Try.underlying4 true)
                have own5 := own_other own2 hg5 hgb
                have hb5 := hb2.grown hg5 (by omega) (fun j hj => by cases hj; exact Nat.le_refl _)
                rw [← setB_snoc] at hset5
                have HSE := Lib.hid hset5
                clear hset hset5 own2 hg5 hkey
                go_wp2
                go_roundw
                case rel => exact ⟨j + 1, by omega, by go_num, by rw [HF.out, List.length_append]; rfl, by rw [HF.out]; exact HSE.out, own5, hb5⟩
                case measure => simp [intOf] <;> omega
              | false =>
                rw [hfx] at hq0 hss
                replace hq0 : x.toList.isEmpty = true := hq0
                have HF : Hid ((W.take (j + 1)).filter fullB = F) := by show _ = _; rw [hss, if_neg (by simp)]
                clear hss hfx
                go_wp2
                go_roundw
                case rel => exact ⟨j + 1, by omega, by go_num, by rw [HF.out], by rw [HF.out]; exact hset.mono (by omega), own2, hb2⟩
                case measure => simp [intOf] <;> omega
            · have hjn : j = wn := by omega
              have hset1 : SetS wv bm j FW := by rw [← hFE.out, ← hjn]; exact hset
              have hcn : ((W.take j).filter fullB).length = FW.length := by rw [hjn, hFE.out]
              rw [hcn]
              clear hcn hset
              have HSZ : Hid (((Maps.size (setB FW) : Nat) : Int) = (((dedB FW).length : Nat) : Int)) := by show _ = _; rw [setB_size]
              have hdl2 : (dedB FW).length ≤ 12 := by omega
              have hfl2 : FW.length ≤ 12 := by omega
              have hB5 : Below w3.heap.size w3 wv := hB.trans (hb2.mono hBq)
              generalize hkk : (dedB FW).length = kk at hdl2 HSZ HY HN hdl
              generalize hnn : FW.length = nn at hfl2 HY HN hdl hfl ⊢
              clear hkk hnn hFE HSS
              have hlen : ∀ ty, (Builtin.len_ #[72] ty #[.map (some bm)]).run Try.prog wv = .ok (.int .i64 (kk : Int)) wv := fun ty => by
                have := hset1.len Try.underlying72 ty
                rw [HSZ.out] at this
                exact this
              clear hset1 HSZ
              by_cases h1 : bk < (kk : Int)
              · have HB : Hid (bestF sc (a + 1) = (a, (kk : Int), (nn : Int))) := HY.out (by unfold better; rw [decide_eq_true h1]; rfl)
                clear HY HN
                go_wp2
                go_roundw
                case rel => exact ⟨a + 1, by omega, by go_num, by rw [HB.out], by rw [HB.out], by rw [HB.out], own2, hB5⟩
                case measure => simp [intOf] <;> omega
              · by_cases h2 : (kk : Int) = bk
                · subst h2
                  by_cases h3 : bn < (nn : Int)
                  · have HB : Hid (bestF sc (a + 1) = (a, (kk : Int), (nn : Int))) := HY.out (by unfold better; rw [decide_eq_true h3]; simp)
                    clear HY HN
                    go_wp2
                    go_roundw
                    case rel => exact ⟨a + 1, by omega, by go_num, by rw [HB.out], by rw [HB.out], by rw [HB.out], own2, hB5⟩
                    case measure => simp [intOf] <;> omega
                  · have HB : Hid (bestF sc (a + 1) = (b0, (kk : Int), bn)) := HN.out (by unfold better; rw [decide_eq_false h3]; simp)
                    clear HY HN
                    go_wp2
                    go_roundw
                    case rel => exact ⟨a + 1, by omega, by go_num, by rw [HB.out], by rw [HB.out], by rw [HB.out], own2, hB5⟩
                    case measure => simp [intOf] <;> omega
                · have HB : Hid (bestF sc (a + 1) = (b0, bk, bn)) := HN.out (by unfold better; rw [decide_eq_false h1, decide_eq_false h2]; rfl)
                  have h2b : ((kk : Int) == bk) = false := by rw [beq_eq_false_iff_ne]; exact h2
                  clear HY HN
                  go_wp2
                  go_roundw
                  case rel => exact ⟨a + 1, by omega, by go_num, by rw [HB.out], by rw [HB.out], by rw [HB.out], own2, hB5⟩
                  case measure => simp [intOf] <;> omega
        · have hae : M.length + 1 - wn = a := by omega
          rw [hae] at HRR
          clear hae
          go_wp2
          go_ret
          exact ⟨ret_i HRR.out.symm, hB3.trans (hB.mono (by omega))⟩
end Go.Proofs.Ytlgomipfhbkklaa
