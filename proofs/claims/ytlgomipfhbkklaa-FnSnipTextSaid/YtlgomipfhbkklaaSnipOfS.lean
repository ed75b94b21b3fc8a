/-
  Contracts of l17Best, SnipOf (spec).
-/
import Derived.Test.YtlgomipfhbkklaaMany
import Derived.Test.YtlgomipfhbkklaaSpecTm
import Derived.Test.YtlgomipfhbkklaaSnipOfI
namespace Go.Proofs.Ytlgomipfhbkklaa
open Go.RowKit Go.Sort
set_option linter.unusedVariables false

theorem below_same {w w' : World} (h : w = w') : Below w.heap.size w w' := by subst h; exact Below.refl _ _
set_option maxRecDepth 8000 in
set_option maxHeartbeats 6400000 in
theorem l17Best_any (A1 A2 : Option Addr) (c1 c2 : Nat) (L : List TmD) (ts : List ByteArray) (m wn : Nat) (w : World) (hL : SrcE encTm 2 w A1 c1 L) (hT : SrcT w A2 c2 ts) (hs : SmTm L) (ht : ts.length ≤ 4) (hm : m ≤ 1048576) (hw : wn ≤ 12) (hw1 : 1 ≤ wn) :
    Calls Try.prog 47 #[.slice A1 L.length c1, .int .i64 (m : Int), .slice A2 ts.length c2, .int .i64 (wn : Int)] w fun e w' => e = .returned (.int .i64 ((bestL L m ts wn : Nat) : Int)) ∧ Below w.heap.size w w' := by
  have HCM : Hid (∀ (a : Nat) (w : World), a ≤ 1048576 → SrcE encTm 2 w A1 c1 L → SrcT w A2 c2 ts → Calls Try.prog 72 #[.slice A1 L.length c1, .slice A2 ts.length c2, .int .i64 (a : Int), .int .i64 ((a : Int) + (wn : Int) - 1)] w fun e w' => e = .returned (.tuple #[.int .i64 (scT L ts wn a).1, .int .i64 (scT L ts wn a).2]) ∧ Below w.heap.size w w') := fun a w ha h1 h2 => by
    have h3 := l17Many_any A1 A2 c1 c2 L ts a wn w h1 h2 hs ht ha hw
    unfold scT
    exact h3
  have hs0 : ∀ k, 0 ≤ (scT L ts wn k).1 ∧ (scT L ts wn k).1 ≤ 4 ∧ 0 ≤ (scT L ts wn k).2 ∧ (scT L ts wn k).2 ≤ 4194304 := fun k => by
    have h1 := kindsL_le L ts k wn
    have h2 := allL_le L k wn ts
    have h3 : ts.length * L.length ≤ 4194304 := Nat.le_trans (Nat.mul_le_mul ht hs.1) (by omega)
    unfold scT
    dsimp only
    omega
  obtain ⟨R, hR⟩ : ∃ R, R = bestL L m ts wn := ⟨_, rfl⟩
  rw [← hR]
  unfold bestL at hR
  generalize scT L ts wn = sc at HCM hs0 hR
  have HS := Lib.hid hs0
  have hR2 : R = (bestF sc (if wn ≤ m then m + 1 - wn else 1)).1 := by
    rw [hR]
    split
    · rfl
    · rw [show m + 1 - wn = 0 by omega, bestF_one]; rfl
  have HR := Lib.hid hR2
  clear hR hR2 hs0
  generalize hlen1 : L.length = n1 at HCM ⊢
  generalize hlen2 : ts.length = n2 at HCM ⊢
  go_enter Try.func47, Try.ntmps47
  go_wp2_with fail
  go_loopw [9, 10, 11, 12, 13, 14] (fun bv kv mv av _ _ wr => ∃ a : Nat, a ≤ (if wn ≤ m then m + 1 - wn else 1) ∧ av = .int .i64 a ∧ bv = .int .i64 ((bestF sc a).1 : Int) ∧ kv = .int .i64 (bestF sc a).2.1 ∧ mv = .int .i64 (bestF sc a).2.2 ∧ Below w.heap.size w wr) (fun _ _ _ av _ _ _ => m + 2 - (intOf av).toNat)
  case atStart => exact ⟨0, Nat.zero_le _, rfl, rfl, rfl, rfl, Below.refl _ _⟩
  case round =>
    obtain ⟨a, ha, rfl, rfl, rfl, rfl, hB⟩ := hrel
    obtain ⟨wo, hwo⟩ : ∃ wo, wo = wr := ⟨_, rfl⟩
    subst hwo
    have hBs := hB.size
    have ha2 : a ≤ m + 1 := by split at ha <;> omega
    by_cases hgo : a = 0 ∨ a + wn ≤ m
    · have hsc := HS.out a
      have hy := bestF_yes (sc := sc) (m := a)
      have hn := bestF_no (sc := sc) (m := a)
      have HCA : Hid (∀ x y : Int, x = (a : Int) → y = (a : Int) + (wn : Int) - 1 → Calls Try.prog 72 #[.slice A1 n1 c1, .slice A2 n2 c2, .int .i64 x, .int .i64 y] wo fun e w' => e = .returned (.tuple #[.int .i64 (sc a).1, .int .i64 (sc a).2]) ∧ Below wo.heap.size wo w') := fun x y h1 h2 => by
        subst h1 h2
        exact HCM.out a wo (by omega) (hL.below hB) (hT.below hB)
      have hnx : Hid (a + 1 ≤ (if wn ≤ m then m + 1 - wn else 1)) := by show _ ≤ _; split <;> omega
      generalize hbb : bestF sc a = bb at hy hn ⊢
      obtain ⟨b0, bk, bn⟩ := bb
      dsimp only at hy hn ⊢
      obtain ⟨k1, n0⟩ := (⟨(sc a).1, (sc a).2⟩ : Int × Int)
      generalize hk1 : (sc a).1 = kk at hy hn hsc HCA
      generalize hk2 : (sc a).2 = nn at hy hn hsc HCA
      have HY := Lib.hid hy
      have HN := Lib.hid hn
      clear hy hn hbb hk1 hk2 ha k1 n0
      have GO : Hid (a = 0 ∨ (a + wn ≤ m ∧ 0 < a)) := by
        rcases Nat.eq_zero_or_pos a with h | h
        · exact .inl h
        · exact .inr ⟨hgo.resolve_left (by omega), h⟩
      clear hgo
      rcases GO.out with rfl | ⟨hgo, hpos⟩
      · go_wp2_with fail
        refine (HCA.out _ _ ?_ ?_).mono ?_
        · (first | rfl | simp | omega)
        · (first | rfl | (simp; done) | omega | (simp; omega))
        rintro e w2 ⟨rfl, hb2⟩
        have hB2 := hB.trans (hb2.mono hBs)
        clear hb2 HCA
        by_cases h1 : bk < kk
        · have HB : Hid (bestF sc (0 + 1) = (0, kk, nn)) := HY.out (by unfold better; rw [decide_eq_true h1]; rfl)
          clear HY HN
          go_wp2
          go_roundw
          case rel => exact ⟨0 + 1, hnx.out, by go_num, by first | (rw [HB.out]; done) | (rw [HB.out]; rfl), by rw [HB.out], by rw [HB.out], hB2⟩
          case measure => simp [intOf] <;> omega
        · by_cases h2 : kk = bk
          · subst h2
            by_cases h3 : bn < nn
            · have HB : Hid (bestF sc (0 + 1) = (0, kk, nn)) := HY.out (by unfold better; rw [decide_eq_true h3]; simp)
              clear HY HN
              go_wp2
              go_roundw
              case rel => exact ⟨0 + 1, hnx.out, by go_num, by first | (rw [HB.out]; done) | (rw [HB.out]; rfl), by rw [HB.out], by rw [HB.out], hB2⟩
              case measure => simp [intOf] <;> omega
            · have HB : Hid (bestF sc (0 + 1) = (b0, kk, bn)) := HN.out (by unfold better; rw [decide_eq_false h3]; simp)
              clear HY HN
              go_wp2
              go_roundw
              case rel => exact ⟨0 + 1, hnx.out, by go_num, by rw [HB.out], by rw [HB.out], by rw [HB.out], hB2⟩
              case measure => simp [intOf] <;> omega
          · have HB : Hid (bestF sc (0 + 1) = (b0, bk, bn)) := HN.out (by unfold better; rw [decide_eq_false h1, decide_eq_false h2]; rfl)
            have h2b : (kk == bk) = false := by rw [beq_eq_false_iff_ne]; exact h2
            clear HY HN
            go_wp2
            go_roundw
            case rel => exact ⟨0 + 1, hnx.out, by go_num, by rw [HB.out], by rw [HB.out], by rw [HB.out], hB2⟩
            case measure => simp [intOf] <;> omega
      · have hi0 : (a : Int) + (wn : Int) ≤ (m : Int) := by omega
        have hz : ((a : Int) == 0) = false := by rw [beq_eq_false_iff_ne]; omega
        go_wp2_with fail
        refine (HCA.out _ _ ?_ ?_).mono ?_
        · (first | rfl | simp | omega)
        · (first | rfl | (simp; done) | omega | (simp; omega))
        rintro e w2 ⟨rfl, hb2⟩
        have hB2 := hB.trans (hb2.mono hBs)
        clear hb2 HCA
        by_cases h1 : bk < kk
        · have HB : Hid (bestF sc (a + 1) = (a, kk, nn)) := HY.out (by unfold better; rw [decide_eq_true h1]; rfl)
          clear HY HN
          go_wp2
          go_roundw
          case rel => exact ⟨a + 1, hnx.out, by go_num, by first | (rw [HB.out]; done) | (rw [HB.out]; rfl), by rw [HB.out], by rw [HB.out], hB2⟩
          case measure => simp [intOf] <;> omega
        · by_cases h2 : kk = bk
          · subst h2
            by_cases h3 : bn < nn
            · have HB : Hid (bestF sc (a + 1) = (a, kk, nn)) := HY.out (by unfold better; rw [decide_eq_true h3]; simp)
              clear HY HN
              go_wp2
              go_roundw
              case rel => exact ⟨a + 1, hnx.out, by go_num, by first | (rw [HB.out]; done) | (rw [HB.out]; rfl), by rw [HB.out], by rw [HB.out], hB2⟩
              case measure => simp [intOf] <;> omega
            · have HB : Hid (bestF sc (a + 1) = (b0, kk, bn)) := HN.out (by unfold better; rw [decide_eq_false h3]; simp)
              clear HY HN
              go_wp2
              go_roundw
              case rel => exact ⟨a + 1, hnx.out, by go_num, by rw [HB.out], by rw [HB.out], by rw [HB.out], hB2⟩
              case measure => simp [intOf] <;> omega
          · have HB : Hid (bestF sc (a + 1) = (b0, bk, bn)) := HN.out (by unfold better; rw [decide_eq_false h1, decide_eq_false h2]; rfl)
            have h2b : (kk == bk) = false := by rw [beq_eq_false_iff_ne]; exact h2
            clear HY HN
            go_wp2
            go_roundw
            case rel => exact ⟨a + 1, hnx.out, by go_num, by rw [HB.out], by rw [HB.out], by rw [HB.out], hB2⟩
            case measure => simp [intOf] <;> omega
    · have hpos : ((a : Int) == 0) = false := by rw [beq_eq_false_iff_ne]; omega
      have hi0 : ¬ ((a : Int) + (wn : Int) ≤ (m : Int)) := by omega
      have hae : (if wn ≤ m then m + 1 - wn else 1) = a := by split at ha <;> split <;> omega
      rw [hae] at HR
      clear hae ha hgo
      go_wp2
      go_ret
      exact ⟨ret_i (by rw [HR.out]), hB⟩
set_option maxRecDepth 8000 in
set_option maxHeartbeats 6400000 in
theorem specSnipOf_any (d : ConfD) (A1 A2 A3 : Option Addr) (c1 c2 c3 : Nat) (s : ByteArray) (ts : List ByteArray) (wd : Int) (w : World) (h : HasC w d A1 c1 A2) (hs : SmC d) (hT : SrcT w A3 c3 ts) (htl : ts.length ≤ 1048576) (htc : ts.length ≤ c3 ∧ c3 ≤ maxLen) (hsz : s.size ≤ 1048576) (hts : ∀ t ∈ ts, t.size ≤ 1048576) :
    Calls Try.prog 10 #[.agg #[.slice A1 d.st.length c1, .slice A2 d.sy.length c2], .string s, .slice A3 ts.length c3, .int .i64 wd] w fun e w' => e = .returned (.int .i64 (snipL d s ts wd)) ∧ Below w.heap.size w w' := by
  obtain ⟨R, hR⟩ : ∃ R, R = snipL d s ts wd := ⟨_, rfl⟩
  rw [← hR]
  have HCF := Lib.hid (fun w h => l2Ok_any d A1 A2 c1 c2 w h hs)
  have HCT := Lib.hid (fun hc w h => l2Terms_any d A1 A2 c1 c2 s w h hs hc hsz)
  have HH := Lib.hid h
  have HR : Hid (R = if snipOkB d s ts wd = true then ((bestL (termsB d s) (wordsB s).length ts wd.toNat : Nat) : Int) else -1) := hR
  have hwl := wordsB_len s
  have hsm : SmTm (termsB d s) := ⟨by have := termsB_len d s; omega, fun t ht => by have := termsB_lt d s t ht; omega⟩
  have HTS := Lib.hid hts
  obtain ⟨n1, hn1⟩ : ∃ n1, n1 = d.st.length := ⟨_, rfl⟩
  obtain ⟨n2, hn2⟩ : ∃ n2, n2 = d.sy.length := ⟨_, rfl⟩
  rw [← hn1, ← hn2] at HCF HCT ⊢
  clear hn1 hn2 h hs hR hts
  have hB0 : Below w.heap.size w (w.alloc (.cells #[.slice A1 n1 c1, .slice A2 n2 c2] 26)) := by (repeat' (first | exact Below.refl _ _ | apply Below.alloc | apply Below.setCell | apply Below.drew | apply below_draws)) <;> (first | omega | (simp <;> omega))
  have f0 : (w.alloc (.cells #[.slice A1 n1 c1, .slice A2 n2 c2] 26)).cell? ⟨w.heap.size, 0, none⟩ = some (.slice A1 n1 c1) := by simp [go_sem]
  have f1 : (w.alloc (.cells #[.slice A1 n1 c1, .slice A2 n2 c2] 26)).cell? ⟨w.heap.size, 1, none⟩ = some (.slice A2 n2 c2) := by simp [go_sem]
  have hs0 : w.heap.size + 1 ≤ (w.alloc (.cells #[.slice A1 n1 c1, .slice A2 n2 c2] 26)).heap.size := by simp
  have HE : Hid (∀ k, k < ts.length → termOk ts k = false → R = -1) := fun k hk h => by rw [HR.out, if_neg (by unfold snipOkB; rw [termsTo_stop hk h]; simp)]
  go_enter Try.func10, Try.ntmps10
  go_wp2_with fail
  generalize (w.alloc (.cells #[.slice A1 n1 c1, .slice A2 n2 c2] 26)) = W0 at hB0 f0 f1 hs0 ⊢
  go_loopw [9] (fun iv wr => ∃ k : Nat, k ≤ ts.length ∧ iv = .int .i64 k ∧ Hid (termsTo ts k = true) ∧ Below W0.heap.size W0 wr) (fun iv _ => ts.length - (intOf iv).toNat)
  case atStart => exact ⟨0, Nat.zero_le _, rfl, rfl, Below.refl _ _⟩
  case round =>
    obtain ⟨k, hk, rfl, hm, hB⟩ := hrel
    obtain ⟨wo, hwo⟩ : ∃ wo, wo = wr := ⟨_, rfl⟩
    subst hwo
    have hBs := hB.size
    have hB1 := hB0.trans (hB.mono hB0.size)
    by_cases hlt : k < ts.length
    · have hi0 : (k : Int) < (ts.length : Int) := by omega
      have hT1 := hT.below hB1
      obtain ⟨b, off, rfl, hb, x0⟩ := hT1.atT hlt
      have hsx := HTS.out ts[k] (List.getElem_mem _)
      have hkc : k ≤ c3 := by omega
      have htk : SrcT wo (some ⟨b, off, none⟩) c3 (ts.take k) := hT1.take encT_ok (by omega)
      have htl2 : (ts.take k).length = k := by rw [List.length_take]; omega
      have hok : termOk ts k = (wordB ts[k] && !(hasB (ts.take k) ts[k])) := by unfold termOk; rw [getT hlt]
      have hsuc := termsTo_succ ts k
      have hsp := HE.out k hlt
      rw [hok] at hsuc hsp
      have HCC : Hid (∀ d os, Calls Try.prog 36 #[.slice (some ⟨b, off, none⟩) k c3, .string ts[k]] (grow (redrawn wo d) os) fun e w'' => e = .returned (.bool (hasB (ts.take k) ts[k])) ∧ ∃ p : Regrown, w'' = grow (redrawn wo p.d) p.os) := fun d os => by
        have := cL2Has (some ⟨b, off, none⟩) c3 (ts.take k) ts[k] _ rfl wo htk (by rw [htl2]; omega) d os
        rwa [htl2] at this
      clear htl2
      generalize ts[k] = x at x0 hsx hsuc hsp HCC
      have HSUC := Lib.hid hsuc
      have HSP := Lib.hid hsp
      have m0 := cell_regrown x0
      clear hsuc hsp hok htk hT1 x0
      cases h1 : wordB x with
      | false =>
        have HN : Hid (R = -1) := HSP.out (by rw [h1]; rfl)
        go_wp2_with fail
        refine region_qw (by kernel_rfl) (by kernel_rfl) ?_
        repeat (
          refine qw_step (fun K hK => ?_)
          go_simp
          first
            | (refine hK _ ?_; clear hK K)
            | (apply Exists.intro
               refine ⟨fun _ => ?_, hK _ ?_⟩
               (first | (go_at_call 43; exact cL1Word _ _ h1 (by omega) _ _ _))
               clear hK K)
            | fail)
        refine qw_nil ?_
        intro _ hw'
        obtain ⟨⟨dq, osq⟩, hw''⟩ := hw'
        subst hw''
        have hBq := hB.trans ((below_regrown wo dq osq).mono (by have := hB.size; omega))
        go_wp2
        go_ret
        exact ⟨ret_i HN.out.symm, hB0.trans (hBq.mono hB0.size)⟩
      | true =>
        cases h2 : hasB (ts.take k) x with
        | true =>
          have HN : Hid (R = -1) := HSP.out (by rw [h1, h2]; rfl)
          rw [h2] at HCC
          go_wp2_with fail
          refine region_qw (by kernel_rfl) (by kernel_rfl) ?_
          repeat (
            refine qw_step (fun K hK => ?_)
            go_simp
            first
              | (refine hK _ ?_; clear hK K)
              | (apply Exists.intro
                 refine ⟨fun _ => ?_, hK _ ?_⟩
                 (first | (go_at_call 43; exact cL1Word _ _ h1 (by omega) _ _ _) | (go_at_call 36; exact HCC.out _ _))
                 clear hK K)
              | fail)
          refine qw_nil ?_
          intro _ hw'
          obtain ⟨⟨dq, osq⟩, hw''⟩ := hw'
          subst hw''
          have hBq := hB.trans ((below_regrown wo dq osq).mono (by have := hB.size; omega))
          go_wp2
          go_ret
          exact ⟨ret_i HN.out.symm, hB0.trans (hBq.mono hB0.size)⟩
        | false =>
          have HM : Hid (termsTo ts (k + 1) = true) := by show _ = _; rw [HSUC.out, hm.out, h1, h2]; rfl
          rw [h2] at HCC
          clear h2 HSUC HSP hm
          go_wp2_with fail
          refine region_qw (by kernel_rfl) (by kernel_rfl) ?_
          repeat (
            refine qw_step (fun K hK => ?_)
            go_simp
            first
              | (refine hK _ ?_; clear hK K)
              | (apply Exists.intro
                 refine ⟨fun _ => ?_, hK _ ?_⟩
                 (first | (go_at_call 43; exact cL1Word _ _ h1 (by omega) _ _ _) | (go_at_call 36; exact HCC.out _ _))
                 clear hK K)
              | fail)
          refine qw_nil ?_
          intro _ hw'
          obtain ⟨⟨dq, osq⟩, hw''⟩ := hw'
          subst hw''
          have hBq := hB.trans ((below_regrown wo dq osq).mono (by have := hB.size; omega))
          go_wp2
          go_roundw
          case rel => exact ⟨k + 1, by omega, by go_num, HM, hBq⟩
          case measure => simp [intOf] <;> omega
    · have htt : termsTo ts ts.length = true := by have := hm.out; rwa [show k = ts.length by omega] at this
      have HTT := Lib.hid htt
      have g0 := (belowL hB (show w.heap.size < W0.heap.size by omega)).trans f0
      have g1 := (belowL hB (show w.heap.size < W0.heap.size by omega)).trans f1
      clear htt hm HE f0 f1
      go_wp2_with fail
      refine (HCF.out _ (HH.out.below hB1)).mono ?_
      rintro e w2 ⟨rfl, hb2⟩
      have hB2 := hB1.trans (hb2.mono hB1.size)
      have k0 := (belowL hb2 (show w.heap.size < wo.heap.size by omega)).trans g0
      have k1 := (belowL hb2 (show w.heap.size < wo.heap.size by omega)).trans g1
      have hw2s := hb2.size
      clear g0 g1 HCF
      cases hc : confB d with
      | false =>
        have HN : Hid (R = -1) := by show _ = _; rw [HR.out, if_neg (by unfold snipOkB; rw [hc]; simp)]
        go_wp2
        go_ret
        exact ⟨ret_i HN.out.symm, hB2⟩
      | true =>
      have HCT2 := Lib.hid (HCT.out hc)
      have HC := Lib.hid hc
      clear hc HCT
      go_wp2_with fail
      refine (l1Text_any s _ (by omega)).mono ?_
      rintro e w3 ⟨rfl, rfl⟩
      cases ht : textB s with
      | false =>
        have HN : Hid (R = -1) := by show _ = _; rw [HR.out, if_neg (by unfold snipOkB; rw [ht]; simp)]
        go_wp2
        go_ret
        exact ⟨ret_i HN.out.symm, hB2⟩
      | true =>
      have HTX := Lib.hid ht
      clear ht
      go_wp2_with fail
      refine (l1In_any _ _ _ _).mono ?_
      rintro e w3 ⟨rfl, rfl⟩
      cases hwi : wi wd 1 12 with
      | false =>
        have HN : Hid (R = -1) := by show _ = _; rw [HR.out, if_neg (by unfold snipOkB; rw [hwi]; simp)]
        go_wp2
        go_ret
        exact ⟨ret_i HN.out.symm, hB2⟩
      | true =>
      have hwd := wi_true.1 hwi
      obtain ⟨wn, rfl⟩ := Int.eq_ofNat_of_zero_le (show 0 ≤ wd by omega)
      by_cases h4 : 4 < ts.length
      · have HN : Hid (R = -1) := by show _ = _; rw [HR.out, if_neg (by unfold snipOkB; rw [decide_eq_false (show ¬ ts.length ≤ 4 by omega)]; simp)]
        clear hwi
        go_wp2
        go_ret
        exact ⟨ret_i HN.out.symm, hB2⟩
      have h4b : ts.length ≤ 4 := by omega
      have HN : Hid (R = ((bestL (termsB d s) (wordsB s).length ts wn : Nat) : Int)) := by
        show _ = _
        rw [HR.out, if_pos (by unfold snipOkB; rw [HTT.out, hwi, HC.out, HTX.out, decide_eq_true h4b]; rfl)]; rfl
      clear hwi HR HC HTX HTT
      generalize termsB d s = P at HN hsm HCT2
      go_wp2_with fail
      refine (HCT2.out _ (HH.out.below hB2)).mono ?_
      rintro e w4 ⟨gp, cp, ⟨rfl, ownP⟩, hb4⟩
      have hB4 := hB2.trans (hb4.mono hB2.size)
      have srcP := ownP.src
      go_wp2_with fail
      refine (l1Words_any s _ hsz).mono ?_
      rintro e w5 ⟨gw, cw, ⟨rfl, _⟩, hb5⟩
      have hB5 := hB4.trans (hb5.mono hB4.size)
      have srcP5 := srcP.below hb5
      have hT5 := hT.below hB5
      generalize wordsB s = ws at HN hwl ⊢
      go_wp2_with fail
      refine (l17Best_any _ _ _ _ P ts ws.length wn _ srcP5 hT5 hsm h4b (by omega) (by omega) (by omega)).mono ?_
      rintro e w6 ⟨rfl, hb6⟩
      go_wp2
      go_ret
      exact ⟨ret_i HN.out.symm, hB5.trans (hb6.mono hB5.size)⟩
end Go.Proofs.Ytlgomipfhbkklaa
