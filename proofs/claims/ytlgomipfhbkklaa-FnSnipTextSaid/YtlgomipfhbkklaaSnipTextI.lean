/-
  Contract of SnipText (impl).
-/
import Derived.Test.YtlgomipfhbkklaaSnipOfI
import Derived.Laws.Concat
namespace Go.Proofs.Ytlgomipfhbkklaa
open Go.RowKit Go.Sort
set_option linter.unusedVariables false

theorem snipL_case (d : ConfD) (s : ByteArray) (ts : List ByteArray) (wd : Int) : snipL d s ts wd = -1 ∨ ∃ a wn : Nat, wd = (wn : Int) ∧ snipL d s ts wd = (a : Int) ∧ confB d = true ∧ textB s = true ∧ ts.length ≤ 4 ∧ 1 ≤ wn ∧ wn ≤ 12 ∧ termsTo ts ts.length = true ∧ (a = 0 ∨ a + wn ≤ (wordsB s).length) := by
  unfold snipL
  by_cases h : snipOkB d s ts wd = true
  · right
    rw [if_pos h]
    unfold snipOkB at h
    simp only [Bool.and_eq_true, decide_eq_true_eq] at h
    obtain ⟨h1, h2, h3, h4, h5⟩ := h
    have hw := wi_true.1 h4
    obtain ⟨wn, rfl⟩ := Int.eq_ofNat_of_zero_le (show 0 ≤ wd by omega)
    rw [Int.toNat_natCast]
    refine ⟨_, wn, rfl, rfl, h1, h2, h3, by omega, by omega, h5, ?_⟩
    unfold bestL
    show (bestF _ (_ + 1 - wn)).1 = 0 ∨ _
    generalize hm : (wordsB s).length + 1 - wn = m
    cases m with
    | zero => exact .inl rfl
    | succ m =>
      have h6 := bestF_lt (scT (termsB d s) ts wn) m
      show _ ∨ (bestF (scT (termsB d s) ts wn) (m + 1)).1 + wn ≤ _
      right; omega
  · exact .inl (by rw [if_neg h])
theorem joinB_size (B : Nat) : ∀ xs : List ByteArray, (∀ x ∈ xs, x.size ≤ B) → (joinB xs).size ≤ xs.length * (B + 1) := by
  intro xs
  induction hL : xs.length generalizing xs with
  | zero => obtain rfl := List.length_eq_zero_iff.1 hL; intro _; simp [joinB_nil]
  | succ m ih =>
    obtain ⟨L', t, rfl⟩ : ∃ L' t, xs = L' ++ [t] := ⟨xs.dropLast, xs.getLast (by intro h; rw [h] at hL; simp at hL), (List.dropLast_concat_getLast _).symm⟩
    intro h
    have ih' := ih L' (by simp at hL; omega) (fun x hx => h x (by simp [hx]))
    have ht := h t (by simp)
    rw [joinB_snoc]
    split
    · rw [Nat.succ_mul]; omega
    · rw [ByteArray.size_append, ByteArray.size_append, Nat.succ_mul]
      have : sp1.size = 1 := rfl
      omega
theorem brkW_size (q : Bool) (t : ByteArray) : (brkW q t).size ≤ t.size + 2 := by
  unfold brkW
  split
  · rw [ByteArray.size_append, ByteArray.size_append]
    have h1 : lb.size = 1 := rfl
    have h2 : rb.size = 1 := rfl
    omega
  · omega
theorem pieceL_size (s : ByteArray) (ws : List WordD) (L : List TmD) (ts : List ByteArray) (a n : Nat) : ∀ x ∈ pieceL s ws L ts a n, x.size ≤ s.size + 2 := by
  intro x hx
  unfold pieceL at hx
  obtain ⟨k, _, rfl⟩ := List.mem_map.1 hx
  unfold pieceW
  have := brkW_size (brk L ts (a + k)) (s.extract (wdAt ws (a + k)).fr (wdAt ws (a + k)).to)
  rw [ByteArray.size_extract] at this
  omega
theorem ret_s {a b : ByteArray} (h : a = b) : Ending.returned (.string a) = .returned (.string b) := by rw [h]
set_option maxRecDepth 8000 in
set_option maxHeartbeats 12800000 in
theorem snipText_any (d : ConfD) (A1 A2 A3 : Option Addr) (c1 c2 c3 : Nat) (s : ByteArray) (ts : List ByteArray) (wd : Int) (w : World) (h : HasC w d A1 c1 A2) (hs : SmC d) (hT : SrcT w A3 c3 ts) (htl : ts.length ≤ 1048576) (htc : ts.length ≤ c3 ∧ c3 ≤ maxLen) (hsz : s.size ≤ 1048576) (hts : ∀ t ∈ ts, t.size ≤ 1048576) :
    Calls Try.prog 21 #[.agg #[.slice A1 d.st.length c1, .slice A2 d.sy.length c2], .string s, .slice A3 ts.length c3, .int .i64 wd] w fun e w' => e = .returned (.string (snipTextL d s ts wd)) ∧ Below w.heap.size w w' := by
  have HCS := Lib.hid (fun w h hT => snipOf_any d A1 A2 A3 c1 c2 c3 s ts wd w h hs hT htl htc hsz hts)
  have HCM : Hid (confB d = true → textB s = true → ∀ w, HasC w d A1 c1 A2 → SrcT w A3 c3 ts → Calls Try.prog 42 #[.agg #[.slice A1 d.st.length c1, .slice A2 d.sy.length c2], .string s, .slice A3 ts.length c3] w (MakesT (markL (wordsB s).length ts (termsB d s)) w)) := fun h1 h2 w h3 h4 => marks_any d A1 A2 A3 c1 c2 c3 s ts w h3 hs h1 h2 h4 htl hsz
  have HCW : Hid (textB s = true → ∀ w, Calls Try.prog 23 #[.string s] w (MakesW (wordsB s) w)) := fun ht w => by
    have h1 := wordsOf_any s w hsz
    have e : wordsT s = wordsB s := by unfold wordsT; rw [ht]; rfl
    rwa [e] at h1
  have HH := Lib.hid h
  have HT := Lib.hid hT
  obtain ⟨R, hR⟩ : ∃ R, R = snipTextL d s ts wd := ⟨_, rfl⟩
  rw [← hR]
  have hcase := snipL_case d s ts wd
  unfold snipTextL at hR
  dsimp only at hR
  have hwl := wordsB_len s
  have HWF : Hid (∀ x ∈ wordsB s, wordB x.tx = true ∧ x.fr < x.to ∧ x.to ≤ s.size) := wordsFrom_ok s 0 0
  have hbrk := fun hte i hi => brk_mark (n := (wordsB s).length) (ts := ts) hte (i := i) hi (termsB d s) (termsB_nodup d s)
  have HBR := Lib.hid hbrk
  have hML := markL_len (wordsB s).length ts (termsB d s)
  obtain ⟨n1, hn1⟩ : ∃ n1, n1 = d.st.length := ⟨_, rfl⟩
  obtain ⟨n2, hn2⟩ : ∃ n2, n2 = d.sy.length := ⟨_, rfl⟩
  rw [← hn1, ← hn2] at HCS HCM ⊢
  clear hn1 hn2 h hs hbrk hT
  have hB0 : Below w.heap.size w (w.alloc (.cells #[.slice A1 n1 c1, .slice A2 n2 c2] 26)) := by (repeat' (first | exact Below.refl _ _ | apply Below.alloc | apply Below.setCell | apply Below.drew | apply below_draws)) <;> (first | omega | (simp <;> omega))
  have f0 : (w.alloc (.cells #[.slice A1 n1 c1, .slice A2 n2 c2] 26)).cell? ⟨w.heap.size, 0, none⟩ = some (.slice A1 n1 c1) := by simp [go_sem]
  have f1 : (w.alloc (.cells #[.slice A1 n1 c1, .slice A2 n2 c2] 26)).cell? ⟨w.heap.size, 1, none⟩ = some (.slice A2 n2 c2) := by simp [go_sem]
  have hs0 : w.heap.size + 1 ≤ (w.alloc (.cells #[.slice A1 n1 c1, .slice A2 n2 c2] 26)).heap.size := by simp
  go_enter Try.func21, Try.ntmps21
  go_wp2_with fail
  generalize (w.alloc (.cells #[.slice A1 n1 c1, .slice A2 n2 c2] 26)) = W0 at hB0 f0 f1 hs0 ⊢
  refine (HCS.out _ (HH.out.below hB0) (HT.out.below hB0)).mono ?_
  rintro e w1 ⟨rfl, hb1⟩
  have hB1 := hB0.trans (hb1.mono hB0.size)
  have g0 := (belowL hb1 (show w.heap.size < W0.heap.size by omega)).trans f0
  have g1 := (belowL hb1 (show w.heap.size < W0.heap.size by omega)).trans f1
  have hw1s := hb1.size
  clear f0 f1 hB0 HCS
  rcases hcase with hn | ⟨a, wn, hwd, ha, hc, ht, h4, hwn1, hwn2, htt, hab⟩
  · rw [hn] at hR ⊢
    rw [if_pos (by omega)] at hR
    have HR := Lib.hid hR
    clear hR hn
    go_wp2
    go_ret
    exact ⟨ret_s HR.out.symm, hB1⟩
  · subst hwd
    rw [ha] at hR ⊢
    rw [if_neg (by omega)] at hR
    simp only [Int.toNat_natCast] at hR
    have hND := termsTo_nodup ts ts.length (Nat.le_refl _) htt
    rw [List.take_length] at hND
    have HBK := Lib.hid (fun i hi => HBR.out (fun x hx => wordB_ne (hND.2 x hx)) i hi)
    have HCM2 := Lib.hid (HCM.out hc ht)
    have HCW2 := Lib.hid (HCW.out ht)
    have HR := Lib.hid hR
    have hs160 : s.size ≤ 160 := by
      unfold textB at ht
      simp only [Bool.and_eq_true, decide_eq_true_eq] at ht
      exact ht.2
    clear hR ha hc ht htt hND HCM HCW HBR hsz
    generalize termsB d s = P at HR HCM2 HBK hML
    generalize hMM : markL (wordsB s).length ts P = M at HCM2 HBK hML
    generalize wordsB s = ws at HR HCM2 HCW2 HBK hML hwl HWF hab
    clear hMM
    go_wp2_with fail
    refine (HCW2.out _).mono ?_
    rintro e w2 ⟨gw, cw, ⟨rfl, ownW⟩, hb2⟩
    have hB2 := hB1.trans (hb2.mono hB1.size)
    have k0 := (belowL hb2 (show w.heap.size < w1.heap.size by omega)).trans g0
    have k1 := (belowL hb2 (show w.heap.size < w1.heap.size by omega)).trans g1
    have hw2s := hb2.size
    go_wp2_with fail
    refine (HCM2.out _ (HH.out.below hB2) (HT.out.below hB2)).mono ?_
    rintro e w3 ⟨gm, cm, ⟨rfl, ownM⟩, hb3⟩
    have hB3 := hB2.trans (hb3.mono hB2.size)
    have ownW3 := own_belowZ ownW hb3
    have hw3s := hb3.size
    clear g0 g1 k0 k1 ownW hb1 hb2 hb3 HCM2 HCW2
    obtain ⟨e, he⟩ : ∃ e : Nat, min (a + wn) ws.length = e := ⟨_, rfl⟩
    have hei : min ((a : Int) + (wn : Int)) (ws.length : Int) = (e : Int) := by omega
    rw [he] at HR
    have hae : a ≤ e := by omega
    have hew : e ≤ ws.length := by omega
    have hea : e - a ≤ 12 := by omega
    have hem : decide (e < ws.length) = decide (a + wn < ws.length) := decide_eq_decide.2 (by omega)
    have HEM := Lib.hid hem
    have HMW := Lib.hid hML
    have hMl : M.length ≤ 1048576 := by omega
    clear he hem
    have hB4 : Below w3.heap.size w3 (w3.alloc (.cells #[] 9)) := by (repeat' (first | exact Below.refl _ _ | apply Below.alloc | apply Below.setCell | apply Below.drew | apply below_draws)) <;> (first | omega | (simp <;> omega))
    have own4 := ownE_made (enc := encT) (F := 1) 9 w3 w3.heap.size (Nat.le_refl _)
    generalize hM2 : M.length = ml at hML ⊢
    subst hML
    clear hM2
    go_wp2_with fail
    clear hei
    generalize (w3.alloc (.cells #[] 9)) = w4 at hB4 own4 ⊢
    go_loopw [13, 14, 15] (fun tv kv _ wr => ∃ k : Nat, a ≤ k ∧ k ≤ e ∧ kv = .int .i64 k ∧ ∃ (g c : Nat) (O : List ByteArray), tv = .slice (some ⟨g, 0, none⟩) O.length c ∧ Hid (O = pieceL s ws P ts a (k - a)) ∧ OwnT wr w3.heap.size g c O ∧ Below w3.heap.size w3 wr) (fun _ kv _ _ => e - (intOf kv).toNat)
    case atStart => exact ⟨a, Nat.le_refl _, hae, rfl, _, _, [], rfl, by show _ = _; rw [Nat.sub_self]; rfl, own4, hB4⟩
    case round =>
      clear own4 hB4
      obtain ⟨k, hak, hke, rfl, g, co, O, rfl, hO, own, hB⟩ := hrel
      obtain ⟨wo, hwo⟩ : ∃ wo, wo = wr := ⟨_, rfl⟩
      subst hwo
      have hBs := hB.size
      have HOL : Hid (O.length = k - a) := by show _ = _; rw [hO.out, pieceL_len]
      by_cases hlt : k < e
      · have hi0 : (k : Int) < (e : Int) := by omega
        have hkw : k < ws.length := by omega
        have hi1 : (k : Int) < (ws.length : Int) := by omega
        obtain ⟨b, off, e0, hb, x0, x1, x2, x3⟩ := SrcE.atW (OwnE.src (own_belowZ ownW3 hB)) hkw
        simp only [Option.some.injEq, Addr.mk.injEq, and_true] at e0
        obtain ⟨rfl, rfl⟩ := e0
        simp only [Nat.zero_add] at x2 x3
        obtain ⟨hgb, y0⟩ := (OwnE.src (own_belowZ ownM hB)).allT (show k < M.length by rw [HMW.out]; exact hkw)
        rw [Nat.zero_add] at y0
        have hwf := (HWF.out ws[k] (List.getElem_mem _)).2
        have hbk := HBK.out k hkw
        rw [getT (show k < M.length by rw [HMW.out]; exact hkw)] at hbk
        have hps := pieceL_succ s ws P ts a (k - a)
        rw [← hO.out, show a + (k - a) = k by omega, show k - a + 1 = k + 1 - a by omega] at hps
        unfold pieceW at hps
        rw [wdAt_get hkw] at hps
        generalize ws[k].fr = fr at x2 hwf hps
        generalize ws[k].to = to at x3 hwf hps
        generalize (M[k]'(by rw [HMW.out]; exact hkw)) = mk at y0 hbk
        have m2 := cell_regrown x2
        have m3 := cell_regrown x3
        have hemp := fullB_emp mk
        rw [hbk] at hemp
        have hol : O.length ≤ 12 := by rw [HOL.out]; omega
        have hft : fr ≤ to := by omega
        have hts2 : to ≤ s.size := hwf.2
        have hxs : (s.extract fr to).size ≤ 160 := by rw [ByteArray.size_extract]; omega
        clear x0 x1 hO HOL
        go_wp2_with fail
        refine region_qw (by kernel_rfl) (by kernel_rfl) ?_
        repeat (
          refine qw_step (fun K hK => ?_)
          go_simp
          first
            | (refine hK _ ?_; clear hK K)
            | fail)
        refine qw_nil ?_
        intro _ hw'
        obtain ⟨⟨dq, osq⟩, hw''⟩ := hw'
        subst hw''
        have hBq := hB.trans ((below_regrown wo dq osq).mono (by have := hB.size; omega))
        have own5 := own_belowZ own (below_regrown wo dq osq)
        have y5 := (belowL (below_regrown wo dq osq) hgb).trans y0
        clear own y0 m2 m3 x2 x3
        generalize grow (redrawn wo dq) osq = w5 at own5 y5 hBq ⊢
        have hw5s := hBq.size
        generalize s.extract fr to = t at hps hxs ⊢
        cases hbb : brk P ts k with
        | true =>
          rw [hbb] at hemp hps
          replace hemp : mk.toList.isEmpty = false := hemp
          have HPS : Hid (pieceL s ws P ts a (k + 1 - a) = O ++ [(⟨#[91]⟩ : ByteArray) ++ t ++ (⟨#[93]⟩ : ByteArray)]) := hps
          have hz1 : ¬ 9223372036854775807 < (⟨#[91]⟩ : ByteArray).size + t.size := by show ¬ _ < 1 + _; omega
          have hz2 : ¬ 9223372036854775807 < ((⟨#[91]⟩ : ByteArray) ++ t).size + (⟨#[93]⟩ : ByteArray).size := by rw [ByteArray.size_append]; show ¬ _ < 1 + _ + 1; omega
          have hz3 : ¬ 9223372036854775807 < 1 + t.size := by omega
          have hz4 : ¬ 9223372036854775807 < 1 + t.size + 1 := by omega
          clear hps hbb
          generalize hq : (⟨#[91]⟩ : ByteArray) ++ t ++ (⟨#[93]⟩ : ByteArray) = q at HPS
          go_wp2_with (at_builtin; refine append_rec rowTStr encT_ok (by decide) rfl _ _ rfl w3.heap.size _ _ O rfl (own5.alloc _) _ _ _ [q] rfl rfl ?_ (by simp only [List.length_cons, List.length_nil]; omega) (by omega) (by simp <;> omega) ?_; exact srcE_litAt encT_ok #[.string q] [q] rfl (by rfl) (by first | rfl | (simp; done)))
          intro N hN g7 c7 w7 own7 hg7 hat7 hb7
          have hB7 : Below w3.heap.size w3 w7 := hBq.trans (Below.trans (by (repeat' (first | exact Below.refl _ _ | apply Below.alloc | apply Below.setCell | apply Below.drew | apply below_draws)) <;> (first | omega | (simp <;> omega))) hb7)
          have HN2 : Hid (N = pieceL s ws P ts a (k + 1 - a)) := by show _ = _; rw [HPS.out]; exact hN.out
          clear hN hg7 hat7 hb7 own5 HPS hq
          go_wp2
          go_roundw
          case rel => exact ⟨k + 1, by omega, by omega, by go_num, g7, c7, N, rfl, HN2, own7, hB7⟩
          case measure => simp [intOf] <;> omega
        | false =>
          rw [hbb] at hemp hps
          replace hemp : mk.toList.isEmpty = true := hemp
          have HPS : Hid (pieceL s ws P ts a (k + 1 - a) = O ++ [t]) := hps
          clear hps hbb
          go_wp2_with (at_builtin; refine append_rec rowTStr encT_ok (by decide) rfl _ _ rfl w3.heap.size _ _ O rfl (own5.alloc _) _ _ _ [t] rfl rfl ?_ (by simp only [List.length_cons, List.length_nil]; omega) (by omega) (by simp <;> omega) ?_; exact srcE_litAt encT_ok #[.string t] [t] rfl (by rfl) (by first | rfl | (simp; done)))
          intro N hN g7 c7 w7 own7 hg7 hat7 hb7
          have hB7 : Below w3.heap.size w3 w7 := hBq.trans (Below.trans (by (repeat' (first | exact Below.refl _ _ | apply Below.alloc | apply Below.setCell | apply Below.drew | apply below_draws)) <;> (first | omega | (simp <;> omega))) hb7)
          have HN2 : Hid (N = pieceL s ws P ts a (k + 1 - a)) := by show _ = _; rw [HPS.out]; exact hN.out
          clear hN hg7 hat7 hb7 own5 HPS
          go_wp2
          go_roundw
          case rel => exact ⟨k + 1, by omega, by omega, by go_num, g7, c7, N, rfl, HN2, own7, hB7⟩
          case measure => simp [intOf] <;> omega
      · have hke2 : k = e := by omega
        have hB5 := hB3.trans (hB.mono hB3.size)
        have hsO : (joinB O).size ≤ 12 * 163 := by
          rw [hO.out]
          refine Nat.le_trans (joinB_size 162 _ (fun x hx => Nat.le_trans (pieceL_size s ws P ts a (k - a) x hx) (by omega))) ?_
          rw [pieceL_len]
          exact Nat.mul_le_mul (by omega) (Nat.le_refl _)
        have hHR : R = tellB a (a + wn) ws.length (joinB O) := by rw [HR.out, hO.out, hke2]
        have hcap := OwnE.capOk own
        have hol : O.length ≤ 12 := by rw [HOL.out]; omega
        have hsl : (Lib.join (O.map (·.data.toList)) (⟨#[32]⟩ : ByteArray).data.toList).length ≤ 140737488355328 := by
          have h1 : (joinB O).size = (Lib.join (O.map (·.data.toList)) [32]).length := by unfold joinB; show Array.size _ = _; simp
          show (Lib.join _ [32]).length ≤ _
          rw [← h1]; omega
        have HJ : Hid ((⟨(Lib.join (O.map (·.data.toList)) (⟨#[32]⟩ : ByteArray).data.toList).toArray⟩ : ByteArray) = joinB O) := rfl
        clear hO HOL HR ownM ownW3 hke2
        go_wp2_with fail
        refine (Try.strings_Join g 0 co O ⟨#[32]⟩ _ (fun j x hx => ?_) hcap.2.2.2 (by omega) hcap.1 hsl).mono ?_
        · have hj : j < O.length := (List.getElem?_eq_some_iff.1 hx).1
          have h1 := ((OwnE.src own).allT hj).2
          rw [List.getElem?_eq_getElem hj] at hx
          rw [← Option.some.inj hx]
          exact h1
        rintro e2 w6 ⟨rfl, hb6⟩
        rw [HJ.out]
        have hB6 := hB5.trans (hb6.mono hB5.size)
        generalize joinB O = J at hHR hsO ⊢
        have hem := HEM.out
        clear own hcap hsl HJ hb6
        unfold tellB at hHR
        dsimp only at hHR
        have hz1 : ¬ 9223372036854775807 < (⟨#[46, 46, 32]⟩ : ByteArray).size + J.size := by show ¬ _ < 3 + _; omega
        have hz2 : ¬ 9223372036854775807 < 3 + J.size := by omega
        have hz3 : ¬ 9223372036854775807 < J.size + 3 := by omega
        have hz4 : ¬ 9223372036854775807 < J.size + (⟨#[32, 46, 46]⟩ : ByteArray).size := by show ¬ _ < _ + 3; omega
        have hz5 : ¬ 9223372036854775807 < 3 + J.size + 3 := by omega
        by_cases ha0 : 0 < a
        · rw [if_pos ha0] at hHR
          by_cases hel : e < ws.length
          · have h2 : a + wn < ws.length := by rw [decide_eq_true hel] at hem; exact of_decide_eq_true hem.symm
            rw [if_pos h2] at hHR
            have HR2 : Hid (R = (⟨#[46, 46, 32]⟩ : ByteArray) ++ J ++ (⟨#[32, 46, 46]⟩ : ByteArray)) := hHR
            clear hHR hem
            go_wp2
            go_ret
            exact ⟨ret_s HR2.out.symm, hB6⟩
          · have h2 : ¬ a + wn < ws.length := by rw [decide_eq_false hel] at hem; exact of_decide_eq_false hem.symm
            rw [if_neg h2] at hHR
            have HR2 : Hid (R = (⟨#[46, 46, 32]⟩ : ByteArray) ++ J) := hHR
            clear hHR hem
            go_wp2
            go_ret
            exact ⟨ret_s HR2.out.symm, hB6⟩
        · rw [if_neg ha0] at hHR
          by_cases hel : e < ws.length
          · have h2 : a + wn < ws.length := by rw [decide_eq_true hel] at hem; exact of_decide_eq_true hem.symm
            rw [if_pos h2] at hHR
            have HR2 : Hid (R = J ++ (⟨#[32, 46, 46]⟩ : ByteArray)) := hHR
            clear hHR hem
            go_wp2
            go_ret
            exact ⟨ret_s HR2.out.symm, hB6⟩
          · have h2 : ¬ a + wn < ws.length := by rw [decide_eq_false hel] at hem; exact of_decide_eq_false hem.symm
            rw [if_neg h2] at hHR
            have HR2 : Hid (R = J) := hHR
            clear hHR hem
            go_wp2
            go_ret
            exact ⟨ret_s HR2.out.symm, hB6⟩
end Go.Proofs.Ytlgomipfhbkklaa
