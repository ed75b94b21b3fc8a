/-
  Contract of SnipText (spec).
-/
import Derived.Test.YtlgomipfhbkklaaSnipTextI
import Derived.Test.YtlgomipfhbkklaaSnipOfS
namespace Go.Proofs.Ytlgomipfhbkklaa
open Go.RowKit Go.Sort
set_option linter.unusedVariables false

def brkP (ts : List ByteArray) (k : Nat) (t : TmD) : Bool := decide (t.2 = k) && hasB ts t.1
theorem brkP_take {P : List TmD} {i : Nat} (hi : i < P.length) (ts : List ByteArray) (k : Nat) : (P.take (i + 1)).any (brkP ts k) = ((P.take i).any (brkP ts k) || brkP ts k P[i]) := by
  rw [← List.take_append_getElem hi, List.any_append]; simp
theorem brkP_first {P : List TmD} (hn : (P.map (·.2)).Nodup) {i : Nat} (hi : i < P.length) {ts : List ByteArray} {k : Nat} (hk : P[i].2 = k) : (P.take i).any (brkP ts k) = false := by
  rw [← Bool.not_eq_true, List.any_eq_true]
  rintro ⟨u, hu, hp⟩
  obtain ⟨j, hj, rfl⟩ := List.mem_iff_getElem.1 hu
  rw [List.length_take] at hj
  unfold brkP at hp
  rw [Bool.and_eq_true, decide_eq_true_eq, List.getElem_take] at hp
  have h1 : (P.map (·.2))[j]'(by rw [List.length_map]; omega) = (P.map (·.2))[i]'(by rw [List.length_map]; omega) := by rw [List.getElem_map, List.getElem_map, hp.1, hk]
  exact List.pairwise_iff_getElem.1 hn j i _ _ (by omega) h1
theorem empty_add (t : ByteArray) : (⟨#[]⟩ : ByteArray) ++ t = t := by
  apply ba_ext
  rw [ByteArray.data_append, Array.toList_append]
  rfl
set_option maxRecDepth 8000 in
set_option maxHeartbeats 12800000 in
theorem specSnipText_any (d : ConfD) (A1 A2 A3 : Option Addr) (c1 c2 c3 : Nat) (s : ByteArray) (ts : List ByteArray) (wd : Int) (w : World) (h : HasC w d A1 c1 A2) (hs : SmC d) (hT : SrcT w A3 c3 ts) (htl : ts.length ≤ 1048576) (htc : ts.length ≤ c3 ∧ c3 ≤ maxLen) (hsz : s.size ≤ 1048576) (hts : ∀ t ∈ ts, t.size ≤ 1048576) :
    Calls Try.prog 22 #[.agg #[.slice A1 d.st.length c1, .slice A2 d.sy.length c2], .string s, .slice A3 ts.length c3, .int .i64 wd] w fun e w' => e = .returned (.string (snipTextL d s ts wd)) ∧ Below w.heap.size w w' := by
  have HCS := Lib.hid (fun w h hT => specSnipOf_any d A1 A2 A3 c1 c2 c3 s ts wd w h hs hT htl htc hsz hts)
  have HCT := Lib.hid (fun hc w h => l2Terms_any d A1 A2 c1 c2 s w h hs hc hsz)
  have HCW : Hid (∀ w, Calls Try.prog 49 #[.string s] w (MakesW (wordsB s) w)) := fun w => l1Words_any s w hsz
  have HH := Lib.hid h
  have HT := Lib.hid hT
  obtain ⟨R, hR⟩ : ∃ R, R = snipTextL d s ts wd := ⟨_, rfl⟩
  rw [← hR]
  have hcase := snipL_case d s ts wd
  unfold snipTextL at hR
  dsimp only at hR
  have hwl := wordsB_len s
  have HWF : Hid (∀ x ∈ wordsB s, wordB x.tx = true ∧ x.fr < x.to ∧ x.to ≤ s.size) := wordsFrom_ok s 0 0
  have HND : Hid (((termsB d s).map (·.2)).Nodup) := termsB_nodup d s
  have hPl := termsB_len d s
  obtain ⟨n1, hn1⟩ : ∃ n1, n1 = d.st.length := ⟨_, rfl⟩
  obtain ⟨n2, hn2⟩ : ∃ n2, n2 = d.sy.length := ⟨_, rfl⟩
  rw [← hn1, ← hn2] at HCS HCT ⊢
  clear hn1 hn2 h hs hT
  have hB0 : Below w.heap.size w (w.alloc (.cells #[.slice A1 n1 c1, .slice A2 n2 c2] 26)) := by (repeat' (first | exact Below.refl _ _ | apply Below.alloc | apply Below.setCell | apply Below.drew | apply below_draws)) <;> (first | omega | (simp <;> omega))
  have f0 : (w.alloc (.cells #[.slice A1 n1 c1, .slice A2 n2 c2] 26)).cell? ⟨w.heap.size, 0, none⟩ = some (.slice A1 n1 c1) := by simp [go_sem]
  have f1 : (w.alloc (.cells #[.slice A1 n1 c1, .slice A2 n2 c2] 26)).cell? ⟨w.heap.size, 1, none⟩ = some (.slice A2 n2 c2) := by simp [go_sem]
  have hs0 : w.heap.size + 1 ≤ (w.alloc (.cells #[.slice A1 n1 c1, .slice A2 n2 c2] 26)).heap.size := by simp
  go_enter Try.func22, Try.ntmps22
  go_wp2_with fail
  generalize (w.alloc (.cells #[.slice A1 n1 c1, .slice A2 n2 c2] 26)) = W0 at hB0 f0 f1 hs0 ⊢
  refine (HCS.out _ (HH.out.below hB0) (HT.out.below hB0)).mono ?_
  rintro e w1 ⟨rfl, hb1⟩
  have hB1 := hB0.trans (hb1.mono hB0.size)
  have g0 := (belowL hb1 (show w.heap.size < W0.heap.size by omega)).trans f0
  have g1 := (belowL hb1 (show w.heap.size < W0.heap.size by omega)).trans f1
  have hw1s := hb1.size
  clear f0 f1 hB0 HCS
  rcases hcase with hn | ⟨a, wn, hwd, ha, hc, ht, h4, hwn1, hwn2, htt, hab⟩
  · rw [hn] at hR ⊢
    rw [if_pos (by omega)] at hR
    have HR := Lib.hid hR
    clear hR hn
    go_wp2
    go_ret
    exact ⟨ret_s HR.out.symm, hB1⟩
  · subst hwd
    rw [ha] at hR ⊢
    rw [if_neg (by omega)] at hR
    simp only [Int.toNat_natCast] at hR
    have HCT2 := Lib.hid (HCT.out hc)
    have HR := Lib.hid hR
    have hs160 : s.size ≤ 160 := by
      unfold textB at ht
      simp only [Bool.and_eq_true, decide_eq_true_eq] at ht
      exact ht.2
    clear hR ha hc ht htt HCT hsz
    generalize termsB d s = P at HR HCT2 HND hPl
    generalize wordsB s = ws at HR HCW hwl HWF hab hPl
    go_wp2_with fail
    refine (HCW.out _).mono ?_
    rintro e w2 ⟨gw, cw, ⟨rfl, ownW⟩, hb2⟩
    have hB2 := hB1.trans (hb2.mono hB1.size)
    have k0 := (belowL hb2 (show w.heap.size < w1.heap.size by omega)).trans g0
    have k1 := (belowL hb2 (show w.heap.size < w1.heap.size by omega)).trans g1
    have hw2s := hb2.size
    go_wp2_with fail
    refine (HCT2.out _ (HH.out.below hB2)).mono ?_
    rintro e w3 ⟨gm, cm, ⟨rfl, ownP⟩, hb3⟩
    have hB3 := hB2.trans (hb3.mono hB2.size)
    have ownW3 := own_belowZ ownW hb3
    have hw3s := hb3.size
    have HT3 := Lib.hid (HT.out.below hB3)
    clear g0 g1 k0 k1 ownW hb1 hb2 hb3 HCT2 HCW HT
    obtain ⟨e, he⟩ : ∃ e : Nat, min (a + wn) ws.length = e := ⟨_, rfl⟩
    rw [he] at HR
    have hae : a ≤ e := by omega
    have hew : e ≤ ws.length := by omega
    have hew2 : e ≤ a + wn := by omega
    have heor : e = a + wn ∨ e = ws.length := by omega
    have HEO := Lib.hid heor
    have hea : e - a ≤ 12 := by omega
    have hPs : P.length ≤ 1048576 := by omega
    clear he heor
    go_wp2_with fail
    go_loopw [12, 13, 14, 15] (fun ov iv _ _ wr => ∃ k : Nat, a ≤ k ∧ k ≤ e ∧ iv = .int .i64 k ∧ ov = .string (joinB (pieceL s ws P ts a (k - a))) ∧ Below w3.heap.size w3 wr) (fun _ iv _ _ _ => e - (intOf iv).toNat)
    case atStart => exact ⟨a, Nat.le_refl _, hae, rfl, by rw [Nat.sub_self]; rfl, Below.refl _ _⟩
    case round =>
      obtain ⟨k, hak, hke, rfl, rfl, hB⟩ := hrel
      obtain ⟨wo, hwo⟩ : ∃ wo, wo = wr := ⟨_, rfl⟩
      subst hwo
      have hBs := hB.size
      have hsO : (joinB (pieceL s ws P ts a (k - a))).size ≤ 12 * 163 := by
        refine Nat.le_trans (joinB_size 162 _ (fun x hx => Nat.le_trans (pieceL_size s ws P ts a (k - a) x hx) (by omega))) ?_
        rw [pieceL_len]
        exact Nat.mul_le_mul (by omega) (Nat.le_refl _)
      by_cases hlt : k < e
      · have hi0 : (k : Int) < (a : Int) + (wn : Int) := by omega
        have hkw : k < ws.length := by omega
        have hi1 : (k : Int) < (ws.length : Int) := by omega
        obtain ⟨b, off, e0, hb, x0, x1, x2, x3⟩ := SrcE.atW (OwnE.src (own_belowZ ownW3 hB)) hkw
        simp only [Option.some.injEq, Addr.mk.injEq, and_true] at e0
        obtain ⟨rfl, rfl⟩ := e0
        simp only [Nat.zero_add] at x2 x3
        have hwf := (HWF.out ws[k] (List.getElem_mem _)).2
        have hps := pieceL_succ s ws P ts a (k - a)
        rw [show a + (k - a) = k by omega, show k - a + 1 = k + 1 - a by omega] at hps
        have hjs : joinB (pieceL s ws P ts a (k + 1 - a)) = if k = a then pieceW s ws P ts k else joinB (pieceL s ws P ts a (k - a)) ++ sp1 ++ pieceW s ws P ts k := by
          rw [hps, joinB_snoc]
          by_cases h : k = a
          · subst h; rw [Nat.sub_self, show pieceL s ws P ts k 0 = [] from rfl, if_pos rfl, if_pos rfl]
          · rw [if_neg h, if_neg (by intro h2; have := congrArg List.length h2; rw [pieceL_len] at this; simp at this; omega)]
        unfold pieceW at hjs
        rw [wdAt_get hkw] at hjs
        have hj0 : k = a → joinB (pieceL s ws P ts a (k - a)) = ⟨#[]⟩ := fun h => by subst h; rw [Nat.sub_self]; rfl
        generalize joinB (pieceL s ws P ts a (k - a)) = J at hsO hjs hj0 ⊢
        generalize ws[k].fr = fr at x2 hwf hjs
        generalize ws[k].to = to at x3 hwf hjs
        have m2 := cell_regrown x2
        have m3 := cell_regrown x3
        have hft : fr ≤ to := by omega
        have hts2 : to ≤ s.size := hwf.2
        have hxs : (s.extract fr to).size ≤ 160 := by rw [ByteArray.size_extract]; omega
        have HJS := Lib.hid hjs
        have HJ0 := Lib.hid hj0
        have hbr : brk P ts k = (P.take P.length).any (brkP ts k) := by rw [List.take_length]; rfl
        have HBR := Lib.hid hbr
        clear x0 x1 hps hjs hj0 hbr
        go_wp2_with fail
        refine region_qw (by kernel_rfl) (by kernel_rfl) ?_
        repeat (
          refine qw_step (fun K hK => ?_)
          go_simp
          first
            | (refine hK _ ?_; clear hK K)
            | fail)
        refine qw_nil ?_
        intro _ hw'
        obtain ⟨⟨dq, osq⟩, hw''⟩ := hw'
        subst hw''
        have hBq := hB.trans ((below_regrown wo dq osq).mono (by have := hB.size; omega))
        clear m2 m3 x2 x3
        generalize grow (redrawn wo dq) osq = w5 at hBq ⊢
        have hw5s := hBq.size
        generalize s.extract fr to = t at HJS hxs ⊢
        go_wp2_with fail
        go_loopw [14, 15] (fun tv jv wv => ∃ i : Nat, i ≤ P.length ∧ jv = .int .i64 i ∧ tv = .string (brkW ((P.take i).any (brkP ts k)) t) ∧ Below w5.heap.size w5 wv) (fun _ jv _ => P.length - (intOf jv).toNat)
        case atStart => exact ⟨0, Nat.zero_le _, rfl, rfl, Below.refl _ _⟩
        case round =>
          obtain ⟨i, hi, rfl, rfl, hBi⟩ := hrel
          obtain ⟨wv, hwv⟩ : ∃ wv, wv = wr := ⟨_, rfl⟩
          subst hwv
          have hBis := hBi.size
          have hB6 := hBq.trans (hBi.mono hw5s)
          by_cases hli : i < P.length
          · have hi2 : (i : Int) < (P.length : Int) := by omega
            obtain ⟨hgp, y0, y1⟩ := (OwnE.src (own_belowZ ownP hB6)).allTm hli
            rw [Nat.zero_add] at y0 y1
            have hst := brkP_take hli ts k
            have hfi := brkP_first HND.out hli (ts := ts) (k := k)
            have hbp : brkP ts k P[i] = (decide (P[i].2 = k) && hasB ts P[i].1) := rfl
            rw [hbp] at hst
            have hT6 := HT3.out.below hB6
            generalize (P.take i).any (brkP ts k) = q at hst hfi ⊢
            generalize P[i].1 = tx at y0 hst
            generalize P[i].2 = p at y1 hst hfi
            clear hbp
            by_cases hpk : p = k
            · cases hh : hasB ts tx with
              | true =>
                have hq : q = false := hfi hpk
                subst hq
                have HS : Hid ((P.take (i + 1)).any (brkP ts k) = true) := by show _ = _; rw [hst, decide_eq_true hpk, hh]; rfl
                subst hpk
                clear hst hfi
                have hz1 : ¬ 9223372036854775807 < (⟨#[91]⟩ : ByteArray).size + t.size := by show ¬ _ < 1 + _; omega
                have hz2 : ¬ 9223372036854775807 < ((⟨#[91]⟩ : ByteArray) ++ t).size + (⟨#[93]⟩ : ByteArray).size := by rw [ByteArray.size_append]; show ¬ _ < 1 + _ + 1; omega
                have hz3 : ¬ 9223372036854775807 < 1 + t.size := by omega
                have hz4 : ¬ 9223372036854775807 < 1 + t.size + 1 := by omega
                have ebw : brkW false t = t := rfl
                rw [ebw]
                clear ebw
                go_wp2_with fail
                refine (l2Has_any _ _ ts tx _ hT6 htl).mono ?_
                rintro e9 w9 ⟨rfl, hb9⟩
                rw [hh]
                have hBq := hBi.trans (hb9.mono hBis)
                go_wp2
                go_roundw
                case rel => exact ⟨i + 1, by omega, by go_num, by rw [HS.out]; rfl, hBq⟩
                case measure => simp [intOf] <;> omega
              | false =>
                have HS : Hid ((P.take (i + 1)).any (brkP ts k) = q) := by show _ = _; rw [hst, hh]; simp
                subst hpk
                clear hst hfi
                go_wp2_with fail
                refine (l2Has_any _ _ ts tx _ hT6 htl).mono ?_
                rintro e9 w9 ⟨rfl, hb9⟩
                rw [hh]
                have hBq := hBi.trans (hb9.mono hBis)
                go_wp2
                go_roundw
                case rel => exact ⟨i + 1, by omega, by go_num, by rw [HS.out], hBq⟩
                case measure => simp [intOf] <;> omega
            · have HS : Hid ((P.take (i + 1)).any (brkP ts k) = q) := by show _ = _; rw [hst, decide_eq_false hpk]; simp
              have hpk2 : ((p : Int) == (k : Int)) = false := by rw [beq_eq_false_iff_ne]; omega
              clear hst hfi
              go_wp2
              go_roundw
              case rel => exact ⟨i + 1, by omega, by go_num, by rw [HS.out], hBi⟩
              case measure => simp [intOf] <;> omega
          · obtain rfl : i = P.length := by omega
            rw [← HBR.out]
            have hbs := brkW_size (brk P ts k) t
            generalize brkW (brk P ts k) t = u at HJS hbs ⊢
            have hB7 := hB6
            clear HBR
            by_cases hka : k = a
            · have hJ : J = ⟨#[]⟩ := HJ0.out hka
              have HN : Hid (joinB (pieceL s ws P ts a (k + 1 - a)) = u) := by show _ = _; rw [HJS.out, if_pos hka]
              clear HJS HJ0
              subst hJ
              have hz1 : ¬ 9223372036854775807 < (⟨#[]⟩ : ByteArray).size + u.size := by show ¬ _ < 0 + _; omega
              have hz2 : ¬ 9223372036854775807 < 0 + u.size := by omega
              have hz3 : ¬ 9223372036854775807 < u.size := by omega
              have hea2 := empty_add u
              have hkd : decide (a < k) = false := decide_eq_false (by omega)
              have hak2 : ¬ (a : Int) < (k : Int) := by omega
              have HKA := Lib.hid hka
              clear hka
              go_wp2
              go_roundw
              case rel => exact ⟨k + 1, by omega, by omega, by go_num, by rw [HN.out] <;> (first | rfl | rw [hea2]), hB7⟩
              case measure => simp [intOf] <;> omega
            · have HN : Hid (joinB (pieceL s ws P ts a (k + 1 - a)) = J ++ (⟨#[32]⟩ : ByteArray) ++ u) := by show _ = _; rw [HJS.out, if_neg hka]; rfl
              clear HJS HJ0
              have hka2 : a < k := by omega
              have hz1 : ¬ 9223372036854775807 < J.size + (⟨#[32]⟩ : ByteArray).size := by show ¬ _ < _ + 1; omega
              have hz2 : ¬ 9223372036854775807 < J.size + 1 := by omega
              have hz3 : ¬ 9223372036854775807 < (J ++ (⟨#[32]⟩ : ByteArray)).size + u.size := by rw [ByteArray.size_append]; show ¬ _ < _ + 1 + _; omega
              have hz4 : ¬ 9223372036854775807 < J.size + 1 + u.size := by omega
              clear hka
              go_wp2
              go_roundw
              case rel => exact ⟨k + 1, by omega, by omega, by go_num, by rw [HN.out], hB7⟩
              case measure => simp [intOf] <;> omega
      · have hke2 : k = e := by omega
        have hB5 := hB3.trans (hB.mono hB3.size)
        have hHR : R = tellB a (a + wn) ws.length (joinB (pieceL s ws P ts a (k - a))) := by rw [HR.out, hke2]
        generalize joinB (pieceL s ws P ts a (k - a)) = J at hHR hsO ⊢
        unfold tellB at hHR
        dsimp only at hHR
        have hz1 : ¬ 9223372036854775807 < (⟨#[46, 46, 32]⟩ : ByteArray).size + J.size := by show ¬ _ < 3 + _; omega
        have hz2 : ¬ 9223372036854775807 < 3 + J.size := by omega
        have hz3 : ¬ 9223372036854775807 < J.size + 3 := by omega
        have hz4 : ¬ 9223372036854775807 < J.size + (⟨#[32, 46, 46]⟩ : ByteArray).size := by show ¬ _ < _ + 3; omega
        have hz5 : ¬ 9223372036854775807 < 3 + J.size + 3 := by omega
        have hgd : ¬ ((k : Int) < (a : Int) + (wn : Int)) ∨ (((k : Int) < (a : Int) + (wn : Int)) ∧ ¬ ((k : Int) < (ws.length : Int))) := by have := HEO.out; omega
        have HGD := Lib.hid hgd
        clear hgd hke2 HR hlt
        by_cases ha0 : 0 < a
        · rw [if_pos ha0] at hHR
          by_cases hel : a + wn < ws.length
          · rw [if_pos hel] at hHR
            have hel2 : (a : Int) + (wn : Int) < (ws.length : Int) := by omega
            have HR2 : Hid (R = (⟨#[46, 46, 32]⟩ : ByteArray) ++ J ++ (⟨#[32, 46, 46]⟩ : ByteArray)) := hHR
            clear hHR hel
            rcases HGD.out with hg | ⟨hg, hg2⟩
            all_goals first
              | (exfalso; omega)
              | (go_wp2; go_ret; exact ⟨ret_s HR2.out.symm, hB5⟩)
          · rw [if_neg hel] at hHR
            have hel2 : ¬ (a : Int) + (wn : Int) < (ws.length : Int) := by omega
            have HR2 : Hid (R = (⟨#[46, 46, 32]⟩ : ByteArray) ++ J) := hHR
            clear hHR hel
            rcases HGD.out with hg | ⟨hg, hg2⟩
            all_goals first
              | (exfalso; omega)
              | (go_wp2; go_ret; exact ⟨ret_s HR2.out.symm, hB5⟩)
        · rw [if_neg ha0] at hHR
          obtain rfl : a = 0 := by omega
          by_cases hel : 0 + wn < ws.length
          · rw [if_pos hel] at hHR
            have hel2 : (wn : Int) < (ws.length : Int) := by omega
            have hel3 : wn < ws.length := by omega
            have HR2 : Hid (R = J ++ (⟨#[32, 46, 46]⟩ : ByteArray)) := hHR
            clear hHR hel
            rcases HGD.out with hg | ⟨hg, hg2⟩
            all_goals first
              | (exfalso; omega)
              | (go_wp2; go_ret; exact ⟨ret_s HR2.out.symm, hB5⟩)
          · rw [if_neg hel] at hHR
            have hel2 : ¬ (wn : Int) < (ws.length : Int) := by omega
            have hel3 : ¬ wn < ws.length := by omega
            have HR2 : Hid (R = J) := hHR
            clear hHR hel
            rcases HGD.out with hg | ⟨hg, hg2⟩
            all_goals first
              | (exfalso; omega)
              | (go_wp2; go_ret; exact ⟨ret_s HR2.out.symm, hB5⟩)
end Go.Proofs.Ytlgomipfhbkklaa
