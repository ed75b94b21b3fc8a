/-
  The walk of FnSnipText.
-/
import Derived.Test.YtlgomipfhbkklaaLawSnipOf
namespace Go.Proofs.Ytlgomipfhbkklaa
open Go.RowKit Go.Sort
set_option linter.unusedVariables false

theorem drawSnipText_any (a0 : Option Addr) (len cap : Nat) (zs : List Int) (w : World) (h : IsRow .u8 w a0 len cap zs) :
    Calls Try.prog 20 #[.slice a0 len cap] w (DrawnS w) := by
  have b0 : Below w.heap.size w (w.alloc (.cells #[.slice none 0 0, .slice none 0 0] 26)) := by (repeat' (first | exact Below.refl _ _ | apply Below.alloc | apply Below.setCell | apply Below.drew | apply below_draws)) <;> (first | omega | (simp <;> omega))
  have ra := alloc_at w (.cells #[.slice none 0 0, .slice none 0 0] 26)
  have s0 : w.heap.size + 1 ≤ (w.alloc (.cells #[.slice none 0 0, .slice none 0 0] 26)).heap.size := by simp
  go_enter Try.func20, Try.ntmps20
  go_wp2_with fail
  generalize (w.alloc (.cells #[.slice none 0 0, .slice none 0 0] 26)) = W0 at b0 ra s0 ⊢
  refine (drawSnipOf_any a0 len cap zs W0 (h.below b0)).mono ?_
  rintro e w1 ⟨d, A1, c1, A2, c2, s, gt, ct, ts, wd, ⟨rfl, hsw, hss, htl, hts, hC, own, hwd0, hwd1⟩, hB1⟩
  have rb := (hB1.block w.heap.size (by omega)).trans ra
  have y0 : w1.cell? ⟨w.heap.size, 0, none⟩ = some (.slice none 0 0) := by simp [World.cell?, rb]
  have y1 : w1.cell? ⟨w.heap.size, 1, none⟩ = some (.slice none 0 0) := by simp [World.cell?, rb]
  have yz0 : w1.frozen? ⟨w.heap.size, 0, none⟩ = false := by simp [World.frozen?, rb]
  have yz1 : w1.frozen? ⟨w.heap.size, 1, none⟩ = false := by simp [World.frozen?, rb]
  have hw1s := hB1.size
  have HF : Hid (KeptC w ((w1.setCell ⟨w.heap.size, 0, none⟩ (.slice A1 d.st.length c1)).setCell ⟨w.heap.size, 1, none⟩ (.slice A2 d.sy.length c2)) d A1 c1 A2 ∧ OwnT ((w1.setCell ⟨w.heap.size, 0, none⟩ (.slice A1 d.st.length c1)).setCell ⟨w.heap.size, 1, none⟩ (.slice A2 d.sy.length c2)) w.heap.size gt ct ts ∧ Below w.heap.size w ((w1.setCell ⟨w.heap.size, 0, none⟩ (.slice A1 d.st.length c1)).setCell ⟨w.heap.size, 1, none⟩ (.slice A2 d.sy.length c2))) := by
    have hWs : w.heap.size < W0.heap.size := by omega
    refine ⟨fun w'' hq => hC _ ?_, ?_, ?_⟩
    · have h9 := (Same.set (lo := W0.heap.size) (b := w.heap.size) (j := 0) w1 (.slice A1 d.st.length c1) hWs (Nat.le_refl _)).trans (Same.set (lo := W0.heap.size) (b := w.heap.size) (j := 1) (w1.setCell ⟨w.heap.size, 0, none⟩ (.slice A1 d.st.length c1)) (.slice A2 d.sy.length c2) (hi := w1.heap.size) hWs (by simp)) (Nat.le_refl _)
      exact h9.trans (hq.lo (by omega)) (by simp)
    · have hz : ZoneR w.heap.size (w.heap.size + 1) w1 ((w1.setCell ⟨w.heap.size, 0, none⟩ (.slice A1 d.st.length c1)).setCell ⟨w.heap.size, 1, none⟩ (.slice A2 d.sy.length c2)) :=
        (ZoneR.setCell w1 _ (by omega) (by omega)).trans (ZoneR.setCell _ _ (by omega) (by omega))
      have hgt := (World.ownsRow.lt own gt rfl).1
      exact own_monoZ (own_zoneR own hz (fun k hk => by simp [Value.ownBlock] at hk; subst hk; right; omega)) (by omega)
    · exact ((b0.trans (hB1.mono (by omega))).setCell (p := ⟨w.heap.size, 0, none⟩) (Nat.le_refl _) _).setCell (p := ⟨w.heap.size, 1, none⟩) (Nat.le_refl _) _
  have HSM := Lib.hid hsw
  have HTS := Lib.hid hts
  clear own hC hsw hts ra rb b0 hB1
  go_wp2
  exact bodyPost_ret (v := .tuple #[.agg #[.slice A1 d.st.length c1, .slice A2 d.sy.length c2], .string s, .slice (some ⟨gt, 0, none⟩) ts.length ct, .int .i64 wd]) (by simp [results, Try.results20, go_sem, *]) rfl ⟨d, A1, c1, A2, c2, s, gt, ct, ts, wd, ⟨rfl, HSM.out, hss, htl, HTS.out, HF.out.1, HF.out.2.1, hwd0, hwd1⟩, HF.out.2.2⟩
theorem countTake (s : ByteArray) (k : Nat) (h : k < s.size) : (s.data.toList.take (k + 1)).countP (fun b => decide (b = 91)) = (s.data.toList.take k).countP (fun b => decide (b = 91)) + if s[k] = 91 then 1 else 0 := by
  rw [take_next s k h, List.countP_append, List.countP_cons, List.countP_nil]
  by_cases h2 : s[k] = 91 <;> simp [h2]
theorem tellB_size (a e m : Nat) (J : ByteArray) : (tellB a e m J).size ≤ J.size + 6 := by
  unfold tellB
  dsimp only
  have h1 : dotA.size = 3 := rfl
  have h2 : dotB.size = 3 := rfl
  split <;> split <;> (try simp only [ByteArray.size_append]) <;> omega
set_option maxRecDepth 8000 in
set_option maxHeartbeats 12800000 in
theorem walk_FnSnipText (a0 : Option Addr) (len cap : Nat) (zs : List Int) (w : World) (h : IsRow .u8 w a0 len cap zs) :
    Calls Try.prog 5 #[.slice a0 len cap] w fun e w' => e = .returned (.bool true) ∧ Below w.heap.size w w' := by
  obtain ⟨hcap, hlc, _⟩ := code_of_row h
  by_cases hbig : 1048576 < len
  · go_enter Try.func5, Try.ntmps5
    go_wp2
    go_ret
    exact ⟨rfl, Below.refl _ _⟩
  go_enter Try.func5, Try.ntmps5
  go_wp2_with fail
  refine (drawSnipText_any a0 len cap zs w h).mono ?_
  rintro e w1 ⟨d, A1, c1, A2, c2, s, gt, ct, ts, wd, ⟨rfl, hsw, hss, htl, hts, hCk, own, hwd0, hwd1⟩, hB1⟩
  have hC := hCk w1 ⟨Nat.le_refl _, fun _ _ _ => rfl⟩
  have hs := smC_of hsw
  have hTc := OwnE.capOk own
  have htsm : ∀ t ∈ ts, t.size ≤ 1048576 := fun t ht => by have := hts t ht; omega
  have W2b : Below w1.heap.size w1 (w1.alloc (.cells #[.slice A1 d.st.length c1, .slice A2 d.sy.length c2] 26)) := by (repeat' (first | exact Below.refl _ _ | apply Below.alloc | apply Below.setCell | apply Below.drew | apply below_draws)) <;> (first | omega | (simp <;> omega))
  have cb := alloc_at w1 (.cells #[.slice A1 d.st.length c1, .slice A2 d.sy.length c2] 26)
  have sz2 : w1.heap.size < (w1.alloc (.cells #[.slice A1 d.st.length c1, .slice A2 d.sy.length c2] 26)).heap.size := by simp
  go_wp2_with fail
  generalize (w1.alloc (.cells #[.slice A1 d.st.length c1, .slice A2 d.sy.length c2] 26)) = w2 at W2b cb sz2 ⊢
  have hB2 := hB1.trans (W2b.mono hB1.size)
  have HC2 := Lib.hid (hC.below W2b)
  have HT2 : Hid (SrcT w2 (some ⟨gt, 0, none⟩) ct ts) := (OwnE.src (own_belowZ own W2b))
  have KC0 : Hid (∀ V, Below w2.heap.size w2 V → V.cell? ⟨w1.heap.size, 0, none⟩ = some (.slice A1 d.st.length c1)) := fun V hV => (belowL hV sz2).trans (cell_of_row w2 w1.heap.size 0 _ _ _ cb)
  have KC1 : Hid (∀ V, Below w2.heap.size w2 V → V.cell? ⟨w1.heap.size, 1, none⟩ = some (.slice A2 d.sy.length c2)) := fun V hV => (belowL hV sz2).trans (cell_of_row w2 w1.heap.size 1 _ _ _ cb)
  have HTS := Lib.hid htsm
  clear W2b cb hC hCk own hts htsm hsw hbig hcap hlc h hB1
  generalize w1.heap.size = q at KC0 KC1 sz2 hTc ⊢
  refine (snipText_any d A1 A2 (some ⟨gt, 0, none⟩) c1 c2 ct s ts wd _ HC2.out hs HT2.out (by omega) ⟨hTc.1, hTc.2.1⟩ (by omega) HTS.out).mono ?_
  rintro e w3 ⟨rfl, hb3⟩
  have x0 := KC0.out _ hb3
  have x1 := KC1.out _ hb3
  go_wp2_with fail
  refine (snipOf_any d A1 A2 (some ⟨gt, 0, none⟩) c1 c2 ct s ts wd _ (HC2.out.below hb3) hs (HT2.out.below hb3) (by omega) ⟨hTc.1, hTc.2.1⟩ (by omega) HTS.out).mono ?_
  rintro e w4 ⟨rfl, hb4⟩
  have h24 := hb3.trans (hb4.mono hb3.size)
  have y0 := KC0.out _ h24
  have y1 := KC1.out _ h24
  go_wp2_with fail
  refine (specSnipText_any d A1 A2 (some ⟨gt, 0, none⟩) c1 c2 ct s ts wd _ (HC2.out.below h24) hs (HT2.out.below h24) (by omega) ⟨hTc.1, hTc.2.1⟩ (by omega) HTS.out).mono ?_
  rintro e w5 ⟨rfl, hb5⟩
  have h25 := h24.trans (hb5.mono h24.size)
  have z0 := KC0.out _ h25
  have z1 := KC1.out _ h25
  clear hb3 hb4 hb5
  rcases snipL_case d s ts wd with hn | ⟨a, wn, rfl, ha, hc, ht, h4, hwn1, hwn2, htt, hab⟩
  · have hT : snipTextL d s ts wd = ⟨#[]⟩ := by unfold snipTextL; dsimp only; rw [if_pos (by omega)]; rfl
    rw [hn, hT]
    go_wp2_with fail
    refine (specSnipText_any d A1 A2 (some ⟨gt, 0, none⟩) c1 c2 ct s ts wd _ (HC2.out.below h25) hs (HT2.out.below h25) (by omega) ⟨hTc.1, hTc.2.1⟩ (by omega) HTS.out).mono ?_
    rintro e w6 ⟨rfl, hb6⟩
    rw [hT]
    go_wp2
    go_ret
    exact ⟨rfl, hB2.trans ((h25.trans (hb6.mono h25.size)).mono hB2.size)⟩
  · have hwl := wordsB_len s
    have hs160 : s.size ≤ 160 := by
      unfold textB at ht
      simp only [Bool.and_eq_true, decide_eq_true_eq] at ht
      exact ht.2
    obtain ⟨e, he⟩ : ∃ e : Nat, min (a + wn) (wordsB s).length = e := ⟨_, rfl⟩
    have hND := termsTo_nodup ts ts.length (Nat.le_refl _) htt
    rw [List.take_length] at hND
    have hTT : snipTextL d s ts (wn : Int) = tellB a (a + wn) (wordsB s).length (joinB (pieceL s (wordsB s) (termsB d s) ts a (e - a))) := by
      unfold snipTextL
      dsimp only
      rw [ha, if_neg (by omega), Int.toNat_natCast, Int.toNat_natCast, he]
    have hW := tell_words d s ts a (a + wn) (wordsB s).length (e - a) (by omega)
    have hLB := tell_lbs d s ts a wn (a + wn) (wordsB s).length hND.1 (fun x hx => wordB_ne (hND.2 x hx))
    rw [he, ← hTT] at hLB
    rw [← hTT] at hW
    have hTs : (snipTextL d s ts (wn : Int)).size ≤ 4000 := by
      rw [hTT]
      refine Nat.le_trans (tellB_size _ _ _ _) ?_
      have h1 := joinB_size 162 _ (fun x hx => Nat.le_trans (pieceL_size s (wordsB s) (termsB d s) ts a (e - a) x hx) (by omega))
      rw [pieceL_len] at h1
      have h2 : (e - a) * (162 + 1) ≤ 12 * 163 := Nat.mul_le_mul (by omega) (Nat.le_refl _)
      omega
    rw [ha]
    have hsm : SmTm (termsB d s) := ⟨by have := termsB_len d s; omega, fun t ht => by have := termsB_lt d s t ht; omega⟩
    have HCT : Hid (∀ w, HasC w d A1 c1 A2 → Calls Try.prog 11 #[.agg #[.slice A1 d.st.length c1, .slice A2 d.sy.length c2], .string s] w (MakesTm (termsB d s) w)) := fun w h => by
      have h1 := termsOf_any d A1 A2 c1 c2 s w h hs (by omega)
      have e : termsT d s = termsB d s := by unfold termsT; rw [hc, ht]; rfl
      rwa [e] at h1
    have HCW : Hid (∀ w, Calls Try.prog 23 #[.string s] w (MakesW (wordsB s) w)) := fun w => by
      have h1 := wordsOf_any s w (by omega)
      have e : wordsT s = wordsB s := by unfold wordsT; rw [ht]; rfl
      rwa [e] at h1
    have HFM : Hid (∀ (A : Option Addr) (c : Nat) (w : World) (x y : Int), x = (a : Int) → y = (a : Int) + (wn : Int) - 1 → SrcE encTm 2 w A c (termsB d s) → SrcT w (some ⟨gt, 0, none⟩) ct ts → Calls Try.prog 13 #[.slice A (termsB d s).length c, .slice (some ⟨gt, 0, none⟩) ts.length ct, .int .i64 x, .int .i64 y] w fun e w' => e = .returned (.tuple #[.int .i64 ((kindsL (termsB d s) ts a wn : Nat) : Int), .int .i64 ((allL (termsB d s) ts a wn : Nat) : Int)]) ∧ Below w.heap.size w w') := fun A c w x y h1 h2 h5 h6 => by
      subst h1 h2
      exact foMany_any A (some ⟨gt, 0, none⟩) c ct (termsB d s) ts a wn w h5 h6 hsm h4 (by omega) hwn2
    generalize snipTextL d s ts (wn : Int) = T at hTT hW hLB hTs ⊢
    have HCV := Lib.hid (fun w => wordsOf_any T w (by omega))
    have hwT : wordsT T = if textB T = true then wordsB T else [] := rfl
    have HWX : Hid (textB T = true → (wordsB T).map (·.tx) = (((wordsB s).drop a).take (e - a)).map (·.tx)) := fun _ => hW
    have HWN : Hid (textB T = true → (wordsT T).length = e - a) := fun h => by
      rw [hwT, if_pos h]
      have := congrArg List.length hW
      rw [List.length_map, List.length_map, List.length_take, List.length_drop] at this
      omega
    have HWE : Hid (textB T = true → wordsT T = wordsB T) := fun h => by rw [hwT, if_pos h]
    generalize allL (termsB d s) ts a wn = G at hLB HFM
    generalize kindsL (termsB d s) ts a wn = K at HFM
    generalize wordsT T = tw at HCV HWN HWE
    generalize termsB d s = P at HCT HFM hTT hsm
    generalize wordsB s = ws at hwl HCW hab HWX he hTT
    have hae : a ≤ e := by omega
    have hew : e ≤ ws.length := by omega
    have hmn : Hid (e - a = if wn < ws.length - a then wn else ws.length - a) := by show _ = _; split <;> omega
    have HLB := Lib.hid hLB
    clear hW hLB hTT hwT ha hc ht htt hND hsm he
    go_wp2_with fail
    refine (HCW.out _).mono ?_
    rintro e6 w6 ⟨gw, cw, ⟨rfl, ownW⟩, hb6⟩
    have h26 := h25.trans (hb6.mono h25.size)
    go_wp2_with fail
    refine (HCV.out _).mono ?_
    rintro e7 w7 ⟨gv, cv, ⟨rfl, ownV⟩, hb7⟩
    have h27 := h26.trans (hb7.mono h26.size)
    have ownW7 := own_belowZ ownW hb7
    have x70 := KC0.out _ h27
    have x71 := KC1.out _ h27
    clear ownW hb6 hb7 h24 h25 h26 x0 x1 y0 y1 z0 z1
    have hTz : T.size ≤ 9223372036854775000 := by omega
    go_wp2_with fail
    go_loopw [11, 12] (fun ov iv wr => ∃ i : Nat, i ≤ T.size ∧ iv = .int .i64 i ∧ ov = .int .i64 ((((T.data.toList.take i).countP (fun b => decide (b = 91))) : Nat) : Int) ∧ wr = w7) (fun _ iv _ => T.size - (intOf iv).toNat)
    case atStart => exact ⟨0, Nat.zero_le _, rfl, rfl, rfl⟩
    case round =>
      obtain ⟨i, hi, rfl, rfl, rfl⟩ := hrel
      have hcl : (T.data.toList.take i).countP (fun b => decide (b = 91)) ≤ 4000 := Nat.le_trans List.countP_le_length (by rw [List.length_take]; have := bytes_len T; omega)
      by_cases hlt : i < T.size
      · have hi0 : (i : Int) < (T.size : Int) := by omega
        have hct := countTake T i hlt
        generalize (T.data.toList.take i).countP (fun b => decide (b = 91)) = C at hct hcl ⊢
        by_cases hbr : T[i] = 91
        · rw [if_pos hbr] at hct
          have HCTT := Lib.hid hct
          have hby : (T[i].toNat : Int) = 91 := by rw [hbr]; rfl
          clear hct hbr
          go_wp2
          go_roundw
          case rel => exact ⟨i + 1, by omega, by go_num, by rw [HCTT.out]; go_num, by first | rfl | trivial⟩
          case measure => simp [intOf] <;> omega
        · rw [if_neg hbr, Nat.add_zero] at hct
          have HCTT := Lib.hid hct
          have hby : ((T[i].toNat : Int) == 91) = false := by
            rw [beq_eq_false_iff_ne]
            intro h
            apply hbr
            have h2 : T[i].toNat = 91 := by omega
            exact UInt8.toNat_inj.1 (by rw [h2]; rfl)
          clear hct hbr
          go_wp2
          go_roundw
          case rel => exact ⟨i + 1, by omega, by go_num, by rw [HCTT.out]; rfl, by first | rfl | trivial⟩
          case measure => simp [intOf] <;> omega
      · have hcG : (T.data.toList.take i).countP (fun b => decide (b = 91)) = G := by
          rw [← HLB.out, List.take_of_length_le (by rw [bytes_len]; omega)]; rfl
        rw [hcG]
        clear hcG hcl
        have hGs : G ≤ 4000 := by
          rw [← HLB.out]
          exact Nat.le_trans List.countP_le_length (by have := bytes_len T; omega)
        go_wp2_with fail
        refine (HCT.out _ (HC2.out.below h27)).mono ?_
        rintro e8 w8 ⟨gp, cp, ⟨rfl, ownP⟩, hb8⟩
        have h28 := h27.trans (hb8.mono h27.size)
        have srcP := OwnE.src ownP
        go_wp2_with fail
        refine (HFM.out _ _ _ _ _ ?_ ?_ srcP (HT2.out.below h28)).mono ?_
        · first | rfl | simp | omega
        · first | rfl | (simp; done) | omega | (simp; omega)
        rintro e9 w9 ⟨rfl, hb9⟩
        have h29 := h28.trans (hb9.mono h28.size)
        have hb79 := hb8.trans (hb9.mono hb8.size)
        have ownW9 := own_belowZ ownW7 hb79
        have ownV9 := own_belowZ ownV hb79
        have s9 := h29.size
        clear hb8 hb9 hb79 h27 h28 srcP ownP ownW7 ownV HCT HFM HCW HCV x70 x71 HLB
        have hmn2 := hmn.out
        obtain ⟨n, hn⟩ : ∃ n, n = e - a := ⟨_, rfl⟩
        rw [← hn] at hmn2 HWX HWN
        have hanw : a + n ≤ ws.length := by omega
        have hsub : ((ws.length : Int) - (a : Int)) = ((ws.length - a : Nat) : Int) := by omega
        have hdec : (wn < ws.length - a ∧ n = wn) ∨ (¬ wn < ws.length - a ∧ n = ws.length - a) := by
          by_cases h : wn < ws.length - a
          · rw [if_pos h] at hmn2; exact .inl ⟨h, hmn2⟩
          · rw [if_neg h] at hmn2; exact .inr ⟨h, hmn2⟩
        have HDEC := Lib.hid hdec
        have HSUB := Lib.hid hsub
        clear hmn hmn2 hdec hn hsub
        have MAIN : ∀ (j : Nat), True := fun _ => trivial
        clear MAIN
        rcases HDEC.out with ⟨hd1, hd2⟩ | ⟨hd1, hd2⟩
        · have hdi : (wn : Int) < (ws.length : Int) - (a : Int) := by omega
          subst hd2
          go_wp2_with fail
          go_loopw [16] (fun iv wr => ∃ i : Nat, i ≤ n ∧ iv = .int .i64 i ∧ Below w9.heap.size w9 wr) (fun iv _ => n - (intOf iv).toNat)
          case atStart => exact ⟨0, Nat.zero_le _, rfl, Below.refl _ _⟩
          case round =>
            obtain ⟨i, hi, rfl, hB⟩ := hrel
            obtain ⟨wo, hwo⟩ : ∃ wo, wo = wr := ⟨_, rfl⟩
            subst hwo
            have hBs := hB.size
            by_cases hlt : i < n
            · have hi0 : (i : Int) < (n : Int) := by omega
              go_wp2_with fail
              refine (textOk_any T _ hTz).mono ?_
              rintro e10 w10 ⟨rfl, rfl⟩
              cases htT : textB T with
              | false =>
                go_wp2_with fail
                refine (textOk_any T _ hTz).mono ?_
                rintro e11 w11 ⟨rfl, rfl⟩
                rw [htT]
                go_wp2
                go_ret
                exact ⟨rfl, hB2.trans ((h29.trans (hB.mono s9)).mono hB2.size)⟩
              | true =>
                have hnl := HWN.out htT
                have hitw : i < tw.length := by omega
                have hi1 : (i : Int) < (tw.length : Int) := by omega
                have hd3 : ¬ tw.length ≤ i := by omega
                have hd4 : decide (tw.length ≤ i) = false := decide_eq_false hd3
                obtain ⟨k, hk⟩ : ∃ k, k = a + i := ⟨_, rfl⟩
                have haw : k < ws.length := by omega
                have hi2 : (k : Int) < (ws.length : Int) := by omega
                have hi3 : 0 ≤ (k : Int) := by omega
                have hwm : IntKind.i64.wrap ((a : Int) + (i : Int)) = (k : Int) := by rw [IntKind.wrap_i64] <;> omega
                have htx : tw[i].tx = (ws[k]'haw).tx := by
                  have h1 := HWX.out htT
                  rw [← HWE.out htT] at h1
                  have h2 : (tw.map (·.tx))[i]? = (((ws.drop a).take n).map (·.tx))[i]? := by rw [h1]
                  rw [List.getElem?_map, List.getElem?_map, List.getElem?_eq_getElem hitw, List.getElem?_take, if_pos hlt, List.getElem?_drop, ← hk, List.getElem?_eq_getElem haw] at h2
                  exact Option.some.inj h2
                obtain ⟨b, off, e0, hbv, u0, _, _, _⟩ := SrcE.atW (OwnE.src (own_belowZ ownV9 hB)) hitw
                simp only [Option.some.injEq, Addr.mk.injEq, and_true] at e0
                obtain ⟨rfl, rfl⟩ := e0
                obtain ⟨b, off, e0, hbw, v0, _, _, _⟩ := SrcE.atW (OwnE.src (own_belowZ ownW9 hB)) haw
                simp only [Option.some.injEq, Addr.mk.injEq, and_true] at e0
                obtain ⟨rfl, rfl⟩ := e0
                simp only [Nat.zero_add] at u0 v0
                rw [htx] at u0
                generalize (ws[k]'haw).tx = x at u0 v0
                have m0 := cell_regrown u0
                have m1 := cell_regrown v0
                have hqq : (x.toList == x.toList) = true := by simp
                clear htx u0 v0 hnl hk
                go_wp2_with fail
                refine region_qw (by kernel_rfl) (by kernel_rfl) ?_
                repeat (
                  refine qw_step (fun K hK => ?_)
                  go_simp
                  first
                    | (refine hK _ ?_; clear hK K)
                    | fail)
                refine qw_nil ?_
                intro _ hw'
                obtain ⟨⟨dq, osq⟩, hw''⟩ := hw'
                subst hw''
                have hBq := hB.trans ((below_regrown wo dq osq).mono (by have := hB.size; omega))
                go_wp2
                go_roundw
                case rel => exact ⟨i + 1, by omega, by go_num, hBq⟩
                case measure => simp [intOf] <;> omega
            · have hin : i = n := by omega
              have hi0 : ¬ (i : Int) < (n : Int) := by omega
              have hfin := hB2.trans ((h29.trans (hB.mono s9)).mono hB2.size)
              go_wp2_with fail
              refine (textOk_any T _ hTz).mono ?_
              rintro e11 w11 ⟨rfl, rfl⟩
              cases htT : textB T with
              | false =>
                go_wp2
                go_ret
                exact ⟨rfl, hfin⟩
              | true =>
                have hnl := HWN.out htT
                have hnl2 : (tw.length : Int) = (n : Int) := by omega
                clear hin hnl
                go_wp2
                go_ret
                exact ⟨rfl, hfin⟩
        · have hdi : ¬ (wn : Int) < (ws.length : Int) - (a : Int) := by omega
          have hsb := HSUB.out
          subst hd2
          go_wp2_with fail
          go_loopw [16] (fun iv wr => ∃ i : Nat, i ≤ (ws.length - a) ∧ iv = .int .i64 i ∧ Below w9.heap.size w9 wr) (fun iv _ => (ws.length - a) - (intOf iv).toNat)
          case atStart => exact ⟨0, Nat.zero_le _, rfl, Below.refl _ _⟩
          case round =>
            obtain ⟨i, hi, rfl, hB⟩ := hrel
            obtain ⟨wo, hwo⟩ : ∃ wo, wo = wr := ⟨_, rfl⟩
            subst hwo
            have hBs := hB.size
            by_cases hlt : i < (ws.length - a)
            · have hi0 : (i : Int) < (ws.length : Int) - (a : Int) := by omega
              go_wp2_with fail
              refine (textOk_any T _ hTz).mono ?_
              rintro e10 w10 ⟨rfl, rfl⟩
              cases htT : textB T with
              | false =>
                go_wp2_with fail
                refine (textOk_any T _ hTz).mono ?_
                rintro e11 w11 ⟨rfl, rfl⟩
                rw [htT]
                go_wp2
                go_ret
                exact ⟨rfl, hB2.trans ((h29.trans (hB.mono s9)).mono hB2.size)⟩
              | true =>
                have hnl := HWN.out htT
                have hitw : i < tw.length := by omega
                have hi1 : (i : Int) < (tw.length : Int) := by omega
                have hd3 : ¬ tw.length ≤ i := by omega
                have hd4 : decide (tw.length ≤ i) = false := decide_eq_false hd3
                obtain ⟨k, hk⟩ : ∃ k, k = a + i := ⟨_, rfl⟩
                have haw : k < ws.length := by omega
                have hi2 : (k : Int) < (ws.length : Int) := by omega
                have hi3 : 0 ≤ (k : Int) := by omega
                have hwm : IntKind.i64.wrap ((a : Int) + (i : Int)) = (k : Int) := by rw [IntKind.wrap_i64] <;> omega
                have htx : tw[i].tx = (ws[k]'haw).tx := by
                  have h1 := HWX.out htT
                  rw [← HWE.out htT] at h1
                  have h2 : (tw.map (·.tx))[i]? = (((ws.drop a).take (ws.length - a)).map (·.tx))[i]? := by rw [h1]
                  rw [List.getElem?_map, List.getElem?_map, List.getElem?_eq_getElem hitw, List.getElem?_take, if_pos hlt, List.getElem?_drop, ← hk, List.getElem?_eq_getElem haw] at h2
                  exact Option.some.inj h2
                obtain ⟨b, off, e0, hbv, u0, _, _, _⟩ := SrcE.atW (OwnE.src (own_belowZ ownV9 hB)) hitw
                simp only [Option.some.injEq, Addr.mk.injEq, and_true] at e0
                obtain ⟨rfl, rfl⟩ := e0
                obtain ⟨b, off, e0, hbw, v0, _, _, _⟩ := SrcE.atW (OwnE.src (own_belowZ ownW9 hB)) haw
                simp only [Option.some.injEq, Addr.mk.injEq, and_true] at e0
                obtain ⟨rfl, rfl⟩ := e0
                simp only [Nat.zero_add] at u0 v0
                rw [htx] at u0
                generalize (ws[k]'haw).tx = x at u0 v0
                have m0 := cell_regrown u0
                have m1 := cell_regrown v0
                have hqq : (x.toList == x.toList) = true := by simp
                clear htx u0 v0 hnl hk
                go_wp2_with fail
                refine region_qw (by kernel_rfl) (by kernel_rfl) ?_
                repeat (
                  refine qw_step (fun K hK => ?_)
                  go_simp
                  first
                    | (refine hK _ ?_; clear hK K)
                    | fail)
                refine qw_nil ?_
                intro _ hw'
                obtain ⟨⟨dq, osq⟩, hw''⟩ := hw'
                subst hw''
                have hBq := hB.trans ((below_regrown wo dq osq).mono (by have := hB.size; omega))
                go_wp2
                go_roundw
                case rel => exact ⟨i + 1, by omega, by go_num, hBq⟩
                case measure => simp [intOf] <;> omega
            · have hin : i = (ws.length - a) := by omega
              have hi0 : ¬ (i : Int) < (ws.length : Int) - (a : Int) := by omega
              have hfin := hB2.trans ((h29.trans (hB.mono s9)).mono hB2.size)
              go_wp2_with fail
              refine (textOk_any T _ hTz).mono ?_
              rintro e11 w11 ⟨rfl, rfl⟩
              cases htT : textB T with
              | false =>
                go_wp2
                go_ret
                exact ⟨rfl, hfin⟩
              | true =>
                have hnl := HWN.out htT
                have hnl2 : (tw.length : Int) = (ws.length : Int) - (a : Int) := by omega
                clear hin hnl
                go_wp2
                go_ret
                exact ⟨rfl, hfin⟩
end Go.Proofs.Ytlgomipfhbkklaa
