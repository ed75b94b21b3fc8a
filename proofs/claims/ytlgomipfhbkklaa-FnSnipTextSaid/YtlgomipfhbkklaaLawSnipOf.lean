/-
  The walk of FnSnipOf.
-/
import Derived.Test.YtlgomipfhbkklaaDrawSnip
import Derived.Test.YtlgomipfhbkklaaSnipTextS
namespace Go.Proofs.Ytlgomipfhbkklaa
open Go.RowKit Go.Sort
set_option linter.unusedVariables false

theorem smC_of {d : ConfD} (h : SmW d) : SmC d := ⟨⟨by have := h.1; omega, fun s hs => by have := h.2.1 s hs; omega⟩, by have := h.2.2.1; omega, fun y hy => by
  have h2 := h.2.2.2 y hy
  exact ⟨⟨by have := h2.1.1; omega, fun s hs => by have := h2.1.2 s hs; omega⟩, by have := h2.2; omega⟩⟩
theorem snipL_eq {d : ConfD} {s : ByteArray} {ts : List ByteArray} {wn a : Nat} (h : snipL d s ts (wn : Int) = (a : Int)) : a = bestL (termsB d s) (wordsB s).length ts wn := by
  unfold snipL at h
  split at h
  · rw [Int.toNat_natCast] at h; exact (Int.ofNat.inj h).symm
  · omega
/-- none is better than the one that is told, none ahead of it as good. -/
theorem snip_best (L : List TmD) (many : Nat) (ts : List ByteArray) (w k : Nat) (hk : k + w ≤ many) :
    better (scT L ts w k).1 (scT L ts w k).2 (scT L ts w (bestL L many ts w)).1 (scT L ts w (bestL L many ts w)).2 = false ∧ (k < bestL L many ts w → better (scT L ts w (bestL L many ts w)).1 (scT L ts w (bestL L many ts w)).2 (scT L ts w k).1 (scT L ts w k).2 = true) := by
  unfold bestL
  obtain ⟨n, hn⟩ : ∃ n, many + 1 - w = n + 1 := ⟨many - w, by omega⟩
  rw [hn]
  have h1 := bestF_sc (scT L ts w) (fun k => by unfold scT; dsimp only; omega) n
  have h2 := bestF_best (scT L ts w) (n + 1) k (by omega)
  rw [h1] at h2
  exact h2
theorem wordsMany_any (s : ByteArray) (w : World) (hs : s.size ≤ 1048576) :
    Calls Try.prog 12 #[.string s] w fun e w' => e = .returned (.int .i64 (if textB s = true then (((wordsB s).length : Nat) : Int) else -1)) ∧ Below w.heap.size w w' := by
  cases ht : textB s with
  | false =>
    rw [if_neg (by simp)]
    go_enter Try.func12, Try.ntmps12
    go_wp2_with fail
    refine (textOk_any s _ (by omega)).mono ?_
    rintro e w2 ⟨rfl, rfl⟩
    rw [ht]
    go_wp2
    go_ret
    exact ⟨rfl, Below.refl _ _⟩
  | true =>
    rw [if_pos rfl]
    have h1 := wordsOf_any s w hs
    have e : wordsT s = wordsB s := by unfold wordsT; rw [ht]; rfl
    rw [e] at h1
    have HT := Lib.hid ht
    clear ht e
    go_enter Try.func12, Try.ntmps12
    go_wp2_with fail
    refine (textOk_any s _ (by omega)).mono ?_
    rintro e w2 ⟨rfl, rfl⟩
    rw [HT.out]
    go_wp2_with fail
    refine h1.mono ?_
    rintro e w2 ⟨g, c, ⟨rfl, own⟩, hb⟩
    go_wp2
    go_ret
    exact ⟨rfl, hb⟩
set_option maxRecDepth 8000 in
set_option maxHeartbeats 6400000 in
theorem walk_FnSnipOf (a0 : Option Addr) (len cap : Nat) (zs : List Int) (w : World) (h : IsRow .u8 w a0 len cap zs) :
    Calls Try.prog 3 #[.slice a0 len cap] w fun e w' => e = .returned (.bool true) ∧ Below w.heap.size w w' := by
  obtain ⟨hcap, hlc, _⟩ := code_of_row h
  by_cases hbig : 1048576 < len
  · go_enter Try.func3, Try.ntmps3
    go_wp2
    go_ret
    exact ⟨rfl, Below.refl _ _⟩
  go_enter Try.func3, Try.ntmps3
  go_wp2_with fail
  refine (drawSnipOf_any a0 len cap zs w h).mono ?_
  rintro e w1 ⟨d, A1, c1, A2, c2, s, gt, ct, ts, wd, ⟨rfl, hsw, hss, htl, hts, hCk, own, hwd0, hwd1⟩, hB1⟩
  have hC := hCk w1 ⟨Nat.le_refl _, fun _ _ _ => rfl⟩
  have hs := smC_of hsw
  have hTc := OwnE.capOk own
  have htsm : ∀ t ∈ ts, t.size ≤ 1048576 := fun t ht => by have := hts t ht; omega
  have W2b : Below w1.heap.size w1 (w1.alloc (.cells #[.slice A1 d.st.length c1, .slice A2 d.sy.length c2] 26)) := by (repeat' (first | exact Below.refl _ _ | apply Below.alloc | apply Below.setCell | apply Below.drew | apply below_draws)) <;> (first | omega | (simp <;> omega))
  have cb := alloc_at w1 (.cells #[.slice A1 d.st.length c1, .slice A2 d.sy.length c2] 26)
  have sz2 : w1.heap.size < (w1.alloc (.cells #[.slice A1 d.st.length c1, .slice A2 d.sy.length c2] 26)).heap.size := by simp
  go_wp2_with fail
  generalize (w1.alloc (.cells #[.slice A1 d.st.length c1, .slice A2 d.sy.length c2] 26)) = w2 at W2b cb sz2 ⊢
  have hB2 := hB1.trans (W2b.mono hB1.size)
  have HC2 := Lib.hid (hC.below W2b)
  have HT2 : Hid (SrcT w2 (some ⟨gt, 0, none⟩) ct ts) := (OwnE.src (own_belowZ own W2b))
  have KC0 : Hid (∀ V, Below w2.heap.size w2 V → V.cell? ⟨w1.heap.size, 0, none⟩ = some (.slice A1 d.st.length c1)) := fun V hV => (belowL hV sz2).trans (cell_of_row w2 w1.heap.size 0 _ _ _ cb)
  have KC1 : Hid (∀ V, Below w2.heap.size w2 V → V.cell? ⟨w1.heap.size, 1, none⟩ = some (.slice A2 d.sy.length c2)) := fun V hV => (belowL hV sz2).trans (cell_of_row w2 w1.heap.size 1 _ _ _ cb)
  have HTS := Lib.hid htsm
  clear W2b cb hC hCk own hts htsm hsw hbig hcap hlc h hB1
  generalize w1.heap.size = q at KC0 KC1 sz2 hTc ⊢
  refine (snipOf_any d A1 A2 (some ⟨gt, 0, none⟩) c1 c2 ct s ts wd _ HC2.out hs HT2.out (by omega) ⟨hTc.1, hTc.2.1⟩ (by omega) HTS.out).mono ?_
  rintro e w3 ⟨rfl, hb3⟩
  have x0 := KC0.out _ hb3
  have x1 := KC1.out _ hb3
  go_wp2_with fail
  refine (specSnipOf_any d A1 A2 (some ⟨gt, 0, none⟩) c1 c2 ct s ts wd _ (HC2.out.below hb3) hs (HT2.out.below hb3) (by omega) ⟨hTc.1, hTc.2.1⟩ (by omega) HTS.out).mono ?_
  rintro e w4 ⟨rfl, hb4⟩
  have h24 := hb3.trans (hb4.mono hb3.size)
  have y0 := KC0.out _ h24
  have y1 := KC1.out _ h24
  clear hb3 hb4
  rcases snipL_case d s ts wd with hn | ⟨a, wn, rfl, ha, hc, ht, h4, hwn1, hwn2, htt, hab⟩
  · rw [hn]
    go_wp2_with fail
    refine (specSnipOf_any d A1 A2 (some ⟨gt, 0, none⟩) c1 c2 ct s ts wd _ (HC2.out.below h24) hs (HT2.out.below h24) (by omega) ⟨hTc.1, hTc.2.1⟩ (by omega) HTS.out).mono ?_
    rintro e w5 ⟨rfl, hb5⟩
    rw [hn]
    go_wp2
    go_ret
    exact ⟨rfl, hB2.trans ((h24.trans (hb5.mono h24.size)).mono hB2.size)⟩
  · have hbest := fun k hk => snip_best (termsB d s) (wordsB s).length ts wn k hk
    rw [← snipL_eq ha] at hbest
    rw [ha]
    have hwl := wordsB_len s
    have hsm : SmTm (termsB d s) := ⟨by have := termsB_len d s; omega, fun t ht => by have := termsB_lt d s t ht; omega⟩
    have HCT : Hid (∀ w, HasC w d A1 c1 A2 → Calls Try.prog 11 #[.agg #[.slice A1 d.st.length c1, .slice A2 d.sy.length c2], .string s] w (MakesTm (termsB d s) w)) := fun w h => by
      have h1 := termsOf_any d A1 A2 c1 c2 s w h hs (by omega)
      have e : termsT d s = termsB d s := by unfold termsT; rw [hc, ht]; rfl
      rwa [e] at h1
    have HCM : Hid (∀ w, Calls Try.prog 12 #[.string s] w fun e w' => e = .returned (.int .i64 (((wordsB s).length : Nat) : Int)) ∧ Below w.heap.size w w') := fun w => by
      have h1 := wordsMany_any s w (by omega)
      rwa [if_pos ht] at h1
    have HFM : Hid (∀ (A : Option Addr) (c a : Nat) (w : World) (x y : Int), x = (a : Int) → y = (a : Int) + (wn : Int) - 1 → a ≤ 1048576 → SrcE encTm 2 w A c (termsB d s) → SrcT w (some ⟨gt, 0, none⟩) ct ts → Calls Try.prog 13 #[.slice A (termsB d s).length c, .slice (some ⟨gt, 0, none⟩) ts.length ct, .int .i64 x, .int .i64 y] w fun e w' => e = .returned (.tuple #[.int .i64 (scT (termsB d s) ts wn a).1, .int .i64 (scT (termsB d s) ts wn a).2]) ∧ Below w.heap.size w w') := fun A c a w x y h1 h2 h3 h5 h6 => by
      subst h1 h2
      have h7 := foMany_any A (some ⟨gt, 0, none⟩) c ct (termsB d s) ts a wn w h5 h6 hsm h4 h3 hwn2
      unfold scT
      exact h7
    generalize wordsB s = ws at hbest hwl HCM hab
    generalize scT (termsB d s) ts wn = sc at hbest HFM
    generalize termsB d s = P at HCT HFM
    have HBEST := Lib.hid hbest
    clear hbest ha hc ht htt hsm
    go_wp2_with fail
    refine (HCT.out _ (HC2.out.below h24)).mono ?_
    rintro e w5 ⟨gp, cp, ⟨rfl, ownP⟩, hb5⟩
    have h25 := h24.trans (hb5.mono h24.size)
    have srcP := OwnE.src ownP
    go_wp2_with fail
    refine (HCM.out _).mono ?_
    rintro e w6 ⟨rfl, hb6⟩
    have h26 := h25.trans (hb6.mono h25.size)
    have srcP6 := srcP.below hb6
    go_wp2_with fail
    refine (HFM.out _ _ a _ _ _ ?_ ?_ (by omega) srcP6 (HT2.out.below h26)).mono ?_
    · first | rfl | simp | omega
    · first | rfl | (simp; done) | omega | (simp; omega)
    rintro e w7 ⟨rfl, hb7⟩
    have h27 := h26.trans (hb7.mono h26.size)
    have srcP7 := srcP6.below hb7
    have s7 := h27.size
    clear srcP srcP6 ownP hb5 hb6 hb7 h25 h26 h24 HCT HCM x0 x1 y0 y1
    obtain ⟨b1, hb1⟩ : ∃ b1, b1 = (sc a).1 := ⟨_, rfl⟩
    obtain ⟨b2, hb2⟩ : ∃ b2, b2 = (sc a).2 := ⟨_, rfl⟩
    rw [← hb1, ← hb2] at HBEST ⊢
    clear hb1 hb2
    go_wp2_with fail
    go_loopw [12, 13, 14] (fun kv _ _ wr => ∃ k : Nat, k ≤ ws.length + 1 ∧ kv = .int .i64 k ∧ Below w7.heap.size w7 wr) (fun kv _ _ _ => ws.length + 1 - (intOf kv).toNat)
    case atStart => exact ⟨0, Nat.zero_le _, rfl, Below.refl _ _⟩
    case round =>
      obtain ⟨k, hk, rfl, hB⟩ := hrel
      obtain ⟨wo, hwo⟩ : ∃ wo, wo = wr := ⟨_, rfl⟩
      subst hwo
      have hBs := hB.size
      by_cases hlt : k + wn ≤ ws.length
      · have hi0 : (k : Int) + (wn : Int) ≤ (ws.length : Int) := by omega
        have hbe := HBEST.out k hlt
        have hk1 : k ≤ 1048576 := by omega
        go_wp2_with fail
        refine (HFM.out _ _ k _ _ _ ?_ ?_ hk1 (srcP7.below hB) (HT2.out.below (h27.trans (hB.mono s7)))).mono ?_
        · first | rfl | simp | omega
        · first | rfl | (simp; done) | omega | (simp; omega)
        rintro e w8 ⟨rfl, hb8⟩
        have hB8 := hB.trans (hb8.mono hBs)
        generalize (sc k).1 = k1 at hbe ⊢
        generalize (sc k).2 = k2 at hbe ⊢
        have hcs : k1 < b1 ∨ (k1 = b1 ∧ k2 < b2) ∨ (k1 = b1 ∧ k2 = b2 ∧ ¬ k < a) := by
          obtain ⟨e1, e2⟩ := hbe
          unfold better at e1 e2
          simp only [Bool.or_eq_true, Bool.and_eq_true, decide_eq_true_eq, Bool.or_eq_false_iff, Bool.and_eq_false_iff, decide_eq_false_iff_not] at e1 e2
          omega
        clear hbe hb8
        rcases hcs with hcs | ⟨rfl, hcs⟩ | ⟨rfl, rfl, hcs⟩
        · have n1 : ¬ b1 < k1 := by omega
          have n2 : (k1 == b1) = false := by rw [beq_eq_false_iff_ne]; omega
          by_cases hka : (k : Int) < (a : Int)
          · go_wp2
            go_roundw
            case rel => exact ⟨k + 1, by omega, by go_num, hB8⟩
            case measure => simp [intOf] <;> omega
          · go_wp2
            go_roundw
            case rel => exact ⟨k + 1, by omega, by go_num, hB8⟩
            case measure => simp [intOf] <;> omega
        · have n2 : (k2 == b2) = false := by rw [beq_eq_false_iff_ne]; omega
          have n3 : ¬ b2 < k2 := by omega
          by_cases hka : (k : Int) < (a : Int)
          · go_wp2
            go_roundw
            case rel => exact ⟨k + 1, by omega, by go_num, hB8⟩
            case measure => simp [intOf] <;> omega
          · go_wp2
            go_roundw
            case rel => exact ⟨k + 1, by omega, by go_num, hB8⟩
            case measure => simp [intOf] <;> omega
        · have n3 : ¬ (k : Int) < (a : Int) := by omega
          go_wp2
          go_roundw
          case rel => exact ⟨k + 1, by omega, by go_num, hB8⟩
          case measure => simp [intOf] <;> omega
      · have hi0 : ¬ (k : Int) + (wn : Int) ≤ (ws.length : Int) := by omega
        have hfin := hB2.trans ((h27.trans (hB.mono s7)).mono hB2.size)
        rcases hab with rfl | hab
        · go_wp2
          go_ret
          exact ⟨rfl, hfin⟩
        · have hi1 : (a : Int) + (wn : Int) ≤ (ws.length : Int) := by omega
          rcases Nat.eq_zero_or_pos a with rfl | hpos
          · go_wp2
            go_ret
            exact ⟨rfl, hfin⟩
          · have hz : ((a : Int) == 0) = false := by rw [beq_eq_false_iff_ne]; omega
            go_wp2
            go_ret
            exact ⟨rfl, hfin⟩
end Go.Proofs.Ytlgomipfhbkklaa
