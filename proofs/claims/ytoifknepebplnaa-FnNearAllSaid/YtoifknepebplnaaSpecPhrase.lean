/-
  Contracts of spec.l9From and spec.PhraseOf.
-/
import Derived.Test.YtoifknepebplnaaPhrase
namespace Go.Proofs.Ytoifknepebplnaa
open Go.RowKit
set_option linter.unusedVariables false

/-- a chain through the lists, each behind the one ahead, the last no more than B. -/
def fr : List (List Int) → Int → Int → Bool
  | [], last, B => decide (last ≤ B)
  | L :: r, last, B => L.any fun x => decide (last < x) && fr r x B
theorem fr_end (last B : Int) : fr [] last B = decide (last ≤ B) := rfl
theorem fr_drop {Ls : List (List Int)} {k : Nat} (hk : k < Ls.length) (last B : Int) : fr (Ls.drop k) last B = Ls[k].any fun x => decide (last < x) && fr (Ls.drop (k + 1)) x B := by
  rw [List.drop_eq_getElem_cons hk]; rfl
theorem any_drop {L : List Int} {i : Nat} (hi : i < L.length) (f : Int → Bool) : (L.drop i).any f = (f L[i] || (L.drop (i + 1)).any f) := by
  rw [List.drop_eq_getElem_cons hi, List.any_cons]
set_option maxHeartbeats 400000 in
theorem l9From_any (A : Option Addr) (c : Nat) (Ls : List (List Int)) (start slop : Int) (w : World) (h : RdSS w A Ls) (hn : total Ls ≤ 1048576) (hl6 : Ls.length ≤ 6) (hIN : Hid (∀ L ∈ Ls, InB L)) (hs0 : 0 ≤ start) (hs1 : start ≤ 999999999) (hw0 : 0 ≤ slop) (hw1 : slop ≤ 5) :
    ∀ (m k : Nat) (last : Int), Ls.length - k = m → k ≤ Ls.length → 0 ≤ last → last ≤ 999999999 →
    Calls Try.prog 63 #[.slice A Ls.length c, .int .i64 k, .int .i64 last, .int .i64 start, .int .i64 slop] w fun e w' => e = .returned (.bool (fr (Ls.drop k) last (start + Ls.length - 1 + slop))) ∧ w = w' := by
  intro m
  induction m with
  | zero =>
    intro k last hm hk h0 h1
    obtain rfl : k = Ls.length := by omega
    have HX : Hid (fr (Ls.drop Ls.length) last (start + Ls.length - 1 + slop) = decide (last ≤ start + Ls.length - 1 + slop)) := by show _ = _; rw [List.drop_length]; rfl
    rw [HX.out]
    clear HX
    go_enter Try.func63, Try.ntmps63
    go_wp2
    go_ret
    exact ⟨ret_bool (by rw [decide_eq_decide]; omega), rfl⟩
  | succ m ih =>
    intro k last hm hk h0 h1
    have hlt : k < Ls.length := by omega
    obtain ⟨b, off, B, d, rfl, hb, hc, hs⟩ := h k hlt
    have hki : (k : Int) < (Ls.length : Int) := by omega
    have hke : ((k : Int) == (Ls.length : Int)) = false := by simp; omega
    have hLk : Ls[k].length ≤ 1048576 := by have := total_mem (List.getElem_mem hlt); omega
    have hin := hIN.out Ls[k] (List.getElem_mem _)
    have hfr := fr_drop hlt last (start + Ls.length - 1 + slop)
    generalize Ls[k] = L at hc hs hLk hin hfr
    have HIN := Lib.hid hin
    have IH := Lib.hid (fun last => ih (k + 1) last (by omega) (by omega))
    obtain ⟨F, hF⟩ : ∃ F, F = fun x => decide (last < x) && fr (Ls.drop (k + 1)) x (start + Ls.length - 1 + slop) := ⟨_, rfl⟩
    rw [← hF] at hfr
    have HF := Lib.hid hF
    rw [hfr]
    clear hin hfr hF ih h hIN
    go_enter Try.func63, Try.ntmps63
    go_wp2
    go_loop [11] (fun iv => ∃ i : Nat, i ≤ L.length ∧ iv = .int .i64 i ∧ Hid (L.any F = (L.drop i).any F)) (fun iv => L.length - (intOf iv).toNat)
    case atStart => exact ⟨0, Nat.zero_le _, rfl, rfl⟩
    case round =>
      obtain ⟨i, hi, rfl, hm2⟩ := hrel
      by_cases hli : i < L.length
      · obtain ⟨b2, off2, rfl, hb2, x0⟩ := hs.1.at1 hli
        have hi0 : (i : Int) < (L.length : Int) := by omega
        have hd := any_drop hli F
        have hp := HIN.out L[i] (List.getElem_mem _)
        generalize L[i] = p at x0 hd hp
        obtain ⟨hp0, hp1⟩ := hp
        by_cases hlp : last < p
        · cases hfp : fr (Ls.drop (k + 1)) p (start + Ls.length - 1 + slop) with
          | true =>
            have HD : Hid (L.any F = true) := by show _ = _; rw [hm2.out, hd, HF.out]; simp [hlp, hfp]
            have CA := Lib.hid (IH.out p hp0 hp1)
            clear hd hm2 HF IH
            go_wp2_with fail
            refine CA.out.mono ?_
            rintro e w' ⟨rfl, rfl⟩
            rw [hfp]
            go_wp2
            go_ret
            exact ⟨ret_bool HD.out.symm, rfl⟩
          | false =>
            have HD : Hid (L.any F = (L.drop (i + 1)).any F) := by show _ = _; rw [hm2.out, hd, HF.out]; simp [hfp]
            have CA := Lib.hid (IH.out p hp0 hp1)
            clear hd hm2 HF IH
            go_wp2_with fail
            refine CA.out.mono ?_
            rintro e w' ⟨rfl, rfl⟩
            rw [hfp]
            go_wp2
            go_round
            case rel => exact ⟨i + 1, by omega, by go_num, HD⟩
            case measure => simp [intOf]; omega
        · have HD : Hid (L.any F = (L.drop (i + 1)).any F) := by show _ = _; rw [hm2.out, hd, HF.out]; simp [hlp]
          clear hd hm2 HF IH
          go_wp2
          go_round
          case rel => exact ⟨i + 1, by omega, by go_num, HD⟩
          case measure => simp [intOf]; omega
      · have HD : Hid (L.any F = false) := by show _ = _; rw [hm2.out, List.drop_of_length_le (by omega)]; rfl
        clear hm2
        go_wp2
        go_ret
        exact ⟨ret_bool HD.out.symm, rfl⟩
def isS (Ls : List (List Int)) (slop p : Int) : Bool := fr (Ls.drop 1) p (p + Ls.length - 1 + slop)
def sPhrI (Ls : List (List Int)) (slop : Int) : List Int := if placesB Ls && wi slop 0 5 then (Ls.getD 0 []).filter (isS Ls slop) else []
theorem sPhrI_not {Ls : List (List Int)} (slop : Int) (h : allUp Ls = false) : sPhrI Ls slop = [] := by
  unfold sPhrI placesB listsB; rw [h]; simp
theorem placesB_wi {Ls : List (List Int)} (h : allUp Ls = true) : placesB Ls = wi Ls.length 1 6 := by
  unfold placesB listsB wi; rw [h, Bool.true_and]
  rw [decide_eq_decide.2 (by omega : 0 < Ls.length ↔ (1 : Int) ≤ (Ls.length : Int)), decide_eq_decide.2 (by omega : Ls.length ≤ 6 ↔ (Ls.length : Int) ≤ 6)]
set_option maxHeartbeats 400000 in
theorem specPhraseOf_any (A : Option Addr) (c : Nat) (Ls : List (List Int)) (slop : Int) (w : World) (h : RdSS w A Ls) (hn : total Ls ≤ 1048576) (hcap : Ls.length ≤ c) (hc63 : c ≤ 9223372036854775807) :
    Calls Try.prog 30 #[.slice A Ls.length c, .int .i64 slop] w (Makes w (sPhrI Ls slop)) := by
  have hl : Ls.length ≤ 1048576 := by unfold total at hn; omega
  have own0 := ownI_made w w.heap.size (Nat.le_refl _)
  go_enter Try.func30, Try.ntmps30
  go_wp2_with fail
  obtain ⟨W0, hW0⟩ : ∃ W0, W0 = w.alloc (.cells #[] 3) := ⟨_, rfl⟩
  have hB0 : Below w.heap.size w W0 := by rw [hW0]; exact (by (repeat' (first | exact Below.refl _ _ | apply Below.alloc | apply Below.setCell | apply Below.drew | apply below_draws)) <;> (first | omega | (simp <;> omega)))
  rw [← hW0] at own0 ⊢
  clear hW0
  go_loopw [6] (fun i wr => ∃ k : Nat, k ≤ Ls.length ∧ i = .int .i64 k ∧ Hid (allUp Ls = allUp (Ls.drop k)) ∧ ∃ q, wr = W0.drewN q) (fun i _ => Ls.length - (intOf i).toNat)
  case atStart => exact ⟨0, Nat.zero_le _, rfl, rfl, 0, rfl⟩
  case round =>
    obtain ⟨k, hk, rfl, hu, q, rfl⟩ := hrel
    by_cases hlt : k < Ls.length
    · obtain ⟨b, off, B, d, rfl, hb, hc, hs⟩ := (h.below hB0) k hlt
      have hLk : Ls[k].length ≤ 1048576 := by have := total_mem (List.getElem_mem hlt); omega
      have hd := allUp_drop hlt
      generalize Ls[k] = L at hc hs hLk hd
      cases hul : upB L with
      | false =>
        have HD : Hid (sPhrI Ls slop = []) := by show _ = _; rw [sPhrI_not slop (by rw [hu.out, hd, hul]; rfl)]
        clear hd hu
        go_wp2_with fail
        refine (l3Up_any B d L _ (hs.1.drawn _) (by omega)).mono ?_
        rintro e w2 ⟨rfl, q2, rfl⟩
        rw [hul]
        go_wp2
        go_ret
        exact ⟨none, 0, ⟨by rw [HD.out]; rfl, by rw [HD.out]; exact ownI_nil _ _⟩, hB0.trans ((below_of_drewN).mono hB0.size)⟩
      | true =>
        have HD : Hid (allUp Ls = allUp (Ls.drop (k + 1))) := by show _ = _; rw [hu.out, hd, hul, Bool.true_and]
        clear hd hu
        go_wp2_with fail
        refine (l3Up_any B d L _ (hs.1.drawn _) (by omega)).mono ?_
        rintro e w2 ⟨rfl, q2, rfl⟩
        rw [hul]
        go_wp2
        go_roundw
        case rel => exact ⟨k + 1, by omega, by go_num, HD, _, (by first | rfl | exact World.drewN_drewN _ _ _)⟩
        case measure => simp [intOf]; omega
    · have hU : allUp Ls = true := by rw [hu.out, List.drop_of_length_le (by omega)]; rfl
      have hpl := placesB_wi hU
      obtain ⟨W1, hW1⟩ : ∃ W1, W1 = W0.drewN q := ⟨_, rfl⟩
      have hB1 : Below w.heap.size w W1 := by rw [hW1]; exact hB0.trans ((below_of_drewN).mono hB0.size)
      have own1 : OwnI W1 w.heap.size (.slice (some ⟨w.heap.size, 0, none⟩) 0 0) [] := by rw [hW1]; exact own_drawn own0
      rw [← hW1]
      clear hW1 hu own0 hB0
      cases hp : wi Ls.length 1 6 with
      | false =>
        have HX : Hid (sPhrI Ls slop = []) := by show _ = _; unfold sPhrI; rw [hpl, hp]; rfl
        clear hpl hU
        go_wp2_with (go_at_call 62; refine (l1In_any _ _ _ _).mono ?_; rintro e w' ⟨rfl, rfl⟩; rw [hp])
        go_ret
        exact ⟨none, 0, ⟨by rw [HX.out]; rfl, by rw [HX.out]; exact ownI_nil _ _⟩, hB1⟩
      | true =>
        cases hw : wi slop 0 5 with
        | false =>
          have HX : Hid (sPhrI Ls slop = []) := by show _ = _; unfold sPhrI; rw [hw, Bool.and_false]; rfl
          clear hpl hU
          go_wp2_with fail
          refine (l1In_any _ _ _ _).mono ?_
          rintro e w' ⟨rfl, rfl⟩
          rw [hp]
          go_wp2_with fail
          refine (l1In_any _ _ _ _).mono ?_
          rintro e w' ⟨rfl, rfl⟩
          rw [hw]
          go_wp2
          go_ret
          exact ⟨none, 0, ⟨by rw [HX.out]; rfl, by rw [HX.out]; exact ownI_nil _ _⟩, hB1⟩
        | true =>
          have hl16 := wi_true.1 hp
          have hsl := wi_true.1 hw
          have HX : Hid (sPhrI Ls slop = (Ls.getD 0 []).filter (isS Ls slop)) := by show _ = _; unfold sPhrI; rw [hpl, hp, hw]; rfl
          have hIN : Hid (∀ L ∈ Ls, InB L) := fun L hL => up_b (by unfold allUp at hU; rw [List.all_eq_true] at hU; exact hU L hL)
          have hL0 : 0 < Ls.length := by omega
          obtain ⟨b, off, B0, d0, rfl, hb, y0, hs0⟩ := h 0 hL0
          rw [Nat.add_zero] at y0
          have h00 : Ls.getD 0 [] = Ls[0] := by rw [List.getD_eq_getElem?_getD, List.getElem?_eq_getElem hL0]; rfl
          rw [h00] at HX
          have hPb := hIN.out Ls[0] (List.getElem_mem _)
          have hLk0 : Ls[0].length ≤ 1048576 := by have := total_mem (List.getElem_mem hL0); omega
          generalize Ls[0] = P at y0 hs0 HX hPb hLk0
          have HPb := Lib.hid hPb
          have Y0 := Lib.hid y0
          have cF : ∀ (p : Int) (W : World), RdSS W (some ⟨b, off, none⟩) Ls → 0 ≤ p → p ≤ 999999999 → Calls Try.prog 63 #[.slice (some ⟨b, off, none⟩) Ls.length c, .int .i64 1, .int .i64 p, .int .i64 p, .int .i64 slop] W fun e w' => e = .returned (.bool (isS Ls slop p)) ∧ W = w' :=
            fun p W h3 h0 h1 => l9From_any (some ⟨b, off, none⟩) c Ls p slop W h3 hn (by omega) hIN h0 h1 hsl.1 hsl.2 (Ls.length - 1) 1 p rfl (by omega) h0 h1
          have CF := Lib.hid cF
          clear hPb h00 hpl hU cF y0
          go_wp2_with fail
          refine (l1In_any _ _ _ _).mono ?_
          rintro e w' ⟨rfl, rfl⟩
          rw [hp]
          go_wp2_with fail
          refine (l1In_any _ _ _ _).mono ?_
          rintro e w' ⟨rfl, rfl⟩
          rw [hw]
          go_wp2_with fail
          go_loopw [5, 7] (fun v iv wr => ∃ i : Nat, i ≤ P.length ∧ iv = .int .i64 i ∧ ∃ X, Hid (X = (P.take i).filter (isS Ls slop)) ∧ ∃ g2 c2, v = .slice (some ⟨g2, 0, none⟩) X.length c2 ∧ OwnI wr w.heap.size (.slice (some ⟨g2, 0, none⟩) X.length c2) X ∧ Below w.heap.size w wr) (fun _ iv _ => P.length - (intOf iv).toNat)
          case atStart => exact ⟨0, Nat.zero_le _, rfl, [], rfl, _, _, rfl, own1, hB1⟩
          case round =>
            obtain ⟨i, hi, rfl, X, hX, g2, c2, rfl, own, hB⟩ := hrel
            have hXl : X.length ≤ P.length := by rw [hX.out]; exact filter_len _ _ _
            have hBs := hB.size
            have x0 : wr.cell? ⟨b, off, none⟩ = some (.slice B0 P.length d0) := (hB.cell (p := ⟨b, off, none⟩) hb).trans Y0.out
            have hS2 := h.below hB
            by_cases hlt : i < P.length
            · obtain ⟨b2, off2, rfl, hb2, x1⟩ := (hs0.below hB).1.at1 hlt
              have hpb := HPb.out P[i] (List.getElem_mem _)
              have hi0 : (i : Int) < (P.length : Int) := by omega
              have hyes := filter_yes (p := isS Ls slop) hlt
              have hno := filter_no (p := isS Ls slop) hlt
              generalize P[i] = p at x1 hyes hno hpb
              have HYES := Lib.hid hyes
              have HNO := Lib.hid hno
              obtain ⟨hp0, hp1⟩ := hpb
              clear hyes hno
              cases hif : isS Ls slop p with
              | true =>
                have hK : Hid (X ++ [p] = (P.take (i + 1)).filter (isS Ls slop)) := by show _ = _; rw [HYES.out hif, hX.out]
                clear hX HYES HNO
                go_wp2_with fail
                go_quiet ((go_at_call 63; first | exact qsame (CF.out _ _ (hS2.drawn _) hp0 hp1) | exact qsame2 (CF.out _ _ (hS2.drawn _) hp0 hp1)))
                rw [hif]
                go_wp2_with (at_builtin; refine append_at rfl _ _ rfl w.heap.size _ _ _ X rfl rfl ((own_drawn own).alloc _) _ _ _ [p] rfl rfl (Src.lit _ p) (by simp; omega) (by simp; omega) ?_)
                intro N hN g4 c4 w4 own4 hg4 hat4 hb4
                have hB4 : Below w.heap.size w w4 := hB.trans (Below.trans (by (repeat' (first | exact Below.refl _ _ | apply Below.alloc | apply Below.setCell | apply Below.drew | apply below_draws)) <;> (first | omega | (simp <;> omega))) hb4)
                have HN : N = (P.take (i + 1)).filter (isS Ls slop) := by rw [← hK.out]; exact hN.out
                clear hN hK hat4 hg4 hb4 hB own
                go_wp2
                go_roundw
                case rel => exact ⟨i + 1, by omega, by go_num, N, HN, g4, c4, rfl, own4, hB4⟩
                case measure => simp [intOf]; omega
              | false =>
                have hK : Hid (X = (P.take (i + 1)).filter (isS Ls slop)) := by show _ = _; rw [HNO.out hif, hX.out]
                clear hX HYES HNO
                go_wp2_with fail
                go_quiet ((go_at_call 63; first | exact qsame (CF.out _ _ (hS2.drawn _) hp0 hp1) | exact qsame2 (CF.out _ _ (hS2.drawn _) hp0 hp1)))
                rw [hif]
                go_wp2
                go_roundw
                case rel => exact ⟨i + 1, by omega, by go_num, X, hK.out, g2, c2, rfl, own_drawn own, hB.trans (by (repeat' (first | exact Below.refl _ _ | apply Below.alloc | apply Below.setCell | apply Below.drew | apply below_draws)) <;> (first | omega | (simp <;> omega)))⟩
                case measure => simp [intOf]; omega
            · have e : X = sPhrI Ls slop := by rw [HX.out, hX.out, List.take_of_length_le (by omega)]
              subst e
              clear HX hX
              go_wp2
              go_ret
              exact ⟨_, _, ⟨rfl, own⟩, hB⟩
end Go.Proofs.Ytoifknepebplnaa
