/-
  Contracts of placesOk, next, impl.PhraseOf.
-/
import Derived.Test.YtoifknepebplnaaSomeLaw
namespace Go.Proofs.Ytoifknepebplnaa
open Go.RowKit
set_option linter.unusedVariables false

/-- the first of L that is no less than n. -/
def nxN (L : List Int) (n : Int) : Int := if L.countP (fun y => decide (y < n)) < L.length then L.getD (L.countP fun y => decide (y < n)) 0 else 0
def nxB (L : List Int) (n : Int) : Bool := decide (L.countP (fun y => decide (y < n)) < L.length)
def stepP (s : Int × Bool) (L : List Int) : Int × Bool := (nxN L (s.1 + 1), s.2 && nxB L (s.1 + 1))
def lastP (Ls : List (List Int)) (p : Int) : Int × Bool := Ls.foldl stepP (p, true)
def isP (Ls : List (List Int)) (slop p : Int) : Bool := (lastP Ls.tail p).2 && decide ((lastP Ls.tail p).1 ≤ p + Ls.length - 1 + slop)
def placesB (Ls : List (List Int)) : Bool := decide (0 < Ls.length) && listsB Ls
def phrI (Ls : List (List Int)) (slop : Int) : List Int := if placesB Ls && wi slop 0 5 then (Ls.getD 0 []).filter (isP Ls slop) else []
def InB (L : List Int) : Prop := ∀ x ∈ L, 0 ≤ x ∧ x ≤ 999999999
theorem nxN_b {L : List Int} (h : InB L) (n : Int) : 0 ≤ nxN L n ∧ nxN L n ≤ 999999999 := by
  unfold nxN
  split
  · rename_i hk
    rw [getD_get hk]
    exact h _ (List.getElem_mem _)
  · omega
theorem up_b {L : List Int} (h : upB L = true) : InB L := (upB_iff.1 h).1
theorem up_sorted {L : List Int} (h : upB L = true) : L.Pairwise (· ≤ ·) := (upB_iff.1 h).2.1.imp fun h => by omega

theorem placesOk_any (A : Option Addr) (c : Nat) (Ls : List (List Int)) (w : World) (h : RdSS w A Ls) (hn : total Ls ≤ 1048576) :
    Calls Try.prog 64 #[.slice A Ls.length c] w fun e w' => e = .returned (.bool (placesB Ls)) ∧ ∃ q, w' = w.drewN q := by
  by_cases h0 : 0 < Ls.length
  · have HX : Hid (placesB Ls = listsB Ls) := by show _ = _; unfold placesB; rw [decide_eq_true h0, Bool.true_and]
    go_enter Try.func64, Try.ntmps64
    go_wp2_with fail
    refine (listsOk_any A c Ls _ h hn).mono ?_
    rintro e w1 ⟨rfl, q, rfl⟩
    rw [← HX.out]
    go_wp2
    go_ret
    exact ⟨rfl, q, rfl⟩
  · have HX : Hid (placesB Ls = false) := by show _ = _; unfold placesB; rw [decide_eq_false h0, Bool.false_and]
    go_enter Try.func64, Try.ntmps64
    go_wp2
    go_ret
    exact ⟨by rw [HX.out]; rfl, 0, rfl⟩
theorem next_any (A : Option Addr) (c : Nat) (L : List Int) (n : Int) (w : World) (h : RdI w A L) (hn : L.length ≤ 16777216) (hs : Hid (L.Pairwise (· ≤ ·))) :
    Calls Try.prog 65 #[.slice A L.length c, .int .i64 n] w fun e w' => e = .returned (.tuple #[.int .i64 (nxN L n), .bool (nxB L n)]) ∧ ∃ q, w' = w.drewN q := by
  obtain ⟨k, hk⟩ : ∃ k, k = L.countP fun y => decide (y < n) := ⟨_, rfl⟩
  have hkl : k ≤ L.length := by rw [hk]; exact List.countP_le_length
  have cB := search_own A c L.length L n w rfl h hn hs.out
  rw [← hk] at cB
  have CB := Lib.hid cB
  by_cases hlt : k < L.length
  · have HN : Hid (nxN L n = L[k] ∧ nxB L n = true) := by
      refine ⟨?_, ?_⟩
      · unfold nxN; rw [← hk, if_pos hlt, getD_get hlt]
      · unfold nxB; rw [← hk, decide_eq_true hlt]
    obtain ⟨b, off, rfl, hb, x0⟩ := h.at1 hlt
    have hi0 : ((k : Int) == (L.length : Int)) = false := by simp; omega
    have hi1 : (k : Int) < (L.length : Int) := by omega
    rw [HN.out.1, HN.out.2]
    generalize L[k] = p at x0
    clear cB hk HN
    go_enter Try.func65, Try.ntmps65
    go_wp2_with fail
    refine CB.out.mono ?_
    rintro e w1 ⟨rfl, q, rfl⟩
    go_wp2
    go_ret2
    exact ⟨rfl, q, rfl⟩
  · obtain rfl : k = L.length := by omega
    have HN : Hid (nxN L n = 0 ∧ nxB L n = false) := by
      refine ⟨?_, ?_⟩
      · unfold nxN; rw [← hk, if_neg hlt]
      · unfold nxB; rw [← hk, decide_eq_false hlt]
    rw [HN.out.1, HN.out.2]
    clear cB hk HN
    go_enter Try.func65, Try.ntmps65
    go_wp2_with fail
    refine CB.out.mono ?_
    rintro e w1 ⟨rfl, q, rfl⟩
    go_wp2
    go_ret2
    exact ⟨rfl, q, rfl⟩
theorem lastP_take {Ls : List (List Int)} {k : Nat} (hk : k < Ls.length) (p : Int) : lastP (Ls.take (k + 1)) p = stepP (lastP (Ls.take k) p) Ls[k] := by
  unfold lastP; rw [← List.take_append_getElem hk, List.foldl_append]; rfl
theorem lists_up {Ls : List (List Int)} (h : listsB Ls = true) : ∀ L ∈ Ls, upB L = true := by
  unfold listsB allUp at h
  rw [Bool.and_eq_true, List.all_eq_true] at h
  exact h.1
theorem tail_get {Ls : List (List Int)} {k : Nat} (hk : k < Ls.tail.length) : Ls.tail[k] = Ls[k + 1]'(by rw [List.length_tail] at hk; omega) := by simp
theorem phraseOf_any (A : Option Addr) (c : Nat) (Ls : List (List Int)) (slop : Int) (w : World) (h : RdSS w A Ls) (hn : total Ls ≤ 1048576) (hcap : Ls.length ≤ c) (hc63 : c ≤ 9223372036854775807) :
    Calls Try.prog 32 #[.slice A Ls.length c, .int .i64 slop] w (Makes w (phrI Ls slop)) := by
  have hl : Ls.length ≤ 1048576 := by unfold total at hn; omega
  have own0 := ownI_made w w.heap.size (Nat.le_refl _)
  cases hu : placesB Ls with
  | false =>
    have HX : Hid (phrI Ls slop = []) := by show _ = _; unfold phrI; rw [hu]; rfl
    go_enter Try.func32, Try.ntmps32
    go_wp2_with fail
    refine (placesOk_any A c Ls _ (h.below (by (repeat' (first | exact Below.refl _ _ | apply Below.alloc | apply Below.setCell | apply Below.drew | apply below_draws)) <;> (first | omega | (simp <;> omega)))) hn).mono ?_
    rintro e w1 ⟨rfl, q, rfl⟩
    rw [hu]
    go_wp2
    go_ret
    exact ⟨_, _, ⟨by rw [HX.out]; rfl, by rw [HX.out]; exact own_drawn own0⟩, by (repeat' (first | exact Below.refl _ _ | apply Below.alloc | apply Below.setCell | apply Below.drew | apply below_draws)) <;> (first | omega | (simp <;> omega))⟩
  | true =>
    cases hw : wi slop 0 5 with
    | false =>
      have HX : Hid (phrI Ls slop = []) := by show _ = _; unfold phrI; rw [hw, Bool.and_false]; rfl
      go_enter Try.func32, Try.ntmps32
      go_wp2_with fail
      refine (placesOk_any A c Ls _ (h.below (by (repeat' (first | exact Below.refl _ _ | apply Below.alloc | apply Below.setCell | apply Below.drew | apply below_draws)) <;> (first | omega | (simp <;> omega)))) hn).mono ?_
      rintro e w1 ⟨rfl, q, rfl⟩
      rw [hu]
      go_wp2_with (go_at_call 60; refine (within_any _ _ _ _).mono ?_; rintro e w' ⟨rfl, rfl⟩)
      go_ret
      exact ⟨_, _, ⟨by rw [HX.out]; rfl, by rw [HX.out]; exact own_drawn own0⟩, by (repeat' (first | exact Below.refl _ _ | apply Below.alloc | apply Below.setCell | apply Below.drew | apply below_draws)) <;> (first | omega | (simp <;> omega))⟩
    | true =>
      have hL0 : 0 < Ls.length ∧ listsB Ls = true := by unfold placesB at hu; rw [Bool.and_eq_true, decide_eq_true_eq] at hu; exact hu
      have hsl := wi_true.1 hw
      have hl6 : Ls.length ≤ 6 := by have := hL0.2; unfold listsB at this; rw [Bool.and_eq_true, decide_eq_true_eq] at this; exact this.2
      have hUP : Hid (∀ L ∈ Ls, upB L = true) := lists_up hL0.2
      have HX : Hid (phrI Ls slop = (Ls.getD 0 []).filter (isP Ls slop)) := by show _ = _; unfold phrI; rw [hu, hw]; rfl
      obtain ⟨hL00, _⟩ := hL0
      obtain ⟨b, off, B0, d0, rfl, hb, x0, hs0⟩ := h 0 hL00
      rw [Nat.add_zero] at x0
      have h00 : Ls.getD 0 [] = Ls[0] := by rw [List.getD_eq_getElem?_getD, List.getElem?_eq_getElem hL00]; rfl
      rw [h00] at HX
      have hU0 := hUP.out Ls[0] (List.getElem_mem _)
      have hLk0 : Ls[0].length ≤ 1048576 := by have := total_mem (List.getElem_mem hL00); omega
      generalize Ls[0] = P at x0 hs0 HX hU0 hLk0
      have hPb := up_b hU0
      have HPb := Lib.hid hPb
      clear hPb h00 hU0
      go_enter Try.func32, Try.ntmps32
      go_wp2_with fail
      refine (placesOk_any _ c Ls _ (h.below (by (repeat' (first | exact Below.refl _ _ | apply Below.alloc | apply Below.setCell | apply Below.drew | apply below_draws)) <;> (first | omega | (simp <;> omega)))) hn).mono ?_
      rintro e w1 ⟨rfl, q, rfl⟩
      rw [hu]
      go_wp2_with (go_at_call 60; refine (within_any _ _ _ _).mono ?_; rintro e w' ⟨rfl, rfl⟩)
      obtain ⟨W1, hW1⟩ : ∃ W1, W1 = (w.alloc (.cells #[] 3)).drewN q := ⟨_, rfl⟩
      have hB1 : Below w.heap.size w W1 := by rw [hW1]; exact (by (repeat' (first | exact Below.refl _ _ | apply Below.alloc | apply Below.setCell | apply Below.drew | apply below_draws)) <;> (first | omega | (simp <;> omega)))
      have own1 : OwnI W1 w.heap.size (.slice (some ⟨w.heap.size, 0, none⟩) 0 0) [] := by rw [hW1]; exact own_drawn own0
      rw [← hW1]
      clear hW1 own0 x0 hb
      by_cases hc1 : c = 1
      · subst hc1
        have hL1 : Ls.length ≤ 1 := hcap
        have hL2 : ((Ls.length - 1 : Nat) : Int) = 0 := by omega
        clear hcap
        go_loopw [5, 7, 8, 9, 11, 12, 13, 28] (fun v _ _ _ _ _ _ iv wr => ∃ i : Nat, i ≤ P.length ∧ iv = .int .i64 i ∧ ∃ X, Hid (X = (P.take i).filter (isP Ls slop)) ∧ ∃ g2 c2, v = .slice (some ⟨g2, 0, none⟩) X.length c2 ∧ OwnI wr w.heap.size (.slice (some ⟨g2, 0, none⟩) X.length c2) X ∧ Below w.heap.size w wr) (fun _ _ _ _ _ _ _ iv _ => P.length - (intOf iv).toNat)
        case atStart => exact ⟨0, Nat.zero_le _, rfl, [], rfl, _, _, rfl, own1, hB1⟩
        case round =>
          obtain ⟨i, hi, rfl, X, hX, g2, c2, rfl, own, hB⟩ := hrel
          have hXl : X.length ≤ P.length := by rw [hX.out]; exact filter_len _ _ _
          have hBs := hB.size
          by_cases hlt : i < P.length
          · obtain ⟨b2, off2, rfl, hb2, x0⟩ := (hs0.below hB).1.at1 hlt
            have hpb := HPb.out P[i] (List.getElem_mem _)
            have hyes := filter_yes (p := isP Ls slop) hlt
            have hno := filter_no (p := isP Ls slop) hlt
            generalize P[i] = p at x0 hyes hno hpb
            have HYES := Lib.hid hyes
            have HNO := Lib.hid hno
            obtain ⟨hp0, hp1⟩ := hpb
            clear hyes hno
            go_wp2_with fail
            obtain ⟨W2, rfl⟩ : ∃ W2 : World, W2 = wr := ⟨_, rfl⟩
            go_loopw [8, 9, 11, 12, 13, 36] (fun lv ov _ _ _ jv wr => ∃ j : Nat, j ≤ Ls.length - 1 ∧ jv = .int .i64 j ∧ ∃ (last : Int) (ok : Bool), lv = .int .i64 last ∧ ov = .bool ok ∧ Hid (lastP (Ls.tail.take j) p = (last, ok)) ∧ 0 ≤ last ∧ last ≤ 999999999 ∧ ∃ q, wr = W2.drewN q) (fun _ _ _ _ _ jv _ => Ls.length - 1 - (intOf jv).toNat)
            case atStart => exact ⟨0, Nat.zero_le _, rfl, p, true, rfl, rfl, rfl, hp0, hp1, 0, rfl⟩
            case round =>
              obtain ⟨j, hj, rfl, last, ok, rfl, rfl, hst, hla0, hla1, q2, rfl⟩ := hrel
              by_cases hlj : j < Ls.length - 1
              · exfalso; omega
              · have hst2 : Hid (isP Ls slop p = (ok && decide (last ≤ p + Ls.length - 1 + slop))) := by
                  show _ = _
                  have := hst.out
                  rw [List.take_of_length_le (by rw [List.length_tail]; omega)] at this
                  unfold isP; rw [this]
                clear hst
                have hB2 : Below w.heap.size w (W2.drewN q2) := hB.trans ((below_of_drewN).mono hBs)
                have own2 := own_drawn (q := q2) own
                by_cases hyes : ok = true ∧ last ≤ p + Ls.length - 1 + slop
                · obtain ⟨rfl, hle⟩ := hyes
                  have hK : Hid (X ++ [p] = (P.take (i + 1)).filter (isP Ls slop)) := by
                    show _ = _
                    rw [HYES.out (by rw [hst2.out, decide_eq_true hle]; rfl), hX.out]
                  clear hX hst2 HYES HNO
                  go_wp2_with (at_builtin; refine append_at rfl _ _ rfl w.heap.size _ _ _ X rfl rfl (own2.alloc _) _ _ _ [p] rfl rfl (Src.lit _ p) (by simp; omega) (by simp; omega) ?_)
                  intro N hN g4 c4 w4 own4 hg4 hat4 hb4
                  have hB4 : Below w.heap.size w w4 := hB2.trans (Below.trans (by (repeat' (first | exact Below.refl _ _ | apply Below.alloc | apply Below.setCell | apply Below.drew | apply below_draws)) <;> (first | omega | (simp <;> omega))) hb4)
                  have HN : N = (P.take (i + 1)).filter (isP Ls slop) := by rw [← hK.out]; exact hN.out
                  clear hN hK hat4 hg4 hb4 hB hB2 own own2
                  go_wp2
                  go_roundw
                  case rel => exact ⟨i + 1, by omega, by go_num, N, HN, g4, c4, rfl, own4, hB4⟩
                  case measure => simp [intOf]; omega
                · have hK : Hid (X = (P.take (i + 1)).filter (isP Ls slop)) := by
                    show _ = _
                    rw [HNO.out (by rw [hst2.out]; cases ok; rfl; rw [decide_eq_false (fun e => hyes ⟨rfl, e⟩)]; rfl), hX.out]
                  clear hX hst2 HYES HNO
                  cases ok with
                  | true =>
                    have hnle : ¬ last ≤ p + Ls.length - 1 + slop := fun e => hyes ⟨rfl, e⟩
                    clear hyes
                    go_wp2
                    go_roundw
                    case rel => exact ⟨i + 1, by omega, by go_num, X, hK.out, g2, c2, rfl, own2, hB2⟩
                    case measure => simp [intOf]; omega
                  | false =>
                    clear hyes
                    go_wp2
                    go_roundw
                    case rel => exact ⟨i + 1, by omega, by go_num, X, hK.out, g2, c2, rfl, own2, hB2⟩
                    case measure => simp [intOf]; omega
          · have e : X = phrI Ls slop := by rw [HX.out, hX.out, List.take_of_length_le (by omega)]
            subst e
            clear HX hX
            go_wp2
            go_ret
            exact ⟨_, _, ⟨rfl, own⟩, hB⟩
      · have tok := trivial
        go_loopw [5, 7, 8, 9, 11, 12, 13, 28] (fun v _ _ _ _ _ _ iv wr => ∃ i : Nat, i ≤ P.length ∧ iv = .int .i64 i ∧ ∃ X, Hid (X = (P.take i).filter (isP Ls slop)) ∧ ∃ g2 c2, v = .slice (some ⟨g2, 0, none⟩) X.length c2 ∧ OwnI wr w.heap.size (.slice (some ⟨g2, 0, none⟩) X.length c2) X ∧ Below w.heap.size w wr) (fun _ _ _ _ _ _ _ iv _ => P.length - (intOf iv).toNat)
        case atStart => exact ⟨0, Nat.zero_le _, rfl, [], rfl, _, _, rfl, own1, hB1⟩
        case round =>
          obtain ⟨i, hi, rfl, X, hX, g2, c2, rfl, own, hB⟩ := hrel
          have hXl : X.length ≤ P.length := by rw [hX.out]; exact filter_len _ _ _
          have hBs := hB.size
          by_cases hlt : i < P.length
          · obtain ⟨b2, off2, rfl, hb2, x0⟩ := (hs0.below hB).1.at1 hlt
            have hpb := HPb.out P[i] (List.getElem_mem _)
            have hyes := filter_yes (p := isP Ls slop) hlt
            have hno := filter_no (p := isP Ls slop) hlt
            generalize P[i] = p at x0 hyes hno hpb
            have HYES := Lib.hid hyes
            have HNO := Lib.hid hno
            obtain ⟨hp0, hp1⟩ := hpb
            clear hyes hno
            go_wp2_with fail
            obtain ⟨W2, rfl⟩ : ∃ W2 : World, W2 = wr := ⟨_, rfl⟩
            go_loopw [8, 9, 11, 12, 13, 36] (fun lv ov _ _ _ jv wr => ∃ j : Nat, j ≤ Ls.length - 1 ∧ jv = .int .i64 j ∧ ∃ (last : Int) (ok : Bool), lv = .int .i64 last ∧ ov = .bool ok ∧ Hid (lastP (Ls.tail.take j) p = (last, ok)) ∧ 0 ≤ last ∧ last ≤ 999999999 ∧ ∃ q, wr = W2.drewN q) (fun _ _ _ _ _ jv _ => Ls.length - 1 - (intOf jv).toNat)
            case atStart => exact ⟨0, Nat.zero_le _, rfl, p, true, rfl, rfl, rfl, hp0, hp1, 0, rfl⟩
            case round =>
              obtain ⟨j, hj, rfl, last, ok, rfl, rfl, hst, hla0, hla1, q2, rfl⟩ := hrel
              by_cases hlj : j < Ls.length - 1
              · obtain ⟨bx, offx, B3, d3, e3, hb3, hc3, hs3⟩ := (h.below hB) (j + 1) (by omega)
                simp only [Option.some.injEq, Addr.mk.injEq, and_true] at e3
                obtain ⟨rfl, rfl⟩ := e3
                rw [show off + (j + 1) = off + 1 + j by omega] at hc3
                have hj0 : (j : Int) < ((Ls.length - 1 : Nat) : Int) := by omega
                have hT := lastP_take (Ls := Ls.tail) (k := j) (by rw [List.length_tail]; omega) p
                rw [tail_get, hst.out] at hT
                have hU3 := hUP.out Ls[j + 1] (List.getElem_mem _)
                have hLk3 : Ls[j + 1].length ≤ 1048576 := by have := total_mem (List.getElem_mem (show j + 1 < Ls.length by omega)); omega
                generalize Ls[j + 1] = L3 at hc3 hs3 hT hU3 hLk3
                have hso : Hid (L3.Pairwise (· ≤ ·)) := up_sorted hU3
                have hnb := nxN_b (up_b hU3) (last + 1)
                unfold stepP at hT
                have HT := Lib.hid hT
                clear hT hst hU3
                go_wp2_with fail
                refine (next_any B3 d3 L3 _ _ (hs3.1.drawn _) (by omega) hso).mono ?_
                rintro e w4 ⟨rfl, q4, rfl⟩
                obtain ⟨hnb0, hnb1⟩ := hnb
                cases ok with
                | true =>
                  go_wp2
                  go_roundw
                  case rel => exact ⟨j + 1, by omega, by go_num, _, _, rfl, rfl, (by show _ = _; rw [HT.out]; simp), hnb0, hnb1, _, (by first | rfl | exact World.drewN_drewN _ _ _)⟩
                  case measure => simp [intOf]; omega
                | false =>
                  go_wp2
                  go_roundw
                  case rel => exact ⟨j + 1, by omega, by go_num, _, _, rfl, rfl, (by show _ = _; rw [HT.out]; simp), hnb0, hnb1, _, (by first | rfl | exact World.drewN_drewN _ _ _)⟩
                  case measure => simp [intOf]; omega
              · have hst2 : Hid (isP Ls slop p = (ok && decide (last ≤ p + Ls.length - 1 + slop))) := by
                  show _ = _
                  have := hst.out
                  rw [List.take_of_length_le (by rw [List.length_tail]; omega)] at this
                  unfold isP; rw [this]
                clear hst
                have hB2 : Below w.heap.size w (W2.drewN q2) := hB.trans ((below_of_drewN).mono hBs)
                have own2 := own_drawn (q := q2) own
                by_cases hyes : ok = true ∧ last ≤ p + Ls.length - 1 + slop
                · obtain ⟨rfl, hle⟩ := hyes
                  have hK : Hid (X ++ [p] = (P.take (i + 1)).filter (isP Ls slop)) := by
                    show _ = _
                    rw [HYES.out (by rw [hst2.out, decide_eq_true hle]; rfl), hX.out]
                  clear hX hst2 HYES HNO
                  go_wp2_with (at_builtin; refine append_at rfl _ _ rfl w.heap.size _ _ _ X rfl rfl (own2.alloc _) _ _ _ [p] rfl rfl (Src.lit _ p) (by simp; omega) (by simp; omega) ?_)
                  intro N hN g4 c4 w4 own4 hg4 hat4 hb4
                  have hB4 : Below w.heap.size w w4 := hB2.trans (Below.trans (by (repeat' (first | exact Below.refl _ _ | apply Below.alloc | apply Below.setCell | apply Below.drew | apply below_draws)) <;> (first | omega | (simp <;> omega))) hb4)
                  have HN : N = (P.take (i + 1)).filter (isP Ls slop) := by rw [← hK.out]; exact hN.out
                  clear hN hK hat4 hg4 hb4 hB hB2 own own2
                  go_wp2
                  go_roundw
                  case rel => exact ⟨i + 1, by omega, by go_num, N, HN, g4, c4, rfl, own4, hB4⟩
                  case measure => simp [intOf]; omega
                · have hK : Hid (X = (P.take (i + 1)).filter (isP Ls slop)) := by
                    show _ = _
                    rw [HNO.out (by rw [hst2.out]; cases ok; rfl; rw [decide_eq_false (fun e => hyes ⟨rfl, e⟩)]; rfl), hX.out]
                  clear hX hst2 HYES HNO
                  cases ok with
                  | true =>
                    have hnle : ¬ last ≤ p + Ls.length - 1 + slop := fun e => hyes ⟨rfl, e⟩
                    clear hyes
                    go_wp2
                    go_roundw
                    case rel => exact ⟨i + 1, by omega, by go_num, X, hK.out, g2, c2, rfl, own2, hB2⟩
                    case measure => simp [intOf]; omega
                  | false =>
                    clear hyes
                    go_wp2
                    go_roundw
                    case rel => exact ⟨i + 1, by omega, by go_num, X, hK.out, g2, c2, rfl, own2, hB2⟩
                    case measure => simp [intOf]; omega
          · have e : X = phrI Ls slop := by rw [HX.out, hX.out, List.take_of_length_le (by omega)]
            subst e
            clear HX hX
            go_wp2
            go_ret
            exact ⟨_, _, ⟨rfl, own⟩, hB⟩
end Go.Proofs.Ytoifknepebplnaa
