/-
  Contracts of l15Ok, spec.KnotsOk.
-/
import Derived.Test.YtbmbejomodkabaaKnotsOk
namespace Go.Proofs.Ytbmbejomodkabaa
open Go.RowKit Go.Sort
set_option linter.unusedVariables false

set_option maxRecDepth 8000 in
set_option maxHeartbeats 8000000 in
theorem l15Ok_any (A : Option Addr) (c : Nat) (X : List Kn) (w : World) (h : Rds w 8 A X.length (X.flatMap encKn)) (hn : X.length ≤ 1048576) :
    Calls Try.prog 38 #[.slice A X.length c] w fun e w' => e = .returned (.bool (knotsOkL X)) ∧ Below w.heap.size w w' := by
  have hB0 : Below w.heap.size w (w.alloc (.cells #[] 29)) := (Below.refl _ _).alloc (Nat.le_refl _) _
  have own0 := ownE_made (enc := encPt) (F := 3) 29 w w.heap.size (Nat.le_refl _)
  obtain ⟨R, hR⟩ : ∃ R, R = knotsOkL X := ⟨_, rfl⟩
  have hRb : Hid (okB (ptsL X) = false → R = false) := fun h => by rw [hR, knotsOkL_bad h]
  have hRk : Hid (R = decide (knotsL (ptsL X) = X)) := hR
  have HLP : Hid ((ptsL X).length = X.length) := by show _ = _; unfold ptsL; rw [List.length_map]
  rw [← hR]
  clear hR
  go_enter Try.func38, Try.ntmps38
  go_wp2_with fail
  generalize (w.alloc (.cells #[] 29)) = w0 at hB0 own0 ⊢
  go_loopw [3, 4] (fun ov iv wr => ∃ i : Nat, i ≤ X.length ∧ iv = .int .i64 i ∧ ∃ (g c : Nat) (O : List Pt), ov = .slice (some ⟨g, 0, none⟩) O.length c ∧ Hid (O = ptsL (X.take i)) ∧ OwnE encPt 29 3 wr w.heap.size g c O ∧ Below w.heap.size w wr) (fun _ iv _ => X.length - (intOf iv).toNat)
  case atStart => exact ⟨0, Nat.zero_le _, rfl, _, _, [], rfl, rfl, own0, hB0⟩
  case round =>
    clear own0 hB0
    obtain ⟨i, hi, rfl, g, co, O, rfl, hO, own, hB⟩ := hrel
    have hBs := hB.size
    by_cases hlt : i < X.length
    · obtain ⟨b, off, rfl, hb, x0, x1, x2, x3, x4, x5, x6, x7⟩ := (h.below hB).atKn hlt
      have hi0 : (i : Int) < (X.length : Int) := by omega
      have hol : O.length ≤ i := by rw [hO.out]; unfold ptsL; rw [List.length_map, List.length_take]; omega
      have HO : Hid (ptsL (X.take (i + 1)) = O ++ [⟨X[i].i, X[i].x, X[i].y⟩]) := by
        show _ = _
        rw [hO.out]; unfold ptsL; rw [← List.take_append_getElem hlt, List.map_append]; rfl
      clear hO
      generalize X[i].i = p0 at x0 HO
      generalize X[i].x = p1 at x1 HO
      generalize X[i].y = p2 at x2 HO
      clear x3 x4 x5 x6 x7
      go_wp2_with (at_builtin; refine append_rec rowTPoint encPt_ok (by decide) rfl _ _ rfl w.heap.size _ _ O rfl (own.alloc _) _ _ _ [⟨p0, p1, p2⟩] rfl rfl ?_ (by simp; omega) (by omega) (by simp <;> omega) ?_; exact srcE_litAt encPt_ok #[.int .i64 p0, .int .i64 p1, .int .i64 p2] [⟨p0, p1, p2⟩] rfl (by rfl) (by first | rfl | (simp; done)))
      intro N hN g7 c7 w7 own7 hg7 hat7 hb7
      have hB7 : Below w.heap.size w w7 := hB.trans (Below.trans (by (repeat' (first | exact Below.refl _ _ | apply Below.alloc | apply Below.setCell | apply Below.drew | apply below_draws)) <;> (first | omega | (simp <;> omega))) hb7)
      have HN : Hid (N = ptsL (X.take (i + 1))) := by show _ = _; rw [HO.out]; exact hN.out
      clear hN hg7 hat7 hb7 own HO x0 x1 x2
      go_wp2
      go_roundw
      case rel => exact ⟨i + 1, by omega, by go_num, g7, c7, N, rfl, HN, own7, hB7⟩
      case measure => simp [intOf]; omega
    · obtain rfl : i = X.length := by omega
      have e : O = ptsL X := by rw [hO.out, List.take_length]
      clear hO
      subst e
      have s1 := own.src
      have hpn : (ptsL X).length ≤ 1048576 := by have := HLP.out; omega
      go_wp2_with fail
      refine (l15Points_any _ _ (ptsL X) _ s1.1 (by omega)).mono ?_
      rintro e w1 ⟨rfl, hb1⟩
      have hB1 := hB.trans (hb1.mono hBs)
      cases hok : okB (ptsL X) with
      | false =>
        obtain rfl : R = false := hRb.out hok
        go_wp2
        go_ret
        exact ⟨rfl, hB1⟩
      | true =>
        have eK := knotsL_ok hok
        have HKL : Hid ((knotsL (ptsL X)).length = X.length) := by show _ = _; rw [eK, knF_len _ _ _ (Nat.le_refl _), HLP.out]
        have HCK : Hid (∀ w, SrcE encPt 3 w (some ⟨g, 0, none⟩) co (ptsL X) → Calls Try.prog 35 #[.slice (some ⟨g, 0, none⟩) (ptsL X).length co, .bool false] w (ReadsK (knotsL (ptsL X)) w)) := fun w h => by rw [eK]; exact l15Build_any _ _ _ false _ w h (Nat.le_refl _) hpn
        clear eK hRb
        generalize knotsL (ptsL X) = Y at HKL HCK hRk
        go_wp2_with fail
        refine (HCK.out _ (s1.below hb1)).mono ?_
        rintro e w2 ⟨A2, c2, ⟨rfl, s2⟩, hb2⟩
        have hB2 := hB1.trans (hb2.mono hB1.size)
        clear HCK own s1 hb1 hb2 hB hB1 hok
        have h2 := h.below hB2
        have s3 := s2.1
        go_wp2_with fail
        go_loopw [6] (fun iv wr => ∃ k : Nat, k ≤ X.length ∧ iv = .int .i64 k ∧ Hid (R = decide (Y.drop k = X.drop k)) ∧ ∃ q, wr = w2.drewN q) (fun iv _ => X.length - (intOf iv).toNat)
        case atStart => exact ⟨0, Nat.zero_le _, rfl, hRk, 0, rfl⟩
        case round =>
          clear hRk
          obtain ⟨k, hk, rfl, hm, q, rfl⟩ := hrel
          by_cases hlt : k < X.length
          · have hlt' : k < Y.length := by have := HKL.out; omega
            obtain ⟨b, off, rfl, hb, x0, x1, x2, x3, x4, x5, x6, x7⟩ := h2.atKn hlt
            obtain ⟨b', off', rfl, hb', y0, y1, y2, y3, y4, y5, y6, y7⟩ := s3.atKn hlt'
            have hi0 : (k : Int) < (X.length : Int) := by omega
            have hi1 : (k : Int) < (Y.length : Int) := by omega
            have hd := eq_dropK hlt' hlt
            by_cases he : Y[k] = X[k]
            · have HD : Hid (R = decide (Y.drop (k + 1) = X.drop (k + 1))) := by show _ = _; rw [hm.out, hd, decide_eq_true he]; simp
              rw [he] at y0 y1 y2 y3 y4 y5 y6 y7
              clear hd hm he h h2 s2 s3
              generalize X[k].i = p0 at x0 y0
              generalize X[k].x = p1 at x1 y1
              generalize X[k].y = p2 at x2 y2
              generalize X[k].l = p3 at x3 y3
              generalize X[k].a = p4 at x4 y4
              generalize X[k].b = p5 at x5 y5
              generalize X[k].c = p6 at x6 y6
              generalize X[k].d = p7 at x7 y7
              go_wp2_with fail
              go_quiet (fail)
              go_wp2
              go_roundw
              case rel => exact ⟨k + 1, by omega, by go_num, HD, _, (by first | rfl | exact World.drewN_drewN _ _ _)⟩
              case measure => simp [intOf]; omega
            · obtain rfl : R = false := by rw [hm.out, hd, decide_eq_false he]; simp
              have hne := kn_ne (fun e => he e.symm)
              clear hd hm he h h2 s2 s3
              generalize X[k].i = p0 at x0 hne
              generalize X[k].x = p1 at x1 hne
              generalize X[k].y = p2 at x2 hne
              generalize X[k].l = p3 at x3 hne
              generalize X[k].a = p4 at x4 hne
              generalize X[k].b = p5 at x5 hne
              generalize X[k].c = p6 at x6 hne
              generalize X[k].d = p7 at x7 hne
              generalize Y[k].i = r0 at y0 hne
              generalize Y[k].x = r1 at y1 hne
              generalize Y[k].y = r2 at y2 hne
              generalize Y[k].l = r3 at y3 hne
              generalize Y[k].a = r4 at y4 hne
              generalize Y[k].b = r5 at y5 hne
              generalize Y[k].c = r6 at y6 hne
              generalize Y[k].d = r7 at y7 hne
              rcases hne with hne | hne | hne | hne | hne | hne | hne | hne
              all_goals
                go_wp2_with fail
                go_quiet (fail)
                go_wp2
                go_ret
                exact ⟨rfl, below_draws (below_draws hB2 _) _⟩
          · obtain rfl : R = true := by rw [hm.out, List.drop_of_length_le (by have := HKL.out; omega), List.drop_of_length_le (by omega)]; simp
            go_wp2
            go_ret
            exact ⟨rfl, below_draws hB2 _⟩
theorem specKnotsOk_any (A : Option Addr) (c : Nat) (X : List Kn) (w : World) (h : SrcE encKn 8 w A c X) (hn : X.length ≤ 1048576) :
    Calls Try.prog 17 #[.slice A X.length c] w fun e w' => e = .returned (.bool (knotsOkL X)) ∧ Below w.heap.size w w' := by
  go_enter Try.func17, Try.ntmps17
  go_wp2_with fail
  refine (l15Ok_any A c X _ h.1 hn).mono ?_
  rintro e w1 ⟨rfl, hb⟩
  go_wp2
  go_ret
  exact ⟨rfl, hb⟩
end Go.Proofs.Ytbmbejomodkabaa
