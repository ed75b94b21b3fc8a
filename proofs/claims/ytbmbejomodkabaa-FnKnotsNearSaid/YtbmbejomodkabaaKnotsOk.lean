/-
  Contracts of pointsIn, slices.Equal at knots, KnotsOk.
-/
import Derived.Test.YtbmbejomodkabaaKnotsOf
namespace Go.Proofs.Ytbmbejomodkabaa
open Go.RowKit Go.Sort
set_option linter.unusedVariables false

theorem srcE_litAt {α : Type} {enc : α → List Value} {F : Nat} (he : Enc enc F) {E : TypeId} (cs : Array Value) (L : List α) (hcs : cs.toList = L.flatMap enc) {V V' : World} {b c : Nat} (h2 : V'.heap = (V.alloc (.cells cs E)).heap) (h0 : b = V.heap.size) : SrcE enc F V' (some ⟨b, 0, none⟩) c L := by
  subst h0
  exact SrcE.blk (cs := cs) (E := E) he (by rw [h2]; exact heap_alloc_new _ _) hcs
set_option maxHeartbeats 1600000 in
theorem pointsIn_any (A : Option Addr) (c : Nat) (X : List Kn) (w : World) (h : Rds w 8 A X.length (X.flatMap encKn)) (hn : X.length ≤ 1048576) :
    Calls Try.prog 37 #[.slice A X.length c] w (MakesP (ptsL X) w) := by
  have hB0 : Below w.heap.size w (w.alloc (.cells #[] 29)) := (Below.refl _ _).alloc (Nat.le_refl _) _
  have own0 := ownE_made (enc := encPt) (F := 3) 29 w w.heap.size (Nat.le_refl _)
  go_enter Try.func37, Try.ntmps37
  go_wp2_with fail
  generalize (w.alloc (.cells #[] 29)) = w0 at hB0 own0 ⊢
  go_loopw [3, 5, 9] (fun ov _ iv wr => ∃ i : Nat, i ≤ X.length ∧ iv = .int .i64 i ∧ ∃ (g c : Nat) (O : List Pt), ov = .slice (some ⟨g, 0, none⟩) O.length c ∧ Hid (O = ptsL (X.take i)) ∧ OwnE encPt 29 3 wr w.heap.size g c O ∧ Below w.heap.size w wr) (fun _ _ iv _ => X.length - (intOf iv).toNat)
  case atStart => exact ⟨0, Nat.zero_le _, rfl, _, _, [], rfl, rfl, own0, hB0⟩
  case round =>
    clear own0 hB0
    obtain ⟨i, hi, rfl, g, co, O, rfl, hO, own, hB⟩ := hrel
    have hBs := hB.size
    by_cases hlt : i < X.length
    · obtain ⟨b, off, rfl, hb, x0, x1, x2, x3, x4, x5, x6, x7⟩ := (h.below hB).atKn hlt
      have hi0 : (i : Int) < (X.length : Int) := by omega
      have hol : O.length ≤ i := by rw [hO.out]; unfold ptsL; rw [List.length_map, List.length_take]; omega
      have HO : Hid (ptsL (X.take (i + 1)) = O ++ [⟨X[i].i, X[i].x, X[i].y⟩]) := by
        show _ = _
        rw [hO.out]; unfold ptsL; rw [← List.take_append_getElem hlt, List.map_append]; rfl
      clear hO
      generalize X[i].i = p0 at x0 HO
      generalize X[i].x = p1 at x1 HO
      generalize X[i].y = p2 at x2 HO
      generalize X[i].l = p3 at x3
      generalize X[i].a = p4 at x4
      generalize X[i].b = p5 at x5
      generalize X[i].c = p6 at x6
      generalize X[i].d = p7 at x7
      have hBN : Below wr.heap.size wr (wr.alloc (.cells #[.int .i64 p0, .int .i64 p1, .int .i64 p2, .int .i64 p3, .int .i64 p4, .int .i64 p5, .int .i64 p6, .int .i64 p7] 33)) := by (repeat' (first | exact Below.refl _ _ | apply Below.alloc | apply Below.setCell | apply Below.drew | apply below_draws)) <;> (first | omega | (simp <;> omega))
      have own1 := ownEB own hBN
      go_wp2_with (at_builtin; refine append_rec rowTPoint encPt_ok (by decide) rfl _ _ rfl w.heap.size _ _ O rfl (own1.alloc _) _ _ _ [⟨p0, p1, p2⟩] rfl rfl ?_ (by simp; omega) (by omega) (by simp <;> omega) ?_; exact srcE_litAt encPt_ok #[.int .i64 p0, .int .i64 p1, .int .i64 p2] [⟨p0, p1, p2⟩] rfl (by rfl) (by first | rfl | (simp; done)))
      intro N hN g7 c7 w7 own7 hg7 hat7 hb7
      have hB7 : Below w.heap.size w w7 := (hB.trans (hBN.mono hBs)).trans (Below.trans (by (repeat' (first | exact Below.refl _ _ | apply Below.alloc | apply Below.setCell | apply Below.drew | apply below_draws)) <;> (first | omega | (simp <;> omega))) hb7)
      have HN : Hid (N = ptsL (X.take (i + 1))) := by show _ = _; rw [HO.out]; exact hN.out
      clear hN hg7 hat7 hb7 own1 own hBN HO x0 x1 x2 x3 x4 x5 x6 x7
      go_wp2
      go_roundw
      case rel => exact ⟨i + 1, by omega, by go_num, g7, c7, N, rfl, HN, own7, hB7⟩
      case measure => simp [intOf]; omega
    · obtain rfl : i = X.length := by omega
      have e : O = ptsL X := by rw [hO.out, List.take_length]
      clear hO
      subst e
      go_wp2
      go_ret
      exact ⟨g, co, ⟨rfl, own⟩, hB⟩
theorem kn_ne {a b : Kn} (h : a ≠ b) : ¬ (a.i = b.i) ∨ ¬ (a.x = b.x) ∨ ¬ (a.y = b.y) ∨ ¬ (a.l = b.l) ∨ ¬ (a.a = b.a) ∨ ¬ (a.b = b.b) ∨ ¬ (a.c = b.c) ∨ ¬ (a.d = b.d) := by
  refine Classical.byContradiction fun hc => h ?_
  simp only [not_or, Classical.not_not] at hc
  exact Kn.ext' hc.1 hc.2.1 hc.2.2.1 hc.2.2.2.1 hc.2.2.2.2.1 hc.2.2.2.2.2.1 hc.2.2.2.2.2.2.1 hc.2.2.2.2.2.2.2
theorem eq_dropK {L M : List Kn} {k : Nat} (hk : k < L.length) (hk' : k < M.length) : decide (L.drop k = M.drop k) = (decide (L[k] = M[k]) && decide (L.drop (k + 1) = M.drop (k + 1))) := by
  rw [List.drop_eq_getElem_cons hk, List.drop_eq_getElem_cons hk', Bool.eq_iff_iff, decide_eq_true_eq, Bool.and_eq_true, decide_eq_true_eq, decide_eq_true_eq, List.cons.injEq]
set_option maxRecDepth 5000 in
set_option maxHeartbeats 4000000 in
theorem equalKn_any (A A' : Option Addr) (c c' : Nat) (L M : List Kn) (w : World) (h : Rds w 8 A L.length (L.flatMap encKn)) (h' : Rds w 8 A' M.length (M.flatMap encKn)) (hn : L.length ≤ 4194304) (hn' : M.length ≤ 4194304) :
    Calls Try.prog 36 #[.slice A L.length c, .slice A' M.length c'] w fun e w' => e = .returned (.bool (decide (L = M))) ∧ Below w.heap.size w w' := by
  by_cases hl : L.length = M.length
  · go_enter Try.func36, Try.ntmps36
    go_wp2_with fail
    go_loopw [5, 13] (fun _ iv wr => ∃ k : Nat, k ≤ L.length ∧ iv = .int .i64 k ∧ Hid (decide (L = M) = decide (L.drop k = M.drop k)) ∧ ∃ q, wr = w.drewN q) (fun _ iv _ => L.length - (intOf iv).toNat)
    case atStart => exact ⟨0, Nat.zero_le _, rfl, rfl, 0, rfl⟩
    case round =>
      obtain ⟨k, hk, rfl, hm, q, rfl⟩ := hrel
      by_cases hlt : k < L.length
      · have hlt' : k < M.length := by omega
        obtain ⟨b, off, rfl, hb, x0, x1, x2, x3, x4, x5, x6, x7⟩ := h.atKn hlt
        obtain ⟨b', off', rfl, hb', y0, y1, y2, y3, y4, y5, y6, y7⟩ := h'.atKn hlt'
        have hi0 : (k : Int) < (L.length : Int) := by omega
        have hi1 : (k : Int) < (M.length : Int) := by omega
        have hd := eq_dropK hlt hlt'
        by_cases he : L[k] = M[k]
        · have HD : Hid (decide (L = M) = decide (L.drop (k + 1) = M.drop (k + 1))) := by show _ = _; rw [hm.out, hd, decide_eq_true he]; simp
          rw [← he] at y0 y1 y2 y3 y4 y5 y6 y7
          clear hd hm he h h'
          generalize L[k].i = p0 at x0 y0
          generalize L[k].x = p1 at x1 y1
          generalize L[k].y = p2 at x2 y2
          generalize L[k].l = p3 at x3 y3
          generalize L[k].a = p4 at x4 y4
          generalize L[k].b = p5 at x5 y5
          generalize L[k].c = p6 at x6 y6
          generalize L[k].d = p7 at x7 y7
          go_wp2_with fail
          go_quiet (fail)
          go_wp2
          go_roundw
          case rel => exact ⟨k + 1, by omega, by go_num, HD, _, (by first | rfl | exact World.drewN_drewN _ _ _)⟩
          case measure => simp [intOf]; omega
        · have HD : Hid (decide (L = M) = false) := by show _ = _; rw [hm.out, hd, decide_eq_false he]; simp
          have hne := kn_ne he
          clear hd hm he h h'
          generalize L[k].i = p0 at x0 hne
          generalize L[k].x = p1 at x1 hne
          generalize L[k].y = p2 at x2 hne
          generalize L[k].l = p3 at x3 hne
          generalize L[k].a = p4 at x4 hne
          generalize L[k].b = p5 at x5 hne
          generalize L[k].c = p6 at x6 hne
          generalize L[k].d = p7 at x7 hne
          generalize M[k].i = r0 at y0 hne
          generalize M[k].x = r1 at y1 hne
          generalize M[k].y = r2 at y2 hne
          generalize M[k].l = r3 at y3 hne
          generalize M[k].a = r4 at y4 hne
          generalize M[k].b = r5 at y5 hne
          generalize M[k].c = r6 at y6 hne
          generalize M[k].d = r7 at y7 hne
          rcases hne with hne | hne | hne | hne | hne | hne | hne | hne
          all_goals
            go_wp2_with fail
            go_quiet (fail)
            go_wp2
            go_ret
            exact ⟨ret_bool HD.out.symm, below_draws (below_draws (Below.refl _ _) _) _⟩
      · have HD : Hid (decide (L = M) = true) := by show _ = _; rw [hm.out, List.drop_of_length_le (by omega), List.drop_of_length_le (by omega)]; simp
        go_wp2
        go_ret
        exact ⟨ret_bool HD.out.symm, below_of_drewN⟩
  · have hne : ((L.length : Int) != (M.length : Int)) = true := by simp; omega
    have hd : decide (L = M) = false := decide_eq_false (fun e => hl (by rw [e]))
    rw [hd]
    go_enter Try.func36, Try.ntmps36
    go_wp2
    go_ret
    exact ⟨rfl, Below.refl _ _⟩
theorem implKnotsOk_any (A : Option Addr) (c : Nat) (X : List Kn) (w : World) (h : SrcE encKn 8 w A c X) (hn : X.length ≤ 1048576) :
    Calls Try.prog 15 #[.slice A X.length c] w fun e w' => e = .returned (.bool (knotsOkL X)) ∧ Below w.heap.size w w' := by
  have hX : knotsOkL X = decide (knotsL (ptsL X) = X) := rfl
  have HX := Lib.hid hX
  have hl : (ptsL X).length ≤ 1048576 := by unfold ptsL; rw [List.length_map]; exact hn
  have hkl := knotsL_len_le (ptsL X)
  clear hX
  go_enter Try.func15, Try.ntmps15
  go_wp2_with fail
  refine (pointsIn_any A c X _ h.1 hn).mono ?_
  rintro e w1 ⟨g1, c1, ⟨rfl, own1⟩, hb1⟩
  go_wp2_with fail
  refine (implKnotsOf_any _ _ (ptsL X) _ own1.src hl).mono ?_
  rintro e w2 ⟨g2, c2, ⟨rfl, own2⟩, hb2⟩
  have hB2 := hb1.trans (hb2.mono hb1.size)
  go_wp2_with fail
  refine (equalKn_any _ _ _ _ (knotsL (ptsL X)) X _ (Rds.own own2) (h.1.below hB2) (by omega) (by omega)).mono ?_
  rintro e w3 ⟨rfl, hb3⟩
  go_wp2
  go_ret
  exact ⟨ret_bool HX.out.symm, hB2.trans (hb3.mono hB2.size)⟩
end Go.Proofs.Ytbmbejomodkabaa
