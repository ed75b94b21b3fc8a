/-
  Contracts of KnotsNear: the nearest of a tree's points.
-/
import Derived.Test.YtbmbejomodkabaaKnotsSpec2
import Derived.Test.YtbmbejomodkabaaKnotLaw2
import Derived.BigQuiet
namespace Go.Proofs.Ytbmbejomodkabaa
open Go.RowKit Go.Sort
set_option linter.unusedVariables false

def wy (a b : Int) : Int := if a < b then b - a else a - b
theorem wy_max (a b : Int) : max (a - b) (b - a) = wy a b := by unfold wy; split <;> omega
theorem way_wy (px py : Int) (k : Kn) : way px py k = wy k.x px + wy k.y py := rfl
theorem wy_bd {a b : Int} (h1 : 0 ≤ a) (h2 : a ≤ 1000000) (h3 : 0 ≤ b) (h4 : b ≤ 1000000) : 0 ≤ wy a b ∧ wy a b ≤ 1000000 := by unfold wy; split <;> omega
theorem nearL_bad {X : List Kn} {px py : Int} (h : (knotsOkL X && (wi px 0 999 && wi py 0 999)) = false) : nearL X px py = -1 := by unfold nearL; rw [if_neg (by rw [h]; simp)]
theorem nearL_good {X : List Kn} {px py : Int} (h1 : knotsOkL X = true) (h2 : wi px 0 999 = true) (h3 : wi py 0 999 = true) : nearL X px py = (nearS px py X).1 := by unfold nearL; rw [if_pos (by rw [h1, h2, h3]; rfl)]
theorem l15Way_any (a b : Int) (h1 : 0 ≤ a) (h2 : a ≤ 1000000) (h3 : 0 ≤ b) (h4 : b ≤ 1000000) (w : World) :
    Calls Try.prog 45 #[.int .i64 a, .int .i64 b] w fun e w' => e = .returned (.int .i64 (wy a b)) ∧ w = w' := by
  by_cases h : a < b
  · have e : Hid (wy a b = b - a) := by show _ = _; unfold wy; rw [if_pos h]
    go_enter Try.func45, Try.ntmps45
    go_wp2
    go_ret
    exact ⟨ret_int e.out.symm, rfl⟩
  · have e : Hid (wy a b = a - b) := by show _ = _; unfold wy; rw [if_neg h]
    go_enter Try.func45, Try.ntmps45
    go_wp2
    go_ret
    exact ⟨ret_int e.out.symm, rfl⟩
set_option maxRecDepth 8000 in
set_option maxHeartbeats 8000000 in
theorem implKnotsNear_any (A : Option Addr) (c : Nat) (X : List Kn) (px py : Int) (w : World) (h : SrcE encKn 8 w A c X) (hn : X.length ≤ 1048576) :
    Calls Try.prog 21 #[.slice A X.length c, .int .i64 px, .int .i64 py] w fun e w' => e = .returned (.int .i64 (nearL X px py)) ∧ Below w.heap.size w w' := by
  have CK := implKnotsOk_any A c X w h hn
  cases h1 : knotsOkL X with
  | false =>
    have e := nearL_bad (X := X) (px := px) (py := py) (by rw [h1]; rfl)
    rw [e]
    rw [h1] at CK
    have HCK := Lib.hid CK
    clear CK e h1
    go_enter Try.func21, Try.ntmps21
    go_wp2_with fail
    refine HCK.out.mono ?_
    rintro e w1 ⟨rfl, hb1⟩
    go_wp2
    go_ret
    exact ⟨rfl, hb1⟩
  | true =>
    obtain ⟨hX24, hXb, _⟩ := okX h1
    rw [h1] at CK
    have HCK := Lib.hid CK
    clear CK
    cases h2 : wi px 0 999 with
    | false =>
      have e := nearL_bad (X := X) (px := px) (py := py) (by rw [h2]; simp)
      rw [e]
      clear hXb h1 e
      go_enter Try.func21, Try.ntmps21
      go_wp2_with fail
      refine HCK.out.mono ?_
      rintro e w1 ⟨rfl, hb1⟩
      go_wp2_with (go_at_call 32; refine (within_any _ _ _ _).mono ?_; rintro e w' ⟨rfl, rfl⟩)
      go_ret
      exact ⟨rfl, hb1⟩
    | true =>
      cases h3 : wi py 0 999 with
      | false =>
        have e := nearL_bad (X := X) (px := px) (py := py) (by rw [h3]; simp)
        rw [e]
        clear hXb h1 e
        go_enter Try.func21, Try.ntmps21
        go_wp2_with fail
        refine HCK.out.mono ?_
        rintro e w1 ⟨rfl, hb1⟩
        go_wp2_with (go_at_call 32; refine (within_any _ _ _ _).mono ?_; rintro e w' ⟨rfl, rfl⟩)
        go_ret
        exact ⟨rfl, hb1⟩
      | true =>
        have HE : Hid (nearL X px py = (nearS px py X).1) := nearL_good h1 h2 h3
        have hpx := wi_true.1 h2
        have hpy := wi_true.1 h3
        have HXb := Lib.hid hXb
        clear hXb h1
        go_enter Try.func21, Try.ntmps21
        go_wp2_with fail
        refine HCK.out.mono ?_
        rintro e w1 ⟨rfl, hb1⟩
        clear HCK
        go_wp2_with (go_at_call 32; refine (within_any _ _ _ _).mono ?_; rintro e w' ⟨rfl, rfl⟩)
        refine (pointsIn_any A c X _ (h.below hb1).1 hn).mono ?_
        rintro e w2 ⟨g2, c2, ⟨rfl, own2⟩, hb2⟩
        have hB2 := hb1.trans (hb2.mono hb1.size)
        have hpl : (ptsL X).length = X.length := by unfold ptsL; rw [List.length_map]
        have s2 := Rds.own own2
        clear own2 hb1 hb2 h h2 h3
        go_wp2_with fail
        go_loopw [7, 8, 10, 11, 28] (fun bv lv _ _ iv wr => ∃ k : Nat, k ≤ X.length ∧ iv = .int .i64 k ∧ ∃ b f : Int, bv = .int .i64 b ∧ lv = .int .i64 f ∧ Hid (nearS px py (X.take k) = (b, f)) ∧ Below w2.heap.size w2 wr) (fun _ _ _ _ iv _ => X.length - (intOf iv).toNat)
        case atStart => exact ⟨0, Nat.zero_le _, rfl, -1, 0, rfl, rfl, rfl, Below.refl _ _⟩
        case round =>
          obtain ⟨k, hk, rfl, b, f, rfl, rfl, hm, hB⟩ := hrel
          by_cases hlt : k < X.length
          · have hlp : k < (ptsL X).length := by omega
            obtain ⟨b', off', he, hb', x0, x1, x2⟩ := (s2.below hB).atPt hlp
            simp only [Option.some.injEq, Addr.mk.injEq, and_true] at he
            obtain ⟨rfl, rfl⟩ := he
            simp only [Nat.zero_add] at x0 x1 x2
            have hel : (ptsL X)[k] = ⟨X[k].i, X[k].x, X[k].y⟩ := by simp [ptsL, Kn.p]
            rw [hel] at x0 x1 x2
            dsimp only at x0 x1 x2
            obtain ⟨_, hb1, hb2⟩ := HXb.out k hlt
            have HW : Hid (nearS px py (X.take (k + 1)) = if b < 0 ∨ wy X[k].x px + wy X[k].y py < f ∨ wy X[k].x px + wy X[k].y py = f ∧ X[k].i < b then (X[k].i, wy X[k].x px + wy X[k].y py) else (b, f)) := by
              show _ = _
              rw [nearS_succ px py hlt, hm.out]
              rfl
            have hi0 : (k : Int) < (X.length : Int) := by omega
            have hw1 := wy_bd (a := X[k].x) (b := px) (by omega) (by omega) (by omega) (by omega)
            have hw2 := wy_bd (a := X[k].y) (b := py) (by omega) (by omega) (by omega) (by omega)
            have hm1 := wy_max X[k].x px
            have hm2 := wy_max X[k].y py
            clear hel hm
            generalize X[k].i = p0 at x0 HW
            generalize X[k].x = p1 at x1 HW hm1 hw1 hb1
            generalize X[k].y = p2 at x2 HW hm2 hw2 hb2
            generalize wy p1 px = d1 at HW hm1 hw1
            generalize wy p2 py = d2 at HW hm2 hw2
            have hBN : Below wr.heap.size wr (wr.alloc (.cells #[.int .i64 p0, .int .i64 p1, .int .i64 p2] 29)) := by (repeat' (first | exact Below.refl _ _ | apply Below.alloc | apply Below.setCell | apply Below.drew | apply below_draws)) <;> (first | omega | (simp <;> omega))
            have hB9 := hB.trans (hBN.mono hB.size)
            by_cases c1 : b < 0
            · have HN : Hid (nearS px py (X.take (k + 1)) = (p0, d1 + d2)) := by show _ = _; rw [HW.out, if_pos (.inl c1)]
              clear HW
              go_wp2
              all_goals exact ⟨⟨k + 1, by omega, by go_num, _, _, rfl, rfl, HN, hB9⟩, by simp [intOf]; omega⟩
            · by_cases c2 : d1 + d2 < f
              · have HN : Hid (nearS px py (X.take (k + 1)) = (p0, d1 + d2)) := by show _ = _; rw [HW.out, if_pos (.inr (.inl c2))]
                clear HW
                go_wp2
                all_goals exact ⟨⟨k + 1, by omega, by go_num, _, _, rfl, rfl, HN, hB9⟩, by simp [intOf]; omega⟩
              · by_cases c3 : d1 + d2 = f
                · subst c3
                  by_cases c4 : p0 < b
                  · have HN : Hid (nearS px py (X.take (k + 1)) = (p0, d1 + d2)) := by show _ = _; rw [HW.out, if_pos (.inr (.inr ⟨rfl, c4⟩))]
                    clear HW
                    go_wp2
                    all_goals exact ⟨⟨k + 1, by omega, by go_num, _, _, rfl, rfl, HN, hB9⟩, by simp [intOf]; omega⟩
                  · have HN : Hid (nearS px py (X.take (k + 1)) = (b, d1 + d2)) := by show _ = _; rw [HW.out, if_neg (by omega)]
                    clear HW
                    go_wp2
                    all_goals exact ⟨⟨k + 1, by omega, by go_num, _, _, rfl, rfl, HN, hB9⟩, by simp [intOf]; omega⟩
                · have HN : Hid (nearS px py (X.take (k + 1)) = (b, f)) := by show _ = _; rw [HW.out, if_neg (by omega)]
                  have hne : (d1 + d2 == f) = false := beq_eq_false_iff_ne.2 c3
                  clear HW
                  go_wp2
                  all_goals exact ⟨⟨k + 1, by omega, by go_num, _, _, rfl, rfl, HN, hB9⟩, by simp [intOf]; omega⟩
          · obtain rfl : k = X.length := by omega
            have HR : Hid (b = nearL X px py) := by
              show _ = _
              have := hm.out
              rw [List.take_length] at this
              rw [HE.out, this]
            clear hm
            go_wp2
            go_ret
            exact ⟨ret_int HR.out, hB2.trans (hB.mono hB2.size)⟩
set_option maxRecDepth 8000 in
set_option maxHeartbeats 8000000 in
theorem specKnotsNear_any (A : Option Addr) (c : Nat) (X : List Kn) (px py : Int) (w : World) (h : SrcE encKn 8 w A c X) (hn : X.length ≤ 1048576) :
    Calls Try.prog 22 #[.slice A X.length c, .int .i64 px, .int .i64 py] w fun e w' => e = .returned (.int .i64 (nearL X px py)) ∧ Below w.heap.size w w' := by
  have CK := l15Ok_any A c X w h.1 hn
  cases h1 : knotsOkL X with
  | false =>
    have e := nearL_bad (X := X) (px := px) (py := py) (by rw [h1]; rfl)
    rw [e]
    rw [h1] at CK
    have HCK := Lib.hid CK
    clear CK e h1
    go_enter Try.func22, Try.ntmps22
    go_wp2_with fail
    refine HCK.out.mono ?_
    rintro e w1 ⟨rfl, hb1⟩
    go_wp2
    go_ret
    exact ⟨rfl, hb1⟩
  | true =>
    obtain ⟨hX24, hXb, _⟩ := okX h1
    rw [h1] at CK
    have HCK := Lib.hid CK
    clear CK
    cases h2 : wi px 0 999 with
    | false =>
      have e := nearL_bad (X := X) (px := px) (py := py) (by rw [h2]; simp)
      rw [e]
      clear hXb h1 e
      go_enter Try.func22, Try.ntmps22
      go_wp2_with fail
      refine HCK.out.mono ?_
      rintro e w1 ⟨rfl, hb1⟩
      go_wp2_with (go_at_call 44; refine (l1In_any _ _ _ _).mono ?_; rintro e w' ⟨rfl, rfl⟩)
      go_ret
      exact ⟨rfl, hb1⟩
    | true =>
      cases h3 : wi py 0 999 with
      | false =>
        have e := nearL_bad (X := X) (px := px) (py := py) (by rw [h3]; simp)
        rw [e]
        clear hXb h1 e
        go_enter Try.func22, Try.ntmps22
        go_wp2_with fail
        refine HCK.out.mono ?_
        rintro e w1 ⟨rfl, hb1⟩
        go_wp2_with (go_at_call 44; refine (l1In_any _ _ _ _).mono ?_; rintro e w' ⟨rfl, rfl⟩)
        go_ret
        exact ⟨rfl, hb1⟩
      | true =>
        have HE : Hid (nearL X px py = (nearS px py X).1) := nearL_good h1 h2 h3
        have hpx := wi_true.1 h2
        have hpy := wi_true.1 h3
        have HXb := Lib.hid hXb
        clear hXb h1
        go_enter Try.func22, Try.ntmps22
        go_wp2_with fail
        refine HCK.out.mono ?_
        rintro e w1 ⟨rfl, hb1⟩
        clear HCK
        go_wp2_with (go_at_call 44; refine (l1In_any _ _ _ _).mono ?_; rintro e w' ⟨rfl, rfl⟩)
        have hB2 := hb1
        obtain ⟨w2, hw2⟩ : ∃ w2, w2 = w1 := ⟨_, rfl⟩
        rw [← hw2] at hB2 hb1 ⊢
        have s2 := (h.below hb1).1
        clear hw2 h hb1 h2 h3
        go_loopw [7, 8, 9, 10, 11] (fun bv lv iv _ _ wr => ∃ k : Nat, k ≤ X.length ∧ iv = .int .i64 k ∧ ∃ b f : Int, bv = .int .i64 b ∧ lv = .int .i64 f ∧ Hid (nearS px py (X.take k) = (b, f)) ∧ Below w2.heap.size w2 wr) (fun _ _ iv _ _ _ => X.length - (intOf iv).toNat)
        case atStart => exact ⟨0, Nat.zero_le _, rfl, -1, 0, rfl, rfl, rfl, Below.refl _ _⟩
        case round =>
          obtain ⟨k, hk, rfl, b, f, rfl, rfl, hm, hB⟩ := hrel
          by_cases hlt : k < X.length
          · obtain ⟨b', off', rfl, hb', x0, x1, x2, x3, x4, x5, x6, x7⟩ := (s2.below hB).atKn hlt
            clear x3 x4 x5 x6 x7
            obtain ⟨_, hb1, hb2⟩ := HXb.out k hlt
            have HW : Hid (nearS px py (X.take (k + 1)) = if b < 0 ∨ wy X[k].x px + wy X[k].y py < f ∨ wy X[k].x px + wy X[k].y py = f ∧ X[k].i < b then (X[k].i, wy X[k].x px + wy X[k].y py) else (b, f)) := by
              show _ = _
              rw [nearS_succ px py hlt, hm.out]
              rfl
            have hi0 : (k : Int) < (X.length : Int) := by omega
            have hw1 := wy_bd (a := X[k].x) (b := px) (by omega) (by omega) (by omega) (by omega)
            have hw2 := wy_bd (a := X[k].y) (b := py) (by omega) (by omega) (by omega) (by omega)
            clear hm
            generalize X[k].i = p0 at x0 HW
            generalize X[k].x = p1 at x1 HW hw1 hb1
            generalize X[k].y = p2 at x2 HW hw2 hb2
            have hBN : Below wr.heap.size wr (wr.alloc (.cells #[.int .i64 p0, .int .i64 p1, .int .i64 p2] 29)) := by (repeat' (first | exact Below.refl _ _ | apply Below.alloc | apply Below.setCell | apply Below.drew | apply below_draws)) <;> (first | omega | (simp <;> omega))
            have hB9 := hB.trans (hBN.mono hB.size)
            go_wp2_with fail
            go_quiet ((go_at_call 45; first | exact qsame (l15Way_any _ _ (by omega) (by omega) (by omega) (by omega) _) | exact qsame2 (l15Way_any _ _ (by omega) (by omega) (by omega) (by omega) _)))
            generalize wy p1 px = d1 at HW hw1 ⊢
            generalize wy p2 py = d2 at HW hw2 ⊢
            by_cases c1 : b < 0
            · have HN : Hid (nearS px py (X.take (k + 1)) = (p0, d1 + d2)) := by show _ = _; rw [HW.out, if_pos (.inl c1)]
              clear HW
              go_wp2
              all_goals exact ⟨⟨k + 1, by omega, by go_num, _, _, rfl, rfl, HN, below_draws hB9 _⟩, by simp [intOf]; omega⟩
            · by_cases c2 : d1 + d2 < f
              · have HN : Hid (nearS px py (X.take (k + 1)) = (p0, d1 + d2)) := by show _ = _; rw [HW.out, if_pos (.inr (.inl c2))]
                clear HW
                go_wp2
                all_goals exact ⟨⟨k + 1, by omega, by go_num, _, _, rfl, rfl, HN, below_draws hB9 _⟩, by simp [intOf]; omega⟩
              · by_cases c3 : d1 + d2 = f
                · subst c3
                  by_cases c4 : p0 < b
                  · have HN : Hid (nearS px py (X.take (k + 1)) = (p0, d1 + d2)) := by show _ = _; rw [HW.out, if_pos (.inr (.inr ⟨rfl, c4⟩))]
                    clear HW
                    go_wp2
                    all_goals exact ⟨⟨k + 1, by omega, by go_num, _, _, rfl, rfl, HN, below_draws hB9 _⟩, by simp [intOf]; omega⟩
                  · have HN : Hid (nearS px py (X.take (k + 1)) = (b, d1 + d2)) := by show _ = _; rw [HW.out, if_neg (by omega)]
                    clear HW
                    go_wp2
                    all_goals exact ⟨⟨k + 1, by omega, by go_num, _, _, rfl, rfl, HN, below_draws hB9 _⟩, by simp [intOf]; omega⟩
                · have HN : Hid (nearS px py (X.take (k + 1)) = (b, f)) := by show _ = _; rw [HW.out, if_neg (by omega)]
                  have hne : (d1 + d2 == f) = false := beq_eq_false_iff_ne.2 c3
                  clear HW
                  go_wp2
                  all_goals exact ⟨⟨k + 1, by omega, by go_num, _, _, rfl, rfl, HN, below_draws hB9 _⟩, by simp [intOf]; omega⟩
          · obtain rfl : k = X.length := by omega
            have HR : Hid (b = nearL X px py) := by
              show _ = _
              have := hm.out
              rw [List.take_length] at this
              rw [HE.out, this]
            clear hm
            go_wp2
            go_ret
            exact ⟨ret_int HR.out, hB2.trans (hB.mono hB2.size)⟩
end Go.Proofs.Ytbmbejomodkabaa
