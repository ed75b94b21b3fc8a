/-
  The walk of FnKnotsShape: both trees below a knot are as long, but for one, and within its box.
-/
import Derived.Test.YtbmbejomodkabaaLawKnots
namespace Go.Proofs.Ytbmbejomodkabaa
open Go.RowKit Go.Sort
set_option linter.unusedVariables false

set_option maxRecDepth 8000 in
set_option maxHeartbeats 8000000 in
theorem walk_FnKnotsShape (a0 : Option Addr) (len cap : Nat) (zs : List Int) (w : World) (h : IsRow .u8 w a0 len cap zs) :
    Calls Try.prog 3 #[.slice a0 len cap] w fun e w' => e = .returned (.bool true) ∧ Below w.heap.size w w' := by
  by_cases hbig : (1048576 : Int) < (len : Int)
  · go_enter Try.func3, Try.ntmps3
    go_wp2
    go_ret
    exact ⟨rfl, Below.refl _ _⟩
  · go_enter Try.func3, Try.ntmps3
    go_wp2_with fail
    refine (drawKnotsOf_any a0 len cap zs _ h).mono ?_
    rintro e w1 ⟨gL, cL, L, ⟨rfl, own1, hL⟩, hb1⟩
    clear h hbig
    have s1 := own1.src
    have hgL := own1.capOk.2.2.2
    obtain ⟨X, hX⟩ : ∃ X, X = knotsL L := ⟨_, rfl⟩
    have hXl : X.length ≤ 24 := by rw [hX]; exact knotsL_len_le L
    have ci := fun A c w h => implKnotsOf_any A c L w h (by omega)
    have cs := fun A c w h => specKnotsOf_any A c L w h (by omega)
    rw [← hX] at ci cs
    have CI := Lib.hid ci
    have CS := Lib.hid cs
    have HX := Lib.hid hX
    clear ci cs hX
    go_wp2_with fail
    refine (CI.out _ _ _ s1).mono ?_
    rintro e w2 ⟨gX, cX, ⟨rfl, own2⟩, hb2⟩
    have s2 := own2.src
    have hgX := own2.capOk.2.2.2
    have hB2 := hb1.trans (hb2.mono hb1.size)
    have s1b := s1.below hb2
    have u1 := hb2.size
    clear s1 own1 own2 hb1 hb2
    go_wp2_with fail
    refine (CS.out _ _ _ s1b).mono ?_
    rintro e w3 ⟨A3, c3, ⟨rfl, s3⟩, hb3⟩
    have hB3 := hB2.trans (hb3.mono hB2.size)
    have s1c := s1b.below hb3
    have s2c := s2.below hb3
    have u3 := hb3.size
    have u2 := hB2.size
    clear s1b s2 hb3 hB2
    go_wp2_with fail
    refine (foKnots_same _ _ _ _ X _ s2c.1 s3.1 (by omega)).mono ?_
    rintro e w4 ⟨rfl, hb4⟩
    have hB4 := hB3.trans (hb4.mono hB3.size)
    have s1d := s1c.below hb4
    have s2d := s2c.below hb4
    have u4 := hb4.size
    clear s1c s2c s3 hb4 hB3
    rcases Nat.eq_zero_or_pos X.length with h0 | h0
    · obtain rfl : X = [] := List.length_eq_zero_iff.1 h0
      clear h0
      go_wp2_with fail
      refine (CS.out _ _ _ s1d).mono ?_
      rintro e w5 ⟨A5, c5, ⟨rfl, s5⟩, hb5⟩
      have hB5 := hB4.trans (hb5.mono hB4.size)
      have s2z := s2d.below hb5
      go_wp2_with fail
      refine (foKnots_same _ _ _ _ _ _ s2z.1 s5.1 (by omega)).mono ?_
      rintro e w6 ⟨rfl, hb6⟩
      go_wp2
      go_ret
      exact ⟨rfl, hB5.trans (hb6.mono hB5.size)⟩
    · have hok : okB L = true := by
        cases ho : okB L with
        | true => rfl
        | false =>
          have e1 : X = [] := by rw [HX.out, knotsL_bad ho]
          rw [e1] at h0; exact absurd h0 (by simp)
      have HS : Hid (Shape L X h0) := by
        have e := HX.out
        subst e
        exact shape_of hok h0
      clear HX CS CI hgL u1 u2 u3 u4 s1d
      have hX0 : (0 : Int) < (X.length : Int) := by omega
      have hne0 : ((X.length : Int) == 0) = false := beq_eq_false_iff_ne.2 (by omega)
      obtain ⟨hgX4, x0, x1, x2, x3, x4, x5, x6, x7⟩ := s2d.knAt h0
      simp only [Nat.zero_mul, Nat.zero_add] at x0 x1 x2 x3 x4 x5 x6 x7
      rw [HS.out.left] at x3
      obtain ⟨⟨b1, b2, b3⟩, b4, b5, b6⟩ := HS.out.box
      have HKID : Hid (∀ j (hj : j < X.length), 1 ≤ j → (X[0].a ≤ X[j].a ∧ X[j].b ≤ X[0].b ∧ X[0].c ≤ X[j].c ∧ X[j].d ≤ X[0].d) ∧ (j ≤ X.length / 2 → X[j].x ≤ X[0].x) ∧ (X.length / 2 < j → X[0].x ≤ X[j].x)) := HS.out.kids
      clear HS x0 x2
      generalize X[0].x = r1 at x1 HKID
      generalize X[0].a = r4 at x4 HKID b1 b2
      generalize X[0].b = r5 at x5 HKID b2 b3
      generalize X[0].c = r6 at x6 HKID b4 b5
      generalize X[0].d = r7 at x7 HKID b5 b6
      obtain ⟨hf, hhf⟩ : ∃ hf, hf = X.length / 2 := ⟨_, rfl⟩
      have hq : (X.length : Int) / 2 = (hf : Int) := by omega
      have hq2 : (X.length : Int).tdiv 2 = (hf : Int) := by rw [Int.tdiv_eq_ediv_of_nonneg (by omega)]; exact hq
      rw [← hhf] at x3 HKID
      have HHF := Lib.hid hhf
      clear hhf
      go_wp2_with fail
      refine (boxOk_yes r4 r5 r6 r7 b1 b2 b3 b4 b5 b6 _).mono ?_
      rintro e w5 ⟨rfl, hb5⟩
      have hB5 := hB4.trans (hb5.mono hB4.size)
      have s2e := s2d.below hb5
      replace x1 := (hb5.cell (p := ⟨gX, 1, none⟩) hgX4).trans x1
      replace x3 := (hb5.cell (p := ⟨gX, 3, none⟩) hgX4).trans x3
      replace x4 := (hb5.cell (p := ⟨gX, 4, none⟩) hgX4).trans x4
      replace x5 := (hb5.cell (p := ⟨gX, 5, none⟩) hgX4).trans x5
      replace x6 := (hb5.cell (p := ⟨gX, 6, none⟩) hgX4).trans x6
      replace x7 := (hb5.cell (p := ⟨gX, 7, none⟩) hgX4).trans x7
      have hgX5 : gX < w5.heap.size := Nat.lt_of_lt_of_le hgX4 hb5.size
      clear s2d hb5 hB4 hgX4 b1 b2 b3 b4 b5 b6
      go_wp2_with fail
      go_loopw [5, 6, 7] (fun iv _ _ wr => ∃ i : Nat, 1 ≤ i ∧ i ≤ X.length ∧ iv = .int .i64 i ∧ Below w5.heap.size w5 wr) (fun iv _ _ _ => X.length - (intOf iv).toNat)
      case atStart => exact ⟨1, Nat.le_refl _, h0, rfl, Below.refl _ _⟩
      case round =>
        obtain ⟨i, hi1, hi, rfl, hbv⟩ := hrel
        obtain ⟨wo, hwo⟩ : ∃ wo, wo = wr := ⟨_, rfl⟩
        subst hwo
        by_cases hlt : i < X.length
        · have hi0 : (i : Int) < (X.length : Int) := by omega
          obtain ⟨hgXo, y0, y1, y2, y3, y4, y5, y6, y7⟩ := (s2e.below hbv).knAt hlt
          obtain ⟨⟨c1, c2, c3, c4⟩, c5, c6⟩ := HKID.out i hlt hi1
          have z1 := (hbv.cell (p := ⟨gX, 1, none⟩) hgX5).trans x1
          have z3 := (hbv.cell (p := ⟨gX, 3, none⟩) hgX5).trans x3
          have z4 := (hbv.cell (p := ⟨gX, 4, none⟩) hgX5).trans x4
          have z5 := (hbv.cell (p := ⟨gX, 5, none⟩) hgX5).trans x5
          have z6 := (hbv.cell (p := ⟨gX, 6, none⟩) hgX5).trans x6
          have z7 := (hbv.cell (p := ⟨gX, 7, none⟩) hgX5).trans x7
          clear x1 x3 x4 x5 x6 x7 y3 s2e
          generalize X[i].i = t0 at y0
          generalize X[i].x = t1 at y1 c5 c6
          generalize X[i].y = t2 at y2
          generalize X[i].a = t4 at y4 c1
          generalize X[i].b = t5 at y5 c2
          generalize X[i].c = t6 at y6 c3
          generalize X[i].d = t7 at y7 c4
          have hbA : Below wo.heap.size wo (wo.alloc (.cells #[.int .i64 t4, .int .i64 t5, .int .i64 t6, .int .i64 t7] 31)) := by (repeat' (first | exact Below.refl _ _ | apply Below.alloc | apply Below.setCell | apply Below.drew | apply below_draws)) <;> (first | omega | (simp <;> omega))
          have f0 : (wo.alloc (.cells #[.int .i64 t4, .int .i64 t5, .int .i64 t6, .int .i64 t7] 31)).cell? ⟨wo.heap.size, 0, none⟩ = some (.int .i64 t4) := by simp [go_sem]
          have f1 : (wo.alloc (.cells #[.int .i64 t4, .int .i64 t5, .int .i64 t6, .int .i64 t7] 31)).cell? ⟨wo.heap.size, 1, none⟩ = some (.int .i64 t5) := by simp [go_sem]
          have f2 : (wo.alloc (.cells #[.int .i64 t4, .int .i64 t5, .int .i64 t6, .int .i64 t7] 31)).cell? ⟨wo.heap.size, 2, none⟩ = some (.int .i64 t6) := by simp [go_sem]
          have f3 : (wo.alloc (.cells #[.int .i64 t4, .int .i64 t5, .int .i64 t6, .int .i64 t7] 31)).cell? ⟨wo.heap.size, 3, none⟩ = some (.int .i64 t7) := by simp [go_sem]
          go_wp2_with fail
          replace y0 := (hbA.cell (p := ⟨gX, i * 8, none⟩) hgXo).trans y0
          replace y1 := (hbA.cell (p := ⟨gX, i * 8 + 1, none⟩) hgXo).trans y1
          replace y2 := (hbA.cell (p := ⟨gX, i * 8 + 2, none⟩) hgXo).trans y2
          replace z1 := (hbA.cell (p := ⟨gX, 1, none⟩) hgXo).trans z1
          replace z3 := (hbA.cell (p := ⟨gX, 3, none⟩) hgXo).trans z3
          replace z4 := (hbA.cell (p := ⟨gX, 4, none⟩) hgXo).trans z4
          replace z5 := (hbA.cell (p := ⟨gX, 5, none⟩) hgXo).trans z5
          replace z6 := (hbA.cell (p := ⟨gX, 6, none⟩) hgXo).trans z6
          replace z7 := (hbA.cell (p := ⟨gX, 7, none⟩) hgXo).trans z7
          have hbo := hbv.trans (hbA.mono hbv.size)
          have hgA : gX < (wo.alloc (.cells #[.int .i64 t4, .int .i64 t5, .int .i64 t6, .int .i64 t7] 31)).heap.size := Nat.lt_of_lt_of_le hgXo hbA.size
          generalize (wo.alloc (.cells #[.int .i64 t4, .int .i64 t5, .int .i64 t6, .int .i64 t7] 31)) = wa at y0 y1 y2 z1 z3 z4 z5 z6 z7 f0 f1 f2 f3 hbo hgA ⊢
          generalize wo.heap.size = R at f0 f1 f2 f3 ⊢
          have d1 : decide (t4 < r4) = false := decide_eq_false (by omega)
          have d2 : decide (r5 < t5) = false := decide_eq_false (by omega)
          have d3 : decide (t6 < r6) = false := decide_eq_false (by omega)
          have d4 : decide (r7 < t7) = false := decide_eq_false (by omega)
          have kf0 := cell_regrown f0
          have kf1 := cell_regrown f1
          have kf2 := cell_regrown f2
          have kf3 := cell_regrown f3
          have kz4 := cell_regrown z4
          have kz5 := cell_regrown z5
          have kz6 := cell_regrown z6
          have kz7 := cell_regrown z7
          have hy0 := y0
          have hy1 := y1
          have hy2 := y2
          have hz1 := z1
          have hz3 := z3
          clear y4 y5 y6 y7 f0 f1 f2 f3 z4 z5 z6 z7 y0 y1 y2 z1 z3 hbA hbv
          go_wp2_with fail
          refine region_qw (by kernel_rfl) (by kernel_rfl) ?_
          repeat (
            refine qw_step (fun K hK => ?_)
            go_simp
            first
              | (refine hK _ ?_; clear hK K)
              | fail)
          refine qw_nil ?_
          intro _ hw'
          obtain ⟨⟨dq, osq⟩, hw''⟩ := hw'
          subst hw''
          have hb6 := hbo.trans ((below_regrown wa dq osq).mono hbo.size)
          have m0 := (cell_regrown hy0) dq osq
          have m1 := (cell_regrown hy1) dq osq
          have m2 := (cell_regrown hy2) dq osq
          have n1 := (cell_regrown hz1) dq osq
          have n3 := (cell_regrown hz3) dq osq
          have hgB : gX < (grow (redrawn wa dq) osq).heap.size := Nat.lt_of_lt_of_le hgA (below_regrown wa dq osq).size
          dsimp only
          clear kf0 kf1 kf2 kf3 kz4 kz5 kz6 kz7 hy0 hy1 hy2 hz1 hz3 hbo hgA d1 d2 d3 d4
          generalize (grow (redrawn wa dq) osq) = wb at hb6 m0 m1 m2 n1 n3 hgB ⊢
          have hbA : Below wb.heap.size wb (wb.alloc (.cells #[.int .i64 t0, .int .i64 t1, .int .i64 t2] 29)) := by (repeat' (first | exact Below.refl _ _ | apply Below.alloc | apply Below.setCell | apply Below.drew | apply below_draws)) <;> (first | omega | (simp <;> omega))
          have f1 : (wb.alloc (.cells #[.int .i64 t0, .int .i64 t1, .int .i64 t2] 29)).cell? ⟨wb.heap.size, 1, none⟩ = some (.int .i64 t1) := by simp [go_sem]
          go_wp2_with fail
          replace n1 := (hbA.cell (p := ⟨gX, 1, none⟩) hgB).trans n1
          replace n3 := (hbA.cell (p := ⟨gX, 3, none⟩) hgB).trans n3
          have hbc := hb6.trans (hbA.mono hb6.size)
          generalize (wb.alloc (.cells #[.int .i64 t0, .int .i64 t1, .int .i64 t2] 29)) = wc at n1 n3 f1 hbc ⊢
          generalize wb.heap.size = R2 at f1 ⊢
          have kf1 := cell_regrown f1
          have kn1 := cell_regrown n1
          have kn3 := cell_regrown n3
          clear f1 n1 n3 hbA hb6 m0 m1 m2
          by_cases hih : i ≤ hf
          · have hih2 : (i : Int) ≤ (hf : Int) := by omega
            have d1 : decide ((i : Int) ≤ (hf : Int)) = true := decide_eq_true hih2
            have d2 : decide (i ≤ hf) = true := decide_eq_true hih
            have d3 : decide ((hf : Int) < (i : Int)) = false := decide_eq_false (by omega)
            have d4 : decide (hf < i) = false := decide_eq_false (by omega)
            have d5 : decide (r1 < t1) = false := decide_eq_false (by have := c5 hih; omega)
            clear c5 c6
            go_wp2_with fail
            refine region_qw (by kernel_rfl) (by kernel_rfl) ?_
            repeat (
              refine qw_step (fun K hK => ?_)
              go_simp
              first
                | (refine hK _ ?_; clear hK K)
                | fail)
            refine qw_nil ?_
            intro _ hw'
            obtain ⟨⟨dq, osq⟩, hw''⟩ := hw'
            subst hw''
            have hb7 := hbc.trans ((below_regrown wc dq osq).mono hbc.size)
            clear d1 d2 d3 d4 d5
            go_wp2
            go_roundw
            case rel => exact ⟨i + 1, by omega, by omega, by go_num, hb7⟩
            case measure => simp [intOf]; omega
          · have hih2 : (hf : Int) < (i : Int) := by omega
            have d1 : decide ((i : Int) ≤ (hf : Int)) = false := decide_eq_false (by omega)
            have d2 : decide (i ≤ hf) = false := decide_eq_false hih
            have d3 : decide ((hf : Int) < (i : Int)) = true := decide_eq_true hih2
            have d4 : decide (hf < i) = true := decide_eq_true (by omega)
            have d5 : decide (t1 < r1) = false := decide_eq_false (by have := c6 (by omega); omega)
            clear c5 c6 hih
            go_wp2_with fail
            refine region_qw (by kernel_rfl) (by kernel_rfl) ?_
            repeat (
              refine qw_step (fun K hK => ?_)
              go_simp
              first
                | (refine hK _ ?_; clear hK K)
                | fail)
            refine qw_nil ?_
            intro _ hw'
            obtain ⟨⟨dq, osq⟩, hw''⟩ := hw'
            subst hw''
            have hb7 := hbc.trans ((below_regrown wc dq osq).mono hbc.size)
            clear d1 d2 d3 d4 d5
            go_wp2
            go_roundw
            case rel => exact ⟨i + 1, by omega, by omega, by go_num, hb7⟩
            case measure => simp [intOf]; omega
        · go_wp2
          go_ret
          exact ⟨rfl, hB5.trans (hbv.mono hB5.size)⟩
end Go.Proofs.Ytbmbejomodkabaa
