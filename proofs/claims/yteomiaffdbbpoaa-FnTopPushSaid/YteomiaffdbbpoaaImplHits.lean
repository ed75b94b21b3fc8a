/-
  Contract of impl.HitsOk.
-/
import Derived.Test.YteomiaffdbbpoaaHasDoc
import Derived.Test.YteomiaffdbbpoaaQw
namespace Go.Proofs.Yteomiaffdbbpoaa
open Go.RowKit Go.Sort
set_option linter.unusedVariables false

theorem hcmpL_lt {a b : Int × Int} (h : lessH a b = true) : hcmpL a b < 0 := of_decide_eq_true (by rw [hcmpL_less]; exact h)
theorem hcmpL_ge {a b : Int × Int} (h : lessH a b = false) : ¬ hcmpL a b < 0 := of_decide_eq_false (by rw [hcmpL_less]; exact h)
theorem cWithin (p lo hi : Int) (r : Bool) (hr : wi p lo hi = r) (W : World) (d : Nat) (os : Array Obj) :
    Calls Try.prog 53 #[.int .i64 p, .int .i64 lo, .int .i64 hi] (grow (redrawn W d) os) fun e w'' => e = .returned (.bool r) ∧ ∃ p : Regrown, w'' = grow (redrawn W p.d) p.os :=
  Calls.regrown_of ((within_any p lo hi _).mono fun _ _ ⟨h1, h2⟩ => ⟨by rw [h1, hr], by rw [← h2]; exact Below.refl _ _⟩)
theorem cHasDoc (A : Option Addr) (c : Nat) (L : List (Int × Int)) (n : Nat) (hl : L.length = n) (x : Int) (r : Bool) (hr : anyDoc L x = r) (W : World) (h : Rds W 2 A L.length (L.flatMap enc2)) (hn : L.length ≤ 1048576) (d : Nat) (os : Array Obj) :
    Calls Try.prog 54 #[.slice A n c, .int .i64 x] (grow (redrawn W d) os) fun e w'' => e = .returned (.bool r) ∧ ∃ p : Regrown, w'' = grow (redrawn W p.d) p.os := by
  subst hl
  subst hr
  exact Calls.regrown_of (hasDoc_any A c L x _ (h.below (below_regrown W d os)) hn)
theorem cHitOrder (a0 a1 b0 b1 : Int) (r : Int) (hr : hcmpL (a0, a1) (b0, b1) = r) (W : World) (d : Nat) (os : Array Obj) :
    Calls Try.prog 55 #[.agg #[.int .i64 a0, .int .i64 a1], .agg #[.int .i64 b0, .int .i64 b1]] (grow (redrawn W d) os) fun e w'' => e = .returned (.int .i64 r) ∧ ∃ p : Regrown, w'' = grow (redrawn W p.d) p.os := by
  subst hr
  refine Calls.regrown_of ((hitOrder_exact (a0, a1) (b0, b1) _).mono fun _ _ ⟨h1, q, os', h2⟩ => ⟨h1, ?_⟩)
  rw [h2]
  exact ⟨rfl, rfl, rfl, by simp [grow], fun k hk => by simp only [grow]; rw [Array.getElem?_append_left (by simpa using hk)]; rfl⟩
/-- the list up to k, at the same place. -/
theorem Rds.take2 {w : World} {b off : Nat} {L : List (Int × Int)} (h : Rds w 2 (some ⟨b, off, none⟩) L.length (L.flatMap enc2)) {k : Nat} (hk : k ≤ L.length) : Rds w 2 (some ⟨b, off, none⟩) (L.take k).length ((L.take k).flatMap enc2) := by
  have h2 : SrcE enc2 2 w (some ⟨b, off, none⟩) 0 L := ⟨h, .inr ⟨_, rfl⟩⟩
  exact (h2.take (c' := 0) ⟨enc2_len, by intro x u hu; simp [enc2] at hu; rcases hu with rfl | rfl <;> rfl⟩ hk).1
set_option maxHeartbeats 1600000 in
theorem implHitsOk_any (A : Option Addr) (c : Nat) (L : List (Int × Int)) (w : World) (h : Rds w 2 A L.length (L.flatMap enc2)) (hn : L.length ≤ 1048576) (hcap : L.length ≤ c) (hcm : c ≤ 9223372036854775807) :
    Calls Try.prog 16 #[.slice A L.length c] w fun e w' => e = .returned (.bool (hitsB L)) ∧ Below w.heap.size w w' := by
  obtain ⟨R, hR⟩ : ∃ R, R = hitsB L := ⟨_, rfl⟩
  rw [← hR]
  have HR := Lib.hid hR
  clear hR
  go_enter Try.func16, Try.ntmps16
  go_wp2_with fail
  go_loopw [3, 4, 7] (fun _ _ iv wr => ∃ k : Nat, k ≤ L.length ∧ iv = .int .i64 k ∧ Hid (okTo L k = true) ∧ Below w.heap.size w wr) (fun _ _ iv _ => L.length - (intOf iv).toNat)
  case atStart => exact ⟨0, Nat.zero_le _, rfl, rfl, Below.refl _ _⟩
  case round =>
    obtain ⟨k, hk, rfl, hm, hB⟩ := hrel
    have hBs := hB.size
    by_cases hlt : k < L.length
    · have hr := h.below hB
      obtain ⟨b, off, rfl, hb, x0, x1⟩ := hr.at2 hlt
      have hi0 : (k : Int) < (L.length : Int) := by omega
      have hok := okH_at hlt
      have HFALSE := Lib.hid (okTo_false hlt)
      have HSUCC := Lib.hid (okTo_succ L k)
      have htk := hr.take2 hk
      have htl : (L.take k).length = k := by rw [List.length_take, Nat.min_eq_left hk]
      have hkc : k ≤ c := by omega
      cases hw : wi L[k].1 1 9999 with
      | false =>
        have HN : Hid (R = false) := by show _ = _; rw [HR.out, HFALSE.out (by rw [hok, hw]; rfl)]
        clear hok HFALSE HSUCC
        generalize L[k].1 = p at x0 hw
        generalize L[k].2 = q at x1
        have hBW : Below w.heap.size w (wr.alloc (.cells #[.int .i64 p, .int .i64 q] 49)) := hB.trans (((Below.refl _ _).alloc (Nat.le_refl _) _).mono hBs)
        have f0 : ((wr.alloc (.cells #[.int .i64 p, .int .i64 q] 49))).cell? ⟨wr.heap.size, 0, none⟩ = some (.int .i64 p) := by simp [go_sem]
        have f1 : ((wr.alloc (.cells #[.int .i64 p, .int .i64 q] 49))).cell? ⟨wr.heap.size, 1, none⟩ = some (.int .i64 q) := by simp [go_sem]
        have htk2 := htk.below ((Below.refl _ wr).alloc (Nat.le_refl _) (.cells #[.int .i64 p, .int .i64 q] 49))
        go_wp2_with fail
        generalize (wr.alloc (.cells #[.int .i64 p, .int .i64 q] 49)) = W1 at hBW f0 f1 htk2 ⊢
        have k0 := cell_regrown f0
        have k1 := cell_regrown f1
        refine region_qw (by kernel_rfl) (by kernel_rfl) ?_
        repeat (
          refine qw_step (fun K hK => ?_)
          go_simp
          first
            | (refine hK _ ?_; clear hK K)
            | (apply Exists.intro
               refine ⟨fun _ => ?_, hK _ ?_⟩
               (first | (go_at_call 53; exact cWithin _ _ _ _ hw _ _ _))
               clear hK K))
        refine qw_nil ?_
        intro _ hw'
        obtain ⟨⟨dq, osq⟩, hw''⟩ := hw'
        subst hw''
        go_wp2
        go_ret
        exact ⟨ret_bool HN.out.symm, hBW.trans ((below_regrown W1 dq osq).mono hBW.size)⟩
      | true =>
        rw [hw, Bool.true_and] at hok
        cases hq : ltB L[k].2 1 with
        | true =>
          have HN : Hid (R = false) := by show _ = _; rw [HR.out, HFALSE.out (by rw [hok, hq]; rfl)]
          have hq1 : L[k].2 < 1 := of_decide_eq_true hq
          clear hok HFALSE HSUCC hq
          generalize L[k].1 = p at x0 hw
          generalize L[k].2 = q at x1 hq1
          have hq2 : decide (q < 1) = true := decide_eq_true hq1
          have hBW : Below w.heap.size w (wr.alloc (.cells #[.int .i64 p, .int .i64 q] 49)) := hB.trans (((Below.refl _ _).alloc (Nat.le_refl _) _).mono hBs)
          have f0 : ((wr.alloc (.cells #[.int .i64 p, .int .i64 q] 49))).cell? ⟨wr.heap.size, 0, none⟩ = some (.int .i64 p) := by simp [go_sem]
          have f1 : ((wr.alloc (.cells #[.int .i64 p, .int .i64 q] 49))).cell? ⟨wr.heap.size, 1, none⟩ = some (.int .i64 q) := by simp [go_sem]
          have htk2 := htk.below ((Below.refl _ wr).alloc (Nat.le_refl _) (.cells #[.int .i64 p, .int .i64 q] 49))
          go_wp2_with fail
          generalize (wr.alloc (.cells #[.int .i64 p, .int .i64 q] 49)) = W1 at hBW f0 f1 htk2 ⊢
          have k0 := cell_regrown f0
          have k1 := cell_regrown f1
          refine region_qw (by kernel_rfl) (by kernel_rfl) ?_
          repeat (
            refine qw_step (fun K hK => ?_)
            go_simp
            first
              | (refine hK _ ?_; clear hK K)
              | (apply Exists.intro
                 refine ⟨fun _ => ?_, hK _ ?_⟩
                 (first | (go_at_call 53; exact cWithin _ _ _ _ hw _ _ _))
                 clear hK K))
          refine qw_nil ?_
          intro _ hw'
          obtain ⟨⟨dq, osq⟩, hw''⟩ := hw'
          subst hw''
          go_wp2
          go_ret
          exact ⟨ret_bool HN.out.symm, hBW.trans ((below_regrown W1 dq osq).mono hBW.size)⟩
        | false =>
          rw [hq, Bool.not_false, Bool.true_and] at hok
          have hq1 : decide (L[k].2 < 1) = false := hq
          clear hq
          cases had : anyDoc (L.take k) L[k].1 with
          | true =>
            have HN : Hid (R = false) := by show _ = _; rw [HR.out, HFALSE.out (by rw [hok, had]; simp)]
            clear hok HFALSE HSUCC
            generalize L[k].1 = p at x0 hw had
            generalize L[k].2 = q at x1 hq1
            have hBW : Below w.heap.size w (wr.alloc (.cells #[.int .i64 p, .int .i64 q] 49)) := hB.trans (((Below.refl _ _).alloc (Nat.le_refl _) _).mono hBs)
            have f0 : ((wr.alloc (.cells #[.int .i64 p, .int .i64 q] 49))).cell? ⟨wr.heap.size, 0, none⟩ = some (.int .i64 p) := by simp [go_sem]
            have f1 : ((wr.alloc (.cells #[.int .i64 p, .int .i64 q] 49))).cell? ⟨wr.heap.size, 1, none⟩ = some (.int .i64 q) := by simp [go_sem]
            have htk2 := htk.below ((Below.refl _ wr).alloc (Nat.le_refl _) (.cells #[.int .i64 p, .int .i64 q] 49))
            go_wp2_with fail
            generalize (wr.alloc (.cells #[.int .i64 p, .int .i64 q] 49)) = W1 at hBW f0 f1 htk2 ⊢
            have k0 := cell_regrown f0
            have k1 := cell_regrown f1
            refine region_qw (by kernel_rfl) (by kernel_rfl) ?_
            repeat (
              refine qw_step (fun K hK => ?_)
              go_simp
              first
                | (refine hK _ ?_; clear hK K)
                | (apply Exists.intro
                   refine ⟨fun _ => ?_, hK _ ?_⟩
                   (first | (go_at_call 53; exact cWithin _ _ _ _ hw _ _ _) | (go_at_call 54; exact cHasDoc _ _ _ _ htl _ _ had _ htk2 (by omega) _ _))
                   clear hK K))
            refine qw_nil ?_
            intro _ hw'
            obtain ⟨⟨dq, osq⟩, hw''⟩ := hw'
            subst hw''
            go_wp2
            go_ret
            exact ⟨ret_bool HN.out.symm, hBW.trans ((below_regrown W1 dq osq).mono hBW.size)⟩
          | false =>
            rw [had, Bool.not_false, Bool.and_true] at hok
            by_cases hk0 : k = 0
            · have HS : Hid (okTo L (k + 1) = true) := by show _ = _; rw [HSUCC.out, hm.out, hok, decide_eq_true hk0]; rfl
              have hkz : decide ((0 : Int) < (k : Int)) = false := decide_eq_false (by omega)
              have hkz2 : decide (0 < k) = false := decide_eq_false (by omega)
              clear hok HFALSE HSUCC hm hk0
              generalize L[k].1 = p at x0 hw had
              generalize L[k].2 = q at x1 hq1
              have hBW : Below w.heap.size w (wr.alloc (.cells #[.int .i64 p, .int .i64 q] 49)) := hB.trans (((Below.refl _ _).alloc (Nat.le_refl _) _).mono hBs)
              have f0 : ((wr.alloc (.cells #[.int .i64 p, .int .i64 q] 49))).cell? ⟨wr.heap.size, 0, none⟩ = some (.int .i64 p) := by simp [go_sem]
              have f1 : ((wr.alloc (.cells #[.int .i64 p, .int .i64 q] 49))).cell? ⟨wr.heap.size, 1, none⟩ = some (.int .i64 q) := by simp [go_sem]
              have htk2 := htk.below ((Below.refl _ wr).alloc (Nat.le_refl _) (.cells #[.int .i64 p, .int .i64 q] 49))
              go_wp2_with fail
              generalize (wr.alloc (.cells #[.int .i64 p, .int .i64 q] 49)) = W1 at hBW f0 f1 htk2 ⊢
              have k0 := cell_regrown f0
              have k1 := cell_regrown f1
              refine region_qw (by kernel_rfl) (by kernel_rfl) ?_
              repeat (
                refine qw_step (fun K hK => ?_)
                go_simp
                first
                  | (refine hK _ ?_; clear hK K)
                  | (apply Exists.intro
                     refine ⟨fun _ => ?_, hK _ ?_⟩
                     (first | (go_at_call 53; exact cWithin _ _ _ _ hw _ _ _) | (go_at_call 54; exact cHasDoc _ _ _ _ htl _ _ had _ htk2 (by omega) _ _))
                     clear hK K))
              refine qw_nil ?_
              intro _ hw'
              obtain ⟨⟨dq, osq⟩, hw''⟩ := hw'
              subst hw''
              go_wp2
              go_roundw
              case rel => exact ⟨k + 1, by omega, by go_num, HS, hBW.trans ((below_regrown W1 dq osq).mono hBW.size)⟩
              case measure => simp [intOf]; omega
            · obtain ⟨j0, hkj⟩ : ∃ j0, k = j0 + 1 := ⟨k - 1, by omega⟩
              obtain ⟨_, y0, y1⟩ := Rds.all2 hr (k := j0) (by omega)
              rw [decide_eq_false hk0, Bool.false_or, show k - 1 = j0 by omega, getD2 (show j0 < L.length by omega)] at hok
              have hok2 : okH L k = lessH (L[j0].1, L[j0].2) (L[k].1, L[k].2) := hok
              have HOK := Lib.hid hok2
              clear hok hok2
              generalize L[k].1 = p at x0 hw had HOK
              generalize L[k].2 = q at x1 hq1 HOK
              generalize L[j0].1 = p' at y0 HOK
              generalize L[j0].2 = q' at y1 HOK
              have hi2 : (j0 : Int) < (L.length : Int) := by omega
              have hz1 : (0 : Int) ≤ (j0 : Int) := by omega
              have hw3 : IntKind.i64.wrap ((k : Int) - 1) = (j0 : Int) := by rw [show (k : Int) - 1 = (j0 : Int) by omega]; exact IntWalk.i64_in _ (by omega)
              have hkz : decide ((0 : Int) < (k : Int)) = true := decide_eq_true (by omega)
              have hkz2 : decide (0 < k) = true := decide_eq_true (by omega)
              clear hkj
              cases hls : lessH (p', q') (p, q) with
              | false =>
                have HN : Hid (R = false) := by show _ = _; rw [HR.out, HFALSE.out (by rw [HOK.out, hls])]
                have hzl := hcmpL_ge hls
                obtain ⟨z, hz⟩ : ∃ z, hcmpL (p', q') (p, q) = z := ⟨_, rfl⟩
                rw [hz] at hzl
                have hzd : decide ((0 : Int) ≤ z) = true := decide_eq_true (by omega)
                clear HFALSE HSUCC HOK hk0
                have hBW : Below w.heap.size w (wr.alloc (.cells #[.int .i64 p, .int .i64 q] 49)) := hB.trans (((Below.refl _ _).alloc (Nat.le_refl _) _).mono hBs)
                have f0 : ((wr.alloc (.cells #[.int .i64 p, .int .i64 q] 49))).cell? ⟨wr.heap.size, 0, none⟩ = some (.int .i64 p) := by simp [go_sem]
                have f1 : ((wr.alloc (.cells #[.int .i64 p, .int .i64 q] 49))).cell? ⟨wr.heap.size, 1, none⟩ = some (.int .i64 q) := by simp [go_sem]
                have htk2 := htk.below ((Below.refl _ wr).alloc (Nat.le_refl _) (.cells #[.int .i64 p, .int .i64 q] 49))
                have f2 : ((wr.alloc (.cells #[.int .i64 p, .int .i64 q] 49))).cell? ⟨b, off + j0 * 2, none⟩ = some (.int .i64 p') := (((Below.refl _ wr).alloc (Nat.le_refl _) _).cell (p := ⟨_, _, _⟩) hb).trans y0
                have f3 : ((wr.alloc (.cells #[.int .i64 p, .int .i64 q] 49))).cell? ⟨b, off + j0 * 2 + 1, none⟩ = some (.int .i64 q') := (((Below.refl _ wr).alloc (Nat.le_refl _) _).cell (p := ⟨_, _, _⟩) hb).trans y1
                go_wp2_with fail
                generalize (wr.alloc (.cells #[.int .i64 p, .int .i64 q] 49)) = W1 at hBW f0 f1 htk2 f2 f3 ⊢
                have k0 := cell_regrown f0
                have k1 := cell_regrown f1
                have k2 := cell_regrown f2
                have k3 := cell_regrown f3
                refine region_qw (by kernel_rfl) (by kernel_rfl) ?_
                repeat (
                  refine qw_step (fun K hK => ?_)
                  go_simp
                  first
                    | (refine hK _ ?_; clear hK K)
                    | (apply Exists.intro
                       refine ⟨fun _ => ?_, hK _ ?_⟩
                       (first | (go_at_call 53; exact cWithin _ _ _ _ hw _ _ _) | (go_at_call 54; exact cHasDoc _ _ _ _ htl _ _ had _ htk2 (by omega) _ _) | (go_at_call 55; exact cHitOrder _ _ _ _ _ hz _ _ _))
                       clear hK K))
                refine qw_nil ?_
                intro _ hw'
                obtain ⟨⟨dq, osq⟩, hw''⟩ := hw'
                subst hw''
                go_wp2
                go_ret
                exact ⟨ret_bool HN.out.symm, hBW.trans ((below_regrown W1 dq osq).mono hBW.size)⟩
              | true =>
                have HS : Hid (okTo L (k + 1) = true) := by show _ = _; rw [HSUCC.out, hm.out, HOK.out, hls]; rfl
                have hzl := hcmpL_lt hls
                obtain ⟨z, hz⟩ : ∃ z, hcmpL (p', q') (p, q) = z := ⟨_, rfl⟩
                rw [hz] at hzl
                have hzd : decide ((0 : Int) ≤ z) = false := decide_eq_false (by omega)
                clear HFALSE HSUCC HOK hk0 hm
                have hBW : Below w.heap.size w (wr.alloc (.cells #[.int .i64 p, .int .i64 q] 49)) := hB.trans (((Below.refl _ _).alloc (Nat.le_refl _) _).mono hBs)
                have f0 : ((wr.alloc (.cells #[.int .i64 p, .int .i64 q] 49))).cell? ⟨wr.heap.size, 0, none⟩ = some (.int .i64 p) := by simp [go_sem]
                have f1 : ((wr.alloc (.cells #[.int .i64 p, .int .i64 q] 49))).cell? ⟨wr.heap.size, 1, none⟩ = some (.int .i64 q) := by simp [go_sem]
                have htk2 := htk.below ((Below.refl _ wr).alloc (Nat.le_refl _) (.cells #[.int .i64 p, .int .i64 q] 49))
                have f2 : ((wr.alloc (.cells #[.int .i64 p, .int .i64 q] 49))).cell? ⟨b, off + j0 * 2, none⟩ = some (.int .i64 p') := (((Below.refl _ wr).alloc (Nat.le_refl _) _).cell (p := ⟨_, _, _⟩) hb).trans y0
                have f3 : ((wr.alloc (.cells #[.int .i64 p, .int .i64 q] 49))).cell? ⟨b, off + j0 * 2 + 1, none⟩ = some (.int .i64 q') := (((Below.refl _ wr).alloc (Nat.le_refl _) _).cell (p := ⟨_, _, _⟩) hb).trans y1
                go_wp2_with fail
                generalize (wr.alloc (.cells #[.int .i64 p, .int .i64 q] 49)) = W1 at hBW f0 f1 htk2 f2 f3 ⊢
                have k0 := cell_regrown f0
                have k1 := cell_regrown f1
                have k2 := cell_regrown f2
                have k3 := cell_regrown f3
                refine region_qw (by kernel_rfl) (by kernel_rfl) ?_
                repeat (
                  refine qw_step (fun K hK => ?_)
                  go_simp
                  first
                    | (refine hK _ ?_; clear hK K)
                    | (apply Exists.intro
                       refine ⟨fun _ => ?_, hK _ ?_⟩
                       (first | (go_at_call 53; exact cWithin _ _ _ _ hw _ _ _) | (go_at_call 54; exact cHasDoc _ _ _ _ htl _ _ had _ htk2 (by omega) _ _) | (go_at_call 55; exact cHitOrder _ _ _ _ _ hz _ _ _))
                       clear hK K))
                refine qw_nil ?_
                intro _ hw'
                obtain ⟨⟨dq, osq⟩, hw''⟩ := hw'
                subst hw''
                go_wp2
                go_roundw
                case rel => exact ⟨k + 1, by omega, by go_num, HS, hBW.trans ((below_regrown W1 dq osq).mono hBW.size)⟩
                case measure => simp [intOf]; omega
    · have hkk : L.length = k := by omega
      have HN : Hid (R = decide (L.length ≤ 16)) := by show _ = _; rw [HR.out]; unfold hitsB; rw [hkk, hm.out]; rfl
      clear hm HR
      by_cases h16 : L.length ≤ 16
      · go_wp2
        go_ret
        exact ⟨ret_bool (by rw [HN.out]; simp; omega), hB⟩
      · go_wp2
        go_ret
        exact ⟨ret_bool (by rw [HN.out]; simp; omega), hB⟩
end Go.Proofs.Yteomiaffdbbpoaa
