/-
  Contract of spec.l6Ok.
-/
import Derived.Test.YteomiaffdbbpoaaDocOk
import Derived.Laws.Cover1
namespace Go.Proofs.Yteomiaffdbbpoaa
open Go.RowKit Go.Sort
set_option linter.unusedVariables false

theorem cL1Fold (n : Int) (r : Int) (hr : foldI n = r) (h0 : 0 ≤ n) (h1 : n ≤ 255) (W : World) (d : Nat) (os : Array Obj) :
    Calls Try.prog 133 #[.int .u8 n] (grow (redrawn W d) os) fun e w'' => e = .returned (.int .u8 r) ∧ ∃ p : Regrown, w'' = grow (redrawn W p.d) p.os :=
  Calls.regrown_of ((l1Fold_any n h0 h1 _).mono fun _ _ ⟨h1, h2⟩ => ⟨by rw [h1, hr], by rw [← h2]; exact Below.refl _ _⟩)
theorem l1WordOk_any (s : ByteArray) (w : World) (hs : s.size ≤ 9223372036854775000) :
    Calls Try.prog 111 #[.string s] w fun e w' => e = .returned (.bool (wordB s)) ∧ Below w.heap.size w w' := by
  obtain ⟨R, hR⟩ : ∃ R, R = wordB s := ⟨_, rfl⟩
  rw [← hR]
  have HR := Lib.hid hR
  clear hR
  go_enter Try.func111, Try.ntmps111
  go_wp2_with fail
  go_loopw [3] (fun iv wr => ∃ k : Nat, k ≤ s.size ∧ iv = .int .i64 k ∧ Hid ((s.data.toList.take k).all (fun b => wbI (b.toNat : Int)) = true) ∧ Below w.heap.size w wr) (fun iv _ => s.size - (intOf iv).toNat)
  case atStart => exact ⟨0, Nat.zero_le _, rfl, rfl, Below.refl _ _⟩
  case round =>
    obtain ⟨k, hk, rfl, hm, hB⟩ := hrel
    by_cases hlt : k < s.size
    · have hn := all_next (fun b => wbI (b.toNat : Int)) s k hlt
      have hst := all_stop (fun b => wbI (b.toNat : Int)) s k hlt
      have hb := s[k].toNat_lt
      have hi0 : (k : Int) < (s.size : Int) := by omega
      cases hw : wbI (s[k].toNat : Int) with
      | true =>
        have HM : Hid ((s.data.toList.take (k + 1)).all (fun b => wbI (b.toNat : Int)) = true) := by show _ = _; rw [hn, hm.out, hw]; rfl
        have hfo := foldI_wb hw
        have hne : ((s[k].toNat : Int) != (s[k].toNat : Int)) = false := by simp
        have hnz : ((s[k].toNat : Int) == 0) = false := by have := wbI_true.1 hw; rw [beq_eq_false_iff_ne]; omega
        clear hn hst hm
        go_wp2_with fail
        refine region_qw (by kernel_rfl) (by kernel_rfl) ?_
        repeat (
          refine qw_step (fun K hK => ?_)
          go_simp
          first
            | (refine hK _ ?_; clear hK K)
            | (apply Exists.intro
               refine ⟨fun _ => ?_, hK _ ?_⟩
               (first | (go_at_call 133; exact cL1Fold _ _ hfo (by omega) (by omega) _ _ _))
               clear hK K))
        refine qw_nil ?_
        intro _ hw'
        obtain ⟨⟨dq, osq⟩, hw''⟩ := hw'
        subst hw''
        have hBw := hB.trans ((below_regrown wr dq osq).mono hB.size)
        generalize grow (redrawn wr dq) osq = Wq at hBw ⊢
        go_wp2
        go_roundw
        case rel => exact ⟨k + 1, by omega, by go_num, HM, hBw⟩
        case measure => simp [intOf]; omega
      | false =>
        have HN : Hid (R = false) := by show _ = _; rw [HR.out]; unfold wordB; rw [hst hw]; rfl
        clear hn hst hm
        rcases Classical.em ((s[k].toNat : Int) = 0) with hz | hz
        · have hfo0 : foldI 0 = 0 := by decide
          have hne : ((0 : Int) != (s[k].toNat : Int)) = false := by rw [hz]; rfl
          have hnz : ((s[k].toNat : Int) == 0) = true := by rw [hz]; rfl
          go_wp2_with fail
          refine region_qw (by kernel_rfl) (by kernel_rfl) ?_
          repeat (
            refine qw_step (fun K hK => ?_)
            go_simp
            first
              | (refine hK _ ?_; clear hK K)
              | (apply Exists.intro
                 refine ⟨fun _ => ?_, hK _ ?_⟩
                 (first | (go_at_call 133; exact cL1Fold _ _ hfo0 (by omega) (by omega) _ _ _))
                 clear hK K))
          refine qw_nil ?_
          intro _ hw'
          obtain ⟨⟨dq, osq⟩, hw''⟩ := hw'
          subst hw''
          have hBw := hB.trans ((below_regrown wr dq osq).mono hB.size)
          go_wp2
          go_ret
          exact ⟨ret_bool HN.out.symm, hBw⟩
        · obtain ⟨z, hfo⟩ : ∃ z, foldI (s[k].toNat : Int) = z := ⟨_, rfl⟩
          have hzz : z ≠ (s[k].toNat : Int) := by rw [← hfo]; exact (foldI_no hw).resolve_right hz
          have hne : (z != (s[k].toNat : Int)) = true := by simpa using hzz
          go_wp2_with fail
          refine region_qw (by kernel_rfl) (by kernel_rfl) ?_
          repeat (
            refine qw_step (fun K hK => ?_)
            go_simp
            first
              | (refine hK _ ?_; clear hK K)
              | (apply Exists.intro
                 refine ⟨fun _ => ?_, hK _ ?_⟩
                 (first | (go_at_call 133; exact cL1Fold _ _ hfo (by omega) (by omega) _ _ _))
                 clear hK K))
          refine qw_nil ?_
          intro _ hw'
          obtain ⟨⟨dq, osq⟩, hw''⟩ := hw'
          subst hw''
          have hBw := hB.trans ((below_regrown wr dq osq).mono hB.size)
          go_wp2
          go_ret
          exact ⟨ret_bool HN.out.symm, hBw⟩
    · have HM : Hid (R = wi (s.size : Int) 1 12) := by
        show _ = _
        have := hm.out
        rw [List.take_of_length_le (by rw [bytes_len]; omega)] at this
        rw [HR.out]; unfold wordB; rw [this]; rfl
      clear hm
      go_wp2_with fail
      refine (l1In_any _ _ _ _).mono ?_
      rintro e w1 ⟨rfl, rfl⟩
      go_wp2
      go_ret
      exact ⟨ret_bool HM.out.symm, hB⟩
theorem cL1Word (s : ByteArray) (r : Bool) (hr : wordB s = r) (hs : s.size ≤ 9223372036854775000) (W : World) (d : Nat) (os : Array Obj) :
    Calls Try.prog 111 #[.string s] (grow (redrawn W d) os) fun e w'' => e = .returned (.bool r) ∧ ∃ p : Regrown, w'' = grow (redrawn W p.d) p.os := by
  subst hr
  exact Calls.regrown_of (l1WordOk_any s _ hs)
theorem cL1Text (s : ByteArray) (r : Bool) (hr : textB s = r) (hs : s.size ≤ 9223372036854775000) (W : World) (d : Nat) (os : Array Obj) :
    Calls Try.prog 112 #[.string s] (grow (redrawn W d) os) fun e w'' => e = .returned (.bool r) ∧ ∃ p : Regrown, w'' = grow (redrawn W p.d) p.os :=
  Calls.regrown_of ((l1Text_any s _ hs).mono fun _ _ ⟨h1, h2⟩ => ⟨by rw [h1, hr], by rw [← h2]; exact Below.refl _ _⟩)
theorem cL1In (p lo hi : Int) (r : Bool) (hr : wi p lo hi = r) (W : World) (d : Nat) (os : Array Obj) :
    Calls Try.prog 73 #[.int .i64 p, .int .i64 lo, .int .i64 hi] (grow (redrawn W d) os) fun e w'' => e = .returned (.bool r) ∧ ∃ p : Regrown, w'' = grow (redrawn W p.d) p.os :=
  Calls.regrown_of ((l1In_any p lo hi _).mono fun _ _ ⟨h1, h2⟩ => ⟨by rw [h1, hr], by rw [← h2]; exact Below.refl _ _⟩)
theorem wiLen (n : Nat) : wi (n : Int) 0 3 = decide (n ≤ 3) := by unfold wi; rw [Bool.eq_iff_iff]; simp; omega
set_option maxHeartbeats 1600000 in
theorem l6Ok_any (d : DocD) (A1 A2 : Option Addr) (c1 c2 : Nat) (w : World) (h : HasD w d A1 A2) (hs : SmD d) :
    Calls Try.prog 90 #[.agg #[.int .i64 d.id, .slice A1 d.fs.length c1, .slice A2 d.ns.length c2]] w fun e w' => e = .returned (.bool (docB d)) ∧ Below w.heap.size w w' := by
  obtain ⟨id, fs, ns⟩ := d
  obtain ⟨R, hR⟩ : ∃ R, R = docB ⟨id, fs, ns⟩ := ⟨_, rfl⟩
  rw [← hR]
  have HR := Lib.hid hR
  clear hR
  obtain ⟨hF, hA⟩ := h
  obtain ⟨hs1, hs2, hs3, hs4, hs5⟩ := hs
  dsimp only at hF hA hs1 hs2 hs3 hs4 hs5 ⊢
  have HS1 := Lib.hid hs3
  have HS2 := Lib.hid hs4
  have HS3 := Lib.hid hs5
  clear hs3 hs4 hs5
  have hB0 : Below w.heap.size w (w.alloc (.cells #[.int .i64 id, .slice A1 fs.length c1, .slice A2 ns.length c2] 42)) := (Below.refl _ _).alloc (Nat.le_refl _) _
  have f0 : (w.alloc (.cells #[.int .i64 id, .slice A1 fs.length c1, .slice A2 ns.length c2] 42)).cell? ⟨w.heap.size, 0, none⟩ = some (.int .i64 id) := by simp [go_sem]
  have f1 : (w.alloc (.cells #[.int .i64 id, .slice A1 fs.length c1, .slice A2 ns.length c2] 42)).cell? ⟨w.heap.size, 1, none⟩ = some (.slice A1 fs.length c1) := by simp [go_sem]
  have f2 : (w.alloc (.cells #[.int .i64 id, .slice A1 fs.length c1, .slice A2 ns.length c2] 42)).cell? ⟨w.heap.size, 2, none⟩ = some (.slice A2 ns.length c2) := by simp [go_sem]
  have hs0 : w.heap.size < (w.alloc (.cells #[.int .i64 id, .slice A1 fs.length c1, .slice A2 ns.length c2] 42)).heap.size := by simp
  have hF0 := hF.below hB0
  have hA0 := hA.below hB0
  clear hF hA
  go_enter Try.func90, Try.ntmps90
  go_wp2_with fail
  generalize (w.alloc (.cells #[.int .i64 id, .slice A1 fs.length c1, .slice A2 ns.length c2] 42)) = W0 at hB0 f0 f1 f2 hs0 hF0 hA0 ⊢
  go_loopw [3, 4] (fun iv _ wr => ∃ k : Nat, k ≤ fs.length ∧ iv = .int .i64 k ∧ Hid (toF fs k = true) ∧ Below W0.heap.size W0 wr) (fun iv _ _ => fs.length - (intOf iv).toNat)
  case atStart => exact ⟨0, Nat.zero_le _, rfl, rfl, Below.refl _ _⟩
  case round =>
    obtain ⟨k, hk, rfl, hm, hB⟩ := hrel
    have hBs := hB.size
    have d9 := (hB.cell (p := ⟨w.heap.size, 1, none⟩) hs0).trans f1
    by_cases hlt : k < fs.length
    · have hr := (hF0).below hB
      obtain ⟨b, off, rfl, hb, x0, x1⟩ := hr.atF hlt
      have hi0 : (k : Int) < (fs.length : Int) := by omega
      have hok := okF_at hlt
      have hf1 := HS1.out _ (List.getElem_mem hlt)
      have hf2 := HS2.out _ (List.getElem_mem hlt)
      have HFALSE := Lib.hid (toF_false hlt)
      have HSUCC := Lib.hid (toF_succ fs k)
      have HRF : Hid (toF fs fs.length = false → R = false) := fun h9 => by rw [HR.out]; unfold docB; dsimp only; rw [h9]; simp
      cases hw : wordB fs[k].1 with
      | false =>
        have HN : Hid (R = false) := HRF.out (HFALSE.out (by rw [hok, hw]; rfl))
        clear hok HFALSE HSUCC HRF hm
        generalize fs[k].1 = p at x0 hw hf1
        generalize fs[k].2 = q at x1 hf2
        have hBW : Below W0.heap.size W0 (wr.alloc (.cells #[.string p, .string q] 117)) := hB.trans (((Below.refl _ _).alloc (Nat.le_refl _) _).mono hBs)
        have g0 : ((wr.alloc (.cells #[.string p, .string q] 117))).cell? ⟨wr.heap.size, 0, none⟩ = some (.string p) := by simp [go_sem]
        have g1 : ((wr.alloc (.cells #[.string p, .string q] 117))).cell? ⟨wr.heap.size, 1, none⟩ = some (.string q) := by simp [go_sem]
        have d1 := (hBW.cell (p := ⟨w.heap.size, 1, none⟩) hs0).trans f1
        go_wp2_with fail
        clear x0 x1 hB hBs hr
        generalize (wr.alloc (.cells #[.string p, .string q] 117)) = W1 at hBW g0 g1 d1 ⊢
        have k0 := cell_regrown g0
        have k1 := cell_regrown g1
        have k2 := cell_regrown d1
        refine region_qw (by kernel_rfl) (by kernel_rfl) ?_
        repeat (
          refine qw_step (fun K hK => ?_)
          go_simp
          first
            | (refine hK _ ?_; clear hK K)
            | (apply Exists.intro
               refine ⟨fun _ => ?_, hK _ ?_⟩
               (first | (go_at_call 111; exact cL1Word _ _ hw (by omega) _ _ _))
               clear hK K))
        refine qw_nil ?_
        intro _ hw'
        obtain ⟨⟨dq, osq⟩, hw''⟩ := hw'
        subst hw''
        go_wp2
        go_ret
        exact ⟨ret_bool HN.out.symm, hB0.trans ((hBW.trans ((below_regrown W1 dq osq).mono hBW.size)).mono hB0.size)⟩
      | true =>
        rw [hw, Bool.true_and] at hok
        cases ht : textB fs[k].2 with
        | false =>
          have HN : Hid (R = false) := HRF.out (HFALSE.out (by rw [hok, ht]; rfl))
          clear hok HFALSE HSUCC HRF hm
          generalize fs[k].1 = p at x0 hw hf1
          generalize fs[k].2 = q at x1 hf2 ht
          have hBW : Below W0.heap.size W0 (wr.alloc (.cells #[.string p, .string q] 117)) := hB.trans (((Below.refl _ _).alloc (Nat.le_refl _) _).mono hBs)
          have g0 : ((wr.alloc (.cells #[.string p, .string q] 117))).cell? ⟨wr.heap.size, 0, none⟩ = some (.string p) := by simp [go_sem]
          have g1 : ((wr.alloc (.cells #[.string p, .string q] 117))).cell? ⟨wr.heap.size, 1, none⟩ = some (.string q) := by simp [go_sem]
          have d1 := (hBW.cell (p := ⟨w.heap.size, 1, none⟩) hs0).trans f1
          go_wp2_with fail
          clear x0 x1 hB hBs hr
          generalize (wr.alloc (.cells #[.string p, .string q] 117)) = W1 at hBW g0 g1 d1 ⊢
          have k0 := cell_regrown g0
          have k1 := cell_regrown g1
          have k2 := cell_regrown d1
          refine region_qw (by kernel_rfl) (by kernel_rfl) ?_
          repeat (
            refine qw_step (fun K hK => ?_)
            go_simp
            first
              | (refine hK _ ?_; clear hK K)
              | (apply Exists.intro
                 refine ⟨fun _ => ?_, hK _ ?_⟩
                 (first | (go_at_call 111; exact cL1Word _ _ hw (by omega) _ _ _) | (go_at_call 112; exact cL1Text _ _ ht (by omega) _ _ _))
                 clear hK K))
          refine qw_nil ?_
          intro _ hw'
          obtain ⟨⟨dq, osq⟩, hw''⟩ := hw'
          subst hw''
          go_wp2
          go_ret
          exact ⟨ret_bool HN.out.symm, hB0.trans ((hBW.trans ((below_regrown W1 dq osq).mono hBW.size)).mono hB0.size)⟩
        | true =>
          rw [ht, Bool.true_and] at hok
          by_cases hk0 : k = 0
          · have HS : Hid (toF fs (k + 1) = true) := by show _ = _; rw [HSUCC.out, hm.out, hok, decide_eq_true hk0]; rfl
            have hkz : decide ((0 : Int) < (k : Int)) = false := decide_eq_false (by omega)
            have hkz2 : decide (0 < k) = false := decide_eq_false (by omega)
            clear hok HFALSE HSUCC HRF hm hk0
            generalize fs[k].1 = p at x0 hw hf1
            generalize fs[k].2 = q at x1 hf2 ht
            have hBW : Below W0.heap.size W0 (wr.alloc (.cells #[.string p, .string q] 117)) := hB.trans (((Below.refl _ _).alloc (Nat.le_refl _) _).mono hBs)
            have g0 : ((wr.alloc (.cells #[.string p, .string q] 117))).cell? ⟨wr.heap.size, 0, none⟩ = some (.string p) := by simp [go_sem]
            have g1 : ((wr.alloc (.cells #[.string p, .string q] 117))).cell? ⟨wr.heap.size, 1, none⟩ = some (.string q) := by simp [go_sem]
            have d1 := (hBW.cell (p := ⟨w.heap.size, 1, none⟩) hs0).trans f1
            go_wp2_with fail
            clear x0 x1 hB hBs hr
            generalize (wr.alloc (.cells #[.string p, .string q] 117)) = W1 at hBW g0 g1 d1 ⊢
            have k0 := cell_regrown g0
            have k1 := cell_regrown g1
            have k2 := cell_regrown d1
            refine region_qw (by kernel_rfl) (by kernel_rfl) ?_
            repeat (
              refine qw_step (fun K hK => ?_)
              go_simp
              first
                | (refine hK _ ?_; clear hK K)
                | (apply Exists.intro
                   refine ⟨fun _ => ?_, hK _ ?_⟩
                   (first | (go_at_call 111; exact cL1Word _ _ hw (by omega) _ _ _) | (go_at_call 112; exact cL1Text _ _ ht (by omega) _ _ _))
                   clear hK K))
            refine qw_nil ?_
            intro _ hw'
            obtain ⟨⟨dq, osq⟩, hw''⟩ := hw'
            subst hw''
            go_wp2
            go_roundw
            case rel => exact ⟨k + 1, by omega, by go_num, HS, hBW.trans ((below_regrown W1 dq osq).mono hBW.size)⟩
            case measure => simp [intOf]; omega
          · obtain ⟨j0, hkj⟩ : ∃ j0, k = j0 + 1 := ⟨k - 1, by omega⟩
            have hjl : j0 < fs.length := by omega
            obtain ⟨_, y0, _⟩ := Rds.allF hr (k := j0) hjl
            rw [decide_eq_false hk0, Bool.false_or, show k - 1 = j0 by omega, getF hjl] at hok
            have HOK := Lib.hid hok
            clear hok
            have hi2 : (j0 : Int) < (fs.length : Int) := by omega
            have hz1 : (0 : Int) ≤ (j0 : Int) := by omega
            have hw3 : IntKind.i64.wrap ((k : Int) - 1) = (j0 : Int) := by rw [show (k : Int) - 1 = (j0 : Int) by omega]; exact IntWalk.i64_in _ (by omega)
            have hkz : decide ((0 : Int) < (k : Int)) = true := decide_eq_true (by omega)
            have hkz2 : decide (0 < k) = true := decide_eq_true (by omega)
            clear hkj
            cases hls : ltS fs[j0].1 fs[k].1 with
            | false =>
              have HN : Hid (R = false) := HRF.out (HFALSE.out (by rw [HOK.out, hls]))
              clear HOK HFALSE HSUCC HRF hm hk0
              generalize fs[k].1 = p at x0 hw hf1 hls
              generalize fs[k].2 = q at x1 hf2 ht
              generalize fs[j0].1 = p' at y0 hls
              have hlw : (Op.bytesLess p.toList p'.toList || p.toList == p'.toList) = true := by rw [leqS, hls]; rfl
              have hBW : Below W0.heap.size W0 (wr.alloc (.cells #[.string p, .string q] 117)) := hB.trans (((Below.refl _ _).alloc (Nat.le_refl _) _).mono hBs)
              have g0 : ((wr.alloc (.cells #[.string p, .string q] 117))).cell? ⟨wr.heap.size, 0, none⟩ = some (.string p) := by simp [go_sem]
              have g1 : ((wr.alloc (.cells #[.string p, .string q] 117))).cell? ⟨wr.heap.size, 1, none⟩ = some (.string q) := by simp [go_sem]
              have d1 := (hBW.cell (p := ⟨w.heap.size, 1, none⟩) hs0).trans f1
              have y1 : ((wr.alloc (.cells #[.string p, .string q] 117))).cell? ⟨b, off + j0 * 2, none⟩ = some (.string p') := (((Below.refl _ wr).alloc (Nat.le_refl _) _).cell (p := ⟨_, _, _⟩) hb).trans y0
              go_wp2_with fail
              clear x0 x1 hB hBs hr y0
              generalize (wr.alloc (.cells #[.string p, .string q] 117)) = W1 at hBW g0 g1 d1 y1 ⊢
              have k0 := cell_regrown g0
              have k1 := cell_regrown g1
              have k2 := cell_regrown d1
              have k3 := cell_regrown y1
              refine region_qw (by kernel_rfl) (by kernel_rfl) ?_
              repeat (
                refine qw_step (fun K hK => ?_)
                go_simp
                first
                  | (refine hK _ ?_; clear hK K)
                  | (apply Exists.intro
                     refine ⟨fun _ => ?_, hK _ ?_⟩
                     (first | (go_at_call 111; exact cL1Word _ _ hw (by omega) _ _ _) | (go_at_call 112; exact cL1Text _ _ ht (by omega) _ _ _))
                     clear hK K))
              refine qw_nil ?_
              intro _ hw'
              obtain ⟨⟨dq, osq⟩, hw''⟩ := hw'
              subst hw''
              go_wp2
              go_ret
              exact ⟨ret_bool HN.out.symm, hB0.trans ((hBW.trans ((below_regrown W1 dq osq).mono hBW.size)).mono hB0.size)⟩
            | true =>
              have HS : Hid (toF fs (k + 1) = true) := by show _ = _; rw [HSUCC.out, hm.out, HOK.out, hls]; rfl
              clear HOK HFALSE HSUCC HRF hm hk0
              generalize fs[k].1 = p at x0 hw hf1 hls
              generalize fs[k].2 = q at x1 hf2 ht
              generalize fs[j0].1 = p' at y0 hls
              have hlw : (Op.bytesLess p.toList p'.toList || p.toList == p'.toList) = false := by rw [leqS, hls]; rfl
              have hBW : Below W0.heap.size W0 (wr.alloc (.cells #[.string p, .string q] 117)) := hB.trans (((Below.refl _ _).alloc (Nat.le_refl _) _).mono hBs)
              have g0 : ((wr.alloc (.cells #[.string p, .string q] 117))).cell? ⟨wr.heap.size, 0, none⟩ = some (.string p) := by simp [go_sem]
              have g1 : ((wr.alloc (.cells #[.string p, .string q] 117))).cell? ⟨wr.heap.size, 1, none⟩ = some (.string q) := by simp [go_sem]
              have d1 := (hBW.cell (p := ⟨w.heap.size, 1, none⟩) hs0).trans f1
              have y1 : ((wr.alloc (.cells #[.string p, .string q] 117))).cell? ⟨b, off + j0 * 2, none⟩ = some (.string p') := (((Below.refl _ wr).alloc (Nat.le_refl _) _).cell (p := ⟨_, _, _⟩) hb).trans y0
              go_wp2_with fail
              clear x0 x1 hB hBs hr y0
              generalize (wr.alloc (.cells #[.string p, .string q] 117)) = W1 at hBW g0 g1 d1 y1 ⊢
              have k0 := cell_regrown g0
              have k1 := cell_regrown g1
              have k2 := cell_regrown d1
              have k3 := cell_regrown y1
              refine region_qw (by kernel_rfl) (by kernel_rfl) ?_
              repeat (
                refine qw_step (fun K hK => ?_)
                go_simp
                first
                  | (refine hK _ ?_; clear hK K)
                  | (apply Exists.intro
                     refine ⟨fun _ => ?_, hK _ ?_⟩
                     (first | (go_at_call 111; exact cL1Word _ _ hw (by omega) _ _ _) | (go_at_call 112; exact cL1Text _ _ ht (by omega) _ _ _))
                     clear hK K))
              refine qw_nil ?_
              intro _ hw'
              obtain ⟨⟨dq, osq⟩, hw''⟩ := hw'
              subst hw''
              go_wp2
              go_roundw
              case rel => exact ⟨k + 1, by omega, by go_num, HS, hBW.trans ((below_regrown W1 dq osq).mono hBW.size)⟩
              case measure => simp [intOf]; omega
    · obtain rfl : k = fs.length := by omega
      have HF9 := hm
      clear hm
      have d2 := (hB.cell (p := ⟨w.heap.size, 2, none⟩) hs0).trans f2
      have hBF := hB
      go_wp2_with fail
      go_loopw [5] (fun iv wr => ∃ k : Nat, k ≤ ns.length ∧ iv = .int .i64 k ∧ Hid (toA ns k = true) ∧ Below W0.heap.size W0 wr) (fun iv _ => ns.length - (intOf iv).toNat)
      case atStart => exact ⟨0, Nat.zero_le _, rfl, rfl, hBF⟩
      case round =>
        obtain ⟨k, hk, rfl, hm, hB⟩ := hrel
        have hBs := hB.size
        have d9 := (hB.cell (p := ⟨w.heap.size, 2, none⟩) hs0).trans f2
        by_cases hlt : k < ns.length
        · have hr := (hA0).below hB
          obtain ⟨b, off, rfl, hb, x0, x1⟩ := hr.atA hlt
          have hi0 : (k : Int) < (ns.length : Int) := by omega
          have hok := okA_at hlt
          have hf1 := HS3.out _ (List.getElem_mem hlt)
          have HFALSE := Lib.hid (toA_false hlt)
          have HSUCC := Lib.hid (toA_succ ns k)
          have HRF : Hid (toA ns ns.length = false → R = false) := fun h9 => by rw [HR.out]; unfold docB; dsimp only; rw [h9]; simp
          cases hw : wordB ns[k].1 with
          | false =>
            have HN : Hid (R = false) := HRF.out (HFALSE.out (by rw [hok, hw]; rfl))
            clear hok HFALSE HSUCC HRF hm
            generalize ns[k].1 = p at x0 hw hf1
            generalize ns[k].2 = q at x1
            have hBW := hB
            have g0 := x0
            have g1 := x1
            have d1 := (hBW.cell (p := ⟨w.heap.size, 2, none⟩) hs0).trans f2
            go_wp2_with fail
            clear x0 x1 hB hBs hr
            generalize wr = W1 at hBW g0 g1 d1 ⊢
            have k0 := cell_regrown g0
            have k1 := cell_regrown g1
            have k2 := cell_regrown d1
            refine region_qw (by kernel_rfl) (by kernel_rfl) ?_
            repeat (
              refine qw_step (fun K hK => ?_)
              go_simp
              first
                | (refine hK _ ?_; clear hK K)
                | (apply Exists.intro
                   refine ⟨fun _ => ?_, hK _ ?_⟩
                   (first | (go_at_call 111; exact cL1Word _ _ hw (by omega) _ _ _))
                   clear hK K))
            refine qw_nil ?_
            intro _ hw'
            obtain ⟨⟨dq, osq⟩, hw''⟩ := hw'
            subst hw''
            go_wp2
            go_ret
            exact ⟨ret_bool HN.out.symm, hB0.trans ((hBW.trans ((below_regrown W1 dq osq).mono hBW.size)).mono hB0.size)⟩
          | true =>
            rw [hw, Bool.true_and] at hok
            cases ht : wi ns[k].2 0 999999999 with
            | false =>
              have HN : Hid (R = false) := HRF.out (HFALSE.out (by rw [hok, ht]; rfl))
              clear hok HFALSE HSUCC HRF hm
              generalize ns[k].1 = p at x0 hw hf1
              generalize ns[k].2 = q at x1 ht
              have hBW := hB
              have g0 := x0
              have g1 := x1
              have d1 := (hBW.cell (p := ⟨w.heap.size, 2, none⟩) hs0).trans f2
              go_wp2_with fail
              clear x0 x1 hB hBs hr
              generalize wr = W1 at hBW g0 g1 d1 ⊢
              have k0 := cell_regrown g0
              have k1 := cell_regrown g1
              have k2 := cell_regrown d1
              refine region_qw (by kernel_rfl) (by kernel_rfl) ?_
              repeat (
                refine qw_step (fun K hK => ?_)
                go_simp
                first
                  | (refine hK _ ?_; clear hK K)
                  | (apply Exists.intro
                     refine ⟨fun _ => ?_, hK _ ?_⟩
                     (first | (go_at_call 111; exact cL1Word _ _ hw (by omega) _ _ _) | (go_at_call 73; exact cL1In _ _ _ _ ht _ _ _))
                     clear hK K))
              refine qw_nil ?_
              intro _ hw'
              obtain ⟨⟨dq, osq⟩, hw''⟩ := hw'
              subst hw''
              go_wp2
              go_ret
              exact ⟨ret_bool HN.out.symm, hB0.trans ((hBW.trans ((below_regrown W1 dq osq).mono hBW.size)).mono hB0.size)⟩
            | true =>
              rw [ht, Bool.true_and] at hok
              by_cases hk0 : k = 0
              · have HS : Hid (toA ns (k + 1) = true) := by show _ = _; rw [HSUCC.out, hm.out, hok, decide_eq_true hk0]; rfl
                have hkz : decide ((0 : Int) < (k : Int)) = false := decide_eq_false (by omega)
                have hkz2 : decide (0 < k) = false := decide_eq_false (by omega)
                clear hok HFALSE HSUCC HRF hm hk0
                generalize ns[k].1 = p at x0 hw hf1
                generalize ns[k].2 = q at x1 ht
                have hBW := hB
                have g0 := x0
                have g1 := x1
                have d1 := (hBW.cell (p := ⟨w.heap.size, 2, none⟩) hs0).trans f2
                go_wp2_with fail
                clear x0 x1 hB hBs hr
                generalize wr = W1 at hBW g0 g1 d1 ⊢
                have k0 := cell_regrown g0
                have k1 := cell_regrown g1
                have k2 := cell_regrown d1
                refine region_qw (by kernel_rfl) (by kernel_rfl) ?_
                repeat (
                  refine qw_step (fun K hK => ?_)
                  go_simp
                  first
                    | (refine hK _ ?_; clear hK K)
                    | (apply Exists.intro
                       refine ⟨fun _ => ?_, hK _ ?_⟩
                       (first | (go_at_call 111; exact cL1Word _ _ hw (by omega) _ _ _) | (go_at_call 73; exact cL1In _ _ _ _ ht _ _ _))
                       clear hK K))
                refine qw_nil ?_
                intro _ hw'
                obtain ⟨⟨dq, osq⟩, hw''⟩ := hw'
                subst hw''
                go_wp2
                go_roundw
                case rel => exact ⟨k + 1, by omega, by go_num, HS, hBW.trans ((below_regrown W1 dq osq).mono hBW.size)⟩
                case measure => simp [intOf]; omega
              · obtain ⟨j0, hkj⟩ : ∃ j0, k = j0 + 1 := ⟨k - 1, by omega⟩
                have hjl : j0 < ns.length := by omega
                obtain ⟨_, y0, _⟩ := Rds.allA hr (k := j0) hjl
                rw [decide_eq_false hk0, Bool.false_or, show k - 1 = j0 by omega, getA hjl] at hok
                have HOK := Lib.hid hok
                clear hok
                have hi2 : (j0 : Int) < (ns.length : Int) := by omega
                have hz1 : (0 : Int) ≤ (j0 : Int) := by omega
                have hw3 : IntKind.i64.wrap ((k : Int) - 1) = (j0 : Int) := by rw [show (k : Int) - 1 = (j0 : Int) by omega]; exact IntWalk.i64_in _ (by omega)
                have hkz : decide ((0 : Int) < (k : Int)) = true := decide_eq_true (by omega)
                have hkz2 : decide (0 < k) = true := decide_eq_true (by omega)
                clear hkj
                cases hls : ltS ns[j0].1 ns[k].1 with
                | false =>
                  have HN : Hid (R = false) := HRF.out (HFALSE.out (by rw [HOK.out, hls]))
                  clear HOK HFALSE HSUCC HRF hm hk0
                  generalize ns[k].1 = p at x0 hw hf1 hls
                  generalize ns[k].2 = q at x1 ht
                  generalize ns[j0].1 = p' at y0 hls
                  have hlw : (Op.bytesLess p.toList p'.toList || p.toList == p'.toList) = true := by rw [leqS, hls]; rfl
                  have hBW := hB
                  have g0 := x0
                  have g1 := x1
                  have d1 := (hBW.cell (p := ⟨w.heap.size, 2, none⟩) hs0).trans f2
                  have y1 : (wr).cell? ⟨b, off + j0 * 2, none⟩ = some (.string p') := y0
                  go_wp2_with fail
                  clear x0 x1 hB hBs hr y0
                  generalize wr = W1 at hBW g0 g1 d1 y1 ⊢
                  have k0 := cell_regrown g0
                  have k1 := cell_regrown g1
                  have k2 := cell_regrown d1
                  have k3 := cell_regrown y1
                  refine region_qw (by kernel_rfl) (by kernel_rfl) ?_
                  repeat (
                    refine qw_step (fun K hK => ?_)
                    go_simp
                    first
                      | (refine hK _ ?_; clear hK K)
                      | (apply Exists.intro
                         refine ⟨fun _ => ?_, hK _ ?_⟩
                         (first | (go_at_call 111; exact cL1Word _ _ hw (by omega) _ _ _) | (go_at_call 73; exact cL1In _ _ _ _ ht _ _ _))
                         clear hK K))
                  refine qw_nil ?_
                  intro _ hw'
                  obtain ⟨⟨dq, osq⟩, hw''⟩ := hw'
                  subst hw''
                  go_wp2
                  go_ret
                  exact ⟨ret_bool HN.out.symm, hB0.trans ((hBW.trans ((below_regrown W1 dq osq).mono hBW.size)).mono hB0.size)⟩
                | true =>
                  have HS : Hid (toA ns (k + 1) = true) := by show _ = _; rw [HSUCC.out, hm.out, HOK.out, hls]; rfl
                  clear HOK HFALSE HSUCC HRF hm hk0
                  generalize ns[k].1 = p at x0 hw hf1 hls
                  generalize ns[k].2 = q at x1 ht
                  generalize ns[j0].1 = p' at y0 hls
                  have hlw : (Op.bytesLess p.toList p'.toList || p.toList == p'.toList) = false := by rw [leqS, hls]; rfl
                  have hBW := hB
                  have g0 := x0
                  have g1 := x1
                  have d1 := (hBW.cell (p := ⟨w.heap.size, 2, none⟩) hs0).trans f2
                  have y1 : (wr).cell? ⟨b, off + j0 * 2, none⟩ = some (.string p') := y0
                  go_wp2_with fail
                  clear x0 x1 hB hBs hr y0
                  generalize wr = W1 at hBW g0 g1 d1 y1 ⊢
                  have k0 := cell_regrown g0
                  have k1 := cell_regrown g1
                  have k2 := cell_regrown d1
                  have k3 := cell_regrown y1
                  refine region_qw (by kernel_rfl) (by kernel_rfl) ?_
                  repeat (
                    refine qw_step (fun K hK => ?_)
                    go_simp
                    first
                      | (refine hK _ ?_; clear hK K)
                      | (apply Exists.intro
                         refine ⟨fun _ => ?_, hK _ ?_⟩
                         (first | (go_at_call 111; exact cL1Word _ _ hw (by omega) _ _ _) | (go_at_call 73; exact cL1In _ _ _ _ ht _ _ _))
                         clear hK K))
                  refine qw_nil ?_
                  intro _ hw'
                  obtain ⟨⟨dq, osq⟩, hw''⟩ := hw'
                  subst hw''
                  go_wp2
                  go_roundw
                  case rel => exact ⟨k + 1, by omega, by go_num, HS, hBW.trans ((below_regrown W1 dq osq).mono hBW.size)⟩
                  case measure => simp [intOf]; omega
        · obtain rfl : k = ns.length := by omega
          have e0 := (hB.cell (p := ⟨w.heap.size, 0, none⟩) hs0).trans f0
          have e1 := (hB.cell (p := ⟨w.heap.size, 1, none⟩) hs0).trans f1
          have e2 := (hB.cell (p := ⟨w.heap.size, 2, none⟩) hs0).trans f2
          have HN : Hid (R = (wi id 1 9999 && wi (fs.length : Int) 0 3 && decide (ns.length ≤ 3))) := by show _ = _; rw [HR.out]; unfold docB; dsimp only; rw [HF9.out, hm.out, wiLen]; simp
          clear hm HF9
          go_wp2_with fail
          refine (l1In_any _ _ _ _).mono ?_
          rintro e w1 ⟨rfl, rfl⟩
          cases hwi : wi id 1 9999 with
          | false =>
            go_wp2
            go_ret
            exact ⟨ret_bool (by rw [HN.out, hwi]; rfl), hB0.trans (hB.mono hB0.size)⟩
          | true =>
            go_wp2_with fail
            refine (l1In_any _ _ _ _).mono ?_
            rintro e w2 ⟨rfl, rfl⟩
            cases hwl : wi (fs.length : Int) 0 3 with
            | false =>
              go_wp2
              go_ret
              exact ⟨ret_bool (by rw [HN.out, hwi, hwl]; rfl), hB0.trans (hB.mono hB0.size)⟩
            | true =>
              by_cases h4 : ns.length ≤ 3
              · go_wp2
                go_ret
                exact ⟨ret_bool (by rw [HN.out, hwi, hwl, decide_eq_true h4]; simp; omega), hB0.trans (hB.mono hB0.size)⟩
              · go_wp2
                go_ret
                exact ⟨ret_bool (by rw [HN.out, hwi, hwl, decide_eq_false h4]; simp; omega), hB0.trans (hB.mono hB0.size)⟩
end Go.Proofs.Yteomiaffdbbpoaa
