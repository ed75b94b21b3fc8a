/-
  Contract of impl.DocOk.
-/
import Derived.Test.YteomiaffdbbpoaaDocs
import Derived.Laws.Cover1
namespace Go.Proofs.Yteomiaffdbbpoaa
open Go.RowKit Go.Sort
set_option linter.unusedVariables false

theorem cWordOk (s : ByteArray) (r : Bool) (hr : wordB s = r) (hs : s.size ≤ 9223372036854775000) (W : World) (d : Nat) (os : Array Obj) :
    Calls Try.prog 91 #[.string s] (grow (redrawn W d) os) fun e w'' => e = .returned (.bool r) ∧ ∃ p : Regrown, w'' = grow (redrawn W p.d) p.os :=
  Calls.regrown_of ((wordOk_any s _ hs).mono fun _ _ ⟨h1, h2⟩ => ⟨by rw [h1, hr], by rw [← h2]; exact Below.refl _ _⟩)
theorem cTextOk (s : ByteArray) (r : Bool) (hr : textB s = r) (hs : s.size ≤ 9223372036854775000) (W : World) (d : Nat) (os : Array Obj) :
    Calls Try.prog 92 #[.string s] (grow (redrawn W d) os) fun e w'' => e = .returned (.bool r) ∧ ∃ p : Regrown, w'' = grow (redrawn W p.d) p.os :=
  Calls.regrown_of ((textOk_any s _ hs).mono fun _ _ ⟨h1, h2⟩ => ⟨by rw [h1, hr], by rw [← h2]; exact Below.refl _ _⟩)
theorem cWith (p lo hi : Int) (r : Bool) (hr : wi p lo hi = r) (W : World) (d : Nat) (os : Array Obj) :
    Calls Try.prog 53 #[.int .i64 p, .int .i64 lo, .int .i64 hi] (grow (redrawn W d) os) fun e w'' => e = .returned (.bool r) ∧ ∃ p : Regrown, w'' = grow (redrawn W p.d) p.os :=
  Calls.regrown_of ((within_any p lo hi _).mono fun _ _ ⟨h1, h2⟩ => ⟨by rw [h1, hr], by rw [← h2]; exact Below.refl _ _⟩)
set_option maxHeartbeats 1600000 in
theorem docOk_any (d : DocD) (A1 A2 : Option Addr) (c1 c2 : Nat) (w : World) (h : HasD w d A1 A2) (hs : SmD d) :
    Calls Try.prog 64 #[.agg #[.int .i64 d.id, .slice A1 d.fs.length c1, .slice A2 d.ns.length c2]] w fun e w' => e = .returned (.bool (docB d)) ∧ Below w.heap.size w w' := by
  obtain ⟨id, fs, ns⟩ := d
  obtain ⟨R, hR⟩ : ∃ R, R = docB ⟨id, fs, ns⟩ := ⟨_, rfl⟩
  rw [← hR]
  have HR := Lib.hid hR
  clear hR
  obtain ⟨hF, hA⟩ := h
  obtain ⟨hs1, hs2, hs3, hs4, hs5⟩ := hs
  dsimp only at hF hA hs1 hs2 hs3 hs4 hs5 ⊢
  have HS1 := Lib.hid hs3
  have HS2 := Lib.hid hs4
  have HS3 := Lib.hid hs5
  clear hs3 hs4 hs5
  have hB0 : Below w.heap.size w (w.alloc (.cells #[.int .i64 id, .slice A1 fs.length c1, .slice A2 ns.length c2] 42)) := (Below.refl _ _).alloc (Nat.le_refl _) _
  have f0 : (w.alloc (.cells #[.int .i64 id, .slice A1 fs.length c1, .slice A2 ns.length c2] 42)).cell? ⟨w.heap.size, 0, none⟩ = some (.int .i64 id) := by simp [go_sem]
  have f1 : (w.alloc (.cells #[.int .i64 id, .slice A1 fs.length c1, .slice A2 ns.length c2] 42)).cell? ⟨w.heap.size, 1, none⟩ = some (.slice A1 fs.length c1) := by simp [go_sem]
  have f2 : (w.alloc (.cells #[.int .i64 id, .slice A1 fs.length c1, .slice A2 ns.length c2] 42)).cell? ⟨w.heap.size, 2, none⟩ = some (.slice A2 ns.length c2) := by simp [go_sem]
  have hs0 : w.heap.size < (w.alloc (.cells #[.int .i64 id, .slice A1 fs.length c1, .slice A2 ns.length c2] 42)).heap.size := by simp
  have hF0 := hF.below hB0
  have hA0 := hA.below hB0
  clear hF hA
  go_enter Try.func64, Try.ntmps64
  go_wp2_with fail
  generalize (w.alloc (.cells #[.int .i64 id, .slice A1 fs.length c1, .slice A2 ns.length c2] 42)) = W0 at hB0 f0 f1 f2 hs0 hF0 hA0 ⊢
  refine (within_any _ _ _ _).mono ?_
  rintro e w1 ⟨rfl, rfl⟩
  cases hwi : wi id 1 9999 with
  | false =>
    have HN : Hid (R = false) := by show _ = _; rw [HR.out]; unfold docB; dsimp only; rw [hwi]; rfl
    go_wp2
    go_ret
    exact ⟨ret_bool HN.out.symm, hB0⟩
  | true =>
    by_cases h3 : fs.length ≤ 3
    · have h3' : ¬ (3 : Int) < (fs.length : Int) := by omega
      by_cases h4 : ns.length ≤ 3
      · have h4' : ¬ (3 : Int) < (ns.length : Int) := by omega
        go_wp2_with fail
        go_loopw [3, 4, 26] (fun _ _ iv wr => ∃ k : Nat, k ≤ fs.length ∧ iv = .int .i64 k ∧ Hid (toF fs k = true) ∧ Below W0.heap.size W0 wr) (fun _ _ iv _ => fs.length - (intOf iv).toNat)
        case atStart => exact ⟨0, Nat.zero_le _, rfl, rfl, Below.refl _ _⟩
        case round =>
          obtain ⟨k, hk, rfl, hm, hB⟩ := hrel
          have hBs := hB.size
          have d9 := (hB.cell (p := ⟨w.heap.size, 1, none⟩) hs0).trans f1
          by_cases hlt : k < fs.length
          · have hr := (hF0).below hB
            obtain ⟨b, off, rfl, hb, x0, x1⟩ := hr.atF hlt
            have hi0 : (k : Int) < (fs.length : Int) := by omega
            have hok := okF_at hlt
            have hf1 := HS1.out _ (List.getElem_mem hlt)
            have hf2 := HS2.out _ (List.getElem_mem hlt)
            have HFALSE := Lib.hid (toF_false hlt)
            have HSUCC := Lib.hid (toF_succ fs k)
            have HRF : Hid (toF fs fs.length = false → R = false) := fun h9 => by rw [HR.out]; unfold docB; dsimp only; rw [h9]; simp
            cases hw : wordB fs[k].1 with
            | false =>
              have HN : Hid (R = false) := HRF.out (HFALSE.out (by rw [hok, hw]; rfl))
              clear hok HFALSE HSUCC HRF hm
              generalize fs[k].1 = p at x0 hw hf1
              generalize fs[k].2 = q at x1 hf2
              have hBW : Below W0.heap.size W0 (wr.alloc (.cells #[.string p, .string q] 117)) := hB.trans (((Below.refl _ _).alloc (Nat.le_refl _) _).mono hBs)
              have g0 : ((wr.alloc (.cells #[.string p, .string q] 117))).cell? ⟨wr.heap.size, 0, none⟩ = some (.string p) := by simp [go_sem]
              have g1 : ((wr.alloc (.cells #[.string p, .string q] 117))).cell? ⟨wr.heap.size, 1, none⟩ = some (.string q) := by simp [go_sem]
              have d1 := (hBW.cell (p := ⟨w.heap.size, 1, none⟩) hs0).trans f1
              go_wp2_with fail
              clear x0 x1 hB hBs hr
              generalize (wr.alloc (.cells #[.string p, .string q] 117)) = W1 at hBW g0 g1 d1 ⊢
              have k0 := cell_regrown g0
              have k1 := cell_regrown g1
              have k2 := cell_regrown d1
              refine region_qw (by kernel_rfl) (by kernel_rfl) ?_
              repeat (
                refine qw_step (fun K hK => ?_)
                go_simp
                first
                  | (refine hK _ ?_; clear hK K)
                  | (apply Exists.intro
                     refine ⟨fun _ => ?_, hK _ ?_⟩
                     (first | (go_at_call 91; exact cWordOk _ _ hw (by omega) _ _ _))
                     clear hK K))
              refine qw_nil ?_
              intro _ hw'
              obtain ⟨⟨dq, osq⟩, hw''⟩ := hw'
              subst hw''
              go_wp2
              go_ret
              exact ⟨ret_bool HN.out.symm, hB0.trans ((hBW.trans ((below_regrown W1 dq osq).mono hBW.size)).mono hB0.size)⟩
            | true =>
              rw [hw, Bool.true_and] at hok
              cases ht : textB fs[k].2 with
              | false =>
                have HN : Hid (R = false) := HRF.out (HFALSE.out (by rw [hok, ht]; rfl))
                clear hok HFALSE HSUCC HRF hm
                generalize fs[k].1 = p at x0 hw hf1
                generalize fs[k].2 = q at x1 hf2 ht
                have hBW : Below W0.heap.size W0 (wr.alloc (.cells #[.string p, .string q] 117)) := hB.trans (((Below.refl _ _).alloc (Nat.le_refl _) _).mono hBs)
                have g0 : ((wr.alloc (.cells #[.string p, .string q] 117))).cell? ⟨wr.heap.size, 0, none⟩ = some (.string p) := by simp [go_sem]
                have g1 : ((wr.alloc (.cells #[.string p, .string q] 117))).cell? ⟨wr.heap.size, 1, none⟩ = some (.string q) := by simp [go_sem]
                have d1 := (hBW.cell (p := ⟨w.heap.size, 1, none⟩) hs0).trans f1
                go_wp2_with fail
                clear x0 x1 hB hBs hr
                generalize (wr.alloc (.cells #[.string p, .string q] 117)) = W1 at hBW g0 g1 d1 ⊢
                have k0 := cell_regrown g0
                have k1 := cell_regrown g1
                have k2 := cell_regrown d1
                refine region_qw (by kernel_rfl) (by kernel_rfl) ?_
                repeat (
                  refine qw_step (fun K hK => ?_)
                  go_simp
                  first
                    | (refine hK _ ?_; clear hK K)
                    | (apply Exists.intro
                       refine ⟨fun _ => ?_, hK _ ?_⟩
                       (first | (go_at_call 91; exact cWordOk _ _ hw (by omega) _ _ _) | (go_at_call 92; exact cTextOk _ _ ht (by omega) _ _ _))
                       clear hK K))
                refine qw_nil ?_
                intro _ hw'
                obtain ⟨⟨dq, osq⟩, hw''⟩ := hw'
                subst hw''
                go_wp2
                go_ret
                exact ⟨ret_bool HN.out.symm, hB0.trans ((hBW.trans ((below_regrown W1 dq osq).mono hBW.size)).mono hB0.size)⟩
              | true =>
                rw [ht, Bool.true_and] at hok
                by_cases hk0 : k = 0
                · have HS : Hid (toF fs (k + 1) = true) := by show _ = _; rw [HSUCC.out, hm.out, hok, decide_eq_true hk0]; rfl
                  have hkz : decide ((0 : Int) < (k : Int)) = false := decide_eq_false (by omega)
                  have hkz2 : decide (0 < k) = false := decide_eq_false (by omega)
                  clear hok HFALSE HSUCC HRF hm hk0
                  generalize fs[k].1 = p at x0 hw hf1
                  generalize fs[k].2 = q at x1 hf2 ht
                  have hBW : Below W0.heap.size W0 (wr.alloc (.cells #[.string p, .string q] 117)) := hB.trans (((Below.refl _ _).alloc (Nat.le_refl _) _).mono hBs)
                  have g0 : ((wr.alloc (.cells #[.string p, .string q] 117))).cell? ⟨wr.heap.size, 0, none⟩ = some (.string p) := by simp [go_sem]
                  have g1 : ((wr.alloc (.cells #[.string p, .string q] 117))).cell? ⟨wr.heap.size, 1, none⟩ = some (.string q) := by simp [go_sem]
                  have d1 := (hBW.cell (p := ⟨w.heap.size, 1, none⟩) hs0).trans f1
                  go_wp2_with fail
                  clear x0 x1 hB hBs hr
                  generalize (wr.alloc (.cells #[.string p, .string q] 117)) = W1 at hBW g0 g1 d1 ⊢
                  have k0 := cell_regrown g0
                  have k1 := cell_regrown g1
                  have k2 := cell_regrown d1
                  refine region_qw (by kernel_rfl) (by kernel_rfl) ?_
                  repeat (
                    refine qw_step (fun K hK => ?_)
                    go_simp
                    first
                      | (refine hK _ ?_; clear hK K)
                      | (apply Exists.intro
                         refine ⟨fun _ => ?_, hK _ ?_⟩
                         (first | (go_at_call 91; exact cWordOk _ _ hw (by omega) _ _ _) | (go_at_call 92; exact cTextOk _ _ ht (by omega) _ _ _))
                         clear hK K))
                  refine qw_nil ?_
                  intro _ hw'
                  obtain ⟨⟨dq, osq⟩, hw''⟩ := hw'
                  subst hw''
                  go_wp2
                  go_roundw
                  case rel => exact ⟨k + 1, by omega, by go_num, HS, hBW.trans ((below_regrown W1 dq osq).mono hBW.size)⟩
                  case measure => simp [intOf]; omega
                · obtain ⟨j0, hkj⟩ : ∃ j0, k = j0 + 1 := ⟨k - 1, by omega⟩
                  have hjl : j0 < fs.length := by omega
                  obtain ⟨_, y0, _⟩ := Rds.allF hr (k := j0) hjl
                  rw [decide_eq_false hk0, Bool.false_or, show k - 1 = j0 by omega, getF hjl] at hok
                  have HOK := Lib.hid hok
                  clear hok
                  have hi2 : (j0 : Int) < (fs.length : Int) := by omega
                  have hz1 : (0 : Int) ≤ (j0 : Int) := by omega
                  have hw3 : IntKind.i64.wrap ((k : Int) - 1) = (j0 : Int) := by rw [show (k : Int) - 1 = (j0 : Int) by omega]; exact IntWalk.i64_in _ (by omega)
                  have hkz : decide ((0 : Int) < (k : Int)) = true := decide_eq_true (by omega)
                  have hkz2 : decide (0 < k) = true := decide_eq_true (by omega)
                  clear hkj
                  cases hls : ltS fs[j0].1 fs[k].1 with
                  | false =>
                    have HN : Hid (R = false) := HRF.out (HFALSE.out (by rw [HOK.out, hls]))
                    clear HOK HFALSE HSUCC HRF hm hk0
                    generalize fs[k].1 = p at x0 hw hf1 hls
                    generalize fs[k].2 = q at x1 hf2 ht
                    generalize fs[j0].1 = p' at y0 hls
                    have hlw : Op.bytesLess p'.toList p.toList = false := hls
                    have hBW : Below W0.heap.size W0 (wr.alloc (.cells #[.string p, .string q] 117)) := hB.trans (((Below.refl _ _).alloc (Nat.le_refl _) _).mono hBs)
                    have g0 : ((wr.alloc (.cells #[.string p, .string q] 117))).cell? ⟨wr.heap.size, 0, none⟩ = some (.string p) := by simp [go_sem]
                    have g1 : ((wr.alloc (.cells #[.string p, .string q] 117))).cell? ⟨wr.heap.size, 1, none⟩ = some (.string q) := by simp [go_sem]
                    have d1 := (hBW.cell (p := ⟨w.heap.size, 1, none⟩) hs0).trans f1
                    have y1 : ((wr.alloc (.cells #[.string p, .string q] 117))).cell? ⟨b, off + j0 * 2, none⟩ = some (.string p') := (((Below.refl _ wr).alloc (Nat.le_refl _) _).cell (p := ⟨_, _, _⟩) hb).trans y0
                    go_wp2_with fail
                    clear x0 x1 hB hBs hr y0
                    generalize (wr.alloc (.cells #[.string p, .string q] 117)) = W1 at hBW g0 g1 d1 y1 ⊢
                    have k0 := cell_regrown g0
                    have k1 := cell_regrown g1
                    have k2 := cell_regrown d1
                    have k3 := cell_regrown y1
                    refine region_qw (by kernel_rfl) (by kernel_rfl) ?_
                    repeat (
                      refine qw_step (fun K hK => ?_)
                      go_simp
                      first
                        | (refine hK _ ?_; clear hK K)
                        | (apply Exists.intro
                           refine ⟨fun _ => ?_, hK _ ?_⟩
                           (first | (go_at_call 91; exact cWordOk _ _ hw (by omega) _ _ _) | (go_at_call 92; exact cTextOk _ _ ht (by omega) _ _ _))
                           clear hK K))
                    refine qw_nil ?_
                    intro _ hw'
                    obtain ⟨⟨dq, osq⟩, hw''⟩ := hw'
                    subst hw''
                    go_wp2
                    go_ret
                    exact ⟨ret_bool HN.out.symm, hB0.trans ((hBW.trans ((below_regrown W1 dq osq).mono hBW.size)).mono hB0.size)⟩
                  | true =>
                    have HS : Hid (toF fs (k + 1) = true) := by show _ = _; rw [HSUCC.out, hm.out, HOK.out, hls]; rfl
                    clear HOK HFALSE HSUCC HRF hm hk0
                    generalize fs[k].1 = p at x0 hw hf1 hls
                    generalize fs[k].2 = q at x1 hf2 ht
                    generalize fs[j0].1 = p' at y0 hls
                    have hlw : Op.bytesLess p'.toList p.toList = true := hls
                    have hBW : Below W0.heap.size W0 (wr.alloc (.cells #[.string p, .string q] 117)) := hB.trans (((Below.refl _ _).alloc (Nat.le_refl _) _).mono hBs)
                    have g0 : ((wr.alloc (.cells #[.string p, .string q] 117))).cell? ⟨wr.heap.size, 0, none⟩ = some (.string p) := by simp [go_sem]
                    have g1 : ((wr.alloc (.cells #[.string p, .string q] 117))).cell? ⟨wr.heap.size, 1, none⟩ = some (.string q) := by simp [go_sem]
                    have d1 := (hBW.cell (p := ⟨w.heap.size, 1, none⟩) hs0).trans f1
                    have y1 : ((wr.alloc (.cells #[.string p, .string q] 117))).cell? ⟨b, off + j0 * 2, none⟩ = some (.string p') := (((Below.refl _ wr).alloc (Nat.le_refl _) _).cell (p := ⟨_, _, _⟩) hb).trans y0
                    go_wp2_with fail
                    clear x0 x1 hB hBs hr y0
                    generalize (wr.alloc (.cells #[.string p, .string q] 117)) = W1 at hBW g0 g1 d1 y1 ⊢
                    have k0 := cell_regrown g0
                    have k1 := cell_regrown g1
                    have k2 := cell_regrown d1
                    have k3 := cell_regrown y1
                    refine region_qw (by kernel_rfl) (by kernel_rfl) ?_
                    repeat (
                      refine qw_step (fun K hK => ?_)
                      go_simp
                      first
                        | (refine hK _ ?_; clear hK K)
                        | (apply Exists.intro
                           refine ⟨fun _ => ?_, hK _ ?_⟩
                           (first | (go_at_call 91; exact cWordOk _ _ hw (by omega) _ _ _) | (go_at_call 92; exact cTextOk _ _ ht (by omega) _ _ _))
                           clear hK K))
                    refine qw_nil ?_
                    intro _ hw'
                    obtain ⟨⟨dq, osq⟩, hw''⟩ := hw'
                    subst hw''
                    go_wp2
                    go_roundw
                    case rel => exact ⟨k + 1, by omega, by go_num, HS, hBW.trans ((below_regrown W1 dq osq).mono hBW.size)⟩
                    case measure => simp [intOf]; omega
          · obtain rfl : k = fs.length := by omega
            have HF9 := hm
            clear hm d9
            have d2 := (hB.cell (p := ⟨w.heap.size, 2, none⟩) hs0).trans f2
            have hBF := hB
            go_wp2_with fail
            go_loopw [5, 6, 61] (fun _ _ iv wr => ∃ k : Nat, k ≤ ns.length ∧ iv = .int .i64 k ∧ Hid (toA ns k = true) ∧ Below W0.heap.size W0 wr) (fun _ _ iv _ => ns.length - (intOf iv).toNat)
            case atStart => exact ⟨0, Nat.zero_le _, rfl, rfl, hBF⟩
            case round =>
              obtain ⟨k, hk, rfl, hm, hB⟩ := hrel
              have hBs := hB.size
              have d9 := (hB.cell (p := ⟨w.heap.size, 2, none⟩) hs0).trans f2
              by_cases hlt : k < ns.length
              · have hr := (hA0).below hB
                obtain ⟨b, off, rfl, hb, x0, x1⟩ := hr.atA hlt
                have hi0 : (k : Int) < (ns.length : Int) := by omega
                have hok := okA_at hlt
                have hf1 := HS3.out _ (List.getElem_mem hlt)
                have HFALSE := Lib.hid (toA_false hlt)
                have HSUCC := Lib.hid (toA_succ ns k)
                have HRF : Hid (toA ns ns.length = false → R = false) := fun h9 => by rw [HR.out]; unfold docB; dsimp only; rw [h9]; simp
                cases hw : wordB ns[k].1 with
                | false =>
                  have HN : Hid (R = false) := HRF.out (HFALSE.out (by rw [hok, hw]; rfl))
                  clear hok HFALSE HSUCC HRF hm
                  generalize ns[k].1 = p at x0 hw hf1
                  generalize ns[k].2 = q at x1
                  have hBW : Below W0.heap.size W0 (wr.alloc (.cells #[.string p, .int .i64 q] 88)) := hB.trans (((Below.refl _ _).alloc (Nat.le_refl _) _).mono hBs)
                  have g0 : ((wr.alloc (.cells #[.string p, .int .i64 q] 88))).cell? ⟨wr.heap.size, 0, none⟩ = some (.string p) := by simp [go_sem]
                  have g1 : ((wr.alloc (.cells #[.string p, .int .i64 q] 88))).cell? ⟨wr.heap.size, 1, none⟩ = some (.int .i64 q) := by simp [go_sem]
                  have d1 := (hBW.cell (p := ⟨w.heap.size, 2, none⟩) hs0).trans f2
                  go_wp2_with fail
                  clear x0 x1 hB hBs hr
                  generalize (wr.alloc (.cells #[.string p, .int .i64 q] 88)) = W1 at hBW g0 g1 d1 ⊢
                  have k0 := cell_regrown g0
                  have k1 := cell_regrown g1
                  have k2 := cell_regrown d1
                  refine region_qw (by kernel_rfl) (by kernel_rfl) ?_
                  repeat (
                    refine qw_step (fun K hK => ?_)
                    go_simp
                    first
                      | (refine hK _ ?_; clear hK K)
                      | (apply Exists.intro
                         refine ⟨fun _ => ?_, hK _ ?_⟩
                         (first | (go_at_call 91; exact cWordOk _ _ hw (by omega) _ _ _))
                         clear hK K))
                  refine qw_nil ?_
                  intro _ hw'
                  obtain ⟨⟨dq, osq⟩, hw''⟩ := hw'
                  subst hw''
                  go_wp2
                  go_ret
                  exact ⟨ret_bool HN.out.symm, hB0.trans ((hBW.trans ((below_regrown W1 dq osq).mono hBW.size)).mono hB0.size)⟩
                | true =>
                  rw [hw, Bool.true_and] at hok
                  cases ht : wi ns[k].2 0 999999999 with
                  | false =>
                    have HN : Hid (R = false) := HRF.out (HFALSE.out (by rw [hok, ht]; rfl))
                    clear hok HFALSE HSUCC HRF hm
                    generalize ns[k].1 = p at x0 hw hf1
                    generalize ns[k].2 = q at x1 ht
                    have hBW : Below W0.heap.size W0 (wr.alloc (.cells #[.string p, .int .i64 q] 88)) := hB.trans (((Below.refl _ _).alloc (Nat.le_refl _) _).mono hBs)
                    have g0 : ((wr.alloc (.cells #[.string p, .int .i64 q] 88))).cell? ⟨wr.heap.size, 0, none⟩ = some (.string p) := by simp [go_sem]
                    have g1 : ((wr.alloc (.cells #[.string p, .int .i64 q] 88))).cell? ⟨wr.heap.size, 1, none⟩ = some (.int .i64 q) := by simp [go_sem]
                    have d1 := (hBW.cell (p := ⟨w.heap.size, 2, none⟩) hs0).trans f2
                    go_wp2_with fail
                    clear x0 x1 hB hBs hr
                    generalize (wr.alloc (.cells #[.string p, .int .i64 q] 88)) = W1 at hBW g0 g1 d1 ⊢
                    have k0 := cell_regrown g0
                    have k1 := cell_regrown g1
                    have k2 := cell_regrown d1
                    refine region_qw (by kernel_rfl) (by kernel_rfl) ?_
                    repeat (
                      refine qw_step (fun K hK => ?_)
                      go_simp
                      first
                        | (refine hK _ ?_; clear hK K)
                        | (apply Exists.intro
                           refine ⟨fun _ => ?_, hK _ ?_⟩
                           (first | (go_at_call 91; exact cWordOk _ _ hw (by omega) _ _ _) | (go_at_call 53; exact cWith _ _ _ _ ht _ _ _))
                           clear hK K))
                    refine qw_nil ?_
                    intro _ hw'
                    obtain ⟨⟨dq, osq⟩, hw''⟩ := hw'
                    subst hw''
                    go_wp2
                    go_ret
                    exact ⟨ret_bool HN.out.symm, hB0.trans ((hBW.trans ((below_regrown W1 dq osq).mono hBW.size)).mono hB0.size)⟩
                  | true =>
                    rw [ht, Bool.true_and] at hok
                    by_cases hk0 : k = 0
                    · have HS : Hid (toA ns (k + 1) = true) := by show _ = _; rw [HSUCC.out, hm.out, hok, decide_eq_true hk0]; rfl
                      have hkz : decide ((0 : Int) < (k : Int)) = false := decide_eq_false (by omega)
                      have hkz2 : decide (0 < k) = false := decide_eq_false (by omega)
                      clear hok HFALSE HSUCC HRF hm hk0
                      generalize ns[k].1 = p at x0 hw hf1
                      generalize ns[k].2 = q at x1 ht
                      have hBW : Below W0.heap.size W0 (wr.alloc (.cells #[.string p, .int .i64 q] 88)) := hB.trans (((Below.refl _ _).alloc (Nat.le_refl _) _).mono hBs)
                      have g0 : ((wr.alloc (.cells #[.string p, .int .i64 q] 88))).cell? ⟨wr.heap.size, 0, none⟩ = some (.string p) := by simp [go_sem]
                      have g1 : ((wr.alloc (.cells #[.string p, .int .i64 q] 88))).cell? ⟨wr.heap.size, 1, none⟩ = some (.int .i64 q) := by simp [go_sem]
                      have d1 := (hBW.cell (p := ⟨w.heap.size, 2, none⟩) hs0).trans f2
                      go_wp2_with fail
                      clear x0 x1 hB hBs hr
                      generalize (wr.alloc (.cells #[.string p, .int .i64 q] 88)) = W1 at hBW g0 g1 d1 ⊢
                      have k0 := cell_regrown g0
                      have k1 := cell_regrown g1
                      have k2 := cell_regrown d1
                      refine region_qw (by kernel_rfl) (by kernel_rfl) ?_
                      repeat (
                        refine qw_step (fun K hK => ?_)
                        go_simp
                        first
                          | (refine hK _ ?_; clear hK K)
                          | (apply Exists.intro
                             refine ⟨fun _ => ?_, hK _ ?_⟩
                             (first | (go_at_call 91; exact cWordOk _ _ hw (by omega) _ _ _) | (go_at_call 53; exact cWith _ _ _ _ ht _ _ _))
                             clear hK K))
                      refine qw_nil ?_
                      intro _ hw'
                      obtain ⟨⟨dq, osq⟩, hw''⟩ := hw'
                      subst hw''
                      go_wp2
                      go_roundw
                      case rel => exact ⟨k + 1, by omega, by go_num, HS, hBW.trans ((below_regrown W1 dq osq).mono hBW.size)⟩
                      case measure => simp [intOf]; omega
                    · obtain ⟨j0, hkj⟩ : ∃ j0, k = j0 + 1 := ⟨k - 1, by omega⟩
                      have hjl : j0 < ns.length := by omega
                      obtain ⟨_, y0, _⟩ := Rds.allA hr (k := j0) hjl
                      rw [decide_eq_false hk0, Bool.false_or, show k - 1 = j0 by omega, getA hjl] at hok
                      have HOK := Lib.hid hok
                      clear hok
                      have hi2 : (j0 : Int) < (ns.length : Int) := by omega
                      have hz1 : (0 : Int) ≤ (j0 : Int) := by omega
                      have hw3 : IntKind.i64.wrap ((k : Int) - 1) = (j0 : Int) := by rw [show (k : Int) - 1 = (j0 : Int) by omega]; exact IntWalk.i64_in _ (by omega)
                      have hkz : decide ((0 : Int) < (k : Int)) = true := decide_eq_true (by omega)
                      have hkz2 : decide (0 < k) = true := decide_eq_true (by omega)
                      clear hkj
                      cases hls : ltS ns[j0].1 ns[k].1 with
                      | false =>
                        have HN : Hid (R = false) := HRF.out (HFALSE.out (by rw [HOK.out, hls]))
                        clear HOK HFALSE HSUCC HRF hm hk0
                        generalize ns[k].1 = p at x0 hw hf1 hls
                        generalize ns[k].2 = q at x1 ht
                        generalize ns[j0].1 = p' at y0 hls
                        have hlw : Op.bytesLess p'.toList p.toList = false := hls
                        have hBW : Below W0.heap.size W0 (wr.alloc (.cells #[.string p, .int .i64 q] 88)) := hB.trans (((Below.refl _ _).alloc (Nat.le_refl _) _).mono hBs)
                        have g0 : ((wr.alloc (.cells #[.string p, .int .i64 q] 88))).cell? ⟨wr.heap.size, 0, none⟩ = some (.string p) := by simp [go_sem]
                        have g1 : ((wr.alloc (.cells #[.string p, .int .i64 q] 88))).cell? ⟨wr.heap.size, 1, none⟩ = some (.int .i64 q) := by simp [go_sem]
                        have d1 := (hBW.cell (p := ⟨w.heap.size, 2, none⟩) hs0).trans f2
                        have y1 : ((wr.alloc (.cells #[.string p, .int .i64 q] 88))).cell? ⟨b, off + j0 * 2, none⟩ = some (.string p') := (((Below.refl _ wr).alloc (Nat.le_refl _) _).cell (p := ⟨_, _, _⟩) hb).trans y0
                        go_wp2_with fail
                        clear x0 x1 hB hBs hr y0
                        generalize (wr.alloc (.cells #[.string p, .int .i64 q] 88)) = W1 at hBW g0 g1 d1 y1 ⊢
                        have k0 := cell_regrown g0
                        have k1 := cell_regrown g1
                        have k2 := cell_regrown d1
                        have k3 := cell_regrown y1
                        refine region_qw (by kernel_rfl) (by kernel_rfl) ?_
                        repeat (
                          refine qw_step (fun K hK => ?_)
                          go_simp
                          first
                            | (refine hK _ ?_; clear hK K)
                            | (apply Exists.intro
                               refine ⟨fun _ => ?_, hK _ ?_⟩
                               (first | (go_at_call 91; exact cWordOk _ _ hw (by omega) _ _ _) | (go_at_call 53; exact cWith _ _ _ _ ht _ _ _))
                               clear hK K))
                        refine qw_nil ?_
                        intro _ hw'
                        obtain ⟨⟨dq, osq⟩, hw''⟩ := hw'
                        subst hw''
                        go_wp2
                        go_ret
                        exact ⟨ret_bool HN.out.symm, hB0.trans ((hBW.trans ((below_regrown W1 dq osq).mono hBW.size)).mono hB0.size)⟩
                      | true =>
                        have HS : Hid (toA ns (k + 1) = true) := by show _ = _; rw [HSUCC.out, hm.out, HOK.out, hls]; rfl
                        clear HOK HFALSE HSUCC HRF hm hk0
                        generalize ns[k].1 = p at x0 hw hf1 hls
                        generalize ns[k].2 = q at x1 ht
                        generalize ns[j0].1 = p' at y0 hls
                        have hlw : Op.bytesLess p'.toList p.toList = true := hls
                        have hBW : Below W0.heap.size W0 (wr.alloc (.cells #[.string p, .int .i64 q] 88)) := hB.trans (((Below.refl _ _).alloc (Nat.le_refl _) _).mono hBs)
                        have g0 : ((wr.alloc (.cells #[.string p, .int .i64 q] 88))).cell? ⟨wr.heap.size, 0, none⟩ = some (.string p) := by simp [go_sem]
                        have g1 : ((wr.alloc (.cells #[.string p, .int .i64 q] 88))).cell? ⟨wr.heap.size, 1, none⟩ = some (.int .i64 q) := by simp [go_sem]
                        have d1 := (hBW.cell (p := ⟨w.heap.size, 2, none⟩) hs0).trans f2
                        have y1 : ((wr.alloc (.cells #[.string p, .int .i64 q] 88))).cell? ⟨b, off + j0 * 2, none⟩ = some (.string p') := (((Below.refl _ wr).alloc (Nat.le_refl _) _).cell (p := ⟨_, _, _⟩) hb).trans y0
                        go_wp2_with fail
                        clear x0 x1 hB hBs hr y0
                        generalize (wr.alloc (.cells #[.string p, .int .i64 q] 88)) = W1 at hBW g0 g1 d1 y1 ⊢
                        have k0 := cell_regrown g0
                        have k1 := cell_regrown g1
                        have k2 := cell_regrown d1
                        have k3 := cell_regrown y1
                        refine region_qw (by kernel_rfl) (by kernel_rfl) ?_
                        repeat (
                          refine qw_step (fun K hK => ?_)
                          go_simp
                          first
                            | (refine hK _ ?_; clear hK K)
                            | (apply Exists.intro
                               refine ⟨fun _ => ?_, hK _ ?_⟩
                               (first | (go_at_call 91; exact cWordOk _ _ hw (by omega) _ _ _) | (go_at_call 53; exact cWith _ _ _ _ ht _ _ _))
                               clear hK K))
                        refine qw_nil ?_
                        intro _ hw'
                        obtain ⟨⟨dq, osq⟩, hw''⟩ := hw'
                        subst hw''
                        go_wp2
                        go_roundw
                        case rel => exact ⟨k + 1, by omega, by go_num, HS, hBW.trans ((below_regrown W1 dq osq).mono hBW.size)⟩
                        case measure => simp [intOf]; omega
              · obtain rfl : k = ns.length := by omega
                have HN : Hid (R = true) := by show _ = _; rw [HR.out]; unfold docB; dsimp only; rw [hwi, HF9.out, hm.out, decide_eq_true h3, decide_eq_true h4]; rfl
                clear hm d9
                go_wp2
                go_ret
                exact ⟨ret_bool HN.out.symm, hB0.trans (hB.mono hB0.size)⟩
      · have h4' : (3 : Int) < (ns.length : Int) := by omega
        have HN : Hid (R = false) := by show _ = _; rw [HR.out]; unfold docB; dsimp only; rw [decide_eq_false h4]; simp
        go_wp2
        go_ret
        exact ⟨ret_bool HN.out.symm, hB0⟩
    · have h3' : (3 : Int) < (fs.length : Int) := by omega
      have HN : Hid (R = false) := by show _ = _; rw [HR.out]; unfold docB; dsimp only; rw [decide_eq_false h3]; simp
      go_wp2
      go_ret
      exact ⟨ret_bool HN.out.symm, hB0⟩
end Go.Proofs.Yteomiaffdbbpoaa
