/-
  Contracts of l2Begins, l2Syn, l2Plain, l2Terms.
-/
import Derived.Test.YtaobgliimbmemaaDoorWords
import Derived.Test.YtaobgliimbmemaaDoorConfSpec
namespace Go.Proofs.YtaobgliimbmemaaDoor
open Go.RowKit Go.Sort
set_option linter.unusedVariables false

theorem SrcE.atTm {w : World} {A : Option Addr} {c : Nat} {L : List TmD} (h : SrcE encTm 2 w A c L) {k : Nat} (hk : k < L.length) :
    ∃ b off, A = some ⟨b, off, none⟩ ∧ b < w.heap.size ∧ w.cell? ⟨b, off + k * 2, none⟩ = some (.string L[k].1) ∧ w.cell? ⟨b, off + k * 2 + 1, none⟩ = some (.int .i64 L[k].2) := by
  obtain ⟨b, off, e, hb, hc⟩ := SrcE.cells encTm_ok h hk (by omega)
  exact ⟨b, off, e, hb, hc 0 _ rfl, hc 1 _ rfl⟩
theorem SrcE.allTm {w : World} {b off c : Nat} {L : List TmD} (h : SrcE encTm 2 w (some ⟨b, off, none⟩) c L) {k : Nat} (hk : k < L.length) :
    b < w.heap.size ∧ w.cell? ⟨b, off + k * 2, none⟩ = some (.string L[k].1) ∧ w.cell? ⟨b, off + k * 2 + 1, none⟩ = some (.int .i64 L[k].2) := by
  obtain ⟨b', off', e, h1, h2⟩ := h.atTm hk
  simp only [Option.some.injEq, Addr.mk.injEq, and_true] at e
  obtain ⟨rfl, rfl⟩ := e
  exact ⟨h1, h2⟩
theorem SrcE.atW {w : World} {A : Option Addr} {c : Nat} {L : List WordD} (h : SrcE encW 4 w A c L) {k : Nat} (hk : k < L.length) :
    ∃ b off, A = some ⟨b, off, none⟩ ∧ b < w.heap.size ∧ w.cell? ⟨b, off + k * 4, none⟩ = some (.string L[k].tx) ∧ w.cell? ⟨b, off + k * 4 + 1, none⟩ = some (.int .i64 L[k].at') ∧ w.cell? ⟨b, off + k * 4 + 2, none⟩ = some (.int .i64 L[k].fr) ∧ w.cell? ⟨b, off + k * 4 + 3, none⟩ = some (.int .i64 L[k].tgt) := by
  obtain ⟨b, off, e, hb, hc⟩ := SrcE.cells encW_ok h hk (by omega)
  exact ⟨b, off, e, hb, hc 0 _ rfl, hc 1 _ rfl, hc 2 _ rfl, hc 3 _ rfl⟩
theorem RdY.all {w : World} {b off : Nat} {Ys : List SynD} (h : RdY w (some ⟨b, off, none⟩) Ys) {k : Nat} (hk : k < Ys.length) :
    ∃ A1 c1, b < w.heap.size ∧ w.cell? ⟨b, off + k * 2, none⟩ = some (.slice A1 Ys[k].fr.length c1) ∧ w.cell? ⟨b, off + k * 2 + 1, none⟩ = some (.string Ys[k].tgt) ∧ SrcT w A1 c1 Ys[k].fr := by
  obtain ⟨b', off', A1, c1, e, h1, h2⟩ := h k hk
  simp only [Option.some.injEq, Addr.mk.injEq, and_true] at e
  obtain ⟨rfl, rfl⟩ := e
  exact ⟨A1, c1, h1, h2⟩
def SmTm (L : List TmD) : Prop := L.length ≤ 1048576 ∧ ∀ t ∈ L, t.2 ≤ 1048576
def ruleI (r : Option Nat) : Int := match r with | none => -1 | some k => (k : Int)
/-- what a call that makes rows of terms hands back. -/
def MakesTm (L : List TmD) (w : World) (e : Ending) (w' : World) : Prop := ∃ g c : Nat, (e = .returned (.slice (some ⟨g, 0, none⟩) L.length c) ∧ OwnE encTm 108 2 w' w.heap.size g c L) ∧ Below w.heap.size w w'
theorem begAt_get {L : List TmD} {fr : List ByteArray} {k : Nat} (hk : k < L.length) (hf : k < fr.length) : begAt L fr k = ((L[k].1.toList == fr[k].toList) && decide ((L[k].2 : Int) = (((L[0]'(by omega)).2 : Nat) : Int) + (k : Int))) := by
  unfold begAt
  rw [tmAt_get hk, tmAt_get (show 0 < L.length by omega), getT hf, bytes_eq]
  congr 1
  exact decide_eq_decide.2 (by omega)

set_option maxHeartbeats 1600000 in
theorem l2Begins_any (A1 A2 : Option Addr) (c1 c2 : Nat) (L : List TmD) (fr : List ByteArray) (w : World) (hL : SrcE encTm 2 w A1 c1 L) (hF : SrcT w A2 c2 fr) (hs : SmTm L) (hf : fr.length ≤ 1048576) :
    Calls Tryd.prog 144 #[.slice A1 L.length c1, .slice A2 fr.length c2] w fun e w' => e = .returned (.bool (begB L fr)) ∧ Below w.heap.size w w' := by
  obtain ⟨hs1, hs2⟩ := hs
  obtain ⟨R, hR⟩ : ∃ R, R = begB L fr := ⟨_, rfl⟩
  have H1 : Hid (∀ k, k < fr.length → begAt L fr k = false → R = false) := fun k hk h => by rw [hR]; exact begTo_stop hk h
  have H2 : Hid (fr.length ≤ L.length → begTo L fr fr.length = true → R = true) := fun h1 h2 => by rw [hR, begB_long h1, h2]
  have H3 : Hid (¬ fr.length ≤ L.length → R = false) := fun h => by rw [hR, begB_short h]
  have HS := Lib.hid hs2
  rw [← hR]
  clear hR hs2
  go_enter Tryd.func144, Tryd.ntmps144
  go_wp2_with fail
  go_loopw [5] (fun iv wr => ∃ k : Nat, k ≤ fr.length ∧ k ≤ L.length ∧ iv = .int .i64 k ∧ Hid (begTo L fr k = true) ∧ Below w.heap.size w wr) (fun iv _ => fr.length - (intOf iv).toNat)
  case atStart => exact ⟨0, Nat.zero_le _, Nat.zero_le _, rfl, rfl, Below.refl _ _⟩
  case round =>
    obtain ⟨k, hk, hkL, rfl, hm, hB⟩ := hrel
    obtain ⟨wo, hwo⟩ : ∃ wo, wo = wr := ⟨_, rfl⟩
    subst hwo
    by_cases hlt : k < fr.length
    · have hi0 : (k : Int) < (fr.length : Int) := by omega
      by_cases hlL : k < L.length
      · have hi1 : (k : Int) < (L.length : Int) := by omega
        have hd1 : decide ((L.length : Int) ≤ (k : Int)) = false := decide_eq_false (by omega)
        have hi2 : 0 < L.length := by omega
        have hne : L ≠ [] := List.ne_nil_of_length_pos hi2
        have hL2 := hL.below hB
        obtain ⟨b, off, rfl, hb, x0, x1⟩ := hL2.atTm hlL
        obtain ⟨_, y0, y1⟩ := hL2.allTm (show 0 < L.length by omega)
        rw [Nat.zero_mul, Nat.add_zero] at y0 y1
        obtain ⟨b2, off2, rfl, hb2, z0⟩ := (hF.below hB).atT hlt
        have hg := begAt_get hlL hlt
        have HSUC := Lib.hid (begTo_succ L fr k)
        have HF := Lib.hid (H1.out k hlt)
        have ha0 := HS.out L[0] (List.getElem_mem _)
        generalize L[k].1 = tx at x0 hg
        generalize fr[k] = fx at z0 hg
        generalize L[k].2 = a at x1 hg
        generalize (L[0]'(by omega)).2 = a0 at y1 hg ha0
        have hwm : IntKind.i64.wrap ((a0 : Int) + (k : Int)) = (a0 : Int) + (k : Int) := by rw [IntKind.wrap_i64]; omega
        have m0 := cell_regrown x0
        have m1 := cell_regrown x1
        have m2 := cell_regrown y1
        have m3 := cell_regrown z0
        clear y0 x0 x1 y1 z0 hL2
        cases hq : (tx.toList == fx.toList) with
        | false =>
          have HN : Hid (R = false) := HF.out (by rw [hg, hq]; rfl)
          clear hg HSUC HF
          go_wp2_with fail
          refine region_qw (by kernel_rfl) (by kernel_rfl) ?_
          repeat (
            refine qw_step (fun K hK => ?_)
            go_simp
            first
              | (refine hK _ ?_; clear hK K)
              | fail)
          refine qw_nil ?_
          intro _ hw'
          obtain ⟨⟨dq, osq⟩, hw''⟩ := hw'
          subst hw''
          have hBq := hB.trans ((below_regrown wo dq osq).mono (by have := hB.size; omega))
          go_wp2
          go_ret
          exact ⟨ret_bool HN.out.symm, hBq⟩
        | true =>
          by_cases hA : (a : Int) = (a0 : Int) + (k : Int)
          · have HN : Hid (begTo L fr (k + 1) = true) := by show _ = _; rw [HSUC.out, hm.out, hg, hq, decide_eq_true hA]; rfl
            clear hg HF HSUC hm
            rw [hA] at m1
            clear hA
            go_wp2_with fail
            refine region_qw (by kernel_rfl) (by kernel_rfl) ?_
            repeat (
              refine qw_step (fun K hK => ?_)
              go_simp
              first
                | (refine hK _ ?_; clear hK K)
                | fail)
            refine qw_nil ?_
            intro _ hw'
            obtain ⟨⟨dq, osq⟩, hw''⟩ := hw'
            subst hw''
            have hBq := hB.trans ((below_regrown wo dq osq).mono (by have := hB.size; omega))
            go_wp2
            go_roundw
            case rel => exact ⟨k + 1, by omega, by omega, by go_num, HN, hBq⟩
            case measure => simp [intOf] <;> omega
          · have HN : Hid (R = false) := HF.out (by rw [hg, hq, decide_eq_false hA]; rfl)
            have hA2 : ((a : Int) != (a0 : Int) + (k : Int)) = true := by rw [bne_iff_ne]; exact hA
            clear hg HSUC HF hA
            go_wp2_with fail
            refine region_qw (by kernel_rfl) (by kernel_rfl) ?_
            repeat (
              refine qw_step (fun K hK => ?_)
              go_simp
              first
                | (refine hK _ ?_; clear hK K)
                | fail)
            refine qw_nil ?_
            intro _ hw'
            obtain ⟨⟨dq, osq⟩, hw''⟩ := hw'
            subst hw''
            have hBq := hB.trans ((below_regrown wo dq osq).mono (by have := hB.size; omega))
            go_wp2
            go_ret
            exact ⟨ret_bool HN.out.symm, hBq⟩
      · have HN : Hid (R = false) := H3.out (by omega)
        have hd1 : L.length ≤ k := by omega
        clear hm
        go_wp2_with fail
        refine region_qw (by kernel_rfl) (by kernel_rfl) ?_
        repeat (
          refine qw_step (fun K hK => ?_)
          go_simp
          first
            | (refine hK _ ?_; clear hK K)
            | fail)
        refine qw_nil ?_
        intro _ hw'
        obtain ⟨⟨dq, osq⟩, hw''⟩ := hw'
        subst hw''
        have hBq := hB.trans ((below_regrown wo dq osq).mono (by have := hB.size; omega))
        go_wp2
        go_ret
        exact ⟨ret_bool HN.out.symm, hBq⟩
    · have HN : Hid (R = true) := H2.out (by omega) (by have := hm.out; rwa [show k = fr.length by omega] at this)
      clear hm
      go_wp2
      go_ret
      exact ⟨ret_bool HN.out.symm, hB⟩
theorem cL2Begins (A1 A2 : Option Addr) (c1 c2 : Nat) (L : List TmD) (fr : List ByteArray) (r : Bool) (hr : begB L fr = r) (W : World) (hL : SrcE encTm 2 W A1 c1 L) (hF : SrcT W A2 c2 fr) (hs : SmTm L) (hf : fr.length ≤ 1048576) (d : Nat) (os : Array Obj) :
    Calls Tryd.prog 144 #[.slice A1 L.length c1, .slice A2 fr.length c2] (grow (redrawn W d) os) fun e w'' => e = .returned (.bool r) ∧ ∃ p : Regrown, w'' = grow (redrawn W p.d) p.os := by
  subst hr
  exact Calls.regrown_of (l2Begins_any A1 A2 c1 c2 L fr _ (hL.below (below_regrown W d os)) (hF.below (below_regrown W d os)) hs hf)
set_option maxRecDepth 4000 in
set_option maxHeartbeats 3200000 in
theorem l2Syn_any (d : ConfD) (A1 A2 A3 : Option Addr) (c1 c2 c3 : Nat) (L : List TmD) (w : World) (h : HasC w d A1 c1 A2) (hs : SmC d) (hL : SrcE encTm 2 w A3 c3 L) (hsL : SmTm L) :
    Calls Tryd.prog 116 #[.agg #[.slice A1 d.st.length c1, .slice A2 d.sy.length c2], .slice A3 L.length c3] w fun e w' => e = .returned (.int .i64 (ruleI (ruleS d.sy L d.sy.length))) ∧ Below w.heap.size w w' := by
  obtain ⟨st, sy⟩ := d
  obtain ⟨hsT, hsl, hsY⟩ := hs
  dsimp only at hsl hsY ⊢
  have HSY := Lib.hid hsY
  clear hsY hsT
  obtain ⟨hst, hsy⟩ := h
  dsimp only at hsy hst
  clear hst
  have hB0 : Below w.heap.size w (w.alloc (.cells #[.slice A1 st.length c1, .slice A2 sy.length c2] 44)) := by (repeat' (first | exact Below.refl _ _ | apply Below.alloc | apply Below.setCell | apply Below.drew | apply below_draws)) <;> (first | omega | (simp <;> omega))
  have f1 : (w.alloc (.cells #[.slice A1 st.length c1, .slice A2 sy.length c2] 44)).cell? ⟨w.heap.size, 1, none⟩ = some (.slice A2 sy.length c2) := by simp [go_sem]
  have hs0 : w.heap.size < (w.alloc (.cells #[.slice A1 st.length c1, .slice A2 sy.length c2] 44)).heap.size := by simp
  replace hsy := hsy.below hB0
  replace hL := hL.below hB0
  go_enter Tryd.func116, Tryd.ntmps116
  go_wp2_with fail
  generalize (w.alloc (.cells #[.slice A1 st.length c1, .slice A2 sy.length c2] 44)) = W0 at hB0 f1 hs0 hsy hL ⊢
  have hBw := hB0.size
  generalize hRw : w.heap.size = R0 at f1 hs0 ⊢
  go_loopw [5, 6] (fun bv iv wr => ∃ k : Nat, k ≤ sy.length ∧ iv = .int .i64 k ∧ bv = .int .i64 (ruleI (ruleS sy L k)) ∧ Below W0.heap.size W0 wr) (fun _ iv _ => sy.length - (intOf iv).toNat)
  case atStart => exact ⟨0, Nat.zero_le _, rfl, rfl, Below.refl _ _⟩
  case round =>
    obtain ⟨k, hk, rfl, rfl, hB⟩ := hrel
    obtain ⟨wo, hwo⟩ : ∃ wo, wo = wr := ⟨_, rfl⟩
    subst hwo
    have hBs := hB.size
    have g1 := (hB.cell (p := ⟨R0, 1, none⟩) hs0).trans f1
    have n1 := cell_regrown g1
    by_cases hlt : k < sy.length
    · have hi0 : (k : Int) < (sy.length : Int) := by omega
      have hsy2 := hsy.below hB
      have hL2 := hL.below hB
      obtain ⟨b, off, B1, d1, rfl, hbb, x0, x1, hh⟩ := hsy2 k hlt
      have hsz := (HSY.out sy[k] (List.getElem_mem _)).1.1
      have e1 := ruleS_yes (sy := sy) (L := L) (k := k)
      have e2 := ruleS_no1 (sy := sy) (L := L) (k := k)
      have e3 := ruleS_no2 (sy := sy) (L := L) (k := k)
      rw [frAt_get hlt] at e1 e2
      have HE1 := Lib.hid e1
      have HE2 := Lib.hid e2
      have HE3 := Lib.hid e3
      have hlg : Hid (∀ j, ruleS sy L k = some j → longer sy (ruleS sy L k) k = decide ((frAt sy j).length < (frAt sy k).length)) := fun j h => by rw [h]; rfl
      have hln : Hid (ruleS sy L k = none → longer sy (ruleS sy L k) k = true) := fun h => by rw [h]; rfl
      have hjk := Lib.hid (ruleS_lt sy L k)
      have m0 := cell_regrown x0
      clear e1 e2 e3 x1
      cases hb : begB L sy[k].fr with
      | false =>
        have HN : Hid (ruleS sy L (k + 1) = ruleS sy L k) := HE2.out hb
        clear HE1 HE2 HE3 hlg hln
        generalize ruleS sy L k = r at HN ⊢
        go_wp2_with fail
        refine region_qw (by kernel_rfl) (by kernel_rfl) ?_
        repeat (
          refine qw_step (fun K hK => ?_)
          go_simp
          first
            | (refine hK _ ?_; clear hK K)
            | (apply Exists.intro
               refine ⟨fun _ => ?_, hK _ ?_⟩
               (first | (go_at_call 144; exact cL2Begins _ _ _ _ _ _ _ hb _ hL2 hh ⟨hsL.1, hsL.2⟩ hsz _ _))
               clear hK K)
            | fail)
        refine qw_nil ?_
        intro _ hw'
        obtain ⟨⟨dq, osq⟩, hw''⟩ := hw'
        subst hw''
        have hBq := hB.trans ((below_regrown wo dq osq).mono (by have := hB.size; omega))
        go_wp2
        go_roundw
        case rel => exact ⟨k + 1, by omega, by go_num, by rw [HN.out], hBq⟩
        case measure => simp [intOf] <;> omega
      | true =>
        cases hr : ruleS sy L k with
        | none =>
          have HN : Hid (ruleS sy L (k + 1) = some k) := HE1.out hb (hln.out hr)
          clear HE1 HE2 HE3 hlg hln hjk hr
          have er : ruleI none = -1 := rfl
          rw [er]
          clear er
          go_wp2_with fail
          refine region_qw (by kernel_rfl) (by kernel_rfl) ?_
          repeat (
            refine qw_step (fun K hK => ?_)
            go_simp
            first
              | (refine hK _ ?_; clear hK K)
              | (apply Exists.intro
                 refine ⟨fun _ => ?_, hK _ ?_⟩
                 (first | (go_at_call 144; exact cL2Begins _ _ _ _ _ _ _ hb _ hL2 hh ⟨hsL.1, hsL.2⟩ hsz _ _))
                 clear hK K)
              | fail)
          refine qw_nil ?_
          intro _ hw'
          obtain ⟨⟨dq, osq⟩, hw''⟩ := hw'
          subst hw''
          have hBq := hB.trans ((below_regrown wo dq osq).mono (by have := hB.size; omega))
          go_wp2
          go_roundw
          case rel => exact ⟨k + 1, by omega, by go_num, by rw [HN.out]; rfl, hBq⟩
          case measure => simp [intOf] <;> omega
        | some j =>
          have hjl : j < k := hjk.out j hr
          have hlg2 := hlg.out j hr
          rw [frAt_get hlt, frAt_get (show j < sy.length by omega)] at hlg2
          have hj0 : (j : Int) < (sy.length : Int) := by omega
          have hjn : decide ((j : Int) < 0) = false := decide_eq_false (by omega)
          obtain ⟨B2, d2, _, y0, _⟩ := hsy2.all (show j < sy.length by omega)
          have m2 := cell_regrown y0
          clear y0 x0
          have er : ruleI (some j) = (j : Int) := rfl
          rw [er]
          clear er
          by_cases hlong : (sy[j]'(by omega)).fr.length < sy[k].fr.length
          · have HN : Hid (ruleS sy L (k + 1) = some k) := HE1.out hb (by rw [hlg2, decide_eq_true hlong])
            clear HE1 HE2 HE3 hlg hln hjk hr hlg2
            go_wp2_with fail
            refine region_qw (by kernel_rfl) (by kernel_rfl) ?_
            repeat (
              refine qw_step (fun K hK => ?_)
              go_simp
              first
                | (refine hK _ ?_; clear hK K)
                | (apply Exists.intro
                   refine ⟨fun _ => ?_, hK _ ?_⟩
                   (first | (go_at_call 144; exact cL2Begins _ _ _ _ _ _ _ hb _ hL2 hh ⟨hsL.1, hsL.2⟩ hsz _ _))
                   clear hK K)
                | fail)
            refine qw_nil ?_
            intro _ hw'
            obtain ⟨⟨dq, osq⟩, hw''⟩ := hw'
            subst hw''
            have hBq := hB.trans ((below_regrown wo dq osq).mono (by have := hB.size; omega))
            go_wp2
            go_roundw
            case rel => exact ⟨k + 1, by omega, by go_num, by rw [HN.out]; rfl, hBq⟩
            case measure => simp [intOf] <;> omega
          · have HN : Hid (ruleS sy L (k + 1) = some j) := by show _ = _; rw [HE3.out (by rw [hlg2, decide_eq_false hlong]), hr]
            have hd3 : decide ((sy[j]'(by omega)).fr.length < sy[k].fr.length) = false := decide_eq_false hlong
            clear HE1 HE2 HE3 hlg hln hjk hr hlg2
            go_wp2_with fail
            refine region_qw (by kernel_rfl) (by kernel_rfl) ?_
            repeat (
              refine qw_step (fun K hK => ?_)
              go_simp
              first
                | (refine hK _ ?_; clear hK K)
                | (apply Exists.intro
                   refine ⟨fun _ => ?_, hK _ ?_⟩
                   (first | (go_at_call 144; exact cL2Begins _ _ _ _ _ _ _ hb _ hL2 hh ⟨hsL.1, hsL.2⟩ hsz _ _))
                   clear hK K)
                | fail)
            refine qw_nil ?_
            intro _ hw'
            obtain ⟨⟨dq, osq⟩, hw''⟩ := hw'
            subst hw''
            have hBq := hB.trans ((below_regrown wo dq osq).mono (by have := hB.size; omega))
            go_wp2
            go_roundw
            case rel => exact ⟨k + 1, by omega, by go_num, by rw [HN.out]; rfl, hBq⟩
            case measure => simp [intOf] <;> omega
    · obtain rfl : k = sy.length := by omega
      go_wp2
      go_ret
      exact ⟨rfl, by subst hRw; exact hB0.trans (hB.mono hBw)⟩
end Go.Proofs.YtaobgliimbmemaaDoor
