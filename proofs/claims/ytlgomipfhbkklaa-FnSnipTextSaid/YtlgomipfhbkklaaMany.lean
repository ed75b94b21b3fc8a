/-
  Contracts of l17Many, foMany.
-/
import Derived.Test.YtlgomipfhbkklaaTermsOf
namespace Go.Proofs.Ytlgomipfhbkklaa
open Go.RowKit Go.Sort
set_option linter.unusedVariables false

theorem cntT_take {L : List TmD} {k : Nat} (hk : k < L.length) (x : ByteArray) (a w : Nat) : cntT (L.take (k + 1)) x a w = cntT (L.take k) x a w + if (decide (L[k].1 = x) && (decide (a ≤ L[k].2) && decide (L[k].2 < a + w))) = true then 1 else 0 := by
  unfold cntT
  rw [← List.take_append_getElem hk, List.countP_append, List.countP_cons, List.countP_nil]
  simp
theorem kindsL_take {L : List TmD} {ts : List ByteArray} {k : Nat} (hk : k < ts.length) (a w : Nat) : kindsL L (ts.take (k + 1)) a w = kindsL L (ts.take k) a w + if 0 < cntT L ts[k] a w then 1 else 0 := by
  unfold kindsL
  rw [← List.take_append_getElem hk, List.filter_append, List.length_append]
  congr 1
  by_cases h : 0 < cntT L ts[k] a w <;> simp [h]
theorem allL_take {L : List TmD} {ts : List ByteArray} {k : Nat} (hk : k < ts.length) (a w : Nat) : allL L (ts.take (k + 1)) a w = allL L (ts.take k) a w + cntT L ts[k] a w := by
  unfold allL
  rw [← List.take_append_getElem hk, List.map_append, List.sum_append]
  simp
set_option maxRecDepth 4000 in
set_option maxHeartbeats 3200000 in
theorem l17Many_any (A1 A2 : Option Addr) (c1 c2 : Nat) (L : List TmD) (ts : List ByteArray) (a wn : Nat) (w : World) (hL : SrcE encTm 2 w A1 c1 L) (hT : SrcT w A2 c2 ts) (hs : SmTm L) (ht : ts.length ≤ 4) (ha : a ≤ 1048576) (hw : wn ≤ 12) :
    Calls Try.prog 72 #[.slice A1 L.length c1, .slice A2 ts.length c2, .int .i64 (a : Int), .int .i64 ((a : Int) + (wn : Int) - 1)] w fun e w' => e = .returned (.tuple #[.int .i64 ((kindsL L ts a wn : Nat) : Int), .int .i64 ((allL L ts a wn : Nat) : Int)]) ∧ Below w.heap.size w w' := by
  obtain ⟨hs1, hs2⟩ := hs
  have HS := Lib.hid hs2
  clear hs2
  go_enter Try.func72, Try.ntmps72
  go_wp2_with fail
  go_loopw [10, 11, 12, 13, 14] (fun kv av iv _ _ wr => ∃ k : Nat, k ≤ ts.length ∧ iv = .int .i64 k ∧ kv = .int .i64 ((kindsL L (ts.take k) a wn : Nat) : Int) ∧ av = .int .i64 ((allL L (ts.take k) a wn : Nat) : Int) ∧ Below w.heap.size w wr) (fun _ _ iv _ _ _ => ts.length - (intOf iv).toNat)
  case atStart => exact ⟨0, Nat.zero_le _, rfl, rfl, rfl, Below.refl _ _⟩
  case round =>
    obtain ⟨k, hk, rfl, rfl, rfl, hB⟩ := hrel
    obtain ⟨wo, hwo⟩ : ∃ wo, wo = wr := ⟨_, rfl⟩
    subst hwo
    have hBs := hB.size
    by_cases hlt : k < ts.length
    · have hi0 : (k : Int) < (ts.length : Int) := by omega
      have hkt := kindsL_take (L := L) hlt a wn
      have hat := allL_take (L := L) hlt a wn
      have hkl : kindsL L (ts.take k) a wn ≤ 4 := Nat.le_trans (kindsL_le _ _ _ _) (by rw [List.length_take]; omega)
      have hal : allL L (ts.take k) a wn ≤ 4194304 := Nat.le_trans (allL_le _ _ _ _) (by rw [List.length_take]; exact Nat.le_trans (Nat.mul_le_mul (show min k ts.length ≤ 4 by omega) hs1) (by omega))
      have hcn : cntT L ts[k] a wn ≤ 1048576 := Nat.le_trans (cntT_le _ _ _ _) hs1
      obtain ⟨b2, off2, rfl, hb2, z0⟩ := (hT.below hB).atT hlt
      have HCT := Lib.hid (fun i (hi : i < L.length) => cntT_take hi ts[k] a wn)
      have HCL : Hid (∀ i, cntT (L.take i) ts[k] a wn ≤ 1048576) := fun i => Nat.le_trans (cntT_le _ _ _ _) (by rw [List.length_take]; omega)
      have HEQ : Hid (∀ t : ByteArray, (t.toList == ts[k].toList) = decide (t = ts[k])) := fun t => bytes_eq t _
      have hc0 : cntT L ts[k] a wn = cntT (L.take L.length) ts[k] a wn := by rw [List.take_length]
      rw [hc0] at hkt hat hcn
      generalize kindsL L (ts.take k) a wn = K at hkt hkl ⊢
      generalize allL L (ts.take k) a wn = G at hat hal ⊢
      have HKT := Lib.hid hkt
      have HAT := Lib.hid hat
      clear hkt hat hc0
      have m3 := cell_regrown z0
      generalize ts[k] = x at HCT HCL HEQ HKT HAT hcn z0 m3
      go_wp2_with fail
      go_loopw [13, 14] (fun nv jv wv => ∃ i : Nat, i ≤ L.length ∧ jv = .int .i64 i ∧ nv = .int .i64 ((cntT (L.take i) x a wn : Nat) : Int) ∧ Below wo.heap.size wo wv) (fun _ jv _ => L.length - (intOf jv).toNat)
      case atStart => exact ⟨0, Nat.zero_le _, rfl, rfl, Below.refl _ _⟩
      case round =>
        obtain ⟨i, hi, rfl, rfl, hBi⟩ := hrel
        obtain ⟨wv, hwv⟩ : ∃ wv, wv = wr := ⟨_, rfl⟩
        subst hwv
        have hBis := hBi.size
        have hci := HCL.out i
        by_cases hlti : i < L.length
        · have hi1 : (i : Int) < (L.length : Int) := by omega
          have hL2 := hL.below (hB.trans (hBi.mono hBs))
          obtain ⟨b, off, rfl, hb, x0, x1⟩ := hL2.atTm hlti
          have y0 := (belowL hBi hb2).trans z0
          have hct := HCT.out i hlti
          have heq := HEQ.out L[i].1
          have hpl := HS.out L[i] (List.getElem_mem _)
          have n0 := cell_regrown x0
          have n1 := cell_regrown x1
          have n2 := cell_regrown y0
          clear hL2
          generalize cntT (L.take i) x a wn = C at hct hci ⊢
          generalize L[i].1 = tx at x0 n0 hct heq
          generalize L[i].2 = p at x1 n1 hct hpl
          rw [← heq] at hct
          clear heq x0 x1 y0
          cases hq : (tx.toList == x.toList) with
          | false =>
            have HN : Hid (cntT (L.take (i + 1)) x a wn = C) := by show _ = _; rw [hct, hq]; simp
            clear hct
            go_wp2_with fail
            refine region_qw (by kernel_rfl) (by kernel_rfl) ?_
            repeat (
              refine qw_step (fun K hK => ?_)
              go_simp
              first
                | (refine hK _ ?_; clear hK K)
                | fail)
            refine qw_nil ?_
            intro _ hw'
            obtain ⟨⟨dq, osq⟩, hw''⟩ := hw'
            subst hw''
            have hBq := hBi.trans ((below_regrown wv dq osq).mono (by have := hBi.size; omega))
            go_wp2
            go_roundw
            case rel => exact ⟨i + 1, by omega, by go_num, by rw [HN.out], hBq⟩
            case measure => simp [intOf] <;> omega
          | true =>
            rw [hq] at hct
            cases hw2 : wi (p : Int) (a : Int) ((a : Int) + (wn : Int) - 1) with
            | true =>
              have hp := wi_true.1 hw2
              have hp1 : a ≤ p := by omega
              have hp2 : p < a + wn := by omega
              have HN : Hid (cntT (L.take (i + 1)) x a wn = C + 1) := by show _ = _; rw [hct, decide_eq_true hp1, decide_eq_true hp2]; rfl
              clear hct
              go_wp2_with fail
              refine region_qw (by kernel_rfl) (by kernel_rfl) ?_
              repeat (
                refine qw_step (fun K hK => ?_)
                go_simp
                first
                  | (refine hK _ ?_; clear hK K)
                  | (apply Exists.intro
                     refine ⟨fun _ => ?_, hK _ ?_⟩
                     (first | (go_at_call 46; exact cL1In _ _ _ _ hw2 _ _ _))
                     clear hK K)
                  | fail)
              refine qw_nil ?_
              intro _ hw'
              obtain ⟨⟨dq, osq⟩, hw''⟩ := hw'
              subst hw''
              have hBq := hBi.trans ((below_regrown wv dq osq).mono (by have := hBi.size; omega))
              go_wp2
              go_roundw
              case rel => exact ⟨i + 1, by omega, by go_num, by rw [HN.out]; go_num, hBq⟩
              case measure => simp [intOf] <;> omega
            | false =>
              have HN : Hid (cntT (L.take (i + 1)) x a wn = C) := by
                show _ = _
                rw [hct]
                have hnp : ¬ ((a : Int) ≤ (p : Int) ∧ (p : Int) ≤ (a : Int) + (wn : Int) - 1) := fun h => by rw [wi_true.2 h] at hw2; cases hw2
                by_cases h1 : a ≤ p
                · rw [decide_eq_true h1, decide_eq_false (show ¬ p < a + wn by omega)]; rfl
                · rw [decide_eq_false h1]; rfl
              clear hct
              go_wp2_with fail
              refine region_qw (by kernel_rfl) (by kernel_rfl) ?_
              repeat (
                refine qw_step (fun K hK => ?_)
                go_simp
                first
                  | (refine hK _ ?_; clear hK K)
                  | (apply Exists.intro
                     refine ⟨fun _ => ?_, hK _ ?_⟩
                     (first | (go_at_call 46; exact cL1In _ _ _ _ hw2 _ _ _))
                     clear hK K)
                  | fail)
              refine qw_nil ?_
              intro _ hw'
              obtain ⟨⟨dq, osq⟩, hw''⟩ := hw'
              subst hw''
              have hBq := hBi.trans ((below_regrown wv dq osq).mono (by have := hBi.size; omega))
              go_wp2
              go_roundw
              case rel => exact ⟨i + 1, by omega, by go_num, by rw [HN.out], hBq⟩
              case measure => simp [intOf] <;> omega
        · obtain rfl : i = L.length := by omega
          have hB3 := hB.trans (hBi.mono hBs)
          have hKl : kindsL L (ts.take (k + 1)) a wn = K + if 0 < cntT (L.take L.length) x a wn then 1 else 0 := HKT.out
          have hAl : allL L (ts.take (k + 1)) a wn = G + cntT (L.take L.length) x a wn := HAT.out
          clear HKT HAT HCT HCL HEQ
          generalize cntT (L.take L.length) x a wn = C at hKl hAl hcn hci ⊢
          by_cases hC : 0 < C
          · have HK : Hid (kindsL L (ts.take (k + 1)) a wn = K + 1) := by show _ = _; rw [hKl, if_pos hC]
            have HA := Lib.hid hAl
            clear hKl hAl
            go_wp2
            go_roundw
            case rel => exact ⟨k + 1, by omega, by go_num, by rw [HK.out]; go_num, by rw [HA.out]; go_num, hB3⟩
            case measure => simp [intOf] <;> omega
          · obtain rfl : C = 0 := by omega
            have HK : Hid (kindsL L (ts.take (k + 1)) a wn = K) := by show _ = _; rw [hKl, if_neg (by omega)]; rfl
            have HA : Hid (allL L (ts.take (k + 1)) a wn = G) := hAl
            clear hKl hAl hC
            go_wp2
            go_roundw
            case rel => exact ⟨k + 1, by omega, by go_num, by rw [HK.out], by rw [HA.out], hB3⟩
            case measure => simp [intOf] <;> omega
    · have e1 : ts.take k = ts := List.take_of_length_le (by omega)
      rw [e1]
      clear e1
      go_wp2
      go_ret2
      exact ⟨rfl, hB⟩
set_option maxRecDepth 4000 in
set_option maxHeartbeats 3200000 in
theorem foMany_any (A1 A2 : Option Addr) (c1 c2 : Nat) (L : List TmD) (ts : List ByteArray) (a wn : Nat) (w : World) (hL : SrcE encTm 2 w A1 c1 L) (hT : SrcT w A2 c2 ts) (hs : SmTm L) (ht : ts.length ≤ 4) (ha : a ≤ 1048576) (hw : wn ≤ 12) :
    Calls Try.prog 13 #[.slice A1 L.length c1, .slice A2 ts.length c2, .int .i64 (a : Int), .int .i64 ((a : Int) + (wn : Int) - 1)] w fun e w' => e = .returned (.tuple #[.int .i64 ((kindsL L ts a wn : Nat) : Int), .int .i64 ((allL L ts a wn : Nat) : Int)]) ∧ Below w.heap.size w w' := by
  obtain ⟨hs1, hs2⟩ := hs
  have HS := Lib.hid hs2
  clear hs2
  go_enter Try.func13, Try.ntmps13
  go_wp2_with fail
  go_loopw [10, 11, 12, 13, 14] (fun kv av iv _ _ wr => ∃ k : Nat, k ≤ ts.length ∧ iv = .int .i64 k ∧ kv = .int .i64 ((kindsL L (ts.take k) a wn : Nat) : Int) ∧ av = .int .i64 ((allL L (ts.take k) a wn : Nat) : Int) ∧ Below w.heap.size w wr) (fun _ _ iv _ _ _ => ts.length - (intOf iv).toNat)
  case atStart => exact ⟨0, Nat.zero_le _, rfl, rfl, rfl, Below.refl _ _⟩
  case round =>
    obtain ⟨k, hk, rfl, rfl, rfl, hB⟩ := hrel
    obtain ⟨wo, hwo⟩ : ∃ wo, wo = wr := ⟨_, rfl⟩
    subst hwo
    have hBs := hB.size
    by_cases hlt : k < ts.length
    · have hi0 : (k : Int) < (ts.length : Int) := by omega
      have hkt := kindsL_take (L := L) hlt a wn
      have hat := allL_take (L := L) hlt a wn
      have hkl : kindsL L (ts.take k) a wn ≤ 4 := Nat.le_trans (kindsL_le _ _ _ _) (by rw [List.length_take]; omega)
      have hal : allL L (ts.take k) a wn ≤ 4194304 := Nat.le_trans (allL_le _ _ _ _) (by rw [List.length_take]; exact Nat.le_trans (Nat.mul_le_mul (show min k ts.length ≤ 4 by omega) hs1) (by omega))
      have hcn : cntT L ts[k] a wn ≤ 1048576 := Nat.le_trans (cntT_le _ _ _ _) hs1
      obtain ⟨b2, off2, rfl, hb2, z0⟩ := (hT.below hB).atT hlt
      have HCT := Lib.hid (fun i (hi : i < L.length) => cntT_take hi ts[k] a wn)
      have HCL : Hid (∀ i, cntT (L.take i) ts[k] a wn ≤ 1048576) := fun i => Nat.le_trans (cntT_le _ _ _ _) (by rw [List.length_take]; omega)
      have HEQ : Hid (∀ t : ByteArray, (t.toList == ts[k].toList) = decide (t = ts[k])) := fun t => bytes_eq t _
      have hc0 : cntT L ts[k] a wn = cntT (L.take L.length) ts[k] a wn := by rw [List.take_length]
      rw [hc0] at hkt hat hcn
      generalize kindsL L (ts.take k) a wn = K at hkt hkl ⊢
      generalize allL L (ts.take k) a wn = G at hat hal ⊢
      have HKT := Lib.hid hkt
      have HAT := Lib.hid hat
      clear hkt hat hc0
      have m3 := cell_regrown z0
      generalize ts[k] = x at HCT HCL HEQ HKT HAT hcn z0 m3
      go_wp2_with fail
      go_loopw [13, 14] (fun nv jv wv => ∃ i : Nat, i ≤ L.length ∧ jv = .int .i64 i ∧ nv = .int .i64 ((cntT (L.take i) x a wn : Nat) : Int) ∧ Below wo.heap.size wo wv) (fun _ jv _ => L.length - (intOf jv).toNat)
      case atStart => exact ⟨0, Nat.zero_le _, rfl, rfl, Below.refl _ _⟩
      case round =>
        obtain ⟨i, hi, rfl, rfl, hBi⟩ := hrel
        obtain ⟨wv, hwv⟩ : ∃ wv, wv = wr := ⟨_, rfl⟩
        subst hwv
        have hBis := hBi.size
        have hci := HCL.out i
        by_cases hlti : i < L.length
        · have hi1 : (i : Int) < (L.length : Int) := by omega
          have hL2 := hL.below (hB.trans (hBi.mono hBs))
          obtain ⟨b, off, rfl, hb, x0, x1⟩ := hL2.atTm hlti
          have y0 := (belowL hBi hb2).trans z0
          have hct := HCT.out i hlti
          have heq := HEQ.out L[i].1
          have hpl := HS.out L[i] (List.getElem_mem _)
          have n0 := cell_regrown x0
          have n1 := cell_regrown x1
          have n2 := cell_regrown y0
          clear hL2
          generalize cntT (L.take i) x a wn = C at hct hci ⊢
          generalize L[i].1 = tx at x0 n0 hct heq
          generalize L[i].2 = p at x1 n1 hct hpl
          rw [← heq] at hct
          clear heq x0 x1 y0
          cases hq : (tx.toList == x.toList) with
          | false =>
            have HN : Hid (cntT (L.take (i + 1)) x a wn = C) := by show _ = _; rw [hct, hq]; simp
            clear hct
            go_wp2_with fail
            refine region_qw (by kernel_rfl) (by kernel_rfl) ?_
            repeat (
              refine qw_step (fun K hK => ?_)
              go_simp
              first
                | (refine hK _ ?_; clear hK K)
                | fail)
            refine qw_nil ?_
            intro _ hw'
            obtain ⟨⟨dq, osq⟩, hw''⟩ := hw'
            subst hw''
            have hBq := hBi.trans ((below_regrown wv dq osq).mono (by have := hBi.size; omega))
            go_wp2
            go_roundw
            case rel => exact ⟨i + 1, by omega, by go_num, by rw [HN.out], hBq⟩
            case measure => simp [intOf] <;> omega
          | true =>
            rw [hq] at hct
            by_cases hp1 : a ≤ p
            · by_cases hp2 : p < a + wn
              · have HN : Hid (cntT (L.take (i + 1)) x a wn = C + 1) := by show _ = _; rw [hct, decide_eq_true hp1, decide_eq_true hp2]; rfl
                have hd2 : (p : Int) ≤ (a : Int) + (wn : Int) - 1 := by omega
                clear hct
                go_wp2_with fail
                refine region_qw (by kernel_rfl) (by kernel_rfl) ?_
                repeat (
                  refine qw_step (fun K hK => ?_)
                  go_simp
                  first
                    | (refine hK _ ?_; clear hK K)
                    | fail)
                refine qw_nil ?_
                intro _ hw'
                obtain ⟨⟨dq, osq⟩, hw''⟩ := hw'
                subst hw''
                have hBq := hBi.trans ((below_regrown wv dq osq).mono (by have := hBi.size; omega))
                go_wp2
                go_roundw
                case rel => exact ⟨i + 1, by omega, by go_num, by rw [HN.out]; go_num, hBq⟩
                case measure => simp [intOf] <;> omega
              · have HN : Hid (cntT (L.take (i + 1)) x a wn = C) := by show _ = _; rw [hct, decide_eq_true hp1, decide_eq_false hp2]; rfl
                have hd2 : decide ((p : Int) ≤ (a : Int) + (wn : Int) - 1) = false := decide_eq_false (by omega)
                clear hct
                go_wp2_with fail
                refine region_qw (by kernel_rfl) (by kernel_rfl) ?_
                repeat (
                  refine qw_step (fun K hK => ?_)
                  go_simp
                  first
                    | (refine hK _ ?_; clear hK K)
                    | fail)
                refine qw_nil ?_
                intro _ hw'
                obtain ⟨⟨dq, osq⟩, hw''⟩ := hw'
                subst hw''
                have hBq := hBi.trans ((below_regrown wv dq osq).mono (by have := hBi.size; omega))
                go_wp2
                go_roundw
                case rel => exact ⟨i + 1, by omega, by go_num, by rw [HN.out], hBq⟩
                case measure => simp [intOf] <;> omega
            · have HN : Hid (cntT (L.take (i + 1)) x a wn = C) := by show _ = _; rw [hct, decide_eq_false hp1]; rfl
              have hd1 : decide (a ≤ p) = false := decide_eq_false hp1
              clear hct
              go_wp2_with fail
              refine region_qw (by kernel_rfl) (by kernel_rfl) ?_
              repeat (
                refine qw_step (fun K hK => ?_)
                go_simp
                first
                  | (refine hK _ ?_; clear hK K)
                  | fail)
              refine qw_nil ?_
              intro _ hw'
              obtain ⟨⟨dq, osq⟩, hw''⟩ := hw'
              subst hw''
              have hBq := hBi.trans ((below_regrown wv dq osq).mono (by have := hBi.size; omega))
              go_wp2
              go_roundw
              case rel => exact ⟨i + 1, by omega, by go_num, by rw [HN.out], hBq⟩
              case measure => simp [intOf] <;> omega
        · obtain rfl : i = L.length := by omega
          have hB3 := hB.trans (hBi.mono hBs)
          have hKl : kindsL L (ts.take (k + 1)) a wn = K + if 0 < cntT (L.take L.length) x a wn then 1 else 0 := HKT.out
          have hAl : allL L (ts.take (k + 1)) a wn = G + cntT (L.take L.length) x a wn := HAT.out
          clear HKT HAT HCT HCL HEQ
          generalize cntT (L.take L.length) x a wn = C at hKl hAl hcn hci ⊢
          by_cases hC : 0 < C
          · have HK : Hid (kindsL L (ts.take (k + 1)) a wn = K + 1) := by show _ = _; rw [hKl, if_pos hC]
            have HA := Lib.hid hAl
            clear hKl hAl
            go_wp2
            go_roundw
            case rel => exact ⟨k + 1, by omega, by go_num, by rw [HK.out]; go_num, by rw [HA.out]; go_num, hB3⟩
            case measure => simp [intOf] <;> omega
          · obtain rfl : C = 0 := by omega
            have HK : Hid (kindsL L (ts.take (k + 1)) a wn = K) := by show _ = _; rw [hKl, if_neg (by omega)]; rfl
            have HA : Hid (allL L (ts.take (k + 1)) a wn = G) := hAl
            clear hKl hAl hC
            go_wp2
            go_roundw
            case rel => exact ⟨k + 1, by omega, by go_num, by rw [HK.out], by rw [HA.out], hB3⟩
            case measure => simp [intOf] <;> omega
    · have e1 : ts.take k = ts := List.take_of_length_le (by omega)
      rw [e1]
      clear e1
      go_wp2
      go_ret2
      exact ⟨rfl, hB⟩
end Go.Proofs.Ytlgomipfhbkklaa
