/-
  Contracts of spec.l13Ok, spec.HitsOk.
-/
import Derived.Test.YteomiaffdbbpoaaHits
namespace Go.Proofs.Yteomiaffdbbpoaa
open Go.RowKit
set_option linter.unusedVariables false

def ltB (a b : Int) : Bool := decide (a < b)
/-- the hit at k is ok, and behind the one ahead. -/
def okH (L : List (Int × Int)) (k : Nat) : Bool := wi (L.getD k (0, 0)).1 1 9999 && !ltB (L.getD k (0, 0)).2 1 && (decide (k = 0) || lessH (L.getD (k - 1) (0, 0)) (L.getD k (0, 0))) && !(L.take k).any (fun h => decide (h.1 = (L.getD k (0, 0)).1))
def okTo (L : List (Int × Int)) (k : Nat) : Bool := (List.range k).all (okH L)
def hitsB (L : List (Int × Int)) : Bool := okTo L L.length && decide (L.length ≤ 16)
theorem okTo_succ (L : List (Int × Int)) (k : Nat) : okTo L (k + 1) = (okTo L k && okH L k) := by
  unfold okTo; rw [List.range_succ, List.all_append]; simp
theorem okTo_false {L : List (Int × Int)} {k : Nat} (hk : k < L.length) (h : okH L k = false) : hitsB L = false := by
  unfold hitsB okTo
  have : (List.range L.length).all (okH L) = false := by
    rw [← Bool.not_eq_true, List.all_eq_true]
    intro hh
    have := hh k (List.mem_range.2 hk)
    rw [h] at this; cases this
  rw [this]; rfl
def anyDoc (L : List (Int × Int)) (d : Int) : Bool := L.any fun h => decide (h.1 = d)
theorem anyDoc_take {L : List (Int × Int)} {j : Nat} (hj : j < L.length) (d : Int) : anyDoc (L.take (j + 1)) d = (anyDoc (L.take j) d || decide (L[j].1 = d)) := by
  unfold anyDoc; rw [← List.take_append_getElem hj, List.any_append]; simp
theorem getD2 {L : List (Int × Int)} {k : Nat} (h : k < L.length) : L.getD k (0, 0) = L[k] := by rw [List.getD_eq_getElem?_getD, List.getElem?_eq_getElem h]; rfl
theorem okH_at {L : List (Int × Int)} {k : Nat} (hk : k < L.length) : okH L k = (wi L[k].1 1 9999 && !ltB L[k].2 1 && (decide (k = 0) || lessH (L.getD (k - 1) (0, 0)) L[k]) && !anyDoc (L.take k) L[k].1) := by
  unfold okH anyDoc; rw [getD2 hk]

set_option maxHeartbeats 1600000 in
theorem l13Ok_any (A : Option Addr) (c : Nat) (L : List (Int × Int)) (w : World) (h : Rds w 2 A L.length (L.flatMap enc2)) (hn : L.length ≤ 1048576) :
    Calls Try.prog 52 #[.slice A L.length c] w fun e w' => e = .returned (.bool (hitsB L)) ∧ Below w.heap.size w w' := by
  obtain ⟨R, hR⟩ : ∃ R, R = hitsB L := ⟨_, rfl⟩
  rw [← hR]
  have HR := Lib.hid hR
  clear hR
  go_enter Try.func52, Try.ntmps52
  go_wp2_with fail
  go_loopw [3, 4] (fun iv _ wr => ∃ k : Nat, k ≤ L.length ∧ iv = .int .i64 k ∧ Hid (okTo L k = true) ∧ Below w.heap.size w wr) (fun iv _ _ => L.length - (intOf iv).toNat)
  case atStart => exact ⟨0, Nat.zero_le _, rfl, rfl, Below.refl _ _⟩
  case round =>
    obtain ⟨k, hk, rfl, hm, hB⟩ := hrel
    have hBs := hB.size
    by_cases hlt : k < L.length
    · have hr := h.below hB
      obtain ⟨b, off, rfl, hb, x0, x1⟩ := hr.at2 hlt
      have hi0 : (k : Int) < (L.length : Int) := by omega
      have hok := okH_at hlt
      have hfalse := okTo_false hlt
      have hsucc := okTo_succ L k
      have HFALSE := Lib.hid hfalse
      have HSUCC := Lib.hid hsucc
      clear hfalse hsucc
      cases hw : wi L[k].1 1 9999 with
      | false =>
        have HN : Hid (R = false) := by show _ = _; rw [HR.out, HFALSE.out (by rw [hok, hw]; rfl)]
        clear hok HFALSE HSUCC
        generalize L[k].1 = p at x0 hw
        generalize L[k].2 = q at x1
        go_wp2_with fail
        go_quiet ((go_at_call 73; first | exact qsame (l1In_any _ _ _ _) | exact qsame2 (l1In_any _ _ _ _)))
        have hH : Below wr.heap.size wr (wr.drewN nq) := below_of_drewN
        go_wp2
        go_ret
        exact ⟨ret_bool HN.out.symm, hB.trans (hH.mono hBs)⟩
      | true =>
        rw [hw, Bool.true_and] at hok
        cases hq : ltB L[k].2 1 with
        | true =>
          have HN : Hid (R = false) := by show _ = _; rw [HR.out, HFALSE.out (by rw [hok, hq]; rfl)]
          have hq1 : L[k].2 < 1 := of_decide_eq_true hq
          clear hok HFALSE HSUCC hq
          generalize L[k].1 = p at x0 hw
          generalize L[k].2 = q at x1 hq1
          go_wp2_with fail
          go_quiet ((go_at_call 73; first | exact qsame (l1In_any _ _ _ _) | exact qsame2 (l1In_any _ _ _ _)))
          have hH : Below wr.heap.size wr (wr.drewN nq) := below_of_drewN
          go_wp2
          go_ret
          exact ⟨ret_bool HN.out.symm, hB.trans (hH.mono hBs)⟩
        | false =>
          rw [hq, Bool.not_false, Bool.true_and] at hok
          have hq1 : ¬ L[k].2 < 1 := of_decide_eq_false hq
          clear hq
          have HOK := Lib.hid hok
          obtain ⟨p, hpp⟩ : ∃ p, p = L[k].1 := ⟨_, rfl⟩
          rw [← hpp] at x0 hw HOK
          have HP0 := Lib.hid hpp.symm
          clear hpp hok
          by_cases hpos : 0 < k
          · obtain ⟨j0, rfl⟩ : ∃ j0, k = j0 + 1 := ⟨k - 1, by omega⟩
            obtain ⟨_, y0, y1⟩ := Rds.all2 hr (k := j0) (by omega)
            have HOK1 : Hid (okH L (j0 + 1) = (lessH L[j0] (p, L[j0 + 1].2) && !anyDoc (L.take (j0 + 1)) p)) := by
              show _ = _
              have e1 : L[j0 + 1] = (p, L[j0 + 1].2) := by rw [← HP0.out]
              have e2 : L.getD (j0 + 1 - 1) (0, 0) = L[j0] := by rw [Nat.add_sub_cancel]; exact getD2 (by omega)
              rw [HOK.out, decide_eq_false (by omega : ¬ j0 + 1 = 0), Bool.false_or, e2, ← e1]
            clear HOK
            have e3 : L[j0] = (L[j0].1, L[j0].2) := rfl
            rw [e3] at HOK1
            clear e3
            generalize L[j0 + 1].2 = q at x1 hq1 HOK1
            generalize L[j0].1 = p' at y0 HOK1
            generalize L[j0].2 = q' at y1 HOK1
            have hq2 : decide (q < 1) = false := decide_eq_false hq1
            have hi1 : (j0 : Int) + 1 < (L.length : Int) := by omega
            have hi2 : (j0 : Int) < (L.length : Int) := by omega
            have t1 : ((j0 : Int) + 1).toNat = j0 + 1 := by omega
            have hz1 : (0 : Int) ≤ (j0 : Int) := by omega
            have hz2 : (0 : Int) ≤ (j0 : Int) + 1 := by omega
            have hw3 : IntKind.i64.wrap ((j0 : Int) + 1 - 1) = (j0 : Int) := by rw [Int.add_sub_cancel]; exact IntWalk.i64_in _ (by omega)
            have hw4 : IntKind.i64.wrap (j0 : Int) = (j0 : Int) := IntWalk.i64_in _ (by omega)
            have hkz : decide ((0 : Int) < (j0 : Int) + 1) = true := decide_eq_true (by omega)
            have k1 : ∀ w', Below wr.heap.size wr w' → w'.cell? ⟨b, off + (j0 + 1) * 2, none⟩ = some (.int .i64 p) := fun w' h => (h.cell (p := ⟨_, _, _⟩) hb).trans x0
            have k2 : ∀ w', Below wr.heap.size wr w' → w'.cell? ⟨b, off + (j0 + 1) * 2 + 1, none⟩ = some (.int .i64 q) := fun w' h => (h.cell (p := ⟨_, _, _⟩) hb).trans x1
            have k3 : ∀ w', Below wr.heap.size wr w' → w'.cell? ⟨b, off + j0 * 2, none⟩ = some (.int .i64 p') := fun w' h => (h.cell (p := ⟨_, _, _⟩) hb).trans y0
            have k4 : ∀ w', Below wr.heap.size wr w' → w'.cell? ⟨b, off + j0 * 2 + 1, none⟩ = some (.int .i64 q') := fun w' h => (h.cell (p := ⟨_, _, _⟩) hb).trans y1
            cases hls : lessH (p', q') (p, q) with
            | false =>
              have HN : Hid (R = false) := by show _ = _; rw [HR.out, HFALSE.out (by rw [HOK1.out, hls]; rfl)]
              clear HFALSE HSUCC HOK1 HP0 hkz x0 x1 y0 y1
              go_wp2_with fail
              go_region_held3 (fun w' => Below wr.heap.size wr w')
                ((repeat' (first | exact Below.refl _ _ | assumption | apply Below.alloc | apply Below.setCell | apply Below.drew | apply below_draws | (refine Below.trans ?_ (Below.mono (by assumption) ?_)))) <;> (first | exact Below.size (by assumption) | omega | (simp; done) | (simp; omega) | (refine Nat.le_trans ?_ (Below.size (by assumption)); (first | omega | (simp <;> omega)))))
                (first | (go_at_call 73; refine (l1In_any _ _ _ _).mono ?_; rintro e w' ⟨rfl, rfl⟩; rw [hw]) | (go_at_call 84; refine (l13Less_any (p', q') (p, q) _).mono ?_; rintro e w' ⟨rfl, hbl⟩; rw [hls]))
              rename_i hH
              go_wp2
              go_ret
              exact ⟨ret_bool HN.out.symm, hB.trans (hH.mono hBs)⟩
            | true =>
              have HOK : Hid (okH L (j0 + 1) = !anyDoc (L.take (j0 + 1)) p) := by show _ = _; rw [HOK1.out, hls]; rfl
              clear HOK1
              go_wp2_with fail
              go_region_held3 (fun w' => Below wr.heap.size wr w')
                ((repeat' (first | exact Below.refl _ _ | assumption | apply Below.alloc | apply Below.setCell | apply Below.drew | apply below_draws | (refine Below.trans ?_ (Below.mono (by assumption) ?_)))) <;> (first | exact Below.size (by assumption) | omega | (simp; done) | (simp; omega) | (refine Nat.le_trans ?_ (Below.size (by assumption)); (first | omega | (simp <;> omega)))))
                (first | (go_at_call 73; refine (l1In_any _ _ _ _).mono ?_; rintro e w' ⟨rfl, rfl⟩; rw [hw]) | (go_at_call 84; refine (l13Less_any (p', q') (p, q) _).mono ?_; rintro e w' ⟨rfl, hbl⟩; rw [hls]))
              rename_i hH
              have hpk := HP0.out
              clear HP0 hkz k3 k4 y0 y1
              have hBq : Below w.heap.size w w' := hB.trans (hH.mono hBs)
              have hrq := h.below hBq
              have hqs := hBq.size
              have HP := Lib.hid hpk
              clear hpk k1 k2 x0 x1 hr hB hH hBs
              go_wp2_with fail
              obtain ⟨Wq, hWq⟩ : ∃ Wq, Wq = w' := ⟨_, rfl⟩
              rw [← hWq] at hBq hrq hqs ⊢
              clear hWq
              go_loopw [4] (fun jv wr => ∃ j : Nat, j ≤ (j0 + 1) ∧ jv = .int .i64 j ∧ Hid (anyDoc (L.take j) p = false) ∧ ∃ q', wr = Wq.drewN q') (fun jv _ => (j0 + 1) - (intOf jv).toNat)
              case atStart => exact ⟨0, Nat.zero_le _, rfl, rfl, 0, rfl⟩
              case round =>
                obtain ⟨j, hj, rfl, hna, q2, rfl⟩ := hrel
                by_cases hlj : j < (j0 + 1)
                · obtain ⟨_, y0, _⟩ := Rds.all2 hrq (k := j) (by omega)
                  obtain ⟨_, z0, _⟩ := Rds.all2 hrq (k := (j0 + 1)) hlt
                  rw [HP.out] at z0
                  have hj0 : (j : Int) < (L.length : Int) := by omega
                  have had := anyDoc_take (L := L) (j := j) (by omega) p
                  generalize (L[j]'(by omega)).1 = r at y0 had
                  by_cases hrp : r = p
                  · have HN : Hid (R = false) := by
                      show _ = _
                      have h9 : anyDoc (L.take (j + 1)) p = true := by rw [had, hrp]; simp
                      have h10 : anyDoc (L.take (j0 + 1)) p = true := by
                        unfold anyDoc at h9 ⊢
                        rw [List.any_eq_true] at h9 ⊢
                        obtain ⟨x, hx, hx2⟩ := h9
                        exact ⟨x, List.mem_of_mem_take (show x ∈ (L.take (j0 + 1)).take (j + 1) by rw [List.take_take, Nat.min_eq_left (by omega)]; exact hx), hx2⟩
                      rw [HR.out, HFALSE.out (by rw [HOK.out, h10]; simp)]
                    subst hrp
                    clear had hna HFALSE HSUCC HOK HR
                    go_wp2_with fail
                    go_quiet (fail)
                    go_wp2
                    go_ret
                    exact ⟨ret_bool HN.out.symm, hBq.trans (by first | exact (below_of_drewN).mono hqs | (rw [World.drewN_drewN]; exact (below_of_drewN).mono hqs))⟩
                  · have HA : Hid (anyDoc (L.take (j + 1)) p = false) := by show _ = _; rw [had, hna.out]; simpa using hrp
                    clear had hna
                    go_wp2_with fail
                    go_quiet (fail)
                    go_wp2
                    go_roundw
                    case rel => exact ⟨j + 1, by omega, by go_num, HA, _, (by first | rfl | exact World.drewN_drewN _ _ _)⟩
                    case measure => simp [intOf]; omega
                · have hjk : (j0 + 1) = j := by omega
                  subst hjk
                  have HS : Hid (okTo L ((j0 + 1) + 1) = true) := by show _ = _; rw [HSUCC.out, hm.out, HOK.out, hna.out]; rfl
                  clear hna HSUCC HOK HFALSE hm
                  go_wp2
                  go_roundw
                  case rel => exact ⟨(j0 + 1) + 1, by omega, by go_num, HS, hBq.trans ((below_of_drewN).mono hqs)⟩
                  case measure => simp [intOf]; omega
          · have hkz : decide ((0 : Int) < (k : Int)) = false := decide_eq_false (by omega)
            have hkz2 : decide (0 < k) = false := decide_eq_false hpos
            have hk0 : k = 0 := by omega
            have HOK2 : Hid (okH L k = !anyDoc (L.take k) p) := by show _ = _; rw [HOK.out, decide_eq_true hk0]; rfl
            clear hk0 HOK
            generalize L[k].2 = q at x1 hq1
            have hq2 : decide (q < 1) = false := decide_eq_false hq1
            go_wp2_with fail
            go_quiet ((go_at_call 73; first | exact qsame (l1In_any _ _ _ _) | exact qsame2 (l1In_any _ _ _ _)))
            have hH : Below wr.heap.size wr (wr.drewN nq) := below_of_drewN
            have hpk := HP0.out
            have HOK := HOK2
            clear HOK2 HP0 hkz hkz2 hpos
            have hBq : Below w.heap.size w (wr.drewN nq) := hB.trans (hH.mono hBs)
            have hrq := h.below hBq
            have hqs := hBq.size
            have HP := Lib.hid hpk
            clear hpk x0 x1 hr hB hH hBs
            go_wp2_with fail
            obtain ⟨Wq, hWq⟩ : ∃ Wq, Wq = (wr.drewN nq) := ⟨_, rfl⟩
            rw [← hWq] at hBq hrq hqs ⊢
            clear hWq
            go_loopw [4] (fun jv wr => ∃ j : Nat, j ≤ k ∧ jv = .int .i64 j ∧ Hid (anyDoc (L.take j) p = false) ∧ ∃ q', wr = Wq.drewN q') (fun jv _ => k - (intOf jv).toNat)
            case atStart => exact ⟨0, Nat.zero_le _, rfl, rfl, 0, rfl⟩
            case round =>
              obtain ⟨j, hj, rfl, hna, q2, rfl⟩ := hrel
              by_cases hlj : j < k
              · obtain ⟨_, y0, _⟩ := Rds.all2 hrq (k := j) (by omega)
                obtain ⟨_, z0, _⟩ := Rds.all2 hrq (k := k) hlt
                rw [HP.out] at z0
                have hj0 : (j : Int) < (L.length : Int) := by omega
                have had := anyDoc_take (L := L) (j := j) (by omega) p
                generalize (L[j]'(by omega)).1 = r at y0 had
                by_cases hrp : r = p
                · have HN : Hid (R = false) := by
                    show _ = _
                    have h9 : anyDoc (L.take (j + 1)) p = true := by rw [had, hrp]; simp
                    have h10 : anyDoc (L.take k) p = true := by
                      unfold anyDoc at h9 ⊢
                      rw [List.any_eq_true] at h9 ⊢
                      obtain ⟨x, hx, hx2⟩ := h9
                      exact ⟨x, List.mem_of_mem_take (show x ∈ (L.take k).take (j + 1) by rw [List.take_take, Nat.min_eq_left (by omega)]; exact hx), hx2⟩
                    rw [HR.out, HFALSE.out (by rw [HOK.out, h10]; simp)]
                  subst hrp
                  clear had hna HFALSE HSUCC HOK HR
                  go_wp2_with fail
                  go_quiet (fail)
                  go_wp2
                  go_ret
                  exact ⟨ret_bool HN.out.symm, hBq.trans (by first | exact (below_of_drewN).mono hqs | (rw [World.drewN_drewN]; exact (below_of_drewN).mono hqs))⟩
                · have HA : Hid (anyDoc (L.take (j + 1)) p = false) := by show _ = _; rw [had, hna.out]; simpa using hrp
                  clear had hna
                  go_wp2_with fail
                  go_quiet (fail)
                  go_wp2
                  go_roundw
                  case rel => exact ⟨j + 1, by omega, by go_num, HA, _, (by first | rfl | exact World.drewN_drewN _ _ _)⟩
                  case measure => simp [intOf]; omega
              · have hjk : k = j := by omega
                subst hjk
                have HS : Hid (okTo L (k + 1) = true) := by show _ = _; rw [HSUCC.out, hm.out, HOK.out, hna.out]; rfl
                clear hna HSUCC HOK HFALSE hm
                go_wp2
                go_roundw
                case rel => exact ⟨k + 1, by omega, by go_num, HS, hBq.trans ((below_of_drewN).mono hqs)⟩
                case measure => simp [intOf]; omega
    · have hkk : L.length = k := by omega
      have HN : Hid (R = decide (L.length ≤ 16)) := by show _ = _; rw [HR.out]; unfold hitsB; rw [hkk, hm.out]; rfl
      clear hm HR
      by_cases h16 : L.length ≤ 16
      · go_wp2
        go_ret
        exact ⟨ret_bool (by rw [HN.out]; simp; omega), hB⟩
      · go_wp2
        go_ret
        exact ⟨ret_bool (by rw [HN.out]; simp; omega), hB⟩
theorem specHitsOk_any (A : Option Addr) (c : Nat) (L : List (Int × Int)) (w : World) (h : Rds w 2 A L.length (L.flatMap enc2)) (hn : L.length ≤ 1048576) :
    Calls Try.prog 14 #[.slice A L.length c] w fun e w' => e = .returned (.bool (hitsB L)) ∧ Below w.heap.size w w' := by
  go_enter Try.func14, Try.ntmps14
  go_wp2_with fail
  refine (l13Ok_any A c L _ h hn).mono ?_
  rintro e w1 ⟨rfl, hb⟩
  go_wp2
  go_ret
  exact ⟨rfl, hb⟩
end Go.Proofs.Yteomiaffdbbpoaa
