/-
  TermScore of both programs: the same fraction.
-/
import Derived.Test.YtobdkkbackalhaaDoorExactRats
namespace Go.Proofs.YtobdkkbackalhaaDoor
open Go.RowKit
set_option linter.unusedVariables false

/-- how often d can be doubled, not above n (n at most 16). -/
def rare (d n : Int) : Int := (if 2 * d ≤ n then 1 else 0) + (if 4 * d ≤ n then 1 else 0) + (if 8 * d ≤ n then 1 else 0) + (if 16 * d ≤ n then 1 else 0)
theorem rare_range (d n : Int) : 0 ≤ rare d n ∧ rare d n ≤ 4 := by unfold rare; repeat' split <;> omega

theorem specRare_any (d n : Int) (w : World) (h1 : 1 ≤ d) (h2 : d ≤ n) (h3 : n ≤ 16) :
    Calls Tryd.prog 44 #[.int .i64 d, .int .i64 n] w fun e w' => e = .returned (.int .i64 (rare d n)) ∧ w = w' := by
  go_enter Tryd.func44, Tryd.ntmps44
  go_wp2
  go_loop [0, 5] (fun x y => ∃ k e : Int, 0 ≤ k ∧ k ≤ 4 ∧ x = .int .i64 e ∧ y = .int .i64 k ∧ Hid (rare d n = k + rare e n) ∧ 1 ≤ e ∧ e ≤ n) (fun x _ => 16 - (intOf x).toNat)
  case atStart => exact ⟨0, d, by omega, by omega, rfl, rfl, by exact (Int.zero_add _).symm, h1, h2⟩
  case round =>
    obtain ⟨k, e, hk, hk4, rfl, rfl, hr, he, hen⟩ := hrel
    obtain ⟨q1, q2⟩ := rare_range d n
    by_cases hx : e * 2 ≤ n
    · have hr2 : Hid (rare e n = 1 + rare (e * 2) n) := by show rare e n = _; unfold rare; repeat' split <;> omega
      obtain ⟨q3, q4⟩ := rare_range (e * 2) n
      have hk5 : k + 1 ≤ 4 := by have h1 := hr.out; have h2 := hr2.out; omega
      go_wp2
      go_round
      case rel => exact ⟨k + 1, e * 2, by omega, hk5, rfl, rfl, by show rare d n = _; rw [hr.out, hr2.out]; omega, by omega, hx⟩
      case measure => simp [intOf]; omega
    · have hr2 : Hid (rare e n = 0) := by show rare e n = _; unfold rare; repeat' split <;> omega
      go_wp2
      go_ret
      exact ⟨ret_int (by rw [hr.out, hr2.out]; simp), rfl⟩

def scC (tf long total docs df : Int) : Bool := wi tf 1 80 && wi long tf 80 && wi docs 1 16 && wi df 1 docs && wi total long 1280
def scA (tf docs df : Int) : Int := (1 + rare df docs) * 22 * tf
def scB (tf long total docs : Int) : Int := 10 * tf + 3 + long * docs * 9 / total
theorem mul_le_of {x y a b : Int} (hx0 : 0 ≤ x) (hx : x ≤ a) (hy0 : 0 ≤ y) (hy : y ≤ b) : 0 ≤ x * y ∧ x * y ≤ a * b :=
  ⟨Int.mul_nonneg hx0 hy0, Int.le_trans (Int.mul_le_mul_of_nonneg_right hx hy0) (Int.mul_le_mul_of_nonneg_left hy (by omega))⟩

/-- a fraction of two numbers that are not too great fits, when made as short as may be. -/
theorem fit_small {a b : Int} (h1 : -1000000000 ≤ a) (h2 : a ≤ 1000000000) (h3 : 1 ≤ b) (h4 : b ≤ 1000000000) : fitB a b = true := by
  have hg := gcdI_pos (a := a) (show b ≠ 0 by omega)
  have hu : upOf a b = a.tdiv (gcdI a b) := by unfold upOf; rw [if_neg (by omega)]
  have hd : downOf a b = b / gcdI a b := by unfold downOf; rw [if_neg (by omega)]
  obtain ⟨b1, b2⟩ := tdiv_bound a (gcdI a b) hg 1000000000 (by omega)
  unfold fitB
  rw [ratOkB_iff, hu, hd]
  refine ⟨⟨by omega, by omega⟩, ⟨?_, Int.le_trans (Int.ediv_le_self _ (by omega)) h4⟩, ?_⟩
  · rw [Int.le_ediv_iff_mul_le (by omega)]
    have := gcdI_le (a := a) (show b ≠ 0 by omega)
    omega
  · unfold gcdI at hg ⊢
    have hpos : 0 < Int.gcd a b := by omega
    have hda : ((Int.gcd a b : Nat) : Int) ∣ a := Int.gcd_dvd_left _ _
    rw [Int.tdiv_eq_ediv_of_dvd hda, Int.gcd_ediv_gcd_ediv_gcd hpos]
    rfl

theorem l12Term_any (tf long total docs df : Int) (w : World) (h1 : 1 ≤ tf) (h2 : tf ≤ 80) (h3 : tf ≤ long) (h4 : long ≤ 80) (h5 : 1 ≤ docs) (h6 : docs ≤ 16) (h7 : 1 ≤ df) (h8 : df ≤ docs) (h9 : long ≤ total) (h10 : total ≤ 1280) :
    Calls Tryd.prog 36 #[.int .i64 tf, .int .i64 long, .int .i64 total, .int .i64 docs, .int .i64 df] w fun e w' => e = .returned (.agg #[.int .i64 (upOf (scA tf docs df) (scB tf long total docs)), .int .i64 (downOf (scA tf docs df) (scB tf long total docs))]) ∧ Below w.heap.size w w' := by
  obtain ⟨p1, p2⟩ := mul_le_of (show 0 ≤ long by omega) h4 (show 0 ≤ docs by omega) h6
  have d1 : 0 ≤ long * docs * 9 / total := Int.ediv_nonneg (by omega) (by omega)
  have d2 : long * docs * 9 / total ≤ 11520 := Int.le_trans (Int.ediv_le_self _ (by omega)) (by omega)
  obtain ⟨r1, r2⟩ := rare_range df docs
  obtain ⟨m1, m2⟩ := mul_le_of (show 0 ≤ (1 + rare df docs) * 22 by omega) (show (1 + rare df docs) * 22 ≤ 110 by omega) (show 0 ≤ tf by omega) h2
  have htot : 0 < total := by omega
  have HA : Hid (scA tf docs df = (1 + rare df docs) * 22 * tf) := rfl
  have HB : Hid (scB tf long total docs = 10 * tf + 3 + long * docs * 9 / total) := rfl
  go_enter Tryd.func36, Tryd.ntmps36
  go_wp2_with (go_at_call 44; refine (specRare_any _ _ _ h7 h8 h6).mono ?_; rintro e w' ⟨rfl, rfl⟩)
  rw [← HA.out, ← HB.out]
  have ha : (scA tf docs df).natAbs ≤ 4000000000000000000 := by rw [HA.out]; omega
  have hb : (scB tf long total docs).natAbs ≤ 4000000000000000000 := by rw [HB.out]; omega
  have hb0 : scB tf long total docs ≠ 0 := by rw [HB.out]; omega
  refine (l10Make_any _ _ _ ha hb hb0).mono ?_
  rintro e w1 ⟨rfl, hb1⟩
  obtain ⟨c1, f1⟩ := bcell hb1
  have q0 : w1.cell? ⟨w.heap.size, 0, none⟩ = some (.int .i64 0) := (c1 _ _ (by simp)).trans (by simp [go_sem])
  have q1 : w1.cell? ⟨w.heap.size, 1, none⟩ = some (.int .i64 0) := (c1 _ _ (by simp)).trans (by simp [go_sem])
  have q2 : w1.frozen? ⟨w.heap.size, 0, none⟩ = false := (f1 _ _ (by simp)).trans (by simp [go_sem])
  have q3 : w1.frozen? ⟨w.heap.size, 1, none⟩ = false := (f1 _ _ (by simp)).trans (by simp [go_sem])
  have hB1 : Below w.heap.size w w1 := by
    refine Below.trans ?_ (hb1.mono ?_)
    · exact (by (repeat' (first | exact Below.refl _ _ | apply Below.alloc | apply Below.setCell | apply Below.drew | apply below_draws)) <;> (first | omega | (simp <;> omega)))
    · first | omega | (simp <;> omega)
  clear c1 f1 hb1 ha hb hb0
  go_wp2
  exact bodyPost_ret (v := .agg #[.int .i64 (upOf (scA tf docs df) (scB tf long total docs)), .int .i64 (downOf (scA tf docs df) (scB tf long total docs))]) (by simp [results, Tryd.results36, go_sem, q0, q1]) rfl ⟨rfl, hB1.trans (by (repeat' (first | exact Below.refl _ _ | apply Below.alloc | apply Below.setCell | apply Below.drew | apply below_draws)) <;> (first | omega | (simp <;> omega)))⟩

theorem specTermScore_any (tf long total docs df : Int) (w : World) :
    Calls Tryd.prog 21 #[.int .i64 tf, .int .i64 long, .int .i64 total, .int .i64 docs, .int .i64 df] w fun e w' => e = .returned (.tuple #[.agg #[.int .i64 (pickU (scC tf long total docs df) (upOf (scA tf docs df) (scB tf long total docs))), .int .i64 (pickD (scC tf long total docs df) (downOf (scA tf docs df) (scB tf long total docs)))], .bool (scC tf long total docs df)]) ∧ Below w.heap.size w w' := by
  by_cases h1 : wi tf 1 80 = true
  · by_cases h2 : wi long tf 80 = true
    · by_cases h3 : wi docs 1 16 = true
      · by_cases h4 : wi df 1 docs = true
        · by_cases h5 : wi total long 1280 = true
          · have hc : scC tf long total docs df = true := by simp [scC, h1, h2, h3, h4, h5]
            obtain ⟨a1, a2⟩ := wi_true.1 h1
            obtain ⟨a3, a4⟩ := wi_true.1 h2
            obtain ⟨a5, a6⟩ := wi_true.1 h3
            obtain ⟨a7, a8⟩ := wi_true.1 h4
            obtain ⟨a9, a10⟩ := wi_true.1 h5
            go_enter Tryd.func21, Tryd.ntmps21
            go_wp2_with (go_at_call 31; refine (l1In_any _ _ _ _).mono ?_; rintro e w' ⟨rfl, rfl⟩)
            refine (l12Term_any _ _ _ _ _ _ a1 a2 a3 a4 a5 a6 a7 a8 a9 a10).mono ?_
            rintro e w1 ⟨rfl, hb1⟩
            obtain ⟨c1, f1⟩ := bcell hb1
            have q0 : w1.cell? ⟨w.heap.size, 0, none⟩ = some (.int .i64 0) := (c1 _ _ (by simp)).trans (by simp [go_sem])
            have q1 : w1.cell? ⟨w.heap.size, 1, none⟩ = some (.int .i64 0) := (c1 _ _ (by simp)).trans (by simp [go_sem])
            have q2 : w1.frozen? ⟨w.heap.size, 0, none⟩ = false := (f1 _ _ (by simp)).trans (by simp [go_sem])
            have q3 : w1.frozen? ⟨w.heap.size, 1, none⟩ = false := (f1 _ _ (by simp)).trans (by simp [go_sem])
            have hB1 : Below w.heap.size w w1 := by
              refine Below.trans ?_ (hb1.mono ?_)
              · exact (by (repeat' (first | exact Below.refl _ _ | apply Below.alloc | apply Below.setCell | apply Below.drew | apply below_draws)) <;> (first | omega | (simp <;> omega)))
              · first | omega | (simp <;> omega)
            clear c1 f1 hb1
            go_wp2
            refine bodyPost_ret (v := .tuple #[.agg #[.int .i64 (pickU (scC tf long total docs df) (upOf (scA tf docs df) (scB tf long total docs))), .int .i64 (pickD (scC tf long total docs df) (downOf (scA tf docs df) (scB tf long total docs)))], .bool (scC tf long total docs df)]) (by simp [results, Tryd.results21, go_sem, pickU, pickD, hc, q0, q1]) rfl ⟨rfl, hB1.trans (by (repeat' (first | exact Below.refl _ _ | apply Below.alloc | apply Below.setCell | apply Below.drew | apply below_draws)) <;> (first | omega | (simp <;> omega)))⟩
          · have h5' : wi total long 1280 = false := by simpa using h5
            have hc : scC tf long total docs df = false := by simp [scC, h5']
            go_enter Tryd.func21, Tryd.ntmps21
            go_wp2_with (go_at_call 31; refine (l1In_any _ _ _ _).mono ?_; rintro e w' ⟨rfl, rfl⟩)
            refine bodyPost_ret (v := .tuple #[.agg #[.int .i64 (pickU (scC tf long total docs df) (upOf (scA tf docs df) (scB tf long total docs))), .int .i64 (pickD (scC tf long total docs df) (downOf (scA tf docs df) (scB tf long total docs)))], .bool (scC tf long total docs df)]) (by simp [results, Tryd.results21, go_sem, pickU, pickD, hc]) rfl ⟨rfl, by (repeat' (first | exact Below.refl _ _ | apply Below.alloc | apply Below.setCell | apply Below.drew | apply below_draws)) <;> (first | omega | (simp <;> omega))⟩
        · have h4' : wi df 1 docs = false := by simpa using h4
          have hc : scC tf long total docs df = false := by simp [scC, h4']
          go_enter Tryd.func21, Tryd.ntmps21
          go_wp2_with (go_at_call 31; refine (l1In_any _ _ _ _).mono ?_; rintro e w' ⟨rfl, rfl⟩)
          refine bodyPost_ret (v := .tuple #[.agg #[.int .i64 (pickU (scC tf long total docs df) (upOf (scA tf docs df) (scB tf long total docs))), .int .i64 (pickD (scC tf long total docs df) (downOf (scA tf docs df) (scB tf long total docs)))], .bool (scC tf long total docs df)]) (by simp [results, Tryd.results21, go_sem, pickU, pickD, hc]) rfl ⟨rfl, by (repeat' (first | exact Below.refl _ _ | apply Below.alloc | apply Below.setCell | apply Below.drew | apply below_draws)) <;> (first | omega | (simp <;> omega))⟩
      · have h3' : wi docs 1 16 = false := by simpa using h3
        have hc : scC tf long total docs df = false := by simp [scC, h3']
        go_enter Tryd.func21, Tryd.ntmps21
        go_wp2_with (go_at_call 31; refine (l1In_any _ _ _ _).mono ?_; rintro e w' ⟨rfl, rfl⟩)
        refine bodyPost_ret (v := .tuple #[.agg #[.int .i64 (pickU (scC tf long total docs df) (upOf (scA tf docs df) (scB tf long total docs))), .int .i64 (pickD (scC tf long total docs df) (downOf (scA tf docs df) (scB tf long total docs)))], .bool (scC tf long total docs df)]) (by simp [results, Tryd.results21, go_sem, pickU, pickD, hc]) rfl ⟨rfl, by (repeat' (first | exact Below.refl _ _ | apply Below.alloc | apply Below.setCell | apply Below.drew | apply below_draws)) <;> (first | omega | (simp <;> omega))⟩
    · have h2' : wi long tf 80 = false := by simpa using h2
      have hc : scC tf long total docs df = false := by simp [scC, h2']
      go_enter Tryd.func21, Tryd.ntmps21
      go_wp2_with (go_at_call 31; refine (l1In_any _ _ _ _).mono ?_; rintro e w' ⟨rfl, rfl⟩)
      refine bodyPost_ret (v := .tuple #[.agg #[.int .i64 (pickU (scC tf long total docs df) (upOf (scA tf docs df) (scB tf long total docs))), .int .i64 (pickD (scC tf long total docs df) (downOf (scA tf docs df) (scB tf long total docs)))], .bool (scC tf long total docs df)]) (by simp [results, Tryd.results21, go_sem, pickU, pickD, hc]) rfl ⟨rfl, by (repeat' (first | exact Below.refl _ _ | apply Below.alloc | apply Below.setCell | apply Below.drew | apply below_draws)) <;> (first | omega | (simp <;> omega))⟩
  · have h1' : wi tf 1 80 = false := by simpa using h1
    have hc : scC tf long total docs df = false := by simp [scC, h1']
    go_enter Tryd.func21, Tryd.ntmps21
    go_wp2_with (go_at_call 31; refine (l1In_any _ _ _ _).mono ?_; rintro e w' ⟨rfl, rfl⟩)
    refine bodyPost_ret (v := .tuple #[.agg #[.int .i64 (pickU (scC tf long total docs df) (upOf (scA tf docs df) (scB tf long total docs))), .int .i64 (pickD (scC tf long total docs df) (downOf (scA tf docs df) (scB tf long total docs)))], .bool (scC tf long total docs df)]) (by simp [results, Tryd.results21, go_sem, pickU, pickD, hc]) rfl ⟨rfl, by (repeat' (first | exact Below.refl _ _ | apply Below.alloc | apply Below.setCell | apply Below.drew | apply below_draws)) <;> (first | omega | (simp <;> omega))⟩

theorem termScore_any (tf long total docs df : Int) (w : World) (hL : Laid w) :
    Calls Tryd.prog 22 #[.int .i64 tf, .int .i64 long, .int .i64 total, .int .i64 docs, .int .i64 df] w fun e w' => e = .returned (.tuple #[.agg #[.int .i64 (pickU (scC tf long total docs df) (upOf (scA tf docs df) (scB tf long total docs))), .int .i64 (pickD (scC tf long total docs df) (downOf (scA tf docs df) (scB tf long total docs)))], .bool (scC tf long total docs df)]) ∧ Below w.heap.size w w' := by
  have hlt := hL.lt
  by_cases h1 : wi tf 1 80 = true
  · by_cases h2 : wi long tf 80 = true
    · by_cases h3 : wi docs 1 16 = true
      · by_cases h4 : wi df 1 docs = true
        · by_cases h5 : wi total long 1280 = true
          · have hc : scC tf long total docs df = true := by simp [scC, h1, h2, h3, h4, h5]
            obtain ⟨a1, a2⟩ := wi_true.1 h1
            obtain ⟨a3, a4⟩ := wi_true.1 h2
            obtain ⟨a5, a6⟩ := wi_true.1 h3
            obtain ⟨a7, a8⟩ := wi_true.1 h4
            obtain ⟨a9, a10⟩ := wi_true.1 h5
            obtain ⟨p1, p2⟩ := mul_le_of (show 0 ≤ long by omega) a4 (show 0 ≤ docs by omega) a6
            have d1 : 0 ≤ long * docs * 9 / total := Int.ediv_nonneg (by omega) (by omega)
            have d2 : long * docs * 9 / total ≤ 11520 := Int.le_trans (Int.ediv_le_self _ (by omega)) (by omega)
            obtain ⟨r1, r2⟩ := rare_range df docs
            obtain ⟨m1, m2⟩ := mul_le_of (show 0 ≤ 22 * tf by omega) (show 22 * tf ≤ 1760 by omega) (show 0 ≤ rare df docs + 1 by omega) (show rare df docs + 1 ≤ 5 by omega)
            have htot : 0 < total := by omega
            have e9 : 9 * long * docs = long * docs * 9 := by rw [Int.mul_comm 9 long, Int.mul_right_comm]
            have HA : Hid (22 * tf * (rare df docs + 1) = scA tf docs df) := by show _ = _; unfold scA; rw [Int.mul_comm (22 * tf), Int.add_comm (rare df docs), Int.mul_assoc]
            have HB : Hid (10 * tf + 3 + 9 * long * docs / total = scB tf long total docs) := by show _ = _; unfold scB; rw [e9]
            have p3 : 0 ≤ 9 * long * docs ∧ 9 * long * docs ≤ 11520 := by rw [e9]; omega
            obtain ⟨p3, p4⟩ := p3
            rw [← e9] at d1 d2
            clear e9
            go_enter Tryd.func22, Tryd.ntmps22
            go_wp2_with (go_at_call 33; refine (within_any _ _ _ _).mono ?_; rintro e w' ⟨rfl, rfl⟩)
            go_loop [12] (fun x => ∃ k : Int, 0 ≤ k ∧ k ≤ rare df docs ∧ x = .int .i64 k) (fun x => 16 - (intOf x).toNat)
            case atStart => exact ⟨0, by omega, by omega, rfl⟩
            case round =>
              obtain ⟨k, k1, k2, rfl⟩ := hrel
              have hk : k = 0 ∨ k = 1 ∨ k = 2 ∨ k = 3 ∨ k = 4 := by omega
              rcases hk with rfl | rfl | rfl | rfl | rfl
              · by_cases hd : df * 2 ≤ docs
                · have hr : 0 + 1 ≤ rare df docs := by unfold rare; repeat' split <;> omega
                  go_wp2_with fail
                  go_round
                  case rel => exact ⟨0 + 1, by omega, hr, by first | rfl | go_num⟩
                  case measure => simp [intOf]
                · have hr : Hid (rare df docs = 0) := by
                    show rare df docs = 0
                    have h0 := k2
                    unfold rare at h0 ⊢
                    repeat' split at h0 <;> repeat' split <;> omega
                  rw [hr.out] at HA m1 m2
                  clear r1 r2 k2
                  go_wp2_with fail
                  rw [show (22 * tf : Int) = scA tf docs df from by have := HA.out; omega, show (10 * tf + 3 + 9 * long * docs / total : Int) = scB tf long total docs from HB.out]
                  refine (ratOf_any _ _ _ (hL.below (B := w.heap.size) (by (repeat' (first | exact Below.refl _ _ | apply Below.alloc | apply Below.setCell | apply Below.drew | apply below_draws)) <;> (first | omega | (simp <;> omega))) hlt)).mono ?_
                  rintro e w1 ⟨rfl, hb1⟩
                  have hA1 : 0 ≤ scA tf docs df ∧ scA tf docs df ≤ 8800 := by rw [← HA.out]; omega
                  have hB1 : 3 ≤ scB tf long total docs ∧ scB tf long total docs ≤ 20000 := by rw [← HB.out]; omega
                  have hfb : fitB (scA tf docs df) (scB tf long total docs) = true := fit_small (by omega) (by omega) (by omega) (by omega)
                  have hof : ofC (scA tf docs df) (scB tf long total docs) = true := by simp [ofC, wi]; omega
                  obtain ⟨c1, f1⟩ := bcell hb1
                  have q0 : w1.cell? ⟨w.heap.size, 0, none⟩ = some (.int .i64 0) := (c1 _ _ (by simp)).trans (by simp [go_sem])
                  have q1 : w1.cell? ⟨w.heap.size, 1, none⟩ = some (.int .i64 0) := (c1 _ _ (by simp)).trans (by simp [go_sem])
                  have q2 : w1.frozen? ⟨w.heap.size, 0, none⟩ = false := (f1 _ _ (by simp)).trans (by simp [go_sem])
                  have q3 : w1.frozen? ⟨w.heap.size, 1, none⟩ = false := (f1 _ _ (by simp)).trans (by simp [go_sem])
                  have hB2 : Below w.heap.size w w1 := by
                    refine Below.trans ?_ (hb1.mono ?_)
                    · exact (by (repeat' (first | exact Below.refl _ _ | apply Below.alloc | apply Below.setCell | apply Below.drew | apply below_draws)) <;> (first | omega | (simp <;> omega)))
                    · first | omega | (simp <;> omega)
                  clear c1 f1 hb1
                  clear hA1 m1 m2 HA HB p1 p2 p3 p4 d1 d2
                  go_wp2
                  refine bodyPost_ret (v := .tuple #[.agg #[.int .i64 (pickU (scC tf long total docs df) (upOf (scA tf docs df) (scB tf long total docs))), .int .i64 (pickD (scC tf long total docs df) (downOf (scA tf docs df) (scB tf long total docs)))], .bool (scC tf long total docs df)]) (by simp [results, Tryd.results22, go_sem, pickU, pickD, fitU, fitD, hc, hfb, q0, q1]) rfl ⟨rfl, hB2.trans (by (repeat' (first | exact Below.refl _ _ | apply Below.alloc | apply Below.setCell | apply Below.drew | apply below_draws)) <;> (first | omega | (simp <;> omega)))⟩
              · by_cases hd : df * 4 ≤ docs
                · have hr : 1 + 1 ≤ rare df docs := by unfold rare; repeat' split <;> omega
                  go_wp2_with fail
                  go_round
                  case rel => exact ⟨1 + 1, by omega, hr, by first | rfl | go_num⟩
                  case measure => simp [intOf]
                · have hr : Hid (rare df docs = 1) := by
                    show rare df docs = 1
                    have h0 := k2
                    unfold rare at h0 ⊢
                    repeat' split at h0 <;> repeat' split <;> omega
                  rw [hr.out] at HA m1 m2
                  clear r1 r2 k2
                  go_wp2_with fail
                  rw [show (22 * tf * 2 : Int) = scA tf docs df from by have := HA.out; omega, show (10 * tf + 3 + 9 * long * docs / total : Int) = scB tf long total docs from HB.out]
                  refine (ratOf_any _ _ _ (hL.below (B := w.heap.size) (by (repeat' (first | exact Below.refl _ _ | apply Below.alloc | apply Below.setCell | apply Below.drew | apply below_draws)) <;> (first | omega | (simp <;> omega))) hlt)).mono ?_
                  rintro e w1 ⟨rfl, hb1⟩
                  have hA1 : 0 ≤ scA tf docs df ∧ scA tf docs df ≤ 8800 := by rw [← HA.out]; omega
                  have hB1 : 3 ≤ scB tf long total docs ∧ scB tf long total docs ≤ 20000 := by rw [← HB.out]; omega
                  have hfb : fitB (scA tf docs df) (scB tf long total docs) = true := fit_small (by omega) (by omega) (by omega) (by omega)
                  have hof : ofC (scA tf docs df) (scB tf long total docs) = true := by simp [ofC, wi]; omega
                  obtain ⟨c1, f1⟩ := bcell hb1
                  have q0 : w1.cell? ⟨w.heap.size, 0, none⟩ = some (.int .i64 0) := (c1 _ _ (by simp)).trans (by simp [go_sem])
                  have q1 : w1.cell? ⟨w.heap.size, 1, none⟩ = some (.int .i64 0) := (c1 _ _ (by simp)).trans (by simp [go_sem])
                  have q2 : w1.frozen? ⟨w.heap.size, 0, none⟩ = false := (f1 _ _ (by simp)).trans (by simp [go_sem])
                  have q3 : w1.frozen? ⟨w.heap.size, 1, none⟩ = false := (f1 _ _ (by simp)).trans (by simp [go_sem])
                  have hB2 : Below w.heap.size w w1 := by
                    refine Below.trans ?_ (hb1.mono ?_)
                    · exact (by (repeat' (first | exact Below.refl _ _ | apply Below.alloc | apply Below.setCell | apply Below.drew | apply below_draws)) <;> (first | omega | (simp <;> omega)))
                    · first | omega | (simp <;> omega)
                  clear c1 f1 hb1
                  clear hA1 m1 m2 HA HB p1 p2 p3 p4 d1 d2
                  go_wp2
                  refine bodyPost_ret (v := .tuple #[.agg #[.int .i64 (pickU (scC tf long total docs df) (upOf (scA tf docs df) (scB tf long total docs))), .int .i64 (pickD (scC tf long total docs df) (downOf (scA tf docs df) (scB tf long total docs)))], .bool (scC tf long total docs df)]) (by simp [results, Tryd.results22, go_sem, pickU, pickD, fitU, fitD, hc, hfb, q0, q1]) rfl ⟨rfl, hB2.trans (by (repeat' (first | exact Below.refl _ _ | apply Below.alloc | apply Below.setCell | apply Below.drew | apply below_draws)) <;> (first | omega | (simp <;> omega)))⟩
              · by_cases hd : df * 8 ≤ docs
                · have hr : 2 + 1 ≤ rare df docs := by unfold rare; repeat' split <;> omega
                  go_wp2_with fail
                  go_round
                  case rel => exact ⟨2 + 1, by omega, hr, by first | rfl | go_num⟩
                  case measure => simp [intOf]
                · have hr : Hid (rare df docs = 2) := by
                    show rare df docs = 2
                    have h0 := k2
                    unfold rare at h0 ⊢
                    repeat' split at h0 <;> repeat' split <;> omega
                  rw [hr.out] at HA m1 m2
                  clear r1 r2 k2
                  go_wp2_with fail
                  rw [show (22 * tf * 3 : Int) = scA tf docs df from by have := HA.out; omega, show (10 * tf + 3 + 9 * long * docs / total : Int) = scB tf long total docs from HB.out]
                  refine (ratOf_any _ _ _ (hL.below (B := w.heap.size) (by (repeat' (first | exact Below.refl _ _ | apply Below.alloc | apply Below.setCell | apply Below.drew | apply below_draws)) <;> (first | omega | (simp <;> omega))) hlt)).mono ?_
                  rintro e w1 ⟨rfl, hb1⟩
                  have hA1 : 0 ≤ scA tf docs df ∧ scA tf docs df ≤ 8800 := by rw [← HA.out]; omega
                  have hB1 : 3 ≤ scB tf long total docs ∧ scB tf long total docs ≤ 20000 := by rw [← HB.out]; omega
                  have hfb : fitB (scA tf docs df) (scB tf long total docs) = true := fit_small (by omega) (by omega) (by omega) (by omega)
                  have hof : ofC (scA tf docs df) (scB tf long total docs) = true := by simp [ofC, wi]; omega
                  obtain ⟨c1, f1⟩ := bcell hb1
                  have q0 : w1.cell? ⟨w.heap.size, 0, none⟩ = some (.int .i64 0) := (c1 _ _ (by simp)).trans (by simp [go_sem])
                  have q1 : w1.cell? ⟨w.heap.size, 1, none⟩ = some (.int .i64 0) := (c1 _ _ (by simp)).trans (by simp [go_sem])
                  have q2 : w1.frozen? ⟨w.heap.size, 0, none⟩ = false := (f1 _ _ (by simp)).trans (by simp [go_sem])
                  have q3 : w1.frozen? ⟨w.heap.size, 1, none⟩ = false := (f1 _ _ (by simp)).trans (by simp [go_sem])
                  have hB2 : Below w.heap.size w w1 := by
                    refine Below.trans ?_ (hb1.mono ?_)
                    · exact (by (repeat' (first | exact Below.refl _ _ | apply Below.alloc | apply Below.setCell | apply Below.drew | apply below_draws)) <;> (first | omega | (simp <;> omega)))
                    · first | omega | (simp <;> omega)
                  clear c1 f1 hb1
                  clear hA1 m1 m2 HA HB p1 p2 p3 p4 d1 d2
                  go_wp2
                  refine bodyPost_ret (v := .tuple #[.agg #[.int .i64 (pickU (scC tf long total docs df) (upOf (scA tf docs df) (scB tf long total docs))), .int .i64 (pickD (scC tf long total docs df) (downOf (scA tf docs df) (scB tf long total docs)))], .bool (scC tf long total docs df)]) (by simp [results, Tryd.results22, go_sem, pickU, pickD, fitU, fitD, hc, hfb, q0, q1]) rfl ⟨rfl, hB2.trans (by (repeat' (first | exact Below.refl _ _ | apply Below.alloc | apply Below.setCell | apply Below.drew | apply below_draws)) <;> (first | omega | (simp <;> omega)))⟩
              · by_cases hd : df * 16 ≤ docs
                · have hr : 3 + 1 ≤ rare df docs := by unfold rare; repeat' split <;> omega
                  go_wp2_with fail
                  go_round
                  case rel => exact ⟨3 + 1, by omega, hr, by first | rfl | go_num⟩
                  case measure => simp [intOf]
                · have hr : Hid (rare df docs = 3) := by
                    show rare df docs = 3
                    have h0 := k2
                    unfold rare at h0 ⊢
                    repeat' split at h0 <;> repeat' split <;> omega
                  rw [hr.out] at HA m1 m2
                  clear r1 r2 k2
                  go_wp2_with fail
                  rw [show (22 * tf * 4 : Int) = scA tf docs df from by have := HA.out; omega, show (10 * tf + 3 + 9 * long * docs / total : Int) = scB tf long total docs from HB.out]
                  refine (ratOf_any _ _ _ (hL.below (B := w.heap.size) (by (repeat' (first | exact Below.refl _ _ | apply Below.alloc | apply Below.setCell | apply Below.drew | apply below_draws)) <;> (first | omega | (simp <;> omega))) hlt)).mono ?_
                  rintro e w1 ⟨rfl, hb1⟩
                  have hA1 : 0 ≤ scA tf docs df ∧ scA tf docs df ≤ 8800 := by rw [← HA.out]; omega
                  have hB1 : 3 ≤ scB tf long total docs ∧ scB tf long total docs ≤ 20000 := by rw [← HB.out]; omega
                  have hfb : fitB (scA tf docs df) (scB tf long total docs) = true := fit_small (by omega) (by omega) (by omega) (by omega)
                  have hof : ofC (scA tf docs df) (scB tf long total docs) = true := by simp [ofC, wi]; omega
                  obtain ⟨c1, f1⟩ := bcell hb1
                  have q0 : w1.cell? ⟨w.heap.size, 0, none⟩ = some (.int .i64 0) := (c1 _ _ (by simp)).trans (by simp [go_sem])
                  have q1 : w1.cell? ⟨w.heap.size, 1, none⟩ = some (.int .i64 0) := (c1 _ _ (by simp)).trans (by simp [go_sem])
                  have q2 : w1.frozen? ⟨w.heap.size, 0, none⟩ = false := (f1 _ _ (by simp)).trans (by simp [go_sem])
                  have q3 : w1.frozen? ⟨w.heap.size, 1, none⟩ = false := (f1 _ _ (by simp)).trans (by simp [go_sem])
                  have hB2 : Below w.heap.size w w1 := by
                    refine Below.trans ?_ (hb1.mono ?_)
                    · exact (by (repeat' (first | exact Below.refl _ _ | apply Below.alloc | apply Below.setCell | apply Below.drew | apply below_draws)) <;> (first | omega | (simp <;> omega)))
                    · first | omega | (simp <;> omega)
                  clear c1 f1 hb1
                  clear hA1 m1 m2 HA HB p1 p2 p3 p4 d1 d2
                  go_wp2
                  refine bodyPost_ret (v := .tuple #[.agg #[.int .i64 (pickU (scC tf long total docs df) (upOf (scA tf docs df) (scB tf long total docs))), .int .i64 (pickD (scC tf long total docs df) (downOf (scA tf docs df) (scB tf long total docs)))], .bool (scC tf long total docs df)]) (by simp [results, Tryd.results22, go_sem, pickU, pickD, fitU, fitD, hc, hfb, q0, q1]) rfl ⟨rfl, hB2.trans (by (repeat' (first | exact Below.refl _ _ | apply Below.alloc | apply Below.setCell | apply Below.drew | apply below_draws)) <;> (first | omega | (simp <;> omega)))⟩
              · by_cases hd : df * 32 ≤ docs
                · have hr : 4 + 1 ≤ rare df docs := by unfold rare; repeat' split <;> omega
                  go_wp2_with fail
                  go_round
                  case rel => exact ⟨4 + 1, by omega, hr, by first | rfl | go_num⟩
                  case measure => simp [intOf]
                · have hr : Hid (rare df docs = 4) := by
                    show rare df docs = 4
                    have h0 := k2
                    unfold rare at h0 ⊢
                    repeat' split at h0 <;> repeat' split <;> omega
                  rw [hr.out] at HA m1 m2
                  clear r1 r2 k2
                  go_wp2_with fail
                  rw [show (22 * tf * 5 : Int) = scA tf docs df from by have := HA.out; omega, show (10 * tf + 3 + 9 * long * docs / total : Int) = scB tf long total docs from HB.out]
                  refine (ratOf_any _ _ _ (hL.below (B := w.heap.size) (by (repeat' (first | exact Below.refl _ _ | apply Below.alloc | apply Below.setCell | apply Below.drew | apply below_draws)) <;> (first | omega | (simp <;> omega))) hlt)).mono ?_
                  rintro e w1 ⟨rfl, hb1⟩
                  have hA1 : 0 ≤ scA tf docs df ∧ scA tf docs df ≤ 8800 := by rw [← HA.out]; omega
                  have hB1 : 3 ≤ scB tf long total docs ∧ scB tf long total docs ≤ 20000 := by rw [← HB.out]; omega
                  have hfb : fitB (scA tf docs df) (scB tf long total docs) = true := fit_small (by omega) (by omega) (by omega) (by omega)
                  have hof : ofC (scA tf docs df) (scB tf long total docs) = true := by simp [ofC, wi]; omega
                  obtain ⟨c1, f1⟩ := bcell hb1
                  have q0 : w1.cell? ⟨w.heap.size, 0, none⟩ = some (.int .i64 0) := (c1 _ _ (by simp)).trans (by simp [go_sem])
                  have q1 : w1.cell? ⟨w.heap.size, 1, none⟩ = some (.int .i64 0) := (c1 _ _ (by simp)).trans (by simp [go_sem])
                  have q2 : w1.frozen? ⟨w.heap.size, 0, none⟩ = false := (f1 _ _ (by simp)).trans (by simp [go_sem])
                  have q3 : w1.frozen? ⟨w.heap.size, 1, none⟩ = false := (f1 _ _ (by simp)).trans (by simp [go_sem])
                  have hB2 : Below w.heap.size w w1 := by
                    refine Below.trans ?_ (hb1.mono ?_)
                    · exact (by (repeat' (first | exact Below.refl _ _ | apply Below.alloc | apply Below.setCell | apply Below.drew | apply below_draws)) <;> (first | omega | (simp <;> omega)))
                    · first | omega | (simp <;> omega)
                  clear c1 f1 hb1
                  clear hA1 m1 m2 HA HB p1 p2 p3 p4 d1 d2
                  go_wp2
                  refine bodyPost_ret (v := .tuple #[.agg #[.int .i64 (pickU (scC tf long total docs df) (upOf (scA tf docs df) (scB tf long total docs))), .int .i64 (pickD (scC tf long total docs df) (downOf (scA tf docs df) (scB tf long total docs)))], .bool (scC tf long total docs df)]) (by simp [results, Tryd.results22, go_sem, pickU, pickD, fitU, fitD, hc, hfb, q0, q1]) rfl ⟨rfl, hB2.trans (by (repeat' (first | exact Below.refl _ _ | apply Below.alloc | apply Below.setCell | apply Below.drew | apply below_draws)) <;> (first | omega | (simp <;> omega)))⟩
          · have h5' : wi total long 1280 = false := by simpa using h5
            have hc : scC tf long total docs df = false := by simp [scC, h5']
            obtain ⟨z0, z1⟩ := hL
            go_enter Tryd.func22, Tryd.ntmps22
            go_wp2_with (go_at_call 33; refine (within_any _ _ _ _).mono ?_; rintro e w' ⟨rfl, rfl⟩)
            refine bodyPost_ret (v := .tuple #[.agg #[.int .i64 (pickU (scC tf long total docs df) (upOf (scA tf docs df) (scB tf long total docs))), .int .i64 (pickD (scC tf long total docs df) (downOf (scA tf docs df) (scB tf long total docs)))], .bool (scC tf long total docs df)]) (by simp [results, Tryd.results22, go_sem, pickU, pickD, hc]) rfl ⟨rfl, by (repeat' (first | exact Below.refl _ _ | apply Below.alloc | apply Below.setCell | apply Below.drew | apply below_draws)) <;> (first | omega | (simp <;> omega))⟩
        · have h4' : wi df 1 docs = false := by simpa using h4
          have hc : scC tf long total docs df = false := by simp [scC, h4']
          obtain ⟨z0, z1⟩ := hL
          go_enter Tryd.func22, Tryd.ntmps22
          go_wp2_with (go_at_call 33; refine (within_any _ _ _ _).mono ?_; rintro e w' ⟨rfl, rfl⟩)
          refine bodyPost_ret (v := .tuple #[.agg #[.int .i64 (pickU (scC tf long total docs df) (upOf (scA tf docs df) (scB tf long total docs))), .int .i64 (pickD (scC tf long total docs df) (downOf (scA tf docs df) (scB tf long total docs)))], .bool (scC tf long total docs df)]) (by simp [results, Tryd.results22, go_sem, pickU, pickD, hc]) rfl ⟨rfl, by (repeat' (first | exact Below.refl _ _ | apply Below.alloc | apply Below.setCell | apply Below.drew | apply below_draws)) <;> (first | omega | (simp <;> omega))⟩
      · have h3' : wi docs 1 16 = false := by simpa using h3
        have hc : scC tf long total docs df = false := by simp [scC, h3']
        obtain ⟨z0, z1⟩ := hL
        go_enter Tryd.func22, Tryd.ntmps22
        go_wp2_with (go_at_call 33; refine (within_any _ _ _ _).mono ?_; rintro e w' ⟨rfl, rfl⟩)
        refine bodyPost_ret (v := .tuple #[.agg #[.int .i64 (pickU (scC tf long total docs df) (upOf (scA tf docs df) (scB tf long total docs))), .int .i64 (pickD (scC tf long total docs df) (downOf (scA tf docs df) (scB tf long total docs)))], .bool (scC tf long total docs df)]) (by simp [results, Tryd.results22, go_sem, pickU, pickD, hc]) rfl ⟨rfl, by (repeat' (first | exact Below.refl _ _ | apply Below.alloc | apply Below.setCell | apply Below.drew | apply below_draws)) <;> (first | omega | (simp <;> omega))⟩
    · have h2' : wi long tf 80 = false := by simpa using h2
      have hc : scC tf long total docs df = false := by simp [scC, h2']
      obtain ⟨z0, z1⟩ := hL
      go_enter Tryd.func22, Tryd.ntmps22
      go_wp2_with (go_at_call 33; refine (within_any _ _ _ _).mono ?_; rintro e w' ⟨rfl, rfl⟩)
      refine bodyPost_ret (v := .tuple #[.agg #[.int .i64 (pickU (scC tf long total docs df) (upOf (scA tf docs df) (scB tf long total docs))), .int .i64 (pickD (scC tf long total docs df) (downOf (scA tf docs df) (scB tf long total docs)))], .bool (scC tf long total docs df)]) (by simp [results, Tryd.results22, go_sem, pickU, pickD, hc]) rfl ⟨rfl, by (repeat' (first | exact Below.refl _ _ | apply Below.alloc | apply Below.setCell | apply Below.drew | apply below_draws)) <;> (first | omega | (simp <;> omega))⟩
  · have h1' : wi tf 1 80 = false := by simpa using h1
    have hc : scC tf long total docs df = false := by simp [scC, h1']
    obtain ⟨z0, z1⟩ := hL
    go_enter Tryd.func22, Tryd.ntmps22
    go_wp2_with (go_at_call 33; refine (within_any _ _ _ _).mono ?_; rintro e w' ⟨rfl, rfl⟩)
    refine bodyPost_ret (v := .tuple #[.agg #[.int .i64 (pickU (scC tf long total docs df) (upOf (scA tf docs df) (scB tf long total docs))), .int .i64 (pickD (scC tf long total docs df) (downOf (scA tf docs df) (scB tf long total docs)))], .bool (scC tf long total docs df)]) (by simp [results, Tryd.results22, go_sem, pickU, pickD, hc]) rfl ⟨rfl, by (repeat' (first | exact Below.refl _ _ | apply Below.alloc | apply Below.setCell | apply Below.drew | apply below_draws)) <;> (first | omega | (simp <;> omega))⟩

theorem walk_FnExactTermScore (tf : Int) (w1 : (Lit.int .i64 tf).wf = true) (long : Int) (w2 : (Lit.int .i64 long).wf = true) (total : Int) (w3 : (Lit.int .i64 total).wf = true) (docs : Int) (w4 : (Lit.int .i64 docs).wf = true) (df : Int) (w5 : (Lit.int .i64 df).wf = true) (w : World) (hL : Laid w) :
    Calls Tryd.prog 6 #[.int .i64 tf, .int .i64 long, .int .i64 total, .int .i64 docs, .int .i64 df] w fun e w' => e = .returned (.bool true) ∧ Below w.heap.size w w' := by
  clear w1 w2 w3 w4 w5
  have hlt := hL.lt
  go_enter Tryd.func6, Tryd.ntmps6
  go_wp2_with fail
  refine (specTermScore_any tf long total docs df _).mono ?_
  rintro e w1 ⟨rfl, hb1⟩
  go_wp2_with fail
  have hB1 : Below w.heap.size w (w1.alloc (.cells #[.int .i64 (pickU (scC tf long total docs df) (upOf (scA tf docs df) (scB tf long total docs))), .int .i64 (pickD (scC tf long total docs df) (downOf (scA tf docs df) (scB tf long total docs)))] 23)) := hb1.trans (Below.alloc (Below.refl _ _) hb1.size _)
  refine (termScore_any tf long total docs df _ (hL.below hB1 hlt)).mono ?_
  rintro e w2 ⟨rfl, hb2⟩
  obtain ⟨c2, f2⟩ := bcell hb2
  have hz2 := hb2.size
  have q0 : w2.cell? ⟨w1.heap.size, 0, none⟩ = some (.int .i64 (pickU (scC tf long total docs df) (upOf (scA tf docs df) (scB tf long total docs)))) := (c2 _ _ (by simp)).trans (by simp [go_sem])
  have q1 : w2.cell? ⟨w1.heap.size, 1, none⟩ = some (.int .i64 (pickD (scC tf long total docs df) (downOf (scA tf docs df) (scB tf long total docs)))) := (c2 _ _ (by simp)).trans (by simp [go_sem])
  have hz3 : w1.heap.size < w2.heap.size := by simp at hz2; omega
  have hB2 : Below w.heap.size w w2 := hB1.trans (hb2.mono hB1.size)
  clear c2 f2 hz2 hb2 hb1 hB1
  go_wp2_with fail
  refine (eqRat_same _ _ _).mono ?_
  rintro e w3 ⟨rfl, hb3⟩
  go_wp2
  go_ret
  exact ⟨rfl, hB2.trans (Below.trans (Below.alloc (Below.refl _ _) hB2.size _) (hb3.mono (by have := hB2.size; simp; omega)))⟩

end Go.Proofs.YtobdkkbackalhaaDoor
