/-
  Plain laws of a term's worth: more where the term stands more often, no more in a longer field, no less in fewer documents.
-/
import Derived.Test.YtobdkkbackalhaaDoorRatLaw
import Derived.Test.YtobdkkbackalhaaDoorRatCmp
namespace Go.Proofs.YtobdkkbackalhaaDoor
open Go.RowKit
set_option linter.unusedVariables false

def sU (tf long total docs df : Int) : Int := pickU (scC tf long total docs df) (upOf (scA tf docs df) (scB tf long total docs))
def sD (tf long total docs df : Int) : Int := pickD (scC tf long total docs df) (downOf (scA tf docs df) (scB tf long total docs))
theorem scC_iff {tf long total docs df : Int} : scC tf long total docs df = true ↔ ((((1 ≤ tf ∧ tf ≤ 80) ∧ tf ≤ long ∧ long ≤ 80) ∧ 1 ≤ docs ∧ docs ≤ 16) ∧ 1 ≤ df ∧ df ≤ docs) ∧ long ≤ total ∧ total ≤ 1280 := by
  simp [scC, wi_true]
theorem sc_bounds {tf long total docs df : Int} (h : scC tf long total docs df = true) : 1 ≤ scA tf docs df ∧ scA tf docs df ≤ 8800 ∧ 3 ≤ scB tf long total docs ∧ scB tf long total docs ≤ 20000 := by
  obtain ⟨⟨⟨⟨⟨a1, a2⟩, a3, a4⟩, a5, a6⟩, a7, a8⟩, a9, a10⟩ := scC_iff.1 h
  obtain ⟨p1, p2⟩ := mul_le_of (show 0 ≤ long by omega) a4 (show 0 ≤ docs by omega) a6
  have d1 : 0 ≤ long * docs * 9 / total := Int.ediv_nonneg (by omega) (by omega)
  have d2 : long * docs * 9 / total ≤ 11520 := Int.le_trans (Int.ediv_le_self _ (by omega)) (by omega)
  obtain ⟨r1, r2⟩ := rare_range df docs
  obtain ⟨m1, m2⟩ := mul_le_of (show 0 ≤ (1 + rare df docs) * 22 by omega) (show (1 + rare df docs) * 22 ≤ 110 by omega) (show 0 ≤ tf by omega) a2
  have m3 := mul_pos9 (show 1 ≤ (1 + rare df docs) * 22 by omega) a1
  unfold scA scB
  omega
theorem s_ok {tf long total docs df : Int} (h : scC tf long total docs df = true) : ratOkB (sU tf long total docs df) (sD tf long total docs df) = true ∧ 0 < sU tf long total docs df := by
  obtain ⟨h1, h2, h3, h4⟩ := sc_bounds h
  unfold sU sD
  rw [pickU_yes h, pickD_yes h]
  refine ⟨fit_small (by omega) (by omega) (by omega) (by omega), ?_⟩
  obtain ⟨g, hg, e1, e2, _, _⟩ := made_pos (a := scA tf docs df) (b := scB tf long total docs) (by omega)
  generalize upOf (scA tf docs df) (scB tf long total docs) = u at *
  rcases Int.lt_or_le 0 u with hu | hu
  · exact hu
  · have := Int.mul_nonpos_of_nonneg_of_nonpos (show 0 ≤ g by omega) hu
    omega
theorem s_cmp {tf long total docs df tf' long' total' docs' df' : Int} (h : scC tf long total docs df = true) (h' : scC tf' long' total' docs' df' = true) :
    cmpB (sU tf long total docs df) (sD tf long total docs df) (sU tf' long' total' docs' df') (sD tf' long' total' docs' df') = sgnOf (scA tf docs df * scB tf' long' total' docs') (scA tf' docs' df' * scB tf long total docs) := by
  rw [cmpB_yes (s_ok h).1 (s_ok h').1]
  unfold sU sD
  rw [pickU_yes h, pickD_yes h, pickU_yes h', pickD_yes h']
  obtain ⟨_, _, h3, _⟩ := sc_bounds h
  obtain ⟨_, _, h3', _⟩ := sc_bounds h'
  exact sgn_made (by omega) (by omega)
theorem sgn_pos {x y : Int} (h : y < x) : sgnOf x y = 1 := by unfold sgnOf; rw [if_neg (by omega), if_pos h]
theorem sgn_le {x y : Int} (h : x ≤ y) : sgnOf x y ≤ 0 := by unfold sgnOf; repeat' split <;> omega
theorem sgn_ge {x y : Int} (h : y ≤ x) : 0 ≤ sgnOf x y := by unfold sgnOf; repeat' split <;> omega

/-- more often: worth more. -/
theorem s_more {tf long total docs df : Int} (h : scC tf long total docs df = true) (h' : scC (tf + 1) long total docs df = true) :
    0 < cmpB (sU (tf + 1) long total docs df) (sD (tf + 1) long total docs df) (sU tf long total docs df) (sD tf long total docs df) := by
  rw [s_cmp h' h]
  obtain ⟨⟨⟨⟨⟨a1, a2⟩, a3, a4⟩, a5, a6⟩, a7, a8⟩, a9, a10⟩ := scC_iff.1 h
  obtain ⟨p1, p2⟩ := mul_le_of (show 0 ≤ long by omega) a4 (show 0 ≤ docs by omega) a6
  have d1 : 0 ≤ long * docs * 9 / total := Int.ediv_nonneg (by omega) (by omega)
  obtain ⟨r1, r2⟩ := rare_range df docs
  rw [sgn_pos]
  · omega
  · unfold scA scB
    generalize long * docs * 9 / total = m at *
    have hr : 0 < (1 + rare df docs) * 22 := by omega
    generalize (1 + rare df docs) * 22 = r at *
    rw [Int.mul_assoc, Int.mul_assoc]
    refine Int.mul_lt_mul_of_pos_left ?_ hr
    have e1 : 10 * (tf + 1) + 3 + m = (10 * tf + 3 + m) + 10 := by omega
    rw [e1, Int.mul_add, Int.add_mul]
    omega
/-- longer: worth no more. -/
theorem s_longer {tf long total docs df : Int} (h : scC tf long total docs df = true) (h' : scC tf (long + 1) total docs df = true) :
    cmpB (sU tf (long + 1) total docs df) (sD tf (long + 1) total docs df) (sU tf long total docs df) (sD tf long total docs df) ≤ 0 := by
  rw [s_cmp h' h]
  obtain ⟨⟨⟨⟨⟨a1, a2⟩, a3, a4⟩, a5, a6⟩, a7, a8⟩, a9, a10⟩ := scC_iff.1 h
  obtain ⟨b1, _, _, _⟩ := sc_bounds h
  refine sgn_le (Int.mul_le_mul_of_nonneg_left ?_ (by omega))
  unfold scB
  have : long * docs * 9 / total ≤ (long + 1) * docs * 9 / total := by
    refine Int.ediv_le_ediv (by omega) ?_
    rw [Int.add_mul]
    omega
  omega
/-- in fewer documents: worth no less; in half as many: worth more. -/
theorem rare_less {d n : Int} : rare d n ≤ rare (d - 1) n := by unfold rare; repeat' split <;> omega
theorem rare_half {d n : Int} (h2 : 2 ≤ d) (hn : d ≤ n) (h16 : n ≤ 16) : rare d n + 1 ≤ rare (d / 2) n := by
  unfold rare
  repeat' split <;> omega
theorem s_fewer {tf long total docs df df' : Int} (h : scC tf long total docs df = true) (h' : scC tf long total docs df' = true) (hr : rare df docs ≤ rare df' docs) :
    0 ≤ cmpB (sU tf long total docs df') (sD tf long total docs df') (sU tf long total docs df) (sD tf long total docs df) := by
  rw [s_cmp h' h]
  obtain ⟨⟨⟨⟨⟨a1, a2⟩, a3, a4⟩, a5, a6⟩, a7, a8⟩, a9, a10⟩ := scC_iff.1 h
  obtain ⟨_, _, b3, _⟩ := sc_bounds h
  refine sgn_ge (Int.mul_le_mul_of_nonneg_right ?_ (by omega))
  unfold scA
  exact Int.mul_le_mul_of_nonneg_right (by omega) (by omega)
theorem s_half {tf long total docs df df' : Int} (h : scC tf long total docs df = true) (h' : scC tf long total docs df' = true) (hr : rare df docs + 1 ≤ rare df' docs) :
    0 < cmpB (sU tf long total docs df') (sD tf long total docs df') (sU tf long total docs df) (sD tf long total docs df) := by
  rw [s_cmp h' h]
  obtain ⟨⟨⟨⟨⟨a1, a2⟩, a3, a4⟩, a5, a6⟩, a7, a8⟩, a9, a10⟩ := scC_iff.1 h
  obtain ⟨_, _, b3, _⟩ := sc_bounds h
  rw [sgn_pos]
  · omega
  · refine Int.mul_lt_mul_of_pos_right ?_ (by omega)
    unfold scA
    exact Int.mul_lt_mul_of_pos_right (by omega) (by omega)
end Go.Proofs.YtobdkkbackalhaaDoor
