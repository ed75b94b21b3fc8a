/-
  Plain laws of lists of numbers that ascend: no program in sight.
-/
import Derived.Test.YtbmbejomodkabaaSetRun
namespace Go.Proofs.Ytbmbejomodkabaa
open Go.RowKit
set_option linter.unusedVariables false

theorem inB_iff {L : List Int} {x : Int} : inB L x = true ↔ x ∈ L := by unfold inB; simp
theorem inB_eq {L M : List Int} {x : Int} (h : x ∈ L ↔ x ∈ M) : inB L x = inB M x := by
  rw [Bool.eq_iff_iff, inB_iff, inB_iff]; exact h
theorem upR_iff {p : Int} {L : List Int} : upR p L = true ↔ (∀ x ∈ L, p < x ∧ 0 ≤ x ∧ x ≤ 999999999) ∧ L.Pairwise (· < ·) := by
  induction L generalizing p with
  | nil => simp [upR]
  | cons y r ih =>
    rw [upR, Bool.and_eq_true, Bool.and_eq_true, decide_eq_true_eq, wi_true, ih, List.pairwise_cons]
    constructor
    · rintro ⟨⟨h1, h2⟩, h3, h4⟩
      refine ⟨fun x hx => ?_, fun x hx => (h3 x hx).1, h4⟩
      rcases List.mem_cons.1 hx with rfl | hx
      · exact ⟨h1, h2⟩
      · have := h3 x hx; omega
    · rintro ⟨h1, h2, h3⟩
      have h5 := h1 y (List.mem_cons_self ..)
      refine ⟨⟨h5.1, h5.2⟩, fun x hx => ⟨h2 x hx, (h1 x (List.mem_cons_of_mem _ hx)).2⟩, h3⟩
theorem upB_iff {L : List Int} : upB L = true ↔ (∀ x ∈ L, 0 ≤ x ∧ x ≤ 999999999) ∧ L.Pairwise (· < ·) ∧ L.length ≤ 60 := by
  unfold upB
  rw [Bool.and_eq_true, upR_iff, decide_eq_true_eq]
  constructor
  · rintro ⟨⟨h1, h2⟩, h3⟩
    exact ⟨fun x hx => (h1 x hx).2, h2, h3⟩
  · rintro ⟨h1, h2, h3⟩
    exact ⟨⟨fun x hx => by have := h1 x hx; omega, h2⟩, h3⟩
/-- lists that ascend and have the same numbers are one. -/
theorem asc_ext : ∀ {L M : List Int}, L.Pairwise (· < ·) → M.Pairwise (· < ·) → (∀ x, x ∈ L ↔ x ∈ M) → L = M
  | [], [], _, _, _ => rfl
  | [], y :: s, _, _, h => by have := (h y).2 (List.mem_cons_self ..); simp at this
  | x :: r, [], _, _, h => by have := (h x).1 (List.mem_cons_self ..); simp at this
  | x :: r, y :: s, hL, hM, h => by
    rw [List.pairwise_cons] at hL hM
    have e : x = y := by
      have h1 := (h x).1 (List.mem_cons_self ..)
      have h2 := (h y).2 (List.mem_cons_self ..)
      rcases List.mem_cons.1 h1 with h1 | h1
      · exact h1
      · rcases List.mem_cons.1 h2 with h2 | h2
        · exact h2.symm
        · have := hM.1 x h1; have := hL.1 y h2; omega
    subst e
    have : r = s := asc_ext hL.2 hM.2 fun z => by
      constructor
      · intro hz
        rcases List.mem_cons.1 ((h z).1 (List.mem_cons_of_mem _ hz)) with e | e
        · have := hL.1 z hz; omega
        · exact e
      · intro hz
        rcases List.mem_cons.1 ((h z).2 (List.mem_cons_of_mem _ hz)) with e | e
        · have := hM.1 z hz; omega
        · exact e
    rw [this]
theorem up_filter {L : List Int} (h : upB L = true) (p : Int → Bool) : upB (L.filter p) = true := by
  obtain ⟨h1, h2, h3⟩ := upB_iff.1 h
  exact upB_iff.2 ⟨fun x hx => h1 x ((List.mem_filter.1 hx).1), h2.filter _, Nat.le_trans (List.length_filter_le _ _) h3⟩
theorem andL_yes {L M : List Int} (h : upB L = true) (h' : upB M = true) : andL L M = L.filter (inB M) := by unfold andL; rw [h, h']; rfl
theorem lessL_yes {L M : List Int} (h : upB L = true) (h' : upB M = true) : lessL L M = L.filter (outB M) := by unfold lessL; rw [h, h']; rfl
theorem and_mem {L M : List Int} (h : upB L = true) (h' : upB M = true) (x : Int) : x ∈ andL L M ↔ x ∈ L ∧ x ∈ M := by
  rw [andL_yes h h', List.mem_filter, inB_iff]
theorem less_mem {L M : List Int} (h : upB L = true) (h' : upB M = true) (x : Int) : x ∈ lessL L M ↔ x ∈ L ∧ ¬ x ∈ M := by
  rw [lessL_yes h h', List.mem_filter]; unfold outB; rw [Bool.not_eq_true', ← Bool.not_eq_true, inB_iff]
theorem up_and {L M : List Int} (h : upB L = true) (h' : upB M = true) : upB (andL L M) = true := by rw [andL_yes h h']; exact up_filter h _
theorem up_less {L M : List Int} (h : upB L = true) (h' : upB M = true) : upB (lessL L M) = true := by rw [lessL_yes h h']; exact up_filter h _
theorem up_ext {L M : List Int} (h : upB L = true) (h' : upB M = true) (hx : ∀ x, x ∈ L ↔ x ∈ M) : L = M := asc_ext (upB_iff.1 h).2.1 (upB_iff.1 h').2.1 hx
theorem and_comm_law {L M : List Int} (h : upB L = true) (h' : upB M = true) : andL M L = andL L M :=
  up_ext (up_and h' h) (up_and h h') fun x => by rw [and_mem h' h, and_mem h h', and_comm]
theorem and_self_law {L : List Int} (h : upB L = true) : andL L L = L :=
  up_ext (up_and h h) h fun x => by rw [and_mem h h, and_self_iff]
theorem and_in_law {L M : List Int} (h : upB L = true) (h' : upB M = true) {x : Int} (hx : x ∈ L) : inB (andL L M) x = inB M x :=
  inB_eq (by rw [and_mem h h']; exact ⟨fun e => e.2, fun e => ⟨hx, e⟩⟩)
theorem and_len_law (L M : List Int) : (andL L M).length ≤ L.length := by
  unfold andL; split
  · exact List.length_filter_le _ _
  · simp
theorem less_self_law {L : List Int} : (lessL L L).length = 0 := by
  unfold lessL; split
  · rw [List.length_eq_zero_iff, List.filter_eq_nil_iff]
    intro x hx
    unfold outB; rw [inB_iff.2 hx]; simp
  · rfl
theorem and_less_law {L M : List Int} : (andL (lessL L M) M).length = 0 := by
  unfold andL; split
  · rw [List.length_eq_zero_iff, List.filter_eq_nil_iff]
    intro x hx
    unfold lessL at hx
    split at hx
    · have := (List.mem_filter.1 hx).2
      unfold outB at this
      simpa using this
    · simp at hx
  · rfl
end Go.Proofs.Ytbmbejomodkabaa
