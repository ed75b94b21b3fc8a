/-
  Plain laws of the union of lists of numbers that ascend: sorted and compacted; put one by one.
-/
import Derived.Test.YtbmbejomodkabaaSetLaw
import Derived.Lib.SlicesCompact
namespace Go.Proofs.Ytbmbejomodkabaa
open Go.RowKit
set_option linter.unusedVariables false

theorem getD_arr (zs : List Int) (j : Nat) : zs.toArray[j]! = zs.getD j 0 := by
  by_cases h : j < zs.length
  · rw [getElem!_pos _ j (by simpa using h), List.getD_eq_getElem?_getD, List.getElem?_eq_getElem h]; simp
  · rw [getElem!_neg _ j (by simpa using h), List.getD_eq_getElem?_getD, List.getElem?_eq_none (by omega)]; rfl
theorem compact_inv (zs : List Int) (hs : zs.Pairwise (· ≤ ·)) : ∀ m, m ≤ zs.length →
    (∀ x, x ∈ Lib.compactUpTo zs.toArray m ↔ ∃ j, j < m ∧ zs.getD j 0 = x) ∧ (Lib.compactUpTo zs.toArray m).Pairwise (· < ·) ∧ (∀ x ∈ Lib.compactUpTo zs.toArray m, x ≤ zs.getD (m - 1) 0)
  | 0, _ => ⟨fun x => by simp [Lib.compactUpTo], by simp [Lib.compactUpTo], fun x hx => by simp [Lib.compactUpTo] at hx⟩
  | m + 1, hm => by
    obtain ⟨h1, h2, h3⟩ := compact_inv zs hs m (by omega)
    have hle : ∀ j k, j ≤ k → k < zs.length → zs.getD j 0 ≤ zs.getD k 0 := fun j k hjk hk => by
      rcases Nat.lt_or_eq_of_le hjk with hlt | rfl
      · have := List.pairwise_iff_getElem.1 hs j k (by omega) hk hlt
        simpa [List.getD_eq_getElem?_getD, List.getElem?_eq_getElem hk, List.getElem?_eq_getElem (show j < zs.length by omega)] using this
      · exact Int.le_refl _
    rw [Lib.compactUpTo_succ, getD_arr]
    rcases Bool.eq_false_or_eq_true (Lib.keeps zs.toArray m) with hk | hk
    · rw [hk, if_pos rfl]
      have hlt : ∀ x ∈ Lib.compactUpTo zs.toArray m, x < zs.getD m 0 := fun x hx => by
        have hx1 := h3 x hx
        unfold Lib.keeps at hk
        rw [decide_eq_true_eq, getD_arr, getD_arr] at hk
        rcases hk with rfl | hk
        · obtain ⟨j, hj, _⟩ := (h1 x).1 hx; omega
        · have := hle (m - 1) m (by omega) (by omega); omega
      refine ⟨fun x => ?_, ?_, fun x hx => ?_⟩
      · rw [List.mem_append, h1, List.mem_singleton]
        constructor
        · rintro (⟨j, hj, e⟩ | rfl)
          · exact ⟨j, by omega, e⟩
          · exact ⟨m, by omega, rfl⟩
        · rintro ⟨j, hj, e⟩
          rcases Nat.lt_or_eq_of_le (Nat.le_of_lt_succ hj) with h | rfl
          · exact .inl ⟨j, h, e⟩
          · exact .inr e.symm
      · rw [List.pairwise_append]
        exact ⟨h2, List.pairwise_singleton _ _, fun a ha b hb => by rw [List.mem_singleton] at hb; subst hb; exact hlt a ha⟩
      · rw [List.mem_append, List.mem_singleton] at hx
        rw [Nat.add_sub_cancel]
        rcases hx with hx | rfl
        · have := hlt x hx; omega
        · exact Int.le_refl _
    · rw [hk, if_neg (by simp), List.append_nil]
      unfold Lib.keeps at hk
      rw [decide_eq_false_iff_not, getD_arr, getD_arr] at hk
      have hm0 : m ≠ 0 := fun e => hk (.inl e)
      have he : zs.getD m 0 = zs.getD (m - 1) 0 := Classical.byContradiction fun e => hk (.inr e)
      refine ⟨fun x => ?_, h2, fun x hx => ?_⟩
      · rw [h1]
        constructor
        · rintro ⟨j, hj, e⟩; exact ⟨j, by omega, e⟩
        · rintro ⟨j, hj, e⟩
          rcases Nat.lt_or_eq_of_le (Nat.le_of_lt_succ hj) with h | rfl
          · exact ⟨j, h, e⟩
          · exact ⟨j - 1, by omega, by rw [← he]; exact e⟩
      · rw [Nat.add_sub_cancel, he]; exact h3 x hx
theorem compact_mem (zs : List Int) (hs : zs.Pairwise (· ≤ ·)) (x : Int) : x ∈ Lib.compact zs ↔ x ∈ zs := by
  unfold Lib.compact
  rw [(compact_inv zs hs zs.length (Nat.le_refl _)).1]
  constructor
  · rintro ⟨j, hj, rfl⟩
    rw [List.getD_eq_getElem?_getD, List.getElem?_eq_getElem hj]
    exact List.getElem_mem hj
  · intro hx
    obtain ⟨j, hj, e⟩ := List.getElem_of_mem hx
    exact ⟨j, hj, by rw [List.getD_eq_getElem?_getD, List.getElem?_eq_getElem hj]; exact e⟩
theorem compact_asc (zs : List Int) (hs : zs.Pairwise (· ≤ ·)) : (Lib.compact zs).Pairwise (· < ·) := (compact_inv zs hs zs.length (Nat.le_refl _)).2.1
/-- sorted. -/
def sortI (L : List Int) : List Int := L.mergeSort fun x y => decide (x ≤ y)
theorem sortI_asc (L : List Int) : (sortI L).Pairwise (· ≤ ·) := by
  have := List.pairwise_mergeSort (le := fun x y : Int => decide (x ≤ y)) (fun a b c h1 h2 => by simp at *; omega) (fun a b => by simp; omega) L
  exact this.imp (fun h => by simpa using h)
theorem sortI_mem (L : List Int) (x : Int) : x ∈ sortI L ↔ x ∈ L := (List.mergeSort_perm L _).mem_iff
theorem sortI_len (L : List Int) : (sortI L).length = L.length := (List.mergeSort_perm L _).length_eq
/-- the union: sorted and compacted. -/
def unionI (L M : List Int) : List Int := Lib.compact (sortI (L ++ M))
theorem unionI_mem (L M : List Int) (x : Int) : x ∈ unionI L M ↔ x ∈ L ∨ x ∈ M := by
  unfold unionI; rw [compact_mem _ (sortI_asc _), sortI_mem, List.mem_append]
theorem unionI_asc (L M : List Int) : (unionI L M).Pairwise (· < ·) := compact_asc _ (sortI_asc _)
end Go.Proofs.Ytbmbejomodkabaa
