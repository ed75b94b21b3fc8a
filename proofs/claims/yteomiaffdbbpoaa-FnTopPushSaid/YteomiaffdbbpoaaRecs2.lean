/-
  Rows of records of two integers: filled from the head; marked.
-/
import Derived.Test.YteomiaffdbbpoaaRec
import Derived.Test.YteomiaffdbbpoaaSS
import Derived.Deep.RegionHeld3
namespace Go.Proofs.Yteomiaffdbbpoaa
open Go.RowKit
set_option linter.unusedVariables false

theorem madeCells_two (n : Nat) : (madeCells (Value.agg #[.int .i64 0, .int .i64 0]).cells (n * 2)).toList = List.replicate (n * 2) (.int .i64 0) := by
  apply List.ext_getElem?
  intro j
  by_cases hj : j < n * 2
  · have h2 : j % 2 = 0 ∨ j % 2 = 1 := by omega
    rcases h2 with h2 | h2 <;> simp [madeCells, hj, Value.cells, h2]
  · simp [madeCells, hj]
/-- a row that is filled from its head: the first k records, then noughts. -/
def fill2 (L : List (Int × Int)) (k : Nat) : List Value := (L.take k).flatMap enc2 ++ List.replicate ((L.length - k) * 2) (.int .i64 0)
theorem fill2_zero (L : List (Int × Int)) : fill2 L 0 = List.replicate (L.length * 2) (.int .i64 0) := by simp [fill2]
theorem fill2_all (L : List (Int × Int)) : fill2 L L.length = L.flatMap enc2 := by simp [fill2]
theorem fill2_split (L : List (Int × Int)) {k : Nat} (hk : k < L.length) : fill2 L k = (L.take k).flatMap enc2 ++ (.int .i64 0 :: .int .i64 0 :: List.replicate ((L.length - (k + 1)) * 2) (.int .i64 0)) := by
  unfold fill2
  rw [show (L.length - k) * 2 = ((L.length - (k + 1)) * 2 + 1) + 1 by omega, List.replicate_succ, List.replicate_succ]
theorem fill2_len (L : List (Int × Int)) {k : Nat} (hk : k ≤ L.length) : ((L.take k).flatMap enc2).length = k * 2 := by
  rw [flat_len enc2_len, List.length_take, Nat.min_eq_left hk]
theorem fill2_get (L : List (Int × Int)) {k : Nat} (hk : k < L.length) : (fill2 L k)[k * 2]? = some (.int .i64 0) ∧ (fill2 L k)[k * 2 + 1]? = some (.int .i64 0) := by
  have hl := fill2_len L (Nat.le_of_lt hk)
  rw [fill2_split L hk]
  constructor
  · rw [List.getElem?_append_right (by omega), hl, Nat.sub_self]; rfl
  · rw [List.getElem?_append_right (by omega), hl, show k * 2 + 1 - k * 2 = 1 by omega]; rfl
theorem fill2_step (L : List (Int × Int)) {k : Nat} (hk : k < L.length) : ((fill2 L k).set (k * 2) (.int .i64 L[k].1)).set (k * 2 + 1) (.int .i64 L[k].2) = fill2 L (k + 1) := by
  have hl := fill2_len L (Nat.le_of_lt hk)
  rw [fill2_split L hk, List.set_append_right _ _ (by omega), hl, Nat.sub_self, List.set_append_right _ _ (by omega), hl, show k * 2 + 1 - k * 2 = 1 by omega]
  unfold fill2
  rw [← List.take_append_getElem hk, List.flatMap_append]
  simp [enc2]
/-- the marks k, k + 1; k + 2, k + 3; .. -/
def mk2 (k : Int) (n : Nat) : List (Int × Int) := (List.range n).map fun (i : Nat) => (k + 2 * (i : Int), k + 2 * (i : Int) + 1)
theorem mk2_len (k : Int) (n : Nat) : (mk2 k n).length = n := by simp [mk2]
theorem mk2_get (k : Int) {n i : Nat} (h : i < n) : ((mk2 k n)[i]'(by rw [mk2_len]; exact h)).1 = k + 2 * i ∧ ((mk2 k n)[i]'(by rw [mk2_len]; exact h)).2 = k + 2 * i + 1 := by simp [mk2]
def mkd2 (L : List (Int × Int)) (k : Int) (j : Nat) : List (Int × Int) := mk2 k j ++ L.drop j
theorem mkd2_zero (L : List (Int × Int)) (k : Int) : mkd2 L k 0 = L := by simp [mkd2, mk2]
theorem mkd2_all (L : List (Int × Int)) (k : Int) : mkd2 L k L.length = mk2 k L.length := by simp [mkd2]
theorem mkd2_step (L : List (Int × Int)) (k : Int) {j : Nat} (hj : j < L.length) : (((mkd2 L k j).flatMap enc2).set (j * 2) (.int .i64 (k + 2 * j))).set (j * 2 + 1) (.int .i64 (k + 2 * j + 1)) = (mkd2 L k (j + 1)).flatMap enc2 := by
  unfold mkd2
  have e : mk2 k (j + 1) = mk2 k j ++ [(k + 2 * (j : Int), k + 2 * (j : Int) + 1)] := by unfold mk2; rw [List.range_succ, List.map_append]; rfl
  have hl : ((mk2 k j).flatMap enc2).length = j * 2 := by rw [flat_len enc2_len, mk2_len]
  rw [List.flatMap_append, List.flatMap_append, List.set_append_right _ _ (by omega), hl, Nat.sub_self, List.set_append_right _ _ (by omega), hl, show j * 2 + 1 - j * 2 = 1 by omega, List.drop_eq_getElem_cons hj, e, List.flatMap_append, List.append_assoc]
  generalize L.drop (j + 1) = R
  generalize L[j] = y
  simp [enc2]
theorem mkd2_get (L : List (Int × Int)) (k : Int) {j : Nat} (hj : j < L.length) : ((mkd2 L k j).flatMap enc2)[j * 2]? = some (.int .i64 L[j].1) ∧ ((mkd2 L k j).flatMap enc2)[j * 2 + 1]? = some (.int .i64 L[j].2) := by
  unfold mkd2
  have hl : ((mk2 k j).flatMap enc2).length = j * 2 := by rw [flat_len enc2_len, mk2_len]
  rw [List.flatMap_append, List.drop_eq_getElem_cons hj]
  constructor
  · rw [List.getElem?_append_right (by omega), hl, Nat.sub_self]; rfl
  · rw [List.getElem?_append_right (by omega), hl, show j * 2 + 1 - j * 2 = 1 by omega]; rfl
end Go.Proofs.Yteomiaffdbbpoaa
