/-
  Contracts of what the exact laws call on slices of integers: toIntS, eqIntS, markIntS, heldIntS.
-/
import Derived.Test.YtbmbejomodkabaaOwn
namespace Go.Proofs.Ytbmbejomodkabaa
open Go.RowKit
set_option linter.unusedVariables false

theorem madeCells_one (n : Nat) : (madeCells (Value.int .i64 0).cells (n * 1)).toList = List.replicate (n * 1) (.int .i64 0) := toList_madeCells_one _ _
/-- a row that is filled from its head: the first k numbers, then noughts. -/
def fill1 (L : List Int) (k : Nat) : List Value := ints (L.take k) ++ List.replicate (L.length - k) (.int .i64 0)
theorem fill1_zero (L : List Int) : fill1 L 0 = List.replicate (L.length * 1) (.int .i64 0) := by simp [fill1, ints]
theorem fill1_all (L : List Int) : fill1 L L.length = ints L := by simp [fill1]
theorem fill1_split (L : List Int) {k : Nat} (hk : k < L.length) : fill1 L k = ints (L.take k) ++ (.int .i64 0 :: List.replicate (L.length - (k + 1)) (.int .i64 0)) := by
  unfold fill1
  rw [show L.length - k = (L.length - (k + 1)) + 1 by omega, List.replicate_succ]
theorem fill1_len (L : List Int) {k : Nat} (hk : k ≤ L.length) : (ints (L.take k)).length = k := by
  rw [ints_len, List.length_take, Nat.min_eq_left hk]
theorem fill1_get (L : List Int) {k : Nat} (hk : k < L.length) : (fill1 L k)[k]? = some (.int .i64 0) := by
  have hl := fill1_len L (Nat.le_of_lt hk)
  rw [fill1_split L hk, List.getElem?_append_right (by omega), hl, Nat.sub_self]; rfl
theorem fill1_step (L : List Int) {k : Nat} (hk : k < L.length) : (fill1 L k).set k (.int .i64 L[k]) = fill1 L (k + 1) := by
  have hl := fill1_len L (Nat.le_of_lt hk)
  rw [fill1_split L hk, List.set_append_right _ _ (by omega), hl, Nat.sub_self]
  unfold fill1
  rw [← List.take_append_getElem hk, ints_append]
  simp [ints]

/-- the marks k, k + 1, .. -/
def marks (k : Int) (n : Nat) : List Int := (List.range n).map fun (i : Nat) => k + (i : Int)
theorem marks_len (k : Int) (n : Nat) : (marks k n).length = n := by simp [marks]
theorem marks_get (k : Int) {n i : Nat} (h : i < n) : (marks k n)[i]'(by rw [marks_len]; exact h) = k + i := by simp [marks]
def mkd (L : List Int) (k : Int) (j : Nat) : List Int := marks k j ++ L.drop j
theorem mkd_len (L : List Int) (k : Int) {j : Nat} (hj : j ≤ L.length) : (mkd L k j).length = L.length := by simp [mkd, marks_len]; omega
theorem mkd_zero (L : List Int) (k : Int) : mkd L k 0 = L := by simp [mkd, marks]
theorem mkd_all (L : List Int) (k : Int) : mkd L k L.length = marks k L.length := by simp [mkd]
theorem mkd_step (L : List Int) (k : Int) {j : Nat} (hj : j < L.length) : (ints (mkd L k j)).set j (.int .i64 (k + j)) = ints (mkd L k (j + 1)) := by
  unfold mkd
  have e : marks k (j + 1) = marks k j ++ [k + (j : Int)] := by unfold marks; rw [List.range_succ, List.map_append]; rfl
  rw [ints_append, ints_append, List.set_append_right _ _ (by rw [ints_len, marks_len]; omega), ints_len, marks_len, Nat.sub_self, List.drop_eq_getElem_cons hj, e, ints_append, List.append_assoc]
  rfl
theorem mkd_get (L : List Int) (k : Int) {j : Nat} (hj : j < L.length) : (ints (mkd L k j))[j]? = some (.int .i64 L[j]) := by
  unfold mkd
  rw [ints_append, List.getElem?_append_right (by rw [ints_len, marks_len]; omega), ints_len, marks_len, Nat.sub_self, List.drop_eq_getElem_cons hj]
  simp [ints]
end Go.Proofs.Ytbmbejomodkabaa
