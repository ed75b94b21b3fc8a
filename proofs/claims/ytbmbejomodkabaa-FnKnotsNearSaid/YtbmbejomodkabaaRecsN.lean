/-
  Rows of records of so many integers, read flat: filled from the head; marked.
-/
import Derived.Test.YtbmbejomodkabaaRec
import Derived.Test.YtbmbejomodkabaaSS
import Derived.Deep.RegionHeld3
namespace Go.Proofs.Ytbmbejomodkabaa
open Go.RowKit
set_option linter.unusedVariables false

theorem ints_flat {α : Type} (fl : α → List Int) (L : List α) : L.flatMap (fun a => ints (fl a)) = ints (L.flatMap fl) := by
  unfold ints; rw [List.map_flatMap]
theorem enc_ints {α : Type} {fl : α → List Int} {F : Nat} (h : ∀ a, (fl a).length = F) : Enc (fun a => ints (fl a)) F := ⟨fun a => by rw [ints_len, h], by intro x u hu; simp [ints] at hu; obtain ⟨n, _, rfl⟩ := hu; rfl⟩
theorem fl_len {α : Type} {fl : α → List Int} {F : Nat} (h : ∀ a, (fl a).length = F) (L : List α) : (L.flatMap fl).length = L.length * F := by
  have := flat_len (enc := fun a => ints (fl a)) (F := F) (fun a => by rw [ints_len, h]) L
  rwa [ints_flat, ints_len] at this
theorem fl_get {α : Type} {fl : α → List Int} {F : Nat} (h : ∀ a, (fl a).length = F) {L : List α} {k j : Nat} (hk : k < L.length) (hj : j < F) : (L.flatMap fl)[k * F + j]? = (fl L[k])[j]? := by
  have h1 := flat_get (enc := fun a => ints (fl a)) (F := F) (fun a => by rw [ints_len, h]) (zs := L) (i := k) (j := j) (List.getElem?_eq_getElem hk) hj
  rw [ints_flat] at h1
  have hl := fl_len h L
  have hb : k * F + j < (L.flatMap fl).length := by
    rw [hl]
    have : (k + 1) * F ≤ L.length * F := Nat.mul_le_mul_right _ hk
    rw [Nat.add_mul] at this; omega
  rw [ints_get hb, ints_get (by rw [h]; exact hj)] at h1
  rw [List.getElem?_eq_getElem hb, List.getElem?_eq_getElem (by rw [h]; exact hj)]
  simpa using h1
/-- filled from the head: the first k numbers, then noughts. -/
def fillZ (X : List Int) (k : Nat) : List Value := ints (X.take k) ++ List.replicate (X.length - k) (.int .i64 0)
theorem fillZ_zero (X : List Int) : fillZ X 0 = List.replicate X.length (.int .i64 0) := by simp [fillZ, ints]
theorem fillZ_all (X : List Int) : fillZ X X.length = ints X := by simp [fillZ]
theorem fillZ_get (X : List Int) {k j : Nat} (hk : k ≤ j) (hj : j < X.length) : (fillZ X k)[j]? = some (.int .i64 0) := by
  unfold fillZ
  have hl : (ints (X.take k)).length = k := by rw [ints_len, List.length_take]; omega
  rw [List.getElem?_append_right (by omega), hl, List.getElem?_replicate, if_pos (by omega)]
theorem fillZ_step (X : List Int) {k : Nat} {v : Int} (hv : X[k]? = some v) : (fillZ X k).set k (.int .i64 v) = fillZ X (k + 1) := by
  obtain ⟨hk, rfl⟩ := List.getElem?_eq_some_iff.1 hv
  unfold fillZ
  have hl : (ints (X.take k)).length = k := by rw [ints_len, List.length_take]; omega
  rw [List.set_append_right _ _ (by omega), hl, Nat.sub_self, show X.length - k = (X.length - (k + 1)) + 1 by omega, List.replicate_succ, List.set_cons_zero, ← List.take_append_getElem hk, ints_append]
  simp [ints]
/-- the marks k, k + 1, .. -/
def mkZ (k : Int) (n : Nat) : List Int := (List.range n).map fun (i : Nat) => k + (i : Int)
theorem mkZ_len (k : Int) (n : Nat) : (mkZ k n).length = n := by simp [mkZ]
theorem mkZ_get (k : Int) {n i : Nat} (h : i < n) : (mkZ k n)[i]? = some (k + i) := by simp [mkZ, h]
def mkdZ (X : List Int) (k : Int) (j : Nat) : List Int := mkZ k j ++ X.drop j
theorem mkdZ_zero (X : List Int) (k : Int) : mkdZ X k 0 = X := by simp [mkdZ, mkZ]
theorem mkdZ_all (X : List Int) (k : Int) : mkdZ X k X.length = mkZ k X.length := by simp [mkdZ]
theorem mkdZ_step (X : List Int) (k : Int) {j : Nat} (hj : j < X.length) : (ints (mkdZ X k j)).set j (.int .i64 (k + (j : Int))) = ints (mkdZ X k (j + 1)) := by
  unfold mkdZ
  have e : mkZ k (j + 1) = mkZ k j ++ [k + (j : Int)] := by unfold mkZ; rw [List.range_succ, List.map_append]; rfl
  have hl : (ints (mkZ k j)).length = j := by rw [ints_len, mkZ_len]
  rw [ints_append, ints_append, List.set_append_right _ _ (by omega), hl, Nat.sub_self, List.drop_eq_getElem_cons hj, e, ints_append, List.append_assoc]
  generalize X.drop (j + 1) = R
  generalize X[j] = y
  simp [ints]
theorem mkdZ_get (X : List Int) (k : Int) {i j : Nat} (hi : i ≤ j) (hj : j < X.length) : ∃ v : Int, (ints (mkdZ X k i))[j]? = some (.int .i64 v) := by
  have hl : j < (mkdZ X k i).length := by unfold mkdZ; rw [List.length_append, mkZ_len, List.length_drop]; omega
  exact ⟨_, ints_get hl⟩
theorem Rds.atZ {w : World} {F n : Nat} {A : Option Addr} {X : List Int} (h : Rds w F A n (ints X)) (hn : 0 < n) :
    ∃ b off, A = some ⟨b, off, none⟩ ∧ b < w.heap.size ∧ ∀ j v, X[j]? = some v → w.cell? ⟨b, off + j, none⟩ = some (.int .i64 v) := by
  obtain ⟨b, off, e, hlt, hc⟩ := h.2 hn
  refine ⟨b, off, e, hlt, fun j v hv => hc j _ ?_⟩
  obtain ⟨hk, rfl⟩ := List.getElem?_eq_some_iff.1 hv
  exact ints_get hk
end Go.Proofs.Ytbmbejomodkabaa
