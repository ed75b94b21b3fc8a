/-
  Contracts of markText (as a function), markStringS, heldStringS.
-/
import Derived.Test.YtaobgliimbmemaaGreatDoorConfEx
namespace Go.Proofs.YtaobgliimbmemaaGreatDoor
open Go.RowKit Go.Sort
set_option linter.unusedVariables false

def dig (m : Nat) : ByteArray := ⟨#[48 + UInt8.ofNat (m % 10)]⟩
def mtF : Nat → Nat → ByteArray → ByteArray
  | 0, _, s => s
  | n + 1, m, s => if m = 0 then s else mtF n (m / 10) (dig m ++ s)
/-- the text of a mark. -/
def mtx (k : Nat) : ByteArray := ⟨#[109]⟩ ++ mtF k k ⟨#[]⟩
theorem mtF_zero (n : Nat) (s : ByteArray) : mtF n 0 s = s := by cases n with | zero => rfl | succ n => show (if _ then _ else _) = _; rw [if_pos rfl]
theorem mtF_eq : ∀ (n n' m : Nat) (s : ByteArray), m ≤ n → m ≤ n' → mtF n m s = mtF n' m s
  | 0, n', m, s, h1, h2 => by obtain rfl : m = 0 := by omega
                              rw [mtF_zero, mtF_zero]
  | n + 1, 0, m, s, h1, h2 => by obtain rfl : m = 0 := by omega
                                 rw [mtF_zero, mtF_zero]
  | n + 1, n' + 1, m, s, h1, h2 => by
    show (if m = 0 then s else mtF n (m / 10) (dig m ++ s)) = (if m = 0 then s else mtF n' (m / 10) (dig m ++ s))
    by_cases hm : m = 0
    · rw [if_pos hm, if_pos hm]
    · rw [if_neg hm, if_neg hm]; exact mtF_eq n n' (m / 10) _ (by omega) (by omega)
theorem mtF_step {m : Nat} (hm : 0 < m) (s : ByteArray) : mtF m m s = mtF (m / 10) (m / 10) (dig m ++ s) := by
  obtain ⟨n, rfl⟩ : ∃ n, m = n + 1 := ⟨m - 1, by omega⟩
  show (if n + 1 = 0 then s else mtF n ((n + 1) / 10) (dig (n + 1) ++ s)) = _
  rw [if_neg (by omega)]
  exact mtF_eq _ _ _ _ (by omega) (Nat.le_refl _)
/-- texts that are marks. -/
def mkL (k n : Nat) : List ByteArray := (List.range n).map fun i => mtx (k + i)
theorem mkL_len (k n : Nat) : (mkL k n).length = n := by simp [mkL]
theorem mkL_get (k : Nat) {n i : Nat} (h : i < (mkL k n).length) : (mkL k n)[i] = mtx (k + i) := by simp [mkL]
def mkdL (L : List ByteArray) (k j : Nat) : List ByteArray := mkL k j ++ L.drop j
theorem mkdL_zero (L : List ByteArray) (k : Nat) : mkdL L k 0 = L := by simp [mkdL, mkL]
theorem mkdL_all (L : List ByteArray) (k : Nat) : mkdL L k L.length = mkL k L.length := by simp [mkdL]
theorem mkdL_len {L : List ByteArray} {k j : Nat} (hj : j ≤ L.length) : (mkdL L k j).length = L.length := by unfold mkdL; rw [List.length_append, mkL_len, List.length_drop]; omega
theorem mkL_succ (k n : Nat) : mkL k (n + 1) = mkL k n ++ [mtx (k + n)] := by unfold mkL; rw [List.range_succ, List.map_append]; rfl
theorem flatT (L : List ByteArray) : L.flatMap encT = L.map Value.string := by induction L with | nil => rfl | cons x r ih => rw [List.flatMap_cons, ih]; rfl
theorem mkdL_step (L : List ByteArray) (k : Nat) {j : Nat} (hj : j < L.length) : ((mkdL L k j).flatMap encT).set j (.string (mtx (k + j))) = (mkdL L k (j + 1)).flatMap encT := by
  rw [flatT, flatT]
  unfold mkdL
  have hl : ((mkL k j).map Value.string).length = j := by rw [List.length_map, mkL_len]
  rw [List.map_append, List.map_append, List.set_append_right _ _ (by omega), hl, Nat.sub_self, List.drop_eq_getElem_cons hj, mkL_succ, List.map_append, List.append_assoc]
  rfl
theorem mkdL_cell (L : List ByteArray) (k : Nat) {j : Nat} (hj : j < L.length) : ∃ s, ((mkdL L k j).flatMap encT)[j]? = some (.string s) := by
  rw [flatT]
  have : j < ((mkdL L k j).map Value.string).length := by rw [List.length_map, mkdL_len (by omega)]; exact hj
  exact ⟨_, by rw [List.getElem?_eq_getElem this, List.getElem_map]⟩
end Go.Proofs.YtaobgliimbmemaaGreatDoor
