/-
  Words without endings: contracts of l2Ends, l2Once, l2Stem, StemOf.
-/
import Derived.Test.YtaobgliimbmemaaGreatDoorStrs
import Derived.Test.YtaobgliimbmemaaGreatDoorShelf
import Derived.Lib.Strings
namespace Go.Proofs.YtaobgliimbmemaaGreatDoor
open Go.RowKit
set_option linter.unusedVariables false

theorem bytes_ext {a b : ByteArray} (h : a.toList = b.toList) : a = b := by
  rw [Lib.toList_data, Lib.toList_data] at h
  obtain ⟨⟨a⟩⟩ := a
  obtain ⟨⟨b⟩⟩ := b
  simp only at h
  subst h
  rfl
theorem bytes_eq (a b : ByteArray) : (a.toList == b.toList) = decide (a = b) := by
  by_cases h : a = b
  · subst h; simp
  · rw [decide_eq_false h, beq_eq_false_iff_ne]; exact fun e => h (bytes_ext e)
/-- the text of a value. -/
def bsOf : Value → ByteArray
  | .string s => s
  | _ => ByteArray.empty
def bitOf : Value → Nat
  | .bool true => 1
  | _ => 0
def ends : List ByteArray := [⟨#[105, 110, 103]⟩, ⟨#[101, 100]⟩, ⟨#[101, 115]⟩, ⟨#[108, 121]⟩, ⟨#[115]⟩]
def endsIn (s e : ByteArray) : Bool := decide (e.size + 3 ≤ s.size) && Lib.hasSuffix s.data.toList e.data.toList
def cutL : List ByteArray → ByteArray → ByteArray
  | [], s => s
  | e :: r, s => if endsIn s e = true then s.extract 0 (s.size - e.size) else cutL r s
/-- a word without one ending. -/
def once (s : ByteArray) : ByteArray := cutL ends s
theorem ends_len : ∀ e ∈ ends, 1 ≤ e.size ∧ e.size ≤ 3 := by decide
theorem cutL_lt : ∀ (E : List ByteArray) (s : ByteArray), (∀ e ∈ E, 1 ≤ e.size) → cutL E s = s ∨ (cutL E s).size < s.size
  | [], s, _ => .inl rfl
  | e :: r, s, h => by
    unfold cutL
    split
    · rename_i hc
      unfold endsIn at hc
      rw [Bool.and_eq_true, decide_eq_true_eq] at hc
      have := h e (by simp)
      exact .inr (by rw [ByteArray.size_extract]; omega)
    · exact cutL_lt r s (fun x hx => h x (List.mem_cons_of_mem _ hx))
theorem once_lt {s : ByteArray} (h : once s ≠ s) : (once s).size < s.size := (cutL_lt ends s fun e he => (ends_len e he).1).resolve_left h
def stemF : Nat → ByteArray → ByteArray
  | 0, s => s
  | n + 1, s => if once s = s then s else stemF n (once s)
/-- a word without endings. -/
def stemB (s : ByteArray) : ByteArray := stemF s.size s
theorem stemF_zero (m : Nat) {s : ByteArray} (h : s.size = 0) : stemF m s = s := by
  cases m with
  | zero => rfl
  | succ m =>
    unfold stemF
    split
    · rfl
    · rename_i hc; have := once_lt hc; omega
theorem stemF_eq : ∀ (n m : Nat) (s : ByteArray), s.size ≤ n → s.size ≤ m → stemF n s = stemF m s
  | 0, m, s, h1, h2 => by rw [stemF_zero m (by omega)]; rfl
  | n + 1, 0, s, h1, h2 => by rw [stemF_zero (n + 1) (by omega)]; rfl
  | n + 1, m + 1, s, h1, h2 => by
    unfold stemF
    split
    · rfl
    · rename_i hc; have := once_lt hc; exact stemF_eq n m _ (by omega) (by omega)
theorem stemB_fix {s : ByteArray} (h : once s = s) : stemB s = s := by
  unfold stemB
  cases s.size with
  | zero => rfl
  | succ n => unfold stemF; rw [if_pos h]
theorem stemB_step {s : ByteArray} (h : once s ≠ s) : stemB s = stemB (once s) := by
  have hl := once_lt h
  obtain ⟨n, hn⟩ : ∃ n, s.size = n + 1 := ⟨s.size - 1, by omega⟩
  have e : stemB s = stemF (n + 1) s := by unfold stemB; rw [hn]
  rw [e]
  show (if once s = s then s else stemF n (once s)) = _
  rw [if_neg h]
  exact stemF_eq _ _ _ (by omega) (Nat.le_refl _)
theorem ends_drop {k : Nat} (hk : k < 5) : ends.drop k = (ends.getD k ByteArray.empty) :: ends.drop (k + 1) := by
  rcases k with _ | _ | _ | _ | _ | k
  all_goals first | rfl | omega
theorem ends_at {k : Nat} (hk : k < 5) : 1 ≤ (ends.getD k ByteArray.empty).size ∧ (ends.getD k ByteArray.empty).size ≤ 3 := by
  rcases k with _ | _ | _ | _ | _ | k
  all_goals first | decide | omega
theorem cut_yes {k : Nat} (hk : k < 5) {s : ByteArray} (h : endsIn s (ends.getD k ByteArray.empty) = true) : cutL (ends.drop k) s = s.extract 0 (s.size - (ends.getD k ByteArray.empty).size) := by
  rw [ends_drop hk]; show (if _ then _ else _) = _; rw [if_pos h]
theorem cut_no {k : Nat} (hk : k < 5) {s : ByteArray} (h : endsIn s (ends.getD k ByteArray.empty) = false) : cutL (ends.drop k) s = cutL (ends.drop (k + 1)) s := by
  rw [ends_drop hk]; show (if _ then _ else _) = _; rw [if_neg (by rw [h]; simp)]
theorem endsIn_raw {s e : ByteArray} (h : e.size + 3 ≤ s.size) : endsIn s e = ((s.extract (s.size - e.size) s.size).toList == e.toList) := by
  unfold endsIn
  rw [decide_eq_true h, ← Lib.hasSuffix_raw, decide_eq_true (by omega)]
  rfl
theorem endsIn_short {s e : ByteArray} (h : ¬ e.size + 3 ≤ s.size) : endsIn s e = false := by
  unfold endsIn; rw [decide_eq_false h]; rfl

end Go.Proofs.YtaobgliimbmemaaGreatDoor
