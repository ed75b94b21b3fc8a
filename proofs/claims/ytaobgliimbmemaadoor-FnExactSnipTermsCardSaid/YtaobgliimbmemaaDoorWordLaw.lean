/-
  The words of a text (plain).
-/
import Derived.Test.YtaobgliimbmemaaDoorStrs
namespace Go.Proofs.YtaobgliimbmemaaDoor
set_option linter.unusedVariables false

/-- a word: its letters, its place among the words, where it begins and ends. -/
structure WordD where
  tx : ByteArray
  at' : Nat
  fr : Nat
  tgt : Nat
/-- does a letter stand at i? (foldI: XStrs) -/
def isWd (s : ByteArray) (i : Nat) : Bool := decide (i < s.size) && decide (foldI ((s.data.getD i 0).toNat : Int) ≠ 0)
/-- where the run of letters ends that stands at i. -/
def runEnd (s : ByteArray) (i : Nat) : Nat := if isWd s i = true then runEnd s (i + 1) else i
termination_by s.size - i
decreasing_by
  rename_i h
  unfold isWd at h
  simp at h
  omega
theorem runEnd_ge (s : ByteArray) (i : Nat) : i ≤ runEnd s i := by
  fun_induction runEnd s i with
  | case1 i h ih => omega
  | case2 i h => exact Nat.le_refl _
theorem runEnd_gt {s : ByteArray} {i : Nat} (h : isWd s i = true) : i < runEnd s i := by
  rw [runEnd, if_pos h]
  exact runEnd_ge s (i + 1)
theorem runEnd_stop (s : ByteArray) (i : Nat) : isWd s (runEnd s i) = false := by
  fun_induction runEnd s i with
  | case1 i h ih => exact ih
  | case2 i h => simpa using h
theorem isWd_lt {s : ByteArray} {i : Nat} (h : isWd s i = true) : i < s.size := by
  unfold isWd at h
  simp at h
  exact h.1
/-- the words from a place on. -/
def wordsFrom (s : ByteArray) (i n : Nat) : List WordD :=
  if h : isWd s i = true then ⟨⟨((((List.range (runEnd s i - i)).map fun k => UInt8.ofNat (foldI ((s.data.getD (i + k) 0).toNat : Int)).toNat).take 12).toArray)⟩, n, i, runEnd s i⟩ :: wordsFrom s (runEnd s i) (n + 1)
  else if i < s.size then wordsFrom s (i + 1) n else []
termination_by s.size - i
decreasing_by
  · have := runEnd_gt h
    have := isWd_lt h
    omega
  · omega
theorem wordsFrom_skip {s : ByteArray} {i n : Nat} (h : isWd s i = false) (hi : i < s.size) : wordsFrom s i n = wordsFrom s (i + 1) n := by
  rw [wordsFrom, dif_neg (by simp [h]), if_pos hi]
theorem wordsFrom_end {s : ByteArray} {i n : Nat} (hi : ¬ i < s.size) : wordsFrom s i n = [] := by
  rw [wordsFrom, dif_neg (fun h => hi (isWd_lt h)), if_neg hi]
theorem runEnd_in (s : ByteArray) (i : Nat) : ∀ j, i ≤ j → j < runEnd s i → isWd s j = true := by
  fun_induction runEnd s i with
  | case1 i h ih =>
    intro j h1 h2
    rcases Nat.lt_or_ge i j with h3 | h3
    · exact ih j h3 h2
    · obtain rfl : j = i := by omega
      exact h
  | case2 i h => intro j h1 h2; omega
theorem runEnd_le {s : ByteArray} {i : Nat} (h : isWd s i = true) : runEnd s i ≤ s.size := by
  have h1 := runEnd_gt h
  have h2 := isWd_lt (runEnd_in s i (runEnd s i - 1) (by omega) (by omega))
  omega
theorem foldI_good {n : Int} (h0 : 0 ≤ n) (h1 : n ≤ 255) (h : foldI n ≠ 0) : wbI (foldI n) = true ∧ 0 ≤ foldI n ∧ foldI n ≤ 255 := by
  unfold foldI at h ⊢
  split
  · exact ⟨wbI_true.2 (by omega), by omega, by omega⟩
  · rename_i h2
    rw [if_neg h2] at h
    split
    · rename_i h3
      exact ⟨h3, h0, h1⟩
    · rename_i h3
      rw [if_neg h3] at h
      exact absurd rfl h
theorem wordsFrom_ok (s : ByteArray) (i n : Nat) : ∀ d ∈ wordsFrom s i n, wordB d.tx = true ∧ d.fr < d.tgt ∧ d.tgt ≤ s.size := by
  fun_induction wordsFrom s i n with
  | case1 i n h ih =>
    intro d hd
    rcases List.mem_cons.1 hd with rfl | hd
    · have h1 := runEnd_gt h
      refine ⟨?_, h1, runEnd_le h⟩
      unfold wordB
      rw [Bool.and_eq_true]
      refine ⟨?_, ?_⟩
      · rw [List.all_eq_true]
        intro b hb
        have hb2 := List.mem_of_mem_take hb
        simp only [List.mem_map, List.mem_range] at hb2
        obtain ⟨k, hk, rfl⟩ := hb2
        have hw := runEnd_in s i (i + k) (by omega) (by omega)
        unfold isWd at hw
        simp only [Bool.and_eq_true, decide_eq_true_eq] at hw
        have hg := foldI_good (n := ((s.data.getD (i + k) 0).toNat : Int)) (by omega) (by have := (s.data.getD (i + k) 0).toNat_lt; omega) hw.2
        generalize foldI ((s.data.getD (i + k) 0).toNat : Int) = m at hg
        have e : (((UInt8.ofNat m.toNat).toNat : Nat) : Int) = m := by
          rw [UInt8.toNat_ofNat']
          have : m.toNat % 2 ^ 8 = m.toNat := Nat.mod_eq_of_lt (by omega)
          rw [this]
          omega
        rw [e]
        exact hg.1
      · have hsz : (⟨((((List.range (runEnd s i - i)).map fun k => UInt8.ofNat (foldI ((s.data.getD (i + k) 0).toNat : Int)).toNat).take 12).toArray)⟩ : ByteArray).size = min 12 (runEnd s i - i) := by
          show Array.size _ = _
          rw [List.size_toArray, List.length_take, List.length_map, List.length_range]
        rw [hsz]
        generalize hm : min 12 (runEnd s i - i) = m
        have hm2 : 1 ≤ m ∧ m ≤ 12 := by omega
        clear hm hsz
        unfold wi
        simp
        omega
    · exact ih d hd
  | case2 i n h h2 ih => exact ih
  | case3 i n h h2 => intro d hd; simp at hd
theorem wordsFrom_len (s : ByteArray) (i n : Nat) : (wordsFrom s i n).length ≤ s.size - i := by
  fun_induction wordsFrom s i n with
  | case1 i n h ih =>
    have h1 := runEnd_gt h
    have h2 := isWd_lt h
    rw [List.length_cons]
    omega
  | case2 i n h h2 ih => omega
  | case3 i n h h2 => simp
end Go.Proofs.YtaobgliimbmemaaDoor
