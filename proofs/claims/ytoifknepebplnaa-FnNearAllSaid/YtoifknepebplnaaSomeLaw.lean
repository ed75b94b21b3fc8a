/-
  What is in so many lists: the sorted one with its runs counted, and each list asked, are one. No program in sight.
-/
import Derived.Test.YtoifknepebplnaaSpecSome
namespace Go.Proofs.Ytoifknepebplnaa
open Go.RowKit
set_option linter.unusedVariables false

theorem getD_get {S : List Int} {k : Nat} (h : k < S.length) : S.getD k 0 = S[k] := by rw [List.getD_eq_getElem?_getD, List.getElem?_eq_getElem h]; rfl
theorem count_split (S : List Int) (x : Int) : S.countP (fun y => decide (y < x)) + S.count x = S.countP (fun y => decide (y ≤ x)) := by
  induction S with
  | nil => rfl
  | cons y r ih =>
    rw [List.countP_cons, List.countP_cons, List.count_cons]
    by_cases h1 : y < x
    · have h2 : y ≤ x := by omega
      have h3 : ¬ y = x := by omega
      simp [h1, h2, h3]; omega
    · by_cases h2 : y = x
      · simp [h2]; omega
      · have h3 : ¬ y ≤ x := by omega
        simp [h1, h2, h3]; omega
theorem sorted_le {S : List Int} (h : S.Pairwise (· ≤ ·)) {i j : Nat} (hij : i ≤ j) (hj : j < S.length) : S[i]'(by omega) ≤ S[j] := by
  rcases Nat.lt_or_eq_of_le hij with hlt | rfl
  · exact List.pairwise_iff_getElem.1 h i j (by omega) hj hlt
  · exact Int.le_refl _
theorem count_run {S : List Int} (h : S.Pairwise (· ≤ ·)) {k : Nat} (hk : k < S.length) (hn : (h2 : k + 1 < S.length) → S[k + 1] ≠ S[k]) : S.countP (fun y => decide (y < S[k])) + S.count S[k] = k + 1 := by
  rw [count_split]
  have hs : ∀ p : Int → Bool, S.countP p = (S.take (k + 1)).countP p + (S.drop (k + 1)).countP p := fun p => by rw [← List.countP_append, List.take_append_drop]
  rw [hs]
  have h1 : (S.take (k + 1)).countP (fun y => decide (y ≤ S[k])) = k + 1 := by
    rw [List.countP_eq_length.2 (fun y hy => ?_)]
    · rw [List.length_take]; omega
    · obtain ⟨i, hi, rfl⟩ := List.getElem_of_mem hy
      rw [List.getElem_take, decide_eq_true_eq]
      rw [List.length_take] at hi
      exact sorted_le h (by omega) hk
  have h2 : (S.drop (k + 1)).countP (fun y => decide (y ≤ S[k])) = 0 := by
    rw [List.countP_eq_zero]
    intro y hy
    obtain ⟨i, hi, rfl⟩ := List.getElem_of_mem hy
    rw [List.getElem_drop, decide_eq_true_eq]
    rw [List.length_drop] at hi
    have h3 := hn (by omega)
    have h4 : S[k] ≤ S[k + 1] := sorted_le h (Nat.le_succ k) (show k + 1 < S.length by omega)
    have h5 := sorted_le h (show k + 1 ≤ k + 1 + i by omega) (show k + 1 + i < S.length by omega)
    omega
  rw [h1, h2]
theorem last_run {S : List Int} {x : Int} (h : x ∈ S) : ∃ k, ∃ hk : k < S.length, S[k] = x ∧ ((h2 : k + 1 < S.length) → S[k + 1] ≠ x) := by
  induction S with
  | nil => simp at h
  | cons y r ih =>
    by_cases hr : x ∈ r
    · obtain ⟨k, hk, h1, h2⟩ := ih hr
      exact ⟨k + 1, by simp; omega, by simpa using h1, fun h3 => by simpa using h2 (by simpa using h3)⟩
    · rcases List.mem_cons.1 h with rfl | h
      · refine ⟨0, by simp, rfl, fun h2 e => hr ?_⟩
        simp at e h2
        rw [← e]; exact List.getElem_mem _
      · exact absurd h hr
theorem keep_iff {S : List Int} (h : S.Pairwise (· ≤ ·)) {many : Int} {k : Nat} (hk : k < S.length) : keepAt S many k = true ↔ ((h2 : k + 1 < S.length) → S[k + 1] ≠ S[k]) ∧ many ≤ (S.count S[k] : Int) := by
  unfold keepAt
  rw [Bool.and_eq_true, Bool.not_eq_true', decide_eq_true_eq, getD_get hk]
  have hq : ((decide (k + 1 < S.length) && decide (S.getD (k + 1) 0 = S[k])) = false) ↔ ((h2 : k + 1 < S.length) → S[k + 1] ≠ S[k]) := by
    by_cases h2 : k + 1 < S.length
    · rw [decide_eq_true h2, Bool.true_and, decide_eq_false_iff_not, getD_get h2]
      exact ⟨fun e _ => e, fun e => e h2⟩
    · rw [decide_eq_false h2, Bool.false_and]
      exact ⟨fun _ h3 => absurd h3 h2, fun _ => rfl⟩
  rw [hq]
  constructor
  · rintro ⟨h1, h2⟩
    have := count_run h hk h1
    exact ⟨h1, by omega⟩
  · rintro ⟨h1, h2⟩
    have := count_run h hk h1
    exact ⟨h1, by omega⟩
theorem some_mem {S : List Int} (h : S.Pairwise (· ≤ ·)) {many : Int} {x : Int} : x ∈ someTo S many S.length ↔ x ∈ S ∧ many ≤ (S.count x : Int) := by
  unfold someTo
  rw [List.mem_map]
  constructor
  · rintro ⟨k, hk, rfl⟩
    rw [List.mem_filter, List.mem_range] at hk
    rw [getD_get hk.1]
    exact ⟨List.getElem_mem _, ((keep_iff h hk.1).1 hk.2).2⟩
  · rintro ⟨hx, hc⟩
    obtain ⟨k, hk, rfl, h2⟩ := last_run hx
    exact ⟨k, by rw [List.mem_filter, List.mem_range]; exact ⟨hk, (keep_iff h hk).2 ⟨h2, hc⟩⟩, getD_get hk⟩
theorem some_asc {S : List Int} (h : S.Pairwise (· ≤ ·)) (many : Int) : (someTo S many S.length).Pairwise (· < ·) := by
  unfold someTo
  rw [List.pairwise_map]
  have hr : (List.range S.length).Pairwise (· < ·) := List.pairwise_lt_range
  have h2 := List.Pairwise.and_mem.1 (hr.filter (keepAt S many))
  refine h2.imp ?_
  rintro i j ⟨hi, hj, hij⟩
  rw [List.mem_filter, List.mem_range] at hi hj
  rw [getD_get hi.1, getD_get hj.1]
  have h3 := ((keep_iff h hi.1).1 hi.2).1 (by omega)
  have h4 : S[i]'hi.1 ≤ S[i + 1]'(by omega) := sorted_le h (Nat.le_succ i) (show i + 1 < S.length by omega)
  have h5 := sorted_le h (show i + 1 ≤ j by omega) hj.1
  omega
theorem count_flat {Ls : List (List Int)} (h : allUp Ls = true) (x : Int) : Ls.flatten.count x = cntL Ls x := by
  induction Ls with
  | nil => rfl
  | cons L r ih =>
    unfold allUp at h
    rw [List.all_cons, Bool.and_eq_true] at h
    rw [List.flatten_cons, List.count_append, ih h.2]
    unfold cntL
    rw [List.countP_cons]
    have hnd := asc_nodup (upB_iff.1 h.1).2.1
    by_cases hx : x ∈ L
    · rw [inB_iff.2 hx, if_pos rfl, hnd.count, if_pos hx]; omega
    · have : inB L x = false := by rw [← Bool.not_eq_true, inB_iff]; exact hx
      rw [this, List.count_eq_zero.2 hx]; simp
theorem allI_mem {Ls : List (List Int)} {x : Int} : x ∈ allI Ls ↔ ∃ L ∈ Ls, x ∈ L := by
  have : ∀ X : List Int, x ∈ Ls.foldl putAll X ↔ x ∈ X ∨ ∃ L ∈ Ls, x ∈ L := by
    induction Ls with
    | nil => intro X; simp
    | cons L r ih => intro X; rw [List.foldl_cons, ih, putAll_mem]; simp [or_assoc]
  unfold allI
  rw [this]; simp
theorem allI_asc (Ls : List (List Int)) : (allI Ls).Pairwise (· < ·) := by
  have : ∀ X : List Int, X.Pairwise (· < ·) → (Ls.foldl putAll X).Pairwise (· < ·) := by
    induction Ls with
    | nil => intro X h; exact h
    | cons L r ih => intro X h; rw [List.foldl_cons]; exact ih _ (putAll_asc h)
  exact this [] List.Pairwise.nil
theorem sSome_some (Ls : List (List Int)) (many : Int) : sSomeI Ls many = someI Ls many := by
  unfold sSomeI someI
  split
  · rename_i h
    rw [Bool.and_eq_true, decide_eq_true_eq] at h
    obtain ⟨h1, h2⟩ := h
    have hu : allUp Ls = true := by unfold listsB at h1; rw [Bool.and_eq_true] at h1; exact h1.1
    refine asc_ext ((allI_asc Ls).filter _) (some_asc (sortI_asc _) many) fun x => ?_
    rw [some_mem (sortI_asc _), List.mem_filter, sortI_mem, show (sortI Ls.flatten).count x = Ls.flatten.count x from (List.mergeSort_perm Ls.flatten _).count_eq x, count_flat hu, allI_mem, List.mem_flatten]
    unfold enough
    rw [decide_eq_true_eq]
  · rfl
theorem specSetSome_some (A : Option Addr) (c : Nat) (Ls : List (List Int)) (many : Int) (w : World) (h : RdSS w A Ls) (hn : total Ls ≤ 1048576) :
    Calls Try.prog 40 #[.slice A Ls.length c, .int .i64 many] w (Makes w (someI Ls many)) := by
  rw [← sSome_some]; exact specSetSome_any A c Ls many w h hn
theorem someI_len (Ls : List (List Int)) (many : Int) (hn : total Ls ≤ 1048576) : (someI Ls many).length ≤ 1048576 := by
  unfold someI
  split
  · refine Nat.le_trans (someTo_len _ _ _) ?_
    rw [sortI_len, List.length_flatten]; unfold total at hn; omega
  · simp
end Go.Proofs.Ytoifknepebplnaa
