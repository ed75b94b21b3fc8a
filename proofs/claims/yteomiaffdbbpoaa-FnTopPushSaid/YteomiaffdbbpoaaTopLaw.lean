/-
  Plain law: the sort of a list with one more hit is the list with the hit put in.
-/
import Derived.Test.YteomiaffdbbpoaaTopImpl
namespace Go.Proofs.Yteomiaffdbbpoaa
set_option linter.unusedVariables false

def PwH (L : List (Int × Int)) : Prop := L.Pairwise fun a b => lessH a b = true
theorem pw_ext : ∀ {L M : List (Int × Int)}, PwH L → PwH M → (∀ x, x ∈ L ↔ x ∈ M) → L = M
  | [], [], _, _, _ => rfl
  | [], y :: s, _, _, h => by have := (h y).2 (List.mem_cons_self ..); simp at this
  | x :: r, [], _, _, h => by have := (h x).1 (List.mem_cons_self ..); simp at this
  | x :: r, y :: s, hL, hM, h => by
    unfold PwH at hL hM
    rw [List.pairwise_cons] at hL hM
    have irr : ∀ a b, lessH a b = true → lessH b a = true → False := fun a b h1 h2 => by have := lessH_trans h1 h2; rw [lessH_irr] at this; cases this
    have e : x = y := by
      have h1 := (h x).1 (List.mem_cons_self ..)
      have h2 := (h y).2 (List.mem_cons_self ..)
      rcases List.mem_cons.1 h1 with h1 | h1
      · exact h1
      · rcases List.mem_cons.1 h2 with h2 | h2
        · exact h2.symm
        · exact absurd (hL.1 y h2) (fun h3 => irr _ _ (hM.1 x h1) h3)
    subst e
    have : r = s := pw_ext hL.2 hM.2 fun z => by
      constructor
      · intro hz
        rcases List.mem_cons.1 ((h z).1 (List.mem_cons_of_mem _ hz)) with e | e
        · exact absurd (hL.1 z hz) (by rw [e, lessH_irr]; simp)
        · exact e
      · intro hz
        rcases List.mem_cons.1 ((h z).2 (List.mem_cons_of_mem _ hz)) with e | e
        · exact absurd (hM.1 z hz) (by rw [e, lessH_irr]; simp)
        · exact e
    rw [this]
theorem insH_cons (x : Int × Int) (r : List (Int × Int)) (h : Int × Int) : insH (x :: r) h = if lessH x h = true then x :: insH r h else h :: x :: r := by
  unfold insH
  by_cases hx : lessH x h = true
  · simp [hx]
  · simp [hx]
theorem insH_mem {h y : Int × Int} : ∀ {L : List (Int × Int)}, y ∈ insH L h ↔ y ∈ L ∨ y = h
  | [] => by simp [insH]
  | x :: r => by
    rw [insH_cons]
    split
    · rw [List.mem_cons, insH_mem (L := r), List.mem_cons, or_assoc]
    · simp only [List.mem_cons]
      constructor
      · rintro (h1 | h1 | h1)
        · exact .inr h1
        · exact .inl (.inl h1)
        · exact .inl (.inr h1)
      · rintro ((h1 | h1) | h1)
        · exact .inr (.inl h1)
        · exact .inr (.inr h1)
        · exact .inl h1
theorem insH_pw {h : Int × Int} : ∀ {L : List (Int × Int)}, PwH L → (∀ x ∈ L, x ≠ h) → PwH (insH L h)
  | [], _, _ => by simp [insH, PwH]
  | x :: r, hL, hne => by
    unfold PwH at hL
    rw [List.pairwise_cons] at hL
    rw [insH_cons]
    split
    · rename_i hx
      refine List.pairwise_cons.2 ⟨fun y hy => ?_, insH_pw hL.2 (fun z hz => hne z (List.mem_cons_of_mem _ hz))⟩
      rcases insH_mem.1 hy with h1 | h1
      · exact hL.1 y h1
      · rw [h1]; exact hx
    · rename_i hx
      have hhx : lessH h x = true := by
        cases hc : lessH h x with
        | true => rfl
        | false => exact absurd (lessH_total (by simpa using hx) hc) (hne x (List.mem_cons_self ..))
      refine List.pairwise_cons.2 ⟨fun y hy => ?_, List.pairwise_cons.2 hL⟩
      rcases List.mem_cons.1 hy with h1 | h1
      · rw [h1]; exact hhx
      · exact lessH_trans hhx (hL.1 y h1)
theorem sortH_mem {L : List (Int × Int)} {x : Int × Int} : x ∈ sortH L ↔ x ∈ L := (List.mergeSort_perm L _).mem_iff
theorem sortH_pw {L : List (Int × Int)} (hd : L.Nodup) : PwH (sortH L) := by
  have h1 : (sortH L).Pairwise fun x y => (!(lessH y x)) = true := List.pairwise_mergeSort (fun a b c h1 h2 => by
    simp only [Bool.not_eq_true'] at *
    rw [← Bool.not_eq_true, lessH_iff] at *
    omega) (fun a b => by
    rw [Bool.or_eq_true]
    simp only [Bool.not_eq_true']
    rw [← Bool.not_eq_true, ← Bool.not_eq_true, lessH_iff, lessH_iff]
    omega) L
  have h2 : (sortH L).Nodup := (List.mergeSort_perm L _).nodup_iff.2 hd
  have h3 := h1.and h2
  refine h3.imp ?_
  rintro a b ⟨ha, hb⟩
  · cases hc : lessH a b with
    | true => rfl
    | false => exact absurd (lessH_total hc (by simpa using ha)) hb
theorem pw_of_hits {L : List (Int × Int)} (ho : hitsB L = true) : PwH L := by
  have h1 : ∀ k, k < L.length → okH L k = true := by
    unfold hitsB okTo at ho
    rw [Bool.and_eq_true, List.all_eq_true] at ho
    exact fun k hk => ho.1 k (List.mem_range.2 hk)
  have h2 : ∀ k, (hk : k + 1 < L.length) → lessH (L[k]'(by omega)) L[k + 1] = true := fun k hk => by
    have := h1 (k + 1) hk
    rw [okH_at hk] at this
    simp only [Bool.and_eq_true, Bool.or_eq_true] at this
    have h3 := this.1.2
    rw [Nat.add_sub_cancel, getD2 (show k < L.length by omega)] at h3
    rcases h3 with h3 | h3
    · simp at h3
    · exact h3
  unfold PwH
  rw [List.pairwise_iff_getElem]
  intro i j hi hj hij
  induction j with
  | zero => omega
  | succ j ih =>
    rcases Nat.lt_or_eq_of_le (Nat.le_of_lt_succ hij) with h3 | rfl
    · exact lessH_trans (ih (by omega) h3) (h2 j hj)
    · exact h2 i hj
theorem pw_nodup {L : List (Int × Int)} (h : PwH L) : L.Nodup := h.imp fun h1 h2 => by rw [h2, lessH_irr] at h1; cases h1
theorem sort_ins {L : List (Int × Int)} {h : Int × Int} (ho : hitsB L = true) (hn : anyDoc L h.1 = false) : sortH (L ++ [h]) = insH L h := by
  have hpw := pw_of_hits ho
  have hne : ∀ x ∈ L, x ≠ h := fun x hx e => by
    unfold anyDoc at hn
    rw [List.any_eq_false] at hn
    exact hn x hx (by rw [e]; simp)
  refine pw_ext (sortH_pw ?_) (insH_pw hpw hne) fun x => by rw [sortH_mem, insH_mem]; simp
  rw [List.nodup_append]
  exact ⟨pw_nodup hpw, by simp, fun a ha b hb => by simp at hb; rw [hb]; exact hne a ha⟩
def topS (L : List (Int × Int)) (hd hp most : Int) : List (Int × Int) :=
  if hitsB L = true ∧ wi most 1 16 = true ∧ (L.length : Int) ≤ most then
    if anyDoc L hd = false ∧ wi hd 1 9999 = true ∧ 1 ≤ hp then pushH L (hd, hp) most else L
  else []
theorem topI_topS (L : List (Int × Int)) (hd hp most : Int) : topI L hd hp most = topS L hd hp most := by
  unfold topI topS pushH
  split
  · rename_i h1
    split
    · rename_i h2
      rw [sort_ins h1.1 h2.1]
    · rfl
  · rfl
end Go.Proofs.Yteomiaffdbbpoaa
