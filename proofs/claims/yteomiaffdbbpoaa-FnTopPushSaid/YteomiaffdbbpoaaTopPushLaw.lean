/-
  Plain law: what stays of hits that are ok and one more.
-/
import Derived.Test.YteomiaffdbbpoaaTopLaw
namespace Go.Proofs.Yteomiaffdbbpoaa
set_option linter.unusedVariables false

theorem hits_iff {L : List (Int × Int)} : hitsB L = true ↔ PwH L ∧ (∀ x ∈ L, (1 ≤ x.1 ∧ x.1 ≤ 9999) ∧ 1 ≤ x.2) ∧ (L.map Prod.fst).Nodup ∧ L.length ≤ 16 := by
  constructor
  · intro ho
    have hk : ∀ k, (hk : k < L.length) → (wi L[k].1 1 9999 && !ltB L[k].2 1 && (decide (k = 0) || lessH (L.getD (k - 1) (0, 0)) L[k]) && !anyDoc (L.take k) L[k].1) = true := fun k hk => by
      rw [← okH_at hk]
      unfold hitsB okTo at ho
      rw [Bool.and_eq_true, List.all_eq_true] at ho
      exact ho.1 k (List.mem_range.2 hk)
    refine ⟨pw_of_hits ho, fun x hx => ?_, ?_, ?_⟩
    · obtain ⟨k, hkl, rfl⟩ := List.getElem_of_mem hx
      have := hk k hkl
      simp only [Bool.and_eq_true, Bool.not_eq_true'] at this
      have h1 := wi_true.1 this.1.1.1
      have h2 : ¬ L[k].2 < 1 := of_decide_eq_false this.1.1.2
      omega
    · unfold List.Nodup
      rw [List.pairwise_map, List.pairwise_iff_getElem]
      intro i j hi hj hij e
      have := hk j hj
      simp only [Bool.and_eq_true, Bool.not_eq_true'] at this
      have h3 := this.2
      unfold anyDoc at h3
      rw [List.any_eq_false] at h3
      exact h3 L[i] (List.mem_take_iff_getElem.2 ⟨i, by omega, rfl⟩) (by simp [e])
    · unfold hitsB at ho
      rw [Bool.and_eq_true] at ho
      exact of_decide_eq_true ho.2
  · rintro ⟨h1, h2, h3, h4⟩
    unfold hitsB okTo
    rw [Bool.and_eq_true, List.all_eq_true]
    refine ⟨fun k hk => ?_, decide_eq_true h4⟩
    have hk := List.mem_range.1 hk
    rw [okH_at hk]
    have ha := h2 L[k] (List.getElem_mem _)
    have hw : wi L[k].1 1 9999 = true := wi_true.2 ha.1
    have hl : ltB L[k].2 1 = false := decide_eq_false (by omega)
    have hd : anyDoc (L.take k) L[k].1 = false := by
      unfold anyDoc
      rw [List.any_eq_false]
      intro x hx e
      obtain ⟨i, hi, rfl⟩ := List.mem_take_iff_getElem.1 hx
      unfold List.Nodup at h3
      rw [List.pairwise_map, List.pairwise_iff_getElem] at h3
      exact h3 i k (by omega) hk (by omega) (by simpa using e)
    rw [hw, hl, hd]
    rcases Nat.eq_zero_or_pos k with rfl | hp
    · simp
    · have := (List.pairwise_iff_getElem.1 h1) (k - 1) k (by omega) hk (by omega)
      rw [getD2 (show k - 1 < L.length by omega), this]
      simp
theorem insH_perm (L : List (Int × Int)) (h : Int × Int) : (insH L h).Perm (h :: L) := by
  have e : L = L.takeWhile (fun x => lessH x h) ++ L.dropWhile (fun x => lessH x h) := (List.takeWhile_append_dropWhile).symm
  unfold insH
  refine List.perm_middle.trans (List.Perm.cons _ ?_)
  rw [← e]
theorem any_ne {L : List (Int × Int)} {d : Int} (h : anyDoc L d = false) : ∀ x ∈ L, x.1 ≠ d := by
  unfold anyDoc at h
  rw [List.any_eq_false] at h
  exact fun x hx e => h x hx (by simp [e])
theorem top_law {L : List (Int × Int)} {h : Int × Int} {m : Nat} (ho : hitsB L = true) (hn : anyDoc L h.1 = false) (hd : 1 ≤ h.1 ∧ h.1 ≤ 9999) (hp : 1 ≤ h.2) (hm : L.length ≤ m) (hm2 : m ≤ 16) :
    hitsB (pushH L h m) = true ∧ (pushH L h m).length ≤ m ∧ L.length ≤ (pushH L h m).length ∧ ∀ y ∈ L ++ [h], y ∈ pushH L h m ∨ ((pushH L h m).length = m ∧ ∀ x ∈ pushH L h m, lessH y x = false) := by
  obtain ⟨h1, h2, h3, h4⟩ := hits_iff.1 ho
  have hne : ∀ x ∈ L, x ≠ h := fun x hx e => any_ne hn x hx (by rw [e])
  have hI := insH_pw h1 hne
  have hl := insH_len L h
  have hP := insH_perm L h
  have hN : ((insH L h).map Prod.fst).Nodup := by
    rw [(hP.map Prod.fst).nodup_iff, List.map_cons, List.nodup_cons]
    refine ⟨fun hc => ?_, h3⟩
    obtain ⟨x, hx, e⟩ := List.mem_map.1 hc
    exact any_ne hn x hx e
  have hpl : (pushH L h m).length = min m (L.length + 1) := by unfold pushH; rw [List.length_take, hl, Int.toNat_natCast]
  have hpe : pushH L h m = (insH L h).take m := by unfold pushH; rw [Int.toNat_natCast]
  have hsub : (pushH L h m).Sublist (insH L h) := by rw [hpe]; exact List.take_sublist _ _
  refine ⟨hits_iff.2 ⟨hI.sublist hsub, fun x hx => ?_, hN.sublist (hsub.map _), by omega⟩, by omega, by omega, fun y hy => ?_⟩
  · rcases insH_mem.1 (hsub.subset hx) with h5 | rfl
    · exact h2 x h5
    · exact ⟨hd, hp⟩
  · have hyI : y ∈ insH L h := insH_mem.2 (by simpa using hy)
    rw [← List.take_append_drop m (insH L h), List.mem_append] at hyI
    rcases hyI with h5 | h5
    · exact .inl (by rw [hpe]; exact h5)
    · refine .inr ⟨?_, fun x hx => ?_⟩
      · have : 0 < ((insH L h).drop m).length := List.length_pos_of_mem h5
        rw [List.length_drop] at this
        omega
      · rw [hpe] at hx
        have := hI
        unfold PwH at this
        rw [← List.take_append_drop m (insH L h), List.pairwise_append] at this
        have h6 := this.2.2 x hx y h5
        cases h7 : lessH y x with
        | false => rfl
        | true => have := lessH_trans h6 h7; rw [lessH_irr] at this; cases this
theorem topS_has {L : List (Int × Int)} {hd hp most : Int} (ho : hitsB L = true) (hm : wi most 1 16 = true) (hl : (L.length : Int) ≤ most) (ha : anyDoc L hd = true) : topS L hd hp most = L := by
  unfold topS
  rw [if_pos ⟨ho, hm, hl⟩, if_neg (by rw [ha]; simp)]
theorem topS_new {L : List (Int × Int)} {hd hp most : Int} (ho : hitsB L = true) (hm : wi most 1 16 = true) (hl : (L.length : Int) ≤ most) (ha : anyDoc L hd = false) (hd1 : wi hd 1 9999 = true) (hp1 : 1 ≤ hp) : topS L hd hp most = pushH L (hd, hp) most := by
  unfold topS
  rw [if_pos ⟨ho, hm, hl⟩, if_pos ⟨ha, hd1, hp1⟩]
end Go.Proofs.Yteomiaffdbbpoaa
