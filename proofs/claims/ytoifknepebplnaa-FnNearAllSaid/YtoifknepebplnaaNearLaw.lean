/-
  The least spans: reached list by list, and sought among all places, are one; what they are good for. No program in sight.
-/
import Derived.Test.YtoifknepebplnaaSpecNear
namespace Go.Proofs.Ytoifknepebplnaa
open Go.RowKit
set_option linter.unusedVariables false

abbrev Srt (Ls : List (List Int)) : Prop := ∀ L ∈ Ls, L.Pairwise (· ≤ ·)
theorem Srt.tail {L : List Int} {r : List (List Int)} (h : Srt (L :: r)) : Srt r := fun M hM => h M (List.mem_cons_of_mem _ hM)
theorem rc_ok (Ls : List (List Int)) (f t : Int) : (rcI Ls f t).2 = true ↔ ∀ L ∈ Ls, nxB L f = true := by
  induction Ls generalizing t with
  | nil => simp [rcI]
  | cons L r ih =>
    unfold rcI
    cases hb : nxB L f with
    | true => rw [if_pos rfl, ih]; simp [hb]
    | false => rw [if_neg (by simp)]; simp [hb]
theorem rc_le {Ls : List (List Int)} {f t : Int} (h : (rcI Ls f t).2 = true) (B : Int) : (rcI Ls f t).1 ≤ B ↔ t ≤ B ∧ ∀ L ∈ Ls, nxN L f ≤ B := by
  induction Ls generalizing t with
  | nil => simp [rcI]
  | cons L r ih =>
    unfold rcI at h ⊢
    cases hb : nxB L f with
    | true =>
      rw [hb, if_pos rfl] at h
      rw [if_pos rfl, ih h]
      constructor
      · rintro ⟨h1, h2⟩
        refine ⟨by omega, fun M hM => ?_⟩
        rcases List.mem_cons.1 hM with rfl | hM
        · omega
        · exact h2 M hM
      · rintro ⟨h1, h2⟩
        have := h2 L (List.mem_cons_self ..)
        exact ⟨by omega, fun M hM => h2 M (List.mem_cons_of_mem _ hM)⟩
    | false => rw [hb, if_neg (by simp)] at h; cases h
theorem rc_is {Ls : List (List Int)} {f t : Int} (h : (rcI Ls f t).2 = true) : (rcI Ls f t).1 = t ∨ ∃ L ∈ Ls, (rcI Ls f t).1 = nxN L f := by
  induction Ls generalizing t with
  | nil => simp [rcI]
  | cons L r ih =>
    unfold rcI at h ⊢
    cases hb : nxB L f with
    | true =>
      rw [hb, if_pos rfl] at h
      rw [if_pos rfl]
      rcases ih h with e | ⟨M, hM, e⟩
      · rw [e]
        rcases Int.le_total t (nxN L f) with h1 | h1
        · exact .inr ⟨L, List.mem_cons_self .., by omega⟩
        · exact .inl (by omega)
      · exact .inr ⟨M, List.mem_cons_of_mem _ hM, e⟩
    | false => rw [hb, if_neg (by simp)] at h; cases h
theorem any9_iff {L : List Int} {a b : Int} : any9 L a b = true ↔ ∃ x ∈ L, a ≤ x ∧ x ≤ b := by
  unfold any9
  rw [List.any_eq_true]
  constructor
  · rintro ⟨x, hx, h⟩; exact ⟨x, hx, wi_true.1 h⟩
  · rintro ⟨x, hx, h⟩; exact ⟨x, hx, wi_true.2 h⟩
theorem all9_iff {Ls : List (List Int)} {a b : Int} : all9 Ls a b = true ↔ ∀ L ∈ Ls, ∃ x ∈ L, a ≤ x ∧ x ≤ b := by
  unfold all9
  rw [List.all_eq_true]
  exact ⟨fun h L hL => any9_iff.1 (h L hL), fun h L hL => any9_iff.2 (h L hL)⟩
theorem all9_rc {Ls : List (List Int)} (hs : Srt Ls) {a b : Int} (hab : a ≤ b) : all9 Ls a b = true ↔ (rcI Ls a a).2 = true ∧ (rcI Ls a a).1 ≤ b := by
  rw [all9_iff]
  constructor
  · intro h
    have hok : (rcI Ls a a).2 = true := by
      rw [rc_ok]
      intro L hL
      obtain ⟨x, hx, h1, h2⟩ := h L hL
      exact (nx_iff (hs L hL)).2 ⟨x, hx, h1⟩
    refine ⟨hok, (rc_le hok b).2 ⟨hab, fun L hL => ?_⟩⟩
    obtain ⟨x, hx, h1, h2⟩ := h L hL
    have := (nx_yes (hs L hL) ((rc_ok Ls a a).1 hok L hL)).2.2 x hx h1
    omega
  · rintro ⟨hok, hle⟩ L hL
    have h1 := nx_yes (hs L hL) ((rc_ok Ls a a).1 hok L hL)
    exact ⟨_, h1.1, h1.2.1, ((rc_le hok b).1 hle).2 L hL⟩
theorem all9_none {Ls : List (List Int)} (h0 : 0 < Ls.length) {a b : Int} (hab : b < a) : all9 Ls a b = false := by
  rw [← Bool.not_eq_true, all9_iff]
  intro h
  obtain ⟨x, _, h1, h2⟩ := h Ls[0] (List.getElem_mem h0)
  omega
theorem rc_ge {Ls : List (List Int)} {f : Int} (h : (rcI Ls f f).2 = true) : f ≤ (rcI Ls f f).1 := ((rc_le h _).1 (Int.le_refl _)).1
theorem allI_K (Ls : List (List Int)) : allI Ls = allK Ls := asc_ext (allI_asc Ls) (allK_asc Ls) fun x => by rw [allI_mem, allK_mem]
theorem item_none {Ls : List (List Int)} {f : Int} {D : List Int} (h : ∀ b ∈ D, all9 Ls f b = false) : sItem Ls f D = [] := by
  induction D with
  | nil => rfl
  | cons b r ih =>
    unfold sItem
    rw [h b (List.mem_cons_self ..), if_neg (by simp)]
    exact ih fun x hx => h x (List.mem_cons_of_mem _ hx)
theorem item_at {Ls : List (List Int)} {f t : Int} {D : List Int} (hD : D.Pairwise (· < ·)) (h : ∀ b ∈ D, all9 Ls f b = true ↔ t ≤ b) (ht : t ∈ D) : sItem Ls f D = if all9 Ls (f + 1) t then [] else [(f, t)] := by
  induction D with
  | nil => simp at ht
  | cons b r ih =>
    rw [List.pairwise_cons] at hD
    unfold sItem
    have hb := h b (List.mem_cons_self ..)
    rcases List.mem_cons.1 ht with rfl | ht
    · rw [hb.2 (Int.le_refl _), if_pos rfl]
    · have hlt := hD.1 t ht
      have : all9 Ls f b = false := by rw [← Bool.not_eq_true, hb]; omega
      rw [this, if_neg (by simp)]
      exact ih hD.2 (fun x hx => h x (List.mem_cons_of_mem _ hx)) ht
theorem span_all {Ls : List (List Int)} (hs : Srt Ls) (h0 : 0 < Ls.length) {f : Int} (hok : (rcI Ls f f).2 = true) : all9 Ls (f + 1) (rcI Ls f f).1 = !spanOf Ls f := by
  unfold spanOf
  rw [hok, Bool.true_and]
  by_cases hle : f + 1 ≤ (rcI Ls f f).1
  · rw [Bool.eq_iff_iff, all9_rc hs hle]
    cases (rcI Ls (f + 1) (f + 1)).2 <;> simp
  · rw [all9_none h0 (by omega)]
    cases hk : (rcI Ls (f + 1) (f + 1)).2 with
    | false => rfl
    | true =>
      have := rc_ge hk
      rw [decide_eq_true (by omega)]; rfl
theorem to_mem {Ls : List (List Int)} (hs : Srt Ls) {f : Int} (hf : f ∈ allK Ls) (hok : (rcI Ls f f).2 = true) : (rcI Ls f f).1 ∈ allK Ls := by
  rcases rc_is hok with e | ⟨L, hL, e⟩
  · rw [e]; exact hf
  · rw [e, allK_mem]
    exact ⟨L, hL, (nx_yes (hs L hL) ((rc_ok Ls f f).1 hok L hL)).1⟩
theorem item_span {Ls : List (List Int)} (hs : Srt Ls) (h0 : 0 < Ls.length) {i : Nat} (hi : i < (allK Ls).length) : sItem Ls (allK Ls)[i] ((allK Ls).drop i) = if spanOf Ls (allK Ls)[i] then [((allK Ls)[i], (rcI Ls (allK Ls)[i] (allK Ls)[i]).1)] else [] := by
  have hasc := allK_asc Ls
  have hge : ∀ b ∈ (allK Ls).drop i, (allK Ls)[i] ≤ b := by
    intro b hb
    obtain ⟨j, hj, rfl⟩ := List.getElem_of_mem hb
    rw [List.getElem_drop]
    exact sorted_le (hasc.imp fun h => by omega) (by omega) (by rw [List.length_drop] at hj; omega)
  have hmem : (allK Ls)[i] ∈ allK Ls := List.getElem_mem hi
  cases hok : (rcI Ls (allK Ls)[i] (allK Ls)[i]).2 with
  | false =>
    rw [item_none fun b hb => ?_]
    · unfold spanOf; rw [hok]; rfl
    · rw [← Bool.not_eq_true, all9_rc hs (hge b hb), hok]; simp
  | true =>
    have htK := to_mem hs hmem hok
    have htD : (rcI Ls (allK Ls)[i] (allK Ls)[i]).1 ∈ (allK Ls).drop i := by
      obtain ⟨j, hj, e⟩ := List.getElem_of_mem htK
      have hij : i ≤ j := by
        rcases Nat.lt_or_ge j i with hlt | hge
        · have := List.pairwise_iff_getElem.1 hasc j i hj hi hlt
          have := rc_ge hok
          omega
        · exact hge
      rw [← e]
      exact List.mem_iff_getElem.2 ⟨j - i, by rw [List.length_drop]; omega, by rw [List.getElem_drop]; congr 1; omega⟩
    rw [item_at (t := (rcI Ls (allK Ls)[i] (allK Ls)[i]).1) (hasc.drop) (fun b hb => by rw [all9_rc hs (hge b hb), hok]; simp) htD, span_all hs h0 hok]
    cases spanOf Ls (allK Ls)[i] <;> simp
theorem sTo_spans {Ls : List (List Int)} (hs : Srt Ls) (h0 : 0 < Ls.length) : ∀ i, i ≤ (allK Ls).length → sTo Ls (allK Ls) i = spansTo Ls ((allK Ls).take i)
  | 0, _ => rfl
  | i + 1, hi => by
    rw [sTo_succ (by omega), sTo_spans hs h0 i (by omega), item_span hs h0 (by omega)]
    cases h : spanOf Ls ((allK Ls)[i]'(by omega)) with
    | true => rw [spans_yes (by omega) h]; rfl
    | false => rw [spans_no (by omega) h]; simp
theorem srt_of {Ls : List (List Int)} (h : placesB Ls = true) : Srt Ls := fun L hL => up_sorted ((places_up h).1 L hL)
theorem sNear_near (Ls : List (List Int)) : sNearI Ls = nearI Ls := by
  unfold sNearI nearI
  split
  · rename_i h
    rw [allI_K, sTo_spans (srt_of h) (places_up h).2.1 _ (Nat.le_refl _), List.take_length]
  · rfl
theorem near_len (Ls : List (List Int)) (hn : total Ls ≤ 1048576) : (nearI Ls).length ≤ 1048576 := by
  rw [← sNear_near]
  unfold sNearI
  split
  · refine Nat.le_trans (sTo_len _ _ _) (Nat.le_trans (allI_len Ls) ?_)
    unfold total at hn; omega
  · simp
theorem specNearAll_near (A : Option Addr) (c : Nat) (Ls : List (List Int)) (w : World) (h : RdSS w A Ls) (hn : total Ls ≤ 1048576) :
    Calls Try.prog 46 #[.slice A Ls.length c] w (MakesSN w (nearI Ls)) := by
  rw [← sNear_near]; exact specNearAll_any A c Ls w h hn
theorem near_mem {Ls : List (List Int)} {s : Int × Int} (h : s ∈ nearI Ls) : placesB Ls = true ∧ s.1 ∈ allK Ls ∧ spanOf Ls s.1 = true ∧ s.2 = (rcI Ls s.1 s.1).1 := by
  unfold nearI at h
  split at h
  · rename_i hp
    unfold spansTo at h
    rw [List.mem_map] at h
    obtain ⟨f, hf, rfl⟩ := h
    rw [List.mem_filter] at hf
    exact ⟨hp, hf.1, hf.2, rfl⟩
  · simp at h
theorem span_ok {Ls : List (List Int)} {f : Int} (h : spanOf Ls f = true) : (rcI Ls f f).2 = true := by
  unfold spanOf at h
  rw [Bool.and_eq_true] at h
  exact h.1
theorem near_is {Ls : List (List Int)} {s : Int × Int} (h : s ∈ nearI Ls) : all9 Ls s.1 s.2 = true ∧ all9 Ls (s.1 + 1) s.2 = false ∧ all9 Ls s.1 (s.2 - 1) = false ∧ s.1 ≤ s.2 ∧ 0 ≤ s.1 ∧ s.2 ≤ 999999999 := by
  obtain ⟨hp, hf, hsp, he⟩ := near_mem h
  have hs := srt_of hp
  have h0 := (places_up hp).2.1
  have hok := span_ok hsp
  have hge := rc_ge hok
  rw [← he] at hge
  have hb : ∀ x ∈ allK Ls, 0 ≤ x ∧ x ≤ 999999999 := fun x hx => by
    obtain ⟨L, hL, hxL⟩ := allK_mem.1 hx
    exact up_b ((places_up hp).1 L hL) x hxL
  refine ⟨(all9_rc hs hge).2 ⟨hok, by rw [he]; exact Int.le_refl _⟩, ?_, ?_, hge, (hb _ hf).1, by rw [he]; exact (hb _ (to_mem hs hf hok)).2⟩
  · rw [he, span_all hs h0 hok, hsp]; rfl
  · by_cases hle : s.1 ≤ s.2 - 1
    · rw [← Bool.not_eq_true, all9_rc hs hle]
      rintro ⟨_, h2⟩
      omega
    · exact all9_none h0 (by omega)
theorem near_asc {Ls : List (List Int)} : (nearI Ls).Pairwise fun s u => s.1 < u.1 ∧ s.2 < u.2 := by
  have h1 : (nearI Ls).Pairwise fun s u => s.1 < u.1 := by
    unfold nearI
    split
    · unfold spansTo
      rw [List.pairwise_map]
      exact (allK_asc Ls).filter _
    · exact List.Pairwise.nil
  refine (List.Pairwise.and_mem.1 h1).imp ?_
  rintro s u ⟨hs, hu, hlt⟩
  refine ⟨hlt, ?_⟩
  obtain ⟨_, a2, _⟩ := near_is hs
  obtain ⟨b1, _, _⟩ := near_is hu
  rcases Int.lt_or_le s.2 u.2 with h | h
  · exact h
  · exfalso
    rw [← Bool.not_eq_true] at a2
    apply a2
    rw [all9_iff] at b1 ⊢
    intro L hL
    obtain ⟨x, hx, h3, h4⟩ := b1 L hL
    exact ⟨x, hx, by omega, by omega⟩
theorem max_from {Ls : List (List Int)} (h0 : 0 < Ls.length) (b : Int) : ∀ (n : Nat) (a : Int), (b - a).toNat = n → all9 Ls a b = true → ∃ F, a ≤ F ∧ all9 Ls F b = true ∧ all9 Ls (F + 1) b = false
  | 0, a, hn, h => ⟨a, Int.le_refl _, h, all9_none h0 (by omega)⟩
  | n + 1, a, hn, h => by
    cases h2 : all9 Ls (a + 1) b with
    | false => exact ⟨a, Int.le_refl _, h, h2⟩
    | true =>
      obtain ⟨F, h3, h4, h5⟩ := max_from h0 b n (a + 1) (by omega) h2
      exact ⟨F, by omega, h4, h5⟩
/-- wherever all lists have one, a least span lies within. -/
theorem near_min {Ls : List (List Int)} (hp : placesB Ls = true) {a b : Int} (h : all9 Ls a b = true) : ∃ s ∈ nearI Ls, a ≤ s.1 ∧ s.2 ≤ b := by
  have hs := srt_of hp
  have h0 := (places_up hp).2.1
  obtain ⟨F, h1, h2, h3⟩ := max_from h0 b _ a rfl h
  have hFb : F ≤ b := by
    obtain ⟨x, _, h4, h5⟩ := all9_iff.1 h2 Ls[0] (List.getElem_mem h0)
    omega
  have hFK : F ∈ allK Ls := by
    apply Classical.byContradiction
    intro hno
    rw [← Bool.not_eq_true] at h3
    apply h3
    rw [all9_iff] at h2 ⊢
    intro L hL
    obtain ⟨x, hx, h4, h5⟩ := h2 L hL
    refine ⟨x, hx, ?_, h5⟩
    rcases Int.lt_or_le F x with h6 | h6
    · omega
    · exfalso
      apply hno
      rw [allK_mem]
      exact ⟨L, hL, by rwa [show F = x by omega]⟩
  obtain ⟨hok, hle⟩ := (all9_rc hs hFb).1 h2
  have hsp : spanOf Ls F = true := by
    have h4 := span_all hs h0 hok
    cases hs2 : spanOf Ls F with
    | true => rfl
    | false =>
      rw [hs2, Bool.not_false] at h4
      rw [← Bool.not_eq_true] at h3
      exfalso; apply h3
      rw [all9_iff] at h4 ⊢
      intro L hL
      obtain ⟨x, hx, h5, h6⟩ := h4 L hL
      exact ⟨x, hx, h5, by omega⟩
  refine ⟨(F, (rcI Ls F F).1), ?_, h1, hle⟩
  unfold nearI
  rw [hp, if_pos rfl]
  unfold spansTo
  rw [List.mem_map]
  exact ⟨F, List.mem_filter.2 ⟨hFK, hsp⟩, rfl⟩

/-- the least width; -1, if there is none. -/
def stepW (w : Int) (s : Int × Int) : Int := if w < 0 ∨ s.2 - s.1 + 1 < w then s.2 - s.1 + 1 else w
def minW (S : List (Int × Int)) : Int := S.foldl stepW (-1)
theorem minW_take {S : List (Int × Int)} {k : Nat} (hk : k < S.length) : minW (S.take (k + 1)) = stepW (minW (S.take k)) S[k] := by
  unfold minW; rw [← List.take_append_getElem hk, List.foldl_append]; rfl
theorem fold_w (S : List (Int × Int)) (hS : ∀ s ∈ S, s.1 ≤ s.2) : ∀ w : Int, (w = -1 ∨ 1 ≤ w) →
    (S.foldl stepW w = -1 ∨ 1 ≤ S.foldl stepW w) ∧ (S.foldl stepW w = -1 → w = -1 ∧ S = []) ∧ (1 ≤ w → S.foldl stepW w ≤ w) ∧ (∀ s ∈ S, S.foldl stepW w ≤ s.2 - s.1 + 1) := by
  induction S with
  | nil => intro w hw; exact ⟨hw, fun h => ⟨h, rfl⟩, fun _ => Int.le_refl _, fun s hs => by simp at hs⟩
  | cons s r ih =>
    intro w hw
    have h1 := hS s (List.mem_cons_self ..)
    rw [List.foldl_cons]
    have hst : 1 ≤ stepW w s ∧ stepW w s ≤ s.2 - s.1 + 1 ∧ (1 ≤ w → stepW w s ≤ w) := by
      unfold stepW; split
      · exact ⟨by omega, Int.le_refl _, fun h => by omega⟩
      · exact ⟨by omega, by omega, fun h => Int.le_refl _⟩
    obtain ⟨a1, a2, a3, a4⟩ := ih (fun x hx => hS x (List.mem_cons_of_mem _ hx)) (stepW w s) (.inr hst.1)
    have a5 := a3 hst.1
    refine ⟨a1, fun h => ?_, fun h => by have := hst.2.2 h; omega, fun x hx => ?_⟩
    · have := (a2 h).1; omega
    · rcases List.mem_cons.1 hx with rfl | hx
      · omega
      · exact a4 x hx
theorem minW_ok {S : List (Int × Int)} (hS : ∀ s ∈ S, s.1 ≤ s.2) : (minW S = -1 ∨ 1 ≤ minW S) ∧ (minW S = -1 → S = []) ∧ ∀ s ∈ S, minW S ≤ s.2 - s.1 + 1 := by
  obtain ⟨h1, h2, _, h4⟩ := fold_w S hS (-1) (.inl rfl)
  exact ⟨h1, fun h => (h2 h).2, h4⟩
end Go.Proofs.Ytoifknepebplnaa
