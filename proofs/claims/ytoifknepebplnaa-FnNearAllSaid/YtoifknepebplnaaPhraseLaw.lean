/-
  Runs of places: the chain that takes the nearest each time is as good as any. No program in sight.
-/
import Derived.Test.YtoifknepebplnaaSpecPhrase
namespace Go.Proofs.Ytoifknepebplnaa
open Go.RowKit
set_option linter.unusedVariables false

theorem cnt_lt {S : List Int} (h : S.Pairwise (· ≤ ·)) (n : Int) {j : Nat} (hj : j < S.length) : S[j] < n ↔ j < S.countP (fun y => decide (y < n)) := by
  induction S generalizing j with
  | nil => simp at hj
  | cons y r ih =>
    rw [List.pairwise_cons] at h
    rw [List.countP_cons]
    by_cases hy : y < n
    · rw [if_pos (by simpa using hy)]
      cases j with
      | zero => simp [hy]
      | succ j =>
        rw [List.getElem_cons_succ, ih h.2 (by simpa using hj)]
        omega
    · have h0 : r.countP (fun y => decide (y < n)) = 0 := by
        rw [List.countP_eq_zero]
        intro x hx
        have := h.1 x hx
        rw [decide_eq_true_eq]; omega
      rw [h0, if_neg (by simpa using hy)]
      cases j with
      | zero => simp; omega
      | succ j =>
        have := h.1 (r[j]'(by simpa using hj)) (List.getElem_mem _)
        rw [List.getElem_cons_succ]
        omega
theorem nx_no {L : List Int} (h : L.Pairwise (· ≤ ·)) {n : Int} (hb : nxB L n = false) : ∀ x ∈ L, x < n := by
  unfold nxB at hb
  rw [decide_eq_false_iff_not] at hb
  intro x hx
  obtain ⟨j, hj, rfl⟩ := List.getElem_of_mem hx
  rw [cnt_lt h n hj]; omega
theorem nx_yes {L : List Int} (h : L.Pairwise (· ≤ ·)) {n : Int} (hb : nxB L n = true) : nxN L n ∈ L ∧ n ≤ nxN L n ∧ ∀ x ∈ L, n ≤ x → nxN L n ≤ x := by
  unfold nxB at hb
  rw [decide_eq_true_eq] at hb
  unfold nxN
  rw [if_pos hb, getD_get hb]
  refine ⟨List.getElem_mem _, ?_, fun x hx hnx => ?_⟩
  · have := cnt_lt h n hb; omega
  · obtain ⟨j, hj, rfl⟩ := List.getElem_of_mem hx
    have := cnt_lt h n hj
    exact sorted_le h (by omega) hj
theorem nx_iff {L : List Int} (h : L.Pairwise (· ≤ ·)) {n : Int} : nxB L n = true ↔ ∃ x ∈ L, n ≤ x := by
  constructor
  · intro hb
    have := nx_yes h hb
    exact ⟨_, this.1, this.2.1⟩
  · rintro ⟨x, hx, hn⟩
    cases hb : nxB L n with
    | true => rfl
    | false => have := nx_no h hb x hx; omega
theorem fr_cons {L : List Int} {r : List (List Int)} {last B : Int} : fr (L :: r) last B = true ↔ ∃ x ∈ L, last < x ∧ fr r x B = true := by
  show (L.any fun x => decide (last < x) && fr r x B) = true ↔ _
  rw [List.any_eq_true]
  constructor
  · rintro ⟨x, hx, h⟩
    rw [Bool.and_eq_true, decide_eq_true_eq] at h
    exact ⟨x, hx, h⟩
  · rintro ⟨x, hx, h⟩
    exact ⟨x, hx, by rw [Bool.and_eq_true, decide_eq_true_eq]; exact h⟩
theorem fr_anti {Ls : List (List Int)} {x y B : Int} (hxy : x ≤ y) (h : fr Ls y B = true) : fr Ls x B = true := by
  cases Ls with
  | nil => rw [fr_end, decide_eq_true_eq] at *; omega
  | cons L r =>
    rw [fr_cons] at *
    obtain ⟨z, hz, h1, h2⟩ := h
    exact ⟨z, hz, by omega, h2⟩
theorem fr_up {Ls : List (List Int)} {x B B' : Int} (hB : B ≤ B') (h : fr Ls x B = true) : fr Ls x B' = true := by
  induction Ls generalizing x with
  | nil => rw [fr_end, decide_eq_true_eq] at *; omega
  | cons L r ih =>
    rw [fr_cons] at *
    obtain ⟨z, hz, h1, h2⟩ := h
    exact ⟨z, hz, h1, ih h2⟩
theorem step_false (Ls : List (List Int)) (p : Int) : (Ls.foldl stepP (p, false)).2 = false := by
  induction Ls generalizing p with
  | nil => rfl
  | cons L r ih => rw [List.foldl_cons]; unfold stepP; rw [Bool.false_and]; exact ih _
theorem fr_fold {Ls : List (List Int)} (h : ∀ L ∈ Ls, L.Pairwise (· ≤ ·)) (last B : Int) : fr Ls last B = ((lastP Ls last).2 && decide ((lastP Ls last).1 ≤ B)) := by
  induction Ls generalizing last with
  | nil => rfl
  | cons L r ih =>
    have hL := h L (List.mem_cons_self ..)
    have hst : lastP (L :: r) last = r.foldl stepP (nxN L (last + 1), nxB L (last + 1)) := by unfold lastP; rw [List.foldl_cons]; unfold stepP; rw [Bool.true_and]
    rw [hst]
    cases hb : nxB L (last + 1) with
    | false =>
      rw [step_false, Bool.false_and, Bool.eq_false_iff, Ne, fr_cons]
      rintro ⟨x, hx, h1, _⟩
      have := nx_no hL hb x hx
      omega
    | true =>
      have hy := nx_yes hL hb
      have ih2 := ih (fun M hM => h M (List.mem_cons_of_mem _ hM)) (nxN L (last + 1))
      unfold lastP at ih2
      rw [← ih2, Bool.eq_iff_iff, fr_cons]
      constructor
      · rintro ⟨x, hx, h1, h2⟩
        exact fr_anti (hy.2.2 x hx (by omega)) h2
      · intro h2
        exact ⟨_, hy.1, by have := hy.2.1; omega, h2⟩
theorem isS_isP {Ls : List (List Int)} (h : ∀ L ∈ Ls, L.Pairwise (· ≤ ·)) (slop p : Int) : isS Ls slop p = isP Ls slop p := by
  unfold isS isP
  rw [List.drop_one]
  exact fr_fold (fun L hL => h L (List.mem_of_mem_tail hL)) p _
theorem places_up {Ls : List (List Int)} (h : placesB Ls = true) : (∀ L ∈ Ls, upB L = true) ∧ 0 < Ls.length ∧ Ls.length ≤ 6 := by
  unfold placesB listsB at h
  rw [Bool.and_eq_true, Bool.and_eq_true, decide_eq_true_eq, decide_eq_true_eq] at h
  refine ⟨?_, h.1, h.2.2⟩
  have := h.2.1
  unfold allUp at this
  rwa [List.all_eq_true] at this
theorem sPhr_phr (Ls : List (List Int)) (slop : Int) : sPhrI Ls slop = phrI Ls slop := by
  unfold sPhrI phrI
  split
  · rename_i h
    rw [Bool.and_eq_true] at h
    congr 1
    funext p
    exact isS_isP (fun L hL => up_sorted ((places_up h.1).1 L hL)) slop p
  · rfl
theorem phrI_len (Ls : List (List Int)) (slop : Int) (hn : total Ls ≤ 1048576) : (phrI Ls slop).length ≤ 1048576 := by
  unfold phrI
  split
  · refine Nat.le_trans (List.length_filter_le _ _) ?_
    cases Ls with
    | nil => simp
    | cons L r => have := total_mem (List.mem_cons_self (a := L) (l := r)); simp at this ⊢; omega
  · simp
theorem specPhraseOf_phr (A : Option Addr) (c : Nat) (Ls : List (List Int)) (slop : Int) (w : World) (h : RdSS w A Ls) (hn : total Ls ≤ 1048576) (hcap : Ls.length ≤ c) (hc63 : c ≤ 9223372036854775807) :
    Calls Try.prog 30 #[.slice A Ls.length c, .int .i64 slop] w (Makes w (phrI Ls slop)) := by
  rw [← sPhr_phr]; exact specPhraseOf_any A c Ls slop w h hn hcap hc63
/-! with nothing forgiven: each just behind the one ahead. -/
theorem fr_low {Ls : List (List Int)} {x B : Int} (h : fr Ls x B = true) : x + Ls.length ≤ B := by
  induction Ls generalizing x with
  | nil => rw [fr_end, decide_eq_true_eq] at h; simpa using h
  | cons L r ih =>
    obtain ⟨z, _, h1, h2⟩ := fr_cons.1 h
    have := ih h2
    rw [List.length_cons]; omega
theorem fr_tight (Ls : List (List Int)) (x : Int) : fr Ls x (x + Ls.length) = true ↔ ∀ k, (h : k < Ls.length) → x + 1 + k ∈ Ls[k] := by
  induction Ls generalizing x with
  | nil => rw [fr_end, decide_eq_true_eq]; simp
  | cons L r ih =>
    have e : x + ((L :: r).length : Int) = x + 1 + (r.length : Int) := by rw [List.length_cons]; omega
    rw [fr_cons, e]
    constructor
    · rintro ⟨z, hz, h1, h2⟩
      have h3 := fr_low h2
      obtain rfl : z = x + 1 := by omega
      have h4 := (ih (x + 1)).1 h2
      intro k hk
      cases k with
      | zero => simpa using hz
      | succ k =>
        have := h4 k (by simpa using hk)
        rw [List.getElem_cons_succ]
        rw [show x + 1 + ((k + 1 : Nat) : Int) = x + 1 + 1 + (k : Int) by omega]
        exact this
    · intro h
      have h0 := h 0 (by simp)
      rw [List.getElem_cons_zero] at h0
      refine ⟨x + 1, by simpa using h0, by omega, (ih (x + 1)).2 fun k hk => ?_⟩
      have := h (k + 1) (by simpa using hk)
      rw [List.getElem_cons_succ] at this
      rw [show x + 1 + ((k + 1 : Nat) : Int) = x + 1 + 1 + (k : Int) by omega] at this
      exact this
/-- each of the first k lists has its place. -/
def runK (Ls : List (List Int)) (p : Int) (k : Nat) : Bool := (List.range k).all fun j => inB (Ls.getD j []) (p + j)
theorem runK_succ {Ls : List (List Int)} {p : Int} {k : Nat} (hk : k < Ls.length) : runK Ls p (k + 1) = (runK Ls p k && inB Ls[k] (p + k)) := by
  unfold runK
  rw [List.range_succ, List.all_append, List.all_cons, List.all_nil, Bool.and_true, List.getD_eq_getElem?_getD, List.getElem?_eq_getElem hk]; rfl
theorem run_is {Ls : List (List Int)} (h : placesB Ls = true) {p : Int} (hp : p ∈ Ls.getD 0 []) : isP Ls 0 p = runK Ls p Ls.length := by
  obtain ⟨h1, h2, h3⟩ := places_up h
  rw [← isS_isP (fun L hL => up_sorted (h1 L hL))]
  unfold isS
  obtain ⟨P, r, rfl⟩ : ∃ P r, Ls = P :: r := by
    cases Ls with
    | nil => simp at h2
    | cons P r => exact ⟨P, r, rfl⟩
  rw [List.drop_one, List.tail_cons, show p + ((P :: r).length : Int) - 1 + 0 = p + (r.length : Int) by rw [List.length_cons]; omega, Bool.eq_iff_iff, fr_tight]
  unfold runK
  rw [List.all_eq_true]
  simp only [List.mem_range, inB_iff]
  constructor
  · intro h k hk
    cases k with
    | zero => simpa using hp
    | succ k =>
      have hk' : k < r.length := by simpa using hk
      have := h k hk'
      rw [List.getD_eq_getElem?_getD, List.getElem?_cons_succ, List.getElem?_eq_getElem hk']
      rw [show p + ((k + 1 : Nat) : Int) = p + 1 + (k : Int) by omega]
      exact this
  · intro h k hk
    have := h (k + 1) (by simpa using hk)
    rw [List.getD_eq_getElem?_getD, List.getElem?_cons_succ, List.getElem?_eq_getElem hk] at this
    rw [show p + ((k + 1 : Nat) : Int) = p + 1 + (k : Int) by omega] at this
    exact this
theorem phr_mem {Ls : List (List Int)} {slop x : Int} (h : x ∈ phrI Ls slop) : x ∈ Ls.getD 0 [] := by
  unfold phrI at h
  split at h
  · exact (List.mem_filter.1 h).1
  · simp at h
theorem phr_more {Ls : List (List Int)} {s t x : Int} (hst : s ≤ t) (ht : t ≤ 5) (h : x ∈ phrI Ls s) : x ∈ phrI Ls t := by
  unfold phrI at h
  split at h
  · rename_i hb
    rw [Bool.and_eq_true] at hb
    obtain ⟨hb1, hb2⟩ := hb
    have h5 := wi_true.1 hb2
    have h6 : wi t 0 5 = true := wi_true.2 ⟨by omega, ht⟩
    unfold phrI
    rw [hb1, h6, Bool.and_true, if_pos rfl]
    rw [List.mem_filter] at h ⊢
    refine ⟨h.1, ?_⟩
    have hso : ∀ L ∈ Ls, L.Pairwise (· ≤ ·) := fun L hL => up_sorted ((places_up hb1).1 L hL)
    rw [← isS_isP hso] at h ⊢
    exact fr_up (by omega) h.2
  · simp at h
theorem phr_up {Ls : List (List Int)} (slop : Int) : upB (phrI Ls slop) = true := by
  unfold phrI
  split
  · rename_i hb
    rw [Bool.and_eq_true] at hb
    obtain ⟨h1, h2, _⟩ := places_up hb.1
    refine up_filter (h1 _ ?_) _
    rw [List.getD_eq_getElem?_getD, List.getElem?_eq_getElem h2]
    exact List.getElem_mem _
  · rfl
theorem less_none {L M : List Int} (h : ∀ x ∈ L, x ∈ M) : lessL L M = [] := by
  unfold lessL
  split
  · rw [List.filter_eq_nil_iff]
    intro x hx
    unfold outB
    rw [inB_iff.2 (h x hx)]; simp
  · rfl
end Go.Proofs.Ytoifknepebplnaa
