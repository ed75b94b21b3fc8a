/-
  Contracts of what the exact laws call on slices of integers: toIntS, eqIntS, markIntS, heldIntS.
-/
import Derived.Test.YteomiaffdbbpoaaOwn
namespace Go.Proofs.Yteomiaffdbbpoaa
open Go.RowKit
set_option linter.unusedVariables false

theorem madeCells_one (n : Nat) : (madeCells (Value.int .i64 0).cells (n * 1)).toList = List.replicate (n * 1) (.int .i64 0) := toList_madeCells_one _ _
/-- a row that is filled from its head: the first k numbers, then noughts. -/
def fill1 (L : List Int) (k : Nat) : List Value := ints (L.take k) ++ List.replicate (L.length - k) (.int .i64 0)
theorem fill1_zero (L : List Int) : fill1 L 0 = List.replicate (L.length * 1) (.int .i64 0) := by simp [fill1, ints]
theorem fill1_all (L : List Int) : fill1 L L.length = ints L := by simp [fill1]
theorem fill1_split (L : List Int) {k : Nat} (hk : k < L.length) : fill1 L k = ints (L.take k) ++ (.int .i64 0 :: List.replicate (L.length - (k + 1)) (.int .i64 0)) := by
  unfold fill1
  rw [show L.length - k = (L.length - (k + 1)) + 1 by omega, List.replicate_succ]
theorem fill1_len (L : List Int) {k : Nat} (hk : k ≤ L.length) : (ints (L.take k)).length = k := by
  rw [ints_len, List.length_take, Nat.min_eq_left hk]
theorem fill1_get (L : List Int) {k : Nat} (hk : k < L.length) : (fill1 L k)[k]? = some (.int .i64 0) := by
  have hl := fill1_len L (Nat.le_of_lt hk)
  rw [fill1_split L hk, List.getElem?_append_right (by omega), hl, Nat.sub_self]; rfl
theorem fill1_step (L : List Int) {k : Nat} (hk : k < L.length) : (fill1 L k).set k (.int .i64 L[k]) = fill1 L (k + 1) := by
  have hl := fill1_len L (Nat.le_of_lt hk)
  rw [fill1_split L hk, List.set_append_right _ _ (by omega), hl, Nat.sub_self]
  unfold fill1
  rw [← List.take_append_getElem hk, ints_append]
  simp [ints]

theorem toIntS_any (A : Option Addr) (c : Nat) (L : List Int) (w : World) (h : RdI w A L) (hn : L.length ≤ 1048576) :
    Calls Try.prog 32 #[.slice A L.length c] w (Makes w L) := by
  obtain ⟨i0, hi, hz0, hz1, hz2⟩ := info_parts infoInt
  obtain ⟨wm, hmk, hown0, hg0⟩ := run_make_full (P := Try.prog) w w.heap.size 31 3 i0 _ 1 Try.underlying31 hi hz0 hz1 .i64 .i64 L.length (by rw [hz2]; omega) (by unfold maxLen; omega) (Nat.le_refl _)
  have hB0 : Below w.heap.size w wm := (Below.refl _ _).grown hg0 (Nat.le_refl _) (fun k hk => by cases hk)
  go_enter Try.func32, Try.ntmps32
  go_wp2
  go_loopw [4] (fun i wr => ∃ k : Nat, k ≤ L.length ∧ i = .int .i64 k ∧ wr.ownsRow w.heap.size 3 1 (.slice (some ⟨w.heap.size, 0, none⟩) L.length L.length) L.length (fill1 L k) ∧ Below w.heap.size w wr) (fun i _ => L.length - (intOf i).toNat)
  case atStart => exact ⟨0, Nat.zero_le _, rfl, by rw [fill1_zero, ← madeCells_one]; exact hown0, hB0⟩
  case round =>
    obtain ⟨k, hk, rfl, hown, hB⟩ := hrel
    by_cases hlt : k < L.length
    · obtain ⟨b, off, rfl, hb, x0⟩ := (h.below hB).at1 hlt
      have f0 := fill1_get L hlt
      have hstep := fill1_step L hlt
      generalize L[k] = p at x0 hstep
      have HS : Hid ((fill1 L k).set k (.int .i64 p) = fill1 L (k + 1)) := hstep
      clear hstep
      have g0 := (hown.cellAt k (by omega)).trans f0
      have z0 := hown.frozenAt k
      have own5 := (hown.stored k (.int .i64 p)).1
      rw [HS.out] at own5
      have hB5 := hB.setCell (p := ⟨w.heap.size, k, none⟩) (Nat.le_refl _) (.int .i64 p)
      go_wp2
      go_roundw
      case rel => exact ⟨k + 1, by omega, by go_num, own5, hB5⟩
      case measure => simp [intOf]; omega
    · obtain rfl : k = L.length := by omega
      rw [fill1_all] at hown
      go_wp2
      go_ret
      exact ⟨_, _, ⟨rfl, hown⟩, hB⟩
theorem eqIntS_same (A A' : Option Addr) (c c' : Nat) (L : List Int) (w : World) (h : RdI w A L) (h' : RdI w A' L) (hn : L.length ≤ 4194304) :
    Calls Try.prog 33 #[.slice A L.length c, .slice A' L.length c'] w fun e w' => e = .returned (.bool true) ∧ Below w.heap.size w w' := by
  refine (eqIntS_any A A' c c' L L w h h' (by omega) (by omega)).mono ?_
  rintro e w' ⟨rfl, q, rfl⟩
  exact ⟨ret_bool (by simp), below_of_drewN⟩
/-- the marks k, k + 1, .. -/
def marks (k : Int) (n : Nat) : List Int := (List.range n).map fun (i : Nat) => k + (i : Int)
theorem marks_len (k : Int) (n : Nat) : (marks k n).length = n := by simp [marks]
theorem marks_get (k : Int) {n i : Nat} (h : i < n) : (marks k n)[i]'(by rw [marks_len]; exact h) = k + i := by simp [marks]
def mkd (L : List Int) (k : Int) (j : Nat) : List Int := marks k j ++ L.drop j
theorem mkd_len (L : List Int) (k : Int) {j : Nat} (hj : j ≤ L.length) : (mkd L k j).length = L.length := by simp [mkd, marks_len]; omega
theorem mkd_zero (L : List Int) (k : Int) : mkd L k 0 = L := by simp [mkd, marks]
theorem mkd_all (L : List Int) (k : Int) : mkd L k L.length = marks k L.length := by simp [mkd]
theorem mkd_step (L : List Int) (k : Int) {j : Nat} (hj : j < L.length) : (ints (mkd L k j)).set j (.int .i64 (k + j)) = ints (mkd L k (j + 1)) := by
  unfold mkd
  have e : marks k (j + 1) = marks k j ++ [k + (j : Int)] := by unfold marks; rw [List.range_succ, List.map_append]; rfl
  rw [ints_append, ints_append, List.set_append_right _ _ (by rw [ints_len, marks_len]; omega), ints_len, marks_len, Nat.sub_self, List.drop_eq_getElem_cons hj, e, ints_append, List.append_assoc]
  rfl
theorem mkd_get (L : List Int) (k : Int) {j : Nat} (hj : j < L.length) : (ints (mkd L k j))[j]? = some (.int .i64 L[j]) := by
  unfold mkd
  rw [ints_append, List.getElem?_append_right (by rw [ints_len, marks_len]; omega), ints_len, marks_len, Nat.sub_self, List.drop_eq_getElem_cons hj]
  simp [ints]
theorem markIntS_any (A : Option Addr) (c : Nat) (L : List Int) (k : Int) (base : Nat) (w : World) (h : OwnI w base (.slice A L.length c) L) (hn : L.length ≤ 4194304) (h0 : 0 ≤ k) (h1 : k ≤ 4611686018427387904) :
    Calls Try.prog 36 #[.slice A L.length c, .int .i64 k] w fun e w' => (e = .returned (.int .i64 (k + L.length)) ∧ w'.ownsRow base 3 1 (.slice A L.length c) L.length (ints (marks k L.length))) ∧ w.grownBy w' (Value.slice A L.length c).ownBlock := by
  go_enter Try.func36, Try.ntmps36
  go_wp2
  go_loopw [1, 5] (fun m i wr => ∃ j : Nat, j ≤ L.length ∧ i = .int .i64 j ∧ m = .int .i64 (k + j) ∧ wr.ownsRow base 3 1 (.slice A L.length c) L.length (ints (mkd L k j)) ∧ w.grownBy wr (Value.slice A L.length c).ownBlock) (fun _ i _ => L.length - (intOf i).toNat)
  case atStart => exact ⟨0, Nat.zero_le _, rfl, by simp, by rw [mkd_zero]; exact h, grown_refl _ _⟩
  case round =>
    obtain ⟨j, hj, rfl, rfl, hown, hg⟩ := hrel
    by_cases hlt : j < L.length
    · have hA : ∃ g, A = some ⟨g, 0, none⟩ := by
        rcases hown.2 with ⟨h', h0⟩ | ⟨g, cap, cur, hv, _⟩
        · omega
        · simp only [Value.slice.injEq] at hv
          exact ⟨g, hv.1⟩
      obtain ⟨g, rfl⟩ := hA
      have hstep := mkd_step L k hlt
      have f0 := mkd_get L k hlt
      generalize L[j] = p at f0
      have HS : Hid ((ints (mkd L k j)).set j (.int .i64 (k + j)) = ints (mkd L k (j + 1))) := hstep
      clear hstep
      have g0 := (hown.cellAt j (by omega)).trans f0
      have z0 := hown.frozenAt j
      have own5 := (hown.stored j (.int .i64 (k + j))).1
      have hg5 := (hown.stored j (.int .i64 (k + j))).2
      rw [HS.out] at own5
      go_wp2
      go_roundw
      case rel => exact ⟨j + 1, by omega, by go_num, by go_num, own5, hg.trans hg5⟩
      case measure => simp [intOf]; omega
    · obtain rfl : j = L.length := by omega
      rw [mkd_all] at hown
      go_wp2
      go_ret
      exact ⟨⟨rfl, hown⟩, hg⟩
theorem heldIntS_any (A : Option Addr) (c n : Nat) (k : Int) (w : World) (h : Rds w 1 A n (ints (marks k n))) (hn : n ≤ 4194304) (h0 : 0 ≤ k) (h1 : k ≤ 4611686018427387904) :
    Calls Try.prog 37 #[.slice A n c, .int .i64 k] w fun e w' => e = .returned (.int .i64 (k + n)) ∧ Below w.heap.size w w' := by
  go_enter Try.func37, Try.ntmps37
  go_wp2
  go_loop [1, 5] (fun m i => ∃ j : Nat, j ≤ n ∧ i = .int .i64 j ∧ m = .int .i64 (k + j)) (fun _ i => n - (intOf i).toNat)
  case atStart => exact ⟨0, Nat.zero_le _, rfl, by simp⟩
  case round =>
    obtain ⟨j, hj, rfl, rfl⟩ := hrel
    by_cases hlt : j < n
    · have h2 : RdI w A (marks k n) := by unfold RdI; rw [marks_len]; exact h
      obtain ⟨b, off, rfl, hb, x0⟩ := h2.at1 (k := j) (by rw [marks_len]; exact hlt)
      rw [marks_get k hlt] at x0
      go_wp2
      go_round
      case rel => exact ⟨j + 1, by omega, by go_num, by go_num⟩
      case measure => simp [intOf]; omega
    · obtain rfl : j = n := by omega
      go_wp2
      go_ret
      exact ⟨rfl, Below.refl _ _⟩
end Go.Proofs.Yteomiaffdbbpoaa
