/-
  BoundAt of both programs: the same number.
-/
import Derived.Test.YtobdkkbackalhaaSl
namespace Go.Proofs.Ytobdkkbackalhaa
open Go.RowKit
set_option linter.unusedVariables false

def mostB : List (Int × Int) → Int → Int
  | [], _ => 0
  | p :: r, id => if id ≤ p.1 then p.2 else mostB r id
def AscP (L : List (Int × Int)) : Prop := ∀ j, (h : j + 1 < L.length) → (L[j]'(by omega)).1 < L[j + 1].1
open Classical in
noncomputable def boundB (L : List (Int × Int)) (id : Int) : Int := if AscP L then mostB L id else -1
theorem boundB_yes {L : List (Int × Int)} {id : Int} (h : AscP L) : boundB L id = mostB L id := by unfold boundB; rw [if_pos h]
theorem boundB_no {L : List (Int × Int)} {id : Int} (h : ¬ AscP L) : boundB L id = -1 := by unfold boundB; rw [if_neg h]
theorem mostB_drop {L : List (Int × Int)} {k : Nat} (h : k < L.length) (id : Int) : mostB (L.drop k) id = if id ≤ L[k].1 then L[k].2 else mostB (L.drop (k + 1)) id := by
  rw [List.drop_eq_getElem_cons h]; rfl

theorem l14Most_any (A : Option Addr) (c : Nat) (L : List (Int × Int)) (id : Int) (w : World) (h : Rds w 2 A L.length (L.flatMap enc2)) (hn : L.length ≤ 1048576) :
    Calls Try.prog 40 #[.slice A L.length c, .int .i64 id] w fun e w' => e = .returned (.int .i64 (mostB L id)) ∧ w = w' := by
  go_enter Try.func40, Try.ntmps40
  go_wp2
  go_loop [5] (fun i => ∃ k : Nat, k ≤ L.length ∧ i = .int .i64 k ∧ Hid (mostB L id = mostB (L.drop k) id)) (fun i => L.length - (intOf i).toNat)
  case atStart => exact ⟨0, Nat.zero_le _, rfl, rfl⟩
  case round =>
    obtain ⟨k, hk, rfl, hm⟩ := hrel
    by_cases hlt : k < L.length
    · obtain ⟨b, off, rfl, hb, x0, x1⟩ := h.at2 hlt
      have hd := mostB_drop hlt id
      generalize L[k].1 = p at x0 hd
      generalize L[k].2 = q at x1 hd
      by_cases hle : id ≤ p
      · rw [if_pos hle] at hd
        have HD := Lib.hid hd
        clear hd
        go_wp2
        go_ret
        exact ⟨ret_int (by rw [hm.out, HD.out]), rfl⟩
      · rw [if_neg hle] at hd
        have HD := Lib.hid hd
        clear hd
        go_wp2
        go_round
        case rel => exact ⟨k + 1, by omega, by go_num, by rw [hm.out]; exact HD.out⟩
        case measure => simp [intOf]; omega
    · have hz : Hid (mostB (L.drop k) id = 0) := by rw [List.drop_of_length_le (by omega)]; exact rfl
      go_wp2
      go_ret
      exact ⟨ret_int (by rw [hm.out, hz.out]), rfl⟩

theorem specBoundAt_any (A : Option Addr) (c : Nat) (L : List (Int × Int)) (id : Int) (w : World) (h : Rds w 2 A L.length (L.flatMap enc2)) (hn : L.length ≤ 1048576) :
    Calls Try.prog 24 #[.slice A L.length c, .int .i64 id] w fun e w' => e = .returned (.int .i64 (boundB L id)) ∧ ∃ q, w' = w.drewN q := by
  go_enter Try.func24, Try.ntmps24
  go_wp2
  go_loopw [5] (fun i wr => ∃ k : Nat, k ≤ L.length ∧ i = .int .i64 k ∧ Hid (∀ j, (h : j + 1 < L.length) → j + 1 < k → (L[j]'(by omega)).1 < L[j + 1].1) ∧ ∃ q, wr = w.drewN q) (fun i _ => L.length - (intOf i).toNat)
  case atStart => exact ⟨0, Nat.zero_le _, rfl, fun j h h2 => by omega, 0, rfl⟩
  case round =>
    obtain ⟨k, hk, rfl, ha, q, rfl⟩ := hrel
    by_cases hlt : k < L.length
    · rcases Nat.eq_zero_or_pos k with rfl | hpos
      · go_wp2
        go_quiet (fail)
        go_wp2
        go_roundw
        case rel => exact ⟨1, by omega, by first | rfl | go_num, fun j h h2 => by omega, _, (by first | rfl | exact World.drewN_drewN _ _ _)⟩
        case measure => simp [intOf]; omega
      · obtain ⟨j, rfl⟩ : ∃ j, k = j + 1 := ⟨k - 1, by omega⟩
        obtain ⟨b, off, rfl, hb, x0, x1⟩ := h.at2 hlt
        obtain ⟨_, y0, y1⟩ := Rds.all2 h (k := j) (by omega)
        obtain ⟨p, hp⟩ : ∃ p, p = (L[j]'(by omega)).1 := ⟨_, rfl⟩
        obtain ⟨p', hp'⟩ : ∃ p', p' = L[j + 1].1 := ⟨_, rfl⟩
        have ha2 : Hid (p < p' → ∀ i, (h : i + 1 < L.length) → i + 1 < j + 2 → (L[i]'(by omega)).1 < L[i + 1].1) := fun h3 i hi h2 => by
          rcases Nat.lt_or_ge (i + 1) (j + 1) with h4 | h4
          · exact ha.out i hi h4
          · obtain rfl : i = j := by omega
            rw [hp, hp'] at h3; exact h3
        have hno : Hid (¬ p < p' → boundB L id = -1) := fun h3 => boundB_no (fun h4 => h3 (by rw [hp, hp']; exact h4 j hlt))
        have e1 : off + (j + 1) * 2 = off + j * 2 + 2 := by omega
        have x0' := x0
        rw [e1] at x0'
        have hi1 : (j : Int) + 1 < (L.length : Int) := by omega
        have hi0 : (j : Int) < (L.length : Int) := by omega
        have t1 : ((j : Int) + 1).toNat = j + 1 := by omega
        rw [← hp] at y0
        rw [← hp'] at x0 x0'
        clear hp hp'
        clear ha x1 y1 e1
        by_cases hle : p' ≤ p
        · go_wp2
          go_quiet (fail)
          go_wp2
          go_ret
          exact ⟨ret_int (by rw [hno.out (by omega)]), _, (by first | rfl | exact World.drewN_drewN _ _ _)⟩
        · go_wp2
          go_quiet (fail)
          go_wp2
          go_roundw
          case rel => exact ⟨j + 2, by omega, by go_num, fun i hi hk => ha2.out (by omega) i hi hk, _, (by first | rfl | exact World.drewN_drewN _ _ _)⟩
          case measure => simp [intOf]; omega
    · have hasc : AscP L := fun j h => ha.out j h (by omega)
      have hy := Lib.hid (boundB_yes (id := id) hasc)
      go_wp2_with fail
      refine (l14Most_any _ _ _ _ _ (h.drawn _) hn).mono ?_
      rintro e w1 ⟨rfl, rfl⟩
      go_wp2
      go_ret
      exact ⟨ret_int (by rw [hy.out]), q, rfl⟩

theorem boundAt_any (A : Option Addr) (c : Nat) (L : List (Int × Int)) (id : Int) (w : World) (h : Rds w 2 A L.length (L.flatMap enc2)) (hn : L.length ≤ 1048576) :
    Calls Try.prog 23 #[.slice A L.length c, .int .i64 id] w fun e w' => e = .returned (.int .i64 (boundB L id)) ∧ Below w.heap.size w w' := by
  go_enter Try.func23, Try.ntmps23
  go_wp2
  go_loopw [5] (fun i wr => ∃ k : Nat, (k ≤ L.length ∨ k = 1) ∧ 1 ≤ k ∧ i = .int .i64 k ∧ Hid (∀ j, (h : j + 1 < L.length) → j + 1 < k → (L[j]'(by omega)).1 < L[j + 1].1) ∧ ∃ q, wr = w.drewN q) (fun i _ => L.length - (intOf i).toNat)
  case atStart => exact ⟨1, by omega, by omega, rfl, fun j h h2 => by omega, 0, rfl⟩
  case round =>
    obtain ⟨k, hk, hk1, rfl, ha, q, rfl⟩ := hrel
    obtain ⟨j, rfl⟩ : ∃ j, k = j + 1 := ⟨k - 1, by omega⟩
    by_cases hlt : j + 1 < L.length
    · obtain ⟨b, off, rfl, hb, x0, x1⟩ := h.at2 hlt
      obtain ⟨_, y0, y1⟩ := Rds.all2 h (k := j) (by omega)
      obtain ⟨p, hp⟩ : ∃ p, p = (L[j]'(by omega)).1 := ⟨_, rfl⟩
      obtain ⟨p', hp'⟩ : ∃ p', p' = L[j + 1].1 := ⟨_, rfl⟩
      have ha2 : Hid (p < p' → ∀ i, (h : i + 1 < L.length) → i + 1 < j + 2 → (L[i]'(by omega)).1 < L[i + 1].1) := fun h3 i hi h2 => by
        rcases Nat.lt_or_ge (i + 1) (j + 1) with h4 | h4
        · exact ha.out i hi h4
        · obtain rfl : i = j := by omega
          rw [hp, hp'] at h3; exact h3
      have hno : Hid (¬ p < p' → boundB L id = -1) := fun h3 => boundB_no (fun h4 => h3 (by rw [hp, hp']; exact h4 j hlt))
      have e1 : off + (j + 1) * 2 = off + j * 2 + 2 := by omega
      have x0' := x0
      rw [e1] at x0'
      have hi1 : (j : Int) + 1 < (L.length : Int) := by omega
      have hi0 : (j : Int) < (L.length : Int) := by omega
      have t1 : ((j : Int) + 1).toNat = j + 1 := by omega
      rw [← hp] at y0
      rw [← hp'] at x0 x0'
      clear hp hp'
      clear ha x1 y1 e1
      by_cases hle : p' ≤ p
      · go_wp2
        go_quiet (fail)
        go_wp2
        go_ret
        exact ⟨ret_int (by rw [hno.out (by omega)]), by (repeat' (first | exact Below.refl _ _ | apply Below.alloc | apply Below.setCell | apply Below.drew | apply below_draws)) <;> (first | omega | (simp <;> omega))⟩
      · go_wp2
        go_quiet (fail)
        go_wp2
        go_roundw
        case rel => exact ⟨j + 2, by omega, by omega, by go_num, fun i hi hk => ha2.out (by omega) i hi hk, _, (by first | rfl | exact World.drewN_drewN _ _ _)⟩
        case measure => simp [intOf]; omega
    · have hasc : AscP L := fun j h => ha.out j h (by omega)
      have hy : Hid (boundB L id = mostB L id) := boundB_yes hasc
      clear ha hasc
      have hB0 : Below w.heap.size w (w.drewN q) := by (repeat' (first | exact Below.refl _ _ | apply Below.alloc | apply Below.setCell | apply Below.drew | apply below_draws)) <;> (first | omega | (simp <;> omega))
      have hR := h.drawn q
      go_wp2
      generalize w.drewN q = w0 at hB0 hR ⊢
      go_loopw [28, 7] (fun i u wr => ∃ k : Nat, k ≤ L.length ∧ i = .int .i64 k ∧ Hid (mostB L id = mostB (L.drop k) id) ∧ Below w.heap.size w wr) (fun i _ _ => L.length - (intOf i).toNat)
      case atStart => exact ⟨0, Nat.zero_le _, rfl, rfl, hB0⟩
      case round =>
        obtain ⟨k, hk, rfl, hm, hB⟩ := hrel
        by_cases hlt : k < L.length
        · obtain ⟨b, off, rfl, hb, x0, x1⟩ := (h.below hB).at2 hlt
          have hd := mostB_drop hlt id
          generalize L[k].1 = p at x0 hd
          generalize L[k].2 = q at x1 hd
          by_cases hle : id ≤ p
          · rw [if_pos hle] at hd
            have HD := Lib.hid hd
            clear hd
            go_wp2
            go_ret
            exact ⟨ret_int (by rw [hy.out, hm.out, HD.out]), hB.alloc hB.size _⟩
          · rw [if_neg hle] at hd
            have HD := Lib.hid hd
            clear hd
            go_wp2
            go_roundw
            case rel => exact ⟨k + 1, by omega, by go_num, by rw [hm.out]; exact HD.out, hB.alloc hB.size _⟩
            case measure => simp [intOf]; omega
        · have hz : Hid (mostB (L.drop k) id = 0) := by rw [List.drop_of_length_le (by omega)]; exact rfl
          go_wp2
          go_ret
          exact ⟨ret_int (by rw [hy.out, hm.out, hz.out]), hB⟩
end Go.Proofs.Ytobdkkbackalhaa
