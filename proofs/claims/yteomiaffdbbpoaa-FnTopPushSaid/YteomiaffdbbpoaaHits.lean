/-
  Contracts on hits: l13Less, hitOrder, cmp.Or.
-/
import Derived.Test.YteomiaffdbbpoaaRecs2
namespace Go.Proofs.Yteomiaffdbbpoaa
open Go.RowKit
set_option linter.unusedVariables false

/-- a hit: the document, the points. a is ahead of b. -/
def lessH (a b : Int × Int) : Bool := decide (b.2 < a.2) || (decide (a.2 = b.2) && decide (a.1 < b.1))
def cmp3 (x y : Int) : Int := if x < y then -1 else if y < x then 1 else 0
def hcmp (a b : Int × Int) : Int := if cmp3 b.2 a.2 ≠ 0 then cmp3 b.2 a.2 else cmp3 a.1 b.1
theorem hcmp_less (a b : Int × Int) : decide (hcmp a b < 0) = lessH a b := by
  unfold hcmp lessH cmp3
  rw [Bool.eq_iff_iff]
  simp only [Bool.or_eq_true, Bool.and_eq_true, decide_eq_true_eq]
  split <;> split at * <;> (try split at *) <;> omega
theorem l13Less_any (a b : Int × Int) (w : World) :
    Calls Try.prog 84 #[.agg #[.int .i64 a.1, .int .i64 a.2], .agg #[.int .i64 b.1, .int .i64 b.2]] w fun e w' => e = .returned (.bool (lessH a b)) ∧ Below w.heap.size w w' := by
  obtain ⟨ad, ap⟩ := a
  obtain ⟨bd, bp⟩ := b
  have HX : Hid (lessH (ad, ap) (bd, bp) = (decide (bp < ap) || (decide (ap = bp) && decide (ad < bd)))) := rfl
  by_cases h1 : bp < ap
  · have h1' : decide (bp < ap) = true := decide_eq_true h1
    go_enter Try.func84, Try.ntmps84
    go_wp2
    go_ret
    exact ⟨ret_bool (by rw [HX.out, h1']; simp), by (repeat' (first | exact Below.refl _ _ | apply Below.alloc | apply Below.setCell | apply Below.drew | apply below_draws)) <;> (first | omega | (simp <;> omega))⟩
  · by_cases h2 : ap = bp
    · subst h2
      by_cases h3 : ad < bd
      · go_enter Try.func84, Try.ntmps84
        go_wp2
        go_ret
        exact ⟨ret_bool (by rw [HX.out]; simp [h3]), by (repeat' (first | exact Below.refl _ _ | apply Below.alloc | apply Below.setCell | apply Below.drew | apply below_draws)) <;> (first | omega | (simp <;> omega))⟩
      · go_enter Try.func84, Try.ntmps84
        go_wp2
        go_ret
        exact ⟨ret_bool (by rw [HX.out]; simp; omega), by (repeat' (first | exact Below.refl _ _ | apply Below.alloc | apply Below.setCell | apply Below.drew | apply below_draws)) <;> (first | omega | (simp <;> omega))⟩
    · have h2' : (ap == bp) = false := beq_eq_false_iff_ne.2 h2
      go_enter Try.func84, Try.ntmps84
      go_wp2
      go_ret
      exact ⟨ret_bool (by rw [HX.out]; simp [h2]; omega), by (repeat' (first | exact Below.refl _ _ | apply Below.alloc | apply Below.setCell | apply Below.drew | apply below_draws)) <;> (first | omega | (simp <;> omega))⟩
def orI : List Int → Int
  | [] => 0
  | x :: r => if x ≠ 0 then x else orI r
theorem orI_drop {L : List Int} {k : Nat} (hk : k < L.length) : orI (L.drop k) = if L[k] ≠ 0 then L[k] else orI (L.drop (k + 1)) := by
  rw [List.drop_eq_getElem_cons hk]; rfl
theorem or_any (A : Option Addr) (c : Nat) (L : List Int) (w : World) (h : RdI w A L) (hn : L.length ≤ 4194304) :
    Calls Try.prog 80 #[.slice A L.length c] w fun e w' => e = .returned (.int .i64 (orI L)) ∧ w = w' := by
  obtain ⟨R, hR⟩ : ∃ R, R = orI L := ⟨_, rfl⟩
  rw [← hR]
  have HR := Lib.hid hR
  clear hR
  go_enter Try.func80, Try.ntmps80
  go_wp2_with fail
  go_loop [5, 8] (fun _ iv => ∃ k : Nat, k ≤ L.length ∧ iv = .int .i64 k ∧ Hid (R = orI (L.drop k))) (fun _ iv => L.length - (intOf iv).toNat)
  case atStart => exact ⟨0, by omega, rfl, HR⟩
  case round =>
    obtain ⟨k, hk, rfl, hm⟩ := hrel
    by_cases hlt : k < L.length
    · obtain ⟨b, off, rfl, hb, x0⟩ := h.at1 hlt
      have hi0 : (k : Int) < (L.length : Int) := by omega
      have hd := orI_drop hlt
      generalize L[k] = p at x0 hd
      by_cases hp : p = 0
      · have HM : Hid (R = orI (L.drop (k + 1))) := by show _ = _; rw [hm.out, hd, if_neg (by simpa using hp)]
        subst hp
        clear hm hd
        go_wp2
        go_round
        case rel => exact ⟨k + 1, by omega, by go_num, HM⟩
        case measure => simp [intOf]; omega
      · have HM : Hid (R = p) := by show _ = _; rw [hm.out, hd, if_pos hp]
        have hp2 : (p != 0) = true := by simpa using hp
        clear hm hd
        go_wp2
        go_ret
        exact ⟨ret_int HM.out.symm, rfl⟩
    · have HM : Hid (R = 0) := by show _ = _; rw [hm.out, List.drop_of_length_le (by omega)]; rfl
      clear hm
      go_wp2
      go_ret
      exact ⟨ret_int HM.out.symm, rfl⟩
end Go.Proofs.Yteomiaffdbbpoaa
