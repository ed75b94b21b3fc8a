/-
  Contracts of SetAnd and SetLess and of what they call.
-/
import Derived.Test.YtoifknepebplnaaOwn
namespace Go.Proofs.Ytoifknepebplnaa
open Go.RowKit
set_option linter.unusedVariables false

def outB (M : List Int) (x : Int) : Bool := !inB M x
def andL (L M : List Int) : List Int := if upB L && upB M then L.filter (inB M) else []
def lessL (L M : List Int) : List Int := if upB L && upB M then L.filter (outB M) else []
theorem len_andL (L M : List Int) (h : L.length ≤ 1048576) (h' : M.length ≤ 1048576) : (andL L M).length ≤ 4194304 := by
  unfold andL; split
  · have := List.length_filter_le (inB M) L; omega
  · simp
theorem len_lessL (L M : List Int) (h : L.length ≤ 1048576) (h' : M.length ≤ 1048576) : (lessL L M).length ≤ 4194304 := by
  unfold lessL; split
  · have := List.length_filter_le (outB M) L; omega
  · simp

theorem setAnd_any (A A' : Option Addr) (c c' : Nat) (L M : List Int) (w : World) (h : RdI w A L) (h' : RdI w A' M) (hn : L.length ≤ 1048576) (hn' : M.length ≤ 1048576) :
    Calls Try.prog 24 #[.slice A L.length c, .slice A' M.length c'] w (Makes w (andL L M)) := by
  obtain ⟨i0, hi, hz0, hz1, hz2⟩ := info_parts infoInt
  by_cases hu : (upB L && upB M) = true
  · have HX : Hid (andL L M = L.filter (inB M)) := by show andL L M = _; unfold andL; rw [if_pos hu]
    rw [Bool.and_eq_true] at hu
    obtain ⟨hu1, hu2⟩ := hu
    go_enter Try.func24, Try.ntmps24
    go_wp2_with fail
    refine (upOk_any A c L _ (h.below (by (repeat' (first | exact Below.refl _ _ | apply Below.alloc | apply Below.setCell | apply Below.drew | apply below_draws)) <;> (first | omega | (simp <;> omega)))) (by omega)).mono ?_
    rintro e w1 ⟨rfl, q, rfl⟩
    rw [hu1]
    go_wp2_with fail
    refine (upOk_any A' c' M _ (h'.below (by (repeat' (first | exact Below.refl _ _ | apply Below.alloc | apply Below.setCell | apply Below.drew | apply below_draws)) <;> (first | omega | (simp <;> omega)))) (by omega)).mono ?_
    rintro e w1 ⟨rfl, q', rfl⟩
    rw [hu2]
    go_wp2

    go_loopw [5, 7, 20] (fun v _ i wr => ∃ k : Nat, k ≤ L.length ∧ i = .int .i64 k ∧ OwnI wr w.heap.size v ((L.take k).filter (inB M)) ∧ Below w.heap.size w wr) (fun v _ i _ => L.length - (intOf i).toNat)
    case atStart => exact ⟨0, Nat.zero_le _, rfl, own_drawn (ownI_made w _ (Nat.le_refl _)), by (repeat' (first | exact Below.refl _ _ | apply Below.alloc | apply Below.setCell | apply Below.drew | apply below_draws)) <;> (first | omega | (simp <;> omega))⟩
    case round =>
      obtain ⟨k, hk, rfl, hown, hB⟩ := hrel
      obtain ⟨D, d, rfl⟩ := own_form hown
      by_cases hlt : k < L.length
      · obtain ⟨b, off, rfl, hb, x0⟩ := (h.below hB).at1 hlt
        have hyes := filter_yes (p := (inB M)) hlt
        have hno := filter_no (p := (inB M)) hlt
        have hfl := filter_len L (inB M) k
        generalize L[k] = p at x0 hyes hno
        cases hin : inB M p with
        | true =>
          have hpp : (inB M) p = true := by simp [hin]
          go_wp2_with (first | (go_at_call 56; refine (contains_any A' c' M p _ (h'.below hB) (by omega)).mono ?_; rintro e w1 ⟨rfl, rfl⟩; rw [hin]) | (at_builtin; refine wpList_append_own _ rfl _ _ 22 rfl w.heap.size 3 i0 (.int .i64 0) 1 8 Try.underlying22 hi hz0 hz1 hz2 rfl (by decide) _ _ _ rfl (hown.alloc _) ⟨wr.heap.size, 0, none⟩ 1 1 [.int .i64 p] rfl rfl ?c1 ?c2 ?c3 ?c4 ?c5 ?_))
          case c1 => intro j u hu; rcases j with _ | j <;> simp at hu <;> subst hu <;> simp [Addr.add]
          case c2 => intro u hu; simp at hu; subst hu; rfl
          case c3 => unfold maxLen; omega
          case c4 => omega
          case c5 => simp; have := hB.size; omega
          intro v' w6 own6 hg6 _
          have hB6 : Below w.heap.size w w6 := hB.trans ((Below.alloc (Below.refl _ _) hB.size _).trans (below_append (hown.alloc _) hg6 (Nat.le_refl _) (by simp; have := hB.size; omega)))
          have own6' : OwnI w6 w.heap.size v' ((L.take (k + 1)).filter (inB M)) := by
            rw [hyes hpp]; unfold OwnI; rw [List.length_append, ints_append]; exact own6
          go_wp2
          go_roundw
          case rel => exact ⟨k + 1, by omega, by go_num, own6', hB6⟩
          case measure => simp [intOf]; omega
        | false =>
          have hpp : (inB M) p = false := by simp [hin]
          go_wp2_with (go_at_call 56; refine (contains_any A' c' M p _ (h'.below hB) (by omega)).mono ?_; rintro e w1 ⟨rfl, rfl⟩; rw [hin])
          go_roundw
          case rel => exact ⟨k + 1, by omega, by go_num, (by rw [hno hpp]; exact hown), hB⟩
          case measure => simp [intOf]; omega

      · obtain rfl : k = L.length := by omega
        rw [List.take_length] at hown
        go_wp2
        go_ret
        exact ⟨D, d, ⟨by rw [HX.out]; (simp only [List.take_length]) <;> rfl, by rw [HX.out]; exact hown⟩, hB⟩
  · have HX : Hid (andL L M = []) := by show andL L M = _; unfold andL; rw [if_neg hu]
    cases hu1 : upB L with
    | false =>
      go_enter Try.func24, Try.ntmps24
      go_wp2_with (go_at_call 27; refine (upOk_any A c L _ (h.below (by (repeat' (first | exact Below.refl _ _ | apply Below.alloc | apply Below.setCell | apply Below.drew | apply below_draws)) <;> (first | omega | (simp <;> omega)))) (by omega)).mono ?_; rintro e w1 ⟨rfl, q, rfl⟩; rw [hu1])
      go_ret
      exact ⟨_, _, ⟨by rw [HX.out]; rfl, by rw [HX.out]; exact own_drawn (ownI_made w _ (Nat.le_refl _))⟩, by (repeat' (first | exact Below.refl _ _ | apply Below.alloc | apply Below.setCell | apply Below.drew | apply below_draws)) <;> (first | omega | (simp <;> omega))⟩
    | true =>
      have hu2 : upB M = false := by rw [hu1] at hu; simpa using hu
      go_enter Try.func24, Try.ntmps24
      go_wp2_with fail
      refine (upOk_any A c L _ (h.below (by (repeat' (first | exact Below.refl _ _ | apply Below.alloc | apply Below.setCell | apply Below.drew | apply below_draws)) <;> (first | omega | (simp <;> omega)))) (by omega)).mono ?_
      rintro e w1 ⟨rfl, q, rfl⟩
      rw [hu1]
      go_wp2_with fail
      refine (upOk_any A' c' M _ (h'.below (by (repeat' (first | exact Below.refl _ _ | apply Below.alloc | apply Below.setCell | apply Below.drew | apply below_draws)) <;> (first | omega | (simp <;> omega)))) (by omega)).mono ?_
      rintro e w1 ⟨rfl, q', rfl⟩
      rw [hu2]
      go_wp2
      go_ret
      exact ⟨_, _, ⟨by rw [HX.out]; rfl, by rw [HX.out]; exact own_drawn (ownI_made w _ (Nat.le_refl _))⟩, by (repeat' (first | exact Below.refl _ _ | apply Below.alloc | apply Below.setCell | apply Below.drew | apply below_draws)) <;> (first | omega | (simp <;> omega))⟩

theorem l8And_any (A A' : Option Addr) (c c' : Nat) (L M : List Int) (w : World) (h : RdI w A L) (h' : RdI w A' M) (hn : L.length ≤ 1048576) (hn' : M.length ≤ 1048576) :
    Calls Try.prog 59 #[.slice A L.length c, .slice A' M.length c'] w (Makes w (L.filter (inB M))) := by
  obtain ⟨i0, hi, hz0, hz1, hz2⟩ := info_parts infoInt
  go_enter Try.func59, Try.ntmps59
  go_wp2

  go_loopw [5, 6] (fun v i wr => ∃ k : Nat, k ≤ L.length ∧ i = .int .i64 k ∧ OwnI wr w.heap.size v ((L.take k).filter (inB M)) ∧ Below w.heap.size w wr) (fun v i _ => L.length - (intOf i).toNat)
  case atStart => exact ⟨0, Nat.zero_le _, rfl, ownI_made w _ (Nat.le_refl _), by (repeat' (first | exact Below.refl _ _ | apply Below.alloc | apply Below.setCell | apply Below.drew | apply below_draws)) <;> (first | omega | (simp <;> omega))⟩
  case round =>
    obtain ⟨k, hk, rfl, hown, hB⟩ := hrel
    obtain ⟨D, d, rfl⟩ := own_form hown
    by_cases hlt : k < L.length
    · obtain ⟨b, off, rfl, hb, x0⟩ := (h.below hB).at1 hlt
      have hyes := filter_yes (p := (inB M)) hlt
      have hno := filter_no (p := (inB M)) hlt
      have hfl := filter_len L (inB M) k
      generalize L[k] = p at x0 hyes hno
      cases hin : inB M p with
      | true =>
        have hpp : (inB M) p = true := by simp [hin]
        go_wp2_with (first | (go_at_call 71; refine (l8Has_any A' c' M p _ (h'.below hB) (by omega)).mono ?_; rintro e w1 ⟨rfl, rfl⟩; rw [hin]) | (at_builtin; refine wpList_append_own _ rfl _ _ 22 rfl w.heap.size 3 i0 (.int .i64 0) 1 8 Try.underlying22 hi hz0 hz1 hz2 rfl (by decide) _ _ _ rfl (hown.alloc _) ⟨wr.heap.size, 0, none⟩ 1 1 [.int .i64 p] rfl rfl ?c1 ?c2 ?c3 ?c4 ?c5 ?_))
        case c1 => intro j u hu; rcases j with _ | j <;> simp at hu <;> subst hu <;> simp [Addr.add]
        case c2 => intro u hu; simp at hu; subst hu; rfl
        case c3 => unfold maxLen; omega
        case c4 => omega
        case c5 => simp; have := hB.size; omega
        intro v' w6 own6 hg6 _
        have hB6 : Below w.heap.size w w6 := hB.trans ((Below.alloc (Below.refl _ _) hB.size _).trans (below_append (hown.alloc _) hg6 (Nat.le_refl _) (by simp; have := hB.size; omega)))
        have own6' : OwnI w6 w.heap.size v' ((L.take (k + 1)).filter (inB M)) := by
          rw [hyes hpp]; unfold OwnI; rw [List.length_append, ints_append]; exact own6
        go_wp2
        go_roundw
        case rel => exact ⟨k + 1, by omega, by go_num, own6', hB6⟩
        case measure => simp [intOf]; omega
      | false =>
        have hpp : (inB M) p = false := by simp [hin]
        go_wp2_with (go_at_call 71; refine (l8Has_any A' c' M p _ (h'.below hB) (by omega)).mono ?_; rintro e w1 ⟨rfl, rfl⟩; rw [hin])
        go_roundw
        case rel => exact ⟨k + 1, by omega, by go_num, (by rw [hno hpp]; exact hown), hB⟩
        case measure => simp [intOf]; omega

    · obtain rfl : k = L.length := by omega
      rw [List.take_length] at hown
      go_wp2
      go_ret
      exact ⟨D, d, ⟨by (simp only [List.take_length]) <;> rfl, hown⟩, hB⟩
theorem specSetAnd_any (A A' : Option Addr) (c c' : Nat) (L M : List Int) (w : World) (h : RdI w A L) (h' : RdI w A' M) (hn : L.length ≤ 1048576) (hn' : M.length ≤ 1048576) :
    Calls Try.prog 26 #[.slice A L.length c, .slice A' M.length c'] w (Makes w (andL L M)) := by
  cases hu1 : upB L with
  | false =>
    have HX : Hid (andL L M = []) := by show andL L M = _; unfold andL; rw [hu1]; rfl
    go_enter Try.func26, Try.ntmps26
    go_wp2_with (go_at_call 54; refine (l3Up_any A c L _ h (by omega)).mono ?_; rintro e w1 ⟨rfl, q, rfl⟩; rw [hu1])
    go_ret
    exact ⟨_, _, ⟨by rw [HX.out]; rfl, by rw [HX.out]; exact ownI_nil _ _⟩, by (repeat' (first | exact Below.refl _ _ | apply Below.alloc | apply Below.setCell | apply Below.drew | apply below_draws)) <;> (first | omega | (simp <;> omega))⟩
  | true =>
    cases hu2 : upB M with
    | false =>
      have HX : Hid (andL L M = []) := by show andL L M = _; unfold andL; rw [hu1, hu2]; rfl
      go_enter Try.func26, Try.ntmps26
      go_wp2_with fail
      refine (l3Up_any A c L _ h (by omega)).mono ?_
      rintro e w1 ⟨rfl, q, rfl⟩
      rw [hu1]
      go_wp2_with fail
      refine (l3Up_any A' c' M _ (h'.below (by (repeat' (first | exact Below.refl _ _ | apply Below.alloc | apply Below.setCell | apply Below.drew | apply below_draws)) <;> (first | omega | (simp <;> omega)))) (by omega)).mono ?_
      rintro e w1 ⟨rfl, q', rfl⟩
      rw [hu2]
      go_wp2
      go_ret
      exact ⟨_, _, ⟨by rw [HX.out]; rfl, by rw [HX.out]; exact ownI_nil _ _⟩, by (repeat' (first | exact Below.refl _ _ | apply Below.alloc | apply Below.setCell | apply Below.drew | apply below_draws)) <;> (first | omega | (simp <;> omega))⟩
    | true =>
      have HX : Hid (andL L M = L.filter (inB M)) := by show andL L M = _; unfold andL; rw [hu1, hu2]; rfl
      go_enter Try.func26, Try.ntmps26
      go_wp2_with fail
      refine (l3Up_any A c L _ h (by omega)).mono ?_
      rintro e w1 ⟨rfl, q, rfl⟩
      rw [hu1]
      go_wp2_with fail
      refine (l3Up_any A' c' M _ (h'.below (by (repeat' (first | exact Below.refl _ _ | apply Below.alloc | apply Below.setCell | apply Below.drew | apply below_draws)) <;> (first | omega | (simp <;> omega)))) (by omega)).mono ?_
      rintro e w1 ⟨rfl, q', rfl⟩
      rw [hu2]
      go_wp2_with fail
      refine (l8And_any A A' c c' L M _ (h.below (by (repeat' (first | exact Below.refl _ _ | apply Below.alloc | apply Below.setCell | apply Below.drew | apply below_draws)) <;> (first | omega | (simp <;> omega)))) (h'.below (by (repeat' (first | exact Below.refl _ _ | apply Below.alloc | apply Below.setCell | apply Below.drew | apply below_draws)) <;> (first | omega | (simp <;> omega)))) hn hn').mono ?_
      rintro e w1 ⟨D, d, ⟨rfl, hown⟩, hB⟩
      go_wp2
      go_ret
      rw [← HX.out] at hown ⊢
      exact ⟨D, d, ⟨rfl, own_mono hown (by simp)⟩, Below.trans (by (repeat' (first | exact Below.refl _ _ | apply Below.alloc | apply Below.setCell | apply Below.drew | apply below_draws)) <;> (first | omega | (simp <;> omega))) (hB.mono (by simp))⟩

theorem setLess_any (A A' : Option Addr) (c c' : Nat) (L M : List Int) (w : World) (h : RdI w A L) (h' : RdI w A' M) (hn : L.length ≤ 1048576) (hn' : M.length ≤ 1048576) :
    Calls Try.prog 19 #[.slice A L.length c, .slice A' M.length c'] w (Makes w (lessL L M)) := by
  obtain ⟨i0, hi, hz0, hz1, hz2⟩ := info_parts infoInt
  by_cases hu : (upB L && upB M) = true
  · have HX : Hid (lessL L M = L.filter (outB M)) := by show lessL L M = _; unfold lessL; rw [if_pos hu]
    rw [Bool.and_eq_true] at hu
    obtain ⟨hu1, hu2⟩ := hu
    go_enter Try.func19, Try.ntmps19
    go_wp2_with fail
    refine (upOk_any A c L _ (h.below (by (repeat' (first | exact Below.refl _ _ | apply Below.alloc | apply Below.setCell | apply Below.drew | apply below_draws)) <;> (first | omega | (simp <;> omega)))) (by omega)).mono ?_
    rintro e w1 ⟨rfl, q, rfl⟩
    rw [hu1]
    go_wp2_with fail
    refine (upOk_any A' c' M _ (h'.below (by (repeat' (first | exact Below.refl _ _ | apply Below.alloc | apply Below.setCell | apply Below.drew | apply below_draws)) <;> (first | omega | (simp <;> omega)))) (by omega)).mono ?_
    rintro e w1 ⟨rfl, q', rfl⟩
    rw [hu2]
    go_wp2

    go_loopw [5, 7, 20] (fun v _ i wr => ∃ k : Nat, k ≤ L.length ∧ i = .int .i64 k ∧ OwnI wr w.heap.size v ((L.take k).filter (outB M)) ∧ Below w.heap.size w wr) (fun v _ i _ => L.length - (intOf i).toNat)
    case atStart => exact ⟨0, Nat.zero_le _, rfl, own_drawn (ownI_made w _ (Nat.le_refl _)), by (repeat' (first | exact Below.refl _ _ | apply Below.alloc | apply Below.setCell | apply Below.drew | apply below_draws)) <;> (first | omega | (simp <;> omega))⟩
    case round =>
      obtain ⟨k, hk, rfl, hown, hB⟩ := hrel
      obtain ⟨D, d, rfl⟩ := own_form hown
      by_cases hlt : k < L.length
      · obtain ⟨b, off, rfl, hb, x0⟩ := (h.below hB).at1 hlt
        have hyes := filter_yes (p := (outB M)) hlt
        have hno := filter_no (p := (outB M)) hlt
        have hfl := filter_len L (outB M) k
        generalize L[k] = p at x0 hyes hno
        cases hin : inB M p with
        | false =>
          have hpp : (outB M) p = true := by simp [outB, hin]
          go_wp2_with (first | (go_at_call 56; refine (contains_any A' c' M p _ (h'.below hB) (by omega)).mono ?_; rintro e w1 ⟨rfl, rfl⟩; rw [hin]) | (at_builtin; refine wpList_append_own _ rfl _ _ 22 rfl w.heap.size 3 i0 (.int .i64 0) 1 8 Try.underlying22 hi hz0 hz1 hz2 rfl (by decide) _ _ _ rfl (hown.alloc _) ⟨wr.heap.size, 0, none⟩ 1 1 [.int .i64 p] rfl rfl ?c1 ?c2 ?c3 ?c4 ?c5 ?_))
          case c1 => intro j u hu; rcases j with _ | j <;> simp at hu <;> subst hu <;> simp [Addr.add]
          case c2 => intro u hu; simp at hu; subst hu; rfl
          case c3 => unfold maxLen; omega
          case c4 => omega
          case c5 => simp; have := hB.size; omega
          intro v' w6 own6 hg6 _
          have hB6 : Below w.heap.size w w6 := hB.trans ((Below.alloc (Below.refl _ _) hB.size _).trans (below_append (hown.alloc _) hg6 (Nat.le_refl _) (by simp; have := hB.size; omega)))
          have own6' : OwnI w6 w.heap.size v' ((L.take (k + 1)).filter (outB M)) := by
            rw [hyes hpp]; unfold OwnI; rw [List.length_append, ints_append]; exact own6
          go_wp2
          go_roundw
          case rel => exact ⟨k + 1, by omega, by go_num, own6', hB6⟩
          case measure => simp [intOf]; omega
        | true =>
          have hpp : (outB M) p = false := by simp [outB, hin]
          go_wp2_with (go_at_call 56; refine (contains_any A' c' M p _ (h'.below hB) (by omega)).mono ?_; rintro e w1 ⟨rfl, rfl⟩; rw [hin])
          go_roundw
          case rel => exact ⟨k + 1, by omega, by go_num, (by rw [hno hpp]; exact hown), hB⟩
          case measure => simp [intOf]; omega

      · obtain rfl : k = L.length := by omega
        rw [List.take_length] at hown
        go_wp2
        go_ret
        exact ⟨D, d, ⟨by rw [HX.out]; (simp only [List.take_length]) <;> rfl, by rw [HX.out]; exact hown⟩, hB⟩
  · have HX : Hid (lessL L M = []) := by show lessL L M = _; unfold lessL; rw [if_neg hu]
    cases hu1 : upB L with
    | false =>
      go_enter Try.func19, Try.ntmps19
      go_wp2_with (go_at_call 27; refine (upOk_any A c L _ (h.below (by (repeat' (first | exact Below.refl _ _ | apply Below.alloc | apply Below.setCell | apply Below.drew | apply below_draws)) <;> (first | omega | (simp <;> omega)))) (by omega)).mono ?_; rintro e w1 ⟨rfl, q, rfl⟩; rw [hu1])
      go_ret
      exact ⟨_, _, ⟨by rw [HX.out]; rfl, by rw [HX.out]; exact own_drawn (ownI_made w _ (Nat.le_refl _))⟩, by (repeat' (first | exact Below.refl _ _ | apply Below.alloc | apply Below.setCell | apply Below.drew | apply below_draws)) <;> (first | omega | (simp <;> omega))⟩
    | true =>
      have hu2 : upB M = false := by rw [hu1] at hu; simpa using hu
      go_enter Try.func19, Try.ntmps19
      go_wp2_with fail
      refine (upOk_any A c L _ (h.below (by (repeat' (first | exact Below.refl _ _ | apply Below.alloc | apply Below.setCell | apply Below.drew | apply below_draws)) <;> (first | omega | (simp <;> omega)))) (by omega)).mono ?_
      rintro e w1 ⟨rfl, q, rfl⟩
      rw [hu1]
      go_wp2_with fail
      refine (upOk_any A' c' M _ (h'.below (by (repeat' (first | exact Below.refl _ _ | apply Below.alloc | apply Below.setCell | apply Below.drew | apply below_draws)) <;> (first | omega | (simp <;> omega)))) (by omega)).mono ?_
      rintro e w1 ⟨rfl, q', rfl⟩
      rw [hu2]
      go_wp2
      go_ret
      exact ⟨_, _, ⟨by rw [HX.out]; rfl, by rw [HX.out]; exact own_drawn (ownI_made w _ (Nat.le_refl _))⟩, by (repeat' (first | exact Below.refl _ _ | apply Below.alloc | apply Below.setCell | apply Below.drew | apply below_draws)) <;> (first | omega | (simp <;> omega))⟩

theorem l8Less_any (A A' : Option Addr) (c c' : Nat) (L M : List Int) (w : World) (h : RdI w A L) (h' : RdI w A' M) (hn : L.length ≤ 1048576) (hn' : M.length ≤ 1048576) :
    Calls Try.prog 55 #[.slice A L.length c, .slice A' M.length c'] w (Makes w (L.filter (outB M))) := by
  obtain ⟨i0, hi, hz0, hz1, hz2⟩ := info_parts infoInt
  go_enter Try.func55, Try.ntmps55
  go_wp2

  go_loopw [5, 6] (fun v i wr => ∃ k : Nat, k ≤ L.length ∧ i = .int .i64 k ∧ OwnI wr w.heap.size v ((L.take k).filter (outB M)) ∧ Below w.heap.size w wr) (fun v i _ => L.length - (intOf i).toNat)
  case atStart => exact ⟨0, Nat.zero_le _, rfl, ownI_made w _ (Nat.le_refl _), by (repeat' (first | exact Below.refl _ _ | apply Below.alloc | apply Below.setCell | apply Below.drew | apply below_draws)) <;> (first | omega | (simp <;> omega))⟩
  case round =>
    obtain ⟨k, hk, rfl, hown, hB⟩ := hrel
    obtain ⟨D, d, rfl⟩ := own_form hown
    by_cases hlt : k < L.length
    · obtain ⟨b, off, rfl, hb, x0⟩ := (h.below hB).at1 hlt
      have hyes := filter_yes (p := (outB M)) hlt
      have hno := filter_no (p := (outB M)) hlt
      have hfl := filter_len L (outB M) k
      generalize L[k] = p at x0 hyes hno
      cases hin : inB M p with
      | false =>
        have hpp : (outB M) p = true := by simp [outB, hin]
        go_wp2_with (first | (go_at_call 71; refine (l8Has_any A' c' M p _ (h'.below hB) (by omega)).mono ?_; rintro e w1 ⟨rfl, rfl⟩; rw [hin]) | (at_builtin; refine wpList_append_own _ rfl _ _ 22 rfl w.heap.size 3 i0 (.int .i64 0) 1 8 Try.underlying22 hi hz0 hz1 hz2 rfl (by decide) _ _ _ rfl (hown.alloc _) ⟨wr.heap.size, 0, none⟩ 1 1 [.int .i64 p] rfl rfl ?c1 ?c2 ?c3 ?c4 ?c5 ?_))
        case c1 => intro j u hu; rcases j with _ | j <;> simp at hu <;> subst hu <;> simp [Addr.add]
        case c2 => intro u hu; simp at hu; subst hu; rfl
        case c3 => unfold maxLen; omega
        case c4 => omega
        case c5 => simp; have := hB.size; omega
        intro v' w6 own6 hg6 _
        have hB6 : Below w.heap.size w w6 := hB.trans ((Below.alloc (Below.refl _ _) hB.size _).trans (below_append (hown.alloc _) hg6 (Nat.le_refl _) (by simp; have := hB.size; omega)))
        have own6' : OwnI w6 w.heap.size v' ((L.take (k + 1)).filter (outB M)) := by
          rw [hyes hpp]; unfold OwnI; rw [List.length_append, ints_append]; exact own6
        go_wp2
        go_roundw
        case rel => exact ⟨k + 1, by omega, by go_num, own6', hB6⟩
        case measure => simp [intOf]; omega
      | true =>
        have hpp : (outB M) p = false := by simp [outB, hin]
        go_wp2_with (go_at_call 71; refine (l8Has_any A' c' M p _ (h'.below hB) (by omega)).mono ?_; rintro e w1 ⟨rfl, rfl⟩; rw [hin])
        go_roundw
        case rel => exact ⟨k + 1, by omega, by go_num, (by rw [hno hpp]; exact hown), hB⟩
        case measure => simp [intOf]; omega

    · obtain rfl : k = L.length := by omega
      rw [List.take_length] at hown
      go_wp2
      go_ret
      exact ⟨D, d, ⟨by (simp only [List.take_length]) <;> rfl, hown⟩, hB⟩
theorem specSetLess_any (A A' : Option Addr) (c c' : Nat) (L M : List Int) (w : World) (h : RdI w A L) (h' : RdI w A' M) (hn : L.length ≤ 1048576) (hn' : M.length ≤ 1048576) :
    Calls Try.prog 17 #[.slice A L.length c, .slice A' M.length c'] w (Makes w (lessL L M)) := by
  cases hu1 : upB L with
  | false =>
    have HX : Hid (lessL L M = []) := by show lessL L M = _; unfold lessL; rw [hu1]; rfl
    go_enter Try.func17, Try.ntmps17
    go_wp2_with (go_at_call 54; refine (l3Up_any A c L _ h (by omega)).mono ?_; rintro e w1 ⟨rfl, q, rfl⟩; rw [hu1])
    go_ret
    exact ⟨_, _, ⟨by rw [HX.out]; rfl, by rw [HX.out]; exact ownI_nil _ _⟩, by (repeat' (first | exact Below.refl _ _ | apply Below.alloc | apply Below.setCell | apply Below.drew | apply below_draws)) <;> (first | omega | (simp <;> omega))⟩
  | true =>
    cases hu2 : upB M with
    | false =>
      have HX : Hid (lessL L M = []) := by show lessL L M = _; unfold lessL; rw [hu1, hu2]; rfl
      go_enter Try.func17, Try.ntmps17
      go_wp2_with fail
      refine (l3Up_any A c L _ h (by omega)).mono ?_
      rintro e w1 ⟨rfl, q, rfl⟩
      rw [hu1]
      go_wp2_with fail
      refine (l3Up_any A' c' M _ (h'.below (by (repeat' (first | exact Below.refl _ _ | apply Below.alloc | apply Below.setCell | apply Below.drew | apply below_draws)) <;> (first | omega | (simp <;> omega)))) (by omega)).mono ?_
      rintro e w1 ⟨rfl, q', rfl⟩
      rw [hu2]
      go_wp2
      go_ret
      exact ⟨_, _, ⟨by rw [HX.out]; rfl, by rw [HX.out]; exact ownI_nil _ _⟩, by (repeat' (first | exact Below.refl _ _ | apply Below.alloc | apply Below.setCell | apply Below.drew | apply below_draws)) <;> (first | omega | (simp <;> omega))⟩
    | true =>
      have HX : Hid (lessL L M = L.filter (outB M)) := by show lessL L M = _; unfold lessL; rw [hu1, hu2]; rfl
      go_enter Try.func17, Try.ntmps17
      go_wp2_with fail
      refine (l3Up_any A c L _ h (by omega)).mono ?_
      rintro e w1 ⟨rfl, q, rfl⟩
      rw [hu1]
      go_wp2_with fail
      refine (l3Up_any A' c' M _ (h'.below (by (repeat' (first | exact Below.refl _ _ | apply Below.alloc | apply Below.setCell | apply Below.drew | apply below_draws)) <;> (first | omega | (simp <;> omega)))) (by omega)).mono ?_
      rintro e w1 ⟨rfl, q', rfl⟩
      rw [hu2]
      go_wp2_with fail
      refine (l8Less_any A A' c c' L M _ (h.below (by (repeat' (first | exact Below.refl _ _ | apply Below.alloc | apply Below.setCell | apply Below.drew | apply below_draws)) <;> (first | omega | (simp <;> omega)))) (h'.below (by (repeat' (first | exact Below.refl _ _ | apply Below.alloc | apply Below.setCell | apply Below.drew | apply below_draws)) <;> (first | omega | (simp <;> omega)))) hn hn').mono ?_
      rintro e w1 ⟨D, d, ⟨rfl, hown⟩, hB⟩
      go_wp2
      go_ret
      rw [← HX.out] at hown ⊢
      exact ⟨D, d, ⟨rfl, own_mono hown (by simp)⟩, Below.trans (by (repeat' (first | exact Below.refl _ _ | apply Below.alloc | apply Below.setCell | apply Below.drew | apply below_draws)) <;> (first | omega | (simp <;> omega))) (hB.mono (by simp))⟩

end Go.Proofs.Ytoifknepebplnaa
