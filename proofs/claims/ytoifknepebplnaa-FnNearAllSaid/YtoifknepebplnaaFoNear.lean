/-
  Contracts of foAll, foSpans; plain laws of widths.
-/
import Derived.Test.YtoifknepebplnaaNearWidth
import Derived.Test.YtoifknepebplnaaDrawPl
import Derived.Laws.StructEq
namespace Go.Proofs.Ytoifknepebplnaa
open Go.RowKit
set_option linter.unusedVariables false

theorem foAll_any (A : Option Addr) (c : Nat) (Ls : List (List Int)) (a b : Int) (w : World) (h : RdSS w A Ls) (hn : total Ls ≤ 1048576) :
    Calls Try.prog 47 #[.slice A Ls.length c, .int .i64 a, .int .i64 b] w fun e w' => e = .returned (.bool (all9 Ls a b)) ∧ w = w' := by
  have hl : Ls.length ≤ 1048576 := by unfold total at hn; omega
  obtain ⟨R, hR⟩ : ∃ R, R = all9 Ls a b := ⟨_, rfl⟩
  rw [← hR]
  have HR := Lib.hid hR
  clear hR
  go_enter Try.func47, Try.ntmps47
  go_wp2
  go_loop [7, 8, 9] (fun kv _ _ => ∃ k : Nat, k ≤ Ls.length ∧ kv = .int .i64 k ∧ Hid (R = all9 (Ls.drop k) a b)) (fun kv _ _ => Ls.length - (intOf kv).toNat)
  case atStart => exact ⟨0, Nat.zero_le _, rfl, HR⟩
  case round =>
    obtain ⟨k, hk, rfl, hm⟩ := hrel
    by_cases hlt : k < Ls.length
    · obtain ⟨bb, off, B, d, rfl, hb, hc, hs⟩ := h k hlt
      have hki : (k : Int) < (Ls.length : Int) := by omega
      have hLk : Ls[k].length ≤ 1048576 := by have := total_mem (List.getElem_mem hlt); omega
      have hd := all9_drop hlt a b
      generalize Ls[k] = L at hc hs hLk hd
      have HD := Lib.hid hd
      clear hd
      go_wp2_with fail
      go_loop [8, 9] (fun ov iv => ∃ i : Nat, i ≤ L.length ∧ iv = .int .i64 i ∧ ∃ o : Bool, ov = .bool o ∧ Hid (o = any9 (L.take i) a b)) (fun _ iv => L.length - (intOf iv).toNat)
      case atStart => exact ⟨0, Nat.zero_le _, rfl, false, rfl, rfl⟩
      case round =>
        obtain ⟨i, hi, rfl, o, rfl, ho⟩ := hrel
        by_cases hli : i < L.length
        · obtain ⟨b2, off2, rfl, hb2, x0⟩ := hs.1.at1 hli
          have hi0 : (i : Int) < (L.length : Int) := by omega
          have ht := any9_take hli a b
          generalize L[i] = p at x0 ht
          cases o with
          | true =>
            have HO : Hid (true = any9 (L.take (i + 1)) a b) := by show _ = _; rw [ht, ← ho.out, Bool.true_or]
            clear ht ho
            go_wp2
            go_round
            case rel => exact ⟨i + 1, by omega, by go_num, true, rfl, HO⟩
            case measure => simp [intOf]; omega
          | false =>
            by_cases h1 : a ≤ p
            · by_cases h2 : p ≤ b
              · have HO : Hid (true = any9 (L.take (i + 1)) a b) := by show _ = _; rw [ht, ← ho.out, wi_true.2 ⟨h1, h2⟩]; rfl
                clear ht ho
                go_wp2
                go_round
                case rel => exact ⟨i + 1, by omega, by go_num, true, rfl, HO⟩
                case measure => simp [intOf]; omega
              · have HO : Hid (false = any9 (L.take (i + 1)) a b) := by show _ = _; rw [ht, ← ho.out, wi_false.2 (fun h => h2 h.2)]; rfl
                clear ht ho
                go_wp2
                go_round
                case rel => exact ⟨i + 1, by omega, by go_num, false, rfl, HO⟩
                case measure => simp [intOf]; omega
            · have HO : Hid (false = any9 (L.take (i + 1)) a b) := by show _ = _; rw [ht, ← ho.out, wi_false.2 (fun h => h1 h.1)]; rfl
              clear ht ho
              go_wp2
              go_round
              case rel => exact ⟨i + 1, by omega, by go_num, false, rfl, HO⟩
              case measure => simp [intOf]; omega
        · have ho2 : Hid (o = any9 L a b) := by show _ = _; rw [ho.out, List.take_of_length_le (by omega)]
          clear ho
          cases o with
          | true =>
            have HM : Hid (R = all9 (Ls.drop (k + 1)) a b) := by show _ = _; rw [hm.out, HD.out, ← ho2.out, Bool.true_and]
            clear hm HD ho2
            go_wp2
            go_round
            case rel => exact ⟨k + 1, by omega, by go_num, HM⟩
            case measure => simp [intOf]; omega
          | false =>
            have HM : Hid (R = false) := by show _ = _; rw [hm.out, HD.out, ← ho2.out, Bool.false_and]
            clear hm HD ho2
            go_wp2
            go_ret
            exact ⟨ret_bool HM.out.symm, rfl⟩
    · have HM : Hid (R = true) := by show _ = _; rw [hm.out, List.drop_of_length_le (by omega)]; rfl
      clear hm
      go_wp2
      go_ret
      exact ⟨ret_bool HM.out.symm, rfl⟩
theorem foSpans_same (A A' : Option Addr) (c c' : Nat) (L : List (Int × Int)) (w : World) (h : Rds w 2 A L.length (L.flatMap enc2)) (h' : Rds w 2 A' L.length (L.flatMap enc2)) (hn : L.length ≤ 4194304) :
    Calls Try.prog 45 #[.slice A L.length c, .slice A' L.length c'] w fun e w' => e = .returned (.bool true) ∧ ∃ q, w' = w.drewN q := by
  go_enter Try.func45, Try.ntmps45
  go_wp2
  go_loopw [5] (fun i wr => ∃ k : Nat, k ≤ L.length ∧ i = .int .i64 k ∧ ∃ q, wr = w.drewN q) (fun i _ => L.length - (intOf i).toNat)
  case atStart => exact ⟨0, Nat.zero_le _, rfl, 0, rfl⟩
  case round =>
    obtain ⟨k, hk, rfl, q, rfl⟩ := hrel
    by_cases hlt : k < L.length
    · obtain ⟨b, off, rfl, hb, x0, x1⟩ := h.at2 hlt
      obtain ⟨b', off', rfl, hb', x0', x1'⟩ := h'.at2 hlt
      have hi0 : (k : Int) < (L.length : Int) := by omega
      generalize L[k].1 = p at x0 x0'
      generalize L[k].2 = q2 at x1 x1'
      go_wp2_with fail
      go_quiet (fail)
      go_wp2
      go_roundw
      case rel => exact ⟨k + 1, by omega, by go_num, _, (by first | rfl | exact World.drewN_drewN _ _ _)⟩
      case measure => simp [intOf]; omega
    · go_wp2
      go_ret
      exact ⟨rfl, q, rfl⟩
theorem fr_all {Ls : List (List Int)} {p B : Int} (h : fr Ls p B = true) : ∀ L ∈ Ls, ∃ x ∈ L, p < x ∧ x ≤ B := by
  induction Ls generalizing p with
  | nil => intro L hL; simp at hL
  | cons M r ih =>
    obtain ⟨x, hx, h1, h2⟩ := fr_cons.1 h
    have h3 := fr_low h2
    intro L hL
    rcases List.mem_cons.1 hL with rfl | hL
    · exact ⟨x, hx, h1, by omega⟩
    · obtain ⟨y, hy, h4, h5⟩ := ih h2 L hL
      exact ⟨y, hy, by omega, h5⟩
theorem phr_all {Ls : List (List Int)} {slop p : Int} (h : p ∈ phrI Ls slop) : placesB Ls = true ∧ all9 Ls p (p + Ls.length - 1 + slop) = true := by
  unfold phrI at h
  split at h
  · rename_i hb
    rw [Bool.and_eq_true] at hb
    obtain ⟨hb1, hb2⟩ := hb
    have h5 := wi_true.1 hb2
    obtain ⟨h1, h2, h3⟩ := places_up hb1
    refine ⟨hb1, all9_iff.2 fun L hL => ?_⟩
    rw [List.mem_filter, ← isS_isP (srt_of hb1)] at h
    obtain ⟨P, r, rfl⟩ : ∃ P r, Ls = P :: r := by
      cases Ls with
      | nil => simp at h2
      | cons P r => exact ⟨P, r, rfl⟩
    rcases List.mem_cons.1 hL with rfl | hL
    · exact ⟨p, by simpa using h.1, Int.le_refl _, by rw [List.length_cons]; omega⟩
    · have h6 := h.2
      unfold isS at h6
      rw [List.drop_one, List.tail_cons] at h6
      obtain ⟨x, hx, h7, h8⟩ := fr_all h6 L hL
      exact ⟨x, hx, by omega, h8⟩
  · simp at h
theorem width_phr {Ls : List (List Int)} {slop : Int} (h : phrI Ls slop ≠ []) : 1 ≤ widthI Ls ∧ widthI Ls ≤ Ls.length + slop := by
  obtain ⟨p, hp⟩ := List.exists_mem_of_ne_nil _ h
  obtain ⟨hb, ha⟩ := phr_all hp
  obtain ⟨s, hs, h1, h2⟩ := near_min hb ha
  have hm := minW_ok (S := nearI Ls) (fun s hs => (near_b Ls s hs).2.1)
  have h3 := hm.2.2 s hs
  have h4 : minW (nearI Ls) ≠ -1 := fun e => by rw [hm.2.1 e] at hs; simp at hs
  unfold widthI
  refine ⟨by rcases hm.1 with e | e; exact absurd e h4; exact e, by omega⟩
def fullB (Ls : List (List Int)) : Bool := Ls.all fun L => decide (0 < L.length)
theorem fullB_take {Ls : List (List Int)} {k : Nat} (hk : k < Ls.length) : fullB (Ls.take (k + 1)) = (fullB (Ls.take k) && decide (0 < Ls[k].length)) := by
  unfold fullB; rw [← List.take_append_getElem hk, List.all_append]; simp
theorem width_full {Ls : List (List Int)} (hp : placesB Ls = true) : decide (0 < widthI Ls) = fullB Ls := by
  have hm := minW_ok (S := nearI Ls) (fun s hs => (near_b Ls s hs).2.1)
  rw [Bool.eq_iff_iff, decide_eq_true_eq]
  unfold fullB
  rw [List.all_eq_true]
  constructor
  · intro h L hL
    rw [decide_eq_true_eq]
    have hne : nearI Ls ≠ [] := fun e => by unfold widthI at h; rw [e] at h; simp [minW] at h
    obtain ⟨s, hs⟩ := List.exists_mem_of_ne_nil _ hne
    obtain ⟨x, hx, _⟩ := all9_iff.1 (near_is hs).1 L hL
    exact List.length_pos_of_mem hx
  · intro h
    have ha : all9 Ls 0 999999999 = true := all9_iff.2 fun L hL => by
      have := h L hL
      rw [decide_eq_true_eq] at this
      have hb := up_b ((places_up hp).1 L hL)
      exact ⟨L[0], List.getElem_mem this, hb _ (List.getElem_mem this)⟩
    obtain ⟨s, hs, _⟩ := near_min hp ha
    have h4 : minW (nearI Ls) ≠ -1 := fun e => by rw [hm.2.1 e] at hs; simp at hs
    unfold widthI
    rcases hm.1 with e | e
    · exact absurd e h4
    · omega
theorem width_not {Ls : List (List Int)} {k : Nat} (hk : k < Ls.length) (h : upB Ls[k] = false) : widthI Ls = -1 := by
  have : allUp Ls = false := by
    unfold allUp
    rw [← Bool.not_eq_true, List.all_eq_true]
    intro hh
    have := hh _ (List.getElem_mem hk)
    rw [h] at this; cases this
  unfold widthI nearI placesB listsB
  rw [this]; simp [minW]
theorem foInts_same (A A' : Option Addr) (c c' : Nat) (L : List Int) (w : World) (h : RdI w A L) (h' : RdI w A' L) (hn : L.length ≤ 4194304) :
    Calls Try.prog 25 #[.slice A L.length c, .slice A' L.length c'] w fun e w' => e = .returned (.bool true) ∧ Below w.heap.size w w' := by
  refine (foInts_any A A' c c' L L w h h' (by omega) (by omega)).mono ?_
  rintro e w' ⟨rfl, q, rfl⟩
  exact ⟨ret_bool (by simp), below_of_drewN⟩
theorem total_le {Ls : List (List Int)} (n : Nat) (h : ∀ L ∈ Ls, L.length ≤ n) : total Ls ≤ Ls.length * (n + 1) := by
  unfold total
  induction Ls with
  | nil => simp
  | cons L r ih =>
    have h1 := h L (List.mem_cons_self ..)
    have h2 := ih (fun M hM => h M (List.mem_cons_of_mem _ hM))
    rw [List.map_cons, List.sum_cons, List.length_cons, Nat.add_mul r.length]
    omega
end Go.Proofs.Ytoifknepebplnaa
