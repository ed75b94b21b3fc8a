/-
  Contracts of impl.NearWidth and spec.NearWidth.
-/
import Derived.Test.YtoifknepebplnaaNearLaw
namespace Go.Proofs.Ytoifknepebplnaa
open Go.RowKit
set_option linter.unusedVariables false

def widthI (Ls : List (List Int)) : Int := minW (nearI Ls)
theorem near_b (Ls : List (List Int)) : ∀ s ∈ nearI Ls, 0 ≤ s.1 ∧ s.1 ≤ s.2 ∧ s.2 ≤ 999999999 := fun s hs => by
  have := near_is hs; omega
theorem minW_take_b {S : List (Int × Int)} (hS : ∀ s ∈ S, 0 ≤ s.1 ∧ s.1 ≤ s.2 ∧ s.2 ≤ 999999999) (k : Nat) : -1 ≤ minW (S.take k) ∧ minW (S.take k) ≤ 1000000000 := by
  have h2 : ∀ s ∈ S.take k, s.1 ≤ s.2 := fun s hs => (hS s (List.mem_of_mem_take hs)).2.1
  obtain ⟨h3, h4, h5⟩ := minW_ok h2
  refine ⟨by omega, ?_⟩
  cases hc : S.take k with
  | nil => simp [minW]
  | cons s r =>
    have h6 := h5 s (by rw [hc]; exact List.mem_cons_self ..)
    have h7 := hS s (List.mem_of_mem_take (by rw [hc]; exact List.mem_cons_self .. : s ∈ S.take k))
    rw [hc] at h6
    omega
theorem nearWidth_any (A : Option Addr) (c : Nat) (Ls : List (List Int)) (w : World) (h : RdSS w A Ls) (hn : total Ls ≤ 1048576) :
    Calls Try.prog 42 #[.slice A Ls.length c] w fun e w' => e = .returned (.int .i64 (widthI Ls)) ∧ Below w.heap.size w w' := by
  obtain ⟨S, hS⟩ : ∃ S, S = nearI Ls := ⟨_, rfl⟩
  have hW : Hid (widthI Ls = minW S) := by show _ = _; rw [hS]; rfl
  have hSb : Hid (∀ s ∈ S, 0 ≤ s.1 ∧ s.1 ≤ s.2 ∧ s.2 ≤ 999999999) := by rw [hS]; exact near_b Ls
  have hSl : S.length ≤ 1048576 := by rw [hS]; exact near_len Ls hn
  have cN := nearAll_any A c Ls w h hn
  rw [← hS] at cN
  have CN := Lib.hid cN
  rw [hW.out]
  clear hS cN hW
  go_enter Try.func42, Try.ntmps42
  go_wp2_with fail
  refine CN.out.mono ?_
  rintro e w1 ⟨g, d, ⟨rfl, own⟩, hb1⟩
  go_wp2_with fail
  go_loopw [3, 5, 6, 10] (fun v _ _ iv wr => ∃ k : Nat, k ≤ S.length ∧ iv = .int .i64 k ∧ ∃ y : Int, v = .int .i64 y ∧ -1 ≤ y ∧ y ≤ 1000000000 ∧ Hid (y = minW (S.take k)) ∧ Below w1.heap.size w1 wr) (fun _ _ _ iv _ => S.length - (intOf iv).toNat)
  case atStart => exact ⟨0, Nat.zero_le _, rfl, -1, rfl, by omega, by omega, rfl, Below.refl _ _⟩
  case round =>
    obtain ⟨k, hk, rfl, y, rfl, hy0, hy1, hy, hB⟩ := hrel
    have hBs := hB.size
    by_cases hlt : k < S.length
    · obtain ⟨b, off, e, hb, x0, x1⟩ := ((Rds.own own).below hB).at2 hlt
      simp only [Option.some.injEq, Addr.mk.injEq, and_true] at e
      obtain ⟨rfl, rfl⟩ := e
      rw [Nat.zero_add] at x0 x1
      have hi0 : (k : Int) < (S.length : Int) := by omega
      obtain ⟨hp0, hp1, hp2⟩ := hSb.out S[k] (List.getElem_mem _)
      have ht := minW_take hlt
      have htb := minW_take_b hSb.out (k + 1)
      rw [ht, ← hy.out] at htb
      rw [← hy.out] at ht
      unfold stepW at ht htb
      generalize S[k].1 = p at x0 hp0 hp1 ht htb
      generalize S[k].2 = q at x1 hp1 hp2 ht htb
      by_cases hy2 : y < 0
      · rw [if_pos (.inl hy2)] at ht htb
        have HT : Hid (q - p + 1 = minW (S.take (k + 1))) := ht.symm
        clear ht hy
        go_wp2
        go_roundw
        case rel => exact ⟨k + 1, by omega, by go_num, _, rfl, htb.1, htb.2, HT, hB.trans (by (repeat' (first | exact Below.refl _ _ | apply Below.alloc | apply Below.setCell | apply Below.drew | apply below_draws)) <;> (first | omega | (simp <;> omega)))⟩
        case measure => simp [intOf]; omega
      · by_cases hy3 : q - p + 1 < y
        · rw [if_pos (.inr hy3)] at ht htb
          have HT : Hid (q - p + 1 = minW (S.take (k + 1))) := ht.symm
          clear ht hy
          go_wp2
          go_roundw
          case rel => exact ⟨k + 1, by omega, by go_num, _, rfl, htb.1, htb.2, HT, hB.trans (by (repeat' (first | exact Below.refl _ _ | apply Below.alloc | apply Below.setCell | apply Below.drew | apply below_draws)) <;> (first | omega | (simp <;> omega)))⟩
          case measure => simp [intOf]; omega
        · rw [if_neg (by omega)] at ht htb
          have HT : Hid (y = minW (S.take (k + 1))) := ht.symm
          clear ht hy
          go_wp2
          go_roundw
          case rel => exact ⟨k + 1, by omega, by go_num, _, rfl, htb.1, htb.2, HT, hB.trans (by (repeat' (first | exact Below.refl _ _ | apply Below.alloc | apply Below.setCell | apply Below.drew | apply below_draws)) <;> (first | omega | (simp <;> omega)))⟩
          case measure => simp [intOf]; omega
    · have HT : Hid (y = minW S) := by show _ = _; rw [hy.out, List.take_of_length_le (by omega)]
      clear hy
      go_wp2
      go_ret
      exact ⟨ret_int HT.out, hb1.trans (hB.mono hb1.size)⟩
theorem specNearWidth_any (A : Option Addr) (c : Nat) (Ls : List (List Int)) (w : World) (h : RdSS w A Ls) (hn : total Ls ≤ 1048576) :
    Calls Try.prog 49 #[.slice A Ls.length c] w fun e w' => e = .returned (.int .i64 (widthI Ls)) ∧ Below w.heap.size w w' := by
  obtain ⟨S, hS⟩ : ∃ S, S = nearI Ls := ⟨_, rfl⟩
  have hW : Hid (widthI Ls = minW S) := by show _ = _; rw [hS]; rfl
  have hSb : Hid (∀ s ∈ S, 0 ≤ s.1 ∧ s.1 ≤ s.2 ∧ s.2 ≤ 999999999) := by rw [hS]; exact near_b Ls
  have hSl : S.length ≤ 1048576 := by rw [hS]; exact near_len Ls hn
  have cN := specNearAll_near A c Ls w h hn
  rw [← hS] at cN
  have CN := Lib.hid cN
  rw [hW.out]
  clear hS cN hW
  go_enter Try.func49, Try.ntmps49
  go_wp2_with fail
  refine CN.out.mono ?_
  rintro e w1 ⟨g, d, ⟨rfl, own⟩, hb1⟩
  go_wp2_with fail
  go_loopw [4, 5, 6] (fun v iv _ wr => ∃ k : Nat, k ≤ S.length ∧ iv = .int .i64 k ∧ ∃ y : Int, v = .int .i64 y ∧ -1 ≤ y ∧ y ≤ 1000000000 ∧ Hid (y = minW (S.take k)) ∧ ∃ q, wr = w1.drewN q) (fun _ iv _ _ => S.length - (intOf iv).toNat)
  case atStart => exact ⟨0, Nat.zero_le _, rfl, -1, rfl, by omega, by omega, rfl, 0, rfl⟩
  case round =>
    obtain ⟨k, hk, rfl, y, rfl, hy0, hy1, hy, q0, rfl⟩ := hrel
    by_cases hlt : k < S.length
    · obtain ⟨b, off, rfl, hb, x0, x1⟩ := (Rds.own own).at2 hlt
      have hi0 : (k : Int) < (S.length : Int) := by omega
      obtain ⟨hp0, hp1, hp2⟩ := hSb.out S[k] (List.getElem_mem _)
      have ht := minW_take hlt
      have htb := minW_take_b hSb.out (k + 1)
      rw [ht, ← hy.out] at htb
      rw [← hy.out] at ht
      unfold stepW at ht htb
      generalize S[k].1 = p at x0 hp0 hp1 ht htb
      generalize S[k].2 = q at x1 hp1 hp2 ht htb
      have hw1 : IntKind.i64.wrap (q - p) = q - p := IntWalk.i64_in _ (by omega)
      have hw2 : IntKind.i64.wrap (q - p + 1) = q - p + 1 := IntWalk.i64_in _ (by omega)
      by_cases hy2 : y < 0
      · rw [if_pos (.inl hy2)] at ht htb
        have HT : Hid (q - p + 1 = minW (S.take (k + 1))) := ht.symm
        clear ht hy
        go_wp2_with fail
        go_quiet (fail)
        go_wp2
        go_roundw
        case rel => exact ⟨k + 1, by omega, by go_num, _, rfl, htb.1, htb.2, HT, _, (by first | rfl | exact World.drewN_drewN _ _ _)⟩
        case measure => simp [intOf]; omega
      · by_cases hy3 : q - p + 1 < y
        · rw [if_pos (.inr hy3)] at ht htb
          have HT : Hid (q - p + 1 = minW (S.take (k + 1))) := ht.symm
          clear ht hy
          go_wp2_with fail
          go_quiet (fail)
          go_wp2
          go_roundw
          case rel => exact ⟨k + 1, by omega, by go_num, _, rfl, htb.1, htb.2, HT, _, (by first | rfl | exact World.drewN_drewN _ _ _)⟩
          case measure => simp [intOf]; omega
        · rw [if_neg (by omega)] at ht htb
          have HT : Hid (y = minW (S.take (k + 1))) := ht.symm
          clear ht hy
          go_wp2_with fail
          go_quiet (fail)
          go_wp2
          go_roundw
          case rel => exact ⟨k + 1, by omega, by go_num, _, rfl, htb.1, htb.2, HT, _, (by first | rfl | exact World.drewN_drewN _ _ _)⟩
          case measure => simp [intOf]; omega
    · have HT : Hid (y = minW S) := by show _ = _; rw [hy.out, List.take_of_length_le (by omega)]
      clear hy
      go_wp2
      go_ret
      exact ⟨ret_int HT.out, hb1.trans ((below_of_drewN).mono hb1.size)⟩
end Go.Proofs.Ytoifknepebplnaa
