/-
  Contracts of what is asked of texts: wordByte, WordOk, TextOk; l1Fold, l1WordOk, l1Text.
-/
import Derived.Test.YtaobgliimbmemaaGreatDoorQw
import Derived.LoopTactic
namespace Go.Proofs.YtaobgliimbmemaaGreatDoor
open Go.RowKit
set_option linter.unusedVariables false

def wbI (n : Int) : Bool := decide (97 ≤ n ∧ n ≤ 122 ∨ 48 ≤ n ∧ n ≤ 57)
theorem wbI_true {n : Int} : wbI n = true ↔ (97 ≤ n ∧ n ≤ 122 ∨ 48 ≤ n ∧ n ≤ 57) := decide_eq_true_iff
theorem wbI_false {n : Int} : wbI n = false ↔ ¬ (97 ≤ n ∧ n ≤ 122 ∨ 48 ≤ n ∧ n ≤ 57) := decide_eq_false_iff_not
def tbI (n : Int) : Bool := decide (32 ≤ n ∧ n ≤ 126)
def wordB (s : ByteArray) : Bool := s.data.toList.all (fun b => wbI (b.toNat : Int)) && wi (s.size : Int) 1 12
def textB (s : ByteArray) : Bool := s.data.toList.all (fun b => tbI (b.toNat : Int)) && decide (s.size ≤ 160)
theorem take_next (s : ByteArray) (k : Nat) (h : k < s.size) : s.data.toList.take (k + 1) = s.data.toList.take k ++ [s[k]] := by
  rw [List.take_succ_eq_append_getElem (by simpa using h)]; rfl
theorem bytes_len (s : ByteArray) : s.data.toList.length = s.size := by simp
theorem all_next (f : UInt8 → Bool) (s : ByteArray) (k : Nat) (h : k < s.size) : (s.data.toList.take (k + 1)).all f = ((s.data.toList.take k).all f && f s[k]) := by
  rw [take_next s k h, List.all_append]; simp
theorem all_stop (f : UInt8 → Bool) (s : ByteArray) (k : Nat) (h : k < s.size) (hf : f s[k] = false) : s.data.toList.all f = false := by
  rw [← Bool.not_eq_true, List.all_eq_true]
  intro hh
  have hm : s[k] ∈ s.data.toList := List.getElem_mem (l := s.data.toList) (n := k) (by simpa using h)
  rw [hh _ hm] at hf
  cases hf

theorem wordByte_any (n : Int) (h0 : 0 ≤ n) (h1 : n ≤ 255) (w : World) :
    Calls Tryz.prog 50 #[.int .u8 n] w fun e w' => e = .returned (.bool (wbI n)) ∧ w = w' := by
  by_cases a1 : 97 ≤ n
  · by_cases a2 : n ≤ 122
    · go_enter Tryz.func50, Tryz.ntmps50
      go_wp2
      go_ret
      exact ⟨ret_bool (by simp [wbI, a1, a2]), rfl⟩
    · by_cases a4 : n ≤ 57
      · omega
      · go_enter Tryz.func50, Tryz.ntmps50
        go_wp2
        go_ret
        exact ⟨ret_bool (by rw [wbI_false.2 (by omega)]), rfl⟩
  · by_cases a3 : 48 ≤ n
    · by_cases a4 : n ≤ 57
      · go_enter Tryz.func50, Tryz.ntmps50
        go_wp2
        go_ret
        exact ⟨ret_bool (by simp [wbI, a3, a4]), rfl⟩
      · go_enter Tryz.func50, Tryz.ntmps50
        go_wp2
        go_ret
        exact ⟨ret_bool (by rw [wbI_false.2 (by omega)]), rfl⟩
    · go_enter Tryz.func50, Tryz.ntmps50
      go_wp2
      go_ret
      exact ⟨ret_bool (by rw [wbI_false.2 (by omega)]), rfl⟩
theorem wordOk_any (s : ByteArray) (w : World) (hs : s.size ≤ 9223372036854775000) :
    Calls Tryz.prog 36 #[.string s] w fun e w' => e = .returned (.bool (wordB s)) ∧ w = w' := by
  obtain ⟨R, hR⟩ : ∃ R, R = wordB s := ⟨_, rfl⟩
  rw [← hR]
  have HR := Lib.hid hR
  clear hR
  go_enter Tryz.func36, Tryz.ntmps36
  go_wp2_with fail
  go_loop [3, 6] (fun _ iv => ∃ k : Nat, k ≤ s.size ∧ iv = .int .i64 k ∧ Hid ((s.data.toList.take k).all (fun b => wbI (b.toNat : Int)) = true)) (fun _ iv => s.size - (intOf iv).toNat)
  case atStart => exact ⟨0, Nat.zero_le _, rfl, rfl⟩
  case round =>
    obtain ⟨k, hk, rfl, hm⟩ := hrel
    by_cases hlt : k < s.size
    · have hn := all_next (fun b => wbI (b.toNat : Int)) s k hlt
      have hst := all_stop (fun b => wbI (b.toNat : Int)) s k hlt
      have hb := s[k].toNat_lt
      cases hw : wbI (s[k].toNat : Int) with
      | true =>
        have HM : Hid ((s.data.toList.take (k + 1)).all (fun b => wbI (b.toNat : Int)) = true) := by show _ = _; rw [hn, hm.out, hw]; rfl
        clear hn hst hm
        go_wp2_with fail
        refine (wordByte_any (s[k].toNat : Int) (by omega) (by omega) _).mono ?_
        rintro e w1 ⟨rfl, rfl⟩
        rw [hw]
        go_wp2
        go_round
        case rel => exact ⟨k + 1, by omega, by go_num, HM⟩
        case measure => simp [intOf]; omega
      | false =>
        have HN : Hid (R = false) := by show _ = _; rw [HR.out]; unfold wordB; rw [hst hw]; rfl
        clear hn hst hm
        go_wp2_with fail
        refine (wordByte_any (s[k].toNat : Int) (by omega) (by omega) _).mono ?_
        rintro e w1 ⟨rfl, rfl⟩
        rw [hw]
        go_wp2
        go_ret
        exact ⟨ret_bool HN.out.symm, rfl⟩
    · have HM : Hid (R = wi (s.size : Int) 1 12) := by
        show _ = _
        have := hm.out
        rw [List.take_of_length_le (by rw [bytes_len]; omega)] at this
        rw [HR.out]; unfold wordB; rw [this]; rfl
      clear hm
      go_wp2_with fail
      refine (within_any _ _ _ _).mono ?_
      rintro e w1 ⟨rfl, rfl⟩
      go_wp2
      go_ret
      exact ⟨ret_bool HM.out.symm, rfl⟩
def foldI (n : Int) : Int := if 65 ≤ n ∧ n ≤ 90 then n + 32 else if wbI n = true then n else 0
theorem foldI_wb {n : Int} (h : wbI n = true) : foldI n = n := by
  have := wbI_true.1 h
  unfold foldI
  rw [if_neg (by omega), if_pos h]
theorem foldI_no {n : Int} (h : wbI n = false) : foldI n ≠ n ∨ n = 0 := by
  unfold foldI
  split
  · exact .inl (by omega)
  · rw [if_neg (by rw [h]; simp)]; omega
theorem l1Fold_any (n : Int) (h0 : 0 ≤ n) (h1 : n ≤ 255) (w : World) :
    Calls Tryz.prog 55 #[.int .u8 n] w fun e w' => e = .returned (.int .u8 (foldI n)) ∧ w = w' := by
  by_cases b1 : 65 ≤ n
  · by_cases b2 : n ≤ 90
    · have HF : Hid (foldI n = n + 32) := by show _ = _; unfold foldI; rw [if_pos ⟨b1, b2⟩]
      go_enter Tryz.func55, Tryz.ntmps55
      go_wp2
      go_ret
      exact ⟨ret_int (by rw [HF.out]), rfl⟩
    · by_cases a1 : 97 ≤ n
      · by_cases a2 : n ≤ 122
        · have HF : Hid (foldI n = n) := foldI_wb (wbI_true.2 (by omega))
          go_enter Tryz.func55, Tryz.ntmps55
          go_wp2
          go_ret
          exact ⟨ret_int HF.out.symm, rfl⟩
        · have HF : Hid (foldI n = 0) := by show _ = _; unfold foldI; rw [if_neg (by omega), if_neg (by rw [wbI_true]; omega)]
          go_enter Tryz.func55, Tryz.ntmps55
          go_wp2
          go_ret
          exact ⟨ret_int HF.out.symm, rfl⟩
      · have HF : Hid (foldI n = 0) := by show _ = _; unfold foldI; rw [if_neg (by omega), if_neg (by rw [wbI_true]; omega)]
        go_enter Tryz.func55, Tryz.ntmps55
        go_wp2
        go_ret
        exact ⟨ret_int HF.out.symm, rfl⟩
  · by_cases a3 : 48 ≤ n
    · by_cases a4 : n ≤ 57
      · have HF : Hid (foldI n = n) := foldI_wb (wbI_true.2 (by omega))
        go_enter Tryz.func55, Tryz.ntmps55
        go_wp2
        go_ret
        exact ⟨ret_int HF.out.symm, rfl⟩
      · have HF : Hid (foldI n = 0) := by show _ = _; unfold foldI; rw [if_neg (by omega), if_neg (by rw [wbI_true]; omega)]
        go_enter Tryz.func55, Tryz.ntmps55
        go_wp2
        go_ret
        exact ⟨ret_int HF.out.symm, rfl⟩
    · have HF : Hid (foldI n = 0) := by show _ = _; unfold foldI; rw [if_neg (by omega), if_neg (by rw [wbI_true]; omega)]
      go_enter Tryz.func55, Tryz.ntmps55
      go_wp2
      go_ret
      exact ⟨ret_int HF.out.symm, rfl⟩
end Go.Proofs.YtaobgliimbmemaaGreatDoor
