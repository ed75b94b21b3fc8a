/-
  impl.GlobOk and spec.l5GlobOk: both are globB.
-/
import Derived.Test.YtaobgliimbmemaaGreatDoorTxt
namespace Go.Proofs.YtaobgliimbmemaaGreatDoor
open Go.RowKit Go.Sort
set_option linter.unusedVariables false

def gbI (n : Int) : Bool := wbI n || (decide (n = 42) || decide (n = 63))
def globB (s : ByteArray) : Bool := s.data.toList.all (fun b => gbI (b.toNat : Int)) && wi (s.size : Int) 1 12
theorem ext1 (s : ByteArray) (k : Nat) (h : k < s.size) : (s.extract k (k + 1)).data.toList = [s[k]] := by
  have h1 : (s.extract k (k + 1)).data.toList = (s.data.toList.take (k + 1)).drop k := by
    rw [ByteArray.data_extract, Array.toList_extract, List.extract_eq_take_drop, List.drop_take]
  rw [h1, take_next s k h, List.drop_append_of_le_length (by rw [List.length_take, bytes_len]; omega), List.drop_eq_nil_of_le (by rw [List.length_take]; omega)]
  rfl
theorem wordB_ext1 (s : ByteArray) (k : Nat) (h : k < s.size) : wordB (s.extract k (k + 1)) = wbI (s[k].toNat : Int) := by
  unfold wordB
  have h2 : (s.extract k (k + 1)).size = 1 := by rw [← bytes_len, ext1 s k h]; rfl
  rw [ext1 s k h, h2]
  have : wi ((1 : Nat) : Int) 1 12 = true := by decide
  rw [this]; simp
theorem globOk_any (s : ByteArray) (w : World) (hs : s.size ≤ 9223372036854775000) :
    Calls Tryz.prog 38 #[.string s] w fun e w' => e = .returned (.bool (globB s)) ∧ w = w' := by
  obtain ⟨R, hR⟩ : ∃ R, R = globB s := ⟨_, rfl⟩
  rw [← hR]
  have HR := Lib.hid hR
  clear hR
  go_enter Tryz.func38, Tryz.ntmps38
  go_wp2_with fail
  go_loop [3, 6] (fun _ iv => ∃ k : Nat, k ≤ s.size ∧ iv = .int .i64 k ∧ Hid ((s.data.toList.take k).all (fun b => gbI (b.toNat : Int)) = true)) (fun _ iv => s.size - (intOf iv).toNat)
  case atStart => exact ⟨0, Nat.zero_le _, rfl, rfl⟩
  case round =>
    obtain ⟨k, hk, rfl, hm⟩ := hrel
    by_cases hlt : k < s.size
    · have hn := all_next (fun b => gbI (b.toNat : Int)) s k hlt
      have hst := all_stop (fun b => gbI (b.toNat : Int)) s k hlt
      have hb := s[k].toNat_lt
      cases hw : wbI (s[k].toNat : Int) with
      | true =>
        have HM : Hid ((s.data.toList.take (k + 1)).all (fun b => gbI (b.toNat : Int)) = true) := by show _ = _; rw [hn, hm.out]; unfold gbI; rw [hw]; rfl
        clear hn hst hm
        go_wp2_with fail
        refine (wordByte_any (s[k].toNat : Int) (by omega) (by omega) _).mono ?_
        rintro e w1 ⟨rfl, rfl⟩
        rw [hw]
        go_wp2
        go_round
        case rel => exact ⟨k + 1, by omega, by go_num, HM⟩
        case measure => simp [intOf]; omega
      | false =>
        by_cases h42 : (s[k].toNat : Int) = 42
        · have HM : Hid ((s.data.toList.take (k + 1)).all (fun b => gbI (b.toNat : Int)) = true) := by show _ = _; rw [hn, hm.out]; unfold gbI; rw [h42]; rfl
          have g42 : ((s[k].toNat : Int) != 42) = false := by simp [h42]
          have e42 : ((s[k].toNat : Int) == 42) = true := by simp [h42]
          clear h42
          clear hn hst hm
          go_wp2_with fail
          refine (wordByte_any (s[k].toNat : Int) (by omega) (by omega) _).mono ?_
          rintro e w1 ⟨rfl, rfl⟩
          rw [hw]
          go_wp2
          go_round
          case rel => exact ⟨k + 1, by omega, by go_num, HM⟩
          case measure => simp [intOf]; omega
        · have g42 : ((s[k].toNat : Int) != 42) = true := by simp [h42]
          have e42 : ((s[k].toNat : Int) == 42) = false := by simp [h42]
          by_cases h63 : (s[k].toNat : Int) = 63
          · have HM : Hid ((s.data.toList.take (k + 1)).all (fun b => gbI (b.toNat : Int)) = true) := by show _ = _; rw [hn, hm.out]; unfold gbI; rw [h63]; rfl
            have g63 : ((s[k].toNat : Int) != 63) = false := by simp [h63]
            have e63 : ((s[k].toNat : Int) == 63) = true := by simp [h63]
            clear h63
            clear hn hst hm
            go_wp2_with fail
            refine (wordByte_any (s[k].toNat : Int) (by omega) (by omega) _).mono ?_
            rintro e w1 ⟨rfl, rfl⟩
            rw [hw]
            go_wp2
            go_round
            case rel => exact ⟨k + 1, by omega, by go_num, HM⟩
            case measure => simp [intOf]; omega
          · have g63 : ((s[k].toNat : Int) != 63) = true := by simp [h63]
            have e63 : ((s[k].toNat : Int) == 63) = false := by simp [h63]
            have HN : Hid (R = false) := by show _ = _; rw [HR.out]; unfold globB; rw [hst (by unfold gbI; rw [hw, decide_eq_false h42, decide_eq_false h63]; rfl)]; rfl
            clear hn hst hm
            go_wp2_with fail
            refine (wordByte_any (s[k].toNat : Int) (by omega) (by omega) _).mono ?_
            rintro e w1 ⟨rfl, rfl⟩
            rw [hw]
            go_wp2
            go_ret
            exact ⟨ret_bool HN.out.symm, rfl⟩
    · have HM : Hid (R = wi (s.size : Int) 1 12) := by
        show _ = _
        have := hm.out
        rw [List.take_of_length_le (by rw [bytes_len]; omega)] at this
        rw [HR.out]; unfold globB; rw [this]; rfl
      clear hm
      go_wp2_with fail
      refine (within_any _ _ _ _).mono ?_
      rintro e w1 ⟨rfl, rfl⟩
      go_wp2
      go_ret
      exact ⟨ret_bool HM.out.symm, rfl⟩
theorem l5GlobOk_any (s : ByteArray) (w : World) (hs : s.size ≤ 9223372036854775000) :
    Calls Tryz.prog 59 #[.string s] w fun e w' => e = .returned (.bool (globB s)) ∧ Below w.heap.size w w' := by
  obtain ⟨R, hR⟩ : ∃ R, R = globB s := ⟨_, rfl⟩
  rw [← hR]
  have HR := Lib.hid hR
  clear hR
  go_enter Tryz.func59, Tryz.ntmps59
  go_wp2_with fail
  go_loopw [3] (fun iv wr => ∃ k : Nat, k ≤ s.size ∧ iv = .int .i64 k ∧ Hid ((s.data.toList.take k).all (fun b => gbI (b.toNat : Int)) = true) ∧ Below w.heap.size w wr) (fun iv _ => s.size - (intOf iv).toNat)
  case atStart => exact ⟨0, Nat.zero_le _, rfl, rfl, Below.refl _ _⟩
  case round =>
    obtain ⟨k, hk, rfl, hm, hB⟩ := hrel
    by_cases hlt : k < s.size
    · have hn := all_next (fun b => gbI (b.toNat : Int)) s k hlt
      have hst := all_stop (fun b => gbI (b.toNat : Int)) s k hlt
      have hb := s[k].toNat_lt
      have hi0 : (k : Int) < (s.size : Int) := by omega
      by_cases h42 : (s[k].toNat : Int) = 42
      · have HM : Hid ((s.data.toList.take (k + 1)).all (fun b => gbI (b.toNat : Int)) = true) := by show _ = _; rw [hn, hm.out]; unfold gbI; rw [h42]; rfl
        clear hn hst hm
        go_wp2
        go_roundw
        case rel => exact ⟨k + 1, by omega, by go_num, HM, hB⟩
        case measure => simp [intOf]; omega
      · have g42 : ((s[k].toNat : Int) != 42) = true := by simp [h42]
        have e42 : ((s[k].toNat : Int) == 42) = false := by simp [h42]
        by_cases h63 : (s[k].toNat : Int) = 63
        · have HM : Hid ((s.data.toList.take (k + 1)).all (fun b => gbI (b.toNat : Int)) = true) := by show _ = _; rw [hn, hm.out]; unfold gbI; rw [h63]; rfl
          clear hn hst hm
          go_wp2
          go_roundw
          case rel => exact ⟨k + 1, by omega, by go_num, HM, hB⟩
          case measure => simp [intOf]; omega
        · have g63 : ((s[k].toNat : Int) != 63) = true := by simp [h63]
          have e63 : ((s[k].toNat : Int) == 63) = false := by simp [h63]
          have hx := Lib.hid (wordB_ext1 s k hlt)
          have hxs : (s.extract k (k + 1)).size ≤ 9223372036854775000 := by
            have := congrArg List.length (ext1 s k hlt)
            rw [bytes_len] at this
            rw [this]; simp
          have hwm : IntKind.i64.wrap ((k : Int) + 1) = ((k + 1 : Nat) : Int) := by rw [IntKind.wrap_i64] <;> omega
          cases hw : wbI (s[k].toNat : Int) with
          | true =>
            have HM : Hid ((s.data.toList.take (k + 1)).all (fun b => gbI (b.toNat : Int)) = true) := by show _ = _; rw [hn, hm.out]; unfold gbI; rw [hw]; rfl
            clear hn hst hm
            go_wp2_with fail
            refine (l1WordOk_any (s.extract k (k + 1)) _ hxs).mono ?_
            rintro e w1 ⟨rfl, hb1⟩
            rw [hx.out, hw]
            have hB1 := hB.trans (hb1.mono hB.size)
            go_wp2
            go_roundw
            case rel => exact ⟨k + 1, by omega, by go_num, HM, hB1⟩
            case measure => simp [intOf]; omega
          | false =>
            have HN : Hid (R = false) := by show _ = _; rw [HR.out]; unfold globB; rw [hst (by unfold gbI; rw [hw, decide_eq_false h42, decide_eq_false h63]; rfl)]; rfl
            clear hn hst hm
            go_wp2_with fail
            refine (l1WordOk_any (s.extract k (k + 1)) _ hxs).mono ?_
            rintro e w1 ⟨rfl, hb1⟩
            rw [hx.out, hw]
            have hB1 := hB.trans (hb1.mono hB.size)
            go_wp2
            go_ret
            exact ⟨ret_bool HN.out.symm, hB1⟩
    · have HM : Hid (R = wi (s.size : Int) 1 12) := by
        show _ = _
        have := hm.out
        rw [List.take_of_length_le (by rw [bytes_len]; omega)] at this
        rw [HR.out]; unfold globB; rw [this]; rfl
      clear hm
      go_wp2_with fail
      refine (l1In_any _ _ _ _).mono ?_
      rintro e w1 ⟨rfl, rfl⟩
      go_wp2
      go_ret
      exact ⟨ret_bool HM.out.symm, hB⟩
end Go.Proofs.YtaobgliimbmemaaGreatDoor
