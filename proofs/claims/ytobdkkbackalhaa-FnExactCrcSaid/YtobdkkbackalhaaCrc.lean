/-
  Crc: both programs' checksum is one function of the bytes; and the law FnExactCrc's walk.
-/
import Derived.Test.YtobdkkbackalhaaBase
import Derived.Laws.BitsAllLaws
import Derived.Laws.BitsLemmas
import Derived.LoopTactic
namespace Go.Proofs.Ytobdkkbackalhaa
open Go.RowKit
set_option linter.unusedVariables false

/-- one bit's step; a byte's; a text's. -/
def crcBit (c : Nat) : Nat := if c % 2 = 1 then (c / 2) ^^^ 3988292384 else c / 2
def crcBits : Nat → Nat → Nat
  | 0, c => c
  | k + 1, c => crcBit (crcBits k c)
def crcTo (l : List UInt8) : Nat := l.foldl (fun c b => crcBits 8 (c ^^^ b.toNat)) 4294967295

theorem crcBit_lt {c : Nat} (h : c < 4294967296) : crcBit c < 4294967296 := by
  unfold crcBit
  split
  · exact Nat.xor_lt_two_pow (n := 32) (by omega) (by omega)
  · omega
theorem crcBits_lt {c : Nat} (h : c < 4294967296) : ∀ k, crcBits k c < 4294967296
  | 0 => h
  | k + 1 => crcBit_lt (crcBits_lt h k)
theorem xor_byte_lt {c : Nat} (h : c < 4294967296) (b : UInt8) : c ^^^ b.toNat < 4294967296 :=
  Nat.xor_lt_two_pow (n := 32) h (by have := b.toNat_lt; omega)
theorem crcTo_snoc (l : List UInt8) (b : UInt8) : crcTo (l ++ [b]) = crcBits 8 (crcTo l ^^^ b.toNat) := by simp [crcTo]
theorem take_snoc (s : ByteArray) (k : Nat) (h : k < s.size) : s.data.toList.take (k + 1) = s.data.toList.take k ++ [s[k]] := by
  rw [List.take_succ_eq_append_getElem (by simpa using h)]; rfl
theorem ofInt_i64 (a : Nat) (ha : a < 9223372036854775808) : (BitVec.ofInt 64 (a : Int)).toNat = a := by
  rw [BitVec.ofInt_natCast, BitVec.toNat_ofNat]; exact Nat.mod_eq_of_lt (by omega)
theorem i64_xor_nat (a b : Nat) (ha : a < 9223372036854775808) (hb : b < 9223372036854775808) : bits .xor .i64 (a : Int) (b : Int) = ((a ^^^ b : Nat) : Int) := by
  have hx : a ^^^ b < 2 ^ 63 := Nat.xor_lt_two_pow (by omega) (by omega)
  show IntKind.i64.wrap ((BitVec.ofInt 64 (a : Int) ^^^ BitVec.ofInt 64 (b : Int)).toNat : Int) = _
  rw [BitVec.toNat_xor, ofInt_i64 a ha, ofInt_i64 b hb, IntKind.wrap_i64]
  omega
theorem xorByte_i64 {c : Nat} (h : c < 4294967296) (b : UInt8) : bits .xor .i64 (c : Int) (wrap64 (b.toNat : Int)) = ((c ^^^ b.toNat : Nat) : Int) := by
  have := b.toNat_lt
  rw [show wrap64 (b.toNat : Int) = (b.toNat : Int) from by unfold wrap64; omega]
  exact i64_xor_nat _ _ (by omega) (by omega)
theorem xorByte_u32 {c : Nat} (h : c < 4294967296) (b : UInt8) : bits .xor .u32 (c : Int) ((b.toNat : Int) % 4294967296) = ((c ^^^ b.toNat : Nat) : Int) := by
  have := b.toNat_lt
  rw [show (b.toNat : Int) % 4294967296 = (b.toNat : Int) from by omega]
  exact u32_xor_nat _ _ (by omega) (by omega)

theorem specCrc_any (s : ByteArray) (w : World) (hs : s.size ≤ 1048576) :
    Calls Try.prog 34 #[.string s] w fun e w' => e = .returned (.int .i64 (crcTo s.data.toList ^^^ 4294967295 : Nat)) ∧ w = w' := by
  go_enter Try.func34, Try.ntmps34
  go_wp2
  go_loop [3, 4, 5] (fun c i u => ∃ k n : Nat, k ≤ s.size ∧ i = .int .i64 k ∧ n < 4294967296 ∧ c = .int .i64 n ∧ Hid (n = crcTo (s.data.toList.take k))) (fun _ i _ => s.size - (intOf i).toNat)
  case atStart => exact ⟨0, 4294967295, Nat.zero_le _, rfl, by omega, rfl, Lib.hid rfl⟩
  case round =>
    obtain ⟨k, n, hk, rfl, hn, rfl, hc⟩ := hrel
    by_cases hlt : k < s.size
    · have hx := xorByte_i64 hn s[k]
      have hm := xor_byte_lt hn s[k]
      have hsn := take_snoc s k hlt
      have hT : Hid (crcTo (s.data.toList.take (k + 1)) = crcBits 8 (n ^^^ s[k].toNat)) := by rw [hsn, crcTo_snoc, hc.out]; exact rfl
      clear hsn
      obtain ⟨m, hmm⟩ : ∃ m, m = n ^^^ s[k].toNat := ⟨_, rfl⟩
      rw [← hmm] at hx hm hT
      have HM := Lib.hid hmm
      clear hmm
      go_wp2
      go_loop [3, 5] (fun c u => ∃ j d : Nat, j ≤ 8 ∧ u = .int .i64 j ∧ d < 4294967296 ∧ c = .int .i64 d ∧ Hid (d = crcBits j m)) (fun _ i => 8 - (intOf i).toNat)
      case atStart => exact ⟨0, m, Nat.zero_le _, rfl, hm, rfl, Lib.hid rfl⟩
      case round =>
        obtain ⟨j, d, hj, rfl, hd, rfl, hdc⟩ := hrel
        by_cases hj8 : j < 8
        · have hb := crcBit_lt hd
          by_cases ho : d % 2 = 1
          · have hy := i64_xor_nat (d / 2) 3988292384 (by omega) (by omega)
            have hq : Hid (crcBit d = (d / 2) ^^^ 3988292384) := by unfold crcBit; rw [if_pos ho]; exact rfl
            go_wp2
            go_round
            case rel => exact ⟨j + 1, crcBit d, by omega, by go_num, hb, vint (by rw [hq.out]; exact hy), by rw [hdc.out]; exact rfl⟩
            case measure => simp [intOf]; omega
          · have hq : Hid (crcBit d = d / 2) := by unfold crcBit; rw [if_neg ho]; exact rfl
            go_wp2
            go_round
            case rel => exact ⟨j + 1, crcBit d, by omega, by go_num, hb, vint (by rw [hq.out]; simp), by rw [hdc.out]; exact rfl⟩
            case measure => simp [intOf]; omega
        · obtain rfl : j = 8 := by omega
          go_wp2
          go_round
          case rel => exact ⟨k + 1, d, by omega, by go_num, hd, rfl, by rw [hdc.out, hT.out]; exact rfl⟩
          case measure => simp [intOf]; omega
    · have hy := i64_xor_nat n 4294967295 (by omega) (by omega)
      have hfull : Hid (s.data.toList.take k = s.data.toList) := List.take_of_length_le (by simp; omega)
      go_wp2
      go_ret
      exact ⟨ret_int (by rw [hfull.out] at hc; rw [← hc.out]; exact hy), rfl⟩

theorem implCrc_any (s : ByteArray) (w : World) (hs : s.size ≤ 1048576) :
    Calls Try.prog 16 #[.string s] w fun e w' => e = .returned (.int .i64 (crcTo s.data.toList ^^^ 4294967295 : Nat)) ∧ w = w' := by
  go_enter Try.func16, Try.ntmps16
  go_wp2
  go_loop [3, 4, 7, 16] (fun c i j u => ∃ k n : Nat, k ≤ s.size ∧ j = .int .i64 k ∧ n < 4294967296 ∧ c = .int .u32 n ∧ Hid (n = crcTo (s.data.toList.take k))) (fun _ _ i _ => s.size - (intOf i).toNat)
  case atStart => exact ⟨0, 4294967295, Nat.zero_le _, rfl, by omega, rfl, Lib.hid rfl⟩
  case round =>
    obtain ⟨k, n, hk, rfl, hn, rfl, hc⟩ := hrel
    by_cases hlt : k < s.size
    · have hx := xorByte_u32 hn s[k]
      have hm := xor_byte_lt hn s[k]
      have hsn := take_snoc s k hlt
      have hT : Hid (crcTo (s.data.toList.take (k + 1)) = crcBits 8 (n ^^^ s[k].toNat)) := by rw [hsn, crcTo_snoc, hc.out]; exact rfl
      clear hsn
      obtain ⟨m, hmm⟩ : ∃ m, m = n ^^^ s[k].toNat := ⟨_, rfl⟩
      rw [← hmm] at hx hm hT
      have HM := Lib.hid hmm
      clear hmm
      go_wp2
      go_loop [3, 16] (fun c u => ∃ j d : Nat, j ≤ 8 ∧ u = .int .i64 j ∧ d < 4294967296 ∧ c = .int .u32 d ∧ Hid (d = crcBits j m)) (fun _ i => 8 - (intOf i).toNat)
      case atStart => exact ⟨0, m, Nat.zero_le _, rfl, hm, rfl, Lib.hid rfl⟩
      case round =>
        obtain ⟨j, d, hj, rfl, hd, rfl, hdc⟩ := hrel
        by_cases hj8 : j < 8
        · have hb := crcBit_lt hd
          by_cases ho : d % 2 = 1
          · have ha : bits .and .u32 (d : Int) 1 = 1 := by rw [show (1 : Int) = ((1 : Nat) : Int) from rfl, u32_and_nat _ _ hd (by omega), nat_mask1, ho]
            have hy := u32_xor_nat (d / 2) 3988292384 (by omega) (by omega)
            have hq : Hid (crcBit d = (d / 2) ^^^ 3988292384) := by unfold crcBit; rw [if_pos ho]; exact rfl
            go_wp2
            go_round
            case rel => exact ⟨j + 1, crcBit d, by omega, by go_num, hb, vint (by rw [hq.out]; exact hy), by rw [hdc.out]; exact rfl⟩
            case measure => simp [intOf]; omega
          · have ha : bits .and .u32 (d : Int) 1 = 0 := by rw [show (1 : Int) = ((1 : Nat) : Int) from rfl, u32_and_nat _ _ hd (by omega), nat_mask1]; omega
            have hq : Hid (crcBit d = d / 2) := by unfold crcBit; rw [if_neg ho]; exact rfl
            go_wp2
            go_round
            case rel => exact ⟨j + 1, crcBit d, by omega, by go_num, hb, vint (by rw [hq.out]; simp), by rw [hdc.out]; exact rfl⟩
            case measure => simp [intOf]; omega
        · obtain rfl : j = 8 := by omega
          go_wp2
          go_round
          case rel => exact ⟨k + 1, d, by omega, by go_num, hd, rfl, by rw [hdc.out, hT.out]; exact rfl⟩
          case measure => simp [intOf]; omega
    · have hmx : bits .xor .u32 IntKind.u32.max (n : Int) = ((n ^^^ 4294967295 : Nat) : Int) := by
        rw [show IntKind.u32.max = ((4294967295 : Nat) : Int) from by decide, u32_xor_nat _ _ (by omega) hn, Nat.xor_comm]
      have hlt2 : n ^^^ 4294967295 < 4294967296 := Nat.xor_lt_two_pow (n := 32) hn (by omega)
      have hfull : Hid (s.data.toList.take k = s.data.toList) := List.take_of_length_le (by simp; omega)
      go_wp2
      go_ret
      exact ⟨ret_int (by rw [hfull.out] at hc; rw [← hc.out]; unfold wrap64; omega), rfl⟩

theorem specCrcOf_any (s : ByteArray) (w : World) (hs : s.size ≤ 1048576) :
    Calls Try.prog 15 #[.string s] w fun e w' => e = .returned (.int .i64 (crcTo s.data.toList ^^^ 4294967295 : Nat)) ∧ w = w' := by
  go_enter Try.func15, Try.ntmps15
  go_wp2_with fail
  refine (specCrc_any _ _ hs).mono ?_
  rintro e w1 ⟨rfl, rfl⟩
  go_wp2
  go_ret
  exact ⟨rfl, rfl⟩

theorem walk_FnExactCrc (s : ByteArray) (ws : s.size ≤ maxLen) (w : World) :
    Calls Try.prog 4 #[.string s] w fun e w' => e = .returned (.bool true) ∧ Below w.heap.size w w' := by
  unfold maxLen at ws
  by_cases h : (1048576 : Int) < (s.size : Int)
  · go_enter Try.func4, Try.ntmps4
    go_wp2
    go_ret
    exact ⟨rfl, Below.refl _ _⟩
  · have hs : s.size ≤ 1048576 := by omega
    go_enter Try.func4, Try.ntmps4
    go_wp2_with fail
    refine (specCrcOf_any _ _ hs).mono ?_
    rintro e w1 ⟨rfl, rfl⟩
    go_wp2_with fail
    refine (implCrc_any _ _ hs).mono ?_
    rintro e w1 ⟨rfl, rfl⟩
    go_wp2
    go_ret
    exact ⟨rfl, Below.refl _ _⟩

end Go.Proofs.Ytobdkkbackalhaa
