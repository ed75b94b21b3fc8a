/-
  Words without endings: contracts of l2Ends, l2Once, l2Stem, StemOf.
-/
import Derived.Test.YtaobgliimbmemaaDoorStrs
import Derived.Test.YtaobgliimbmemaaDoorShelf
import Derived.Lib.Strings
namespace Go.Proofs.YtaobgliimbmemaaDoor
open Go.RowKit
set_option linter.unusedVariables false

theorem bytes_ext {a b : ByteArray} (h : a.toList = b.toList) : a = b := by
  rw [Lib.toList_data, Lib.toList_data] at h
  obtain ⟨⟨a⟩⟩ := a
  obtain ⟨⟨b⟩⟩ := b
  simp only at h
  subst h
  rfl
theorem bytes_eq (a b : ByteArray) : (a.toList == b.toList) = decide (a = b) := by
  by_cases h : a = b
  · subst h; simp
  · rw [decide_eq_false h, beq_eq_false_iff_ne]; exact fun e => h (bytes_ext e)
/-- the text of a value. -/
def bsOf : Value → ByteArray
  | .string s => s
  | _ => ByteArray.empty
def bitOf : Value → Nat
  | .bool true => 1
  | _ => 0
def ends : List ByteArray := [⟨#[105, 110, 103]⟩, ⟨#[101, 100]⟩, ⟨#[101, 115]⟩, ⟨#[108, 121]⟩, ⟨#[115]⟩]
def endsIn (s e : ByteArray) : Bool := decide (e.size + 3 ≤ s.size) && Lib.hasSuffix s.data.toList e.data.toList
def cutL : List ByteArray → ByteArray → ByteArray
  | [], s => s
  | e :: r, s => if endsIn s e = true then s.extract 0 (s.size - e.size) else cutL r s
/-- a word without one ending. -/
def once (s : ByteArray) : ByteArray := cutL ends s
theorem ends_len : ∀ e ∈ ends, 1 ≤ e.size ∧ e.size ≤ 3 := by decide
theorem cutL_lt : ∀ (E : List ByteArray) (s : ByteArray), (∀ e ∈ E, 1 ≤ e.size) → cutL E s = s ∨ (cutL E s).size < s.size
  | [], s, _ => .inl rfl
  | e :: r, s, h => by
    unfold cutL
    split
    · rename_i hc
      unfold endsIn at hc
      rw [Bool.and_eq_true, decide_eq_true_eq] at hc
      have := h e (by simp)
      exact .inr (by rw [ByteArray.size_extract]; omega)
    · exact cutL_lt r s (fun x hx => h x (List.mem_cons_of_mem _ hx))
theorem once_lt {s : ByteArray} (h : once s ≠ s) : (once s).size < s.size := (cutL_lt ends s fun e he => (ends_len e he).1).resolve_left h
def stemF : Nat → ByteArray → ByteArray
  | 0, s => s
  | n + 1, s => if once s = s then s else stemF n (once s)
/-- a word without endings. -/
def stemB (s : ByteArray) : ByteArray := stemF s.size s
theorem stemF_zero (m : Nat) {s : ByteArray} (h : s.size = 0) : stemF m s = s := by
  cases m with
  | zero => rfl
  | succ m =>
    unfold stemF
    split
    · rfl
    · rename_i hc; have := once_lt hc; omega
theorem stemF_eq : ∀ (n m : Nat) (s : ByteArray), s.size ≤ n → s.size ≤ m → stemF n s = stemF m s
  | 0, m, s, h1, h2 => by rw [stemF_zero m (by omega)]; rfl
  | n + 1, 0, s, h1, h2 => by rw [stemF_zero (n + 1) (by omega)]; rfl
  | n + 1, m + 1, s, h1, h2 => by
    unfold stemF
    split
    · rfl
    · rename_i hc; have := once_lt hc; exact stemF_eq n m _ (by omega) (by omega)
theorem stemB_fix {s : ByteArray} (h : once s = s) : stemB s = s := by
  unfold stemB
  cases s.size with
  | zero => rfl
  | succ n => unfold stemF; rw [if_pos h]
theorem stemB_step {s : ByteArray} (h : once s ≠ s) : stemB s = stemB (once s) := by
  have hl := once_lt h
  obtain ⟨n, hn⟩ : ∃ n, s.size = n + 1 := ⟨s.size - 1, by omega⟩
  have e : stemB s = stemF (n + 1) s := by unfold stemB; rw [hn]
  rw [e]
  show (if once s = s then s else stemF n (once s)) = _
  rw [if_neg h]
  exact stemF_eq _ _ _ (by omega) (Nat.le_refl _)
theorem ends_drop {k : Nat} (hk : k < 5) : ends.drop k = (ends.getD k ByteArray.empty) :: ends.drop (k + 1) := by
  rcases k with _ | _ | _ | _ | _ | k
  all_goals first | rfl | omega
theorem ends_at {k : Nat} (hk : k < 5) : 1 ≤ (ends.getD k ByteArray.empty).size ∧ (ends.getD k ByteArray.empty).size ≤ 3 := by
  rcases k with _ | _ | _ | _ | _ | k
  all_goals first | decide | omega
theorem cut_yes {k : Nat} (hk : k < 5) {s : ByteArray} (h : endsIn s (ends.getD k ByteArray.empty) = true) : cutL (ends.drop k) s = s.extract 0 (s.size - (ends.getD k ByteArray.empty).size) := by
  rw [ends_drop hk]; show (if _ then _ else _) = _; rw [if_pos h]
theorem cut_no {k : Nat} (hk : k < 5) {s : ByteArray} (h : endsIn s (ends.getD k ByteArray.empty) = false) : cutL (ends.drop k) s = cutL (ends.drop (k + 1)) s := by
  rw [ends_drop hk]; show (if _ then _ else _) = _; rw [if_neg (by rw [h]; simp)]
theorem endsIn_raw {s e : ByteArray} (h : e.size + 3 ≤ s.size) : endsIn s e = ((s.extract (s.size - e.size) s.size).toList == e.toList) := by
  unfold endsIn
  rw [decide_eq_true h, ← Lib.hasSuffix_raw, decide_eq_true (by omega)]
  rfl
theorem endsIn_short {s e : ByteArray} (h : ¬ e.size + 3 ≤ s.size) : endsIn s e = false := by
  unfold endsIn; rw [decide_eq_false h]; rfl
def endsC : Array Value := #[.string ⟨#[105, 110, 103]⟩, .string ⟨#[101, 100]⟩, .string ⟨#[101, 115]⟩, .string ⟨#[108, 121]⟩, .string ⟨#[115]⟩]
theorem l2Ends_any (w : World) :
    Calls Tryd.prog 142 #[] w fun e w' => e = .returned (.slice (some ⟨w.heap.size, 0, none⟩) 5 5) ∧ (∀ k, k < 5 → w'.cell? ⟨w.heap.size, k, none⟩ = some (.string (ends.getD k ByteArray.empty))) ∧ Below w.heap.size w w' := by
  go_enter Tryd.func142, Tryd.ntmps142
  go_wp2
  go_ret
  refine ⟨rfl, fun k hk => ?_, by (repeat' (first | exact Below.refl _ _ | apply Below.alloc | apply Below.setCell | apply Below.drew | apply below_draws)) <;> (first | omega | (simp <;> omega))⟩
  rcases k with _ | _ | _ | _ | _ | k
  all_goals first | omega | (simp [go_sem]; rfl)
set_option maxHeartbeats 1600000 in
theorem l2Once_any (s : ByteArray) (w : World) (hs : s.size ≤ 4611686018427387904) :
    Calls Tryd.prog 114 #[.string s] w fun e w' => e = .returned (.string (once s)) ∧ Below w.heap.size w w' := by
  obtain ⟨R, hR⟩ : ∃ R, R = once s := ⟨_, rfl⟩
  rw [← hR]
  have HR : Hid (R = cutL (ends.drop 0) s) := hR
  clear hR
  go_enter Tryd.func114, Tryd.ntmps114
  go_wp2_with fail
  go_loopw [3, 4, 5] (fun iv _ _ wr => ∃ k : Nat, k ≤ 5 ∧ iv = .int .i64 k ∧ Hid (R = cutL (ends.drop k) s) ∧ Below w.heap.size w wr) (fun iv _ _ _ => 5 - (intOf iv).toNat)
  case atStart => exact ⟨0, by omega, rfl, HR, Below.refl _ _⟩
  case round =>
    clear HR
    obtain ⟨k, hk, rfl, hm, hB⟩ := hrel
    by_cases hlt : k < 5
    · have hi0 : (k : Int) < 5 := by omega
      have hel := ends_at hlt
      have hy := fun h => cut_yes hlt (s := s) h
      have hn := fun h => cut_no hlt (s := s) h
      rw [← hm.out] at hy hn
      have hraw := fun h => endsIn_raw (s := s) (e := ends.getD k ByteArray.empty) h
      have hsh := fun h => endsIn_short (s := s) (e := ends.getD k ByteArray.empty) h
      obtain ⟨e, he⟩ : ∃ e, e = ends.getD k ByteArray.empty := ⟨_, rfl⟩
      rw [← he] at hel hy hn hraw hsh
      have HY := Lib.hid hy
      have HNO := Lib.hid hn
      have HE := Lib.hid he
      have HRAW := Lib.hid hraw
      have HSH := Lib.hid hsh
      clear hy hn he hraw hsh hm
      go_wp2_with fail
      refine (l2Ends_any _).mono ?_
      rintro e1 w1 ⟨rfl, _, hb1⟩
      have hB1 := hB.trans (hb1.mono hB.size)
      go_wp2_with fail
      refine (l2Ends_any _).mono ?_
      rintro e2 w2 ⟨rfl, hc2, hb2⟩
      have hB2 := hB1.trans (hb2.mono hB1.size)
      have hc := hc2 k hlt
      rw [← HE.out] at hc
      clear hc2 hb1 hb2
      by_cases h3 : e.size + 3 ≤ s.size
      · have hsub : ((s.size : Int) - (e.size : Int)) = ((s.size - e.size : Nat) : Int) := by omega
        have hd1 : decide ((3 : Int) ≤ ((s.size - e.size : Nat) : Int)) = true := decide_eq_true (by omega)
        have hd2 : decide (3 ≤ s.size - e.size) = true := decide_eq_true (by omega)
        have hle : s.size - e.size ≤ s.size := by omega
        have hraw := HRAW.out h3
        cases hq : ((s.extract (s.size - e.size) s.size).toList == e.toList) with
        | true =>
          have HF : Hid (R = s.extract 0 (s.size - e.size)) := by show _ = _; exact HY.out (by rw [hraw]; exact hq)
          clear hraw HY HNO
          go_wp2
          go_ret
          exact ⟨by rw [HF.out]; rfl, hB2⟩
        | false =>
          have HF : Hid (R = cutL (ends.drop (k + 1)) s) := by show _ = _; exact HNO.out (by rw [hraw]; exact hq)
          clear hraw HY HNO
          go_wp2
          go_roundw
          case rel => exact ⟨k + 1, by omega, by go_num, HF, hB2⟩
          case measure => simp [intOf]; omega
      · have HF : Hid (R = cutL (ends.drop (k + 1)) s) := by show _ = _; exact HNO.out (HSH.out h3)
        have hd1 : decide ((3 : Int) ≤ ((s.size : Int) - (e.size : Int))) = false := decide_eq_false (by omega)
        clear HY HNO HRAW HSH
        go_wp2
        go_roundw
        case rel => exact ⟨k + 1, by omega, by go_num, HF, hB2⟩
        case measure => simp [intOf]; omega
    · obtain rfl : k = 5 := by omega
      have HF : Hid (R = s) := hm.out
      clear hm
      go_wp2_with fail
      refine (l2Ends_any _).mono ?_
      rintro e1 w1 ⟨rfl, _, hb1⟩
      go_wp2
      go_ret
      exact ⟨by rw [HF.out]; rfl, hB.trans (hb1.mono hB.size)⟩

theorem l2Stem_any (s : ByteArray) (w : World) (hs : s.size ≤ 4611686018427387904) :
    Calls Tryd.prog 87 #[.string s] w fun e w' => e = .returned (.string (stemB s)) ∧ Below w.heap.size w w' := by
  obtain ⟨R, hR⟩ : ∃ R, R = stemB s := ⟨_, rfl⟩
  rw [← hR]
  have HR : Hid (R = stemB s) := hR
  clear hR
  go_enter Tryd.func87, Tryd.ntmps87
  go_wp2_with fail
  go_loopw [0] (fun sv wr => ∃ t : ByteArray, sv = .string t ∧ t.size ≤ s.size ∧ Hid (R = stemB t) ∧ Below w.heap.size w wr) (fun sv _ => (bsOf sv).size)
  case atStart => exact ⟨s, rfl, Nat.le_refl _, HR, Below.refl _ _⟩
  case round =>
    clear HR
    obtain ⟨t, rfl, ht, hm, hB⟩ := hrel
    go_wp2_with fail
    refine (l2Once_any t _ (by omega)).mono ?_
    rintro e1 w1 ⟨rfl, hb1⟩
    have hB1 := hB.trans (hb1.mono hB.size)
    by_cases ho : once t = t
    · have hq : ((once t).toList == t.toList) = true := by rw [bytes_eq]; exact decide_eq_true ho
      have HF : Hid (R = t) := by show _ = _; rw [hm.out, stemB_fix ho]
      clear hm ho
      go_wp2
      go_ret
      exact ⟨by rw [HF.out]; rfl, hB1⟩
    · have hq : ((once t).toList == t.toList) = false := by rw [bytes_eq]; exact decide_eq_false ho
      have hlt := once_lt ho
      have HF : Hid (R = stemB (once t)) := by show _ = _; rw [hm.out, stemB_step ho]
      clear hm ho
      go_wp2_with fail
      refine (l2Once_any t _ (by omega)).mono ?_
      rintro e2 w2 ⟨rfl, hb2⟩
      have hB2 := hB1.trans (hb2.mono hB1.size)
      generalize once t = u at HF hlt hq ⊢
      go_wp2
      go_roundw
      case rel => exact ⟨u, rfl, by omega, HF, hB2⟩
      case measure => exact hlt
set_option maxHeartbeats 1600000 in
theorem stemOf_any (s : ByteArray) (w : World) (hs : s.size ≤ 4611686018427387904) (hw : wordB s = true) :
    Calls Tryd.prog 60 #[.string s] w fun e w' => e = .returned (.string (stemB s)) ∧ Below w.heap.size w w' := by
  obtain ⟨R, hR⟩ : ∃ R, R = stemB s := ⟨_, rfl⟩
  rw [← hR]
  have HR : Hid (R = stemB s) := hR
  have HW := Lib.hid hw
  clear hR hw
  go_enter Tryd.func60, Tryd.ntmps60
  go_wp2_with fail
  refine (wordOk_any s _ (by omega)).mono ?_
  rintro e1 w1 ⟨rfl, rfl⟩
  rw [HW.out]
  clear HW
  go_wp2_with fail
  go_loopw [0, 3, 5, 12] (fun sv bv _ _ wr => ∃ (t : ByteArray) (b : Bool), sv = .string t ∧ bv = .bool b ∧ t.size ≤ s.size ∧ Hid (b = true → R = stemB t) ∧ Hid (b = false → R = t) ∧ Below w.heap.size w wr) (fun sv bv _ _ _ => 2 * (bsOf sv).size + bitOf bv)
  case atStart => exact ⟨s, true, rfl, rfl, Nat.le_refl _, fun _ => HR.out, fun h => (by cases h), Below.refl _ _⟩
  case round =>
    clear HR
    obtain ⟨t, b, rfl, rfl, ht, hm, hm2, hB⟩ := hrel
    cases b with
    | false =>
      have HF : Hid (R = t) := hm2.out rfl
      clear hm hm2
      go_wp2
      go_ret
      exact ⟨by rw [HF.out]; rfl, hB⟩
    | true =>
      have HT : Hid (R = stemB t) := hm.out rfl
      have hbA : Below wr.heap.size wr (wr.alloc (.cells endsC 9)) := by (repeat' (first | exact Below.refl _ _ | apply Below.alloc | apply Below.setCell | apply Below.drew | apply below_draws)) <;> (first | omega | (simp <;> omega))
      have hc : Hid (∀ k, k < 5 → (wr.alloc (.cells endsC 9)).cell? ⟨wr.heap.size, k, none⟩ = some (.string (ends.getD k ByteArray.empty))) := fun k hk => by
        rcases k with _ | _ | _ | _ | _ | k
        all_goals first | omega | (simp [go_sem, endsC]; rfl)
      have hBA := hB.trans (hbA.mono hB.size)
      clear hm hm2 hbA
      unfold endsC at hc hBA
      go_wp2_with fail
      generalize (wr.alloc (.cells #[.string ⟨#[105, 110, 103]⟩, .string ⟨#[101, 100]⟩, .string ⟨#[101, 115]⟩, .string ⟨#[108, 121]⟩, .string ⟨#[115]⟩] 9)) = W at hc hBA ⊢
      generalize wr.heap.size = g at hc ⊢
      go_loopw [0, 3, 5, 12] (fun sv bv _ kv wv => sv = .string t ∧ bv = .bool false ∧ ∃ k : Nat, k ≤ 5 ∧ kv = .int .i64 k ∧ Hid (cutL (ends.drop k) t = once t) ∧ wv = W) (fun _ _ _ kv _ => 5 - (intOf kv).toNat)
      case atStart => exact ⟨rfl, rfl, 0, by omega, rfl, rfl, rfl⟩
      case round =>
        obtain ⟨rfl, rfl, k, hk, rfl, hm, rfl⟩ := hrel
        by_cases hlt : k < 5
        · have hi0 : (k : Int) < 5 := by omega
          have hel := ends_at hlt
          have hcell := hc.out k hlt
          have hy := fun h => cut_yes hlt (s := t) h
          have hn := fun h => cut_no hlt (s := t) h
          rw [hm.out] at hy hn
          obtain ⟨e, he⟩ : ∃ e, e = ends.getD k ByteArray.empty := ⟨_, rfl⟩
          rw [← he] at hel hy hn hcell
          have HY := Lib.hid hy
          have HNO := Lib.hid hn
          clear hy hn he hm
          go_wp2_with fail
          refine (Tryd.strings_HasSuffix t e _ (by omega)).mono ?_
          rintro e1 w1 ⟨rfl, rfl⟩
          cases hq : Lib.hasSuffix t.data.toList e.data.toList with
          | true =>
            by_cases h3 : e.size + 3 ≤ t.size
            · have hsub : ((t.size : Int) - (e.size : Int)) = ((t.size - e.size : Nat) : Int) := by omega
              have hd1 : decide ((3 : Int) ≤ ((t.size - e.size : Nat) : Int)) = true := decide_eq_true (by omega)
              have hd2 : decide (3 ≤ t.size - e.size) = true := decide_eq_true (by omega)
              have hle : t.size - e.size ≤ t.size := by omega
              have ho : once t = t.extract 0 (t.size - e.size) := HY.out (by unfold endsIn; rw [hq, decide_eq_true h3]; rfl)
              have hsz : (t.extract 0 (t.size - e.size)).size = t.size - e.size := by rw [ByteArray.size_extract]; omega
              have HF : Hid (R = stemB (t.extract 0 (t.size - e.size))) := by
                show _ = _
                rw [HT.out, stemB_step (by intro h; rw [ho] at h; rw [h] at hsz; omega), ho]
              have hsl : (t.extract 0 (t.size - e.size)).size < t.size := by omega
              clear HY HNO ho hsz
              go_wp2
              go_roundw
              case rel => exact ⟨_, true, rfl, rfl, by omega, fun _ => HF.out, fun h => (by cases h), hBA⟩
              case measure => simp only [bsOf, bitOf]; omega
            · have hd1 : decide ((3 : Int) ≤ ((t.size : Int) - (e.size : Int))) = false := decide_eq_false (by omega)
              have HF : Hid (cutL (ends.drop (k + 1)) t = once t) := by show _ = _; exact (HNO.out (by unfold endsIn; rw [decide_eq_false h3]; rfl)).symm
              clear HY HNO
              go_wp2
              go_roundw
              case rel => exact ⟨rfl, rfl, k + 1, by omega, by go_num, HF, by first | rfl | trivial⟩
              case measure => simp [intOf]; omega
          | false =>
            have HF : Hid (cutL (ends.drop (k + 1)) t = once t) := by show _ = _; exact (HNO.out (by unfold endsIn; rw [hq]; simp)).symm
            clear HY HNO
            go_wp2
            go_roundw
            case rel => exact ⟨rfl, rfl, k + 1, by omega, by go_num, HF, by first | rfl | trivial⟩
            case measure => simp [intOf]; omega
        · obtain rfl : k = 5 := by omega
          have ho : once t = t := hm.out.symm
          have HF : Hid (R = t) := by show _ = _; rw [HT.out, stemB_fix ho]
          clear hm ho
          go_wp2
          go_roundw
          case rel => exact ⟨t, false, rfl, rfl, ht, fun h => (by cases h), fun _ => HF.out, hBA⟩
          case measure => simp [bsOf, bitOf]
end Go.Proofs.YtaobgliimbmemaaDoor
