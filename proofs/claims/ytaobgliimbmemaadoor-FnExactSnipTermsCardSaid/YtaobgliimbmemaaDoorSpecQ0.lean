/-
  spec.l11Bare, l11Words: printed by mk_specq.py.
-/
import Derived.Test.YtaobgliimbmemaaDoorGlob
import Derived.Test.YtaobgliimbmemaaDoorQdTo2
namespace Go.Proofs.YtaobgliimbmemaaDoor
open Go.RowKit Go.Sort
set_option linter.unusedVariables false

def bareB (q : QD) (f w n k : Bool) : Bool := ((f || decide (q.fd = ⟨#[]⟩)) && (w || decide (q.ws = []))) && ((n || (decide (q.fr = 0) && decide (q.tgt = 0))) && (k || decide (q.ks.length = 0)))
def wsB (ws : List ByteArray) (m : Int) : Bool := ws.all wordB && wi (ws.length : Int) 1 m
theorem fd_ne {s : ByteArray} (h : ¬ s = ⟨#[]⟩) : s.toList.isEmpty = false := by
  rw [← Bool.not_eq_true, List.isEmpty_iff]
  intro h2
  exact h (bytes_ext (h2.trans (by first | rfl | simp)))
set_option maxRecDepth 4000 in
theorem bareFFFF (q : QD) (A : Option Addr) (c : Nat) (B : Option Addr) (d : Nat) (w : World) :
    Calls Tryd.prog 123 #[.agg #[.int .i64 q.kd, .string q.fd, .slice A q.ws.length c, .int .i64 q.fr, .int .i64 q.tgt, .slice B q.ks.length d], .bool false, .bool false, .bool false, .bool false] w fun e w' => e = .returned (.bool (bareB q false false false false)) ∧ Below w.heap.size w w' := by
  obtain ⟨kd, fd, ws, fr, tq, ks⟩ := q
  obtain ⟨R, hR⟩ : ∃ R, R = bareB ⟨kd, fd, ws, fr, tq, ks⟩ false false false false := ⟨_, rfl⟩
  rw [← hR]
  have HR := Lib.hid hR
  clear hR
  dsimp only
  have hBq : ∀ x, Below w.heap.size w (w.alloc x) := fun x => (Below.refl _ w).alloc (Nat.le_refl _) x
  have HB := Lib.hid hBq
  clear hBq
  by_cases hF : fd = ⟨#[]⟩
  · subst hF
    by_cases hW : ws.length = 0
    · obtain rfl := List.length_eq_zero_iff.1 hW
      by_cases hR : fr = 0
      · subst hR
        by_cases hT : tq = 0
        · subst hT
          by_cases hK : ks.length = 0
          · obtain rfl := List.length_eq_zero_iff.1 hK
            have HV : Hid (R = true) := by show _ = _; rw [HR.out]; simp [bareB]
            clear HR
            go_enter Tryd.func123, Tryd.ntmps123
            go_wp2
            go_ret
            exact ⟨ret_bool HV.out.symm, HB.out _⟩
          · have nK : ((ks.length : Int) == 0) = false := by rw [beq_eq_false_iff_ne]; omega
            have mK : ¬ ks = [] := fun h => hK (by rw [h]; rfl)
            have HV : Hid (R = false) := by show _ = _; rw [HR.out]; simp [bareB, mK]
            clear HR
            go_enter Tryd.func123, Tryd.ntmps123
            go_wp2
            go_ret
            exact ⟨ret_bool HV.out.symm, HB.out _⟩
        · have nT : (tq == 0) = false := by rw [beq_eq_false_iff_ne]; exact hT
          have HV : Hid (R = false) := by show _ = _; rw [HR.out]; simp [bareB, hT]
          clear HR
          go_enter Tryd.func123, Tryd.ntmps123
          go_wp2
          go_ret
          exact ⟨ret_bool HV.out.symm, HB.out _⟩
      · have nR : (fr == 0) = false := by rw [beq_eq_false_iff_ne]; exact hR
        have HV : Hid (R = false) := by show _ = _; rw [HR.out]; simp [bareB, hR]
        clear HR
        go_enter Tryd.func123, Tryd.ntmps123
        go_wp2
        go_ret
        exact ⟨ret_bool HV.out.symm, HB.out _⟩
    · have nW : ((ws.length : Int) == 0) = false := by rw [beq_eq_false_iff_ne]; omega
      have mW : ¬ ws = [] := fun h => hW (by rw [h]; rfl)
      have HV : Hid (R = false) := by show _ = _; rw [HR.out]; simp [bareB, mW]
      clear HR
      go_enter Tryd.func123, Tryd.ntmps123
      go_wp2
      go_ret
      exact ⟨ret_bool HV.out.symm, HB.out _⟩
  · have nF := fd_ne hF
    have HV : Hid (R = false) := by show _ = _; rw [HR.out]; simp [bareB, hF]
    clear HR
    go_enter Tryd.func123, Tryd.ntmps123
    go_wp2
    go_ret
    exact ⟨ret_bool HV.out.symm, HB.out _⟩
set_option maxRecDepth 4000 in
theorem bareTTFF (q : QD) (A : Option Addr) (c : Nat) (B : Option Addr) (d : Nat) (w : World) :
    Calls Tryd.prog 123 #[.agg #[.int .i64 q.kd, .string q.fd, .slice A q.ws.length c, .int .i64 q.fr, .int .i64 q.tgt, .slice B q.ks.length d], .bool true, .bool true, .bool false, .bool false] w fun e w' => e = .returned (.bool (bareB q true true false false)) ∧ Below w.heap.size w w' := by
  obtain ⟨kd, fd, ws, fr, tq, ks⟩ := q
  obtain ⟨R, hR⟩ : ∃ R, R = bareB ⟨kd, fd, ws, fr, tq, ks⟩ true true false false := ⟨_, rfl⟩
  rw [← hR]
  have HR := Lib.hid hR
  clear hR
  dsimp only
  have hBq : ∀ x, Below w.heap.size w (w.alloc x) := fun x => (Below.refl _ w).alloc (Nat.le_refl _) x
  have HB := Lib.hid hBq
  clear hBq
  by_cases hR : fr = 0
  · subst hR
    by_cases hT : tq = 0
    · subst hT
      by_cases hK : ks.length = 0
      · obtain rfl := List.length_eq_zero_iff.1 hK
        have HV : Hid (R = true) := by show _ = _; rw [HR.out]; simp [bareB]
        clear HR
        go_enter Tryd.func123, Tryd.ntmps123
        go_wp2
        go_ret
        exact ⟨ret_bool HV.out.symm, HB.out _⟩
      · have nK : ((ks.length : Int) == 0) = false := by rw [beq_eq_false_iff_ne]; omega
        have mK : ¬ ks = [] := fun h => hK (by rw [h]; rfl)
        have HV : Hid (R = false) := by show _ = _; rw [HR.out]; simp [bareB, mK]
        clear HR
        go_enter Tryd.func123, Tryd.ntmps123
        go_wp2
        go_ret
        exact ⟨ret_bool HV.out.symm, HB.out _⟩
    · have nT : (tq == 0) = false := by rw [beq_eq_false_iff_ne]; exact hT
      have HV : Hid (R = false) := by show _ = _; rw [HR.out]; simp [bareB, hT]
      clear HR
      go_enter Tryd.func123, Tryd.ntmps123
      go_wp2
      go_ret
      exact ⟨ret_bool HV.out.symm, HB.out _⟩
  · have nR : (fr == 0) = false := by rw [beq_eq_false_iff_ne]; exact hR
    have HV : Hid (R = false) := by show _ = _; rw [HR.out]; simp [bareB, hR]
    clear HR
    go_enter Tryd.func123, Tryd.ntmps123
    go_wp2
    go_ret
    exact ⟨ret_bool HV.out.symm, HB.out _⟩
set_option maxRecDepth 4000 in
theorem bareTTTF (q : QD) (A : Option Addr) (c : Nat) (B : Option Addr) (d : Nat) (w : World) :
    Calls Tryd.prog 123 #[.agg #[.int .i64 q.kd, .string q.fd, .slice A q.ws.length c, .int .i64 q.fr, .int .i64 q.tgt, .slice B q.ks.length d], .bool true, .bool true, .bool true, .bool false] w fun e w' => e = .returned (.bool (bareB q true true true false)) ∧ Below w.heap.size w w' := by
  obtain ⟨kd, fd, ws, fr, tq, ks⟩ := q
  obtain ⟨R, hR⟩ : ∃ R, R = bareB ⟨kd, fd, ws, fr, tq, ks⟩ true true true false := ⟨_, rfl⟩
  rw [← hR]
  have HR := Lib.hid hR
  clear hR
  dsimp only
  have hBq : ∀ x, Below w.heap.size w (w.alloc x) := fun x => (Below.refl _ w).alloc (Nat.le_refl _) x
  have HB := Lib.hid hBq
  clear hBq
  by_cases hK : ks.length = 0
  · obtain rfl := List.length_eq_zero_iff.1 hK
    have HV : Hid (R = true) := by show _ = _; rw [HR.out]; simp [bareB]
    clear HR
    go_enter Tryd.func123, Tryd.ntmps123
    go_wp2
    go_ret
    exact ⟨ret_bool HV.out.symm, HB.out _⟩
  · have nK : ((ks.length : Int) == 0) = false := by rw [beq_eq_false_iff_ne]; omega
    have mK : ¬ ks = [] := fun h => hK (by rw [h]; rfl)
    have HV : Hid (R = false) := by show _ = _; rw [HR.out]; simp [bareB, mK]
    clear HR
    go_enter Tryd.func123, Tryd.ntmps123
    go_wp2
    go_ret
    exact ⟨ret_bool HV.out.symm, HB.out _⟩
set_option maxRecDepth 4000 in
theorem bareTFTF (q : QD) (A : Option Addr) (c : Nat) (B : Option Addr) (d : Nat) (w : World) :
    Calls Tryd.prog 123 #[.agg #[.int .i64 q.kd, .string q.fd, .slice A q.ws.length c, .int .i64 q.fr, .int .i64 q.tgt, .slice B q.ks.length d], .bool true, .bool false, .bool true, .bool false] w fun e w' => e = .returned (.bool (bareB q true false true false)) ∧ Below w.heap.size w w' := by
  obtain ⟨kd, fd, ws, fr, tq, ks⟩ := q
  obtain ⟨R, hR⟩ : ∃ R, R = bareB ⟨kd, fd, ws, fr, tq, ks⟩ true false true false := ⟨_, rfl⟩
  rw [← hR]
  have HR := Lib.hid hR
  clear hR
  dsimp only
  have hBq : ∀ x, Below w.heap.size w (w.alloc x) := fun x => (Below.refl _ w).alloc (Nat.le_refl _) x
  have HB := Lib.hid hBq
  clear hBq
  by_cases hW : ws.length = 0
  · obtain rfl := List.length_eq_zero_iff.1 hW
    by_cases hK : ks.length = 0
    · obtain rfl := List.length_eq_zero_iff.1 hK
      have HV : Hid (R = true) := by show _ = _; rw [HR.out]; simp [bareB]
      clear HR
      go_enter Tryd.func123, Tryd.ntmps123
      go_wp2
      go_ret
      exact ⟨ret_bool HV.out.symm, HB.out _⟩
    · have nK : ((ks.length : Int) == 0) = false := by rw [beq_eq_false_iff_ne]; omega
      have mK : ¬ ks = [] := fun h => hK (by rw [h]; rfl)
      have HV : Hid (R = false) := by show _ = _; rw [HR.out]; simp [bareB, mK]
      clear HR
      go_enter Tryd.func123, Tryd.ntmps123
      go_wp2
      go_ret
      exact ⟨ret_bool HV.out.symm, HB.out _⟩
  · have nW : ((ws.length : Int) == 0) = false := by rw [beq_eq_false_iff_ne]; omega
    have mW : ¬ ws = [] := fun h => hW (by rw [h]; rfl)
    have HV : Hid (R = false) := by show _ = _; rw [HR.out]; simp [bareB, mW]
    clear HR
    go_enter Tryd.func123, Tryd.ntmps123
    go_wp2
    go_ret
    exact ⟨ret_bool HV.out.symm, HB.out _⟩
set_option maxRecDepth 4000 in
theorem bareFFFT (q : QD) (A : Option Addr) (c : Nat) (B : Option Addr) (d : Nat) (w : World) :
    Calls Tryd.prog 123 #[.agg #[.int .i64 q.kd, .string q.fd, .slice A q.ws.length c, .int .i64 q.fr, .int .i64 q.tgt, .slice B q.ks.length d], .bool false, .bool false, .bool false, .bool true] w fun e w' => e = .returned (.bool (bareB q false false false true)) ∧ Below w.heap.size w w' := by
  obtain ⟨kd, fd, ws, fr, tq, ks⟩ := q
  obtain ⟨R, hR⟩ : ∃ R, R = bareB ⟨kd, fd, ws, fr, tq, ks⟩ false false false true := ⟨_, rfl⟩
  rw [← hR]
  have HR := Lib.hid hR
  clear hR
  dsimp only
  have hBq : ∀ x, Below w.heap.size w (w.alloc x) := fun x => (Below.refl _ w).alloc (Nat.le_refl _) x
  have HB := Lib.hid hBq
  clear hBq
  by_cases hF : fd = ⟨#[]⟩
  · subst hF
    by_cases hW : ws.length = 0
    · obtain rfl := List.length_eq_zero_iff.1 hW
      by_cases hR : fr = 0
      · subst hR
        by_cases hT : tq = 0
        · subst hT
          have HV : Hid (R = true) := by show _ = _; rw [HR.out]; simp [bareB]
          clear HR
          go_enter Tryd.func123, Tryd.ntmps123
          go_wp2
          go_ret
          exact ⟨ret_bool HV.out.symm, HB.out _⟩
        · have nT : (tq == 0) = false := by rw [beq_eq_false_iff_ne]; exact hT
          have HV : Hid (R = false) := by show _ = _; rw [HR.out]; simp [bareB, hT]
          clear HR
          go_enter Tryd.func123, Tryd.ntmps123
          go_wp2
          go_ret
          exact ⟨ret_bool HV.out.symm, HB.out _⟩
      · have nR : (fr == 0) = false := by rw [beq_eq_false_iff_ne]; exact hR
        have HV : Hid (R = false) := by show _ = _; rw [HR.out]; simp [bareB, hR]
        clear HR
        go_enter Tryd.func123, Tryd.ntmps123
        go_wp2
        go_ret
        exact ⟨ret_bool HV.out.symm, HB.out _⟩
    · have nW : ((ws.length : Int) == 0) = false := by rw [beq_eq_false_iff_ne]; omega
      have mW : ¬ ws = [] := fun h => hW (by rw [h]; rfl)
      have HV : Hid (R = false) := by show _ = _; rw [HR.out]; simp [bareB, mW]
      clear HR
      go_enter Tryd.func123, Tryd.ntmps123
      go_wp2
      go_ret
      exact ⟨ret_bool HV.out.symm, HB.out _⟩
  · have nF := fd_ne hF
    have HV : Hid (R = false) := by show _ = _; rw [HR.out]; simp [bareB, hF]
    clear HR
    go_enter Tryd.func123, Tryd.ntmps123
    go_wp2
    go_ret
    exact ⟨ret_bool HV.out.symm, HB.out _⟩
set_option maxRecDepth 4000 in
theorem bareFFTT (q : QD) (A : Option Addr) (c : Nat) (B : Option Addr) (d : Nat) (w : World) :
    Calls Tryd.prog 123 #[.agg #[.int .i64 q.kd, .string q.fd, .slice A q.ws.length c, .int .i64 q.fr, .int .i64 q.tgt, .slice B q.ks.length d], .bool false, .bool false, .bool true, .bool true] w fun e w' => e = .returned (.bool (bareB q false false true true)) ∧ Below w.heap.size w w' := by
  obtain ⟨kd, fd, ws, fr, tq, ks⟩ := q
  obtain ⟨R, hR⟩ : ∃ R, R = bareB ⟨kd, fd, ws, fr, tq, ks⟩ false false true true := ⟨_, rfl⟩
  rw [← hR]
  have HR := Lib.hid hR
  clear hR
  dsimp only
  have hBq : ∀ x, Below w.heap.size w (w.alloc x) := fun x => (Below.refl _ w).alloc (Nat.le_refl _) x
  have HB := Lib.hid hBq
  clear hBq
  by_cases hF : fd = ⟨#[]⟩
  · subst hF
    by_cases hW : ws.length = 0
    · obtain rfl := List.length_eq_zero_iff.1 hW
      have HV : Hid (R = true) := by show _ = _; rw [HR.out]; simp [bareB]
      clear HR
      go_enter Tryd.func123, Tryd.ntmps123
      go_wp2
      go_ret
      exact ⟨ret_bool HV.out.symm, HB.out _⟩
    · have nW : ((ws.length : Int) == 0) = false := by rw [beq_eq_false_iff_ne]; omega
      have mW : ¬ ws = [] := fun h => hW (by rw [h]; rfl)
      have HV : Hid (R = false) := by show _ = _; rw [HR.out]; simp [bareB, mW]
      clear HR
      go_enter Tryd.func123, Tryd.ntmps123
      go_wp2
      go_ret
      exact ⟨ret_bool HV.out.symm, HB.out _⟩
  · have nF := fd_ne hF
    have HV : Hid (R = false) := by show _ = _; rw [HR.out]; simp [bareB, hF]
    clear HR
    go_enter Tryd.func123, Tryd.ntmps123
    go_wp2
    go_ret
    exact ⟨ret_bool HV.out.symm, HB.out _⟩
theorem l11Words_any (A : Option Addr) (c : Nat) (L : List ByteArray) (m : Int) (w : World) (h : SrcT w A c L) (hn : L.length ≤ 1048576) (hs : ∀ s ∈ L, s.size ≤ 1048576) :
    Calls Tryd.prog 124 #[.slice A L.length c, .int .i64 m] w fun e w' => e = .returned (.bool (wsB L m)) ∧ Below w.heap.size w w' := by
  obtain ⟨R, hR⟩ : ∃ R, R = wsB L m := ⟨_, rfl⟩
  rw [← hR]
  have HR := Lib.hid hR
  have HS := Lib.hid hs
  clear hR hs
  go_enter Tryd.func124, Tryd.ntmps124
  go_wp2_with fail
  go_loopw [5] (fun iv wr => ∃ k : Nat, k ≤ L.length ∧ iv = .int .i64 k ∧ Hid ((L.take k).all wordB = true) ∧ Below w.heap.size w wr) (fun iv _ => L.length - (intOf iv).toNat)
  case atStart => exact ⟨0, Nat.zero_le _, rfl, rfl, Below.refl _ _⟩
  case round =>
    obtain ⟨k, hk, rfl, hm, hB⟩ := hrel
    by_cases hlt : k < L.length
    · obtain ⟨b, off, rfl, hb, x0⟩ := (h.below hB).atT hlt
      have hi0 : (k : Int) < (L.length : Int) := by omega
      have hsz := HS.out _ (List.getElem_mem hlt)
      cases hw : wordB L[k] with
      | true =>
        have HM : Hid ((L.take (k + 1)).all wordB = true) := by show _ = _; rw [all_succ wordB hlt, hm.out, hw]; rfl
        clear hm
        go_wp2_with fail
        refine (l1WordOk_any L[k] _ (by omega)).mono ?_
        rintro e w1 ⟨rfl, hb1⟩
        rw [hw]
        have hB1 := hB.trans (hb1.mono hB.size)
        go_wp2
        go_roundw
        case rel => exact ⟨k + 1, by omega, by go_num, HM, hB1⟩
        case measure => simp [intOf]; omega
      | false =>
        have HN : Hid (R = false) := by show _ = _; rw [HR.out]; unfold wsB; rw [all_bad hlt hw]; rfl
        clear hm
        go_wp2_with fail
        refine (l1WordOk_any L[k] _ (by omega)).mono ?_
        rintro e w1 ⟨rfl, hb1⟩
        rw [hw]
        have hB1 := hB.trans (hb1.mono hB.size)
        go_wp2
        go_ret
        exact ⟨ret_bool HN.out.symm, hB1⟩
    · have HM : Hid (R = wi (L.length : Int) 1 m) := by
        show _ = _
        have := hm.out
        rw [List.take_of_length_le (by omega)] at this
        rw [HR.out]; unfold wsB; rw [this]; rfl
      clear hm
      go_wp2_with fail
      refine (l1In_any _ _ _ _).mono ?_
      rintro e w1 ⟨rfl, rfl⟩
      go_wp2
      go_ret
      exact ⟨ret_bool HM.out.symm, hB⟩
end Go.Proofs.YtaobgliimbmemaaDoor
