/-
  How words are read, in memory; when it is ok (plain); contracts of slices.Contains, l2Has, l1WordOk, wordsAscend.
-/
import Derived.Test.YtaobgliimbmemaaDoorStem
import Derived.Test.YtaobgliimbmemaaDoorDocs
import Derived.Laws.Cover1
import Derived.Lib.SlicesS
namespace Go.Proofs.YtaobgliimbmemaaDoor
open Go.RowKit Go.Sort
set_option linter.unusedVariables false

def encT (s : ByteArray) : List Value := [.string s]
theorem encT_ok : Enc encT 1 := ⟨fun _ => rfl, fun a u hu => by simp [encT] at hu; subst hu; rfl⟩
abbrev SrcT (w : World) (A : Option Addr) (c : Nat) (L : List ByteArray) : Prop := SrcE encT 1 w A c L
theorem SrcE.atT {w : World} {A : Option Addr} {c : Nat} {L : List ByteArray} (h : SrcT w A c L) {k : Nat} (hk : k < L.length) :
    ∃ b off, A = some ⟨b, off, none⟩ ∧ b < w.heap.size ∧ w.cell? ⟨b, off + k, none⟩ = some (.string L[k]) := by
  obtain ⟨b, off, e, hb, hc⟩ := h.1.2 (by omega)
  refine ⟨b, off, e, hb, ?_⟩
  have := hc (k * 1 + 0) _ (by rw [flat_get (enc := encT) (F := 1) (fun _ => rfl) (List.getElem?_eq_getElem hk) (by omega)]; rfl)
  simpa using this
theorem SrcE.allT {w : World} {b off c : Nat} {L : List ByteArray} (h : SrcT w (some ⟨b, off, none⟩) c L) {k : Nat} (hk : k < L.length) :
    b < w.heap.size ∧ w.cell? ⟨b, off + k, none⟩ = some (.string L[k]) := by
  obtain ⟨b', off', e, h1, h2⟩ := h.atT hk
  simp only [Option.some.injEq, Addr.mk.injEq, and_true] at e
  obtain ⟨rfl, rfl⟩ := e
  exact ⟨h1, h2⟩
structure SynD where
  fr : List ByteArray
  tgt : ByteArray
structure ConfD where
  st : List ByteArray
  sy : List SynD
def RdY (w : World) (A : Option Addr) (Ys : List SynD) : Prop :=
  ∀ k, (hk : k < Ys.length) → ∃ b off A1 c1, A = some ⟨b, off, none⟩ ∧ b < w.heap.size ∧ w.cell? ⟨b, off + k * 2, none⟩ = some (.slice A1 Ys[k].fr.length c1) ∧ w.cell? ⟨b, off + k * 2 + 1, none⟩ = some (.string Ys[k].tgt) ∧ SrcT w A1 c1 Ys[k].fr
theorem RdY.below {w w' : World} {A : Option Addr} {Ys : List SynD} (h : RdY w A Ys) (hb : Below w.heap.size w w') : RdY w' A Ys := fun k hk => by
  obtain ⟨b, off, A1, c1, e, hlt, h0, h1, h2⟩ := h k hk
  exact ⟨b, off, A1, c1, e, Nat.lt_of_lt_of_le hlt hb.size, (hb.cell (p := ⟨b, off + k * 2, none⟩) hlt).trans h0, (hb.cell (p := ⟨b, off + k * 2 + 1, none⟩) hlt).trans h1, h2.below hb⟩
structure HasC (w : World) (c : ConfD) (A1 : Option Addr) (c1 : Nat) (A2 : Option Addr) : Prop where
  st : SrcT w A1 c1 c.st
  sy : RdY w A2 c.sy
theorem HasC.below {w w' : World} {c : ConfD} {A1 A2 : Option Addr} {c1 : Nat} (h : HasC w c A1 c1 A2) (hb : Below w.heap.size w w') : HasC w' c A1 c1 A2 := ⟨h.st.below hb, h.sy.below hb⟩
/-! no larger than what is read -/
def SmT (L : List ByteArray) : Prop := L.length ≤ 1048576 ∧ ∀ s ∈ L, s.size ≤ 1048576
def SmY (y : SynD) : Prop := SmT y.fr ∧ y.tgt.size ≤ 1048576
def SmC (c : ConfD) : Prop := SmT c.st ∧ c.sy.length ≤ 1048576 ∧ ∀ y ∈ c.sy, SmY y
/-! plain -/
def hasB (L : List ByteArray) (s : ByteArray) : Bool := Lib.containsS L s
theorem hasB_iff {L : List ByteArray} {s : ByteArray} : hasB L s = true ↔ s ∈ L := Lib.containsS_iff L s
theorem hasB_drop {L : List ByteArray} {s : ByteArray} {k : Nat} (hk : k < L.length) : hasB (L.drop k) s = ((L[k].toList == s.toList) || hasB (L.drop (k + 1)) s) := by
  rw [List.drop_eq_getElem_cons hk, Bool.eq_iff_iff, hasB_iff, List.mem_cons, Bool.or_eq_true, hasB_iff, bytes_eq, decide_eq_true_eq]
  exact or_congr_left ⟨fun h => h.symm, fun h => h.symm⟩
theorem hasB_nil (s : ByteArray) : hasB [] s = false := by rw [← Bool.not_eq_true, hasB_iff]; simp
def okW (L : List ByteArray) (k : Nat) : Bool := wordB (L.getD k .empty) && (decide (k = 0) || ltS (L.getD (k - 1) .empty) (L.getD k .empty))
def toW (L : List ByteArray) (k : Nat) : Bool := (List.range k).all (okW L)
def upB (L : List ByteArray) : Bool := toW L L.length
theorem toW_succ (L : List ByteArray) (k : Nat) : toW L (k + 1) = (toW L k && okW L k) := by unfold toW; rw [List.range_succ, List.all_append]; simp
theorem toW_false {L : List ByteArray} {k : Nat} (hk : k < L.length) (h : okW L k = false) : upB L = false := range_stop hk h
theorem getT {L : List ByteArray} {k : Nat} (h : k < L.length) : L.getD k .empty = L[k] := by rw [List.getD_eq_getElem?_getD, List.getElem?_eq_getElem h]; rfl
theorem okW_at {L : List ByteArray} {k : Nat} (hk : k < L.length) : okW L k = (wordB L[k] && (decide (k = 0) || ltS (L.getD (k - 1) .empty) L[k])) := by unfold okW; rw [getT hk]
def okS (st : List ByteArray) (s : ByteArray) : Bool := wordB s && (decide (stemB s = s) && !(hasB st s))
def okY (st : List ByteArray) (y : SynD) : Bool := wi (y.fr.length : Int) 1 3 && (wordB y.tgt && (decide (stemB y.tgt = y.tgt) && y.fr.all (okS st)))
def confB (c : ConfD) : Bool := decide (c.st.length ≤ 6) && (upB c.st && (decide (c.sy.length ≤ 4) && c.sy.all (okY c.st)))
theorem all_succ {α : Type} (f : α → Bool) {L : List α} {k : Nat} (hk : k < L.length) : (L.take (k + 1)).all f = ((L.take k).all f && f L[k]) := by
  rw [← List.take_append_getElem hk, List.all_append]; simp
theorem all_bad {α : Type} {f : α → Bool} {L : List α} {k : Nat} (hk : k < L.length) (h : f L[k] = false) : L.all f = false := by
  rw [← Bool.not_eq_true, List.all_eq_true]
  intro hh
  have := hh _ (List.getElem_mem hk)
  rw [h] at this
  cases this
theorem below_of_eq {w w' : World} (h : w = w') : Below w.heap.size w w' := by subst h; exact Below.refl _ _
theorem contains_any (A : Option Addr) (c : Nat) (L : List ByteArray) (s : ByteArray) (w : World) (h : SrcT w A c L) (hn : L.length ≤ 9223372036854775807) :
    Calls Tryd.prog 61 #[.slice A L.length c, .string s] w fun e w' => e = .returned (.bool (hasB L s)) ∧ w = w' := by
  rcases Nat.eq_zero_or_pos L.length with h0 | h0
  · obtain rfl : L = [] := List.length_eq_zero_iff.1 h0
    exact (Tryd.slices_Contains_string_empty A c s w).mono fun e w' ⟨h1, h2⟩ => ⟨by rw [h1, hasB_nil], h2.symm⟩
  · obtain ⟨b, off, rfl, hb, _⟩ := h.atT h0
    refine (Tryd.slices_Contains_string b off L.length c L s w (Nat.le_refl _) hn (fun j hj => ?_)).mono fun e w' ⟨h1, h2⟩ => ⟨?_, h2.symm⟩
    · rw [(h.allT hj).2, ← getT hj]
    · rw [h1, List.take_length]; rfl
theorem cContains (A : Option Addr) (c : Nat) (L : List ByteArray) (s : ByteArray) (r : Bool) (hr : hasB L s = r) (W : World) (h : SrcT W A c L) (hn : L.length ≤ 9223372036854775807) (d : Nat) (os : Array Obj) :
    Calls Tryd.prog 61 #[.slice A L.length c, .string s] (grow (redrawn W d) os) fun e w'' => e = .returned (.bool r) ∧ ∃ p : Regrown, w'' = grow (redrawn W p.d) p.os :=
  Calls.regrown_of ((contains_any A c L s _ (h.below (below_regrown W d os)) hn).mono fun _ _ ⟨h1, h2⟩ => ⟨by rw [h1, hr], below_of_eq h2⟩)
theorem l2Has_any (A : Option Addr) (c : Nat) (L : List ByteArray) (s : ByteArray) (w : World) (h : SrcT w A c L) (hn : L.length ≤ 1048576) :
    Calls Tryd.prog 88 #[.slice A L.length c, .string s] w fun e w' => e = .returned (.bool (hasB L s)) ∧ Below w.heap.size w w' := by
  obtain ⟨R, hR⟩ : ∃ R, R = hasB L s := ⟨_, rfl⟩
  rw [← hR]
  have HR : Hid (R = hasB (L.drop 0) s) := hR
  clear hR
  go_enter Tryd.func88, Tryd.ntmps88
  go_wp2_with fail
  go_loopw [5] (fun iv wr => ∃ k : Nat, k ≤ L.length ∧ iv = .int .i64 k ∧ Hid (R = hasB (L.drop k) s) ∧ Below w.heap.size w wr) (fun iv _ => L.length - (intOf iv).toNat)
  case atStart => exact ⟨0, Nat.zero_le _, rfl, HR, Below.refl _ _⟩
  case round =>
    clear HR
    obtain ⟨k, hk, rfl, hm, hB⟩ := hrel
    by_cases hlt : k < L.length
    · obtain ⟨b, off, rfl, hb, x0⟩ := (h.below hB).atT hlt
      have hi0 : (k : Int) < (L.length : Int) := by omega
      have hst := hasB_drop (s := s) hlt
      rw [← hm.out] at hst
      have HST := Lib.hid hst
      clear hst hm
      generalize L[k] = x at x0 HST
      cases hq : (x.toList == s.toList) with
      | true =>
        have HN : Hid (R = true) := by show _ = _; rw [HST.out, hq]; rfl
        clear HST
        go_wp2
        go_ret
        exact ⟨ret_bool HN.out.symm, hB⟩
      | false =>
        have HN : Hid (R = hasB (L.drop (k + 1)) s) := by show _ = _; rw [HST.out, hq]; rfl
        clear HST
        go_wp2
        go_roundw
        case rel => exact ⟨k + 1, by omega, by go_num, HN, hB⟩
        case measure => simp [intOf]; omega
    · have HN : Hid (R = false) := by show _ = _; rw [hm.out, List.drop_of_length_le (by omega), hasB_nil]
      clear hm
      go_wp2
      go_ret
      exact ⟨ret_bool HN.out.symm, hB⟩
theorem cL2Has (A : Option Addr) (c : Nat) (L : List ByteArray) (s : ByteArray) (r : Bool) (hr : hasB L s = r) (W : World) (h : SrcT W A c L) (hn : L.length ≤ 1048576) (d : Nat) (os : Array Obj) :
    Calls Tryd.prog 88 #[.slice A L.length c, .string s] (grow (redrawn W d) os) fun e w'' => e = .returned (.bool r) ∧ ∃ p : Regrown, w'' = grow (redrawn W p.d) p.os := by
  subst hr
  exact Calls.regrown_of (l2Has_any A c L s _ (h.below (below_regrown W d os)) hn)
theorem cL1Fold (n : Int) (r : Int) (hr : foldI n = r) (h0 : 0 ≤ n) (h1 : n ≤ 255) (W : World) (d : Nat) (os : Array Obj) :
    Calls Tryd.prog 113 #[.int .u8 n] (grow (redrawn W d) os) fun e w'' => e = .returned (.int .u8 r) ∧ ∃ p : Regrown, w'' = grow (redrawn W p.d) p.os :=
  Calls.regrown_of ((l1Fold_any n h0 h1 _).mono fun _ _ ⟨h1, h2⟩ => ⟨by rw [h1, hr], by rw [← h2]; exact Below.refl _ _⟩)
theorem l1WordOk_any (s : ByteArray) (w : World) (hs : s.size ≤ 9223372036854775000) :
    Calls Tryd.prog 86 #[.string s] w fun e w' => e = .returned (.bool (wordB s)) ∧ Below w.heap.size w w' := by
  obtain ⟨R, hR⟩ : ∃ R, R = wordB s := ⟨_, rfl⟩
  rw [← hR]
  have HR := Lib.hid hR
  clear hR
  go_enter Tryd.func86, Tryd.ntmps86
  go_wp2_with fail
  go_loopw [3] (fun iv wr => ∃ k : Nat, k ≤ s.size ∧ iv = .int .i64 k ∧ Hid ((s.data.toList.take k).all (fun b => wbI (b.toNat : Int)) = true) ∧ Below w.heap.size w wr) (fun iv _ => s.size - (intOf iv).toNat)
  case atStart => exact ⟨0, Nat.zero_le _, rfl, rfl, Below.refl _ _⟩
  case round =>
    obtain ⟨k, hk, rfl, hm, hB⟩ := hrel
    by_cases hlt : k < s.size
    · have hn := all_next (fun b => wbI (b.toNat : Int)) s k hlt
      have hst := all_stop (fun b => wbI (b.toNat : Int)) s k hlt
      have hb := s[k].toNat_lt
      have hi0 : (k : Int) < (s.size : Int) := by omega
      cases hw : wbI (s[k].toNat : Int) with
      | true =>
        have HM : Hid ((s.data.toList.take (k + 1)).all (fun b => wbI (b.toNat : Int)) = true) := by show _ = _; rw [hn, hm.out, hw]; rfl
        have hfo := foldI_wb hw
        have hne : ((s[k].toNat : Int) != (s[k].toNat : Int)) = false := by simp
        have hnz : ((s[k].toNat : Int) == 0) = false := by have := wbI_true.1 hw; rw [beq_eq_false_iff_ne]; omega
        clear hn hst hm
        go_wp2_with fail
        refine region_qw (by kernel_rfl) (by kernel_rfl) ?_
        repeat (
          refine qw_step (fun K hK => ?_)
          go_simp
          first
            | (refine hK _ ?_; clear hK K)
            | (apply Exists.intro
               refine ⟨fun _ => ?_, hK _ ?_⟩
               (first | (go_at_call 113; exact cL1Fold _ _ hfo (by omega) (by omega) _ _ _))
               clear hK K))
        refine qw_nil ?_
        intro _ hw'
        obtain ⟨⟨dq, osq⟩, hw''⟩ := hw'
        subst hw''
        have hBw := hB.trans ((below_regrown wr dq osq).mono hB.size)
        generalize grow (redrawn wr dq) osq = Wq at hBw ⊢
        go_wp2
        go_roundw
        case rel => exact ⟨k + 1, by omega, by go_num, HM, hBw⟩
        case measure => simp [intOf]; omega
      | false =>
        have HN : Hid (R = false) := by show _ = _; rw [HR.out]; unfold wordB; rw [hst hw]; rfl
        clear hn hst hm
        rcases Classical.em ((s[k].toNat : Int) = 0) with hz | hz
        · have hfo0 : foldI 0 = 0 := by decide
          have hne : ((0 : Int) != (s[k].toNat : Int)) = false := by rw [hz]; rfl
          have hnz : ((s[k].toNat : Int) == 0) = true := by rw [hz]; rfl
          go_wp2_with fail
          refine region_qw (by kernel_rfl) (by kernel_rfl) ?_
          repeat (
            refine qw_step (fun K hK => ?_)
            go_simp
            first
              | (refine hK _ ?_; clear hK K)
              | (apply Exists.intro
                 refine ⟨fun _ => ?_, hK _ ?_⟩
                 (first | (go_at_call 113; exact cL1Fold _ _ hfo0 (by omega) (by omega) _ _ _))
                 clear hK K))
          refine qw_nil ?_
          intro _ hw'
          obtain ⟨⟨dq, osq⟩, hw''⟩ := hw'
          subst hw''
          have hBw := hB.trans ((below_regrown wr dq osq).mono hB.size)
          go_wp2
          go_ret
          exact ⟨ret_bool HN.out.symm, hBw⟩
        · obtain ⟨z, hfo⟩ : ∃ z, foldI (s[k].toNat : Int) = z := ⟨_, rfl⟩
          have hzz : z ≠ (s[k].toNat : Int) := by rw [← hfo]; exact (foldI_no hw).resolve_right hz
          have hne : (z != (s[k].toNat : Int)) = true := by simpa using hzz
          go_wp2_with fail
          refine region_qw (by kernel_rfl) (by kernel_rfl) ?_
          repeat (
            refine qw_step (fun K hK => ?_)
            go_simp
            first
              | (refine hK _ ?_; clear hK K)
              | (apply Exists.intro
                 refine ⟨fun _ => ?_, hK _ ?_⟩
                 (first | (go_at_call 113; exact cL1Fold _ _ hfo (by omega) (by omega) _ _ _))
                 clear hK K))
          refine qw_nil ?_
          intro _ hw'
          obtain ⟨⟨dq, osq⟩, hw''⟩ := hw'
          subst hw''
          have hBw := hB.trans ((below_regrown wr dq osq).mono hB.size)
          go_wp2
          go_ret
          exact ⟨ret_bool HN.out.symm, hBw⟩
    · have HM : Hid (R = wi (s.size : Int) 1 12) := by
        show _ = _
        have := hm.out
        rw [List.take_of_length_le (by rw [bytes_len]; omega)] at this
        rw [HR.out]; unfold wordB; rw [this]; rfl
      clear hm
      go_wp2_with fail
      refine (l1In_any _ _ _ _).mono ?_
      rintro e w1 ⟨rfl, rfl⟩
      go_wp2
      go_ret
      exact ⟨ret_bool HM.out.symm, hB⟩
theorem cL1Word (s : ByteArray) (r : Bool) (hr : wordB s = r) (hs : s.size ≤ 9223372036854775000) (W : World) (d : Nat) (os : Array Obj) :
    Calls Tryd.prog 86 #[.string s] (grow (redrawn W d) os) fun e w'' => e = .returned (.bool r) ∧ ∃ p : Regrown, w'' = grow (redrawn W p.d) p.os := by
  subst hr
  exact Calls.regrown_of (l1WordOk_any s _ hs)
theorem cWordOk (s : ByteArray) (r : Bool) (hr : wordB s = r) (hs : s.size ≤ 9223372036854775000) (W : World) (d : Nat) (os : Array Obj) :
    Calls Tryd.prog 59 #[.string s] (grow (redrawn W d) os) fun e w'' => e = .returned (.bool r) ∧ ∃ p : Regrown, w'' = grow (redrawn W p.d) p.os :=
  Calls.regrown_of ((wordOk_any s _ hs).mono fun _ _ ⟨h1, h2⟩ => ⟨by rw [h1, hr], by rw [← h2]; exact Below.refl _ _⟩)
theorem cWith (p lo hi : Int) (r : Bool) (hr : wi p lo hi = r) (W : World) (d : Nat) (os : Array Obj) :
    Calls Tryd.prog 58 #[.int .i64 p, .int .i64 lo, .int .i64 hi] (grow (redrawn W d) os) fun e w'' => e = .returned (.bool r) ∧ ∃ p : Regrown, w'' = grow (redrawn W p.d) p.os :=
  Calls.regrown_of ((within_any p lo hi _).mono fun _ _ ⟨h1, h2⟩ => ⟨by rw [h1, hr], by rw [← h2]; exact Below.refl _ _⟩)
theorem cL1In (p lo hi : Int) (r : Bool) (hr : wi p lo hi = r) (W : World) (d : Nat) (os : Array Obj) :
    Calls Tryd.prog 89 #[.int .i64 p, .int .i64 lo, .int .i64 hi] (grow (redrawn W d) os) fun e w'' => e = .returned (.bool r) ∧ ∃ p : Regrown, w'' = grow (redrawn W p.d) p.os :=
  Calls.regrown_of ((l1In_any p lo hi _).mono fun _ _ ⟨h1, h2⟩ => ⟨by rw [h1, hr], by rw [← h2]; exact Below.refl _ _⟩)
theorem cStemOf (s t : ByteArray) (ht : stemB s = t) (hs : s.size ≤ 4611686018427387904) (hw : wordB s = true) (W : World) (d : Nat) (os : Array Obj) :
    Calls Tryd.prog 60 #[.string s] (grow (redrawn W d) os) fun e w'' => e = .returned (.string t) ∧ ∃ p : Regrown, w'' = grow (redrawn W p.d) p.os := by
  subst ht
  exact Calls.regrown_of (stemOf_any s _ hs hw)
theorem cL2Stem (s t : ByteArray) (ht : stemB s = t) (hs : s.size ≤ 4611686018427387904) (W : World) (d : Nat) (os : Array Obj) :
    Calls Tryd.prog 87 #[.string s] (grow (redrawn W d) os) fun e w'' => e = .returned (.string t) ∧ ∃ p : Regrown, w'' = grow (redrawn W p.d) p.os := by
  subst ht
  exact Calls.regrown_of (l2Stem_any s _ hs)
theorem wordsAscend_any (A : Option Addr) (c : Nat) (L : List ByteArray) (w : World) (h : SrcT w A c L) (hs : SmT L) :
    Calls Tryd.prog 57 #[.slice A L.length c] w fun e w' => e = .returned (.bool (upB L)) ∧ Below w.heap.size w w' := by
  obtain ⟨hl, hss⟩ := hs
  obtain ⟨R, hR⟩ : ∃ R, R = upB L := ⟨_, rfl⟩
  have HSS := Lib.hid hss
  rw [← hR]
  have HR := Lib.hid hR
  clear hR hss
  go_enter Tryd.func57, Tryd.ntmps57
  go_wp2_with fail
  go_loopw [3, 4, 7] (fun _ _ iv wr => ∃ k : Nat, k ≤ L.length ∧ iv = .int .i64 k ∧ Hid (toW L k = true) ∧ wr = w) (fun _ _ iv _ => L.length - (intOf iv).toNat)
  case atStart => exact ⟨0, Nat.zero_le _, rfl, rfl, rfl⟩
  case round =>
    obtain ⟨k, hk, rfl, hm, rfl⟩ := hrel
    by_cases hlt : k < L.length
    · obtain ⟨b, off, rfl, hb, x0⟩ := h.atT hlt
      have hi0 : (k : Int) < (L.length : Int) := by omega
      have hsz := HSS.out L[k] (List.getElem_mem _)
      have hok := okW_at hlt
      have HF : Hid (okW L k = false → R = false) := fun h => by rw [HR.out, toW_false hlt h]
      have HS : Hid (toW L (k + 1) = (toW L k && okW L k)) := toW_succ L k
      cases hw : wordB L[k] with
      | false =>
        have HN : Hid (R = false) := HF.out (by rw [hok, hw]; rfl)
        clear hok HF HS hm
        generalize L[k] = x at x0 hsz hw
        go_wp2_with fail
        refine (wordOk_any x _ (by omega)).mono ?_
        rintro e w1 ⟨rfl, rfl⟩
        rw [hw]
        go_wp2
        go_ret
        exact ⟨ret_bool HN.out.symm, Below.refl _ _⟩
      | true =>
        rw [hw, Bool.true_and] at hok
        rcases Nat.eq_zero_or_pos k with rfl | hk0
        · have HN : Hid (toW L (0 + 1) = true) := by show _ = _; rw [HS.out, hm.out, hok]; rfl
          clear hok HF HS hm
          generalize L[0] = x at x0 hsz hw
          rw [Nat.add_zero] at x0
          go_wp2_with fail
          refine (wordOk_any x _ (by omega)).mono ?_
          rintro e w1 ⟨rfl, rfl⟩
          rw [hw]
          go_wp2
          go_roundw
          case rel => exact ⟨0 + 1, by omega, by go_num, HN, by first | rfl | trivial⟩
          case measure => simp [intOf]; omega
        · obtain ⟨j, rfl⟩ : ∃ j, k = j + 1 := ⟨k - 1, by omega⟩
          have hjl : j < L.length := by omega
          obtain ⟨_, y0⟩ := h.allT hjl
          have hj0 : (j : Int) < (L.length : Int) := by omega
          rw [show j + 1 - 1 = j by omega, getT hjl, decide_eq_false (by omega), Bool.false_or] at hok
          have hd1 : decide ((0 : Int) < ((j + 1 : Nat) : Int)) = true := decide_eq_true (by omega)
          have hd2 : decide ((0 : Int) < (j : Int) + 1) = true := decide_eq_true (by omega)
          have hsub : (j : Int) + 1 - 1 = (j : Int) := by omega
          have HOK := Lib.hid hok
          clear hok
          generalize L[j + 1] = x at x0 hsz hw HOK
          generalize L[j] = y at y0 HOK
          cases hlw : ltS y x with
          | false =>
            have HN : Hid (R = false) := HF.out (by rw [HOK.out, hlw])
            have hlw' : Op.bytesLess y.toList x.toList = false := hlw
            clear HOK HF HS hm hlw
            go_wp2_with fail
            refine (wordOk_any x _ (by omega)).mono ?_
            rintro e w1 ⟨rfl, rfl⟩
            rw [hw]
            go_wp2
            go_ret
            exact ⟨ret_bool HN.out.symm, Below.refl _ _⟩
          | true =>
            have HN : Hid (toW L (j + 1 + 1) = true) := by show _ = _; rw [HS.out, hm.out, HOK.out, hlw]; rfl
            have hlw' : Op.bytesLess y.toList x.toList = true := hlw
            clear HOK HF HS hm hlw
            go_wp2_with fail
            refine (wordOk_any x _ (by omega)).mono ?_
            rintro e w1 ⟨rfl, rfl⟩
            rw [hw]
            go_wp2
            go_roundw
            case rel => exact ⟨j + 1 + 1, by omega, by go_num, HN, by first | rfl | trivial⟩
            case measure => simp [intOf]; omega
    · have HN : Hid (R = true) := by
        show _ = _
        rw [HR.out]
        have := hm.out
        rw [show k = L.length by omega] at this
        exact this
      clear hm
      go_wp2
      go_ret
      exact ⟨ret_bool HN.out.symm, Below.refl _ _⟩
end Go.Proofs.YtaobgliimbmemaaDoor
