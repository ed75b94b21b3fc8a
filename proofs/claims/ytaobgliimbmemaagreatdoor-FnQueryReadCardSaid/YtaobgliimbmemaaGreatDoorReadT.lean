/-
  impl's reader: token, skip.
-/
import Derived.Test.YtaobgliimbmemaaGreatDoorQLib
import Derived.Test.YtaobgliimbmemaaGreatDoorOwnQ
namespace Go.Proofs.YtaobgliimbmemaaGreatDoor
open Go.RowKit Go.Sort
set_option linter.unusedVariables false
set_option linter.unusedSimpArgs false

/-! plain -/
abbrev rest (s : ByteArray) (p : Nat) : Tx := s.data.toList.drop p
theorem rest_len (s : ByteArray) (p : Nat) : (rest s p).length = s.size - p := by rw [List.length_drop, bytes_len]
theorem ext_tb (s : ByteArray) (p m : Nat) : s.extract p m = tb ((rest s p).take (m - p)) := by
  apply tb_eq
  rw [ByteArray.data_extract, Array.toList_extract, List.extract_eq_take_drop]
theorem rest_cons {s : ByteArray} {m : Nat} (h : m < s.size) : rest s m = s[m] :: rest s (m + 1) := by
  have h2 : m < s.data.toList.length := by rw [bytes_len]; exact h
  unfold rest
  rw [List.drop_eq_getElem_cons h2]
  rfl
theorem rest_end {s : ByteArray} {m : Nat} (h : s.size ≤ m) : rest s m = [] := List.drop_of_length_le (by rw [bytes_len]; exact h)
theorem tok_rst (l : Tx) : tokL l ++ rstL l = l := List.takeWhile_append_dropWhile
theorem tok_le (l : Tx) : (tokL l).length ≤ l.length := by
  have := congrArg List.length (tok_rst l)
  rw [List.length_append] at this
  omega
theorem rest_rst (s : ByteArray) (p : Nat) : rest s (p + (tokL (rest s p)).length) = rstL (rest s p) := by
  unfold rest
  rw [← List.drop_drop]
  conv => lhs; arg 2; rw [← tok_rst (s.data.toList.drop p)]
  rw [List.drop_left]
theorem tok_take (l : Tx) : l.take (tokL l).length = tokL l := by
  conv => lhs; arg 2; rw [← tok_rst l]
  rw [List.take_left]
theorem tok_ext (s : ByteArray) (p : Nat) : s.extract p (p + (tokL (rest s p)).length) = tb (tokL (rest s p)) := by
  rw [ext_tb, show p + (tokL (rest s p)).length - p = (tokL (rest s p)).length by omega, tok_take]
theorem tok_in {s : ByteArray} {p j : Nat} (h1 : p ≤ j) (h2 : j < p + (tokL (rest s p)).length) (hj : j < s.size) : nsep s[j] = true := by
  have h3 : j - p < (tokL (rest s p)).length := by omega
  have h4 : (tokL (rest s p))[j - p] = s[j] := by
    have e := tok_take (rest s p)
    have h5 : (tokL (rest s p))[j - p]? = (rest s p)[j - p]? := by rw [← e, List.getElem?_take_of_lt h3]
    have h6 : j < s.data.toList.length := by rw [bytes_len]; exact hj
    rw [List.getElem?_eq_getElem h3, List.getElem?_drop, show p + (j - p) = j by omega, List.getElem?_eq_getElem h6] at h5
    exact Option.some.inj h5
  rw [← h4]
  have : ∀ x ∈ tokL (rest s p), nsep x = true := fun x hx => by
    have := List.all_takeWhile (p := nsep) (l := rest s p)
    exact List.all_eq_true.1 this x hx
  exact this _ (List.getElem_mem _)
theorem tok_out {s : ByteArray} {p : Nat} (h : p + (tokL (rest s p)).length < s.size) : nsep s[p + (tokL (rest s p)).length] = false := by
  have e := rest_rst s p
  rw [rest_cons h] at e
  cases hb : nsep s[p + (tokL (rest s p)).length] with
  | false => rfl
  | true =>
    have h1 : (rstL (rest s p)).head? = some s[p + (tokL (rest s p)).length] := by rw [← e]; rfl
    have h2 := List.head?_dropWhile_not nsep (rest s p)
    unfold rstL at h1
    rw [h1] at h2
    simp only [hb] at h2
    cases h2
theorem nsep_t {b : UInt8} (h : nsep b = true) : ((b.toNat : Int) != 32) = true ∧ ((b.toNat : Int) != 40) = true ∧ ((b.toNat : Int) != 41) = true := by
  unfold nsep at h
  simp at h
  refine ⟨?_, ?_, ?_⟩ <;> simp only [bne_iff_ne, ne_eq] <;> intro e
  · exact h.1 (UInt8.toNat_inj.1 (by show b.toNat = 32; omega))
  · exact h.2.1 (UInt8.toNat_inj.1 (by show b.toNat = 40; omega))
  · exact h.2.2 (UInt8.toNat_inj.1 (by show b.toNat = 41; omega))
theorem nsep_f {b : UInt8} (h : nsep b = false) : (b.toNat : Int) = 32 ∨ (b.toNat : Int) = 40 ∨ (b.toNat : Int) = 41 := by
  unfold nsep at h
  simp at h
  rcases Decidable.em (b = 32) with e | e
  · left; rw [e]; rfl
  · rcases Decidable.em (b = 40) with e2 | e2
    · right; left; rw [e2]; rfl
    · right; right; rw [h e e2]; rfl
/-! the reader -/
/-- block g is a reader of s that stands at p. -/
def RdQ (w : World) (g : Nat) (s : ByteArray) (p : Nat) : Prop := w.heap[g]? = some (.cells #[.string s, .int .i64 (p : Int)] 40 (0, 0))
theorem RdQ.c0 {w : World} {g : Nat} {s : ByteArray} {p : Nat} (h : RdQ w g s p) : w.cell? ⟨g, 0, none⟩ = some (.string s) := cells_blk h rfl
theorem RdQ.c1 {w : World} {g : Nat} {s : ByteArray} {p : Nat} (h : RdQ w g s p) : w.cell? ⟨g, 1, none⟩ = some (.int .i64 (p : Int)) := cells_blk h rfl
theorem RdQ.lt {w : World} {g : Nat} {s : ByteArray} {p : Nat} (h : RdQ w g s p) : g < w.heap.size := (Array.getElem?_eq_some_iff.1 h).1
theorem RdQ.below {w w' : World} {g : Nat} {s : ByteArray} {p : Nat} (h : RdQ w g s p) (hb : Below w.heap.size w w') : RdQ w' g s p := (hb.block g h.lt).trans h
theorem RdQ.set {w : World} {g : Nat} {s : ByteArray} {p : Nat} (h : RdQ w g s p) (n : Nat) (x : Int) (hx : x = (n : Int)) : RdQ (w.setCell ⟨g, 1, none⟩ (.int .i64 x)) g s n := by
  subst hx
  have := heap_setCell_same w g 1 _ _ (.int .i64 (n : Int)) h
  exact this
theorem OnlyS.set (w : World) (g j : Nat) (v : Value) : OnlyS (fun b => b = g) w (w.setCell ⟨g, j, none⟩ v) :=
  ⟨⟨by first | rfl | simp, by first | rfl | simp, by first | rfl | simp⟩, by simp, fun k hk hn => heap_setCell_other w ⟨g, j, none⟩ k v (by simp; exact hn)⟩
set_option maxRecDepth 8000 in
set_option maxHeartbeats 3200000 in
theorem token_any (g p : Nat) (s : ByteArray) (w : World) (h : RdQ w g s p) (hp : p ≤ s.size) (hs : s.size ≤ 1000000) :
    Calls Tryz.prog 26 #[.pointer (some ⟨g, 0, none⟩)] w fun e w' => (e = .returned (.string (tb (tokL (rest s p)))) ∧ RdQ w' g s (p + (tokL (rest s p)).length)) ∧ OnlyS (fun b => b = g) w w' := by
  obtain ⟨n, hn⟩ : ∃ n, n = p + (tokL (rest s p)).length := ⟨_, rfl⟩
  have HX := Lib.hid (tok_ext s p)
  have hns : n ≤ s.size := by have := tok_le (rest s p); rw [rest_len] at this; omega
  have hpn : p ≤ n := by omega
  have HI : Hid (∀ j, p ≤ j → j < n → ∀ hj : j < s.size, nsep s[j] = true) := fun j h1 h2 hj => tok_in h1 (by omega) hj
  have HO : Hid (∀ h : n < s.size, nsep s[n] = false) := fun h => by subst hn; exact tok_out h
  rw [← hn] at HX ⊢
  clear hn
  generalize tb (tokL (rest s p)) = t at HX ⊢
  have hc1 := h.c1
  go_enter Tryz.func26, Tryz.ntmps26
  go_wp2_with fail
  go_loopw [] (fun wr => ∃ m : Nat, p ≤ m ∧ m ≤ n ∧ RdQ wr g s m ∧ Hid (OnlyS (fun b => b = g) w wr)) (fun wr => n - (match wr.cell? ⟨g, 1, none⟩ with | some v => (intOf v).toNat | none => 0))
  case atStart => exact ⟨p, Nat.le_refl _, hpn, h, OnlyS.refl _ _⟩
  case round =>
    clear h hc1
    obtain ⟨m, hpm, hmn, hr, hz⟩ := hrel
    have c0 := hr.c0
    have c1 := hr.c1
    have k0 := cell_regrown c0
    have k1 := cell_regrown c1
    have hpi : (p : Int) ≤ (m : Int) := by omega
    by_cases hlt : m < n
    · have hms : m < s.size := by omega
      have hi0 : (m : Int) < (s.size : Int) := by omega
      have hd0 : decide ((m : Int) < (s.size : Int)) = true := decide_eq_true hi0
      obtain ⟨g1, g2, g3⟩ := nsep_t (HI.out m hpm hlt hms)
      have hw1 : IntKind.i64.wrap ((m : Int) + 1) = (m : Int) + 1 := by rw [IntKind.wrap_i64] <;> omega
      clear c0 c1
      go_wp2_with fail
      refine region_qw (by kernel_rfl) (by kernel_rfl) ?_
      repeat (
        refine qw_step (fun K hK => ?_)
        go_simp
        first
          | (refine hK _ ?_; clear hK K)
          | fail)
      refine qw_nil ?_
      intro _ hw'
      obtain ⟨⟨dq, osq⟩, hw''⟩ := hw'
      subst hw''
      have hbw := below_regrown wr dq osq
      generalize grow (redrawn wr dq) osq = Wq at hbw ⊢
      have hr2 := hr.below hbw
      have hz2 := Lib.hid (hz.out.trans (OnlyS.of hbw))
      have c2 := hr2.c1
      have f2 := frozen_blk hr2 1
      have hr3 := Lib.hid (hr2.set (m + 1) ((m : Int) + 1) (by omega))
      have hz3 := Lib.hid (hz2.out.trans (OnlyS.set Wq g 1 (.int .i64 ((m : Int) + 1))))
      have c3 : (Wq.setCell ⟨g, 1, none⟩ (.int .i64 ((m : Int) + 1))).cell? ⟨g, 1, none⟩ = some (.int .i64 ((m : Int) + 1)) := by have := hr3.out.c1; rw [this]; congr 2
      have C4 := Lib.hid hr.c1
      clear hr hz hbw k0 k1 hr2 hz2 g1 g2 g3 HI
      go_wp2
      go_roundw
      case rel => exact ⟨m + 1, by omega, by omega, hr3.out, hz3⟩
      case measure => rw [c3, C4.out]; simp [intOf]; omega
    · obtain rfl : m = n := by omega
      by_cases hms : m < s.size
      · have hi0 : (m : Int) < (s.size : Int) := by omega
        have hi1 : (m : Int) ≤ (s.size : Int) := by omega
        have hd0 : decide ((m : Int) < (s.size : Int)) = true := decide_eq_true hi0
        have hsep := nsep_f (HO.out hms)
        clear c0 c1 HI HO
        rcases hsep with g1 | g1 | g1
        · have h1 : ((s[m].toNat : Int) != 32) = false := by rw [g1]; rfl
          clear g1
          go_wp2_with fail
          refine region_qw (by kernel_rfl) (by kernel_rfl) ?_
          repeat (
            refine qw_step (fun K hK => ?_)
            go_simp
            first
              | (refine hK _ ?_; clear hK K)
              | fail)
          refine qw_nil ?_
          intro _ hw'
          obtain ⟨⟨dq, osq⟩, hw''⟩ := hw'
          subst hw''
          have hbw := below_regrown wr dq osq
          generalize grow (redrawn wr dq) osq = Wq at hbw ⊢
          have hr2 := hr.below hbw
          have hz2 := Lib.hid (hz.out.trans (OnlyS.of hbw))
          have k2 := cell_regrown hr2.c0
          have k3 := cell_regrown hr2.c1
          clear hr hz hbw k0 k1
          go_wp2_with fail
          refine region_qw (by kernel_rfl) (by kernel_rfl) ?_
          repeat (
            refine qw_step (fun K hK => ?_)
            go_simp
            first
              | (refine hK _ ?_; clear hK K)
              | fail)
          refine qw_nil ?_
          intro _ hw'
          obtain ⟨⟨dr, osr⟩, hw''⟩ := hw'
          subst hw''
          have hbw := below_regrown Wq dr osr
          generalize grow (redrawn Wq dr) osr = Wr at hbw ⊢
          have hr3 := Lib.hid (hr2.below hbw)
          have hz3 := Lib.hid (hz2.out.trans (OnlyS.of hbw))
          clear hr2 hz2 hbw k2 k3
          go_wp2
          go_ret
          exact ⟨⟨by rw [← HX.out]; rfl, hr3.out⟩, hz3.out⟩
        · have h1 : ((s[m].toNat : Int) != 32) = true := by rw [g1]; rfl
          have h2 : ((s[m].toNat : Int) != 40) = false := by rw [g1]; rfl
          clear g1
          go_wp2_with fail
          refine region_qw (by kernel_rfl) (by kernel_rfl) ?_
          repeat (
            refine qw_step (fun K hK => ?_)
            go_simp
            first
              | (refine hK _ ?_; clear hK K)
              | fail)
          refine qw_nil ?_
          intro _ hw'
          obtain ⟨⟨dq, osq⟩, hw''⟩ := hw'
          subst hw''
          have hbw := below_regrown wr dq osq
          generalize grow (redrawn wr dq) osq = Wq at hbw ⊢
          have hr2 := hr.below hbw
          have hz2 := Lib.hid (hz.out.trans (OnlyS.of hbw))
          have k2 := cell_regrown hr2.c0
          have k3 := cell_regrown hr2.c1
          clear hr hz hbw k0 k1
          go_wp2_with fail
          refine region_qw (by kernel_rfl) (by kernel_rfl) ?_
          repeat (
            refine qw_step (fun K hK => ?_)
            go_simp
            first
              | (refine hK _ ?_; clear hK K)
              | fail)
          refine qw_nil ?_
          intro _ hw'
          obtain ⟨⟨dr, osr⟩, hw''⟩ := hw'
          subst hw''
          have hbw := below_regrown Wq dr osr
          generalize grow (redrawn Wq dr) osr = Wr at hbw ⊢
          have hr3 := Lib.hid (hr2.below hbw)
          have hz3 := Lib.hid (hz2.out.trans (OnlyS.of hbw))
          clear hr2 hz2 hbw k2 k3
          go_wp2
          go_ret
          exact ⟨⟨by rw [← HX.out]; rfl, hr3.out⟩, hz3.out⟩
        · have h1 : ((s[m].toNat : Int) != 32) = true := by rw [g1]; rfl
          have h2 : ((s[m].toNat : Int) != 40) = true := by rw [g1]; rfl
          have h3 : ((s[m].toNat : Int) != 41) = false := by rw [g1]; rfl
          clear g1
          go_wp2_with fail
          refine region_qw (by kernel_rfl) (by kernel_rfl) ?_
          repeat (
            refine qw_step (fun K hK => ?_)
            go_simp
            first
              | (refine hK _ ?_; clear hK K)
              | fail)
          refine qw_nil ?_
          intro _ hw'
          obtain ⟨⟨dq, osq⟩, hw''⟩ := hw'
          subst hw''
          have hbw := below_regrown wr dq osq
          generalize grow (redrawn wr dq) osq = Wq at hbw ⊢
          have hr2 := hr.below hbw
          have hz2 := Lib.hid (hz.out.trans (OnlyS.of hbw))
          have k2 := cell_regrown hr2.c0
          have k3 := cell_regrown hr2.c1
          clear hr hz hbw k0 k1
          go_wp2_with fail
          refine region_qw (by kernel_rfl) (by kernel_rfl) ?_
          repeat (
            refine qw_step (fun K hK => ?_)
            go_simp
            first
              | (refine hK _ ?_; clear hK K)
              | fail)
          refine qw_nil ?_
          intro _ hw'
          obtain ⟨⟨dr, osr⟩, hw''⟩ := hw'
          subst hw''
          have hbw := below_regrown Wq dr osr
          generalize grow (redrawn Wq dr) osr = Wr at hbw ⊢
          have hr3 := Lib.hid (hr2.below hbw)
          have hz3 := Lib.hid (hz2.out.trans (OnlyS.of hbw))
          clear hr2 hz2 hbw k2 k3
          go_wp2
          go_ret
          exact ⟨⟨by rw [← HX.out]; rfl, hr3.out⟩, hz3.out⟩
      · have hi0 : ¬ (m : Int) < (s.size : Int) := by omega
        have hi1 : (m : Int) ≤ (s.size : Int) := by omega
        have hd0 : decide ((m : Int) < (s.size : Int)) = false := decide_eq_false hi0
        clear c0 c1 HI HO
        go_wp2_with fail
        refine region_qw (by kernel_rfl) (by kernel_rfl) ?_
        repeat (
          refine qw_step (fun K hK => ?_)
          go_simp
          first
            | (refine hK _ ?_; clear hK K)
            | fail)
        refine qw_nil ?_
        intro _ hw'
        obtain ⟨⟨dq, osq⟩, hw''⟩ := hw'
        subst hw''
        have hbw := below_regrown wr dq osq
        generalize grow (redrawn wr dq) osq = Wq at hbw ⊢
        have hr2 := hr.below hbw
        have hz2 := Lib.hid (hz.out.trans (OnlyS.of hbw))
        have k2 := cell_regrown hr2.c0
        have k3 := cell_regrown hr2.c1
        clear hr hz hbw k0 k1
        go_wp2_with fail
        refine region_qw (by kernel_rfl) (by kernel_rfl) ?_
        repeat (
          refine qw_step (fun K hK => ?_)
          go_simp
          first
            | (refine hK _ ?_; clear hK K)
            | fail)
        refine qw_nil ?_
        intro _ hw'
        obtain ⟨⟨dr, osr⟩, hw''⟩ := hw'
        subst hw''
        have hbw := below_regrown Wq dr osr
        generalize grow (redrawn Wq dr) osr = Wr at hbw ⊢
        have hr3 := Lib.hid (hr2.below hbw)
        have hz3 := Lib.hid (hz2.out.trans (OnlyS.of hbw))
        clear hr2 hz2 hbw k2 k3
        go_wp2
        go_ret
        exact ⟨⟨by rw [← HX.out]; rfl, hr3.out⟩, hz3.out⟩
set_option maxRecDepth 8000 in
set_option maxHeartbeats 3200000 in
theorem skip_yes (g p : Nat) (s : ByteArray) (b : UInt8) (y : Int) (hy : y = (b.toNat : Int)) (w : World) (h : RdQ w g s p) (hp : p < s.size) (hb : s[p] = b) (hs : s.size ≤ 1000000) :
    Calls Tryz.prog 24 #[.pointer (some ⟨g, 0, none⟩), .int .u8 y] w fun e w' => (e = .returned (.bool true) ∧ RdQ w' g s (p + 1)) ∧ OnlyS (fun k => k = g) w w' := by
  have k0 := cell_regrown h.c0
  have k1 := cell_regrown h.c1
  have hi0 : (p : Int) < (s.size : Int) := by omega
  have hd0 : decide ((p : Int) < (s.size : Int)) = true := decide_eq_true hi0
  have hpz : (0 : Int) ≤ (p : Int) := by omega
  have e1 : ((s[p].toNat : Int) == y) = true := by rw [hy, hb]; simp
  have hw1 : IntKind.i64.wrap ((p : Int) + 1) = (p : Int) + 1 := by rw [IntKind.wrap_i64] <;> omega
  clear hy hb
  go_enter Tryz.func24, Tryz.ntmps24
  go_wp2_with fail
  refine region_qw (by kernel_rfl) (by kernel_rfl) ?_
  repeat (
    refine qw_step (fun K hK => ?_)
    go_simp
    first
      | (refine hK _ ?_; clear hK K)
      | fail)
  refine qw_nil ?_
  intro _ hw'
  obtain ⟨⟨dq, osq⟩, hw''⟩ := hw'
  subst hw''
  have hbw := below_regrown w dq osq
  generalize grow (redrawn w dq) osq = Wq at hbw ⊢
  have h2 := h.below hbw
  have c1 := h2.c1
  have f1 := frozen_blk h2 1
  have HF := Lib.hid (h2.set (p + 1) ((p : Int) + 1) (by omega))
  have HZ := Lib.hid ((OnlyS.of hbw : OnlyS (fun k => k = g) w Wq).trans (OnlyS.set Wq g 1 (.int .i64 ((p : Int) + 1))))
  clear h hbw k0 k1 h2 e1
  go_wp2
  go_ret
  exact ⟨⟨rfl, HF.out⟩, HZ.out⟩
set_option maxRecDepth 8000 in
set_option maxHeartbeats 3200000 in
theorem skip_no (g p : Nat) (s : ByteArray) (b : UInt8) (y : Int) (hy : y = (b.toNat : Int)) (w : World) (h : RdQ w g s p) (hp : p ≤ s.size) (hb : ∀ h : p < s.size, s[p] ≠ b) (hs : s.size ≤ 1000000) :
    Calls Tryz.prog 24 #[.pointer (some ⟨g, 0, none⟩), .int .u8 y] w fun e w' => (e = .returned (.bool false) ∧ RdQ w' g s p) ∧ OnlyS (fun k => k = g) w w' := by
  have k0 := cell_regrown h.c0
  have k1 := cell_regrown h.c1
  have hpz : (0 : Int) ≤ (p : Int) := by omega
  have hw1 : IntKind.i64.wrap ((p : Int) + 1) = (p : Int) + 1 := by rw [IntKind.wrap_i64] <;> omega
  by_cases hlt : p < s.size
  · have hi0 : (p : Int) < (s.size : Int) := by omega
    have hd0 : decide ((p : Int) < (s.size : Int)) = true := decide_eq_true hi0
    have e1 : ((s[p].toNat : Int) == y) = false := by
      rw [hy, beq_eq_false_iff_ne]
      exact fun e => hb hlt (UInt8.toNat_inj.1 (by omega))
    clear hy hb
    go_enter Tryz.func24, Tryz.ntmps24
    go_wp2_with fail
    refine region_qw (by kernel_rfl) (by kernel_rfl) ?_
    repeat (
      refine qw_step (fun K hK => ?_)
      go_simp
      first
        | (refine hK _ ?_; clear hK K)
        | fail)
    refine qw_nil ?_
    intro _ hw'
    obtain ⟨⟨dq, osq⟩, hw''⟩ := hw'
    subst hw''
    have hbw := below_regrown w dq osq
    generalize grow (redrawn w dq) osq = Wq at hbw ⊢
    have h2 := Lib.hid (h.below hbw)
    have HZ := Lib.hid (OnlyS.of hbw : OnlyS (fun k => k = g) w Wq)
    clear h hbw k0 k1 e1
    go_wp2
    go_ret
    exact ⟨⟨rfl, h2.out⟩, HZ.out⟩
  · have hi0 : ¬ (p : Int) < (s.size : Int) := by omega
    have hd0 : decide ((p : Int) < (s.size : Int)) = false := decide_eq_false hi0
    clear hy hb
    go_enter Tryz.func24, Tryz.ntmps24
    go_wp2_with fail
    refine region_qw (by kernel_rfl) (by kernel_rfl) ?_
    repeat (
      refine qw_step (fun K hK => ?_)
      go_simp
      first
        | (refine hK _ ?_; clear hK K)
        | fail)
    refine qw_nil ?_
    intro _ hw'
    obtain ⟨⟨dq, osq⟩, hw''⟩ := hw'
    subst hw''
    have hbw := below_regrown w dq osq
    generalize grow (redrawn w dq) osq = Wq at hbw ⊢
    have h2 := Lib.hid (h.below hbw)
    have HZ := Lib.hid (OnlyS.of hbw : OnlyS (fun k => k = g) w Wq)
    clear h hbw k0 k1
    go_wp2
    go_ret
    exact ⟨⟨rfl, h2.out⟩, HZ.out⟩
end Go.Proofs.YtaobgliimbmemaaGreatDoor
