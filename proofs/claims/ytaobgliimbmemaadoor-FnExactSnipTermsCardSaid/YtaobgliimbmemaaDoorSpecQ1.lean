/-
  spec.l11One: printed by mk_specq1.py.
-/
import Derived.Test.YtaobgliimbmemaaDoorSpecQ0
namespace Go.Proofs.YtaobgliimbmemaaDoor
open Go.RowKit Go.Sort
set_option linter.unusedVariables false
set_option linter.unusedSimpArgs false

def hdW (ws : List ByteArray) : ByteArray := ws.getD 0 .empty
def oneB (q : QD) : Bool :=
  if q.kd = 1 then bareB q false false false false
  else if q.kd = 2 then bareB q true true false false && (wordB q.fd && wsB q.ws 1)
  else if q.kd = 3 then bareB q true true true false && (wordB q.fd && (wsB q.ws 4 && (decide (1 < q.ws.length) && (decide (q.tgt = 0) && wi q.fr 0 5))))
  else if q.kd = 4 then bareB q true true true false && (wordB q.fd && (wsB q.ws 1 && (decide (q.tgt = 0) && wi q.fr 1 2)))
  else if q.kd = 5 then bareB q true true false false && (wordB q.fd && (decide (q.ws.length = 1) && (globB (hdW q.ws) && !(wordB (hdW q.ws)))))
  else if q.kd = 6 then bareB q true false true false && (wordB q.fd && (wi q.fr 0 999999999 && wi q.tgt q.fr 999999999))
  else if q.kd = 7 then bareB q false false false true && wi (q.ks.length : Int) 2 4
  else if q.kd = 8 then bareB q false false false true && wi (q.ks.length : Int) 2 4
  else if q.kd = 9 then bareB q false false false true && decide (q.ks.length = 2)
  else if q.kd = 10 then bareB q false false true true && (decide (q.ks.length = 1) && (decide (q.tgt = 0) && wi q.fr 2 9))
  else false
set_option maxRecDepth 6000 in
theorem one1 (fd : ByteArray) (ws : List ByteArray) (fr tq : Int) (ks : List QD) (A : Option Addr) (c : Nat) (B : Option Addr) (d : Nat) (w : World) (hS : SrcT w A c ws) (hf1 : fd.size ≤ 1048576) (hw1 : ws.length ≤ 1048576) (hw2 : ∀ s ∈ ws, s.size ≤ 1048576) (hk1 : ks.length ≤ 1048576) :
    Calls Tryd.prog 103 #[.agg #[.int .i64 1, .string fd, .slice A ws.length c, .int .i64 fr, .int .i64 tq, .slice B ks.length d]] w fun e w' => e = .returned (.bool (oneB ⟨1, fd, ws, fr, tq, ks⟩)) ∧ Below w.heap.size w w' := by
  obtain ⟨R, hR⟩ : ∃ R, R = oneB ⟨1, fd, ws, fr, tq, ks⟩ := ⟨_, rfl⟩
  rw [← hR]
  have HR := Lib.hid hR
  have HW := Lib.hid hw2
  clear hR hw2
  have cb := alloc_new w (.cells #[.int .i64 1, .string fd, .slice A ws.length c, .int .i64 fr, .int .i64 tq, .slice B ks.length d] 26)
  have hB : Below w.heap.size w (w.alloc (.cells #[.int .i64 1, .string fd, .slice A ws.length c, .int .i64 fr, .int .i64 tq, .slice B ks.length d] 26)) := by (repeat' (first | exact Below.refl _ _ | apply Below.alloc | apply Below.setCell | apply Below.drew | apply below_draws)) <;> (first | omega | (simp <;> omega))
  have sz : w.heap.size < (w.alloc (.cells #[.int .i64 1, .string fd, .slice A ws.length c, .int .i64 fr, .int .i64 tq, .slice B ks.length d] 26)).heap.size := by simp
  obtain ⟨x0, x1, x2, x3, x4, x5⟩ := blk6 cb
  have HS := Lib.hid hS
  clear hS
  go_enter Tryd.func103, Tryd.ntmps103
  go_wp2_with fail
  generalize (w.alloc (.cells #[.int .i64 1, .string fd, .slice A ws.length c, .int .i64 fr, .int .i64 tq, .slice B ks.length d] 26)) = W0 at cb hB sz x0 x1 x2 x3 x4 x5 ⊢
  refine (bareFFFF ⟨1, fd, ws, fr, tq, ks⟩ A c B d _).mono ?_
  rintro e w0 ⟨rfl, hb⟩
  replace cb := (hb.block _ sz).trans cb
  replace sz := Nat.lt_of_lt_of_le sz hb.size
  replace hB := hB.trans (hb.mono hB.size)
  clear hb x0 x1 x2 x3 x4 x5
  obtain ⟨x0, x1, x2, x3, x4, x5⟩ := blk6 cb
  cases h0 : bareB ⟨1, fd, ws, fr, tq, ks⟩ false false false false with
  | false =>
    have HV : Hid (R = false) := by show _ = _; rw [HR.out]; simp [oneB, h0]
    go_wp2
    go_ret
    exact ⟨ret_bool HV.out.symm, hB⟩
  | true =>
    have HV : Hid (R = true) := by show _ = _; rw [HR.out]; simp [oneB, h0]
    go_wp2
    go_ret
    exact ⟨ret_bool HV.out.symm, hB⟩
set_option maxRecDepth 6000 in
theorem one2 (fd : ByteArray) (ws : List ByteArray) (fr tq : Int) (ks : List QD) (A : Option Addr) (c : Nat) (B : Option Addr) (d : Nat) (w : World) (hS : SrcT w A c ws) (hf1 : fd.size ≤ 1048576) (hw1 : ws.length ≤ 1048576) (hw2 : ∀ s ∈ ws, s.size ≤ 1048576) (hk1 : ks.length ≤ 1048576) :
    Calls Tryd.prog 103 #[.agg #[.int .i64 2, .string fd, .slice A ws.length c, .int .i64 fr, .int .i64 tq, .slice B ks.length d]] w fun e w' => e = .returned (.bool (oneB ⟨2, fd, ws, fr, tq, ks⟩)) ∧ Below w.heap.size w w' := by
  obtain ⟨R, hR⟩ : ∃ R, R = oneB ⟨2, fd, ws, fr, tq, ks⟩ := ⟨_, rfl⟩
  rw [← hR]
  have HR := Lib.hid hR
  have HW := Lib.hid hw2
  clear hR hw2
  have cb := alloc_new w (.cells #[.int .i64 2, .string fd, .slice A ws.length c, .int .i64 fr, .int .i64 tq, .slice B ks.length d] 26)
  have hB : Below w.heap.size w (w.alloc (.cells #[.int .i64 2, .string fd, .slice A ws.length c, .int .i64 fr, .int .i64 tq, .slice B ks.length d] 26)) := by (repeat' (first | exact Below.refl _ _ | apply Below.alloc | apply Below.setCell | apply Below.drew | apply below_draws)) <;> (first | omega | (simp <;> omega))
  have sz : w.heap.size < (w.alloc (.cells #[.int .i64 2, .string fd, .slice A ws.length c, .int .i64 fr, .int .i64 tq, .slice B ks.length d] 26)).heap.size := by simp
  obtain ⟨x0, x1, x2, x3, x4, x5⟩ := blk6 cb
  have HS := Lib.hid hS
  clear hS
  go_enter Tryd.func103, Tryd.ntmps103
  go_wp2_with fail
  generalize (w.alloc (.cells #[.int .i64 2, .string fd, .slice A ws.length c, .int .i64 fr, .int .i64 tq, .slice B ks.length d] 26)) = W0 at cb hB sz x0 x1 x2 x3 x4 x5 ⊢
  refine (bareTTFF ⟨2, fd, ws, fr, tq, ks⟩ A c B d _).mono ?_
  rintro e w0 ⟨rfl, hb⟩
  replace cb := (hb.block _ sz).trans cb
  replace sz := Nat.lt_of_lt_of_le sz hb.size
  replace hB := hB.trans (hb.mono hB.size)
  clear hb x0 x1 x2 x3 x4 x5
  obtain ⟨x0, x1, x2, x3, x4, x5⟩ := blk6 cb
  cases h0 : bareB ⟨2, fd, ws, fr, tq, ks⟩ true true false false with
  | false =>
    have HV : Hid (R = false) := by show _ = _; rw [HR.out]; simp [oneB, h0]
    go_wp2
    go_ret
    exact ⟨ret_bool HV.out.symm, hB⟩
  | true =>
    go_wp2_with fail
    refine (l1WordOk_any fd _ (by omega)).mono ?_
    rintro e w1 ⟨rfl, hb⟩
    replace cb := (hb.block _ sz).trans cb
    replace sz := Nat.lt_of_lt_of_le sz hb.size
    replace hB := hB.trans (hb.mono hB.size)
    clear hb x0 x1 x2 x3 x4 x5
    obtain ⟨x0, x1, x2, x3, x4, x5⟩ := blk6 cb
    cases h1 : wordB fd with
    | false =>
      have HV : Hid (R = false) := by show _ = _; rw [HR.out]; simp [oneB, h0, h1]
      go_wp2
      go_ret
      exact ⟨ret_bool HV.out.symm, hB⟩
    | true =>
      go_wp2_with fail
      refine (l11Words_any A c ws 1 _ (HS.out.below hB) hw1 HW.out).mono ?_
      rintro e w2 ⟨rfl, hb⟩
      replace cb := (hb.block _ sz).trans cb
      replace sz := Nat.lt_of_lt_of_le sz hb.size
      replace hB := hB.trans (hb.mono hB.size)
      clear hb x0 x1 x2 x3 x4 x5
      obtain ⟨x0, x1, x2, x3, x4, x5⟩ := blk6 cb
      cases h2 : wsB ws 1 with
      | false =>
        have HV : Hid (R = false) := by show _ = _; rw [HR.out]; simp [oneB, h0, h1, h2]
        go_wp2
        go_ret
        exact ⟨ret_bool HV.out.symm, hB⟩
      | true =>
        have HV : Hid (R = true) := by show _ = _; rw [HR.out]; simp [oneB, h0, h1, h2]
        go_wp2
        go_ret
        exact ⟨ret_bool HV.out.symm, hB⟩
set_option maxRecDepth 6000 in
theorem one3 (fd : ByteArray) (ws : List ByteArray) (fr tq : Int) (ks : List QD) (A : Option Addr) (c : Nat) (B : Option Addr) (d : Nat) (w : World) (hS : SrcT w A c ws) (hf1 : fd.size ≤ 1048576) (hw1 : ws.length ≤ 1048576) (hw2 : ∀ s ∈ ws, s.size ≤ 1048576) (hk1 : ks.length ≤ 1048576) :
    Calls Tryd.prog 103 #[.agg #[.int .i64 3, .string fd, .slice A ws.length c, .int .i64 fr, .int .i64 tq, .slice B ks.length d]] w fun e w' => e = .returned (.bool (oneB ⟨3, fd, ws, fr, tq, ks⟩)) ∧ Below w.heap.size w w' := by
  obtain ⟨R, hR⟩ : ∃ R, R = oneB ⟨3, fd, ws, fr, tq, ks⟩ := ⟨_, rfl⟩
  rw [← hR]
  have HR := Lib.hid hR
  have HW := Lib.hid hw2
  clear hR hw2
  have cb := alloc_new w (.cells #[.int .i64 3, .string fd, .slice A ws.length c, .int .i64 fr, .int .i64 tq, .slice B ks.length d] 26)
  have hB : Below w.heap.size w (w.alloc (.cells #[.int .i64 3, .string fd, .slice A ws.length c, .int .i64 fr, .int .i64 tq, .slice B ks.length d] 26)) := by (repeat' (first | exact Below.refl _ _ | apply Below.alloc | apply Below.setCell | apply Below.drew | apply below_draws)) <;> (first | omega | (simp <;> omega))
  have sz : w.heap.size < (w.alloc (.cells #[.int .i64 3, .string fd, .slice A ws.length c, .int .i64 fr, .int .i64 tq, .slice B ks.length d] 26)).heap.size := by simp
  obtain ⟨x0, x1, x2, x3, x4, x5⟩ := blk6 cb
  have HS := Lib.hid hS
  clear hS
  go_enter Tryd.func103, Tryd.ntmps103
  go_wp2_with fail
  generalize (w.alloc (.cells #[.int .i64 3, .string fd, .slice A ws.length c, .int .i64 fr, .int .i64 tq, .slice B ks.length d] 26)) = W0 at cb hB sz x0 x1 x2 x3 x4 x5 ⊢
  refine (bareTTTF ⟨3, fd, ws, fr, tq, ks⟩ A c B d _).mono ?_
  rintro e w0 ⟨rfl, hb⟩
  replace cb := (hb.block _ sz).trans cb
  replace sz := Nat.lt_of_lt_of_le sz hb.size
  replace hB := hB.trans (hb.mono hB.size)
  clear hb x0 x1 x2 x3 x4 x5
  obtain ⟨x0, x1, x2, x3, x4, x5⟩ := blk6 cb
  cases h0 : bareB ⟨3, fd, ws, fr, tq, ks⟩ true true true false with
  | false =>
    have HV : Hid (R = false) := by show _ = _; rw [HR.out]; simp [oneB, h0]
    go_wp2
    go_ret
    exact ⟨ret_bool HV.out.symm, hB⟩
  | true =>
    go_wp2_with fail
    refine (l1WordOk_any fd _ (by omega)).mono ?_
    rintro e w1 ⟨rfl, hb⟩
    replace cb := (hb.block _ sz).trans cb
    replace sz := Nat.lt_of_lt_of_le sz hb.size
    replace hB := hB.trans (hb.mono hB.size)
    clear hb x0 x1 x2 x3 x4 x5
    obtain ⟨x0, x1, x2, x3, x4, x5⟩ := blk6 cb
    cases h1 : wordB fd with
    | false =>
      have HV : Hid (R = false) := by show _ = _; rw [HR.out]; simp [oneB, h0, h1]
      go_wp2
      go_ret
      exact ⟨ret_bool HV.out.symm, hB⟩
    | true =>
      go_wp2_with fail
      refine (l11Words_any A c ws 4 _ (HS.out.below hB) hw1 HW.out).mono ?_
      rintro e w2 ⟨rfl, hb⟩
      replace cb := (hb.block _ sz).trans cb
      replace sz := Nat.lt_of_lt_of_le sz hb.size
      replace hB := hB.trans (hb.mono hB.size)
      clear hb x0 x1 x2 x3 x4 x5
      obtain ⟨x0, x1, x2, x3, x4, x5⟩ := blk6 cb
      cases h2 : wsB ws 4 with
      | false =>
        have HV : Hid (R = false) := by show _ = _; rw [HR.out]; simp [oneB, h0, h1, h2]
        go_wp2
        go_ret
        exact ⟨ret_bool HV.out.symm, hB⟩
      | true =>
        by_cases h3 : 1 < ws.length
        · have n3 : (1 : Int) < (ws.length : Int) := by omega
          have H3 := Lib.hid h3
          by_cases h4 : tq = 0
          · subst h4
            go_wp2_with fail
            refine (l1In_any fr 0 5 _).mono ?_
            rintro e w5 ⟨rfl, rfl⟩
            cases h5 : wi fr 0 5 with
            | false =>
              have HV : Hid (R = false) := by show _ = _; rw [HR.out]; simp [oneB, h0, h1, h2, H3.out, h5]
              go_wp2
              go_ret
              exact ⟨ret_bool HV.out.symm, hB⟩
            | true =>
              have HV : Hid (R = true) := by show _ = _; rw [HR.out]; simp [oneB, h0, h1, h2, H3.out, h5]
              go_wp2
              go_ret
              exact ⟨ret_bool HV.out.symm, hB⟩
          · have n4 : (tq == 0) = false := by rw [beq_eq_false_iff_ne]; exact h4
            have HV : Hid (R = false) := by show _ = _; rw [HR.out]; simp [oneB, h0, h1, h2, H3.out, h4]
            go_wp2
            go_ret
            exact ⟨ret_bool HV.out.symm, hB⟩
        · have n3 : ¬ (1 : Int) < (ws.length : Int) := by omega
          have m3 : decide ((1 : Int) < (ws.length : Int)) = false := decide_eq_false n3
          have HV : Hid (R = false) := by show _ = _; rw [HR.out]; simp [oneB, h0, h1, h2, h3]
          go_wp2
          go_ret
          exact ⟨ret_bool HV.out.symm, hB⟩
set_option maxRecDepth 6000 in
theorem one4 (fd : ByteArray) (ws : List ByteArray) (fr tq : Int) (ks : List QD) (A : Option Addr) (c : Nat) (B : Option Addr) (d : Nat) (w : World) (hS : SrcT w A c ws) (hf1 : fd.size ≤ 1048576) (hw1 : ws.length ≤ 1048576) (hw2 : ∀ s ∈ ws, s.size ≤ 1048576) (hk1 : ks.length ≤ 1048576) :
    Calls Tryd.prog 103 #[.agg #[.int .i64 4, .string fd, .slice A ws.length c, .int .i64 fr, .int .i64 tq, .slice B ks.length d]] w fun e w' => e = .returned (.bool (oneB ⟨4, fd, ws, fr, tq, ks⟩)) ∧ Below w.heap.size w w' := by
  obtain ⟨R, hR⟩ : ∃ R, R = oneB ⟨4, fd, ws, fr, tq, ks⟩ := ⟨_, rfl⟩
  rw [← hR]
  have HR := Lib.hid hR
  have HW := Lib.hid hw2
  clear hR hw2
  have cb := alloc_new w (.cells #[.int .i64 4, .string fd, .slice A ws.length c, .int .i64 fr, .int .i64 tq, .slice B ks.length d] 26)
  have hB : Below w.heap.size w (w.alloc (.cells #[.int .i64 4, .string fd, .slice A ws.length c, .int .i64 fr, .int .i64 tq, .slice B ks.length d] 26)) := by (repeat' (first | exact Below.refl _ _ | apply Below.alloc | apply Below.setCell | apply Below.drew | apply below_draws)) <;> (first | omega | (simp <;> omega))
  have sz : w.heap.size < (w.alloc (.cells #[.int .i64 4, .string fd, .slice A ws.length c, .int .i64 fr, .int .i64 tq, .slice B ks.length d] 26)).heap.size := by simp
  obtain ⟨x0, x1, x2, x3, x4, x5⟩ := blk6 cb
  have HS := Lib.hid hS
  clear hS
  go_enter Tryd.func103, Tryd.ntmps103
  go_wp2_with fail
  generalize (w.alloc (.cells #[.int .i64 4, .string fd, .slice A ws.length c, .int .i64 fr, .int .i64 tq, .slice B ks.length d] 26)) = W0 at cb hB sz x0 x1 x2 x3 x4 x5 ⊢
  refine (bareTTTF ⟨4, fd, ws, fr, tq, ks⟩ A c B d _).mono ?_
  rintro e w0 ⟨rfl, hb⟩
  replace cb := (hb.block _ sz).trans cb
  replace sz := Nat.lt_of_lt_of_le sz hb.size
  replace hB := hB.trans (hb.mono hB.size)
  clear hb x0 x1 x2 x3 x4 x5
  obtain ⟨x0, x1, x2, x3, x4, x5⟩ := blk6 cb
  cases h0 : bareB ⟨4, fd, ws, fr, tq, ks⟩ true true true false with
  | false =>
    have HV : Hid (R = false) := by show _ = _; rw [HR.out]; simp [oneB, h0]
    go_wp2
    go_ret
    exact ⟨ret_bool HV.out.symm, hB⟩
  | true =>
    go_wp2_with fail
    refine (l1WordOk_any fd _ (by omega)).mono ?_
    rintro e w1 ⟨rfl, hb⟩
    replace cb := (hb.block _ sz).trans cb
    replace sz := Nat.lt_of_lt_of_le sz hb.size
    replace hB := hB.trans (hb.mono hB.size)
    clear hb x0 x1 x2 x3 x4 x5
    obtain ⟨x0, x1, x2, x3, x4, x5⟩ := blk6 cb
    cases h1 : wordB fd with
    | false =>
      have HV : Hid (R = false) := by show _ = _; rw [HR.out]; simp [oneB, h0, h1]
      go_wp2
      go_ret
      exact ⟨ret_bool HV.out.symm, hB⟩
    | true =>
      go_wp2_with fail
      refine (l11Words_any A c ws 1 _ (HS.out.below hB) hw1 HW.out).mono ?_
      rintro e w2 ⟨rfl, hb⟩
      replace cb := (hb.block _ sz).trans cb
      replace sz := Nat.lt_of_lt_of_le sz hb.size
      replace hB := hB.trans (hb.mono hB.size)
      clear hb x0 x1 x2 x3 x4 x5
      obtain ⟨x0, x1, x2, x3, x4, x5⟩ := blk6 cb
      cases h2 : wsB ws 1 with
      | false =>
        have HV : Hid (R = false) := by show _ = _; rw [HR.out]; simp [oneB, h0, h1, h2]
        go_wp2
        go_ret
        exact ⟨ret_bool HV.out.symm, hB⟩
      | true =>
        by_cases h3 : tq = 0
        · subst h3
          go_wp2_with fail
          refine (l1In_any fr 1 2 _).mono ?_
          rintro e w4 ⟨rfl, rfl⟩
          cases h4 : wi fr 1 2 with
          | false =>
            have HV : Hid (R = false) := by show _ = _; rw [HR.out]; simp [oneB, h0, h1, h2, h4]
            go_wp2
            go_ret
            exact ⟨ret_bool HV.out.symm, hB⟩
          | true =>
            have HV : Hid (R = true) := by show _ = _; rw [HR.out]; simp [oneB, h0, h1, h2, h4]
            go_wp2
            go_ret
            exact ⟨ret_bool HV.out.symm, hB⟩
        · have n3 : (tq == 0) = false := by rw [beq_eq_false_iff_ne]; exact h3
          have HV : Hid (R = false) := by show _ = _; rw [HR.out]; simp [oneB, h0, h1, h2, h3]
          go_wp2
          go_ret
          exact ⟨ret_bool HV.out.symm, hB⟩
set_option maxRecDepth 6000 in
theorem one5 (fd : ByteArray) (ws : List ByteArray) (fr tq : Int) (ks : List QD) (A : Option Addr) (c : Nat) (B : Option Addr) (d : Nat) (w : World) (hS : SrcT w A c ws) (hf1 : fd.size ≤ 1048576) (hw1 : ws.length ≤ 1048576) (hw2 : ∀ s ∈ ws, s.size ≤ 1048576) (hk1 : ks.length ≤ 1048576) :
    Calls Tryd.prog 103 #[.agg #[.int .i64 5, .string fd, .slice A ws.length c, .int .i64 fr, .int .i64 tq, .slice B ks.length d]] w fun e w' => e = .returned (.bool (oneB ⟨5, fd, ws, fr, tq, ks⟩)) ∧ Below w.heap.size w w' := by
  obtain ⟨R, hR⟩ : ∃ R, R = oneB ⟨5, fd, ws, fr, tq, ks⟩ := ⟨_, rfl⟩
  rw [← hR]
  have HR := Lib.hid hR
  have HW := Lib.hid hw2
  clear hR hw2
  have cb := alloc_new w (.cells #[.int .i64 5, .string fd, .slice A ws.length c, .int .i64 fr, .int .i64 tq, .slice B ks.length d] 26)
  have hB : Below w.heap.size w (w.alloc (.cells #[.int .i64 5, .string fd, .slice A ws.length c, .int .i64 fr, .int .i64 tq, .slice B ks.length d] 26)) := by (repeat' (first | exact Below.refl _ _ | apply Below.alloc | apply Below.setCell | apply Below.drew | apply below_draws)) <;> (first | omega | (simp <;> omega))
  have sz : w.heap.size < (w.alloc (.cells #[.int .i64 5, .string fd, .slice A ws.length c, .int .i64 fr, .int .i64 tq, .slice B ks.length d] 26)).heap.size := by simp
  obtain ⟨x0, x1, x2, x3, x4, x5⟩ := blk6 cb
  have HS := Lib.hid hS
  clear hS
  go_enter Tryd.func103, Tryd.ntmps103
  go_wp2_with fail
  generalize (w.alloc (.cells #[.int .i64 5, .string fd, .slice A ws.length c, .int .i64 fr, .int .i64 tq, .slice B ks.length d] 26)) = W0 at cb hB sz x0 x1 x2 x3 x4 x5 ⊢
  refine (bareTTFF ⟨5, fd, ws, fr, tq, ks⟩ A c B d _).mono ?_
  rintro e w0 ⟨rfl, hb⟩
  replace cb := (hb.block _ sz).trans cb
  replace sz := Nat.lt_of_lt_of_le sz hb.size
  replace hB := hB.trans (hb.mono hB.size)
  clear hb x0 x1 x2 x3 x4 x5
  obtain ⟨x0, x1, x2, x3, x4, x5⟩ := blk6 cb
  cases h0 : bareB ⟨5, fd, ws, fr, tq, ks⟩ true true false false with
  | false =>
    have HV : Hid (R = false) := by show _ = _; rw [HR.out]; simp [oneB, h0]
    go_wp2
    go_ret
    exact ⟨ret_bool HV.out.symm, hB⟩
  | true =>
    go_wp2_with fail
    refine (l1WordOk_any fd _ (by omega)).mono ?_
    rintro e w1 ⟨rfl, hb⟩
    replace cb := (hb.block _ sz).trans cb
    replace sz := Nat.lt_of_lt_of_le sz hb.size
    replace hB := hB.trans (hb.mono hB.size)
    clear hb x0 x1 x2 x3 x4 x5
    obtain ⟨x0, x1, x2, x3, x4, x5⟩ := blk6 cb
    cases h1 : wordB fd with
    | false =>
      have HV : Hid (R = false) := by show _ = _; rw [HR.out]; simp [oneB, h0, h1]
      go_wp2
      go_ret
      exact ⟨ret_bool HV.out.symm, hB⟩
    | true =>
      by_cases h2 : ws.length = 1
      · have n2 : ((ws.length : Int) == 1) = true := by simp [h2]
        have H2 := Lib.hid h2
        obtain ⟨b, off, rfl, hbb, c0⟩ := (HS.out.below hB).atT (k := 0) (by omega)
        have hxs := HW.out _ (List.getElem_mem (by omega : 0 < ws.length))
        have hx0 : hdW ws = ws[0] := getT (by omega)
        replace hxs : ws[0].size ≤ 9223372036854775000 := by omega
        have HX := Lib.hid hx0
        clear hx0
        generalize ws[0] = x at c0 hxs HX
        simp only [Nat.add_zero] at c0
        go_wp2_with fail
        refine (l5GlobOk_any x _ hxs).mono ?_
        rintro e w4 ⟨rfl, hb⟩
        replace cb := (hb.block _ sz).trans cb
        replace sz := Nat.lt_of_lt_of_le sz hb.size
        replace hB := hB.trans (hb.mono hB.size)
        replace c0 := (belowL hb hbb).trans c0
        replace hbb := Nat.lt_of_lt_of_le hbb hb.size
        clear hb x0 x1 x2 x3 x4 x5
        obtain ⟨x0, x1, x2, x3, x4, x5⟩ := blk6 cb
        cases h4 : globB x with
        | false =>
          have HV : Hid (R = false) := by show _ = _; rw [HR.out]; simp [oneB, h0, h1, H2.out, HX.out, h4]
          go_wp2
          go_ret
          exact ⟨ret_bool HV.out.symm, hB⟩
        | true =>
          go_wp2_with fail
          refine (l1WordOk_any x _ hxs).mono ?_
          rintro e w5 ⟨rfl, hb⟩
          replace cb := (hb.block _ sz).trans cb
          replace sz := Nat.lt_of_lt_of_le sz hb.size
          replace hB := hB.trans (hb.mono hB.size)
          replace c0 := (belowL hb hbb).trans c0
          replace hbb := Nat.lt_of_lt_of_le hbb hb.size
          clear hb x0 x1 x2 x3 x4 x5
          obtain ⟨x0, x1, x2, x3, x4, x5⟩ := blk6 cb
          cases h5 : wordB x with
          | true =>
            have HV : Hid (R = false) := by show _ = _; rw [HR.out]; simp [oneB, h0, h1, H2.out, HX.out, h4, h5]
            go_wp2
            go_ret
            exact ⟨ret_bool HV.out.symm, hB⟩
          | false =>
            have HV : Hid (R = true) := by show _ = _; rw [HR.out]; simp [oneB, h0, h1, H2.out, HX.out, h4, h5]
            go_wp2
            go_ret
            exact ⟨ret_bool HV.out.symm, hB⟩
      · have n2 : ((ws.length : Int) == 1) = false := by rw [beq_eq_false_iff_ne]; omega
        have HV : Hid (R = false) := by show _ = _; rw [HR.out]; simp [oneB, h0, h1, h2]
        go_wp2
        go_ret
        exact ⟨ret_bool HV.out.symm, hB⟩
set_option maxRecDepth 6000 in
theorem one6 (fd : ByteArray) (ws : List ByteArray) (fr tq : Int) (ks : List QD) (A : Option Addr) (c : Nat) (B : Option Addr) (d : Nat) (w : World) (hS : SrcT w A c ws) (hf1 : fd.size ≤ 1048576) (hw1 : ws.length ≤ 1048576) (hw2 : ∀ s ∈ ws, s.size ≤ 1048576) (hk1 : ks.length ≤ 1048576) :
    Calls Tryd.prog 103 #[.agg #[.int .i64 6, .string fd, .slice A ws.length c, .int .i64 fr, .int .i64 tq, .slice B ks.length d]] w fun e w' => e = .returned (.bool (oneB ⟨6, fd, ws, fr, tq, ks⟩)) ∧ Below w.heap.size w w' := by
  obtain ⟨R, hR⟩ : ∃ R, R = oneB ⟨6, fd, ws, fr, tq, ks⟩ := ⟨_, rfl⟩
  rw [← hR]
  have HR := Lib.hid hR
  have HW := Lib.hid hw2
  clear hR hw2
  have cb := alloc_new w (.cells #[.int .i64 6, .string fd, .slice A ws.length c, .int .i64 fr, .int .i64 tq, .slice B ks.length d] 26)
  have hB : Below w.heap.size w (w.alloc (.cells #[.int .i64 6, .string fd, .slice A ws.length c, .int .i64 fr, .int .i64 tq, .slice B ks.length d] 26)) := by (repeat' (first | exact Below.refl _ _ | apply Below.alloc | apply Below.setCell | apply Below.drew | apply below_draws)) <;> (first | omega | (simp <;> omega))
  have sz : w.heap.size < (w.alloc (.cells #[.int .i64 6, .string fd, .slice A ws.length c, .int .i64 fr, .int .i64 tq, .slice B ks.length d] 26)).heap.size := by simp
  obtain ⟨x0, x1, x2, x3, x4, x5⟩ := blk6 cb
  have HS := Lib.hid hS
  clear hS
  go_enter Tryd.func103, Tryd.ntmps103
  go_wp2_with fail
  generalize (w.alloc (.cells #[.int .i64 6, .string fd, .slice A ws.length c, .int .i64 fr, .int .i64 tq, .slice B ks.length d] 26)) = W0 at cb hB sz x0 x1 x2 x3 x4 x5 ⊢
  refine (bareTFTF ⟨6, fd, ws, fr, tq, ks⟩ A c B d _).mono ?_
  rintro e w0 ⟨rfl, hb⟩
  replace cb := (hb.block _ sz).trans cb
  replace sz := Nat.lt_of_lt_of_le sz hb.size
  replace hB := hB.trans (hb.mono hB.size)
  clear hb x0 x1 x2 x3 x4 x5
  obtain ⟨x0, x1, x2, x3, x4, x5⟩ := blk6 cb
  cases h0 : bareB ⟨6, fd, ws, fr, tq, ks⟩ true false true false with
  | false =>
    have HV : Hid (R = false) := by show _ = _; rw [HR.out]; simp [oneB, h0]
    go_wp2
    go_ret
    exact ⟨ret_bool HV.out.symm, hB⟩
  | true =>
    go_wp2_with fail
    refine (l1WordOk_any fd _ (by omega)).mono ?_
    rintro e w1 ⟨rfl, hb⟩
    replace cb := (hb.block _ sz).trans cb
    replace sz := Nat.lt_of_lt_of_le sz hb.size
    replace hB := hB.trans (hb.mono hB.size)
    clear hb x0 x1 x2 x3 x4 x5
    obtain ⟨x0, x1, x2, x3, x4, x5⟩ := blk6 cb
    cases h1 : wordB fd with
    | false =>
      have HV : Hid (R = false) := by show _ = _; rw [HR.out]; simp [oneB, h0, h1]
      go_wp2
      go_ret
      exact ⟨ret_bool HV.out.symm, hB⟩
    | true =>
      go_wp2_with fail
      refine (l1In_any fr 0 999999999 _).mono ?_
      rintro e w2 ⟨rfl, rfl⟩
      cases h2 : wi fr 0 999999999 with
      | false =>
        have HV : Hid (R = false) := by show _ = _; rw [HR.out]; simp [oneB, h0, h1, h2]
        go_wp2
        go_ret
        exact ⟨ret_bool HV.out.symm, hB⟩
      | true =>
        go_wp2_with fail
        refine (l1In_any tq fr 999999999 _).mono ?_
        rintro e w3 ⟨rfl, rfl⟩
        cases h3 : wi tq fr 999999999 with
        | false =>
          have HV : Hid (R = false) := by show _ = _; rw [HR.out]; simp [oneB, h0, h1, h2, h3]
          go_wp2
          go_ret
          exact ⟨ret_bool HV.out.symm, hB⟩
        | true =>
          have HV : Hid (R = true) := by show _ = _; rw [HR.out]; simp [oneB, h0, h1, h2, h3]
          go_wp2
          go_ret
          exact ⟨ret_bool HV.out.symm, hB⟩
set_option maxRecDepth 6000 in
theorem one7 (fd : ByteArray) (ws : List ByteArray) (fr tq : Int) (ks : List QD) (A : Option Addr) (c : Nat) (B : Option Addr) (d : Nat) (w : World) (hS : SrcT w A c ws) (hf1 : fd.size ≤ 1048576) (hw1 : ws.length ≤ 1048576) (hw2 : ∀ s ∈ ws, s.size ≤ 1048576) (hk1 : ks.length ≤ 1048576) :
    Calls Tryd.prog 103 #[.agg #[.int .i64 7, .string fd, .slice A ws.length c, .int .i64 fr, .int .i64 tq, .slice B ks.length d]] w fun e w' => e = .returned (.bool (oneB ⟨7, fd, ws, fr, tq, ks⟩)) ∧ Below w.heap.size w w' := by
  obtain ⟨R, hR⟩ : ∃ R, R = oneB ⟨7, fd, ws, fr, tq, ks⟩ := ⟨_, rfl⟩
  rw [← hR]
  have HR := Lib.hid hR
  have HW := Lib.hid hw2
  clear hR hw2
  have cb := alloc_new w (.cells #[.int .i64 7, .string fd, .slice A ws.length c, .int .i64 fr, .int .i64 tq, .slice B ks.length d] 26)
  have hB : Below w.heap.size w (w.alloc (.cells #[.int .i64 7, .string fd, .slice A ws.length c, .int .i64 fr, .int .i64 tq, .slice B ks.length d] 26)) := by (repeat' (first | exact Below.refl _ _ | apply Below.alloc | apply Below.setCell | apply Below.drew | apply below_draws)) <;> (first | omega | (simp <;> omega))
  have sz : w.heap.size < (w.alloc (.cells #[.int .i64 7, .string fd, .slice A ws.length c, .int .i64 fr, .int .i64 tq, .slice B ks.length d] 26)).heap.size := by simp
  obtain ⟨x0, x1, x2, x3, x4, x5⟩ := blk6 cb
  have HS := Lib.hid hS
  clear hS
  go_enter Tryd.func103, Tryd.ntmps103
  go_wp2_with fail
  generalize (w.alloc (.cells #[.int .i64 7, .string fd, .slice A ws.length c, .int .i64 fr, .int .i64 tq, .slice B ks.length d] 26)) = W0 at cb hB sz x0 x1 x2 x3 x4 x5 ⊢
  refine (bareFFFT ⟨7, fd, ws, fr, tq, ks⟩ A c B d _).mono ?_
  rintro e w0 ⟨rfl, hb⟩
  replace cb := (hb.block _ sz).trans cb
  replace sz := Nat.lt_of_lt_of_le sz hb.size
  replace hB := hB.trans (hb.mono hB.size)
  clear hb x0 x1 x2 x3 x4 x5
  obtain ⟨x0, x1, x2, x3, x4, x5⟩ := blk6 cb
  cases h0 : bareB ⟨7, fd, ws, fr, tq, ks⟩ false false false true with
  | false =>
    have HV : Hid (R = false) := by show _ = _; rw [HR.out]; simp [oneB, h0]
    go_wp2
    go_ret
    exact ⟨ret_bool HV.out.symm, hB⟩
  | true =>
    go_wp2_with fail
    refine (l1In_any (ks.length : Int) 2 4 _).mono ?_
    rintro e w1 ⟨rfl, rfl⟩
    cases h1 : wi (ks.length : Int) 2 4 with
    | false =>
      have HV : Hid (R = false) := by show _ = _; rw [HR.out]; simp [oneB, h0, h1]
      go_wp2
      go_ret
      exact ⟨ret_bool HV.out.symm, hB⟩
    | true =>
      have HV : Hid (R = true) := by show _ = _; rw [HR.out]; simp [oneB, h0, h1]
      go_wp2
      go_ret
      exact ⟨ret_bool HV.out.symm, hB⟩
set_option maxRecDepth 6000 in
theorem one8 (fd : ByteArray) (ws : List ByteArray) (fr tq : Int) (ks : List QD) (A : Option Addr) (c : Nat) (B : Option Addr) (d : Nat) (w : World) (hS : SrcT w A c ws) (hf1 : fd.size ≤ 1048576) (hw1 : ws.length ≤ 1048576) (hw2 : ∀ s ∈ ws, s.size ≤ 1048576) (hk1 : ks.length ≤ 1048576) :
    Calls Tryd.prog 103 #[.agg #[.int .i64 8, .string fd, .slice A ws.length c, .int .i64 fr, .int .i64 tq, .slice B ks.length d]] w fun e w' => e = .returned (.bool (oneB ⟨8, fd, ws, fr, tq, ks⟩)) ∧ Below w.heap.size w w' := by
  obtain ⟨R, hR⟩ : ∃ R, R = oneB ⟨8, fd, ws, fr, tq, ks⟩ := ⟨_, rfl⟩
  rw [← hR]
  have HR := Lib.hid hR
  have HW := Lib.hid hw2
  clear hR hw2
  have cb := alloc_new w (.cells #[.int .i64 8, .string fd, .slice A ws.length c, .int .i64 fr, .int .i64 tq, .slice B ks.length d] 26)
  have hB : Below w.heap.size w (w.alloc (.cells #[.int .i64 8, .string fd, .slice A ws.length c, .int .i64 fr, .int .i64 tq, .slice B ks.length d] 26)) := by (repeat' (first | exact Below.refl _ _ | apply Below.alloc | apply Below.setCell | apply Below.drew | apply below_draws)) <;> (first | omega | (simp <;> omega))
  have sz : w.heap.size < (w.alloc (.cells #[.int .i64 8, .string fd, .slice A ws.length c, .int .i64 fr, .int .i64 tq, .slice B ks.length d] 26)).heap.size := by simp
  obtain ⟨x0, x1, x2, x3, x4, x5⟩ := blk6 cb
  have HS := Lib.hid hS
  clear hS
  go_enter Tryd.func103, Tryd.ntmps103
  go_wp2_with fail
  generalize (w.alloc (.cells #[.int .i64 8, .string fd, .slice A ws.length c, .int .i64 fr, .int .i64 tq, .slice B ks.length d] 26)) = W0 at cb hB sz x0 x1 x2 x3 x4 x5 ⊢
  refine (bareFFFT ⟨8, fd, ws, fr, tq, ks⟩ A c B d _).mono ?_
  rintro e w0 ⟨rfl, hb⟩
  replace cb := (hb.block _ sz).trans cb
  replace sz := Nat.lt_of_lt_of_le sz hb.size
  replace hB := hB.trans (hb.mono hB.size)
  clear hb x0 x1 x2 x3 x4 x5
  obtain ⟨x0, x1, x2, x3, x4, x5⟩ := blk6 cb
  cases h0 : bareB ⟨8, fd, ws, fr, tq, ks⟩ false false false true with
  | false =>
    have HV : Hid (R = false) := by show _ = _; rw [HR.out]; simp [oneB, h0]
    go_wp2
    go_ret
    exact ⟨ret_bool HV.out.symm, hB⟩
  | true =>
    go_wp2_with fail
    refine (l1In_any (ks.length : Int) 2 4 _).mono ?_
    rintro e w1 ⟨rfl, rfl⟩
    cases h1 : wi (ks.length : Int) 2 4 with
    | false =>
      have HV : Hid (R = false) := by show _ = _; rw [HR.out]; simp [oneB, h0, h1]
      go_wp2
      go_ret
      exact ⟨ret_bool HV.out.symm, hB⟩
    | true =>
      have HV : Hid (R = true) := by show _ = _; rw [HR.out]; simp [oneB, h0, h1]
      go_wp2
      go_ret
      exact ⟨ret_bool HV.out.symm, hB⟩
set_option maxRecDepth 6000 in
theorem one9 (fd : ByteArray) (ws : List ByteArray) (fr tq : Int) (ks : List QD) (A : Option Addr) (c : Nat) (B : Option Addr) (d : Nat) (w : World) (hS : SrcT w A c ws) (hf1 : fd.size ≤ 1048576) (hw1 : ws.length ≤ 1048576) (hw2 : ∀ s ∈ ws, s.size ≤ 1048576) (hk1 : ks.length ≤ 1048576) :
    Calls Tryd.prog 103 #[.agg #[.int .i64 9, .string fd, .slice A ws.length c, .int .i64 fr, .int .i64 tq, .slice B ks.length d]] w fun e w' => e = .returned (.bool (oneB ⟨9, fd, ws, fr, tq, ks⟩)) ∧ Below w.heap.size w w' := by
  obtain ⟨R, hR⟩ : ∃ R, R = oneB ⟨9, fd, ws, fr, tq, ks⟩ := ⟨_, rfl⟩
  rw [← hR]
  have HR := Lib.hid hR
  have HW := Lib.hid hw2
  clear hR hw2
  have cb := alloc_new w (.cells #[.int .i64 9, .string fd, .slice A ws.length c, .int .i64 fr, .int .i64 tq, .slice B ks.length d] 26)
  have hB : Below w.heap.size w (w.alloc (.cells #[.int .i64 9, .string fd, .slice A ws.length c, .int .i64 fr, .int .i64 tq, .slice B ks.length d] 26)) := by (repeat' (first | exact Below.refl _ _ | apply Below.alloc | apply Below.setCell | apply Below.drew | apply below_draws)) <;> (first | omega | (simp <;> omega))
  have sz : w.heap.size < (w.alloc (.cells #[.int .i64 9, .string fd, .slice A ws.length c, .int .i64 fr, .int .i64 tq, .slice B ks.length d] 26)).heap.size := by simp
  obtain ⟨x0, x1, x2, x3, x4, x5⟩ := blk6 cb
  have HS := Lib.hid hS
  clear hS
  go_enter Tryd.func103, Tryd.ntmps103
  go_wp2_with fail
  generalize (w.alloc (.cells #[.int .i64 9, .string fd, .slice A ws.length c, .int .i64 fr, .int .i64 tq, .slice B ks.length d] 26)) = W0 at cb hB sz x0 x1 x2 x3 x4 x5 ⊢
  refine (bareFFFT ⟨9, fd, ws, fr, tq, ks⟩ A c B d _).mono ?_
  rintro e w0 ⟨rfl, hb⟩
  replace cb := (hb.block _ sz).trans cb
  replace sz := Nat.lt_of_lt_of_le sz hb.size
  replace hB := hB.trans (hb.mono hB.size)
  clear hb x0 x1 x2 x3 x4 x5
  obtain ⟨x0, x1, x2, x3, x4, x5⟩ := blk6 cb
  cases h0 : bareB ⟨9, fd, ws, fr, tq, ks⟩ false false false true with
  | false =>
    have HV : Hid (R = false) := by show _ = _; rw [HR.out]; simp [oneB, h0]
    go_wp2
    go_ret
    exact ⟨ret_bool HV.out.symm, hB⟩
  | true =>
    by_cases h1 : ks.length = 2
    · have n1 : ((ks.length : Int) == 2) = true := by simp [h1]
      have H1 := Lib.hid h1
      have HV : Hid (R = true) := by show _ = _; rw [HR.out]; simp [oneB, h0, H1.out]
      go_wp2
      go_ret
      exact ⟨ret_bool HV.out.symm, hB⟩
    · have n1 : ((ks.length : Int) == 2) = false := by rw [beq_eq_false_iff_ne]; omega
      have HV : Hid (R = false) := by show _ = _; rw [HR.out]; simp [oneB, h0, h1]
      go_wp2
      go_ret
      exact ⟨ret_bool HV.out.symm, hB⟩
set_option maxRecDepth 6000 in
theorem one10 (fd : ByteArray) (ws : List ByteArray) (fr tq : Int) (ks : List QD) (A : Option Addr) (c : Nat) (B : Option Addr) (d : Nat) (w : World) (hS : SrcT w A c ws) (hf1 : fd.size ≤ 1048576) (hw1 : ws.length ≤ 1048576) (hw2 : ∀ s ∈ ws, s.size ≤ 1048576) (hk1 : ks.length ≤ 1048576) :
    Calls Tryd.prog 103 #[.agg #[.int .i64 10, .string fd, .slice A ws.length c, .int .i64 fr, .int .i64 tq, .slice B ks.length d]] w fun e w' => e = .returned (.bool (oneB ⟨10, fd, ws, fr, tq, ks⟩)) ∧ Below w.heap.size w w' := by
  obtain ⟨R, hR⟩ : ∃ R, R = oneB ⟨10, fd, ws, fr, tq, ks⟩ := ⟨_, rfl⟩
  rw [← hR]
  have HR := Lib.hid hR
  have HW := Lib.hid hw2
  clear hR hw2
  have cb := alloc_new w (.cells #[.int .i64 10, .string fd, .slice A ws.length c, .int .i64 fr, .int .i64 tq, .slice B ks.length d] 26)
  have hB : Below w.heap.size w (w.alloc (.cells #[.int .i64 10, .string fd, .slice A ws.length c, .int .i64 fr, .int .i64 tq, .slice B ks.length d] 26)) := by (repeat' (first | exact Below.refl _ _ | apply Below.alloc | apply Below.setCell | apply Below.drew | apply below_draws)) <;> (first | omega | (simp <;> omega))
  have sz : w.heap.size < (w.alloc (.cells #[.int .i64 10, .string fd, .slice A ws.length c, .int .i64 fr, .int .i64 tq, .slice B ks.length d] 26)).heap.size := by simp
  obtain ⟨x0, x1, x2, x3, x4, x5⟩ := blk6 cb
  have HS := Lib.hid hS
  clear hS
  go_enter Tryd.func103, Tryd.ntmps103
  go_wp2_with fail
  generalize (w.alloc (.cells #[.int .i64 10, .string fd, .slice A ws.length c, .int .i64 fr, .int .i64 tq, .slice B ks.length d] 26)) = W0 at cb hB sz x0 x1 x2 x3 x4 x5 ⊢
  refine (bareFFTT ⟨10, fd, ws, fr, tq, ks⟩ A c B d _).mono ?_
  rintro e w0 ⟨rfl, hb⟩
  replace cb := (hb.block _ sz).trans cb
  replace sz := Nat.lt_of_lt_of_le sz hb.size
  replace hB := hB.trans (hb.mono hB.size)
  clear hb x0 x1 x2 x3 x4 x5
  obtain ⟨x0, x1, x2, x3, x4, x5⟩ := blk6 cb
  cases h0 : bareB ⟨10, fd, ws, fr, tq, ks⟩ false false true true with
  | false =>
    have HV : Hid (R = false) := by show _ = _; rw [HR.out]; simp [oneB, h0]
    go_wp2
    go_ret
    exact ⟨ret_bool HV.out.symm, hB⟩
  | true =>
    by_cases h1 : ks.length = 1
    · have n1 : ((ks.length : Int) == 1) = true := by simp [h1]
      have H1 := Lib.hid h1
      by_cases h2 : tq = 0
      · subst h2
        go_wp2_with fail
        refine (l1In_any fr 2 9 _).mono ?_
        rintro e w3 ⟨rfl, rfl⟩
        cases h3 : wi fr 2 9 with
        | false =>
          have HV : Hid (R = false) := by show _ = _; rw [HR.out]; simp [oneB, h0, H1.out, h3]
          go_wp2
          go_ret
          exact ⟨ret_bool HV.out.symm, hB⟩
        | true =>
          have HV : Hid (R = true) := by show _ = _; rw [HR.out]; simp [oneB, h0, H1.out, h3]
          go_wp2
          go_ret
          exact ⟨ret_bool HV.out.symm, hB⟩
      · have n2 : (tq == 0) = false := by rw [beq_eq_false_iff_ne]; exact h2
        have HV : Hid (R = false) := by show _ = _; rw [HR.out]; simp [oneB, h0, H1.out, h2]
        go_wp2
        go_ret
        exact ⟨ret_bool HV.out.symm, hB⟩
    · have n1 : ((ks.length : Int) == 1) = false := by rw [beq_eq_false_iff_ne]; omega
      have HV : Hid (R = false) := by show _ = _; rw [HR.out]; simp [oneB, h0, h1]
      go_wp2
      go_ret
      exact ⟨ret_bool HV.out.symm, hB⟩
set_option maxRecDepth 20000 in
theorem l11One_any (n : Nat) (q : QD) (A : Option Addr) (c : Nat) (B : Option Addr) (d : Nat) (w : World) (hS : SrcT w A c q.ws) (hs : LmQ 1048576 (n + 1) q) :
    Calls Tryd.prog 103 #[.agg #[.int .i64 q.kd, .string q.fd, .slice A q.ws.length c, .int .i64 q.fr, .int .i64 q.tgt, .slice B q.ks.length d]] w fun e w' => e = .returned (.bool (oneB q)) ∧ Below w.heap.size w w' := by
  obtain ⟨hf1, hw1, hw2, hk1, _⟩ := hs
  obtain ⟨kd, fd, ws, fr, tq, ks⟩ := q
  dsimp only at hS hf1 hw1 hw2 hk1 ⊢
  by_cases g1 : kd = 1
  · subst g1; exact one1 fd ws fr tq ks A c B d w hS hf1 hw1 hw2 hk1
  by_cases g2 : kd = 2
  · subst g2; exact one2 fd ws fr tq ks A c B d w hS hf1 hw1 hw2 hk1
  by_cases g3 : kd = 3
  · subst g3; exact one3 fd ws fr tq ks A c B d w hS hf1 hw1 hw2 hk1
  by_cases g4 : kd = 4
  · subst g4; exact one4 fd ws fr tq ks A c B d w hS hf1 hw1 hw2 hk1
  by_cases g5 : kd = 5
  · subst g5; exact one5 fd ws fr tq ks A c B d w hS hf1 hw1 hw2 hk1
  by_cases g6 : kd = 6
  · subst g6; exact one6 fd ws fr tq ks A c B d w hS hf1 hw1 hw2 hk1
  by_cases g7 : kd = 7
  · subst g7; exact one7 fd ws fr tq ks A c B d w hS hf1 hw1 hw2 hk1
  by_cases g8 : kd = 8
  · subst g8; exact one8 fd ws fr tq ks A c B d w hS hf1 hw1 hw2 hk1
  by_cases g9 : kd = 9
  · subst g9; exact one9 fd ws fr tq ks A c B d w hS hf1 hw1 hw2 hk1
  by_cases g10 : kd = 10
  · subst g10; exact one10 fd ws fr tq ks A c B d w hS hf1 hw1 hw2 hk1
  have hR : oneB ⟨kd, fd, ws, fr, tq, ks⟩ = false := by simp [oneB, g1, g2, g3, g4, g5, g6, g7, g8, g9, g10]
  rw [hR]
  replace g1 : (kd == 1) = false := by rw [beq_eq_false_iff_ne]; exact g1
  replace g2 : (kd == 2) = false := by rw [beq_eq_false_iff_ne]; exact g2
  replace g3 : (kd == 3) = false := by rw [beq_eq_false_iff_ne]; exact g3
  replace g4 : (kd == 4) = false := by rw [beq_eq_false_iff_ne]; exact g4
  replace g5 : (kd == 5) = false := by rw [beq_eq_false_iff_ne]; exact g5
  replace g6 : (kd == 6) = false := by rw [beq_eq_false_iff_ne]; exact g6
  replace g7 : (kd == 7) = false := by rw [beq_eq_false_iff_ne]; exact g7
  replace g8 : (kd == 8) = false := by rw [beq_eq_false_iff_ne]; exact g8
  replace g9 : (kd == 9) = false := by rw [beq_eq_false_iff_ne]; exact g9
  replace g10 : (kd == 10) = false := by rw [beq_eq_false_iff_ne]; exact g10
  have hBq : ∀ x, Below w.heap.size w (w.alloc x) := fun x => (Below.refl _ w).alloc (Nat.le_refl _) x
  have HB := Lib.hid hBq
  clear hBq hR hw2 hS
  go_enter Tryd.func103, Tryd.ntmps103
  go_wp2
  go_ret
  exact ⟨rfl, HB.out _⟩
end Go.Proofs.YtaobgliimbmemaaDoor
