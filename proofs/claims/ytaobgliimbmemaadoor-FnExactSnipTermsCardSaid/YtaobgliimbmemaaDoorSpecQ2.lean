/-
  spec.l11Deep, l11Ok, QueryOk.
-/
import Derived.Test.YtaobgliimbmemaaDoorSpecQ1
namespace Go.Proofs.YtaobgliimbmemaaDoor
open Go.RowKit Go.Sort
set_option linter.unusedVariables false

def okQ : Nat → QD → Bool
  | 0 => fun _ => false
  | m + 1 => fun q => oneB q && q.ks.all (okQ m)
def DpC (n : Nat) : Prop := ∀ (q : QD) (A : Option Addr) (c : Nat) (B : Option Addr) (d : Nat) (m : Nat) (w : World), HasQ n w q A c B → LmQ 1048576 n q → m ≤ 4 →
  Calls Tryd.prog 72 #[.agg #[.int .i64 q.kd, .string q.fd, .slice A q.ws.length c, .int .i64 q.fr, .int .i64 q.tgt, .slice B q.ks.length d], .int .i64 m] w fun e w' => e = .returned (.bool (okQ m q)) ∧ Below w.heap.size w w'
set_option maxRecDepth 20000 in
theorem l11Deep_step (n : Nat) (IH : Hid (DpC n)) : DpC (n + 1) := fun q A c B d m w h hs hm => by
    have HS := Lib.hid hs
    have hk1 := hs.2.2.2.1
    have HK2 := Lib.hid hs.2.2.2.2
    have HH := Lib.hid h
    obtain ⟨R, hR⟩ : ∃ R, R = okQ m q := ⟨_, rfl⟩
    rw [← hR]
    have HR := Lib.hid hR
    clear hR hs h
    have cb := alloc_new w (.cells #[.int .i64 q.kd, .string q.fd, .slice A q.ws.length c, .int .i64 q.fr, .int .i64 q.tgt, .slice B q.ks.length d] 26)
    have hB : Below w.heap.size w (w.alloc (.cells #[.int .i64 q.kd, .string q.fd, .slice A q.ws.length c, .int .i64 q.fr, .int .i64 q.tgt, .slice B q.ks.length d] 26)) := by (repeat' (first | exact Below.refl _ _ | apply Below.alloc | apply Below.setCell | apply Below.drew | apply below_draws)) <;> (first | omega | (simp <;> omega))
    have sz : w.heap.size < (w.alloc (.cells #[.int .i64 q.kd, .string q.fd, .slice A q.ws.length c, .int .i64 q.fr, .int .i64 q.tgt, .slice B q.ks.length d] 26)).heap.size := by simp
    obtain ⟨x0, x1, x2, x3, x4, x5⟩ := blk6 cb
    rcases Nat.eq_zero_or_pos m with hm0 | hm0
    · subst hm0
      have HV : Hid (R = false) := HR.out
      go_enter Tryd.func72, Tryd.ntmps72
      go_wp2
      go_ret
      exact ⟨ret_bool HV.out.symm, hB⟩
    · obtain ⟨p, rfl⟩ : ∃ p, m = p + 1 := ⟨m - 1, by omega⟩
      have hz : (((p + 1 : Nat) : Int) == 0) = false := by rw [beq_eq_false_iff_ne]; omega
      have hz2 : ((p : Int) + 1 == 0) = false := by rw [beq_eq_false_iff_ne]; omega
      go_enter Tryd.func72, Tryd.ntmps72
      go_wp2_with fail
      generalize (w.alloc (.cells #[.int .i64 q.kd, .string q.fd, .slice A q.ws.length c, .int .i64 q.fr, .int .i64 q.tgt, .slice B q.ks.length d] 26)) = W0 at cb hB sz x0 x1 x2 x3 x4 x5 ⊢
      refine (l11One_any n q A c B d _ (HH.out.1.below hB).1 HS.out).mono ?_
      rintro e w1 ⟨rfl, hb⟩
      replace cb := (hb.block _ sz).trans cb
      replace sz := Nat.lt_of_lt_of_le sz hb.size
      replace hB := hB.trans (hb.mono hB.size)
      clear hb x0 x1 x2 x3 x4 x5
      obtain ⟨x0, x1, x2, x3, x4, x5⟩ := blk6 cb
      cases h0 : oneB q with
      | false =>
        have HV : Hid (R = false) := by show _ = _; rw [HR.out]; simp [okQ, h0]
        go_wp2
        go_ret
        exact ⟨ret_bool HV.out.symm, hB⟩
      | true =>
        have HV : Hid (R = q.ks.all (okQ p)) := by show _ = _; rw [HR.out]; simp [okQ, h0]
        have CB : Hid (∀ V, Below w1.heap.size w1 V → V.cell? ⟨w.heap.size, 5, none⟩ = some (.slice B q.ks.length d)) := fun V hV => (belowL hV sz).trans x5
        have hpw : IntKind.i64.wrap (((p + 1 : Nat) : Int) - 1) = (p : Int) := by rw [IntKind.wrap_i64] <;> omega
        have hpw2 : IntKind.i64.wrap ((p : Int) + 1 - 1) = (p : Int) := by rw [IntKind.wrap_i64] <;> omega
        clear HR x0 x1 x2 x3 x4 cb hz hz2
        go_wp2_with fail
        go_loopw [5] (fun iv wr => ∃ k : Nat, k ≤ q.ks.length ∧ iv = .int .i64 k ∧ Hid ((q.ks.take k).all (okQ p) = true) ∧ Below w1.heap.size w1 wr) (fun iv _ => q.ks.length - (intOf iv).toNat)
        case atStart => exact ⟨0, Nat.zero_le _, rfl, rfl, Below.refl _ _⟩
        case round =>
          obtain ⟨k, hk, rfl, hm, hBk⟩ := hrel
          have hBw := hB.trans (hBk.mono hB.size)
          have y5 := CB.out _ hBk
          by_cases hlt : k < q.ks.length
          · obtain ⟨b, off, A1, c1, B1, d1, rfl, hbb, z0, z1, z2, z3, z4, z5, hh⟩ := (rdQ_below HH.out.2 hBw).cells hlt
            have hi0 : (k : Int) < (q.ks.length : Int) := by omega
            have hsm := Lib.hid (HK2.out _ (List.getElem_mem hlt))
            have hh := Lib.hid hh
            have HN := Lib.hid (all_succ (okQ p) hlt)
            have HF : Hid (okQ p q.ks[k] = false → q.ks.all (okQ p) = false) := fun h => all_bad hlt h
            generalize q.ks[k] = y at z0 z1 z2 z3 z4 z5 hh hsm HN HF
            go_wp2_with fail
            refine (IH.out y A1 c1 B1 d1 p _ hh.out hsm.out (by omega)).mono ?_
            rintro e w2 ⟨rfl, hb2⟩
            have hB2 := hBk.trans (hb2.mono hBk.size)
            have hBw2 := hB.trans (hB2.mono hB.size)
            cases h1 : okQ p y with
            | false =>
              have HV2 : Hid (R = false) := HV.out.trans (HF.out h1)
              go_wp2
              go_ret
              exact ⟨ret_bool HV2.out.symm, hBw2⟩
            | true =>
              have HM : Hid ((q.ks.take (k + 1)).all (okQ p) = true) := by show _ = _; rw [HN.out, hm.out, h1]; rfl
              go_wp2
              go_roundw
              case rel => exact ⟨k + 1, by omega, by go_num, HM, hB2⟩
              case measure => simp [intOf]; omega
          · have HV2 : Hid (R = true) := by
              show _ = _
              rw [HV.out]
              have := hm.out
              rwa [List.take_of_length_le (by omega)] at this
            clear hm
            go_wp2
            go_ret
            exact ⟨ret_bool HV2.out.symm, hBw⟩
theorem l11Deep_any (n : Nat) : DpC n := by
  induction n with
  | zero => exact fun q A c B d m w h _ _ => h.elim
  | succ n ih => exact l11Deep_step n ih
theorem l11Ok_any (n : Nat) (q : QD) (A : Option Addr) (c : Nat) (B : Option Addr) (d : Nat) (w : World) (h : HasQ n w q A c B) (hs : LmQ 1048576 n q) :
    Calls Tryd.prog 40 #[.agg #[.int .i64 q.kd, .string q.fd, .slice A q.ws.length c, .int .i64 q.fr, .int .i64 q.tgt, .slice B q.ks.length d]] w fun e w' => e = .returned (.bool (okQ 4 q)) ∧ Below w.heap.size w w' := by
  have HH := Lib.hid h
  have HS := Lib.hid hs
  clear h hs
  have hB : Below w.heap.size w (w.alloc (.cells #[.int .i64 q.kd, .string q.fd, .slice A q.ws.length c, .int .i64 q.fr, .int .i64 q.tgt, .slice B q.ks.length d] 26)) := by (repeat' (first | exact Below.refl _ _ | apply Below.alloc | apply Below.setCell | apply Below.drew | apply below_draws)) <;> (first | omega | (simp <;> omega))
  go_enter Tryd.func40, Tryd.ntmps40
  go_wp2_with fail
  refine (l11Deep_any n q A c B d 4 _ (HH.out.below hB) HS.out (Nat.le_refl _)).mono ?_
  rintro e w1 ⟨rfl, hb⟩
  have hB1 := hB.trans (hb.mono hB.size)
  go_wp2
  go_ret
  exact ⟨rfl, hB1⟩
theorem specQueryOk_any (n : Nat) (q : QD) (A : Option Addr) (c : Nat) (B : Option Addr) (d : Nat) (w : World) (h : HasQ n w q A c B) (hs : LmQ 1048576 n q) :
    Calls Tryd.prog 14 #[.agg #[.int .i64 q.kd, .string q.fd, .slice A q.ws.length c, .int .i64 q.fr, .int .i64 q.tgt, .slice B q.ks.length d]] w fun e w' => e = .returned (.bool (okQ 4 q)) ∧ Below w.heap.size w w' := by
  have HH := Lib.hid h
  have HS := Lib.hid hs
  clear h hs
  have hB : Below w.heap.size w (w.alloc (.cells #[.int .i64 q.kd, .string q.fd, .slice A q.ws.length c, .int .i64 q.fr, .int .i64 q.tgt, .slice B q.ks.length d] 26)) := by (repeat' (first | exact Below.refl _ _ | apply Below.alloc | apply Below.setCell | apply Below.drew | apply below_draws)) <;> (first | omega | (simp <;> omega))
  go_enter Tryd.func14, Tryd.ntmps14
  go_wp2_with fail
  refine (l11Ok_any n q A c B d _ (HH.out.below hB) HS.out).mono ?_
  rintro e w1 ⟨rfl, hb⟩
  have hB1 := hB.trans (hb.mono hB.size)
  go_wp2
  go_ret
  exact ⟨rfl, hB1⟩
end Go.Proofs.YtaobgliimbmemaaDoor
