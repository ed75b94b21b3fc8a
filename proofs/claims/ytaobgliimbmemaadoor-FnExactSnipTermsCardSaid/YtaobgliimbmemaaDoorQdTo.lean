/-
  toQuery: a question made anew.
-/
import Derived.Test.YtaobgliimbmemaaDoorQdEq
namespace Go.Proofs.YtaobgliimbmemaaDoor
open Go.RowKit Go.Sort
set_option linter.unusedVariables false

/-- the blocks from lo up to hi are the same. -/
def SameR (lo hi : Nat) (w w' : World) : Prop := hi ≤ w'.heap.size ∧ ∀ k, lo ≤ k → k < hi → w'.heap[k]? = w.heap[k]?
theorem SameR.trans {lo hi hi' : Nat} {a b c : World} (h : SameR lo hi a b) (k : SameR lo hi' b c) (hh : hi ≤ hi') : SameR lo hi a c := ⟨Nat.le_trans hh k.1, fun i h1 h2 => (k.2 i h1 (by omega)).trans (h.2 i h1 h2)⟩
theorem SameR.of {lo : Nat} {w w' : World} (h : Below w.heap.size w w') : SameR lo w.heap.size w w' := ⟨h.size, fun k _ hk => h.block k hk⟩
theorem SameR.lo {lo lo' hi : Nat} {w w' : World} (h : SameR lo hi w w') (hl : lo ≤ lo') : SameR lo' hi w w' := ⟨h.1, fun k h1 h2 => h.2 k (by omega) h2⟩
theorem SameR.hi {lo hi hi' : Nat} {w w' : World} (h : SameR lo hi w w') (hl : hi' ≤ hi) : SameR lo hi' w w' := ⟨by have := h.1; omega, fun k h1 h2 => h.2 k h1 (by omega)⟩
theorem SameR.set {lo b j hi : Nat} (w : World) (u : Value) (hb : b < lo) (hh : hi ≤ w.heap.size) : SameR lo hi w (w.setCell ⟨b, j, none⟩ u) := ⟨by simpa using hh, fun k h1 h2 => heap_setCell_other w ⟨b, j, none⟩ k u (by simp; omega)⟩
theorem SameR.set2 {lo b j hi : Nat} {w w' : World} (h : SameR lo hi w w') (u : Value) (hb : b < lo) : SameR lo hi w (w'.setCell ⟨b, j, none⟩ u) := ⟨by simpa using h.1, fun k h1 h2 => (heap_setCell_other w' ⟨b, j, none⟩ k u (by simp; omega)).trans (h.2 k h1 h2)⟩
theorem cell_blk {w w'' : World} {b j : Nat} (e : w''.heap[b]? = w.heap[b]?) : w''.cell? ⟨b, j, none⟩ = w.cell? ⟨b, j, none⟩ := by simp [World.cell?, e]
theorem srcT_same {w w'' : World} {g c : Nat} {L : List ByteArray} (h : SrcT w (some ⟨g, 0, none⟩) c L) (e : w''.heap[g]? = w.heap[g]?) (hs : w.heap.size ≤ w''.heap.size) : SrcT w'' (some ⟨g, 0, none⟩) c L := by
  refine ⟨⟨h.1.1, fun hn => ?_⟩, h.2⟩
  obtain ⟨b, off, e1, hb, hc⟩ := h.1.2 hn
  refine ⟨b, off, e1, by omega, fun j u hu => ?_⟩
  simp only [Option.some.injEq, Addr.mk.injEq, and_true] at e1
  obtain ⟨rfl, rfl⟩ := e1
  rw [cell_blk e]; exact hc j u hu
def KeptQ (n : Nat) (w w' : World) (q : QD) (A : Option Addr) (c : Nat) (B : Option Addr) : Prop := ∀ w'', SameR w.heap.size w'.heap.size w' w'' → HasQ n w'' q A c B
def KeptK (n : Nat) (w w' : World) (B : Option Addr) (L : List QD) : Prop := ∀ w'', SameR w.heap.size w'.heap.size w' w'' → RdK (HasQ n) w'' B L
def ToP (n : Nat) (q : QD) (w : World) (e : Ending) (w' : World) : Prop := ∃ (A B : Option Addr), (e = .returned (.agg #[.int .i64 q.kd, .string q.fd, .slice A q.ws.length q.ws.length, .int .i64 q.fr, .int .i64 q.tgt, .slice B q.ks.length q.ks.length]) ∧ KeptQ n w w' q A q.ws.length B) ∧ Below w.heap.size w w'
theorem ToP.mk {n : Nat} {q : QD} {w w' : World} {A B : Option Addr} (h : Hid (KeptQ n w w' q A q.ws.length B)) (hb : Hid (Below w.heap.size w w')) : ToP n q w (.returned (.agg #[.int .i64 q.kd, .string q.fd, .slice A q.ws.length q.ws.length, .int .i64 q.fr, .int .i64 q.tgt, .slice B q.ks.length q.ks.length])) w' := ⟨A, B, ⟨rfl, h.out⟩, hb.out⟩
def ToK (n : Nat) (L : List QD) (w : World) (e : Ending) (w' : World) : Prop := ∃ (B : Option Addr), (e = .returned (.slice B L.length L.length) ∧ KeptK n w w' B L) ∧ Below w.heap.size w w'
def ToC (n : Nat) : Prop := ∀ (q : QD) (A : Option Addr) (c : Nat) (B : Option Addr) (d : Nat) (w : World), HasQ n w q A c B → LmQ 1048576 n q →
  Calls Tryd.prog 23 #[.agg #[.int .i64 q.kd, .string q.fd, .slice A q.ws.length c, .int .i64 q.fr, .int .i64 q.tgt, .slice B q.ks.length d]] w (ToP n q w)
structure HdQ where
  q : QD
  A : Option Addr
  B : Option Addr
def encHQ (h : HdQ) : List Value := encQ h.q h.A h.q.ws.length h.B h.q.ks.length
theorem encHQ_ok : Enc encHQ 6 := ⟨fun _ => rfl, fun a u hu => by simp [encHQ, encQ] at hu; rcases hu with rfl | rfl | rfl | rfl | rfl | rfl <;> rfl⟩
def zsQ : List Value := [.int .i64 0, .string ⟨#[]⟩, .slice none 0 0, .int .i64 0, .int .i64 0, .slice none 0 0]
def fillQ (hv : List HdQ) (n : Nat) : List Value := hv.flatMap encHQ ++ (List.replicate (n - hv.length) zsQ).flatten
theorem fillQ_nil (n : Nat) : fillQ [] n = (List.replicate n zsQ).flatten := by simp [fillQ]
theorem fillQ_all {hv : List HdQ} {n : Nat} (h : hv.length = n) : fillQ hv n = hv.flatMap encHQ := by simp [fillQ, h]
theorem fillQ_get {hv : List HdQ} {n k : Nat} (h : hv.length = k) (hk : k < n) {j : Nat} (hj : j < 6) : (fillQ hv n)[k * 6 + j]? = zsQ[j]? := by
  have hl : (hv.flatMap encHQ).length = k * 6 := by rw [encHQ_ok.flat, h]
  unfold fillQ
  rw [show n - hv.length = (n - (k + 1)) + 1 by omega, List.replicate_succ, List.flatten_cons, List.getElem?_append_right (by omega), hl, show k * 6 + j - k * 6 = j by omega, List.getElem?_append_left (by simp [zsQ]; omega)]
theorem fillQ_step {hv : List HdQ} {n k : Nat} (h : hv.length = k) (hk : k < n) (m : HdQ) (u0 u1 u2 u3 u4 u5 : Value) (he : encHQ m = [u0, u1, u2, u3, u4, u5]) : ((((((fillQ hv n).set (k * 6) u0).set (k * 6 + 1) u1).set (k * 6 + 2) u2).set (k * 6 + 3) u3).set (k * 6 + 4) u4).set (k * 6 + 5) u5 = fillQ (hv ++ [m]) n := by
  have hl : (hv.flatMap encHQ).length = k * 6 := by rw [encHQ_ok.flat, h]
  unfold fillQ
  rw [show n - hv.length = (n - (k + 1)) + 1 by omega, List.replicate_succ, List.flatten_cons, List.set_append_right _ _ (by omega), hl, Nat.sub_self, List.set_append_right _ _ (by omega), hl, show k * 6 + 1 - k * 6 = 1 by omega, List.set_append_right _ _ (by omega), hl, show k * 6 + 2 - k * 6 = 2 by omega, List.set_append_right _ _ (by omega), hl, show k * 6 + 3 - k * 6 = 3 by omega,
    List.set_append_right _ _ (by omega), hl, show k * 6 + 4 - k * 6 = 4 by omega, List.set_append_right _ _ (by omega), hl, show k * 6 + 5 - k * 6 = 5 by omega, List.flatMap_append, List.append_assoc, List.length_append, h]
  simp only [List.flatMap_cons, List.flatMap_nil, List.append_nil, he]
  rfl
theorem infoQ : (Tryd.prog.info? 26).map (fun i => (i.zero, i.size, i.bytes)) = some (some (.agg #[.int .i64 0, .string ⟨#[]⟩, .slice none 0 0, .int .i64 0, .int .i64 0, .slice none 0 0]), 6, 88) := by kernel_rfl
set_option maxHeartbeats 3200000 in
theorem toQueryS_of (n : Nat) (IH : Hid (ToC n)) (B : Option Addr) (d : Nat) (Ks : List QD) (w : World) (h : RdK (HasQ n) w B Ks) (hn : Ks.length ≤ 1048576) (hs : Hid (∀ y ∈ Ks, LmQ 1048576 n y)) :
    Calls Tryd.prog 51 #[.slice B Ks.length d] w (ToK n Ks w) := by
  obtain ⟨i0, hi, hz0, hz1, hz2⟩ := info_partsZ infoQ
  obtain ⟨wm, hmk, hown0, hg0⟩ := run_make_full (P := Tryd.prog) w w.heap.size 24 26 i0 _ 6 Tryd.underlying24 hi hz0 hz1 .i64 .i64 Ks.length (by rw [hz2]; omega) (by unfold maxLen; omega) (Nat.le_refl _)
  have hB0 : Below w.heap.size w wm := (Below.refl _ _).grown hg0 (Nat.le_refl _) (fun k hk => by cases hk)
  have hwm : w.heap.size < wm.heap.size := (World.ownsRow.lt hown0 w.heap.size rfl).2
  go_enter Tryd.func51, Tryd.ntmps51
  go_wp2
  go_loopw [4] (fun i wr => ∃ k : Nat, k ≤ Ks.length ∧ i = .int .i64 k ∧ ∃ hv : List HdQ, Hid (hv.map (·.q) = Ks.take k) ∧ Hid (∀ m ∈ hv, ∀ w'', SameR (w.heap.size + 1) wr.heap.size wr w'' → HasQ n w'' m.q m.A m.q.ws.length m.B) ∧ w.heap.size < wr.heap.size ∧ wr.ownsRow w.heap.size 26 6 (.slice (some ⟨w.heap.size, 0, none⟩) Ks.length Ks.length) Ks.length (fillQ hv Ks.length) ∧ Below w.heap.size w wr) (fun i _ => Ks.length - (intOf i).toNat)
  case atStart => exact ⟨0, Nat.zero_le _, rfl, [], rfl, fun m hm => by simp at hm, hwm, by rw [fillQ_nil, ← made_rep (Value.agg #[.int .i64 0, .string ⟨#[]⟩, .slice none 0 0, .int .i64 0, .int .i64 0, .slice none 0 0]).cells zsQ 6 Ks.length rfl rfl (by omega)]; exact hown0, hB0⟩
  case round =>
    obtain ⟨k, hk, rfl, hv, hm, hh, hws, hown, hB⟩ := hrel
    have HLv : Hid (hv.length = k) := by
      show _ = _
      have := congrArg List.length hm.out
      rw [List.length_map, List.length_take] at this
      omega
    by_cases hlt : k < Ks.length
    · obtain ⟨b, off, A1, c1, B1, d1, rfl, hb, x0, x1, x2, x3, x4, x5, hd⟩ := (rdQ_below h hB).cells hlt
      have hi0 : (k : Int) < (Ks.length : Int) := by omega
      have hsm := Lib.hid (hs.out _ (List.getElem_mem hlt))
      have hd := Lib.hid hd
      have f0 : (fillQ hv Ks.length)[k * 6]? = some (.int .i64 0) := fillQ_get (n := Ks.length) HLv.out hlt (j := 0) (by omega)
      have f1 : (fillQ hv Ks.length)[k * 6 + 1]? = some (.string ⟨#[]⟩) := fillQ_get (n := Ks.length) HLv.out hlt (j := 1) (by omega)
      have f2 : (fillQ hv Ks.length)[k * 6 + 2]? = some (.slice none 0 0) := fillQ_get (n := Ks.length) HLv.out hlt (j := 2) (by omega)
      have f3 : (fillQ hv Ks.length)[k * 6 + 3]? = some (.int .i64 0) := fillQ_get (n := Ks.length) HLv.out hlt (j := 3) (by omega)
      have f4 : (fillQ hv Ks.length)[k * 6 + 4]? = some (.int .i64 0) := fillQ_get (n := Ks.length) HLv.out hlt (j := 4) (by omega)
      have f5 : (fillQ hv Ks.length)[k * 6 + 5]? = some (.slice none 0 0) := fillQ_get (n := Ks.length) HLv.out hlt (j := 5) (by omega)
      have HMM : Hid (∀ (A2 B2 : Option Addr), (hv ++ [(⟨Ks[k], A2, B2⟩ : HdQ)]).map (fun m => m.q) = Ks.take (k + 1)) := fun A2 B2 => by rw [List.map_append, hm.out, ← List.take_append_getElem hlt]; rfl
      go_wp2_with fail
      refine (IH.out Ks[k] A1 c1 B1 d1 _ hd.out hsm.out).mono ?_
      rintro e w2 ⟨A2, B2, ⟨rfl, r1⟩, hb2⟩
      have own2 := own_belowZ hown hb2
      have q0 := (own2.cellAt (k * 6) (by omega)).trans f0
      have q1 := (own2.cellAt (k * 6 + 1) (by omega)).trans f1
      have q2 := (own2.cellAt (k * 6 + 2) (by omega)).trans f2
      have q3 := (own2.cellAt (k * 6 + 3) (by omega)).trans f3
      have q4 := (own2.cellAt (k * 6 + 4) (by omega)).trans f4
      have q5 := (own2.cellAt (k * 6 + 5) (by omega)).trans f5
      have z0 := own2.frozenAt (k * 6)
      have z1 := own2.frozenAt (k * 6 + 1)
      have z2 := own2.frozenAt (k * 6 + 2)
      have z3 := own2.frozenAt (k * 6 + 3)
      have z4 := own2.frozenAt (k * 6 + 4)
      have z5 := own2.frozenAt (k * 6 + 5)
      have hstep := fillQ_step HLv.out hlt ⟨Ks[k], A2, B2⟩ _ _ _ _ _ _ rfl
      dsimp only at hstep
      have a1 := own2.stored (k * 6) (.int .i64 Ks[k].kd)
      have a2 := a1.1.stored (k * 6 + 1) (.string Ks[k].fd)
      have a3 := a2.1.stored (k * 6 + 2) (.slice A2 Ks[k].ws.length Ks[k].ws.length)
      have a4 := a3.1.stored (k * 6 + 3) (.int .i64 Ks[k].fr)
      have a5 := a4.1.stored (k * 6 + 4) (.int .i64 Ks[k].tgt)
      have a6 := a5.1.stored (k * 6 + 5) (.slice B2 Ks[k].ks.length Ks[k].ks.length)
      have own5 := a6.1
      rw [hstep] at own5
      have hB2 := hB.trans (hb2.mono hB.size)
      have hw2s := hb2.size
      have hB5 := (((((hB2.setCell (p := ⟨w.heap.size, k * 6, none⟩) (Nat.le_refl _) (.int .i64 Ks[k].kd)).setCell (p := ⟨w.heap.size, k * 6 + 1, none⟩) (Nat.le_refl _) (.string Ks[k].fd)).setCell (p := ⟨w.heap.size, k * 6 + 2, none⟩) (Nat.le_refl _) (.slice A2 Ks[k].ws.length Ks[k].ws.length)).setCell (p := ⟨w.heap.size, k * 6 + 3, none⟩) (Nat.le_refl _) (.int .i64 Ks[k].fr)).setCell (p := ⟨w.heap.size, k * 6 + 4, none⟩) (Nat.le_refl _) (.int .i64 Ks[k].tgt)).setCell (p := ⟨w.heap.size, k * 6 + 5, none⟩) (Nat.le_refl _) (.slice B2 Ks[k].ks.length Ks[k].ks.length)
      have HS5 : Hid (∀ W5, W5 = ((((((w2.setCell ⟨w.heap.size, k * 6, none⟩ (.int .i64 Ks[k].kd)).setCell ⟨w.heap.size, k * 6 + 1, none⟩ (.string Ks[k].fd)).setCell ⟨w.heap.size, k * 6 + 2, none⟩ (.slice A2 Ks[k].ws.length Ks[k].ws.length)).setCell ⟨w.heap.size, k * 6 + 3, none⟩ (.int .i64 Ks[k].fr)).setCell ⟨w.heap.size, k * 6 + 4, none⟩ (.int .i64 Ks[k].tgt)).setCell ⟨w.heap.size, k * 6 + 5, none⟩ (.slice B2 Ks[k].ks.length Ks[k].ks.length)) →
          (∀ m ∈ hv ++ [(⟨Ks[k], A2, B2⟩ : HdQ)], ∀ w'', SameR (w.heap.size + 1) W5.heap.size W5 w'' → HasQ n w'' m.q m.A m.q.ws.length m.B) ∧ w.heap.size < W5.heap.size) := by
        rintro W5 rfl
        have e5 : SameR (w.heap.size + 1) w2.heap.size w2 ((((((w2.setCell ⟨w.heap.size, k * 6, none⟩ (.int .i64 Ks[k].kd)).setCell ⟨w.heap.size, k * 6 + 1, none⟩ (.string Ks[k].fd)).setCell ⟨w.heap.size, k * 6 + 2, none⟩ (.slice A2 Ks[k].ws.length Ks[k].ws.length)).setCell ⟨w.heap.size, k * 6 + 3, none⟩ (.int .i64 Ks[k].fr)).setCell ⟨w.heap.size, k * 6 + 4, none⟩ (.int .i64 Ks[k].tgt)).setCell ⟨w.heap.size, k * 6 + 5, none⟩ (.slice B2 Ks[k].ks.length Ks[k].ks.length)) :=
          (((((SameR.set w2 _ (by omega) (Nat.le_refl _)).set2 _ (by omega)).set2 _ (by omega)).set2 _ (by omega)).set2 _ (by omega)).set2 _ (by omega)
        have hsz5 := e5.1
        refine ⟨fun m hm w'' hq => ?_, by omega⟩
        have e7 : SameR (w.heap.size + 1) w2.heap.size w2 w'' := e5.trans hq hsz5
        rcases List.mem_append.1 hm with hm | hm
        · exact hh.out m hm w'' ((SameR.of hb2).trans e7 hb2.size)
        · simp at hm
          subst hm
          exact r1 w'' (e7.lo (by omega))
      have HM5 := Lib.hid (HMM.out A2 B2)
      have O5 := Lib.hid own5
      have HS6 := Lib.hid (HS5.out _ rfl)
      clear hh hown hd own2 r1 hstep a1 a2 a3 a4 a5 a6 own5 hB2 f0 f1 f2 f3 f4 f5 hsm hb2 hB HMM hm HLv HS5 hw2s
      generalize hv ++ [⟨Ks[k], A2, B2⟩] = hv2 at HS6 O5 HM5
      generalize Ks[k].kd = n0 at x0 HS6 O5 hB5 ⊢
      generalize Ks[k].fd = n1 at x1 HS6 O5 hB5 ⊢
      generalize Ks[k].ws.length = n2 at x2 HS6 O5 hB5 ⊢
      generalize Ks[k].fr = n3 at x3 HS6 O5 hB5 ⊢
      generalize Ks[k].tgt = n4 at x4 HS6 O5 hB5 ⊢
      generalize Ks[k].ks.length = n5 at x5 HS6 O5 hB5 ⊢
      go_wp2
      go_roundw
      case rel => exact ⟨k + 1, by omega, by go_num, _, HM5, HS6.out.1, HS6.out.2, O5.out, hB5⟩
      case measure => simp [intOf]; omega
    · obtain rfl : k = Ks.length := by omega
      have HM5 : Hid (hv.map (·.q) = Ks) := by show _ = _; rw [hm.out, List.take_length]
      have HO : Hid (KeptK n w wr (some ⟨w.heap.size, 0, none⟩) Ks) := by
        rw [fillQ_all HLv.out] at hown
        intro w'' hq k hk
        have hk' : k < hv.length := by rw [HLv.out]; exact hk
        have hkq : Ks[k] = hv[k].q := by have := HM5.out; subst this; simp
        have hblk := hq.2 w.heap.size (Nat.le_refl _) hws
        refine ⟨w.heap.size, 0, hv[k].A, hv[k].q.ws.length, hv[k].B, hv[k].q.ks.length, rfl, Nat.lt_of_lt_of_le hws hq.1, fun j u hu => ?_, ?_⟩
        · rw [cell_blk hblk]
          have hj : j < 6 := by have := (List.getElem?_eq_some_iff.1 hu).1; simpa [encQ] using this
          have hg := flat_get (enc := encHQ) (F := 6) (fun _ => rfl) (List.getElem?_eq_getElem hk') hj
          rw [show (0 : Nat) + k * 6 + j = k * 6 + j by omega]
          rw [hown.cellAt (k * 6 + j) (by omega), hg]
          rw [hkq] at hu
          exact hu
        · rw [hkq]
          exact hh.out hv[k] (List.getElem_mem _) w'' (hq.lo (by omega))
      clear hm HLv hown hh hws HM5
      go_wp2
      go_ret
      exact ⟨_, ⟨rfl, HO.out⟩, hB⟩
end Go.Proofs.YtaobgliimbmemaaDoor
