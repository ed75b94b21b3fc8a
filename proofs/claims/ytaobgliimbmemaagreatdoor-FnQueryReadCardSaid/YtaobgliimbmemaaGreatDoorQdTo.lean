/-
  toQuery: a question made anew.
-/
import Derived.Test.YtaobgliimbmemaaGreatDoorQdEq
namespace Go.Proofs.YtaobgliimbmemaaGreatDoor
open Go.RowKit Go.Sort
set_option linter.unusedVariables false

/-- the blocks from lo up to hi are the same. -/
def SameR (lo hi : Nat) (w w' : World) : Prop := hi ≤ w'.heap.size ∧ ∀ k, lo ≤ k → k < hi → w'.heap[k]? = w.heap[k]?
theorem SameR.trans {lo hi hi' : Nat} {a b c : World} (h : SameR lo hi a b) (k : SameR lo hi' b c) (hh : hi ≤ hi') : SameR lo hi a c := ⟨Nat.le_trans hh k.1, fun i h1 h2 => (k.2 i h1 (by omega)).trans (h.2 i h1 h2)⟩
theorem SameR.of {lo : Nat} {w w' : World} (h : Below w.heap.size w w') : SameR lo w.heap.size w w' := ⟨h.size, fun k _ hk => h.block k hk⟩
theorem SameR.lo {lo lo' hi : Nat} {w w' : World} (h : SameR lo hi w w') (hl : lo ≤ lo') : SameR lo' hi w w' := ⟨h.1, fun k h1 h2 => h.2 k (by omega) h2⟩
theorem SameR.hi {lo hi hi' : Nat} {w w' : World} (h : SameR lo hi w w') (hl : hi' ≤ hi) : SameR lo hi' w w' := ⟨by have := h.1; omega, fun k h1 h2 => h.2 k h1 (by omega)⟩
theorem SameR.set {lo b j hi : Nat} (w : World) (u : Value) (hb : b < lo) (hh : hi ≤ w.heap.size) : SameR lo hi w (w.setCell ⟨b, j, none⟩ u) := ⟨by simpa using hh, fun k h1 h2 => heap_setCell_other w ⟨b, j, none⟩ k u (by simp; omega)⟩
theorem SameR.set2 {lo b j hi : Nat} {w w' : World} (h : SameR lo hi w w') (u : Value) (hb : b < lo) : SameR lo hi w (w'.setCell ⟨b, j, none⟩ u) := ⟨by simpa using h.1, fun k h1 h2 => (heap_setCell_other w' ⟨b, j, none⟩ k u (by simp; omega)).trans (h.2 k h1 h2)⟩
theorem cell_blk {w w'' : World} {b j : Nat} (e : w''.heap[b]? = w.heap[b]?) : w''.cell? ⟨b, j, none⟩ = w.cell? ⟨b, j, none⟩ := by simp [World.cell?, e]
theorem srcT_same {w w'' : World} {g c : Nat} {L : List ByteArray} (h : SrcT w (some ⟨g, 0, none⟩) c L) (e : w''.heap[g]? = w.heap[g]?) (hs : w.heap.size ≤ w''.heap.size) : SrcT w'' (some ⟨g, 0, none⟩) c L := by
  refine ⟨⟨h.1.1, fun hn => ?_⟩, h.2⟩
  obtain ⟨b, off, e1, hb, hc⟩ := h.1.2 hn
  refine ⟨b, off, e1, by omega, fun j u hu => ?_⟩
  simp only [Option.some.injEq, Addr.mk.injEq, and_true] at e1
  obtain ⟨rfl, rfl⟩ := e1
  rw [cell_blk e]; exact hc j u hu
def KeptQ (n : Nat) (w w' : World) (q : QD) (A : Option Addr) (c : Nat) (B : Option Addr) : Prop := ∀ w'', SameR w.heap.size w'.heap.size w' w'' → HasQ n w'' q A c B
def KeptK (n : Nat) (w w' : World) (B : Option Addr) (L : List QD) : Prop := ∀ w'', SameR w.heap.size w'.heap.size w' w'' → RdK (HasQ n) w'' B L
def ToP (n : Nat) (q : QD) (w : World) (e : Ending) (w' : World) : Prop := ∃ (A B : Option Addr), (e = .returned (.agg #[.int .i64 q.kd, .string q.fd, .slice A q.ws.length q.ws.length, .int .i64 q.fr, .int .i64 q.tgt, .slice B q.ks.length q.ks.length]) ∧ KeptQ n w w' q A q.ws.length B) ∧ Below w.heap.size w w'
theorem ToP.mk {n : Nat} {q : QD} {w w' : World} {A B : Option Addr} (h : Hid (KeptQ n w w' q A q.ws.length B)) (hb : Hid (Below w.heap.size w w')) : ToP n q w (.returned (.agg #[.int .i64 q.kd, .string q.fd, .slice A q.ws.length q.ws.length, .int .i64 q.fr, .int .i64 q.tgt, .slice B q.ks.length q.ks.length])) w' := ⟨A, B, ⟨rfl, h.out⟩, hb.out⟩
def ToK (n : Nat) (L : List QD) (w : World) (e : Ending) (w' : World) : Prop := ∃ (B : Option Addr), (e = .returned (.slice B L.length L.length) ∧ KeptK n w w' B L) ∧ Below w.heap.size w w'
structure HdQ where
  q : QD
  A : Option Addr
  B : Option Addr
def encHQ (h : HdQ) : List Value := encQ h.q h.A h.q.ws.length h.B h.q.ks.length
theorem encHQ_ok : Enc encHQ 6 := ⟨fun _ => rfl, fun a u hu => by simp [encHQ, encQ] at hu; rcases hu with rfl | rfl | rfl | rfl | rfl | rfl <;> rfl⟩
def zsQ : List Value := [.int .i64 0, .string ⟨#[]⟩, .slice none 0 0, .int .i64 0, .int .i64 0, .slice none 0 0]
def fillQ (hv : List HdQ) (n : Nat) : List Value := hv.flatMap encHQ ++ (List.replicate (n - hv.length) zsQ).flatten
theorem fillQ_nil (n : Nat) : fillQ [] n = (List.replicate n zsQ).flatten := by simp [fillQ]
theorem fillQ_all {hv : List HdQ} {n : Nat} (h : hv.length = n) : fillQ hv n = hv.flatMap encHQ := by simp [fillQ, h]
theorem fillQ_get {hv : List HdQ} {n k : Nat} (h : hv.length = k) (hk : k < n) {j : Nat} (hj : j < 6) : (fillQ hv n)[k * 6 + j]? = zsQ[j]? := by
  have hl : (hv.flatMap encHQ).length = k * 6 := by rw [encHQ_ok.flat, h]
  unfold fillQ
  rw [show n - hv.length = (n - (k + 1)) + 1 by omega, List.replicate_succ, List.flatten_cons, List.getElem?_append_right (by omega), hl, show k * 6 + j - k * 6 = j by omega, List.getElem?_append_left (by simp [zsQ]; omega)]
theorem fillQ_step {hv : List HdQ} {n k : Nat} (h : hv.length = k) (hk : k < n) (m : HdQ) (u0 u1 u2 u3 u4 u5 : Value) (he : encHQ m = [u0, u1, u2, u3, u4, u5]) : ((((((fillQ hv n).set (k * 6) u0).set (k * 6 + 1) u1).set (k * 6 + 2) u2).set (k * 6 + 3) u3).set (k * 6 + 4) u4).set (k * 6 + 5) u5 = fillQ (hv ++ [m]) n := by
  have hl : (hv.flatMap encHQ).length = k * 6 := by rw [encHQ_ok.flat, h]
  unfold fillQ
  rw [show n - hv.length = (n - (k + 1)) + 1 by omega, List.replicate_succ, List.flatten_cons, List.set_append_right _ _ (by omega), hl, Nat.sub_self, List.set_append_right _ _ (by omega), hl, show k * 6 + 1 - k * 6 = 1 by omega, List.set_append_right _ _ (by omega), hl, show k * 6 + 2 - k * 6 = 2 by omega, List.set_append_right _ _ (by omega), hl, show k * 6 + 3 - k * 6 = 3 by omega,
    List.set_append_right _ _ (by omega), hl, show k * 6 + 4 - k * 6 = 4 by omega, List.set_append_right _ _ (by omega), hl, show k * 6 + 5 - k * 6 = 5 by omega, List.flatMap_append, List.append_assoc, List.length_append, h]
  simp only [List.flatMap_cons, List.flatMap_nil, List.append_nil, he]
  rfl
theorem infoQ : (Tryz.prog.info? 27).map (fun i => (i.zero, i.size, i.bytes)) = some (some (.agg #[.int .i64 0, .string ⟨#[]⟩, .slice none 0 0, .int .i64 0, .int .i64 0, .slice none 0 0]), 6, 88) := by kernel_rfl
end Go.Proofs.YtaobgliimbmemaaGreatDoor
