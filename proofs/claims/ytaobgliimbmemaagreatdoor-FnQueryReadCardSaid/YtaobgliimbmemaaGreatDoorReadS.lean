/-
  spec's reader: a question. (Printed by mk_reads.py.)
-/
import Derived.Test.YtaobgliimbmemaaGreatDoorLeafS
import Derived.Test.YtaobgliimbmemaaGreatDoorQueryI
import Derived.Deep.CutBlock
namespace Go.Proofs.YtaobgliimbmemaaGreatDoor
open Go.RowKit Go.Sort
set_option linter.unusedVariables false
set_option linter.unusedSimpArgs false

def RdC (m : Nat) : Prop := ∀ (n : Nat) (x : ByteArray) (z : Int) (w : World), z = (m : Int) → x.size ≤ 1000 → m < n → m ≤ 100 →
  Calls Tryz.prog 15 #[.string x, .int .i64 z] w (SpR n (readS m x.data.toList) w)
/-- a kid with the blocks that it lies in. -/
structure HdS where
  h : HdR
  lo : Nat
  hi : Nat
def encS (m : HdS) : List Value := encHR m.h
theorem encS_ok : Enc encS 6 := ⟨fun m => encHR_ok.len m.h, fun m => encHR_ok.one m.h⟩
def KidH (n : Nat) (w : World) (m : HdS) : Prop := ∀ V, SameR m.lo m.hi w V → HasQ n V m.h.q m.h.A m.h.c m.h.B
/-- the question's variable lies in block p; the kids so far. -/
structure LoopS (n p : Nat) (kd fr : Int) (w wr : World) (hv : List HdS) (vv : Value) : Prop where
  q : wr.heap[p]? = some (.cells #[.int .i64 kd, .string ⟨#[]⟩, .slice none 0 0, .int .i64 fr, .int .i64 0, vv] 27 (0, 0))
  r0 : wr.heap[w.heap.size]? = some (.cells #[.int .i64 0, .string ⟨#[]⟩, .slice none 0 0, .int .i64 0, .int .i64 0, .slice none 0 0] 27)
  b : Below w.heap.size w wr
  own : wr.ownsRow (p + 1) 27 6 vv hv.length (hv.flatMap encS)
  kid : ∀ m ∈ hv, KidH n wr m ∧ p < m.lo ∧ m.hi ≤ wr.heap.size ∧ ∀ gg, vv.ownBlock = some gg → gg < m.lo ∨ m.hi ≤ gg
  lo : w.heap.size < p
theorem LoopS.lt {n p : Nat} {kd fr : Int} {w wr : World} {hv : List HdS} {vv : Value} (h : LoopS n p kd fr w wr hv vv) : p < wr.heap.size := (Array.getElem?_eq_some_iff.1 h.q).1
theorem LoopS.start {n p : Nat} {kd fr : Int} {w wr : World} (q : wr.heap[p]? = some (.cells #[.int .i64 kd, .string ⟨#[]⟩, .slice none 0 0, .int .i64 fr, .int .i64 0, .slice none 0 0] 27 (0, 0))) (r0 : wr.heap[w.heap.size]? = some (.cells #[.int .i64 0, .string ⟨#[]⟩, .slice none 0 0, .int .i64 0, .int .i64 0, .slice none 0 0] 27)) (b : Below w.heap.size w wr) (lo : w.heap.size < p) : LoopS n p kd fr w wr [] (.slice none 0 0) :=
  ⟨q, r0, b, World.ownsRow_nil _ _ _ _, fun m hm => by simp at hm, lo⟩
theorem LoopS.blk7 {n p : Nat} {kd fr : Int} {w wr w9 wX w7 : World} {hv : List HdS} {vv : Value} (h : LoopS n p kd fr w wr hv vv) (h9 : Below wr.heap.size wr w9) (hX : Below w9.heap.size w9 wX) (g7 : wX.grownBy w7 vv.ownBlock) {k : Nat} (hk : k ≤ p) : w7.heap[k]? = wr.heap[k]? := by
  have hlt := h.lt
  have h1 := h9.size
  have h2 := hX.size
  refine (g7.block k (by omega) ?_).trans ((hX.block k (by omega)).trans (h9.block k (by omega)))
  intro e
  have := (h.own.lt k e.symm).1
  omega
theorem LoopS.next {n p : Nat} {kd fr : Int} {w wr w9 wX w7 : World} {hv : List HdS} {vv v7 : Value} {m : HdR} (h : LoopS n p kd fr w wr hv vv) (h9 : Below wr.heap.size wr w9) (hm : KeptQ n wr w9 m.q m.A m.c m.B)
    (hX : Below w9.heap.size w9 wX) (o7 : w7.ownsRow (p + 1) 27 6 v7 (hv ++ [(⟨m, wr.heap.size, w9.heap.size⟩ : HdS)]).length ((hv ++ [(⟨m, wr.heap.size, w9.heap.size⟩ : HdS)]).flatMap encS)) (g7 : wX.grownBy w7 vv.ownBlock) (h7 : v7.ownBlock = vv.ownBlock ∨ v7.ownBlock = some wX.heap.size) :
    LoopS n p kd fr w (w7.setCell ⟨p, 5, none⟩ v7) (hv ++ [(⟨m, wr.heap.size, w9.heap.size⟩ : HdS)]) v7 := by
  have hlo := h.lo
  have hlt := h.lt
  have h1 := h9.size
  have h2 := hX.size
  have h3 := g7.size
  have hvb : ∀ k, vv.ownBlock = some k → p < k ∧ k < wr.heap.size := fun k hk => by have := h.own.lt k hk; omega
  have hsz : (w7.setCell ⟨p, 5, none⟩ v7).heap.size = w7.heap.size := by simp
  have keep : ∀ k, k < w9.heap.size → k ≠ p → (vv.ownBlock ≠ some k) → (w7.setCell ⟨p, 5, none⟩ v7).heap[k]? = w9.heap[k]? := fun k hk hne hv2 =>
    (heap_setCell_other w7 ⟨p, 5, none⟩ k v7 (fun e => hne e)).trans ((g7.block k (by omega) (fun e => hv2 e.symm)).trans (hX.block k hk))
  have hB7 : Below w.heap.size w w7 := (h.b.trans ((h9.trans (hX.mono h1)).mono h.b.size)).grown g7 (by have := h.b.size; omega) (fun k hk => by have := hvb k hk; omega)
  refine ⟨?_, ?_, ?_, ?_, ?_, hlo⟩
  · exact heap_setCell_same w7 p 5 _ _ v7 ((h.blk7 h9 hX g7 (Nat.le_refl _)).trans h.q)
  · exact (heap_setCell_other w7 ⟨p, 5, none⟩ w.heap.size v7 (by show w.heap.size ≠ p; omega)).trans ((h.blk7 h9 hX g7 (by omega)).trans h.r0)
  · exact hB7.setCell (p := ⟨p, 5, none⟩) (by show _ ≤ p; omega) _
  · refine o7.kept (row := some p) (set_grownK w7 p 5 v7) ?_
    cases hv3 : v7.ownBlock with
    | none => exact .inl rfl
    | some k => exact .inr (by have := (o7.lt k hv3).1; intro e; injection e; omega)
  · intro x hx
    rcases List.mem_append.1 hx with hx | hx
    · obtain ⟨k1, k2, k3, k4⟩ := h.kid x hx
      refine ⟨fun V hV => k1 V ⟨by have := hV.1; omega, fun k h4 h5 => (hV.2 k h4 h5).trans ((keep k (by omega) (by omega) (fun e => by have := k4 k e; omega)).trans (h9.block k (by omega)))⟩, k2, by omega, fun gg hgg => ?_⟩
      rcases h7 with h7 | h7
      · exact k4 gg (by rw [← h7]; exact hgg)
      · rw [h7] at hgg; injection hgg with hgg; exact .inr (by omega)
    · rw [List.mem_singleton] at hx
      subst hx
      refine ⟨fun V hV => hm V ⟨by have := hV.1; dsimp only at this; omega, fun k h4 h5 => (hV.2 k h4 h5).trans (keep k h5 (by omega) (fun e => by have := hvb k e; omega))⟩, by dsimp only; omega, by dsimp only; omega, fun gg hgg => ?_⟩
      dsimp only
      rcases h7 with h7 | h7
      · rw [h7] at hgg; have := hvb gg hgg; exact .inl (by omega)
      · rw [h7] at hgg; injection hgg with hgg; exact .inr (by omega)
theorem rdK_S {n : Nat} {w : World} {b : Nat} {cs : Array Value} {hv : List HdS} {T : TypeId} (h : w.heap[b]? = some (.cells cs T (0, 0))) (hcs : cs.toList.take (hv.length * 6) = hv.flatMap encS) (hq : ∀ m ∈ hv, HasQ n w m.h.q m.h.A m.h.c m.h.B) : RdK (HasQ n) w (some ⟨b, 0, none⟩) (hv.map (·.h.q)) := fun k hk => by
  have hk' : k < hv.length := by simpa using hk
  have hg := List.getElem?_eq_getElem hk'
  refine ⟨b, 0, hv[k].h.A, hv[k].h.c, hv[k].h.B, hv[k].h.d, rfl, (Array.getElem?_eq_some_iff.1 h).1, fun j u hu => ?_, ?_⟩
  · rw [List.getElem_map] at hu
    have hj : j < 6 := by have := (List.getElem?_eq_some_iff.1 hu).1; simpa [encQ] using this
    rw [Nat.zero_add, cell_of_row _ _ (k * 6 + j) cs _ (0, 0) h, ← Array.getElem?_toList]
    have h1 : (hv.flatMap encS)[k * 6 + j]? = some u := by rw [flat_get (enc := encS) (F := 6) (fun _ => rfl) hg hj]; exact hu
    rw [← hcs, List.getElem?_take_of_lt (by have : (k + 1) * 6 ≤ hv.length * 6 := Nat.mul_le_mul_right 6 hk'; omega)] at h1
    exact h1
  · rw [List.getElem_map]; exact hq _ (List.getElem_mem _)
theorem SpR.node {n p : Nat} {q : QD} {kd fr : Int} {w wr : World} {hv : List HdS} {B : Option Addr} {d : Nat} (h : LoopS n p kd fr w wr hv (.slice B hv.length d)) (hq : q = ⟨kd, ⟨#[]⟩, [], fr, 0, hv.map (·.h.q)⟩) :
    ∀ W, OnlyS (fun k => k = w.heap.size) wr W → SpR (n + 1) q w (.returned (.agg #[.int .i64 kd, .string ⟨#[]⟩, .slice none 0 0, .int .i64 fr, .int .i64 0, .slice B hv.length d])) W := fun W hW => by
  have hlo := h.lo
  have hbs := h.b.size
  subst hq
  have hin : ∀ V, SameR w.heap.size W.heap.size W V → ∀ k, w.heap.size < k → k < wr.heap.size → V.heap[k]? = wr.heap[k]? := fun V hV k h1 h2 => (hV.2 k (by omega) (Nat.lt_of_lt_of_le h2 hW.2.1)).trans (hW.2.2 k h2 (by omega))
  refine ⟨none, 0, B, d, ⟨by simp, fun V hV => ⟨srcS_nil V, ?_⟩⟩, h.b.trans (hW.base (fun k hk => by omega) h.b.size)⟩
  have hkq : ∀ m ∈ hv, HasQ n V m.h.q m.h.A m.h.c m.h.B := fun m hm => by
    obtain ⟨k1, k2, k3, _⟩ := h.kid m hm
    exact k1 V ⟨by have := hV.1; have := hW.2.1; omega, fun k h4 h5 => hin V hV k (by omega) (by omega)⟩
  rcases h.own.2 with ⟨h1, h0⟩ | ⟨g', cap, cur, h1, h2, h3, h4, h5, h6, h7⟩
  · have e : hv = [] := List.length_eq_zero_iff.1 h0
    subst e
    exact rdKS_nil
  · simp only [Value.slice.injEq] at h1
    obtain ⟨rfl, _, rfl⟩ := h1
    exact rdK_S ((hin V hV g' (by omega) (Array.getElem?_eq_some_iff.1 h3).1).trans h3) h7 hkq

theorem SpR.up {n : Nat} {q : QD} {w W0 w1 W : World} {A : Option Addr} {c : Nat} {B : Option Addr} {d : Nat} (hk : KeptQ n W0 w1 q A c B) (hb1 : Below W0.heap.size W0 w1) (hB0 : Below w.heap.size w W0) (z0 : w.heap.size < W0.heap.size) (h6 : OnlyS (fun k => k = w.heap.size) w1 W) :
    SpR n q w (.returned (.agg #[.int .i64 q.kd, .string q.fd, .slice A q.ws.length c, .int .i64 q.fr, .int .i64 q.tgt, .slice B q.ks.length d])) W :=
  ⟨A, c, B, d, ⟨rfl, fun V hV => hk V ⟨by have := hV.1; have := h6.2.1; omega, fun k h1 h2 => (hV.2 k (by omega) (Nat.lt_of_lt_of_le h2 h6.2.1)).trans (h6.2.2 k h2 (by omega))⟩⟩, (hB0.trans (hb1.mono hB0.size)).trans (h6.base (fun k hk => by omega) (hB0.trans (hb1.mono hB0.size)).size)⟩
set_option maxRecDepth 8000 in
set_option maxHeartbeats 6400000 in
theorem read_leaf (n m : Nat) (x : ByteArray) (z : Int) (w : World) (hz : z = (m : Int)) (hs : x.size ≤ 1000) (hc : m = 0 ∨ x.size < 2 ∨ x.data.toList.head? ≠ some 40 ∨ x.data.toList.getLast? ≠ some 41) :
    Calls Tryz.prog 15 #[.string x, .int .i64 z] w (SpR (n + 1) (leafS x.data.toList) w) := by
  have CL := Lib.hid (fun V => l11Leaf_any n x.data.toList x (list_tb x).symm (by rw [bytes_len]; exact hs) V)
  generalize leafS x.data.toList = q at CL ⊢
  have hB0 : Below w.heap.size w (w.alloc (.cells #[.int .i64 0, .string ⟨#[]⟩, .slice none 0 0, .int .i64 0, .int .i64 0, .slice none 0 0] 27)) := (Below.refl _ _).alloc (Nat.le_refl _) _
  have r0 := alloc_new w (.cells #[.int .i64 0, .string ⟨#[]⟩, .slice none 0 0, .int .i64 0, .int .i64 0, .slice none 0 0] 27)
  have z0 : w.heap.size < (w.alloc (.cells #[.int .i64 0, .string ⟨#[]⟩, .slice none 0 0, .int .i64 0, .int .i64 0, .slice none 0 0] 27)).heap.size := by simp
  by_cases hm : m = 0
  · have ez : (z == 0) = true := by rw [hz, hm]; rfl
    clear hz hm hc
    go_enter Tryz.func15, Tryz.ntmps15
    go_wp2_with fail
    generalize (w.alloc (.cells #[.int .i64 0, .string ⟨#[]⟩, .slice none 0 0, .int .i64 0, .int .i64 0, .slice none 0 0] 27)) = W0 at hB0 r0 z0 ⊢
    refine (CL.out W0).mono ?_
    rintro e w1 ⟨A, c, B, d, ⟨rfl, hk⟩, hb1⟩
    have r1 := (hb1.block w.heap.size z0).trans r0
    have hB1 := hB0.trans (hb1.mono hB0.size)
    have s1 := hb1.size
    have HF := Lib.hid (fun W (h6 : OnlyS (fun k => k = w.heap.size) w1 W) => SpR.up (d := d) hk hb1 hB0 z0 h6)
    obtain ⟨s0, q1, s2, s3, s4, s5⟩ := blk6 r1
    have fz0 := frozen_blk r1 0
    have fz1 := frozen_blk r1 1
    have fz2 := frozen_blk r1 2
    have fz3 := frozen_blk r1 3
    have fz4 := frozen_blk r1 4
    have fz5 := frozen_blk r1 5
    clear hk hb1 r1 r0 hB1 hB0
    go_wp2
    exact bodyPost_ret (v := .agg #[.int .i64 q.kd, .string q.fd, .slice A q.ws.length c, .int .i64 q.fr, .int .i64 q.tgt, .slice B q.ks.length d]) (by simp [results, Tryz.results15, go_sem, *]) rfl (HF.out _ (OnlyS.sixS _ _ _ _ _ _ _ _))
  have ez : (z == 0) = false := by rw [beq_eq_false_iff_ne]; omega
  by_cases h2 : x.size < 2
  · have d2 : decide ((x.size : Int) < 2) = true := decide_eq_true (by omega)
    clear hz hm hc
    go_enter Tryz.func15, Tryz.ntmps15
    go_wp2_with fail
    generalize (w.alloc (.cells #[.int .i64 0, .string ⟨#[]⟩, .slice none 0 0, .int .i64 0, .int .i64 0, .slice none 0 0] 27)) = W0 at hB0 r0 z0 ⊢
    refine (CL.out W0).mono ?_
    rintro e w1 ⟨A, c, B, d, ⟨rfl, hk⟩, hb1⟩
    have r1 := (hb1.block w.heap.size z0).trans r0
    have hB1 := hB0.trans (hb1.mono hB0.size)
    have s1 := hb1.size
    have HF := Lib.hid (fun W (h6 : OnlyS (fun k => k = w.heap.size) w1 W) => SpR.up (d := d) hk hb1 hB0 z0 h6)
    obtain ⟨s0, q1, s2, s3, s4, s5⟩ := blk6 r1
    have fz0 := frozen_blk r1 0
    have fz1 := frozen_blk r1 1
    have fz2 := frozen_blk r1 2
    have fz3 := frozen_blk r1 3
    have fz4 := frozen_blk r1 4
    have fz5 := frozen_blk r1 5
    clear hk hb1 r1 r0 hB1 hB0
    go_wp2
    exact bodyPost_ret (v := .agg #[.int .i64 q.kd, .string q.fd, .slice A q.ws.length c, .int .i64 q.fr, .int .i64 q.tgt, .slice B q.ks.length d]) (by simp [results, Tryz.results15, go_sem, *]) rfl (HF.out _ (OnlyS.sixS _ _ _ _ _ _ _ _))
  have h20 : ¬ (x.size : Int) < 2 := by omega
  have d2 : decide ((x.size : Int) < 2) = false := decide_eq_false h20
  have hp : 0 < x.size := by omega
  have hp0 : (0 : Int) < (x.size : Int) := by omega
  have hhd : x.data.toList.head? = some x[0] := by rw [List.head?_eq_getElem?, List.getElem?_eq_getElem (by rw [bytes_len]; exact hp)]; rfl
  by_cases h40 : x[0] = 40
  · obtain ⟨k, hk⟩ : ∃ k, k = x.size - 1 := ⟨_, rfl⟩
    have hkl : k < x.size := by omega
    have hlast : x.data.toList.getLast? = some x[k] := by rw [List.getLast?_eq_getElem?, bytes_len, ← hk, List.getElem?_eq_getElem (by rw [bytes_len]; exact hkl)]; rfl
    have h41 : x[k] ≠ 41 := fun e => by
      rcases hc with h | h | h | h
      · exact hm h
      · omega
      · exact h (by rw [hhd, h40])
      · exact h (by rw [hlast, e])
    have e40 : ((x[0].toNat : Int) != 40) = false := by rw [h40]; rfl
    have e41 : ((x[k].toNat : Int) != 41) = true := by
      rw [bne_iff_ne]
      exact fun e => h41 (UInt8.toNat_inj.1 (by show x[k].toNat = 41; omega))
    have hki : (k : Int) < (x.size : Int) := by omega
    have hkz : (0 : Int) ≤ (k : Int) := by omega
    have hw1 : IntKind.i64.wrap ((x.size : Int) - 1) = (k : Int) := by rw [IntKind.wrap_i64] <;> omega
    clear hz hm hc hhd hlast h41 h40 hk
    go_enter Tryz.func15, Tryz.ntmps15
    go_wp2_with fail
    generalize (w.alloc (.cells #[.int .i64 0, .string ⟨#[]⟩, .slice none 0 0, .int .i64 0, .int .i64 0, .slice none 0 0] 27)) = W0 at hB0 r0 z0 ⊢
    refine (CL.out W0).mono ?_
    rintro e w1 ⟨A, c, B, d, ⟨rfl, hk⟩, hb1⟩
    have r1 := (hb1.block w.heap.size z0).trans r0
    have hB1 := hB0.trans (hb1.mono hB0.size)
    have s1 := hb1.size
    have HF := Lib.hid (fun W (h6 : OnlyS (fun k => k = w.heap.size) w1 W) => SpR.up (d := d) hk hb1 hB0 z0 h6)
    obtain ⟨s0, q1, s2, s3, s4, s5⟩ := blk6 r1
    have fz0 := frozen_blk r1 0
    have fz1 := frozen_blk r1 1
    have fz2 := frozen_blk r1 2
    have fz3 := frozen_blk r1 3
    have fz4 := frozen_blk r1 4
    have fz5 := frozen_blk r1 5
    clear hk hb1 r1 r0 hB1 hB0
    go_wp2
    exact bodyPost_ret (v := .agg #[.int .i64 q.kd, .string q.fd, .slice A q.ws.length c, .int .i64 q.fr, .int .i64 q.tgt, .slice B q.ks.length d]) (by simp [results, Tryz.results15, go_sem, *]) rfl (HF.out _ (OnlyS.sixS _ _ _ _ _ _ _ _))
  · have e40 : ((x[0].toNat : Int) != 40) = true := by
      rw [bne_iff_ne]
      exact fun e => h40 (UInt8.toNat_inj.1 (by show x[0].toNat = 40; omega))
    clear hz hm hc hhd h40
    go_enter Tryz.func15, Tryz.ntmps15
    go_wp2_with fail
    generalize (w.alloc (.cells #[.int .i64 0, .string ⟨#[]⟩, .slice none 0 0, .int .i64 0, .int .i64 0, .slice none 0 0] 27)) = W0 at hB0 r0 z0 ⊢
    refine (CL.out W0).mono ?_
    rintro e w1 ⟨A, c, B, d, ⟨rfl, hk⟩, hb1⟩
    have r1 := (hb1.block w.heap.size z0).trans r0
    have hB1 := hB0.trans (hb1.mono hB0.size)
    have s1 := hb1.size
    have HF := Lib.hid (fun W (h6 : OnlyS (fun k => k = w.heap.size) w1 W) => SpR.up (d := d) hk hb1 hB0 z0 h6)
    obtain ⟨s0, q1, s2, s3, s4, s5⟩ := blk6 r1
    have fz0 := frozen_blk r1 0
    have fz1 := frozen_blk r1 1
    have fz2 := frozen_blk r1 2
    have fz3 := frozen_blk r1 3
    have fz4 := frozen_blk r1 4
    have fz5 := frozen_blk r1 5
    clear hk hb1 r1 r0 hB1 hB0
    go_wp2
    exact bodyPost_ret (v := .agg #[.int .i64 q.kd, .string q.fd, .slice A q.ws.length c, .int .i64 q.fr, .int .i64 q.tgt, .slice B q.ks.length d]) (by simp [results, Tryz.results15, go_sem, *]) rfl (HF.out _ (OnlyS.sixS _ _ _ _ _ _ _ _))


set_option maxRecDepth 20000 in
set_option maxHeartbeats 25600000 in
theorem read_node (n m : Nat) (IH : Hid (RdC m)) (x : ByteArray) (z : Int) (w : World) (hz : z = ((m + 1 : Nat) : Int)) (hs : x.size ≤ 1000) (hmn : m < n) (hm : m ≤ 100) (h2 : 2 ≤ x.size) (h40 : x.data.toList.head? = some 40) (h41 : x.data.toList.getLast? = some 41) :
    Calls Tryz.prog 15 #[.string x, .int .i64 z] w (SpR (n + 1) (nodeS (readS m) (piecesL 7 x.data.toList.tail.dropLast)) w) := by
  have hzw : IntKind.i64.wrap (z - 1) = (m : Int) := by rw [IntKind.wrap_i64] <;> omega
  have ez : (z == 0) = false := by rw [beq_eq_false_iff_ne]; omega
  have h20 : ¬ (x.size : Int) < 2 := by omega
  have d2 : decide ((x.size : Int) < 2) = false := decide_eq_false h20
  have hp : 0 < x.size := by omega
  have hp0 : (0 : Int) < (x.size : Int) := by omega
  have hhd : x.data.toList.head? = some x[0] := by rw [List.head?_eq_getElem?, List.getElem?_eq_getElem (by rw [bytes_len]; exact hp)]; rfl
  obtain ⟨k, hk⟩ : ∃ k, k = x.size - 1 := ⟨_, rfl⟩
  have hkl : k < x.size := by omega
  have hlast : x.data.toList.getLast? = some x[k] := by rw [List.getLast?_eq_getElem?, bytes_len, ← hk, List.getElem?_eq_getElem (by rw [bytes_len]; exact hkl)]; rfl
  have e40 : ((x[0].toNat : Int) != 40) = false := by rw [hhd] at h40; rw [Option.some.inj h40]; rfl
  have e41 : ((x[k].toNat : Int) != 41) = false := by rw [hlast] at h41; rw [Option.some.inj h41]; rfl
  have hki : (k : Int) < (x.size : Int) := by omega
  have hki2 : (k : Int) ≤ (x.size : Int) := by omega
  have hkz : (0 : Int) ≤ (k : Int) := by omega
  have hk1 : (1 : Int) ≤ (k : Int) := by omega
  have hw1 : IntKind.i64.wrap ((x.size : Int) - 1) = (k : Int) := by rw [IntKind.wrap_i64] <;> omega
  have HX1 : Hid ((x.extract 1 k).data.toList = x.data.toList.tail.dropLast) := by
    show _ = _
    rw [ext_tb, tb_list, show (1 : Nat) = 0 + 1 from rfl, ← rest_tail, show rest x 0 = x.data.toList from rfl, List.dropLast_eq_take, List.length_tail, bytes_len]
    congr 1; omega
  have hx1 : (x.extract 1 k).size ≤ 1000 := by rw [← bytes_len, HX1.out, List.length_dropLast, List.length_tail, bytes_len]; omega
  obtain ⟨Rx, hRx⟩ : ∃ Rx, Rx = piecesL 7 x.data.toList.tail.dropLast := ⟨_, rfl⟩
  have hps := piecesL_sm 7 x.data.toList.tail.dropLast
  have hpn : piecesL 7 x.data.toList.tail.dropLast ≠ [] := by rw [piecesL]; split <;> simp
  rw [← hRx] at hps hpn ⊢
  have hsm0 : ∀ t ∈ Rx, t.length ≤ 1000 := fun t ht => by have := hps.2 t ht; rw [List.length_dropLast, List.length_tail, bytes_len] at this; omega
  have hR7 := hps.1
  obtain ⟨t0, ts, hts⟩ : ∃ t0 ts, Rx = t0 :: ts := by
    cases Rx with
    | nil => exact absurd rfl hpn
    | cons a b => exact ⟨a, b, rfl⟩
  obtain ⟨R, hR⟩ : ∃ R, R = Rx.map tb := ⟨_, rfl⟩
  obtain ⟨L, hL⟩ : ∃ L, L = R.length := ⟨_, rfl⟩
  have HRR := Lib.hid hL
  have HRS : Hid (R = [] ++ (piecesL (7 - 0) (x.extract 1 k).data.toList).map tb) := by show _ = _; rw [hR, hRx, HX1.out]; rfl
  have HRT : Hid (R = tb t0 :: ts.map tb) := by show _ = _; rw [hR, hts]; rfl
  have HLT : Hid (ts.length + 1 = L) := by show _ = _; rw [hL, HRT.out]; simp
  have hL7 : L ≤ 7 := by rw [hL, hR, List.length_map]; exact hR7
  have hsm : Hid (∀ t ∈ t0 :: ts, t.length ≤ 1000) := by rw [← hts]; exact hsm0
  obtain ⟨q, hq⟩ : ∃ q, q = nodeS (readS m) Rx := ⟨_, rfl⟩
  rw [← hq]
  rw [hts] at hq
  have HQ := Lib.hid hq
  clear hz hhd hlast h40 h41 hk hRx hps hpn hsm0 hR hts hq hL hR7
  have hB0 : Below w.heap.size w ((w.alloc (.cells #[.int .i64 0, .string ⟨#[]⟩, .slice none 0 0, .int .i64 0, .int .i64 0, .slice none 0 0] 27)).alloc (.cells #[] 9)) := ((Below.refl _ w).alloc (Nat.le_refl _) _).alloc (by simp) _
  have r0 : ((w.alloc (.cells #[.int .i64 0, .string ⟨#[]⟩, .slice none 0 0, .int .i64 0, .int .i64 0, .slice none 0 0] 27)).alloc (.cells #[] 9)).heap[w.heap.size]? = some (.cells #[.int .i64 0, .string ⟨#[]⟩, .slice none 0 0, .int .i64 0, .int .i64 0, .slice none 0 0] 27) := alloc_elder (alloc_new w (.cells #[.int .i64 0, .string ⟨#[]⟩, .slice none 0 0, .int .i64 0, .int .i64 0, .slice none 0 0] 27))
  have hw2 : (w.alloc (.cells #[.int .i64 0, .string ⟨#[]⟩, .slice none 0 0, .int .i64 0, .int .i64 0, .slice none 0 0] 27)).heap.size = w.heap.size + 1 := by simp
  have own0 := ownE_made (enc := encT) (F := 1) 9 (w.alloc (.cells #[.int .i64 0, .string ⟨#[]⟩, .slice none 0 0, .int .i64 0, .int .i64 0, .slice none 0 0] 27)) (w.heap.size + 1) (Nat.le_of_eq hw2.symm)
  rw [hw2] at own0
  have HX2 := Lib.hid hx1
  go_enter Tryz.func15, Tryz.ntmps15
  go_wp2_with fail
  generalize ((w.alloc (.cells #[.int .i64 0, .string ⟨#[]⟩, .slice none 0 0, .int .i64 0, .int .i64 0, .slice none 0 0] 27)).alloc (.cells #[] 9)) = W0 at hB0 r0 own0 ⊢
  clear hw2
  generalize x.extract 1 k = cx0 at HRS HX2 ⊢
  go_loopw [0, 5, 6] (fun sv wv _ wr => ∃ (cx : ByteArray) (O : List ByteArray) (on g c : Nat), sv = .string cx ∧ Hid (cx.size ≤ 1000) ∧ wv = .slice (some ⟨g, 0, none⟩) on c ∧ on ≤ 7 ∧ Hid (on = O.length) ∧ Hid (R = O ++ (piecesL (7 - O.length) cx.data.toList).map tb) ∧ wr.ownsRow (w.heap.size + 1) 9 1 (.slice (some ⟨g, 0, none⟩) O.length c) O.length (O.flatMap encT) ∧ Below w.heap.size w wr ∧ wr.heap[w.heap.size]? = some (.cells #[.int .i64 0, .string ⟨#[]⟩, .slice none 0 0, .int .i64 0, .int .i64 0, .slice none 0 0] 27)) (fun _ wv _ _ => 7 - (match wv with | .slice _ n _ => n | _ => 0))
  case atStart => exact ⟨cx0, [], 0, _, _, rfl, HX2, rfl, by omega, rfl, HRS, own0, hB0, r0⟩
  case round =>
    clear HRS own0 hB0 r0
    obtain ⟨cx, O, on, g0, c0, rfl, HCX, rfl, hon, HON, HRO, own, hB, hr0⟩ := hrel
    obtain ⟨wo, hwo⟩ : ∃ wo, wo = wr := ⟨_, rfl⟩
    subst hwo
    have hcx := HCX.out
    have hBs := hB.size
    have hg1 := (OwnE.capOk own).2.2.1
    have hg2 := (OwnE.capOk own).2.2.2
    by_cases ho7 : on < 7
    · have ho70 : (on : Int) < 7 := by omega
      have hO7 : O.length < 7 := by have := HON.out; omega
      have CE := l11End_any cx wo (by exact hcx)
      have hen := endL_le cx.data.toList 0
      rw [bytes_len] at hen
      have HPC : Hid (piecesL (7 - O.length) cx.data.toList = if cx.size ≤ endL 0 cx.data.toList then [cx.data.toList.take (endL 0 cx.data.toList)] else cx.data.toList.take (endL 0 cx.data.toList) :: piecesL (7 - (O.length + 1)) (cx.data.toList.drop (endL 0 cx.data.toList + 1))) := by
        show _ = _
        rw [show 7 - O.length = (7 - (O.length + 1)) + 1 by omega, piecesL, bytes_len]
      generalize endL 0 cx.data.toList = en at CE hen HPC
      have heni : (en : Int) ≤ (cx.size : Int) := by omega
      have henz : (0 : Int) ≤ (en : Int) := by omega
      have HE : Hid (cx.extract 0 en = tb (cx.data.toList.take en)) := ext_tb cx 0 en
      go_wp2_with fail
      refine CE.mono ?_
      rintro e w1 ⟨rfl, rfl⟩
      have hol := HON.out
      subst hol
      go_wp2_with (at_builtin; refine append_rec rowTStr encT_ok (by decide) rfl _ _ rfl (w.heap.size + 1) _ _ O rfl (own.alloc _) _ _ _ [cx.extract 0 en] rfl rfl (SrcE.lit encT_ok _ _ #[.string (cx.extract 0 en)] [cx.extract 0 en] rfl 1) (by simp; omega) (by omega) (by simp <;> omega) ?_)
      intro N hN g c wt own2 hg2b hat2 hb2
      have hNl : N.length = O.length + 1 := by rw [hN.out]; simp
      have hB2 : Below w.heap.size w wt := hB.trans (Below.trans ((Below.refl _ _).alloc hBs _) (hb2.mono (Nat.le_succ _)))
      have hr2 : wt.heap[w.heap.size]? = some (.cells #[.int .i64 0, .string ⟨#[]⟩, .slice none 0 0, .int .i64 0, .int .i64 0, .slice none 0 0] 27) := (hb2.block w.heap.size (Nat.lt_succ_self _)).trans (alloc_elder hr0)
      have hNE : N = O ++ [tb (cx.data.toList.take en)] := by rw [hN.out, HE.out]
      by_cases hge : cx.size ≤ en
      · have hgei : (cx.size : Int) ≤ (en : Int) := by omega
        have hRN : R = N := by rw [HRO.out, HPC.out, if_pos hge, hNE]; rfl
        subst hRN
        have hr0 := hr2
        have hB := hB2
        have ow : OwnT wt (w.heap.size + 1) g c R := own2
        have hBs := hB.size
        have hg1 := (OwnE.capOk own2).2.2.1
        have hg2 := (OwnE.capOk own2).2.2.2
        rw [← HRR.out]
        clear own HRO HCX hcx hN hNE HPC HE CE own2 hb2 hat2 hg2b hr2 hB2 hNl
        have hpw0 : w.heap.size < wt.heap.size := by omega
        have fW : Below wt.heap.size wt (wt.alloc (.cells #[.int .i64 0, .string ⟨#[]⟩, .slice none 0 0, .int .i64 0, .int .i64 0, .slice none 0 0] 27)) := (Below.refl _ _).alloc (Nat.le_refl _) _
        have v1 := alloc_new wt (.cells #[.int .i64 0, .string ⟨#[]⟩, .slice none 0 0, .int .i64 0, .int .i64 0, .slice none 0 0] 27)
        have zz1 : wt.heap.size < (wt.alloc (.cells #[.int .i64 0, .string ⟨#[]⟩, .slice none 0 0, .int .i64 0, .int .i64 0, .slice none 0 0] 27)).heap.size := by simp
        have r1 := (fW.block w.heap.size (by omega)).trans hr0
        have hB1 := hB.trans (fW.mono hB.size)
        have ow1 : OwnT (wt.alloc (.cells #[.int .i64 0, .string ⟨#[]⟩, .slice none 0 0, .int .i64 0, .int .i64 0, .slice none 0 0] 27)) (w.heap.size + 1) g c R := own_belowZ ow fW
        have hL0 : (0 : Int) < (L : Int) := by have := HLT.out; omega
        have hLp : 0 < L := by have := HLT.out; omega
        have x0 : (wt.alloc (.cells #[.int .i64 0, .string ⟨#[]⟩, .slice none 0 0, .int .i64 0, .int .i64 0, .slice none 0 0] 27)).cell? ⟨g, 0, none⟩ = some (.string (tb t0)) := by
          have h1 := ownT_at ow1 (j := 0) (by have := HRR.out; omega)
          rw [h1]
          congr 2
          have h2 := HRT.out
          subst h2
          rfl
        have hgl : g < wt.heap.size := (OwnE.capOk ow).2.2.2
        clear fW hr0 hB ow
        go_upto_region 12 with (fail)
        generalize (wt.alloc (.cells #[.int .i64 0, .string ⟨#[]⟩, .slice none 0 0, .int .i64 0, .int .i64 0, .slice none 0 0] 27)) = W1 at v1 zz1 r1 hB1 ow1 x0 ⊢
        try clear hRL
        generalize wt.heap.size = p at v1 zz1 hpw0 hgl ⊢
        have hpw : w.heap.size < p := hpw0
        clear x0
        have f0 := frozen_blk v1 0
        obtain ⟨y0, _, _, _, _, _⟩ := blk6 v1
        have e7 : ((tb t0).toList == [97, 110, 100]) = decide (t0 = nameL 7) := by rw [lit_is, Bool.eq_iff_iff, decide_eq_true_iff, decide_eq_true_iff]; exact ⟨fun e => tb_inj e, fun e => by rw [e]; rfl⟩
        have e8 : ((tb t0).toList == [111, 114]) = decide (t0 = nameL 8) := by rw [lit_is, Bool.eq_iff_iff, decide_eq_true_iff, decide_eq_true_iff]; exact ⟨fun e => tb_inj e, fun e => by rw [e]; rfl⟩
        have e9 : ((tb t0).toList == [108, 101, 115, 115]) = decide (t0 = nameL 9) := by rw [lit_is, Bool.eq_iff_iff, decide_eq_true_iff, decide_eq_true_iff]; exact ⟨fun e => tb_inj e, fun e => by rw [e]; rfl⟩
        have e10 : ((tb t0).toList == [116, 105, 109, 101, 115]) = decide (t0 = nameL 10) := by rw [lit_is, Bool.eq_iff_iff, decide_eq_true_iff, decide_eq_true_iff]; exact ⟨fun e => tb_inj e, fun e => by rw [e]; rfl⟩
        by_cases n7 : t0 = nameL 7
        · rw [decide_eq_true n7] at e7
          have ht0 : kindOf t0 = 7 := by rw [n7]; decide
          clear e8 e9 e10 n7
          have VQ : (W1.setCell ⟨p, 0, none⟩ (.int .i64 7)).heap[p]? = some (.cells #[.int .i64 7, .string ⟨#[]⟩, .slice none 0 0, .int .i64 0, .int .i64 0, .slice none 0 0] 27 (0, 0)) := heap_setCell_same W1 p 0 _ _ (.int .i64 7) v1
          have RQ0 : (W1.setCell ⟨p, 0, none⟩ (.int .i64 7)).heap[w.heap.size]? = some (.cells #[.int .i64 0, .string ⟨#[]⟩, .slice none 0 0, .int .i64 0, .int .i64 0, .slice none 0 0] 27) := (heap_setCell_other W1 ⟨p, 0, none⟩ w.heap.size (.int .i64 7) (by show w.heap.size ≠ p; omega)).trans r1
          have BQ : Below w.heap.size w (W1.setCell ⟨p, 0, none⟩ (.int .i64 7)) := hB1.setCell (p := ⟨p, 0, none⟩) (by show _ ≤ p; omega) _
          have OWT : Hid (OwnT (W1.setCell ⟨p, 0, none⟩ (.int .i64 7)) (w.heap.size + 1) g c R) := own_blk ow1 (heap_setCell_other W1 ⟨p, 0, none⟩ g (.int .i64 7) (by show g ≠ p; omega))
          have K0 := Lib.hid (LoopS.start (n := n) VQ RQ0 BQ hpw)
          have HQN : Hid (q = ⟨7, ⟨#[]⟩, [], 0, 0, ts.map (readS m)⟩) := by
            show _ = _
            rw [HQ.out]
            unfold nodeS
            simp only [List.headD_cons, ht0]
            rfl
          have HKW : Hid (ts.length + 1 = L) := HLT.out
          have HRL : Hid (L = R.length) := HRR.out
          have HRW : Hid (∀ k, (hk : k < ts.length) → ∀ i, i = k + 1 → ∀ hi : 0 + i < R.length, R[0 + i] = tb ts[k]) := by
            rintro k hk i rfl hi
            have h1 := HRT.out
            subst h1
            simp
          have HSM : Hid (∀ t ∈ ts, t.length ≤ 1000) := fun t ht => hsm.out t (List.mem_cons_of_mem _ ht)
          clear VQ RQ0 BQ v1 r1 hB1 ow1 HQ hsm HRT HLT HRR

          generalize tb t0 = u0 at e7
          go_wp2_with fail
          generalize (W1.setCell ⟨p, 0, none⟩ (.int .i64 7)) = WT at K0 OWT ⊢
          go_loopw [8] (fun iv wr => ∃ (i : Nat) (hv : List HdS) (vv : Value), iv = .int .i64 (i : Int) ∧ Hid (i = hv.length + 1) ∧ i ≤ L ∧ Hid (LoopS n p 7 0 w wr hv vv) ∧ Hid (hv.map (·.h.q) = (ts.take hv.length).map (readS m)) ∧ Hid (OwnT wr (w.heap.size + 1) g c R)) (fun iv _ => L - (intOf iv).toNat)
          case atStart => exact ⟨1, [], _, rfl, rfl, by omega, K0, rfl, OWT⟩
          case round =>
            clear K0 OWT
            obtain ⟨i, hv, vv, rfl, hi, hil, K, HK, OW⟩ := hrel
            obtain ⟨wk, hwk⟩ : ∃ wk, wk = wr := ⟨_, rfl⟩
            subst hwk
            obtain ⟨B, d, rfl⟩ := own_formK K.out.own
            by_cases hlt : i < L
            · have hi0 : (i : Int) < ((L : Nat) : Int) := by omega
              have hi1 : (0 : Int) ≤ (i : Int) := by omega
              have hkl : hv.length < ts.length := by have := HKW.out; have := hi.out; omega
              have xw : wk.cell? ⟨g, 0 + i, none⟩ = some (.string (tb ts[hv.length])) := by
                have h1 := ownT_at OW.out (j := 0 + i) (by have := HRL.out; omega)
                rw [h1]
                congr 2
                exact HRW.out hv.length hkl i hi.out _
              have xw2 : wk.cell? ⟨g, i + 0, none⟩ = some (.string (tb ts[hv.length])) := by rw [Nat.add_comm]; exact xw
              have hwl : (tb ts[hv.length]).size ≤ 1000 := by rw [tb_size]; exact HSM.out _ (List.getElem_mem _)
              have HKN : Hid ((ts.take (hv.length + 1)).map (readS m) = hv.map (·.h.q) ++ [readS m ts[hv.length]]) := by show _ = _; rw [HK.out, ← List.take_append_getElem hkl, List.map_append]; rfl
              have CIH := Lib.hid (fun V => IH.out n (tb ts[hv.length]) (m : Int) V rfl hwl hmn hm)
              rw [tb_list] at CIH
              generalize readS m ts[hv.length] = y at CIH HKN
              generalize tb ts[hv.length] = tw at CIH xw xw2
              obtain ⟨_, _, _, _, _, x5⟩ := blk6 K.out.q
              have hlt1 := K.out.lt
              have hgl := (OwnE.capOk OW.out).2.2.2
              have hgp : g ≠ p := by omega
              clear hwl HK
              try simp only [Nat.zero_add, Nat.add_zero] at xw xw2
              go_wp2_with fail
              go_region_law (first
                | (refine step_append_k rowTK encS_ok (by decide) rfl (.tmp 90) (.tmp 98) rfl (p + 1) (.slice B hv.length d) hv (by simp [Act.eval]) ((own_belowZ K.out.own h9b).alloc _) ⟨w9.heap.size, 0, none⟩ 1 1 [(⟨⟨y, A9, c9, B9, d9⟩, wk.heap.size, w9.heap.size⟩ : HdS)] rfl (by simp [Act.eval]) (SrcE.lit encS_ok w9 27 #[.int .i64 y.kd, .string y.fd, .slice A9 y.ws.length c9, .int .i64 y.fr, .int .i64 y.tgt, .slice B9 y.ks.length d9] [(⟨⟨y, A9, c9, B9, d9⟩, wk.heap.size, w9.heap.size⟩ : HdS)] rfl 1) (by show _ + 1 ≤ _; have := hi.out; omega) (by omega) (by rw [show (w9.alloc _).heap.size = w9.heap.size + 1 by simp]; omega) ?_; intro v7 w7 o7 g7 h7; have b7 := (K.out.blk7 h9b ((Below.refl _ w9).alloc (Nat.le_refl _) _) g7 (Nat.le_refl _)).trans K.out.q; obtain ⟨_, _, _, _, _, y7⟩ := blk6 b7; have z7 := frozen_blk b7 5; obtain ⟨B7, d7, rfl⟩ := own_formK o7)
                | (go_simp; go_at_call 15; refine (CIH.out wk.drew).mono ?_; rintro e w9 ⟨A9, c9, B9, d9, ⟨rfl, hk9⟩, h9⟩; have h9b : Below wk.heap.size wk w9 := ⟨h9.os, h9.tape, h9.output, h9.size, h9.block⟩; have hk9b : KeptQ n wk w9 y A9 c9 B9 := hk9; have h9s := h9b.size; have h59 : p < w9.heap.size := (by omega); have c5 := (belowL h9b (o := 5) hlt1).trans x5; have c6 : ∀ x, (w9.alloc x).cell? ⟨p, 5, none⟩ = some (.slice B hv.length d) := fun x => (belowL ((Below.refl _ w9).alloc (Nat.le_refl _) x) h59).trans c5))
              all_goals (have kN := K.out.next (m := (⟨y, A9, c9, B9, d9⟩ : HdR)) h9b hk9b ((Below.refl _ w9).alloc (Nat.le_refl _) _) o7 g7 h7)
              all_goals (have hgb := (heap_setCell_other w7 ⟨p, 5, none⟩ g (.slice B7 (hv ++ [(⟨⟨y, A9, c9, B9, d9⟩, wk.heap.size, w9.heap.size⟩ : HdS)]).length d7) (by show g ≠ p; omega)).trans (K.out.blk7 h9b ((Below.refl _ w9).alloc (Nat.le_refl _) _) g7 (show g ≤ p by omega)))
              all_goals (have OWN := Lib.hid (own_blk OW.out hgb))
              all_goals (rw [List.length_append, List.length_singleton] at kN OWN)
              all_goals (have KN := Lib.hid kN)
              all_goals (have HKM : Hid ((hv ++ [(⟨⟨y, A9, c9, B9, d9⟩, wk.heap.size, w9.heap.size⟩ : HdS)]).map (·.h.q) = (ts.take (hv ++ [(⟨⟨y, A9, c9, B9, d9⟩, wk.heap.size, w9.heap.size⟩ : HdS)]).length).map (readS m)) := by (show _ = _; rw [List.length_append, List.length_singleton, HKN.out, List.map_append]; rfl))
              all_goals (clear kN K o7 g7 h7 b7 hk9 hk9b h9 h9b HKN CIH OW hgb)
              all_goals (go_wp2)
              all_goals (go_roundw)
              all_goals (first | exact ⟨i + 1, hv ++ [(⟨⟨y, A9, c9, B9, d9⟩, wk.heap.size, w9.heap.size⟩ : HdS)], .slice B7 (hv.length + 1) d7, by go_num, (by (show _ = _; rw [List.length_append, List.length_singleton, hi.out])), by omega, KN, HKM, OWN⟩ | (simp [intOf]; omega))
            · have hi0 : ¬ (i : Int) < ((L : Nat) : Int) := by omega
              have HEQ : Hid (q = ⟨7, ⟨#[]⟩, [], 0, 0, hv.map (·.h.q)⟩) := by
                show _ = _
                rw [HQN.out, HK.out, List.take_of_length_le (by have := HKW.out; have := hi.out; omega)]
              have HF := Lib.hid (SpR.node K.out HEQ.out)
              obtain ⟨y0, y1, y2, y3, y4, y5⟩ := blk6 K.out.q
              have r5 := K.out.r0
              have hpw : p ≠ w.heap.size := by have := K.out.lo; omega
              obtain ⟨s0, s1, s2, s3, s4, s5⟩ := blk6 r5
              have fz0 := frozen_blk r5 0
              have fz1 := frozen_blk r5 1
              have fz2 := frozen_blk r5 2
              have fz3 := frozen_blk r5 3
              have fz4 := frozen_blk r5 4
              have fz5 := frozen_blk r5 5
              clear K HK OW HEQ r5
              go_wp2
              exact bodyPost_ret (v := .agg #[.int .i64 7, .string ⟨#[]⟩, .slice none 0 0, .int .i64 0, .int .i64 0, .slice B hv.length d]) (by simp [results, Tryz.results15, go_sem, *]) rfl (HF.out _ (OnlyS.sixS _ _ _ _ _ _ _ _))
        rw [decide_eq_false n7] at e7
        by_cases n8 : t0 = nameL 8
        · rw [decide_eq_true n8] at e8
          have ht0 : kindOf t0 = 8 := by rw [n8]; decide
          clear e9 e10 n7 n8
          have VQ : (W1.setCell ⟨p, 0, none⟩ (.int .i64 8)).heap[p]? = some (.cells #[.int .i64 8, .string ⟨#[]⟩, .slice none 0 0, .int .i64 0, .int .i64 0, .slice none 0 0] 27 (0, 0)) := heap_setCell_same W1 p 0 _ _ (.int .i64 8) v1
          have RQ0 : (W1.setCell ⟨p, 0, none⟩ (.int .i64 8)).heap[w.heap.size]? = some (.cells #[.int .i64 0, .string ⟨#[]⟩, .slice none 0 0, .int .i64 0, .int .i64 0, .slice none 0 0] 27) := (heap_setCell_other W1 ⟨p, 0, none⟩ w.heap.size (.int .i64 8) (by show w.heap.size ≠ p; omega)).trans r1
          have BQ : Below w.heap.size w (W1.setCell ⟨p, 0, none⟩ (.int .i64 8)) := hB1.setCell (p := ⟨p, 0, none⟩) (by show _ ≤ p; omega) _
          have OWT : Hid (OwnT (W1.setCell ⟨p, 0, none⟩ (.int .i64 8)) (w.heap.size + 1) g c R) := own_blk ow1 (heap_setCell_other W1 ⟨p, 0, none⟩ g (.int .i64 8) (by show g ≠ p; omega))
          have K0 := Lib.hid (LoopS.start (n := n) VQ RQ0 BQ hpw)
          have HQN : Hid (q = ⟨8, ⟨#[]⟩, [], 0, 0, ts.map (readS m)⟩) := by
            show _ = _
            rw [HQ.out]
            unfold nodeS
            simp only [List.headD_cons, ht0]
            rfl
          have HKW : Hid (ts.length + 1 = L) := HLT.out
          have HRL : Hid (L = R.length) := HRR.out
          have HRW : Hid (∀ k, (hk : k < ts.length) → ∀ i, i = k + 1 → ∀ hi : 0 + i < R.length, R[0 + i] = tb ts[k]) := by
            rintro k hk i rfl hi
            have h1 := HRT.out
            subst h1
            simp
          have HSM : Hid (∀ t ∈ ts, t.length ≤ 1000) := fun t ht => hsm.out t (List.mem_cons_of_mem _ ht)
          clear VQ RQ0 BQ v1 r1 hB1 ow1 HQ hsm HRT HLT HRR

          generalize tb t0 = u0 at e7 e8
          go_wp2_with fail
          generalize (W1.setCell ⟨p, 0, none⟩ (.int .i64 8)) = WT at K0 OWT ⊢
          go_loopw [8] (fun iv wr => ∃ (i : Nat) (hv : List HdS) (vv : Value), iv = .int .i64 (i : Int) ∧ Hid (i = hv.length + 1) ∧ i ≤ L ∧ Hid (LoopS n p 8 0 w wr hv vv) ∧ Hid (hv.map (·.h.q) = (ts.take hv.length).map (readS m)) ∧ Hid (OwnT wr (w.heap.size + 1) g c R)) (fun iv _ => L - (intOf iv).toNat)
          case atStart => exact ⟨1, [], _, rfl, rfl, by omega, K0, rfl, OWT⟩
          case round =>
            clear K0 OWT
            obtain ⟨i, hv, vv, rfl, hi, hil, K, HK, OW⟩ := hrel
            obtain ⟨wk, hwk⟩ : ∃ wk, wk = wr := ⟨_, rfl⟩
            subst hwk
            obtain ⟨B, d, rfl⟩ := own_formK K.out.own
            by_cases hlt : i < L
            · have hi0 : (i : Int) < ((L : Nat) : Int) := by omega
              have hi1 : (0 : Int) ≤ (i : Int) := by omega
              have hkl : hv.length < ts.length := by have := HKW.out; have := hi.out; omega
              have xw : wk.cell? ⟨g, 0 + i, none⟩ = some (.string (tb ts[hv.length])) := by
                have h1 := ownT_at OW.out (j := 0 + i) (by have := HRL.out; omega)
                rw [h1]
                congr 2
                exact HRW.out hv.length hkl i hi.out _
              have xw2 : wk.cell? ⟨g, i + 0, none⟩ = some (.string (tb ts[hv.length])) := by rw [Nat.add_comm]; exact xw
              have hwl : (tb ts[hv.length]).size ≤ 1000 := by rw [tb_size]; exact HSM.out _ (List.getElem_mem _)
              have HKN : Hid ((ts.take (hv.length + 1)).map (readS m) = hv.map (·.h.q) ++ [readS m ts[hv.length]]) := by show _ = _; rw [HK.out, ← List.take_append_getElem hkl, List.map_append]; rfl
              have CIH := Lib.hid (fun V => IH.out n (tb ts[hv.length]) (m : Int) V rfl hwl hmn hm)
              rw [tb_list] at CIH
              generalize readS m ts[hv.length] = y at CIH HKN
              generalize tb ts[hv.length] = tw at CIH xw xw2
              obtain ⟨_, _, _, _, _, x5⟩ := blk6 K.out.q
              have hlt1 := K.out.lt
              have hgl := (OwnE.capOk OW.out).2.2.2
              have hgp : g ≠ p := by omega
              clear hwl HK
              try simp only [Nat.zero_add, Nat.add_zero] at xw xw2
              go_wp2_with fail
              go_region_law (first
                | (refine step_append_k rowTK encS_ok (by decide) rfl (.tmp 90) (.tmp 98) rfl (p + 1) (.slice B hv.length d) hv (by simp [Act.eval]) ((own_belowZ K.out.own h9b).alloc _) ⟨w9.heap.size, 0, none⟩ 1 1 [(⟨⟨y, A9, c9, B9, d9⟩, wk.heap.size, w9.heap.size⟩ : HdS)] rfl (by simp [Act.eval]) (SrcE.lit encS_ok w9 27 #[.int .i64 y.kd, .string y.fd, .slice A9 y.ws.length c9, .int .i64 y.fr, .int .i64 y.tgt, .slice B9 y.ks.length d9] [(⟨⟨y, A9, c9, B9, d9⟩, wk.heap.size, w9.heap.size⟩ : HdS)] rfl 1) (by show _ + 1 ≤ _; have := hi.out; omega) (by omega) (by rw [show (w9.alloc _).heap.size = w9.heap.size + 1 by simp]; omega) ?_; intro v7 w7 o7 g7 h7; have b7 := (K.out.blk7 h9b ((Below.refl _ w9).alloc (Nat.le_refl _) _) g7 (Nat.le_refl _)).trans K.out.q; obtain ⟨_, _, _, _, _, y7⟩ := blk6 b7; have z7 := frozen_blk b7 5; obtain ⟨B7, d7, rfl⟩ := own_formK o7)
                | (go_simp; go_at_call 15; refine (CIH.out wk.drew).mono ?_; rintro e w9 ⟨A9, c9, B9, d9, ⟨rfl, hk9⟩, h9⟩; have h9b : Below wk.heap.size wk w9 := ⟨h9.os, h9.tape, h9.output, h9.size, h9.block⟩; have hk9b : KeptQ n wk w9 y A9 c9 B9 := hk9; have h9s := h9b.size; have h59 : p < w9.heap.size := (by omega); have c5 := (belowL h9b (o := 5) hlt1).trans x5; have c6 : ∀ x, (w9.alloc x).cell? ⟨p, 5, none⟩ = some (.slice B hv.length d) := fun x => (belowL ((Below.refl _ w9).alloc (Nat.le_refl _) x) h59).trans c5))
              all_goals (have kN := K.out.next (m := (⟨y, A9, c9, B9, d9⟩ : HdR)) h9b hk9b ((Below.refl _ w9).alloc (Nat.le_refl _) _) o7 g7 h7)
              all_goals (have hgb := (heap_setCell_other w7 ⟨p, 5, none⟩ g (.slice B7 (hv ++ [(⟨⟨y, A9, c9, B9, d9⟩, wk.heap.size, w9.heap.size⟩ : HdS)]).length d7) (by show g ≠ p; omega)).trans (K.out.blk7 h9b ((Below.refl _ w9).alloc (Nat.le_refl _) _) g7 (show g ≤ p by omega)))
              all_goals (have OWN := Lib.hid (own_blk OW.out hgb))
              all_goals (rw [List.length_append, List.length_singleton] at kN OWN)
              all_goals (have KN := Lib.hid kN)
              all_goals (have HKM : Hid ((hv ++ [(⟨⟨y, A9, c9, B9, d9⟩, wk.heap.size, w9.heap.size⟩ : HdS)]).map (·.h.q) = (ts.take (hv ++ [(⟨⟨y, A9, c9, B9, d9⟩, wk.heap.size, w9.heap.size⟩ : HdS)]).length).map (readS m)) := by (show _ = _; rw [List.length_append, List.length_singleton, HKN.out, List.map_append]; rfl))
              all_goals (clear kN K o7 g7 h7 b7 hk9 hk9b h9 h9b HKN CIH OW hgb)
              all_goals (go_wp2)
              all_goals (go_roundw)
              all_goals (first | exact ⟨i + 1, hv ++ [(⟨⟨y, A9, c9, B9, d9⟩, wk.heap.size, w9.heap.size⟩ : HdS)], .slice B7 (hv.length + 1) d7, by go_num, (by (show _ = _; rw [List.length_append, List.length_singleton, hi.out])), by omega, KN, HKM, OWN⟩ | (simp [intOf]; omega))
            · have hi0 : ¬ (i : Int) < ((L : Nat) : Int) := by omega
              have HEQ : Hid (q = ⟨8, ⟨#[]⟩, [], 0, 0, hv.map (·.h.q)⟩) := by
                show _ = _
                rw [HQN.out, HK.out, List.take_of_length_le (by have := HKW.out; have := hi.out; omega)]
              have HF := Lib.hid (SpR.node K.out HEQ.out)
              obtain ⟨y0, y1, y2, y3, y4, y5⟩ := blk6 K.out.q
              have r5 := K.out.r0
              have hpw : p ≠ w.heap.size := by have := K.out.lo; omega
              obtain ⟨s0, s1, s2, s3, s4, s5⟩ := blk6 r5
              have fz0 := frozen_blk r5 0
              have fz1 := frozen_blk r5 1
              have fz2 := frozen_blk r5 2
              have fz3 := frozen_blk r5 3
              have fz4 := frozen_blk r5 4
              have fz5 := frozen_blk r5 5
              clear K HK OW HEQ r5
              go_wp2
              exact bodyPost_ret (v := .agg #[.int .i64 8, .string ⟨#[]⟩, .slice none 0 0, .int .i64 0, .int .i64 0, .slice B hv.length d]) (by simp [results, Tryz.results15, go_sem, *]) rfl (HF.out _ (OnlyS.sixS _ _ _ _ _ _ _ _))
        rw [decide_eq_false n8] at e8
        by_cases n9 : t0 = nameL 9
        · rw [decide_eq_true n9] at e9
          have ht0 : kindOf t0 = 9 := by rw [n9]; decide
          clear e10 n7 n8 n9
          have VQ : (W1.setCell ⟨p, 0, none⟩ (.int .i64 9)).heap[p]? = some (.cells #[.int .i64 9, .string ⟨#[]⟩, .slice none 0 0, .int .i64 0, .int .i64 0, .slice none 0 0] 27 (0, 0)) := heap_setCell_same W1 p 0 _ _ (.int .i64 9) v1
          have RQ0 : (W1.setCell ⟨p, 0, none⟩ (.int .i64 9)).heap[w.heap.size]? = some (.cells #[.int .i64 0, .string ⟨#[]⟩, .slice none 0 0, .int .i64 0, .int .i64 0, .slice none 0 0] 27) := (heap_setCell_other W1 ⟨p, 0, none⟩ w.heap.size (.int .i64 9) (by show w.heap.size ≠ p; omega)).trans r1
          have BQ : Below w.heap.size w (W1.setCell ⟨p, 0, none⟩ (.int .i64 9)) := hB1.setCell (p := ⟨p, 0, none⟩) (by show _ ≤ p; omega) _
          have OWT : Hid (OwnT (W1.setCell ⟨p, 0, none⟩ (.int .i64 9)) (w.heap.size + 1) g c R) := own_blk ow1 (heap_setCell_other W1 ⟨p, 0, none⟩ g (.int .i64 9) (by show g ≠ p; omega))
          have K0 := Lib.hid (LoopS.start (n := n) VQ RQ0 BQ hpw)
          have HQN : Hid (q = ⟨9, ⟨#[]⟩, [], 0, 0, ts.map (readS m)⟩) := by
            show _ = _
            rw [HQ.out]
            unfold nodeS
            simp only [List.headD_cons, ht0]
            rfl
          have HKW : Hid (ts.length + 1 = L) := HLT.out
          have HRL : Hid (L = R.length) := HRR.out
          have HRW : Hid (∀ k, (hk : k < ts.length) → ∀ i, i = k + 1 → ∀ hi : 0 + i < R.length, R[0 + i] = tb ts[k]) := by
            rintro k hk i rfl hi
            have h1 := HRT.out
            subst h1
            simp
          have HSM : Hid (∀ t ∈ ts, t.length ≤ 1000) := fun t ht => hsm.out t (List.mem_cons_of_mem _ ht)
          clear VQ RQ0 BQ v1 r1 hB1 ow1 HQ hsm HRT HLT HRR

          generalize tb t0 = u0 at e7 e8 e9
          go_wp2_with fail
          generalize (W1.setCell ⟨p, 0, none⟩ (.int .i64 9)) = WT at K0 OWT ⊢
          go_loopw [8] (fun iv wr => ∃ (i : Nat) (hv : List HdS) (vv : Value), iv = .int .i64 (i : Int) ∧ Hid (i = hv.length + 1) ∧ i ≤ L ∧ Hid (LoopS n p 9 0 w wr hv vv) ∧ Hid (hv.map (·.h.q) = (ts.take hv.length).map (readS m)) ∧ Hid (OwnT wr (w.heap.size + 1) g c R)) (fun iv _ => L - (intOf iv).toNat)
          case atStart => exact ⟨1, [], _, rfl, rfl, by omega, K0, rfl, OWT⟩
          case round =>
            clear K0 OWT
            obtain ⟨i, hv, vv, rfl, hi, hil, K, HK, OW⟩ := hrel
            obtain ⟨wk, hwk⟩ : ∃ wk, wk = wr := ⟨_, rfl⟩
            subst hwk
            obtain ⟨B, d, rfl⟩ := own_formK K.out.own
            by_cases hlt : i < L
            · have hi0 : (i : Int) < ((L : Nat) : Int) := by omega
              have hi1 : (0 : Int) ≤ (i : Int) := by omega
              have hkl : hv.length < ts.length := by have := HKW.out; have := hi.out; omega
              have xw : wk.cell? ⟨g, 0 + i, none⟩ = some (.string (tb ts[hv.length])) := by
                have h1 := ownT_at OW.out (j := 0 + i) (by have := HRL.out; omega)
                rw [h1]
                congr 2
                exact HRW.out hv.length hkl i hi.out _
              have xw2 : wk.cell? ⟨g, i + 0, none⟩ = some (.string (tb ts[hv.length])) := by rw [Nat.add_comm]; exact xw
              have hwl : (tb ts[hv.length]).size ≤ 1000 := by rw [tb_size]; exact HSM.out _ (List.getElem_mem _)
              have HKN : Hid ((ts.take (hv.length + 1)).map (readS m) = hv.map (·.h.q) ++ [readS m ts[hv.length]]) := by show _ = _; rw [HK.out, ← List.take_append_getElem hkl, List.map_append]; rfl
              have CIH := Lib.hid (fun V => IH.out n (tb ts[hv.length]) (m : Int) V rfl hwl hmn hm)
              rw [tb_list] at CIH
              generalize readS m ts[hv.length] = y at CIH HKN
              generalize tb ts[hv.length] = tw at CIH xw xw2
              obtain ⟨_, _, _, _, _, x5⟩ := blk6 K.out.q
              have hlt1 := K.out.lt
              have hgl := (OwnE.capOk OW.out).2.2.2
              have hgp : g ≠ p := by omega
              clear hwl HK
              try simp only [Nat.zero_add, Nat.add_zero] at xw xw2
              go_wp2_with fail
              go_region_law (first
                | (refine step_append_k rowTK encS_ok (by decide) rfl (.tmp 90) (.tmp 98) rfl (p + 1) (.slice B hv.length d) hv (by simp [Act.eval]) ((own_belowZ K.out.own h9b).alloc _) ⟨w9.heap.size, 0, none⟩ 1 1 [(⟨⟨y, A9, c9, B9, d9⟩, wk.heap.size, w9.heap.size⟩ : HdS)] rfl (by simp [Act.eval]) (SrcE.lit encS_ok w9 27 #[.int .i64 y.kd, .string y.fd, .slice A9 y.ws.length c9, .int .i64 y.fr, .int .i64 y.tgt, .slice B9 y.ks.length d9] [(⟨⟨y, A9, c9, B9, d9⟩, wk.heap.size, w9.heap.size⟩ : HdS)] rfl 1) (by show _ + 1 ≤ _; have := hi.out; omega) (by omega) (by rw [show (w9.alloc _).heap.size = w9.heap.size + 1 by simp]; omega) ?_; intro v7 w7 o7 g7 h7; have b7 := (K.out.blk7 h9b ((Below.refl _ w9).alloc (Nat.le_refl _) _) g7 (Nat.le_refl _)).trans K.out.q; obtain ⟨_, _, _, _, _, y7⟩ := blk6 b7; have z7 := frozen_blk b7 5; obtain ⟨B7, d7, rfl⟩ := own_formK o7)
                | (go_simp; go_at_call 15; refine (CIH.out wk.drew).mono ?_; rintro e w9 ⟨A9, c9, B9, d9, ⟨rfl, hk9⟩, h9⟩; have h9b : Below wk.heap.size wk w9 := ⟨h9.os, h9.tape, h9.output, h9.size, h9.block⟩; have hk9b : KeptQ n wk w9 y A9 c9 B9 := hk9; have h9s := h9b.size; have h59 : p < w9.heap.size := (by omega); have c5 := (belowL h9b (o := 5) hlt1).trans x5; have c6 : ∀ x, (w9.alloc x).cell? ⟨p, 5, none⟩ = some (.slice B hv.length d) := fun x => (belowL ((Below.refl _ w9).alloc (Nat.le_refl _) x) h59).trans c5))
              all_goals (have kN := K.out.next (m := (⟨y, A9, c9, B9, d9⟩ : HdR)) h9b hk9b ((Below.refl _ w9).alloc (Nat.le_refl _) _) o7 g7 h7)
              all_goals (have hgb := (heap_setCell_other w7 ⟨p, 5, none⟩ g (.slice B7 (hv ++ [(⟨⟨y, A9, c9, B9, d9⟩, wk.heap.size, w9.heap.size⟩ : HdS)]).length d7) (by show g ≠ p; omega)).trans (K.out.blk7 h9b ((Below.refl _ w9).alloc (Nat.le_refl _) _) g7 (show g ≤ p by omega)))
              all_goals (have OWN := Lib.hid (own_blk OW.out hgb))
              all_goals (rw [List.length_append, List.length_singleton] at kN OWN)
              all_goals (have KN := Lib.hid kN)
              all_goals (have HKM : Hid ((hv ++ [(⟨⟨y, A9, c9, B9, d9⟩, wk.heap.size, w9.heap.size⟩ : HdS)]).map (·.h.q) = (ts.take (hv ++ [(⟨⟨y, A9, c9, B9, d9⟩, wk.heap.size, w9.heap.size⟩ : HdS)]).length).map (readS m)) := by (show _ = _; rw [List.length_append, List.length_singleton, HKN.out, List.map_append]; rfl))
              all_goals (clear kN K o7 g7 h7 b7 hk9 hk9b h9 h9b HKN CIH OW hgb)
              all_goals (go_wp2)
              all_goals (go_roundw)
              all_goals (first | exact ⟨i + 1, hv ++ [(⟨⟨y, A9, c9, B9, d9⟩, wk.heap.size, w9.heap.size⟩ : HdS)], .slice B7 (hv.length + 1) d7, by go_num, (by (show _ = _; rw [List.length_append, List.length_singleton, hi.out])), by omega, KN, HKM, OWN⟩ | (simp [intOf]; omega))
            · have hi0 : ¬ (i : Int) < ((L : Nat) : Int) := by omega
              have HEQ : Hid (q = ⟨9, ⟨#[]⟩, [], 0, 0, hv.map (·.h.q)⟩) := by
                show _ = _
                rw [HQN.out, HK.out, List.take_of_length_le (by have := HKW.out; have := hi.out; omega)]
              have HF := Lib.hid (SpR.node K.out HEQ.out)
              obtain ⟨y0, y1, y2, y3, y4, y5⟩ := blk6 K.out.q
              have r5 := K.out.r0
              have hpw : p ≠ w.heap.size := by have := K.out.lo; omega
              obtain ⟨s0, s1, s2, s3, s4, s5⟩ := blk6 r5
              have fz0 := frozen_blk r5 0
              have fz1 := frozen_blk r5 1
              have fz2 := frozen_blk r5 2
              have fz3 := frozen_blk r5 3
              have fz4 := frozen_blk r5 4
              have fz5 := frozen_blk r5 5
              clear K HK OW HEQ r5
              go_wp2
              exact bodyPost_ret (v := .agg #[.int .i64 9, .string ⟨#[]⟩, .slice none 0 0, .int .i64 0, .int .i64 0, .slice B hv.length d]) (by simp [results, Tryz.results15, go_sem, *]) rfl (HF.out _ (OnlyS.sixS _ _ _ _ _ _ _ _))
        rw [decide_eq_false n9] at e9
        by_cases n10 : t0 = nameL 10
        · rw [decide_eq_true n10] at e10
          have ht0 : kindOf t0 = 10 := by rw [n10]; decide
          clear n7 n8 n9 n10
          by_cases hL2 : L < 2
          · have hL20 : (L : Int) < 2 := by omega
            have hdL : decide ((L : Int) < 2) = true := decide_eq_true hL20
            have VQ : (W1.setCell ⟨p, 0, none⟩ (.int .i64 10)).heap[p]? = some (.cells #[.int .i64 10, .string ⟨#[]⟩, .slice none 0 0, .int .i64 0, .int .i64 0, .slice none 0 0] 27 (0, 0)) := heap_setCell_same W1 p 0 _ _ (.int .i64 10) v1
            have RQ0 : (W1.setCell ⟨p, 0, none⟩ (.int .i64 10)).heap[w.heap.size]? = some (.cells #[.int .i64 0, .string ⟨#[]⟩, .slice none 0 0, .int .i64 0, .int .i64 0, .slice none 0 0] 27) := (heap_setCell_other W1 ⟨p, 0, none⟩ w.heap.size (.int .i64 10) (by show w.heap.size ≠ p; omega)).trans r1
            have BQ : Below w.heap.size w (W1.setCell ⟨p, 0, none⟩ (.int .i64 10)) := hB1.setCell (p := ⟨p, 0, none⟩) (by show _ ≤ p; omega) _
            have OWT : Hid (OwnT (W1.setCell ⟨p, 0, none⟩ (.int .i64 10)) (w.heap.size + 1) g c R) := own_blk ow1 (heap_setCell_other W1 ⟨p, 0, none⟩ g (.int .i64 10) (by show g ≠ p; omega))
            have hts0 : ts = [] := by cases ts with | nil => rfl | cons a b => (have := HLT.out; simp at this; omega)
            have HQ2 : Hid (q = ⟨10, ⟨#[]⟩, [], 0, 0, ([] : List HdS).map (·.h.q)⟩) := by
              show _ = _
              rw [HQ.out, hts0]
              unfold nodeS
              simp only [List.headD_cons, ht0]
              rfl
            have HF := Lib.hid (SpR.node (n := n) (LoopS.start VQ RQ0 BQ hpw) HQ2.out)
            obtain ⟨_, y1, y2, y3, y4, y5⟩ := blk6 v1
            have hpw2 : p ≠ w.heap.size := by omega
            obtain ⟨s0, s1, s2, s3, s4, s5⟩ := blk6 r1
            have fz0 := frozen_blk r1 0
            have fz1 := frozen_blk r1 1
            have fz2 := frozen_blk r1 2
            have fz3 := frozen_blk r1 3
            have fz4 := frozen_blk r1 4
            have fz5 := frozen_blk r1 5
            clear VQ RQ0 BQ OWT v1 r1 hB1 ow1 HQ hsm HRT HLT HRR hts0 HQ2
            generalize tb t0 = u0 at e7 e8 e9 e10
            go_wp2
            exact bodyPost_ret (v := .agg #[.int .i64 10, .string ⟨#[]⟩, .slice none 0 0, .int .i64 0, .int .i64 0, .slice none 0 0]) (by simp [results, Tryz.results15, go_sem, *]) rfl (HF.out _ (OnlyS.sixS _ _ _ _ _ _ _ _))
          · have hL20 : ¬ (L : Int) < 2 := by omega
            have hdL : decide ((L : Int) < 2) = false := decide_eq_false hL20
            obtain ⟨t1, us, hts1⟩ : ∃ t1 us, ts = t1 :: us := by
              cases ts with
              | nil => (have := HLT.out; simp at this; omega)
              | cons a b => exact ⟨a, b, rfl⟩
            subst hts1
            obtain ⟨wl, hwl⟩ : ∃ wl, L = wl + 1 := ⟨L - 1, by omega⟩
            have hL21 : (1 : Int) < (L : Int) := by omega
            have hwl1 : 1 ≤ wl := by omega
            have VQ : (W1.setCell ⟨p, 0, none⟩ (.int .i64 10)).heap[p]? = some (.cells #[.int .i64 10, .string ⟨#[]⟩, .slice none 0 0, .int .i64 0, .int .i64 0, .slice none 0 0] 27 (0, 0)) := heap_setCell_same W1 p 0 _ _ (.int .i64 10) v1
            have RQ0 : (W1.setCell ⟨p, 0, none⟩ (.int .i64 10)).heap[w.heap.size]? = some (.cells #[.int .i64 0, .string ⟨#[]⟩, .slice none 0 0, .int .i64 0, .int .i64 0, .slice none 0 0] 27) := (heap_setCell_other W1 ⟨p, 0, none⟩ w.heap.size (.int .i64 10) (by show w.heap.size ≠ p; omega)).trans r1
            have BQ : Below w.heap.size w (W1.setCell ⟨p, 0, none⟩ (.int .i64 10)) := hB1.setCell (p := ⟨p, 0, none⟩) (by show _ ≤ p; omega) _
            have OWT : Hid (OwnT (W1.setCell ⟨p, 0, none⟩ (.int .i64 10)) (w.heap.size + 1) g c R) := own_blk ow1 (heap_setCell_other W1 ⟨p, 0, none⟩ g (.int .i64 10) (by show g ≠ p; omega))
            have HQN : Hid (q = ⟨10, ⟨#[]⟩, [], numS t1, 0, us.map (readS m)⟩) := by
              show _ = _
              rw [HQ.out]
              unfold nodeS
              simp only [List.headD_cons, ht0]
              simp [show ¬ us.length + 1 + 1 < 2 by omega]
            have x1 : (W1.setCell ⟨p, 0, none⟩ (.int .i64 10)).cell? ⟨g, 1, none⟩ = some (.string (tb t1)) := by
              have h1 := ownT_at OWT.out (j := 1) (by have := HRR.out; omega)
              rw [h1]
              congr 2
              have h2 := HRT.out
              subst h2
              rfl
            have CN := Lib.hid (fun V => l1Num_tb t1 (hsm.out t1 (by simp)) V)
            generalize numS t1 = fr at HQN CN
            have f3 := frozen_blk VQ 3
            obtain ⟨_, _, _, y3, _, _⟩ := blk6 VQ
            have VQ2 : ((W1.setCell ⟨p, 0, none⟩ (.int .i64 10)).setCell ⟨p, 3, none⟩ (.int .i64 fr)).heap[p]? = some (.cells #[.int .i64 10, .string ⟨#[]⟩, .slice none 0 0, .int .i64 fr, .int .i64 0, .slice none 0 0] 27 (0, 0)) := heap_setCell_same _ p 3 _ _ (.int .i64 fr) VQ
            have RQ2 : ((W1.setCell ⟨p, 0, none⟩ (.int .i64 10)).setCell ⟨p, 3, none⟩ (.int .i64 fr)).heap[w.heap.size]? = some (.cells #[.int .i64 0, .string ⟨#[]⟩, .slice none 0 0, .int .i64 0, .int .i64 0, .slice none 0 0] 27) := (heap_setCell_other _ ⟨p, 3, none⟩ w.heap.size (.int .i64 fr) (by show w.heap.size ≠ p; omega)).trans RQ0
            have BQ2 : Below w.heap.size w ((W1.setCell ⟨p, 0, none⟩ (.int .i64 10)).setCell ⟨p, 3, none⟩ (.int .i64 fr)) := BQ.setCell (p := ⟨p, 3, none⟩) (by show _ ≤ p; omega) _
            have OWT2 : Hid (OwnT ((W1.setCell ⟨p, 0, none⟩ (.int .i64 10)).setCell ⟨p, 3, none⟩ (.int .i64 fr)) (w.heap.size + 1) g c R) := own_blk OWT.out (heap_setCell_other _ ⟨p, 3, none⟩ g (.int .i64 fr) (by show g ≠ p; omega))
            have K0 := Lib.hid (LoopS.start (n := n) VQ2 RQ2 BQ2 hpw)
            have HKW : Hid (us.length + 1 = wl) := by (have := HLT.out; show _ = _; simp at this; omega)
            have HRL : Hid (wl + 1 = R.length) := by show _ = _; rw [← hwl, HRR.out]
            have HRW : Hid (∀ k, (hk : k < us.length) → ∀ i, i = k + 1 → ∀ hi : 1 + i < R.length, R[1 + i] = tb us[k]) := by
              rintro k hk i rfl hi
              have h1 := HRT.out
              subst h1
              simp [show 1 + (k + 1) = k + 1 + 1 by omega]
            have HSM : Hid (∀ t ∈ us, t.length ≤ 1000) := fun t ht => hsm.out t (by simp [ht])
            have hcap2 : 2 ≤ c := by have := (OwnE.capOk OWT.out).1; have := HRR.out; omega
            have hcn1 : ¬ c = 1 := by omega
            have hc1i : (1 : Int) ≤ (c : Int) := by omega
            have OWT := OWT2
            clear OWT2 VQ RQ0 BQ VQ2 RQ2 BQ2 v1 r1 hB1 ow1 HQ hsm HRT HLT HRR
            generalize tb t0 = u0 at e7 e8 e9 e10
            subst hwl
            go_wp2_with fail
            refine (CN.out _).mono ?_
            rintro e w8 ⟨rfl, rfl⟩
            clear x1
            go_wp2_with fail
            generalize ((W1.setCell ⟨p, 0, none⟩ (.int .i64 10)).setCell ⟨p, 3, none⟩ (.int .i64 fr)) = WT at K0 OWT ⊢
            go_loopw [8] (fun iv wr => ∃ (i : Nat) (hv : List HdS) (vv : Value), iv = .int .i64 (i : Int) ∧ Hid (i = hv.length + 1) ∧ i ≤ wl ∧ Hid (LoopS n p 10 fr w wr hv vv) ∧ Hid (hv.map (·.h.q) = (us.take hv.length).map (readS m)) ∧ Hid (OwnT wr (w.heap.size + 1) g c R)) (fun iv _ => wl - (intOf iv).toNat)
            case atStart => exact ⟨1, [], _, rfl, rfl, by omega, K0, rfl, OWT⟩
            case round =>
              clear K0 OWT
              obtain ⟨i, hv, vv, rfl, hi, hil, K, HK, OW⟩ := hrel
              obtain ⟨wk, hwk⟩ : ∃ wk, wk = wr := ⟨_, rfl⟩
              subst hwk
              obtain ⟨B, d, rfl⟩ := own_formK K.out.own
              by_cases hlt : i < wl
              · have hi0 : (i : Int) < ((wl : Nat) : Int) := by omega
                have hi1 : (0 : Int) ≤ (i : Int) := by omega
                have hkl : hv.length < us.length := by have := HKW.out; have := hi.out; omega
                have xw : wk.cell? ⟨g, 1 + i, none⟩ = some (.string (tb us[hv.length])) := by
                  have h1 := ownT_at OW.out (j := 1 + i) (by have := HRL.out; omega)
                  rw [h1]
                  congr 2
                  exact HRW.out hv.length hkl i hi.out _
                have xw2 : wk.cell? ⟨g, i + 1, none⟩ = some (.string (tb us[hv.length])) := by rw [Nat.add_comm]; exact xw
                have hwl : (tb us[hv.length]).size ≤ 1000 := by rw [tb_size]; exact HSM.out _ (List.getElem_mem _)
                have HKN : Hid ((us.take (hv.length + 1)).map (readS m) = hv.map (·.h.q) ++ [readS m us[hv.length]]) := by show _ = _; rw [HK.out, ← List.take_append_getElem hkl, List.map_append]; rfl
                have CIH := Lib.hid (fun V => IH.out n (tb us[hv.length]) (m : Int) V rfl hwl hmn hm)
                rw [tb_list] at CIH
                generalize readS m us[hv.length] = y at CIH HKN
                generalize tb us[hv.length] = tw at CIH xw xw2
                obtain ⟨_, _, _, _, _, x5⟩ := blk6 K.out.q
                have hlt1 := K.out.lt
                have hgl := (OwnE.capOk OW.out).2.2.2
                have hgp : g ≠ p := by omega
                clear hwl HK
                try simp only [Nat.zero_add, Nat.add_zero] at xw xw2
                go_wp2_with fail
                go_region_law (first
                  | (refine step_append_k rowTK encS_ok (by decide) rfl (.tmp 90) (.tmp 98) rfl (p + 1) (.slice B hv.length d) hv (by simp [Act.eval]) ((own_belowZ K.out.own h9b).alloc _) ⟨w9.heap.size, 0, none⟩ 1 1 [(⟨⟨y, A9, c9, B9, d9⟩, wk.heap.size, w9.heap.size⟩ : HdS)] rfl (by simp [Act.eval]) (SrcE.lit encS_ok w9 27 #[.int .i64 y.kd, .string y.fd, .slice A9 y.ws.length c9, .int .i64 y.fr, .int .i64 y.tgt, .slice B9 y.ks.length d9] [(⟨⟨y, A9, c9, B9, d9⟩, wk.heap.size, w9.heap.size⟩ : HdS)] rfl 1) (by show _ + 1 ≤ _; have := hi.out; omega) (by omega) (by rw [show (w9.alloc _).heap.size = w9.heap.size + 1 by simp]; omega) ?_; intro v7 w7 o7 g7 h7; have b7 := (K.out.blk7 h9b ((Below.refl _ w9).alloc (Nat.le_refl _) _) g7 (Nat.le_refl _)).trans K.out.q; obtain ⟨_, _, _, _, _, y7⟩ := blk6 b7; have z7 := frozen_blk b7 5; obtain ⟨B7, d7, rfl⟩ := own_formK o7)
                  | (go_simp; go_at_call 15; refine (CIH.out wk.drew).mono ?_; rintro e w9 ⟨A9, c9, B9, d9, ⟨rfl, hk9⟩, h9⟩; have h9b : Below wk.heap.size wk w9 := ⟨h9.os, h9.tape, h9.output, h9.size, h9.block⟩; have hk9b : KeptQ n wk w9 y A9 c9 B9 := hk9; have h9s := h9b.size; have h59 : p < w9.heap.size := (by omega); have c5 := (belowL h9b (o := 5) hlt1).trans x5; have c6 : ∀ x, (w9.alloc x).cell? ⟨p, 5, none⟩ = some (.slice B hv.length d) := fun x => (belowL ((Below.refl _ w9).alloc (Nat.le_refl _) x) h59).trans c5))
                all_goals (have kN := K.out.next (m := (⟨y, A9, c9, B9, d9⟩ : HdR)) h9b hk9b ((Below.refl _ w9).alloc (Nat.le_refl _) _) o7 g7 h7)
                all_goals (have hgb := (heap_setCell_other w7 ⟨p, 5, none⟩ g (.slice B7 (hv ++ [(⟨⟨y, A9, c9, B9, d9⟩, wk.heap.size, w9.heap.size⟩ : HdS)]).length d7) (by show g ≠ p; omega)).trans (K.out.blk7 h9b ((Below.refl _ w9).alloc (Nat.le_refl _) _) g7 (show g ≤ p by omega)))
                all_goals (have OWN := Lib.hid (own_blk OW.out hgb))
                all_goals (rw [List.length_append, List.length_singleton] at kN OWN)
                all_goals (have KN := Lib.hid kN)
                all_goals (have HKM : Hid ((hv ++ [(⟨⟨y, A9, c9, B9, d9⟩, wk.heap.size, w9.heap.size⟩ : HdS)]).map (·.h.q) = (us.take (hv ++ [(⟨⟨y, A9, c9, B9, d9⟩, wk.heap.size, w9.heap.size⟩ : HdS)]).length).map (readS m)) := by (show _ = _; rw [List.length_append, List.length_singleton, HKN.out, List.map_append]; rfl))
                all_goals (clear kN K o7 g7 h7 b7 hk9 hk9b h9 h9b HKN CIH OW hgb)
                all_goals (go_wp2)
                all_goals (go_roundw)
                all_goals (first | exact ⟨i + 1, hv ++ [(⟨⟨y, A9, c9, B9, d9⟩, wk.heap.size, w9.heap.size⟩ : HdS)], .slice B7 (hv.length + 1) d7, by go_num, (by (show _ = _; rw [List.length_append, List.length_singleton, hi.out])), by omega, KN, HKM, OWN⟩ | (simp [intOf]; omega))
              · have hi0 : ¬ (i : Int) < ((wl : Nat) : Int) := by omega
                have HEQ : Hid (q = ⟨10, ⟨#[]⟩, [], fr, 0, hv.map (·.h.q)⟩) := by
                  show _ = _
                  rw [HQN.out, HK.out, List.take_of_length_le (by have := HKW.out; have := hi.out; omega)]
                have HF := Lib.hid (SpR.node K.out HEQ.out)
                obtain ⟨y0, y1, y2, y3, y4, y5⟩ := blk6 K.out.q
                have r5 := K.out.r0
                have hpw : p ≠ w.heap.size := by have := K.out.lo; omega
                obtain ⟨s0, s1, s2, s3, s4, s5⟩ := blk6 r5
                have fz0 := frozen_blk r5 0
                have fz1 := frozen_blk r5 1
                have fz2 := frozen_blk r5 2
                have fz3 := frozen_blk r5 3
                have fz4 := frozen_blk r5 4
                have fz5 := frozen_blk r5 5
                clear K HK OW HEQ r5
                go_wp2
                exact bodyPost_ret (v := .agg #[.int .i64 10, .string ⟨#[]⟩, .slice none 0 0, .int .i64 fr, .int .i64 0, .slice B hv.length d]) (by simp [results, Tryz.results15, go_sem, *]) rfl (HF.out _ (OnlyS.sixS _ _ _ _ _ _ _ _))
        rw [decide_eq_false n10] at e10
        have ht0 : kindOf t0 = 0 := by unfold kindOf; rw [if_neg n7, if_neg n8, if_neg n9, if_neg n10]
        clear n7 n8 n9 n10
        have VQ := v1
        have RQ0 := r1
        have BQ := hB1
        have OWT := Lib.hid ow1
        skip
        have K0 := Lib.hid (LoopS.start (n := n) VQ RQ0 BQ hpw)
        have HQN : Hid (q = ⟨0, ⟨#[]⟩, [], 0, 0, ts.map (readS m)⟩) := by
          show _ = _
          rw [HQ.out]
          unfold nodeS
          simp only [List.headD_cons, ht0]
          rfl
        have HKW : Hid (ts.length + 1 = L) := HLT.out
        have HRL : Hid (L = R.length) := HRR.out
        have HRW : Hid (∀ k, (hk : k < ts.length) → ∀ i, i = k + 1 → ∀ hi : 0 + i < R.length, R[0 + i] = tb ts[k]) := by
          rintro k hk i rfl hi
          have h1 := HRT.out
          subst h1
          simp
        have HSM : Hid (∀ t ∈ ts, t.length ≤ 1000) := fun t ht => hsm.out t (List.mem_cons_of_mem _ ht)
        clear VQ RQ0 BQ v1 r1 hB1 ow1 HQ hsm HRT HLT HRR

        generalize tb t0 = u0 at e7 e8 e9 e10
        go_wp2_with fail
        go_loopw [8] (fun iv wr => ∃ (i : Nat) (hv : List HdS) (vv : Value), iv = .int .i64 (i : Int) ∧ Hid (i = hv.length + 1) ∧ i ≤ L ∧ Hid (LoopS n p 0 0 w wr hv vv) ∧ Hid (hv.map (·.h.q) = (ts.take hv.length).map (readS m)) ∧ Hid (OwnT wr (w.heap.size + 1) g c R)) (fun iv _ => L - (intOf iv).toNat)
        case atStart => exact ⟨1, [], _, rfl, rfl, by omega, K0, rfl, OWT⟩
        case round =>
          clear K0 OWT
          obtain ⟨i, hv, vv, rfl, hi, hil, K, HK, OW⟩ := hrel
          obtain ⟨wk, hwk⟩ : ∃ wk, wk = wr := ⟨_, rfl⟩
          subst hwk
          obtain ⟨B, d, rfl⟩ := own_formK K.out.own
          by_cases hlt : i < L
          · have hi0 : (i : Int) < ((L : Nat) : Int) := by omega
            have hi1 : (0 : Int) ≤ (i : Int) := by omega
            have hkl : hv.length < ts.length := by have := HKW.out; have := hi.out; omega
            have xw : wk.cell? ⟨g, 0 + i, none⟩ = some (.string (tb ts[hv.length])) := by
              have h1 := ownT_at OW.out (j := 0 + i) (by have := HRL.out; omega)
              rw [h1]
              congr 2
              exact HRW.out hv.length hkl i hi.out _
            have xw2 : wk.cell? ⟨g, i + 0, none⟩ = some (.string (tb ts[hv.length])) := by rw [Nat.add_comm]; exact xw
            have hwl : (tb ts[hv.length]).size ≤ 1000 := by rw [tb_size]; exact HSM.out _ (List.getElem_mem _)
            have HKN : Hid ((ts.take (hv.length + 1)).map (readS m) = hv.map (·.h.q) ++ [readS m ts[hv.length]]) := by show _ = _; rw [HK.out, ← List.take_append_getElem hkl, List.map_append]; rfl
            have CIH := Lib.hid (fun V => IH.out n (tb ts[hv.length]) (m : Int) V rfl hwl hmn hm)
            rw [tb_list] at CIH
            generalize readS m ts[hv.length] = y at CIH HKN
            generalize tb ts[hv.length] = tw at CIH xw xw2
            obtain ⟨_, _, _, _, _, x5⟩ := blk6 K.out.q
            have hlt1 := K.out.lt
            have hgl := (OwnE.capOk OW.out).2.2.2
            have hgp : g ≠ p := by omega
            clear hwl HK
            try simp only [Nat.zero_add, Nat.add_zero] at xw xw2
            go_wp2_with fail
            go_region_law (first
              | (refine step_append_k rowTK encS_ok (by decide) rfl (.tmp 90) (.tmp 98) rfl (p + 1) (.slice B hv.length d) hv (by simp [Act.eval]) ((own_belowZ K.out.own h9b).alloc _) ⟨w9.heap.size, 0, none⟩ 1 1 [(⟨⟨y, A9, c9, B9, d9⟩, wk.heap.size, w9.heap.size⟩ : HdS)] rfl (by simp [Act.eval]) (SrcE.lit encS_ok w9 27 #[.int .i64 y.kd, .string y.fd, .slice A9 y.ws.length c9, .int .i64 y.fr, .int .i64 y.tgt, .slice B9 y.ks.length d9] [(⟨⟨y, A9, c9, B9, d9⟩, wk.heap.size, w9.heap.size⟩ : HdS)] rfl 1) (by show _ + 1 ≤ _; have := hi.out; omega) (by omega) (by rw [show (w9.alloc _).heap.size = w9.heap.size + 1 by simp]; omega) ?_; intro v7 w7 o7 g7 h7; have b7 := (K.out.blk7 h9b ((Below.refl _ w9).alloc (Nat.le_refl _) _) g7 (Nat.le_refl _)).trans K.out.q; obtain ⟨_, _, _, _, _, y7⟩ := blk6 b7; have z7 := frozen_blk b7 5; obtain ⟨B7, d7, rfl⟩ := own_formK o7)
              | (go_simp; go_at_call 15; refine (CIH.out wk.drew).mono ?_; rintro e w9 ⟨A9, c9, B9, d9, ⟨rfl, hk9⟩, h9⟩; have h9b : Below wk.heap.size wk w9 := ⟨h9.os, h9.tape, h9.output, h9.size, h9.block⟩; have hk9b : KeptQ n wk w9 y A9 c9 B9 := hk9; have h9s := h9b.size; have h59 : p < w9.heap.size := (by omega); have c5 := (belowL h9b (o := 5) hlt1).trans x5; have c6 : ∀ x, (w9.alloc x).cell? ⟨p, 5, none⟩ = some (.slice B hv.length d) := fun x => (belowL ((Below.refl _ w9).alloc (Nat.le_refl _) x) h59).trans c5))
            all_goals (have kN := K.out.next (m := (⟨y, A9, c9, B9, d9⟩ : HdR)) h9b hk9b ((Below.refl _ w9).alloc (Nat.le_refl _) _) o7 g7 h7)
            all_goals (have hgb := (heap_setCell_other w7 ⟨p, 5, none⟩ g (.slice B7 (hv ++ [(⟨⟨y, A9, c9, B9, d9⟩, wk.heap.size, w9.heap.size⟩ : HdS)]).length d7) (by show g ≠ p; omega)).trans (K.out.blk7 h9b ((Below.refl _ w9).alloc (Nat.le_refl _) _) g7 (show g ≤ p by omega)))
            all_goals (have OWN := Lib.hid (own_blk OW.out hgb))
            all_goals (rw [List.length_append, List.length_singleton] at kN OWN)
            all_goals (have KN := Lib.hid kN)
            all_goals (have HKM : Hid ((hv ++ [(⟨⟨y, A9, c9, B9, d9⟩, wk.heap.size, w9.heap.size⟩ : HdS)]).map (·.h.q) = (ts.take (hv ++ [(⟨⟨y, A9, c9, B9, d9⟩, wk.heap.size, w9.heap.size⟩ : HdS)]).length).map (readS m)) := by (show _ = _; rw [List.length_append, List.length_singleton, HKN.out, List.map_append]; rfl))
            all_goals (clear kN K o7 g7 h7 b7 hk9 hk9b h9 h9b HKN CIH OW hgb)
            all_goals (go_wp2)
            all_goals (go_roundw)
            all_goals (first | exact ⟨i + 1, hv ++ [(⟨⟨y, A9, c9, B9, d9⟩, wk.heap.size, w9.heap.size⟩ : HdS)], .slice B7 (hv.length + 1) d7, by go_num, (by (show _ = _; rw [List.length_append, List.length_singleton, hi.out])), by omega, KN, HKM, OWN⟩ | (simp [intOf]; omega))
          · have hi0 : ¬ (i : Int) < ((L : Nat) : Int) := by omega
            have HEQ : Hid (q = ⟨0, ⟨#[]⟩, [], 0, 0, hv.map (·.h.q)⟩) := by
              show _ = _
              rw [HQN.out, HK.out, List.take_of_length_le (by have := HKW.out; have := hi.out; omega)]
            have HF := Lib.hid (SpR.node K.out HEQ.out)
            obtain ⟨y0, y1, y2, y3, y4, y5⟩ := blk6 K.out.q
            have r5 := K.out.r0
            have hpw : p ≠ w.heap.size := by have := K.out.lo; omega
            obtain ⟨s0, s1, s2, s3, s4, s5⟩ := blk6 r5
            have fz0 := frozen_blk r5 0
            have fz1 := frozen_blk r5 1
            have fz2 := frozen_blk r5 2
            have fz3 := frozen_blk r5 3
            have fz4 := frozen_blk r5 4
            have fz5 := frozen_blk r5 5
            clear K HK OW HEQ r5
            go_wp2
            exact bodyPost_ret (v := .agg #[.int .i64 0, .string ⟨#[]⟩, .slice none 0 0, .int .i64 0, .int .i64 0, .slice B hv.length d]) (by simp [results, Tryz.results15, go_sem, *]) rfl (HF.out _ (OnlyS.sixS _ _ _ _ _ _ _ _))
      · have hgei : ¬ (cx.size : Int) ≤ (en : Int) := by omega
        have hen1 : IntKind.i64.wrap ((en : Int) + 1) = ((en + 1 : Nat) : Int) := by rw [IntKind.wrap_i64] <;> omega
        have hen2 : ((en : Int) + 1) ≤ (cx.size : Int) := by omega
        have hen3 : (0 : Int) ≤ (en : Int) + 1 := by omega
        have HXT : Hid ((cx.extract (en + 1) cx.size).data.toList = cx.data.toList.drop (en + 1)) := by
          show _ = _
          rw [ext_tb, tb_list, List.take_of_length_le (by rw [rest_len]; omega)]
        have HRN : Hid (R = N ++ (piecesL (7 - N.length) (cx.extract (en + 1) cx.size).data.toList).map tb) := by
          show _ = _
          rw [HRO.out, HPC.out, if_neg hge, HXT.out, hNl, hNE]; simp
        have HCX2 : Hid ((cx.extract (en + 1) cx.size).size ≤ 1000) := by show _ ≤ _; rw [← bytes_len, HXT.out, List.length_drop, bytes_len]; omega
        have hN7 : N.length ≤ 7 := by omega
        clear own HRO HCX hcx hN hNE HPC HE CE hb2 hat2 hg2b hr0 hB HXT
        go_wp2
        go_roundw
        case rel => exact ⟨_, N, N.length, g, c, rfl, HCX2, rfl, hN7, rfl, HRN, own2, hB2, hr2⟩
        case measure => simp; omega
    · have ho70 : ¬ (on : Int) < 7 := by omega
      have hR : R = O := by rw [HRO.out, show 7 - O.length = 0 by have := HON.out; omega, piecesL]; simp
      subst hR
      have hol : L = on := by rw [HON.out, HRR.out]
      subst hol
      obtain ⟨g, hgg⟩ : ∃ g, g = g0 := ⟨_, rfl⟩
      subst hgg
      obtain ⟨c, hcc⟩ : ∃ c, c = c0 := ⟨_, rfl⟩
      subst hcc
      have ow : OwnT wo (w.heap.size + 1) g c R := own
      have hB := hB
      clear own HON HRO HCX hcx
      obtain ⟨wt, hwt⟩ : ∃ wt, wt = wo := ⟨_, rfl⟩
      subst hwt
      have hpw0 : w.heap.size < wt.heap.size := by omega
      have fW : Below wt.heap.size wt (wt.alloc (.cells #[.int .i64 0, .string ⟨#[]⟩, .slice none 0 0, .int .i64 0, .int .i64 0, .slice none 0 0] 27)) := (Below.refl _ _).alloc (Nat.le_refl _) _
      have v1 := alloc_new wt (.cells #[.int .i64 0, .string ⟨#[]⟩, .slice none 0 0, .int .i64 0, .int .i64 0, .slice none 0 0] 27)
      have zz1 : wt.heap.size < (wt.alloc (.cells #[.int .i64 0, .string ⟨#[]⟩, .slice none 0 0, .int .i64 0, .int .i64 0, .slice none 0 0] 27)).heap.size := by simp
      have r1 := (fW.block w.heap.size (by omega)).trans hr0
      have hB1 := hB.trans (fW.mono hB.size)
      have ow1 : OwnT (wt.alloc (.cells #[.int .i64 0, .string ⟨#[]⟩, .slice none 0 0, .int .i64 0, .int .i64 0, .slice none 0 0] 27)) (w.heap.size + 1) g c R := own_belowZ ow fW
      have hL0 : (0 : Int) < (L : Int) := by have := HLT.out; omega
      have hLp : 0 < L := by have := HLT.out; omega
      have x0 : (wt.alloc (.cells #[.int .i64 0, .string ⟨#[]⟩, .slice none 0 0, .int .i64 0, .int .i64 0, .slice none 0 0] 27)).cell? ⟨g, 0, none⟩ = some (.string (tb t0)) := by
        have h1 := ownT_at ow1 (j := 0) (by have := HRR.out; omega)
        rw [h1]
        congr 2
        have h2 := HRT.out
        subst h2
        rfl
      have hgl : g < wt.heap.size := (OwnE.capOk ow).2.2.2
      clear fW hr0 hB ow
      go_upto_region 12 with (fail)
      generalize (wt.alloc (.cells #[.int .i64 0, .string ⟨#[]⟩, .slice none 0 0, .int .i64 0, .int .i64 0, .slice none 0 0] 27)) = W1 at v1 zz1 r1 hB1 ow1 x0 ⊢
      try clear hRL
      generalize wt.heap.size = p at v1 zz1 hpw0 hgl ⊢
      have hpw : w.heap.size < p := hpw0
      clear x0
      have f0 := frozen_blk v1 0
      obtain ⟨y0, _, _, _, _, _⟩ := blk6 v1
      have e7 : ((tb t0).toList == [97, 110, 100]) = decide (t0 = nameL 7) := by rw [lit_is, Bool.eq_iff_iff, decide_eq_true_iff, decide_eq_true_iff]; exact ⟨fun e => tb_inj e, fun e => by rw [e]; rfl⟩
      have e8 : ((tb t0).toList == [111, 114]) = decide (t0 = nameL 8) := by rw [lit_is, Bool.eq_iff_iff, decide_eq_true_iff, decide_eq_true_iff]; exact ⟨fun e => tb_inj e, fun e => by rw [e]; rfl⟩
      have e9 : ((tb t0).toList == [108, 101, 115, 115]) = decide (t0 = nameL 9) := by rw [lit_is, Bool.eq_iff_iff, decide_eq_true_iff, decide_eq_true_iff]; exact ⟨fun e => tb_inj e, fun e => by rw [e]; rfl⟩
      have e10 : ((tb t0).toList == [116, 105, 109, 101, 115]) = decide (t0 = nameL 10) := by rw [lit_is, Bool.eq_iff_iff, decide_eq_true_iff, decide_eq_true_iff]; exact ⟨fun e => tb_inj e, fun e => by rw [e]; rfl⟩
      by_cases n7 : t0 = nameL 7
      · rw [decide_eq_true n7] at e7
        have ht0 : kindOf t0 = 7 := by rw [n7]; decide
        clear e8 e9 e10 n7
        have VQ : (W1.setCell ⟨p, 0, none⟩ (.int .i64 7)).heap[p]? = some (.cells #[.int .i64 7, .string ⟨#[]⟩, .slice none 0 0, .int .i64 0, .int .i64 0, .slice none 0 0] 27 (0, 0)) := heap_setCell_same W1 p 0 _ _ (.int .i64 7) v1
        have RQ0 : (W1.setCell ⟨p, 0, none⟩ (.int .i64 7)).heap[w.heap.size]? = some (.cells #[.int .i64 0, .string ⟨#[]⟩, .slice none 0 0, .int .i64 0, .int .i64 0, .slice none 0 0] 27) := (heap_setCell_other W1 ⟨p, 0, none⟩ w.heap.size (.int .i64 7) (by show w.heap.size ≠ p; omega)).trans r1
        have BQ : Below w.heap.size w (W1.setCell ⟨p, 0, none⟩ (.int .i64 7)) := hB1.setCell (p := ⟨p, 0, none⟩) (by show _ ≤ p; omega) _
        have OWT : Hid (OwnT (W1.setCell ⟨p, 0, none⟩ (.int .i64 7)) (w.heap.size + 1) g c R) := own_blk ow1 (heap_setCell_other W1 ⟨p, 0, none⟩ g (.int .i64 7) (by show g ≠ p; omega))
        have K0 := Lib.hid (LoopS.start (n := n) VQ RQ0 BQ hpw)
        have HQN : Hid (q = ⟨7, ⟨#[]⟩, [], 0, 0, ts.map (readS m)⟩) := by
          show _ = _
          rw [HQ.out]
          unfold nodeS
          simp only [List.headD_cons, ht0]
          rfl
        have HKW : Hid (ts.length + 1 = L) := HLT.out
        have HRL : Hid (L = R.length) := HRR.out
        have HRW : Hid (∀ k, (hk : k < ts.length) → ∀ i, i = k + 1 → ∀ hi : 0 + i < R.length, R[0 + i] = tb ts[k]) := by
          rintro k hk i rfl hi
          have h1 := HRT.out
          subst h1
          simp
        have HSM : Hid (∀ t ∈ ts, t.length ≤ 1000) := fun t ht => hsm.out t (List.mem_cons_of_mem _ ht)
        clear VQ RQ0 BQ v1 r1 hB1 ow1 HQ hsm HRT HLT HRR

        generalize tb t0 = u0 at e7
        go_wp2_with fail
        generalize (W1.setCell ⟨p, 0, none⟩ (.int .i64 7)) = WT at K0 OWT ⊢
        go_loopw [8] (fun iv wr => ∃ (i : Nat) (hv : List HdS) (vv : Value), iv = .int .i64 (i : Int) ∧ Hid (i = hv.length + 1) ∧ i ≤ L ∧ Hid (LoopS n p 7 0 w wr hv vv) ∧ Hid (hv.map (·.h.q) = (ts.take hv.length).map (readS m)) ∧ Hid (OwnT wr (w.heap.size + 1) g c R)) (fun iv _ => L - (intOf iv).toNat)
        case atStart => exact ⟨1, [], _, rfl, rfl, by omega, K0, rfl, OWT⟩
        case round =>
          clear K0 OWT
          obtain ⟨i, hv, vv, rfl, hi, hil, K, HK, OW⟩ := hrel
          obtain ⟨wk, hwk⟩ : ∃ wk, wk = wr := ⟨_, rfl⟩
          subst hwk
          obtain ⟨B, d, rfl⟩ := own_formK K.out.own
          by_cases hlt : i < L
          · have hi0 : (i : Int) < ((L : Nat) : Int) := by omega
            have hi1 : (0 : Int) ≤ (i : Int) := by omega
            have hkl : hv.length < ts.length := by have := HKW.out; have := hi.out; omega
            have xw : wk.cell? ⟨g, 0 + i, none⟩ = some (.string (tb ts[hv.length])) := by
              have h1 := ownT_at OW.out (j := 0 + i) (by have := HRL.out; omega)
              rw [h1]
              congr 2
              exact HRW.out hv.length hkl i hi.out _
            have xw2 : wk.cell? ⟨g, i + 0, none⟩ = some (.string (tb ts[hv.length])) := by rw [Nat.add_comm]; exact xw
            have hwl : (tb ts[hv.length]).size ≤ 1000 := by rw [tb_size]; exact HSM.out _ (List.getElem_mem _)
            have HKN : Hid ((ts.take (hv.length + 1)).map (readS m) = hv.map (·.h.q) ++ [readS m ts[hv.length]]) := by show _ = _; rw [HK.out, ← List.take_append_getElem hkl, List.map_append]; rfl
            have CIH := Lib.hid (fun V => IH.out n (tb ts[hv.length]) (m : Int) V rfl hwl hmn hm)
            rw [tb_list] at CIH
            generalize readS m ts[hv.length] = y at CIH HKN
            generalize tb ts[hv.length] = tw at CIH xw xw2
            obtain ⟨_, _, _, _, _, x5⟩ := blk6 K.out.q
            have hlt1 := K.out.lt
            have hgl := (OwnE.capOk OW.out).2.2.2
            have hgp : g ≠ p := by omega
            clear hwl HK
            try simp only [Nat.zero_add, Nat.add_zero] at xw xw2
            go_wp2_with fail
            go_region_law (first
              | (refine step_append_k rowTK encS_ok (by decide) rfl (.tmp 90) (.tmp 98) rfl (p + 1) (.slice B hv.length d) hv (by simp [Act.eval]) ((own_belowZ K.out.own h9b).alloc _) ⟨w9.heap.size, 0, none⟩ 1 1 [(⟨⟨y, A9, c9, B9, d9⟩, wk.heap.size, w9.heap.size⟩ : HdS)] rfl (by simp [Act.eval]) (SrcE.lit encS_ok w9 27 #[.int .i64 y.kd, .string y.fd, .slice A9 y.ws.length c9, .int .i64 y.fr, .int .i64 y.tgt, .slice B9 y.ks.length d9] [(⟨⟨y, A9, c9, B9, d9⟩, wk.heap.size, w9.heap.size⟩ : HdS)] rfl 1) (by show _ + 1 ≤ _; have := hi.out; omega) (by omega) (by rw [show (w9.alloc _).heap.size = w9.heap.size + 1 by simp]; omega) ?_; intro v7 w7 o7 g7 h7; have b7 := (K.out.blk7 h9b ((Below.refl _ w9).alloc (Nat.le_refl _) _) g7 (Nat.le_refl _)).trans K.out.q; obtain ⟨_, _, _, _, _, y7⟩ := blk6 b7; have z7 := frozen_blk b7 5; obtain ⟨B7, d7, rfl⟩ := own_formK o7)
              | (go_simp; go_at_call 15; refine (CIH.out wk.drew).mono ?_; rintro e w9 ⟨A9, c9, B9, d9, ⟨rfl, hk9⟩, h9⟩; have h9b : Below wk.heap.size wk w9 := ⟨h9.os, h9.tape, h9.output, h9.size, h9.block⟩; have hk9b : KeptQ n wk w9 y A9 c9 B9 := hk9; have h9s := h9b.size; have h59 : p < w9.heap.size := (by omega); have c5 := (belowL h9b (o := 5) hlt1).trans x5; have c6 : ∀ x, (w9.alloc x).cell? ⟨p, 5, none⟩ = some (.slice B hv.length d) := fun x => (belowL ((Below.refl _ w9).alloc (Nat.le_refl _) x) h59).trans c5))
            all_goals (have kN := K.out.next (m := (⟨y, A9, c9, B9, d9⟩ : HdR)) h9b hk9b ((Below.refl _ w9).alloc (Nat.le_refl _) _) o7 g7 h7)
            all_goals (have hgb := (heap_setCell_other w7 ⟨p, 5, none⟩ g (.slice B7 (hv ++ [(⟨⟨y, A9, c9, B9, d9⟩, wk.heap.size, w9.heap.size⟩ : HdS)]).length d7) (by show g ≠ p; omega)).trans (K.out.blk7 h9b ((Below.refl _ w9).alloc (Nat.le_refl _) _) g7 (show g ≤ p by omega)))
            all_goals (have OWN := Lib.hid (own_blk OW.out hgb))
            all_goals (rw [List.length_append, List.length_singleton] at kN OWN)
            all_goals (have KN := Lib.hid kN)
            all_goals (have HKM : Hid ((hv ++ [(⟨⟨y, A9, c9, B9, d9⟩, wk.heap.size, w9.heap.size⟩ : HdS)]).map (·.h.q) = (ts.take (hv ++ [(⟨⟨y, A9, c9, B9, d9⟩, wk.heap.size, w9.heap.size⟩ : HdS)]).length).map (readS m)) := by (show _ = _; rw [List.length_append, List.length_singleton, HKN.out, List.map_append]; rfl))
            all_goals (clear kN K o7 g7 h7 b7 hk9 hk9b h9 h9b HKN CIH OW hgb)
            all_goals (go_wp2)
            all_goals (go_roundw)
            all_goals (first | exact ⟨i + 1, hv ++ [(⟨⟨y, A9, c9, B9, d9⟩, wk.heap.size, w9.heap.size⟩ : HdS)], .slice B7 (hv.length + 1) d7, by go_num, (by (show _ = _; rw [List.length_append, List.length_singleton, hi.out])), by omega, KN, HKM, OWN⟩ | (simp [intOf]; omega))
          · have hi0 : ¬ (i : Int) < ((L : Nat) : Int) := by omega
            have HEQ : Hid (q = ⟨7, ⟨#[]⟩, [], 0, 0, hv.map (·.h.q)⟩) := by
              show _ = _
              rw [HQN.out, HK.out, List.take_of_length_le (by have := HKW.out; have := hi.out; omega)]
            have HF := Lib.hid (SpR.node K.out HEQ.out)
            obtain ⟨y0, y1, y2, y3, y4, y5⟩ := blk6 K.out.q
            have r5 := K.out.r0
            have hpw : p ≠ w.heap.size := by have := K.out.lo; omega
            obtain ⟨s0, s1, s2, s3, s4, s5⟩ := blk6 r5
            have fz0 := frozen_blk r5 0
            have fz1 := frozen_blk r5 1
            have fz2 := frozen_blk r5 2
            have fz3 := frozen_blk r5 3
            have fz4 := frozen_blk r5 4
            have fz5 := frozen_blk r5 5
            clear K HK OW HEQ r5
            go_wp2
            exact bodyPost_ret (v := .agg #[.int .i64 7, .string ⟨#[]⟩, .slice none 0 0, .int .i64 0, .int .i64 0, .slice B hv.length d]) (by simp [results, Tryz.results15, go_sem, *]) rfl (HF.out _ (OnlyS.sixS _ _ _ _ _ _ _ _))
      rw [decide_eq_false n7] at e7
      by_cases n8 : t0 = nameL 8
      · rw [decide_eq_true n8] at e8
        have ht0 : kindOf t0 = 8 := by rw [n8]; decide
        clear e9 e10 n7 n8
        have VQ : (W1.setCell ⟨p, 0, none⟩ (.int .i64 8)).heap[p]? = some (.cells #[.int .i64 8, .string ⟨#[]⟩, .slice none 0 0, .int .i64 0, .int .i64 0, .slice none 0 0] 27 (0, 0)) := heap_setCell_same W1 p 0 _ _ (.int .i64 8) v1
        have RQ0 : (W1.setCell ⟨p, 0, none⟩ (.int .i64 8)).heap[w.heap.size]? = some (.cells #[.int .i64 0, .string ⟨#[]⟩, .slice none 0 0, .int .i64 0, .int .i64 0, .slice none 0 0] 27) := (heap_setCell_other W1 ⟨p, 0, none⟩ w.heap.size (.int .i64 8) (by show w.heap.size ≠ p; omega)).trans r1
        have BQ : Below w.heap.size w (W1.setCell ⟨p, 0, none⟩ (.int .i64 8)) := hB1.setCell (p := ⟨p, 0, none⟩) (by show _ ≤ p; omega) _
        have OWT : Hid (OwnT (W1.setCell ⟨p, 0, none⟩ (.int .i64 8)) (w.heap.size + 1) g c R) := own_blk ow1 (heap_setCell_other W1 ⟨p, 0, none⟩ g (.int .i64 8) (by show g ≠ p; omega))
        have K0 := Lib.hid (LoopS.start (n := n) VQ RQ0 BQ hpw)
        have HQN : Hid (q = ⟨8, ⟨#[]⟩, [], 0, 0, ts.map (readS m)⟩) := by
          show _ = _
          rw [HQ.out]
          unfold nodeS
          simp only [List.headD_cons, ht0]
          rfl
        have HKW : Hid (ts.length + 1 = L) := HLT.out
        have HRL : Hid (L = R.length) := HRR.out
        have HRW : Hid (∀ k, (hk : k < ts.length) → ∀ i, i = k + 1 → ∀ hi : 0 + i < R.length, R[0 + i] = tb ts[k]) := by
          rintro k hk i rfl hi
          have h1 := HRT.out
          subst h1
          simp
        have HSM : Hid (∀ t ∈ ts, t.length ≤ 1000) := fun t ht => hsm.out t (List.mem_cons_of_mem _ ht)
        clear VQ RQ0 BQ v1 r1 hB1 ow1 HQ hsm HRT HLT HRR

        generalize tb t0 = u0 at e7 e8
        go_wp2_with fail
        generalize (W1.setCell ⟨p, 0, none⟩ (.int .i64 8)) = WT at K0 OWT ⊢
        go_loopw [8] (fun iv wr => ∃ (i : Nat) (hv : List HdS) (vv : Value), iv = .int .i64 (i : Int) ∧ Hid (i = hv.length + 1) ∧ i ≤ L ∧ Hid (LoopS n p 8 0 w wr hv vv) ∧ Hid (hv.map (·.h.q) = (ts.take hv.length).map (readS m)) ∧ Hid (OwnT wr (w.heap.size + 1) g c R)) (fun iv _ => L - (intOf iv).toNat)
        case atStart => exact ⟨1, [], _, rfl, rfl, by omega, K0, rfl, OWT⟩
        case round =>
          clear K0 OWT
          obtain ⟨i, hv, vv, rfl, hi, hil, K, HK, OW⟩ := hrel
          obtain ⟨wk, hwk⟩ : ∃ wk, wk = wr := ⟨_, rfl⟩
          subst hwk
          obtain ⟨B, d, rfl⟩ := own_formK K.out.own
          by_cases hlt : i < L
          · have hi0 : (i : Int) < ((L : Nat) : Int) := by omega
            have hi1 : (0 : Int) ≤ (i : Int) := by omega
            have hkl : hv.length < ts.length := by have := HKW.out; have := hi.out; omega
            have xw : wk.cell? ⟨g, 0 + i, none⟩ = some (.string (tb ts[hv.length])) := by
              have h1 := ownT_at OW.out (j := 0 + i) (by have := HRL.out; omega)
              rw [h1]
              congr 2
              exact HRW.out hv.length hkl i hi.out _
            have xw2 : wk.cell? ⟨g, i + 0, none⟩ = some (.string (tb ts[hv.length])) := by rw [Nat.add_comm]; exact xw
            have hwl : (tb ts[hv.length]).size ≤ 1000 := by rw [tb_size]; exact HSM.out _ (List.getElem_mem _)
            have HKN : Hid ((ts.take (hv.length + 1)).map (readS m) = hv.map (·.h.q) ++ [readS m ts[hv.length]]) := by show _ = _; rw [HK.out, ← List.take_append_getElem hkl, List.map_append]; rfl
            have CIH := Lib.hid (fun V => IH.out n (tb ts[hv.length]) (m : Int) V rfl hwl hmn hm)
            rw [tb_list] at CIH
            generalize readS m ts[hv.length] = y at CIH HKN
            generalize tb ts[hv.length] = tw at CIH xw xw2
            obtain ⟨_, _, _, _, _, x5⟩ := blk6 K.out.q
            have hlt1 := K.out.lt
            have hgl := (OwnE.capOk OW.out).2.2.2
            have hgp : g ≠ p := by omega
            clear hwl HK
            try simp only [Nat.zero_add, Nat.add_zero] at xw xw2
            go_wp2_with fail
            go_region_law (first
              | (refine step_append_k rowTK encS_ok (by decide) rfl (.tmp 90) (.tmp 98) rfl (p + 1) (.slice B hv.length d) hv (by simp [Act.eval]) ((own_belowZ K.out.own h9b).alloc _) ⟨w9.heap.size, 0, none⟩ 1 1 [(⟨⟨y, A9, c9, B9, d9⟩, wk.heap.size, w9.heap.size⟩ : HdS)] rfl (by simp [Act.eval]) (SrcE.lit encS_ok w9 27 #[.int .i64 y.kd, .string y.fd, .slice A9 y.ws.length c9, .int .i64 y.fr, .int .i64 y.tgt, .slice B9 y.ks.length d9] [(⟨⟨y, A9, c9, B9, d9⟩, wk.heap.size, w9.heap.size⟩ : HdS)] rfl 1) (by show _ + 1 ≤ _; have := hi.out; omega) (by omega) (by rw [show (w9.alloc _).heap.size = w9.heap.size + 1 by simp]; omega) ?_; intro v7 w7 o7 g7 h7; have b7 := (K.out.blk7 h9b ((Below.refl _ w9).alloc (Nat.le_refl _) _) g7 (Nat.le_refl _)).trans K.out.q; obtain ⟨_, _, _, _, _, y7⟩ := blk6 b7; have z7 := frozen_blk b7 5; obtain ⟨B7, d7, rfl⟩ := own_formK o7)
              | (go_simp; go_at_call 15; refine (CIH.out wk.drew).mono ?_; rintro e w9 ⟨A9, c9, B9, d9, ⟨rfl, hk9⟩, h9⟩; have h9b : Below wk.heap.size wk w9 := ⟨h9.os, h9.tape, h9.output, h9.size, h9.block⟩; have hk9b : KeptQ n wk w9 y A9 c9 B9 := hk9; have h9s := h9b.size; have h59 : p < w9.heap.size := (by omega); have c5 := (belowL h9b (o := 5) hlt1).trans x5; have c6 : ∀ x, (w9.alloc x).cell? ⟨p, 5, none⟩ = some (.slice B hv.length d) := fun x => (belowL ((Below.refl _ w9).alloc (Nat.le_refl _) x) h59).trans c5))
            all_goals (have kN := K.out.next (m := (⟨y, A9, c9, B9, d9⟩ : HdR)) h9b hk9b ((Below.refl _ w9).alloc (Nat.le_refl _) _) o7 g7 h7)
            all_goals (have hgb := (heap_setCell_other w7 ⟨p, 5, none⟩ g (.slice B7 (hv ++ [(⟨⟨y, A9, c9, B9, d9⟩, wk.heap.size, w9.heap.size⟩ : HdS)]).length d7) (by show g ≠ p; omega)).trans (K.out.blk7 h9b ((Below.refl _ w9).alloc (Nat.le_refl _) _) g7 (show g ≤ p by omega)))
            all_goals (have OWN := Lib.hid (own_blk OW.out hgb))
            all_goals (rw [List.length_append, List.length_singleton] at kN OWN)
            all_goals (have KN := Lib.hid kN)
            all_goals (have HKM : Hid ((hv ++ [(⟨⟨y, A9, c9, B9, d9⟩, wk.heap.size, w9.heap.size⟩ : HdS)]).map (·.h.q) = (ts.take (hv ++ [(⟨⟨y, A9, c9, B9, d9⟩, wk.heap.size, w9.heap.size⟩ : HdS)]).length).map (readS m)) := by (show _ = _; rw [List.length_append, List.length_singleton, HKN.out, List.map_append]; rfl))
            all_goals (clear kN K o7 g7 h7 b7 hk9 hk9b h9 h9b HKN CIH OW hgb)
            all_goals (go_wp2)
            all_goals (go_roundw)
            all_goals (first | exact ⟨i + 1, hv ++ [(⟨⟨y, A9, c9, B9, d9⟩, wk.heap.size, w9.heap.size⟩ : HdS)], .slice B7 (hv.length + 1) d7, by go_num, (by (show _ = _; rw [List.length_append, List.length_singleton, hi.out])), by omega, KN, HKM, OWN⟩ | (simp [intOf]; omega))
          · have hi0 : ¬ (i : Int) < ((L : Nat) : Int) := by omega
            have HEQ : Hid (q = ⟨8, ⟨#[]⟩, [], 0, 0, hv.map (·.h.q)⟩) := by
              show _ = _
              rw [HQN.out, HK.out, List.take_of_length_le (by have := HKW.out; have := hi.out; omega)]
            have HF := Lib.hid (SpR.node K.out HEQ.out)
            obtain ⟨y0, y1, y2, y3, y4, y5⟩ := blk6 K.out.q
            have r5 := K.out.r0
            have hpw : p ≠ w.heap.size := by have := K.out.lo; omega
            obtain ⟨s0, s1, s2, s3, s4, s5⟩ := blk6 r5
            have fz0 := frozen_blk r5 0
            have fz1 := frozen_blk r5 1
            have fz2 := frozen_blk r5 2
            have fz3 := frozen_blk r5 3
            have fz4 := frozen_blk r5 4
            have fz5 := frozen_blk r5 5
            clear K HK OW HEQ r5
            go_wp2
            exact bodyPost_ret (v := .agg #[.int .i64 8, .string ⟨#[]⟩, .slice none 0 0, .int .i64 0, .int .i64 0, .slice B hv.length d]) (by simp [results, Tryz.results15, go_sem, *]) rfl (HF.out _ (OnlyS.sixS _ _ _ _ _ _ _ _))
      rw [decide_eq_false n8] at e8
      by_cases n9 : t0 = nameL 9
      · rw [decide_eq_true n9] at e9
        have ht0 : kindOf t0 = 9 := by rw [n9]; decide
        clear e10 n7 n8 n9
        have VQ : (W1.setCell ⟨p, 0, none⟩ (.int .i64 9)).heap[p]? = some (.cells #[.int .i64 9, .string ⟨#[]⟩, .slice none 0 0, .int .i64 0, .int .i64 0, .slice none 0 0] 27 (0, 0)) := heap_setCell_same W1 p 0 _ _ (.int .i64 9) v1
        have RQ0 : (W1.setCell ⟨p, 0, none⟩ (.int .i64 9)).heap[w.heap.size]? = some (.cells #[.int .i64 0, .string ⟨#[]⟩, .slice none 0 0, .int .i64 0, .int .i64 0, .slice none 0 0] 27) := (heap_setCell_other W1 ⟨p, 0, none⟩ w.heap.size (.int .i64 9) (by show w.heap.size ≠ p; omega)).trans r1
        have BQ : Below w.heap.size w (W1.setCell ⟨p, 0, none⟩ (.int .i64 9)) := hB1.setCell (p := ⟨p, 0, none⟩) (by show _ ≤ p; omega) _
        have OWT : Hid (OwnT (W1.setCell ⟨p, 0, none⟩ (.int .i64 9)) (w.heap.size + 1) g c R) := own_blk ow1 (heap_setCell_other W1 ⟨p, 0, none⟩ g (.int .i64 9) (by show g ≠ p; omega))
        have K0 := Lib.hid (LoopS.start (n := n) VQ RQ0 BQ hpw)
        have HQN : Hid (q = ⟨9, ⟨#[]⟩, [], 0, 0, ts.map (readS m)⟩) := by
          show _ = _
          rw [HQ.out]
          unfold nodeS
          simp only [List.headD_cons, ht0]
          rfl
        have HKW : Hid (ts.length + 1 = L) := HLT.out
        have HRL : Hid (L = R.length) := HRR.out
        have HRW : Hid (∀ k, (hk : k < ts.length) → ∀ i, i = k + 1 → ∀ hi : 0 + i < R.length, R[0 + i] = tb ts[k]) := by
          rintro k hk i rfl hi
          have h1 := HRT.out
          subst h1
          simp
        have HSM : Hid (∀ t ∈ ts, t.length ≤ 1000) := fun t ht => hsm.out t (List.mem_cons_of_mem _ ht)
        clear VQ RQ0 BQ v1 r1 hB1 ow1 HQ hsm HRT HLT HRR

        generalize tb t0 = u0 at e7 e8 e9
        go_wp2_with fail
        generalize (W1.setCell ⟨p, 0, none⟩ (.int .i64 9)) = WT at K0 OWT ⊢
        go_loopw [8] (fun iv wr => ∃ (i : Nat) (hv : List HdS) (vv : Value), iv = .int .i64 (i : Int) ∧ Hid (i = hv.length + 1) ∧ i ≤ L ∧ Hid (LoopS n p 9 0 w wr hv vv) ∧ Hid (hv.map (·.h.q) = (ts.take hv.length).map (readS m)) ∧ Hid (OwnT wr (w.heap.size + 1) g c R)) (fun iv _ => L - (intOf iv).toNat)
        case atStart => exact ⟨1, [], _, rfl, rfl, by omega, K0, rfl, OWT⟩
        case round =>
          clear K0 OWT
          obtain ⟨i, hv, vv, rfl, hi, hil, K, HK, OW⟩ := hrel
          obtain ⟨wk, hwk⟩ : ∃ wk, wk = wr := ⟨_, rfl⟩
          subst hwk
          obtain ⟨B, d, rfl⟩ := own_formK K.out.own
          by_cases hlt : i < L
          · have hi0 : (i : Int) < ((L : Nat) : Int) := by omega
            have hi1 : (0 : Int) ≤ (i : Int) := by omega
            have hkl : hv.length < ts.length := by have := HKW.out; have := hi.out; omega
            have xw : wk.cell? ⟨g, 0 + i, none⟩ = some (.string (tb ts[hv.length])) := by
              have h1 := ownT_at OW.out (j := 0 + i) (by have := HRL.out; omega)
              rw [h1]
              congr 2
              exact HRW.out hv.length hkl i hi.out _
            have xw2 : wk.cell? ⟨g, i + 0, none⟩ = some (.string (tb ts[hv.length])) := by rw [Nat.add_comm]; exact xw
            have hwl : (tb ts[hv.length]).size ≤ 1000 := by rw [tb_size]; exact HSM.out _ (List.getElem_mem _)
            have HKN : Hid ((ts.take (hv.length + 1)).map (readS m) = hv.map (·.h.q) ++ [readS m ts[hv.length]]) := by show _ = _; rw [HK.out, ← List.take_append_getElem hkl, List.map_append]; rfl
            have CIH := Lib.hid (fun V => IH.out n (tb ts[hv.length]) (m : Int) V rfl hwl hmn hm)
            rw [tb_list] at CIH
            generalize readS m ts[hv.length] = y at CIH HKN
            generalize tb ts[hv.length] = tw at CIH xw xw2
            obtain ⟨_, _, _, _, _, x5⟩ := blk6 K.out.q
            have hlt1 := K.out.lt
            have hgl := (OwnE.capOk OW.out).2.2.2
            have hgp : g ≠ p := by omega
            clear hwl HK
            try simp only [Nat.zero_add, Nat.add_zero] at xw xw2
            go_wp2_with fail
            go_region_law (first
              | (refine step_append_k rowTK encS_ok (by decide) rfl (.tmp 90) (.tmp 98) rfl (p + 1) (.slice B hv.length d) hv (by simp [Act.eval]) ((own_belowZ K.out.own h9b).alloc _) ⟨w9.heap.size, 0, none⟩ 1 1 [(⟨⟨y, A9, c9, B9, d9⟩, wk.heap.size, w9.heap.size⟩ : HdS)] rfl (by simp [Act.eval]) (SrcE.lit encS_ok w9 27 #[.int .i64 y.kd, .string y.fd, .slice A9 y.ws.length c9, .int .i64 y.fr, .int .i64 y.tgt, .slice B9 y.ks.length d9] [(⟨⟨y, A9, c9, B9, d9⟩, wk.heap.size, w9.heap.size⟩ : HdS)] rfl 1) (by show _ + 1 ≤ _; have := hi.out; omega) (by omega) (by rw [show (w9.alloc _).heap.size = w9.heap.size + 1 by simp]; omega) ?_; intro v7 w7 o7 g7 h7; have b7 := (K.out.blk7 h9b ((Below.refl _ w9).alloc (Nat.le_refl _) _) g7 (Nat.le_refl _)).trans K.out.q; obtain ⟨_, _, _, _, _, y7⟩ := blk6 b7; have z7 := frozen_blk b7 5; obtain ⟨B7, d7, rfl⟩ := own_formK o7)
              | (go_simp; go_at_call 15; refine (CIH.out wk.drew).mono ?_; rintro e w9 ⟨A9, c9, B9, d9, ⟨rfl, hk9⟩, h9⟩; have h9b : Below wk.heap.size wk w9 := ⟨h9.os, h9.tape, h9.output, h9.size, h9.block⟩; have hk9b : KeptQ n wk w9 y A9 c9 B9 := hk9; have h9s := h9b.size; have h59 : p < w9.heap.size := (by omega); have c5 := (belowL h9b (o := 5) hlt1).trans x5; have c6 : ∀ x, (w9.alloc x).cell? ⟨p, 5, none⟩ = some (.slice B hv.length d) := fun x => (belowL ((Below.refl _ w9).alloc (Nat.le_refl _) x) h59).trans c5))
            all_goals (have kN := K.out.next (m := (⟨y, A9, c9, B9, d9⟩ : HdR)) h9b hk9b ((Below.refl _ w9).alloc (Nat.le_refl _) _) o7 g7 h7)
            all_goals (have hgb := (heap_setCell_other w7 ⟨p, 5, none⟩ g (.slice B7 (hv ++ [(⟨⟨y, A9, c9, B9, d9⟩, wk.heap.size, w9.heap.size⟩ : HdS)]).length d7) (by show g ≠ p; omega)).trans (K.out.blk7 h9b ((Below.refl _ w9).alloc (Nat.le_refl _) _) g7 (show g ≤ p by omega)))
            all_goals (have OWN := Lib.hid (own_blk OW.out hgb))
            all_goals (rw [List.length_append, List.length_singleton] at kN OWN)
            all_goals (have KN := Lib.hid kN)
            all_goals (have HKM : Hid ((hv ++ [(⟨⟨y, A9, c9, B9, d9⟩, wk.heap.size, w9.heap.size⟩ : HdS)]).map (·.h.q) = (ts.take (hv ++ [(⟨⟨y, A9, c9, B9, d9⟩, wk.heap.size, w9.heap.size⟩ : HdS)]).length).map (readS m)) := by (show _ = _; rw [List.length_append, List.length_singleton, HKN.out, List.map_append]; rfl))
            all_goals (clear kN K o7 g7 h7 b7 hk9 hk9b h9 h9b HKN CIH OW hgb)
            all_goals (go_wp2)
            all_goals (go_roundw)
            all_goals (first | exact ⟨i + 1, hv ++ [(⟨⟨y, A9, c9, B9, d9⟩, wk.heap.size, w9.heap.size⟩ : HdS)], .slice B7 (hv.length + 1) d7, by go_num, (by (show _ = _; rw [List.length_append, List.length_singleton, hi.out])), by omega, KN, HKM, OWN⟩ | (simp [intOf]; omega))
          · have hi0 : ¬ (i : Int) < ((L : Nat) : Int) := by omega
            have HEQ : Hid (q = ⟨9, ⟨#[]⟩, [], 0, 0, hv.map (·.h.q)⟩) := by
              show _ = _
              rw [HQN.out, HK.out, List.take_of_length_le (by have := HKW.out; have := hi.out; omega)]
            have HF := Lib.hid (SpR.node K.out HEQ.out)
            obtain ⟨y0, y1, y2, y3, y4, y5⟩ := blk6 K.out.q
            have r5 := K.out.r0
            have hpw : p ≠ w.heap.size := by have := K.out.lo; omega
            obtain ⟨s0, s1, s2, s3, s4, s5⟩ := blk6 r5
            have fz0 := frozen_blk r5 0
            have fz1 := frozen_blk r5 1
            have fz2 := frozen_blk r5 2
            have fz3 := frozen_blk r5 3
            have fz4 := frozen_blk r5 4
            have fz5 := frozen_blk r5 5
            clear K HK OW HEQ r5
            go_wp2
            exact bodyPost_ret (v := .agg #[.int .i64 9, .string ⟨#[]⟩, .slice none 0 0, .int .i64 0, .int .i64 0, .slice B hv.length d]) (by simp [results, Tryz.results15, go_sem, *]) rfl (HF.out _ (OnlyS.sixS _ _ _ _ _ _ _ _))
      rw [decide_eq_false n9] at e9
      by_cases n10 : t0 = nameL 10
      · rw [decide_eq_true n10] at e10
        have ht0 : kindOf t0 = 10 := by rw [n10]; decide
        clear n7 n8 n9 n10
        by_cases hL2 : L < 2
        · exact absurd hL2 (by omega)
        · have hL20 : ¬ (L : Int) < 2 := by omega
          have hdL : decide ((L : Int) < 2) = false := decide_eq_false hL20
          obtain ⟨t1, us, hts1⟩ : ∃ t1 us, ts = t1 :: us := by
            cases ts with
            | nil => (have := HLT.out; simp at this; omega)
            | cons a b => exact ⟨a, b, rfl⟩
          subst hts1
          obtain ⟨wl, hwl⟩ : ∃ wl, L = wl + 1 := ⟨L - 1, by omega⟩
          have hL21 : (1 : Int) < (L : Int) := by omega
          have hwl1 : 1 ≤ wl := by omega
          have VQ : (W1.setCell ⟨p, 0, none⟩ (.int .i64 10)).heap[p]? = some (.cells #[.int .i64 10, .string ⟨#[]⟩, .slice none 0 0, .int .i64 0, .int .i64 0, .slice none 0 0] 27 (0, 0)) := heap_setCell_same W1 p 0 _ _ (.int .i64 10) v1
          have RQ0 : (W1.setCell ⟨p, 0, none⟩ (.int .i64 10)).heap[w.heap.size]? = some (.cells #[.int .i64 0, .string ⟨#[]⟩, .slice none 0 0, .int .i64 0, .int .i64 0, .slice none 0 0] 27) := (heap_setCell_other W1 ⟨p, 0, none⟩ w.heap.size (.int .i64 10) (by show w.heap.size ≠ p; omega)).trans r1
          have BQ : Below w.heap.size w (W1.setCell ⟨p, 0, none⟩ (.int .i64 10)) := hB1.setCell (p := ⟨p, 0, none⟩) (by show _ ≤ p; omega) _
          have OWT : Hid (OwnT (W1.setCell ⟨p, 0, none⟩ (.int .i64 10)) (w.heap.size + 1) g c R) := own_blk ow1 (heap_setCell_other W1 ⟨p, 0, none⟩ g (.int .i64 10) (by show g ≠ p; omega))
          have HQN : Hid (q = ⟨10, ⟨#[]⟩, [], numS t1, 0, us.map (readS m)⟩) := by
            show _ = _
            rw [HQ.out]
            unfold nodeS
            simp only [List.headD_cons, ht0]
            simp [show ¬ us.length + 1 + 1 < 2 by omega]
          have x1 : (W1.setCell ⟨p, 0, none⟩ (.int .i64 10)).cell? ⟨g, 1, none⟩ = some (.string (tb t1)) := by
            have h1 := ownT_at OWT.out (j := 1) (by have := HRR.out; omega)
            rw [h1]
            congr 2
            have h2 := HRT.out
            subst h2
            rfl
          have CN := Lib.hid (fun V => l1Num_tb t1 (hsm.out t1 (by simp)) V)
          generalize numS t1 = fr at HQN CN
          have f3 := frozen_blk VQ 3
          obtain ⟨_, _, _, y3, _, _⟩ := blk6 VQ
          have VQ2 : ((W1.setCell ⟨p, 0, none⟩ (.int .i64 10)).setCell ⟨p, 3, none⟩ (.int .i64 fr)).heap[p]? = some (.cells #[.int .i64 10, .string ⟨#[]⟩, .slice none 0 0, .int .i64 fr, .int .i64 0, .slice none 0 0] 27 (0, 0)) := heap_setCell_same _ p 3 _ _ (.int .i64 fr) VQ
          have RQ2 : ((W1.setCell ⟨p, 0, none⟩ (.int .i64 10)).setCell ⟨p, 3, none⟩ (.int .i64 fr)).heap[w.heap.size]? = some (.cells #[.int .i64 0, .string ⟨#[]⟩, .slice none 0 0, .int .i64 0, .int .i64 0, .slice none 0 0] 27) := (heap_setCell_other _ ⟨p, 3, none⟩ w.heap.size (.int .i64 fr) (by show w.heap.size ≠ p; omega)).trans RQ0
          have BQ2 : Below w.heap.size w ((W1.setCell ⟨p, 0, none⟩ (.int .i64 10)).setCell ⟨p, 3, none⟩ (.int .i64 fr)) := BQ.setCell (p := ⟨p, 3, none⟩) (by show _ ≤ p; omega) _
          have OWT2 : Hid (OwnT ((W1.setCell ⟨p, 0, none⟩ (.int .i64 10)).setCell ⟨p, 3, none⟩ (.int .i64 fr)) (w.heap.size + 1) g c R) := own_blk OWT.out (heap_setCell_other _ ⟨p, 3, none⟩ g (.int .i64 fr) (by show g ≠ p; omega))
          have K0 := Lib.hid (LoopS.start (n := n) VQ2 RQ2 BQ2 hpw)
          have HKW : Hid (us.length + 1 = wl) := by (have := HLT.out; show _ = _; simp at this; omega)
          have HRL : Hid (wl + 1 = R.length) := by show _ = _; rw [← hwl, HRR.out]
          have HRW : Hid (∀ k, (hk : k < us.length) → ∀ i, i = k + 1 → ∀ hi : 1 + i < R.length, R[1 + i] = tb us[k]) := by
            rintro k hk i rfl hi
            have h1 := HRT.out
            subst h1
            simp [show 1 + (k + 1) = k + 1 + 1 by omega]
          have HSM : Hid (∀ t ∈ us, t.length ≤ 1000) := fun t ht => hsm.out t (by simp [ht])
          have hcap2 : 2 ≤ c := by have := (OwnE.capOk OWT.out).1; have := HRR.out; omega
          have hcn1 : ¬ c = 1 := by omega
          have hc1i : (1 : Int) ≤ (c : Int) := by omega
          have OWT := OWT2
          clear OWT2 VQ RQ0 BQ VQ2 RQ2 BQ2 v1 r1 hB1 ow1 HQ hsm HRT HLT HRR
          generalize tb t0 = u0 at e7 e8 e9 e10
          subst hwl
          go_wp2_with fail
          refine (CN.out _).mono ?_
          rintro e w8 ⟨rfl, rfl⟩
          clear x1
          go_wp2_with fail
          generalize ((W1.setCell ⟨p, 0, none⟩ (.int .i64 10)).setCell ⟨p, 3, none⟩ (.int .i64 fr)) = WT at K0 OWT ⊢
          go_loopw [8] (fun iv wr => ∃ (i : Nat) (hv : List HdS) (vv : Value), iv = .int .i64 (i : Int) ∧ Hid (i = hv.length + 1) ∧ i ≤ wl ∧ Hid (LoopS n p 10 fr w wr hv vv) ∧ Hid (hv.map (·.h.q) = (us.take hv.length).map (readS m)) ∧ Hid (OwnT wr (w.heap.size + 1) g c R)) (fun iv _ => wl - (intOf iv).toNat)
          case atStart => exact ⟨1, [], _, rfl, rfl, by omega, K0, rfl, OWT⟩
          case round =>
            clear K0 OWT
            obtain ⟨i, hv, vv, rfl, hi, hil, K, HK, OW⟩ := hrel
            obtain ⟨wk, hwk⟩ : ∃ wk, wk = wr := ⟨_, rfl⟩
            subst hwk
            obtain ⟨B, d, rfl⟩ := own_formK K.out.own
            by_cases hlt : i < wl
            · have hi0 : (i : Int) < ((wl : Nat) : Int) := by omega
              have hi1 : (0 : Int) ≤ (i : Int) := by omega
              have hkl : hv.length < us.length := by have := HKW.out; have := hi.out; omega
              have xw : wk.cell? ⟨g, 1 + i, none⟩ = some (.string (tb us[hv.length])) := by
                have h1 := ownT_at OW.out (j := 1 + i) (by have := HRL.out; omega)
                rw [h1]
                congr 2
                exact HRW.out hv.length hkl i hi.out _
              have xw2 : wk.cell? ⟨g, i + 1, none⟩ = some (.string (tb us[hv.length])) := by rw [Nat.add_comm]; exact xw
              have hwl : (tb us[hv.length]).size ≤ 1000 := by rw [tb_size]; exact HSM.out _ (List.getElem_mem _)
              have HKN : Hid ((us.take (hv.length + 1)).map (readS m) = hv.map (·.h.q) ++ [readS m us[hv.length]]) := by show _ = _; rw [HK.out, ← List.take_append_getElem hkl, List.map_append]; rfl
              have CIH := Lib.hid (fun V => IH.out n (tb us[hv.length]) (m : Int) V rfl hwl hmn hm)
              rw [tb_list] at CIH
              generalize readS m us[hv.length] = y at CIH HKN
              generalize tb us[hv.length] = tw at CIH xw xw2
              obtain ⟨_, _, _, _, _, x5⟩ := blk6 K.out.q
              have hlt1 := K.out.lt
              have hgl := (OwnE.capOk OW.out).2.2.2
              have hgp : g ≠ p := by omega
              clear hwl HK
              try simp only [Nat.zero_add, Nat.add_zero] at xw xw2
              go_wp2_with fail
              go_region_law (first
                | (refine step_append_k rowTK encS_ok (by decide) rfl (.tmp 90) (.tmp 98) rfl (p + 1) (.slice B hv.length d) hv (by simp [Act.eval]) ((own_belowZ K.out.own h9b).alloc _) ⟨w9.heap.size, 0, none⟩ 1 1 [(⟨⟨y, A9, c9, B9, d9⟩, wk.heap.size, w9.heap.size⟩ : HdS)] rfl (by simp [Act.eval]) (SrcE.lit encS_ok w9 27 #[.int .i64 y.kd, .string y.fd, .slice A9 y.ws.length c9, .int .i64 y.fr, .int .i64 y.tgt, .slice B9 y.ks.length d9] [(⟨⟨y, A9, c9, B9, d9⟩, wk.heap.size, w9.heap.size⟩ : HdS)] rfl 1) (by show _ + 1 ≤ _; have := hi.out; omega) (by omega) (by rw [show (w9.alloc _).heap.size = w9.heap.size + 1 by simp]; omega) ?_; intro v7 w7 o7 g7 h7; have b7 := (K.out.blk7 h9b ((Below.refl _ w9).alloc (Nat.le_refl _) _) g7 (Nat.le_refl _)).trans K.out.q; obtain ⟨_, _, _, _, _, y7⟩ := blk6 b7; have z7 := frozen_blk b7 5; obtain ⟨B7, d7, rfl⟩ := own_formK o7)
                | (go_simp; go_at_call 15; refine (CIH.out wk.drew).mono ?_; rintro e w9 ⟨A9, c9, B9, d9, ⟨rfl, hk9⟩, h9⟩; have h9b : Below wk.heap.size wk w9 := ⟨h9.os, h9.tape, h9.output, h9.size, h9.block⟩; have hk9b : KeptQ n wk w9 y A9 c9 B9 := hk9; have h9s := h9b.size; have h59 : p < w9.heap.size := (by omega); have c5 := (belowL h9b (o := 5) hlt1).trans x5; have c6 : ∀ x, (w9.alloc x).cell? ⟨p, 5, none⟩ = some (.slice B hv.length d) := fun x => (belowL ((Below.refl _ w9).alloc (Nat.le_refl _) x) h59).trans c5))
              all_goals (have kN := K.out.next (m := (⟨y, A9, c9, B9, d9⟩ : HdR)) h9b hk9b ((Below.refl _ w9).alloc (Nat.le_refl _) _) o7 g7 h7)
              all_goals (have hgb := (heap_setCell_other w7 ⟨p, 5, none⟩ g (.slice B7 (hv ++ [(⟨⟨y, A9, c9, B9, d9⟩, wk.heap.size, w9.heap.size⟩ : HdS)]).length d7) (by show g ≠ p; omega)).trans (K.out.blk7 h9b ((Below.refl _ w9).alloc (Nat.le_refl _) _) g7 (show g ≤ p by omega)))
              all_goals (have OWN := Lib.hid (own_blk OW.out hgb))
              all_goals (rw [List.length_append, List.length_singleton] at kN OWN)
              all_goals (have KN := Lib.hid kN)
              all_goals (have HKM : Hid ((hv ++ [(⟨⟨y, A9, c9, B9, d9⟩, wk.heap.size, w9.heap.size⟩ : HdS)]).map (·.h.q) = (us.take (hv ++ [(⟨⟨y, A9, c9, B9, d9⟩, wk.heap.size, w9.heap.size⟩ : HdS)]).length).map (readS m)) := by (show _ = _; rw [List.length_append, List.length_singleton, HKN.out, List.map_append]; rfl))
              all_goals (clear kN K o7 g7 h7 b7 hk9 hk9b h9 h9b HKN CIH OW hgb)
              all_goals (go_wp2)
              all_goals (go_roundw)
              all_goals (first | exact ⟨i + 1, hv ++ [(⟨⟨y, A9, c9, B9, d9⟩, wk.heap.size, w9.heap.size⟩ : HdS)], .slice B7 (hv.length + 1) d7, by go_num, (by (show _ = _; rw [List.length_append, List.length_singleton, hi.out])), by omega, KN, HKM, OWN⟩ | (simp [intOf]; omega))
            · have hi0 : ¬ (i : Int) < ((wl : Nat) : Int) := by omega
              have HEQ : Hid (q = ⟨10, ⟨#[]⟩, [], fr, 0, hv.map (·.h.q)⟩) := by
                show _ = _
                rw [HQN.out, HK.out, List.take_of_length_le (by have := HKW.out; have := hi.out; omega)]
              have HF := Lib.hid (SpR.node K.out HEQ.out)
              obtain ⟨y0, y1, y2, y3, y4, y5⟩ := blk6 K.out.q
              have r5 := K.out.r0
              have hpw : p ≠ w.heap.size := by have := K.out.lo; omega
              obtain ⟨s0, s1, s2, s3, s4, s5⟩ := blk6 r5
              have fz0 := frozen_blk r5 0
              have fz1 := frozen_blk r5 1
              have fz2 := frozen_blk r5 2
              have fz3 := frozen_blk r5 3
              have fz4 := frozen_blk r5 4
              have fz5 := frozen_blk r5 5
              clear K HK OW HEQ r5
              go_wp2
              exact bodyPost_ret (v := .agg #[.int .i64 10, .string ⟨#[]⟩, .slice none 0 0, .int .i64 fr, .int .i64 0, .slice B hv.length d]) (by simp [results, Tryz.results15, go_sem, *]) rfl (HF.out _ (OnlyS.sixS _ _ _ _ _ _ _ _))
      rw [decide_eq_false n10] at e10
      have ht0 : kindOf t0 = 0 := by unfold kindOf; rw [if_neg n7, if_neg n8, if_neg n9, if_neg n10]
      clear n7 n8 n9 n10
      have VQ := v1
      have RQ0 := r1
      have BQ := hB1
      have OWT := Lib.hid ow1
      skip
      have K0 := Lib.hid (LoopS.start (n := n) VQ RQ0 BQ hpw)
      have HQN : Hid (q = ⟨0, ⟨#[]⟩, [], 0, 0, ts.map (readS m)⟩) := by
        show _ = _
        rw [HQ.out]
        unfold nodeS
        simp only [List.headD_cons, ht0]
        rfl
      have HKW : Hid (ts.length + 1 = L) := HLT.out
      have HRL : Hid (L = R.length) := HRR.out
      have HRW : Hid (∀ k, (hk : k < ts.length) → ∀ i, i = k + 1 → ∀ hi : 0 + i < R.length, R[0 + i] = tb ts[k]) := by
        rintro k hk i rfl hi
        have h1 := HRT.out
        subst h1
        simp
      have HSM : Hid (∀ t ∈ ts, t.length ≤ 1000) := fun t ht => hsm.out t (List.mem_cons_of_mem _ ht)
      clear VQ RQ0 BQ v1 r1 hB1 ow1 HQ hsm HRT HLT HRR

      generalize tb t0 = u0 at e7 e8 e9 e10
      go_wp2_with fail
      go_loopw [8] (fun iv wr => ∃ (i : Nat) (hv : List HdS) (vv : Value), iv = .int .i64 (i : Int) ∧ Hid (i = hv.length + 1) ∧ i ≤ L ∧ Hid (LoopS n p 0 0 w wr hv vv) ∧ Hid (hv.map (·.h.q) = (ts.take hv.length).map (readS m)) ∧ Hid (OwnT wr (w.heap.size + 1) g c R)) (fun iv _ => L - (intOf iv).toNat)
      case atStart => exact ⟨1, [], _, rfl, rfl, by omega, K0, rfl, OWT⟩
      case round =>
        clear K0 OWT
        obtain ⟨i, hv, vv, rfl, hi, hil, K, HK, OW⟩ := hrel
        obtain ⟨wk, hwk⟩ : ∃ wk, wk = wr := ⟨_, rfl⟩
        subst hwk
        obtain ⟨B, d, rfl⟩ := own_formK K.out.own
        by_cases hlt : i < L
        · have hi0 : (i : Int) < ((L : Nat) : Int) := by omega
          have hi1 : (0 : Int) ≤ (i : Int) := by omega
          have hkl : hv.length < ts.length := by have := HKW.out; have := hi.out; omega
          have xw : wk.cell? ⟨g, 0 + i, none⟩ = some (.string (tb ts[hv.length])) := by
            have h1 := ownT_at OW.out (j := 0 + i) (by have := HRL.out; omega)
            rw [h1]
            congr 2
            exact HRW.out hv.length hkl i hi.out _
          have xw2 : wk.cell? ⟨g, i + 0, none⟩ = some (.string (tb ts[hv.length])) := by rw [Nat.add_comm]; exact xw
          have hwl : (tb ts[hv.length]).size ≤ 1000 := by rw [tb_size]; exact HSM.out _ (List.getElem_mem _)
          have HKN : Hid ((ts.take (hv.length + 1)).map (readS m) = hv.map (·.h.q) ++ [readS m ts[hv.length]]) := by show _ = _; rw [HK.out, ← List.take_append_getElem hkl, List.map_append]; rfl
          have CIH := Lib.hid (fun V => IH.out n (tb ts[hv.length]) (m : Int) V rfl hwl hmn hm)
          rw [tb_list] at CIH
          generalize readS m ts[hv.length] = y at CIH HKN
          generalize tb ts[hv.length] = tw at CIH xw xw2
          obtain ⟨_, _, _, _, _, x5⟩ := blk6 K.out.q
          have hlt1 := K.out.lt
          have hgl := (OwnE.capOk OW.out).2.2.2
          have hgp : g ≠ p := by omega
          clear hwl HK
          try simp only [Nat.zero_add, Nat.add_zero] at xw xw2
          go_wp2_with fail
          go_region_law (first
            | (refine step_append_k rowTK encS_ok (by decide) rfl (.tmp 90) (.tmp 98) rfl (p + 1) (.slice B hv.length d) hv (by simp [Act.eval]) ((own_belowZ K.out.own h9b).alloc _) ⟨w9.heap.size, 0, none⟩ 1 1 [(⟨⟨y, A9, c9, B9, d9⟩, wk.heap.size, w9.heap.size⟩ : HdS)] rfl (by simp [Act.eval]) (SrcE.lit encS_ok w9 27 #[.int .i64 y.kd, .string y.fd, .slice A9 y.ws.length c9, .int .i64 y.fr, .int .i64 y.tgt, .slice B9 y.ks.length d9] [(⟨⟨y, A9, c9, B9, d9⟩, wk.heap.size, w9.heap.size⟩ : HdS)] rfl 1) (by show _ + 1 ≤ _; have := hi.out; omega) (by omega) (by rw [show (w9.alloc _).heap.size = w9.heap.size + 1 by simp]; omega) ?_; intro v7 w7 o7 g7 h7; have b7 := (K.out.blk7 h9b ((Below.refl _ w9).alloc (Nat.le_refl _) _) g7 (Nat.le_refl _)).trans K.out.q; obtain ⟨_, _, _, _, _, y7⟩ := blk6 b7; have z7 := frozen_blk b7 5; obtain ⟨B7, d7, rfl⟩ := own_formK o7)
            | (go_simp; go_at_call 15; refine (CIH.out wk.drew).mono ?_; rintro e w9 ⟨A9, c9, B9, d9, ⟨rfl, hk9⟩, h9⟩; have h9b : Below wk.heap.size wk w9 := ⟨h9.os, h9.tape, h9.output, h9.size, h9.block⟩; have hk9b : KeptQ n wk w9 y A9 c9 B9 := hk9; have h9s := h9b.size; have h59 : p < w9.heap.size := (by omega); have c5 := (belowL h9b (o := 5) hlt1).trans x5; have c6 : ∀ x, (w9.alloc x).cell? ⟨p, 5, none⟩ = some (.slice B hv.length d) := fun x => (belowL ((Below.refl _ w9).alloc (Nat.le_refl _) x) h59).trans c5))
          all_goals (have kN := K.out.next (m := (⟨y, A9, c9, B9, d9⟩ : HdR)) h9b hk9b ((Below.refl _ w9).alloc (Nat.le_refl _) _) o7 g7 h7)
          all_goals (have hgb := (heap_setCell_other w7 ⟨p, 5, none⟩ g (.slice B7 (hv ++ [(⟨⟨y, A9, c9, B9, d9⟩, wk.heap.size, w9.heap.size⟩ : HdS)]).length d7) (by show g ≠ p; omega)).trans (K.out.blk7 h9b ((Below.refl _ w9).alloc (Nat.le_refl _) _) g7 (show g ≤ p by omega)))
          all_goals (have OWN := Lib.hid (own_blk OW.out hgb))
          all_goals (rw [List.length_append, List.length_singleton] at kN OWN)
          all_goals (have KN := Lib.hid kN)
          all_goals (have HKM : Hid ((hv ++ [(⟨⟨y, A9, c9, B9, d9⟩, wk.heap.size, w9.heap.size⟩ : HdS)]).map (·.h.q) = (ts.take (hv ++ [(⟨⟨y, A9, c9, B9, d9⟩, wk.heap.size, w9.heap.size⟩ : HdS)]).length).map (readS m)) := by (show _ = _; rw [List.length_append, List.length_singleton, HKN.out, List.map_append]; rfl))
          all_goals (clear kN K o7 g7 h7 b7 hk9 hk9b h9 h9b HKN CIH OW hgb)
          all_goals (go_wp2)
          all_goals (go_roundw)
          all_goals (first | exact ⟨i + 1, hv ++ [(⟨⟨y, A9, c9, B9, d9⟩, wk.heap.size, w9.heap.size⟩ : HdS)], .slice B7 (hv.length + 1) d7, by go_num, (by (show _ = _; rw [List.length_append, List.length_singleton, hi.out])), by omega, KN, HKM, OWN⟩ | (simp [intOf]; omega))
        · have hi0 : ¬ (i : Int) < ((L : Nat) : Int) := by omega
          have HEQ : Hid (q = ⟨0, ⟨#[]⟩, [], 0, 0, hv.map (·.h.q)⟩) := by
            show _ = _
            rw [HQN.out, HK.out, List.take_of_length_le (by have := HKW.out; have := hi.out; omega)]
          have HF := Lib.hid (SpR.node K.out HEQ.out)
          obtain ⟨y0, y1, y2, y3, y4, y5⟩ := blk6 K.out.q
          have r5 := K.out.r0
          have hpw : p ≠ w.heap.size := by have := K.out.lo; omega
          obtain ⟨s0, s1, s2, s3, s4, s5⟩ := blk6 r5
          have fz0 := frozen_blk r5 0
          have fz1 := frozen_blk r5 1
          have fz2 := frozen_blk r5 2
          have fz3 := frozen_blk r5 3
          have fz4 := frozen_blk r5 4
          have fz5 := frozen_blk r5 5
          clear K HK OW HEQ r5
          go_wp2
          exact bodyPost_ret (v := .agg #[.int .i64 0, .string ⟨#[]⟩, .slice none 0 0, .int .i64 0, .int .i64 0, .slice B hv.length d]) (by simp [results, Tryz.results15, go_sem, *]) rfl (HF.out _ (OnlyS.sixS _ _ _ _ _ _ _ _))
end Go.Proofs.YtaobgliimbmemaaGreatDoor
