/-
  DrawQ3, FoQ, ReadS2, LawRead, as one text (written by wip/merge.py).
-/
import Derived.Test.YtaobgliimbmemaaGreatDoorDrawQ2
import Derived.ArgAppend
import Derived.Test.YtaobgliimbmemaaGreatDoorQdEq
import Derived.Test.YtaobgliimbmemaaGreatDoorReadS
import Derived.Test.YtaobgliimbmemaaGreatDoorReadI
import Derived.Test.YtaobgliimbmemaaGreatDoorPutS3
import Derived.Test.YtaobgliimbmemaaGreatDoorPutI2
import Derived.Test.YtaobgliimbmemaaGreatDoorLaidR
import Derived.Deep.RegionWith
import Derived.IntWalk
namespace Go.Proofs.YtaobgliimbmemaaGreatDoor
open Go.RowKit Go.Sort
set_option linter.unusedVariables false

set_option linter.unusedSimpArgs false

theorem HasQ.succ : ∀ {n : Nat} {w : World} {q : QD} {A : Option Addr} {c : Nat} {B : Option Addr}, HasQ n w q A c B → HasQ (n + 1) w q A c B
  | 0, _, _, _, _, _, h => h.elim
  | n + 1, w, q, A, c, B, h => ⟨h.1, fun k hk => by
    obtain ⟨b, off, A1, c1, B1, d1, e1, e2, e3, e4⟩ := h.2 k hk
    exact ⟨b, off, A1, c1, B1, d1, e1, e2, e3, HasQ.succ e4⟩⟩
/-- the header of a question, its words' capacity what it may be. -/
structure HdQy where
  q : QD
  A : Option Addr
  c : Nat
  B : Option Addr
  d : Nat
def encYq (h : HdQy) : List Value := encQ h.q h.A h.c h.B h.d
theorem encYq_ok : Enc encYq 6 := ⟨fun _ => rfl, fun a u hu => by simp [encYq, encQ] at hu; rcases hu with rfl | rfl | rfl | rfl | rfl | rfl <;> rfl⟩
theorem rdK_cellsY {n : Nat} {w : World} {b off : Nat} {hv : List HdQy} (hb : b < w.heap.size) (hc : ∀ j u, (hv.flatMap encYq)[j]? = some u → w.cell? ⟨b, off + j, none⟩ = some u) (hq : ∀ m ∈ hv, HasQ n w m.q m.A m.c m.B) :
    RdK (HasQ n) w (some ⟨b, off, none⟩) (hv.map (·.q)) := fun k hk => by
  have hk' : k < hv.length := by simpa using hk
  have hg := List.getElem?_eq_getElem hk'
  refine ⟨b, off, hv[k].A, hv[k].c, hv[k].B, hv[k].d, rfl, hb, fun j u hu => ?_, ?_⟩
  · rw [List.getElem_map] at hu
    have hj : j < 6 := by have := (List.getElem?_eq_some_iff.1 hu).1; simpa [encQ] using this
    rw [Nat.add_assoc]
    exact hc _ u (by rw [flat_get (enc := encYq) (F := 6) (fun _ => rfl) hg hj]; exact hu)
  · rw [List.getElem_map]; exact hq _ (List.getElem_mem _)
/-- the headers of kids. -/
theorem rdK_heads {n : Nat} {w : World} {b off : Nat} {Ks : List QD} (h : RdK (HasQ n) w (some ⟨b, off, none⟩) Ks) : ∃ hv : List HdQy, hv.map (·.q) = Ks ∧ ∀ j u, (hv.flatMap encYq)[j]? = some u → w.cell? ⟨b, off + j, none⟩ = some u := by
  suffices hs : ∀ n, n ≤ Ks.length → ∃ hv : List HdQy, hv.map (·.q) = Ks.take n ∧ ∀ k (hk : k < hv.length) j u, (encYq hv[k])[j]? = some u → w.cell? ⟨b, off + k * 6 + j, none⟩ = some u by
    obtain ⟨hv, h1, h2⟩ := hs Ks.length (Nat.le_refl _)
    refine ⟨hv, by rw [h1, List.take_length], fun j u hu => ?_⟩
    have hl := encYq_ok.flat hv
    have hj : j < hv.length * 6 := by have := (List.getElem?_eq_some_iff.1 hu).1; omega
    have e : j = j / 6 * 6 + j % 6 := by omega
    rw [e] at hu
    rw [flat_get (enc := encYq) (F := 6) (fun _ => rfl) (List.getElem?_eq_getElem (show j / 6 < hv.length by omega)) (Nat.mod_lt _ (by omega))] at hu
    have := h2 (j / 6) (by omega) (j % 6) u hu
    rw [Nat.add_assoc, ← e] at this
    exact this
  intro n
  induction n with
  | zero => intro _; exact ⟨[], rfl, fun k hk => by simp at hk⟩
  | succ n ih =>
    intro hn
    obtain ⟨hv, h1, h2⟩ := ih (by omega)
    have hl : hv.length = n := by have := congrArg List.length h1; rw [List.length_map, List.length_take] at this; omega
    obtain ⟨b', off', A1, c1, B1, d1, e1, _, hc, _⟩ := h n (by omega)
    simp only [Option.some.injEq, Addr.mk.injEq, and_true] at e1
    obtain ⟨rfl, rfl⟩ := e1
    refine ⟨hv ++ [⟨Ks[n], A1, c1, B1, d1⟩], ?_, fun k hk j u hu => ?_⟩
    · rw [List.map_append, h1, ← List.take_append_getElem (show n < Ks.length by omega)]; rfl
    · rcases Nat.lt_or_ge k hv.length with h3 | h3
      · rw [List.getElem_append_left h3] at hu; exact h2 k h3 j u hu
      · have h4 : k = n := by simp at hk; omega
        subst h4
        have e : (hv ++ [⟨Ks[k], A1, c1, B1, d1⟩])[k]'hk = ⟨Ks[k], A1, c1, B1, d1⟩ := by simp [← hl]
        rw [e] at hu; exact hc j u hu
theorem QS.finC {w wi : World} {g p : Nat} (h : QS w g wi p) {n : Nat} (q : QD) (A B : Option Addr) (c d : Nat) (hk : ∀ w', SameR (w.heap.size + 1) wi.heap.size wi w' → HasQ n w' q A c B) (u0 u1 u2 u3 u4 u5 : Value) :
    KeptQ n w ((((((wi.setCell ⟨w.heap.size, 0, none⟩ u0).setCell ⟨w.heap.size, 1, none⟩ u1).setCell ⟨w.heap.size, 2, none⟩ u2).setCell ⟨w.heap.size, 3, none⟩ u3).setCell ⟨w.heap.size, 4, none⟩ u4).setCell ⟨w.heap.size, 5, none⟩ u5) q A c B ∧
    Rd ((((((wi.setCell ⟨w.heap.size, 0, none⟩ u0).setCell ⟨w.heap.size, 1, none⟩ u1).setCell ⟨w.heap.size, 2, none⟩ u2).setCell ⟨w.heap.size, 3, none⟩ u3).setCell ⟨w.heap.size, 4, none⟩ u4).setCell ⟨w.heap.size, 5, none⟩ u5) g p ∧
    Outer w.heap.size g w ((((((wi.setCell ⟨w.heap.size, 0, none⟩ u0).setCell ⟨w.heap.size, 1, none⟩ u1).setCell ⟨w.heap.size, 2, none⟩ u2).setCell ⟨w.heap.size, 3, none⟩ u3).setCell ⟨w.heap.size, 4, none⟩ u4).setCell ⟨w.heap.size, 5, none⟩ u5) := by
  have hg := h.g0
  have hsz := h.sz
  refine ⟨fun w'' ho => hk w'' ?_, rdQ_set (rdQ_set (rdQ_set (rdQ_set (rdQ_set (rdQ_set h.r hg _) hg _) hg _) hg _) hg _) hg _, h.o.trans (Outer.of (((((((Below.refl _ wi).setCell (p := ⟨w.heap.size, 0, none⟩) (Nat.le_refl _) _).setCell (p := ⟨w.heap.size, 1, none⟩) (Nat.le_refl _) _).setCell (p := ⟨w.heap.size, 2, none⟩) (Nat.le_refl _) _).setCell (p := ⟨w.heap.size, 3, none⟩) (Nat.le_refl _) _).setCell (p := ⟨w.heap.size, 4, none⟩) (Nat.le_refl _) _).setCell (p := ⟨w.heap.size, 5, none⟩) (Nat.le_refl _) _))⟩
  have h1 : SameR (w.heap.size + 1) wi.heap.size wi ((((((wi.setCell ⟨w.heap.size, 0, none⟩ u0).setCell ⟨w.heap.size, 1, none⟩ u1).setCell ⟨w.heap.size, 2, none⟩ u2).setCell ⟨w.heap.size, 3, none⟩ u3).setCell ⟨w.heap.size, 4, none⟩ u4).setCell ⟨w.heap.size, 5, none⟩ u5) :=
    (((((SameR.set wi _ (by omega) (Nat.le_refl _)).set2 _ (by omega)).set2 _ (by omega)).set2 _ (by omega)).set2 _ (by omega)).set2 _ (by omega)
  exact h1.trans (ho.lo (by omega)) (by simp)
def SmA (q : QD) : Prop := ∀ k, LmQ 100000 k q ∧ WfQ k q
theorem LmQ.le {M M' : Nat} (hM : M ≤ M') : ∀ {k : Nat} {q : QD}, LmQ M k q → LmQ M' k q
  | 0, _, _ => trivial
  | k + 1, q, h => ⟨Nat.le_trans h.1 hM, Nat.le_trans h.2.1 hM, fun s hs => Nat.le_trans (h.2.2.1 s hs) hM, Nat.le_trans h.2.2.2.1 hM, fun y hy => LmQ.le hM (h.2.2.2.2 y hy)⟩
theorem SmQ.up {n : Nat} {q : QD} (h : SmQ n q) : SmA q := fun k => ⟨(h k).1.le (by omega), (h k).2⟩
theorem SmQ.wsA {n : Nat} {q : QD} (h : SmQ n q) (x : ByteArray) (hx : x.size ≤ 1000) : SmA ⟨q.kd, q.fd, q.ws ++ [x], q.fr, q.tgt, q.ks⟩
  | 0 => ⟨trivial, trivial⟩
  | k + 1 => by
    have h1 := (h (k + 1)).1
    refine ⟨⟨Nat.le_trans h1.1 (by omega), ?_, fun s hs => ?_, Nat.le_trans h1.2.2.2.1 (by omega), fun y hy => (h1.2.2.2.2 y hy).le (by omega)⟩, (h (k + 1)).2⟩
    · have := h1.2.1
      show (q.ws ++ [x]).length ≤ _
      rw [List.length_append, List.length_singleton]; omega
    · rcases List.mem_append.1 hs with h2 | h2
      · exact Nat.le_trans (h1.2.2.1 s h2) (by omega)
      · simp only [List.mem_cons, List.not_mem_nil, or_false] at h2; subst h2; omega
theorem SmQ.kidA {n : Nat} {q : QD} (h : SmQ n q) : SmA ⟨q.kd, q.fd, q.ws, q.fr, q.tgt, q :: q.ks⟩
  | 0 => ⟨trivial, trivial⟩
  | k + 1 => by
    have h1 := (h (k + 1)).1
    refine ⟨⟨Nat.le_trans h1.1 (by omega), Nat.le_trans h1.2.1 (by omega), fun s hs => Nat.le_trans (h1.2.2.1 s hs) (by omega), ?_, fun y hy => ?_⟩, (h (k + 1)).2.1, fun y hy => ?_⟩
    · have := h1.2.2.2.1
      show (q :: q.ks).length ≤ _
      rw [List.length_cons]; omega
    · rcases List.mem_cons.1 hy with rfl | hy
      · exact (h k).1.le (by omega)
      · exact (h1.2.2.2.2 y hy).le (by omega)
    · rcases List.mem_cons.1 hy with rfl | hy
      · exact (h k).2
      · exact (h (k + 1)).2.2 y hy
theorem kids_heads {n d lo hi c : Nat} {w : World} {q : QD} {A B : Option Addr} (hk : ∀ w', SameR lo hi w w' → HasQ (n + 1) w' q A c B) (hh : hi ≤ w.heap.size) (hB : ∀ b off, B = some ⟨b, off, none⟩ → lo ≤ b ∧ b < hi) (hnil : NilOr B d) :
    ∃ hv : List HdQy, hv.map (·.q) = q.ks ∧ SrcE encYq 6 w B d hv ∧ ∀ w', SameR lo hi w w' → ∀ m ∈ hv, HasQ n w' m.q m.A m.c m.B := by
  have h0 := (hk w ⟨hh, fun _ _ _ => rfl⟩).2
  rcases hnil with ⟨rfl, rfl⟩ | ⟨b, off, rfl⟩
  · have e : q.ks = [] := by
      cases hks : q.ks with
      | nil => rfl
      | cons y r => obtain ⟨b, off, _, _, _, _, e1, _⟩ := h0 0 (by rw [hks]; simp); cases e1
    exact ⟨[], by rw [e]; rfl, SrcE.nil_ w 0, fun w' _ m hm => by simp at hm⟩
  · obtain ⟨hv, h1, h2⟩ := rdK_heads h0
    have hb := hB b off rfl
    have hlen : hv.length = q.ks.length := by rw [← h1, List.length_map]
    refine ⟨hv, h1, ⟨⟨encYq_ok.flat hv, fun _ => ⟨b, off, rfl, by omega, h2⟩⟩, .inr ⟨_, rfl⟩⟩, fun w' hs m hm => ?_⟩
    obtain ⟨k, hk1, rfl⟩ := List.getElem_of_mem hm
    have hk2 : k < q.ks.length := by omega
    obtain ⟨b', off', A1, c1, B1, d1, e1, _, hc, hq⟩ := (hk w' hs).2 k hk2
    simp only [Option.some.injEq, Addr.mk.injEq, and_true] at e1
    obtain ⟨rfl, rfl⟩ := e1
    have hqk : hv[k].q = q.ks[k] := by
      have h5 : (hv.map (·.q))[k]? = q.ks[k]? := by rw [h1]
      rw [List.getElem?_map, List.getElem?_eq_getElem hk1, List.getElem?_eq_getElem hk2] at h5
      exact Option.some.inj h5
    have hat : ∀ j u v, j < 6 → (encQ q.ks[k] A1 c1 B1 d1)[j]? = some u → (encYq hv[k])[j]? = some v → u = v := fun j u v hj hu hv2 => by
      have g1 := hc j u hu
      have g2 := h2 (k * 6 + j) v (by rw [flat_get (enc := encYq) (F := 6) (fun _ => rfl) (List.getElem?_eq_getElem hk1) hj]; exact hv2)
      rw [Nat.add_assoc, cell_blk (hs.2 b (by omega) (by omega)), g2] at g1
      exact (Option.some.inj g1).symm
    have a2 := hat 2 _ _ (by omega) rfl rfl
    have a5 := hat 5 _ _ (by omega) rfl rfl
    simp only [Value.slice.injEq] at a2 a5
    rw [hqk, ← a2.1, ← a2.2.2, ← a5.1]
    exact hq
/-- what l30AnyQuery hands back. -/
def QueryA (n : Nat) (w : World) (g p k : Nat) (e : Ending) (w' : World) : Prop := ∃ (q : QD) (A : Option Addr) (c : Nat) (B : Option Addr) (d : Nat), (e = .returned (.agg #[.int .i64 q.kd, .string q.fd, .slice A q.ws.length c, .int .i64 q.fr, .int .i64 q.tgt, .slice B q.ks.length d]) ∧ SmA q ∧ KeptQ n w w' q A c B) ∧ ∃ p', p' ≤ p + k ∧ Rd w' g p' ∧ Outer w.heap.size g w w'
theorem queryA_mk {n : Nat} {w w' : World} {g p p' k : Nat} (q : QD) (A : Option Addr) (c : Nat) (B : Option Addr) (d : Nat) (hs : SmA q) (hf : KeptQ n w w' q A c B ∧ Rd w' g p' ∧ Outer w.heap.size g w w') (hp : p' ≤ p + k) :
    QueryA n w g p k (.returned (.agg #[.int .i64 q.kd, .string q.fd, .slice A q.ws.length c, .int .i64 q.fr, .int .i64 q.tgt, .slice B q.ks.length d])) w' :=
  ⟨q, A, c, B, d, ⟨rfl, hs, hf.1⟩, p', hp, hf.2.1, hf.2.2⟩
/-- a question in a variable of its own (block qb); its memory lies below that. -/
structure QV (n : Nat) (w : World) (g : Nat) (wi : World) (p qb : Nat) (q : QD) (A : Option Addr) (c : Nat) (B : Option Addr) (d : Nat) : Prop where
  s : QS w g wi p
  lo : w.heap.size < qb
  cb : wi.heap[qb]? = some (.cells #[.int .i64 q.kd, .string q.fd, .slice A q.ws.length c, .int .i64 q.fr, .int .i64 q.tgt, .slice B q.ks.length d] 27 (0, 0))
  k : ∀ w', SameR (w.heap.size + 1) qb wi w' → HasQ n w' q A c B
section
variable {n g p p' qb c d : Nat} {w wi wj : World} {q : QD} {A B : Option Addr}
theorem QV.lt (h : QV n w g wi p qb q A c B d) : qb < wi.heap.size := (Array.getElem?_eq_some_iff.1 h.cb).1
theorem QV.gen (h : QV n w g wi p qb q A c B d) (r : Rd wj g p') (o : Outer wi.heap.size g wi wj) : QV n w g wj p' qb q A c B d := by
  have h1 := h.lt
  have h2 := h.lo
  have h3 := h.s.g0
  exact ⟨h.s.gen r o, h2, (o.2.2 qb h1 (by omega)).trans h.cb, fun w' hs => h.k w' ((SameR.out2 o (by omega) (by omega)).trans hs (Nat.le_refl _))⟩
theorem QV.grow (h : QV n w g wi p qb q A c B d) (o : Below wi.heap.size wi wj) : QV n w g wj p qb q A c B d := h.gen (h.s.r.below (o.mono (by have := h.s.r.lt; omega))) (Outer.of o)
theorem QV.setQ (h : QV n w g wi p qb q A c B d) (j : Nat) (u : Value) : QS w g (wi.setCell ⟨qb, j, none⟩ u) p ∧ ∀ w', SameR (w.heap.size + 1) qb (wi.setCell ⟨qb, j, none⟩ u) w' → SameR (w.heap.size + 1) qb wi w' := by
  have h1 := h.lt
  have h2 := h.lo
  have h3 := h.s.g0
  refine ⟨⟨rdQ_set h.s.r (by omega) _, h.s.o.trans (Outer.of ((Below.refl _ wi).setCell (p := ⟨qb, j, none⟩) (by show _ ≤ qb; omega) _)), h3, by simpa using h.s.sz, (heap_setCell_other wi ⟨qb, j, none⟩ w.heap.size _ (by simp; omega)).trans h.s.rb⟩, fun w' hs => ⟨hs.1, fun k k1 k2 => (hs.2 k k1 k2).trans (heap_setCell_other wi ⟨qb, j, none⟩ k u (by simp; omega))⟩⟩
theorem QV.setKd (h : QV n w g wi p qb q A c B d) (x : Int) (hk : ∀ w', HasQ n w' q A c B → HasQ n w' ⟨x, q.fd, q.ws, q.fr, q.tgt, q.ks⟩ A c B) : QV n w g (wi.setCell ⟨qb, 0, none⟩ (.int .i64 x)) p qb ⟨x, q.fd, q.ws, q.fr, q.tgt, q.ks⟩ A c B d :=
  ⟨(h.setQ 0 _).1, h.lo, heap_setCell_same wi qb 0 _ _ (.int .i64 x) h.cb, fun w' hs => hk w' (h.k w' ((h.setQ 0 _).2 w' hs))⟩
theorem QV.setFr (h : QV n w g wi p qb q A c B d) (x : Int) (hk : ∀ w', HasQ n w' q A c B → HasQ n w' ⟨q.kd, q.fd, q.ws, x, q.tgt, q.ks⟩ A c B) : QV n w g (wi.setCell ⟨qb, 3, none⟩ (.int .i64 x)) p qb ⟨q.kd, q.fd, q.ws, x, q.tgt, q.ks⟩ A c B d :=
  ⟨(h.setQ 3 _).1, h.lo, heap_setCell_same wi qb 3 _ _ (.int .i64 x) h.cb, fun w' hs => hk w' (h.k w' ((h.setQ 3 _).2 w' hs))⟩
end
theorem has_kd {n : Nat} {w : World} {q : QD} {A : Option Addr} {c : Nat} {B : Option Addr} (x y : Int) (h : HasQ (n + 1) w q A c B) : HasQ (n + 1) w ⟨x, q.fd, q.ws, y, q.tgt, q.ks⟩ A c B := h
theorem SmQ.kd {n m : Nat} {q : QD} (h : SmQ n q) (x y : Int) (h0 : 0 ≤ x) (h1 : x ≤ 100) : SmQ m ⟨x, q.fd, q.ws, y, q.tgt, q.ks⟩
  | 0 => ⟨trivial, trivial⟩
  | k + 1 => ⟨(h (k + 1)).1, show (Lit.int .i64 x).wf = true from Go.WalkArith.wf_i64 ⟨by omega, by omega⟩, (h (k + 1)).2.2⟩
theorem SmQ.fr {n m : Nat} {q : QD} (h : SmQ n q) (y : Int) : SmQ m ⟨q.kd, q.fd, q.ws, y, q.tgt, q.ks⟩
  | 0 => ⟨trivial, trivial⟩
  | k + 1 => ⟨(h (k + 1)).1, (h (k + 1)).2.1, (h (k + 1)).2.2⟩
theorem SmQ.wl {n : Nat} {q : QD} (h : SmQ n q) : q.ws.length ≤ 1000 ∧ q.ks.length ≤ 1000 := ⟨(h 1).1.2.1, (h 1).1.2.2.2.1⟩
theorem foTexts_sameQ (A A' : Option Addr) (c c' : Nat) (L : List ByteArray) (w : World) (h : SrcT w A c L) (h' : SrcT w A' c' L) (hn : L.length ≤ 4194304) :
    Calls Tryz.prog 18 #[.slice A L.length c, .slice A' L.length c'] w fun e w' => e = .returned (.bool true) ∧ Below w.heap.size w w' := by
  go_enter Tryz.func18, Tryz.ntmps18
  go_wp2
  go_loopw [5] (fun i wr => ∃ k : Nat, k ≤ L.length ∧ i = .int .i64 k ∧ Below w.heap.size w wr) (fun i _ => L.length - (intOf i).toNat)
  case atStart => exact ⟨0, Nat.zero_le _, rfl, Below.refl _ _⟩
  case round =>
    obtain ⟨k, hk, rfl, hB⟩ := hrel
    by_cases hlt : k < L.length
    · obtain ⟨b, off, rfl, hb, x0⟩ := (h.below hB).atT hlt
      obtain ⟨b', off', rfl, hb', x0'⟩ := (h'.below hB).atT hlt
      have hi0 : (k : Int) < (L.length : Int) := by omega
      generalize L[k] = p at x0 x0'
      have k1 := cell_regrown x0
      have k3 := cell_regrown x0'
      clear x0 x0' hb hb' h h'
      go_wp2_with fail
      refine region_qw (by kernel_rfl) (by kernel_rfl) ?_
      repeat (
        refine qw_step (fun K hK => ?_)
        go_simp
        first
          | (refine hK _ ?_; clear hK K)
          | fail)
      refine qw_nil ?_
      intro _ hw'
      obtain ⟨⟨dq, osq⟩, hw''⟩ := hw'
      subst hw''
      have hBq := hB.trans ((below_regrown wr dq osq).mono hB.size)
      generalize grow (redrawn wr dq) osq = Wq at hBq ⊢
      go_wp2
      go_roundw
      case rel => exact ⟨k + 1, by omega, by go_num, hBq⟩
      case measure => simp [intOf]; omega
    · go_wp2
      go_ret
      exact ⟨rfl, hB⟩
def FoC (n : Nat) : Prop := ∀ (q : QD) (A : Option Addr) (c : Nat) (B : Option Addr) (d : Nat) (A' : Option Addr) (c' : Nat) (B' : Option Addr) (d' : Nat) (w : World), HasQ n w q A c B → HasQ n w q A' c' B' → LmQ 1048576 n q →
  Calls Tryz.prog 7 #[.agg #[.int .i64 q.kd, .string q.fd, .slice A q.ws.length c, .int .i64 q.fr, .int .i64 q.tgt, .slice B q.ks.length d], .agg #[.int .i64 q.kd, .string q.fd, .slice A' q.ws.length c', .int .i64 q.fr, .int .i64 q.tgt, .slice B' q.ks.length d']] w fun e w' => e = .returned (.bool true) ∧ Below w.heap.size w w'
theorem cFoQ {n : Nat} (IH : FoC n) (q : QD) (A : Option Addr) (c : Nat) (B : Option Addr) (d : Nat) (A' : Option Addr) (c' : Nat) (B' : Option Addr) (d' : Nat) (W : World) (h : Hid (HasQ n W q A c B)) (h' : Hid (HasQ n W q A' c' B')) (hn : Hid (LmQ 1048576 n q)) (dw : Nat) (os : Array Obj) :
    Calls Tryz.prog 7 #[.agg #[.int .i64 q.kd, .string q.fd, .slice A q.ws.length c, .int .i64 q.fr, .int .i64 q.tgt, .slice B q.ks.length d], .agg #[.int .i64 q.kd, .string q.fd, .slice A' q.ws.length c', .int .i64 q.fr, .int .i64 q.tgt, .slice B' q.ks.length d']] (grow (redrawn W dw) os) fun e w'' => e = .returned (.bool true) ∧ ∃ p : Regrown, w'' = grow (redrawn W p.d) p.os :=
  Calls.regrown_of (IH q A c B d A' c' B' d' _ (h.out.below (below_regrown W dw os)) (h'.out.below (below_regrown W dw os)) hn.out)
set_option maxRecDepth 8000 in
set_option maxHeartbeats 6400000 in
theorem foQuery_step (n : Nat) (IH : Hid (FoC n)) : FoC (n + 1) := fun q A c B d A' c' B' d' w h h' hs => by
  have ⟨hf1, hw1, hw2, hk1, hk2⟩ := hs
  have ⟨hS, hK⟩ := h
  have ⟨hS', hK'⟩ := h'
  have HK := Lib.hid hK
  have HK' := Lib.hid hK'
  have HK2 := Lib.hid hk2
  have HB := box2_cells w (.int .i64 q.kd) (.string q.fd) (.slice A q.ws.length c) (.int .i64 q.fr) (.int .i64 q.tgt) (.slice B q.ks.length d) (.int .i64 q.kd) (.string q.fd) (.slice A' q.ws.length c') (.int .i64 q.fr) (.int .i64 q.tgt) (.slice B' q.ks.length d') 27 _ rfl
  obtain ⟨⟨a0, a1, a2, a3, a4, a5⟩, ⟨b0, b1, b2, b3, b4, b5⟩, hB, hsz⟩ := HB
  clear h h' hs hK hK' hw2 hk2
  go_enter Tryz.func7, Tryz.ntmps7
  go_wp2_with fail
  generalize ((w.alloc (.cells #[.int .i64 q.kd, .string q.fd, .slice A q.ws.length c, .int .i64 q.fr, .int .i64 q.tgt, .slice B q.ks.length d] 27)).alloc (.cells #[.int .i64 q.kd, .string q.fd, .slice A' q.ws.length c', .int .i64 q.fr, .int .i64 q.tgt, .slice B' q.ks.length d'] 27)) = W at hB a0 a1 a2 a3 a4 a5 b0 b1 b2 b3 b4 b5 hsz ⊢
  refine (foTexts_sameQ A A' c c' q.ws W (hS.below hB).1 (hS'.below hB).1 (by omega)).mono ?_
  rintro e w1 ⟨rfl, hb1⟩
  have KA : Hid (∀ V, Below W.heap.size W V → V.cell? ⟨w.heap.size, 5, none⟩ = some (.slice B q.ks.length d) ∧ V.cell? ⟨w.heap.size + 1, 5, none⟩ = some (.slice B' q.ks.length d')) := fun V hV => ⟨(belowL hV (by omega)).trans a5, (belowL hV (by omega)).trans b5⟩
  obtain ⟨p5, q5⟩ := KA.out _ hb1
  clear a0 a1 a2 a3 a4 a5 b0 b1 b2 b3 b4 b5
  have hkl := hk1
  go_wp2_with fail
  go_loopw [5] (fun i wr => ∃ k : Nat, k ≤ q.ks.length ∧ i = .int .i64 k ∧ Below W.heap.size W wr) (fun i _ => q.ks.length - (intOf i).toNat)
  case atStart => exact ⟨0, Nat.zero_le _, rfl, hb1⟩
  case round =>
    clear p5 q5 hb1
    obtain ⟨k, hk, rfl, hBW⟩ := hrel
    obtain ⟨p5, q5⟩ := KA.out _ hBW
    by_cases hlt : k < q.ks.length
    · have hBw := hB.trans (hBW.mono hB.size)
      obtain ⟨b, off, A1, c1, B1, d1, rfl, hb, x0, x1, x2, x3, x4, x5, hx⟩ := (rdQ_below HK.out hBw).cells hlt
      obtain ⟨b', off', A1', c1', B1', d1', rfl, hb', y0, y1, y2, y3, y4, y5, hx'⟩ := (rdQ_below HK'.out hBw).cells hlt
      have hi0 : (k : Int) < (q.ks.length : Int) := by omega
      have hsm := Lib.hid (HK2.out _ (List.getElem_mem hlt))
      have hx := Lib.hid hx
      have hx' := Lib.hid hx'
      generalize q.ks[k] = y at x0 x1 x2 x3 x4 x5 hx y0 y1 y2 y3 y4 y5 hx' hsm
      have p5r := cell_regrown p5
      have q5r := cell_regrown q5
      replace x0 := cell_regrown x0
      replace x1 := cell_regrown x1
      replace x2 := cell_regrown x2
      replace x3 := cell_regrown x3
      replace x4 := cell_regrown x4
      replace x5 := cell_regrown x5
      replace y0 := cell_regrown y0
      replace y1 := cell_regrown y1
      replace y2 := cell_regrown y2
      replace y3 := cell_regrown y3
      replace y4 := cell_regrown y4
      replace y5 := cell_regrown y5
      clear hb hb' hBw HK HK'
      go_wp2_with fail
      refine region_qw (by kernel_rfl) (by kernel_rfl) ?_
      repeat (
        refine qw_step (fun K hK => ?_)
        go_simp
        first
          | (refine hK _ ?_; clear hK K)
          | (apply Exists.intro
             refine ⟨fun _ => ?_, hK _ ?_⟩
             (first | ((go_at_call 7; exact cFoQ IH.out _ _ _ _ _ _ _ _ _ _ hx hx' hsm _ _)))
             clear hK K)
          | fail)
      refine qw_nil ?_
      intro _ hw'
      obtain ⟨⟨dq, osq⟩, hw''⟩ := hw'
      subst hw''
      have hBq := hBW.trans ((below_regrown wr dq osq).mono (by have := hBW.size; omega))
      clear hx hx'
      dsimp only
      generalize grow (redrawn wr dq) osq = Wq at hBq ⊢
      clear p5 q5 p5r q5r x0 x1 x2 x3 x4 x5 y0 y1 y2 y3 y4 y5
      go_wp2
      go_roundw
      case rel => exact ⟨k + 1, by omega, by go_num, hBq⟩
      case measure => simp [intOf]; omega
    · have hBw := hB.trans (hBW.mono hB.size)
      go_wp2
      go_ret
      exact ⟨rfl, hBw⟩
theorem foQuery_same (n : Nat) : FoC n := by
  induction n with
  | zero => exact fun q A c B d A' c' B' d' w h _ _ => h.elim
  | succ n ih => exact foQuery_step n (Lib.hid ih)
set_option linter.unusedSimpArgs false

theorem l11Read_all (m : Nat) : RdC m := by
  induction m with
  | zero =>
    intro n x z w hz hs hn hm
    obtain ⟨n, rfl⟩ : ∃ k, n = k + 1 := ⟨n - 1, by omega⟩
    exact read_leaf n 0 x z w hz hs (.inl rfl)
  | succ m ih =>
    intro n x z w hz hs hn hm
    obtain ⟨n, rfl⟩ : ∃ k, n = k + 1 := ⟨n - 1, by omega⟩
    by_cases hc : x.data.toList.length < 2 ∨ x.data.toList.head? ≠ some 40 ∨ x.data.toList.getLast? ≠ some 41
    · rw [readS_leaf m hc]
      refine read_leaf n (m + 1) x z w hz hs ?_
      rcases hc with h | h | h
      · exact .inr (.inl (by rwa [bytes_len] at h))
      · exact .inr (.inr (.inl h))
      · exact .inr (.inr (.inr h))
    · rw [readS_node m hc]
      have h2 : 2 ≤ x.size := by rw [← bytes_len]; exact Nat.le_of_not_lt (fun h => hc (.inl h))
      exact read_node n m (Lib.hid ih) x z w hz hs (by omega) (by omega) h2 (Classical.not_not.1 fun h => hc (.inr (.inl h))) (Classical.not_not.1 fun h => hc (.inr (.inr h)))
theorem readD_spec (s : ByteArray) : readD s = if s.size ≤ 200 then readR (readS 4 s.data.toList) s.data.toList else none := by
  unfold readD
  split
  · rw [read_same 200 (by omega)]
  · rfl
/-- a question that can be read, and whether it was. -/
def RdSp (n : Nat) (r : Option QD) (w : World) (e : Ending) (w' : World) : Prop := ∃ (A : Option Addr) (c : Nat) (B : Option Addr) (d : Nat),
  (e = .returned (.tuple #[.agg #[.int .i64 (r.getD qd0).kd, .string (r.getD qd0).fd, .slice A (r.getD qd0).ws.length c, .int .i64 (r.getD qd0).fr, .int .i64 (r.getD qd0).tgt, .slice B (r.getD qd0).ks.length d], .bool r.isSome]) ∧ HasQ n w' (r.getD qd0) A c B) ∧ Below w.heap.size w w'
theorem RdSp.no {n : Nat} {r : Option QD} {w w' : World} (hr : r = none) (hb : Below w.heap.size w w') :
    RdSp (n + 1) r w (.returned (.tuple #[.agg #[.int .i64 0, .string ⟨#[]⟩, .slice none 0 0, .int .i64 0, .int .i64 0, .slice none 0 0], .bool false])) w' := by
  subst hr
  exact ⟨none, 0, none, 0, ⟨rfl, srcS_nil _, rdKS_nil⟩, hb⟩
theorem RdSp.yes {n : Nat} {r : Option QD} {q : QD} {w W0 w2 w5 W : World} {A : Option Addr} {c : Nat} {B : Option Addr} {d : Nat} (hr : r = some q) (hk : KeptQ n W0 w2 q A c B) (h25 : Below w2.heap.size w2 w5) (h0 : w.heap.size < W0.heap.size) (hb : Below w.heap.size w w5) (h6 : OnlyS (fun k => k = w.heap.size) w5 W) :
    RdSp n r w (.returned (.tuple #[.agg #[.int .i64 q.kd, .string q.fd, .slice A q.ws.length c, .int .i64 q.fr, .int .i64 q.tgt, .slice B q.ks.length d], .bool true])) W := by
  subst hr
  have h1 := h25.size
  exact ⟨A, c, B, d, ⟨rfl, hk W ⟨Nat.le_trans h1 h6.2.1, fun k h2 h3 => (h6.2.2 k (by omega) (by omega)).trans (h25.block k h3)⟩⟩, hb.trans (h6.base (fun k hk => by omega) hb.size)⟩
theorem readS_no {s : ByteArray} {q : QD} (hs : s.size ≤ 200) (hq : readS 4 s.data.toList = q) (h : okQ 4 q = false ∨ tb (putL 4 q) ≠ s) : readD s = none := by
  rw [readD_spec, if_pos hs, hq]
  unfold readR
  rw [if_neg]
  rintro ⟨h1, h2⟩
  rcases h with h | h
  · rw [h1] at h; cases h
  · apply h
    rw [h2, list_tb]
theorem readS_yes {s : ByteArray} {q : QD} (hs : s.size ≤ 200) (hq : readS 4 s.data.toList = q) (h1 : okQ 4 q = true) (h2 : tb (putL 4 q) = s) : readD s = some q := by
  rw [readD_spec, if_pos hs, hq]
  unfold readR
  rw [if_pos ⟨h1, by rw [← h2, tb_list]⟩]
set_option maxRecDepth 8000 in
set_option maxHeartbeats 6400000 in
theorem specQueryRead_any (s : ByteArray) (w : World) (hsz : s.size ≤ 9223372036854775000) :
    Calls Tryz.prog 6 #[.string s] w (RdSp 201 (readD s) w) := by
  have hB0 : Below w.heap.size w (w.alloc (.cells #[.int .i64 0, .string ⟨#[]⟩, .slice none 0 0, .int .i64 0, .int .i64 0, .slice none 0 0] 27)) := (Below.refl _ _).alloc (Nat.le_refl _) _
  have r0 := alloc_new w (.cells #[.int .i64 0, .string ⟨#[]⟩, .slice none 0 0, .int .i64 0, .int .i64 0, .slice none 0 0] 27)
  have z0 : w.heap.size < (w.alloc (.cells #[.int .i64 0, .string ⟨#[]⟩, .slice none 0 0, .int .i64 0, .int .i64 0, .slice none 0 0] 27)).heap.size := by simp
  by_cases hbig : 200 < s.size
  · have hR : Hid (readD s = none) := if_neg (by omega)
    have hi0 : (200 : Int) < (s.size : Int) := by omega
    obtain ⟨s0, s1, s2, s3, s4, s5⟩ := blk6 r0
    have fz0 := frozen_blk r0 0
    have fz1 := frozen_blk r0 1
    have fz2 := frozen_blk r0 2
    have fz3 := frozen_blk r0 3
    have fz4 := frozen_blk r0 4
    have fz5 := frozen_blk r0 5
    go_enter Tryz.func6, Tryz.ntmps6
    go_wp2_with fail
    exact bodyPost_ret (v := .tuple #[.agg #[.int .i64 0, .string ⟨#[]⟩, .slice none 0 0, .int .i64 0, .int .i64 0, .slice none 0 0], .bool false]) (by simp [results, Tryz.results6, go_sem, *]) rfl (RdSp.no hR.out ((Below.refl _ _).alloc (Nat.le_refl _) _))
  have hs2 : s.size ≤ 200 := by omega
  have CQ := Lib.hid (fun V => l11Read_all 4 201 s 4 V rfl (by omega) (by omega) (by omega))
  have hlm := readS_lm 4 s.data.toList (by rw [bytes_len]; omega) 201
  have HNO := Lib.hid (fun q (hq : readS 4 s.data.toList = q) => readS_no hs2 hq)
  have HYES := Lib.hid (fun q (hq : readS 4 s.data.toList = q) => readS_yes hs2 hq)
  generalize readD s = r at HNO HYES ⊢
  generalize readS 4 s.data.toList = q at CQ hlm HNO HYES
  obtain ⟨hlm, hwf⟩ := hlm
  have HLM := Lib.hid hlm
  clear hlm hwf
  go_enter Tryz.func6, Tryz.ntmps6
  go_wp2_with fail
  generalize (w.alloc (.cells #[.int .i64 0, .string ⟨#[]⟩, .slice none 0 0, .int .i64 0, .int .i64 0, .slice none 0 0] 27)) = W0 at hB0 r0 z0 ⊢
  refine (CQ.out W0).mono ?_
  rintro e w2 ⟨A, c, B, d, ⟨rfl, hk⟩, hb2⟩
  have HK := Lib.hid hk
  have z2 := hb2.size
  have r2 := (hb2.block w.heap.size z0).trans r0
  have hB2 := hB0.trans (hb2.mono hB0.size)
  have fW : Below w2.heap.size w2 (w2.alloc (.cells #[.int .i64 q.kd, .string q.fd, .slice A q.ws.length c, .int .i64 q.fr, .int .i64 q.tgt, .slice B q.ks.length d] 27)) := (Below.refl _ _).alloc (Nat.le_refl _) _
  have v3 := alloc_new w2 (.cells #[.int .i64 q.kd, .string q.fd, .slice A q.ws.length c, .int .i64 q.fr, .int .i64 q.tgt, .slice B q.ks.length d] 27)
  have zz3 : w2.heap.size < (w2.alloc (.cells #[.int .i64 q.kd, .string q.fd, .slice A q.ws.length c, .int .i64 q.fr, .int .i64 q.tgt, .slice B q.ks.length d] 27)).heap.size := by simp
  have r3 := (fW.block w.heap.size (by omega)).trans r2
  have hB3 := hB2.trans (fW.mono hB2.size)
  obtain ⟨y0, y1, y2, y3, y4, y5⟩ := blk6 v3
  clear hk hb2 r0 r2 hB0
  go_wp2_with fail
  generalize (w2.alloc (.cells #[.int .i64 q.kd, .string q.fd, .slice A q.ws.length c, .int .i64 q.fr, .int .i64 q.tgt, .slice B q.ks.length d] 27)) = W3 at fW v3 zz3 r3 hB3 y0 y1 y2 y3 y4 y5 ⊢
  have HH3 : Hid (HasQ 201 W3 q A c B) := HK.out W3 ⟨fW.size, fun k h1 h2 => fW.block k h2⟩
  generalize hp5 : w2.heap.size = p5 at v3 zz3 y0 y1 y2 y3 y4 y5 ⊢
  have HP5 := Lib.hid hp5
  have hp5w : w.heap.size < p5 := by omega
  clear hp5
  refine (l11Ok_any 201 q A c B d W3 HH3.out HLM.out).mono ?_
  rintro e w4 ⟨rfl, hb4⟩
  have r4 := (hb4.block w.heap.size (by omega)).trans r3
  have v4 := (hb4.block p5 zz3).trans v3
  have hB4 := hB3.trans (hb4.mono hB3.size)
  have f4 := fW.trans (hb4.mono fW.size)
  have z4 := hb4.size
  have HH4 := Lib.hid (HH3.out.below hb4)
  clear y0 y1 y2 y3 y4 y5 r3 v3 hB3 fW hb4 HH3
  obtain ⟨y0, y1, y2, y3, y4, y5⟩ := blk6 v4
  cases ho : okQ 4 q with
  | false =>
    have HF := Lib.hid (fun W (h6 : OnlyS (fun k => k = w.heap.size) w4 W) => RdSp.no (n := 200) (r := r) (HNO.out q rfl (.inl ho)) (hB4.trans (h6.base (fun k hk => by omega) hB4.size)))
    obtain ⟨s0, s1, s2, s3, s4, s5⟩ := blk6 r4
    have fz0 := frozen_blk r4 0
    have fz1 := frozen_blk r4 1
    have fz2 := frozen_blk r4 2
    have fz3 := frozen_blk r4 3
    have fz4 := frozen_blk r4 4
    have fz5 := frozen_blk r4 5
    clear r4 v4 hB4 HNO HYES HH4 f4 ho
    go_wp2
    exact bodyPost_ret (v := .tuple #[.agg #[.int .i64 0, .string ⟨#[]⟩, .slice none 0 0, .int .i64 0, .int .i64 0, .slice none 0 0], .bool false]) (by simp [results, Tryz.results6, go_sem, *]) rfl (HF.out _ (OnlyS.sixS _ _ _ _ _ _ _ _))
  | true =>
    go_wp2_with fail
    refine (l11Put_any 201 4 q A c B d w4 HH4.out HLM.out ho (Nat.le_refl _)).mono ?_
    rintro e w5 ⟨rfl, hb5⟩
    have r5 := (hb5.block w.heap.size (by omega)).trans r4
    have v5 := (hb5.block p5 (by omega)).trans v4
    have hB5 := hB4.trans (hb5.mono hB4.size)
    have f5 := f4.trans (hb5.mono f4.size)
    clear y0 y1 y2 y3 y4 y5 r4 v4 hB4 f4 hb5 HH4
    obtain ⟨y0, y1, y2, y3, y4, y5⟩ := blk6 v5
    by_cases hp : tb (putL 4 q) = s
    · have hc : ((tb (putL 4 q)).toList == s.toList) = true := by rw [bytes_eq]; exact decide_eq_true hp
      have hc2 : ((tb (putL 4 q)).toList != s.toList) = false := by unfold bne; rw [hc]; rfl
      have HF := Lib.hid (fun W (h6 : OnlyS (fun k => k = w.heap.size) w5 W) => RdSp.yes (r := r) (d := d) (HYES.out q rfl ho hp) HK.out f5 z0 hB5 h6)
      obtain ⟨s0, s1, s2, s3, s4, s5⟩ := blk6 r5
      have fz0 := frozen_blk r5 0
      have fz1 := frozen_blk r5 1
      have fz2 := frozen_blk r5 2
      have fz3 := frozen_blk r5 3
      have fz4 := frozen_blk r5 4
      have fz5 := frozen_blk r5 5
      clear r5 v5 hB5 HNO HYES HK f5 ho hp
      go_wp2
      exact bodyPost_ret (v := .tuple #[.agg #[.int .i64 q.kd, .string q.fd, .slice A q.ws.length c, .int .i64 q.fr, .int .i64 q.tgt, .slice B q.ks.length d], .bool true]) (by simp [results, Tryz.results6, go_sem, *]) rfl (HF.out _ (OnlyS.sixS _ _ _ _ _ _ _ _))
    · have hc : ((tb (putL 4 q)).toList == s.toList) = false := by rw [bytes_eq]; exact decide_eq_false hp
      have hc2 : ((tb (putL 4 q)).toList != s.toList) = true := by unfold bne; rw [hc]; rfl
      have HF := Lib.hid (fun W (h6 : OnlyS (fun k => k = w.heap.size) w5 W) => RdSp.no (n := 200) (r := r) (HNO.out q rfl (.inr hp)) (hB5.trans (h6.base (fun k hk => by omega) hB5.size)))
      obtain ⟨s0, s1, s2, s3, s4, s5⟩ := blk6 r5
      have fz0 := frozen_blk r5 0
      have fz1 := frozen_blk r5 1
      have fz2 := frozen_blk r5 2
      have fz3 := frozen_blk r5 3
      have fz4 := frozen_blk r5 4
      have fz5 := frozen_blk r5 5
      clear r5 v5 hB5 HNO HYES HK f5 ho hp
      go_wp2
      exact bodyPost_ret (v := .tuple #[.agg #[.int .i64 0, .string ⟨#[]⟩, .slice none 0 0, .int .i64 0, .int .i64 0, .slice none 0 0], .bool false]) (by simp [results, Tryz.results6, go_sem, *]) rfl (HF.out _ (OnlyS.sixS _ _ _ _ _ _ _ _))
/-! what is read is small -/
theorem mkN_ok : ∀ (m n : Nat) (q : QD), okQ m q = true → mkN n q ≤ 20 * 5 ^ m
  | _, 0, _, _ => Nat.zero_le _
  | 0, n + 1, q, h => by cases h
  | m + 1, n + 1, q, h => by
    obtain ⟨h1, h2⟩ := ok_parts h
    have h5 : 1 ≤ 5 ^ m := Nat.one_le_pow _ _ (by decide)
    rw [mkN_eq, Nat.pow_succ]
    rcases one_cases h1 with hl | ⟨kd, fr, ks, hk, hf, hk1, hk2, rfl⟩
    · have h3 : q.ws.length ≤ 4 ∧ q.ks = [] := by cases hl <;> simp_all
      rw [h3.2]
      show q.ws.length + 0 ≤ _
      omega
    · have h3 : ∀ L : List QD, (∀ k ∈ L, okQ m k = true) → sumN n L ≤ L.length * (4 + 20 * 5 ^ m) := fun L => by
        induction L with
        | nil => intro _; exact Nat.zero_le _
        | cons y r ih =>
          intro hL
          have h4 := mkN_ok m n y (hL y (by simp))
          have h6 := ih (fun k hk => hL k (List.mem_cons_of_mem _ hk))
          unfold sumN at h6 ⊢
          simp only [List.map_cons, List.sum_cons, List.length_cons]
          rw [Nat.add_mul]
          omega
      have h4 := h3 ks h2
      have h6 : ks.length * (4 + 20 * 5 ^ m) ≤ 4 * (4 + 20 * 5 ^ m) := Nat.mul_le_mul_right _ hk2
      show 0 + sumN n ks ≤ _
      omega
theorem readD_sm (s : ByteArray) (k : Nat) : LmQ 1048576 k ((readD s).getD qd0) ∧ WfQ k ((readD s).getD qd0) ∧ mkN k ((readD s).getD qd0) ≤ 12500 := by
  have h0 : LmQ 1048576 k qd0 ∧ WfQ k qd0 ∧ mkN k qd0 ≤ 12500 := by
    cases k with
    | zero => exact ⟨trivial, trivial, Nat.zero_le _⟩
    | succ k => exact ⟨⟨by show (0 : Nat) ≤ _; omega, by show (0 : Nat) ≤ _; omega, fun s hs => by simp [qd0] at hs, by show (0 : Nat) ≤ _; omega, fun y hy => by simp [qd0] at hy⟩, ⟨rfl, fun y hy => by simp [qd0] at hy⟩, by show 0 + 0 ≤ 12500; omega⟩
  unfold readD
  split
  · rename_i hs
    unfold readR
    split
    · rename_i h
      have h1 := queryI_lm 200 s.data.toList (by rw [bytes_len]; omega) k
      have h2 := mkN_ok 4 k _ h.1
      exact ⟨h1.1, h1.2, by simpa using h2⟩
    · exact h0
  · exact h0
set_option linter.unusedSimpArgs false

theorem readD_law {S : ByteArray} (h : (readD S).isSome = true) : okQ 4 ((readD S).getD qd0) = true ∧ tb (putL 4 ((readD S).getD qd0)) = S := by
  cases hr : readD S with
  | none => rw [hr] at h; cases h
  | some q =>
    show okQ 4 q = true ∧ tb (putL 4 q) = S
    unfold readD at hr
    split at hr
    · unfold readR at hr
      split at hr
      · rename_i hc
        cases hr
        exact ⟨hc.1, by rw [hc.2, list_tb]⟩
      · cases hr
    · cases hr
theorem putR_size (q : QD) : (putR q).size ≤ 62500 := by
  unfold putR
  split
  · rename_i h
    rw [tb_size]
    have := put_len 4 q h
    omega
  · show (0 : Nat) ≤ _; omega
theorem cutR_size (s : ByteArray) (a b : Nat) : (s.extract a b).size ≤ s.size := by
  rw [ByteArray.size_extract]; omega
set_option maxRecDepth 8000 in
theorem l30Bent_gen (g p : Nat) (s : ByteArray) (hs : s.size ≤ 62500) (w : World) (hr : Rd w g p) (hp : p + 10 < 1000000) :
    Calls Tryz.prog 11 #[.pointer (some ⟨g, 0, none⟩), .string s] w fun e w' => ∃ S : ByteArray, (e = .returned (.string S) ∧ S.size ≤ 200000) ∧ Gen w w' g p 3 := by
  have hg := hr.lt
  have c1 : ∀ k, (s.extract 0 k).size ≤ 62500 := fun k => Nat.le_trans (cutR_size s 0 k) hs
  have c2 : ∀ k m, (s.extract k m).size ≤ 62500 := fun k m => Nat.le_trans (cutR_size s k m) hs
  have C1 := Lib.hid c1
  have C2 := Lib.hid c2
  clear c1 c2
  go_enter Tryz.func11, Tryz.ntmps11
  go_wp2_with fail
  refine (pick_gen g p _ (by omega) (by omega) _ hr (by omega)).mono ?_
  rintro e w1 ⟨v, ⟨rfl, h3, h4⟩, p1, hp1, r1, O1⟩
  obtain ⟨k, rfl⟩ := Int.eq_ofNat_of_zero_le h3
  go_wp2_with fail
  refine (pick_gen g p1 _ (by omega) (by omega) _ r1 (by omega)).mono ?_
  rintro e w2 ⟨v2, ⟨rfl, h5, h6⟩, p2, hp2, r2, O2⟩
  have O2' := O1.trans (O2.mono O1.2.1)
  have hg2 := r2.lt
  have hks : k ≤ s.size := by omega
  have hv : v2 = 0 ∨ v2 = 1 ∨ v2 = 2 ∨ v2 = 3 ∨ v2 = 4 := by omega
  clear O1 O2 r1 h3 h4 h5 h6
  rcases hv with rfl | rfl | rfl | rfl | rfl
  · by_cases hk : k < s.size
    · have hi0 : (k : Int) < (s.size : Int) := by omega
      have e1 : IntKind.i64.wrap ((k : Int) + 1) = (k : Int) + 1 := IntWalk.i64_in _ (by omega)
      have e2 : (0 : Int) ≤ (k : Int) + 1 := by omega
      have e3 : ((k : Int) + 1).toNat = k + 1 := by omega
      have e4 : (k : Int) ≤ (s.size : Int) := by omega
      have e5 : (k : Int) + 1 ≤ (s.size : Int) := by omega
      have e6 : ((k : Int)).toNat = k := by omega
      go_wp2_with fail
      go_region_with (go_at_call 22; refine (of_gen g p2 w2.heap.size 8 _ (r2.below (by (repeat' (first | exact Below.refl _ _ | apply Below.alloc | apply Below.setCell | apply Below.drew | apply below_draws)) <;> (first | omega | (simp <;> omega)))) (by omega) (by omega) (by omega) (by omega) (by refine strs_of _ _ _ _ ?_ ?_; (rfl); (kernel_rfl))).mono ?_; rintro e w3 ⟨t, ⟨rfl, ht⟩, p3, hp3, r3, o3⟩; have hz : ¬ 9223372036854775807 < (s.extract 0 k).size + t.size := (by have := C1.out k; omega))
      go_wp2
      go_ret
      exact ⟨_, ⟨rfl, by rw [ByteArray.size_append, ByteArray.size_append]; have h1 := C1.out k; have h2 := C2.out (k + 1) s.size; omega⟩, p3, by omega, r3, O2'.trans (((Outer.of (B := w2.heap.size) (by (repeat' (first | exact Below.refl _ _ | apply Below.alloc | apply Below.setCell | apply Below.drew | apply below_draws)) <;> (first | omega | (simp <;> omega)))).trans (o3.mono (by simp))).mono O2'.2.1)⟩
    · have hi0 : ¬ (k : Int) < (s.size : Int) := by omega
      go_wp2
      go_ret
      exact ⟨_, ⟨rfl, by omega⟩, p2, by omega, r2, O2'⟩
  · go_wp2
    go_ret
    exact ⟨_, ⟨rfl, Nat.le_trans (C1.out _) (by omega)⟩, p2, by omega, r2, O2'⟩
  · go_wp2_with fail
    refine (of_gen g p2 w2.heap.size 4 _ (r2.below (by (repeat' (first | exact Below.refl _ _ | apply Below.alloc | apply Below.setCell | apply Below.drew | apply below_draws)) <;> (first | omega | (simp <;> omega)))) (by omega) (by omega) (by omega) (by omega) (by refine strs_of _ _ _ _ ?_ ?_; (rfl); (kernel_rfl))).mono ?_
    rintro e w3 ⟨t, ⟨rfl, ht⟩, p3, hp3, r3, o3⟩
    have hz : ¬ 9223372036854775807 < s.size + t.size := by omega
    go_wp2
    go_ret
    exact ⟨_, ⟨rfl, by rw [ByteArray.size_append]; omega⟩, p3, by omega, r3, O2'.trans (((Outer.of (B := w2.heap.size) (by (repeat' (first | exact Below.refl _ _ | apply Below.alloc | apply Below.setCell | apply Below.drew | apply below_draws)) <;> (first | omega | (simp <;> omega)))).trans (o3.mono (by simp))).mono O2'.2.1)⟩
  · go_wp2
    go_ret
    exact ⟨_, ⟨rfl, by omega⟩, p2, by omega, r2, O2'⟩
  · go_wp2
    go_ret
    exact ⟨_, ⟨rfl, by omega⟩, p2, by omega, r2, O2'⟩
set_option maxRecDepth 8000 in
theorem drawQueryRead_any (a0 : Option Addr) (len cap : Nat) (zs : List Int) (w : World) (h : IsRow .u8 w a0 len cap zs) :
    Calls Tryz.prog 4 #[.slice a0 len cap] w fun e w' => ∃ S : ByteArray, (e = .returned (.string S) ∧ S.size ≤ 200000) ∧ Below w.heap.size w w' := by
  go_enter Tryz.func4, Tryz.ntmps4
  go_wp2_with fail
  refine (open_any a0 len cap zs w h).mono ?_
  rintro e w1 ⟨⟨rfl, r1⟩, hb1⟩
  go_wp2_with fail
  refine (l30Query_gen 0 w.heap.size 0 w1 r1 (by omega)).mono ?_
  rintro e w2 ⟨q, A, B, d, ⟨rfl, hsm, _, _, _, _, hk⟩, p2, hp2, r2, o2⟩
  have hq := hk w2 ⟨Nat.le_refl _, fun _ _ _ => rfl⟩
  have s2 := o2.2.1
  have s1 := hb1.size
  go_wp2_with fail
  refine (specQueryPut_any 3 q A q.ws.length B d w2 hq ((hsm 3).1.le (by omega))).mono ?_
  rintro e w3 ⟨rfl, hb3⟩
  have hsz := putR_size q
  generalize putR q = S at hsz ⊢
  go_wp2_with fail
  refine (l30Bent_gen w.heap.size p2 S hsz w3 (r2.below (hb3.mono r2.lt)) (by omega)).mono ?_
  rintro e w4 ⟨S2, ⟨rfl, hz2⟩, p4, hp4, r4, o4⟩
  have s3 := hb3.size
  have HB : Below w.heap.size w w4 := hb1.trans (((o2.under s1 (Nat.le_refl _)).trans ((hb3.mono (by omega)).trans (o4.under (by omega) (Nat.le_refl _)))))
  go_wp2
  go_ret
  exact ⟨S2, ⟨rfl, hz2⟩, HB⟩
set_option maxRecDepth 8000 in
set_option maxHeartbeats 6400000 in
theorem walk_FnQueryRead (a0 : Option Addr) (len cap : Nat) (zs : List Int) (w : World) (h : IsRow .u8 w a0 len cap zs) (hl : ∃ bm, LaidSh bm w) (hlo : ∃ bo, LaidOp bo w) (ht : PowT w) (h2 : ∃ te pe, w.cell? ⟨3, 0, none⟩ = some (.iface te pe)) (h3 : ∃ te pe, w.cell? ⟨4, 0, none⟩ = some (.iface te pe)) (h4 : ∃ m, w.cell? ⟨2, 0, none⟩ = some (.int .i64 m)) :
    Calls Tryz.prog 3 #[.slice a0 len cap] w fun e w' => e = .returned (.bool true) ∧ Below w.heap.size w w' := by
  obtain ⟨bm, hl⟩ := hl
  have hLR := laidR_mk hlo h2 h3 h4
  obtain ⟨bo, hlo⟩ := hlo
  by_cases hbig : 1048576 < len
  · have hb2 : (1048576 : Int) < (len : Int) := by omega
    go_enter Tryz.func3, Tryz.ntmps3
    go_wp2
    go_ret
    exact ⟨rfl, Below.refl _ _⟩
  have hb2 : ¬ (1048576 : Int) < (len : Int) := by omega
  have HL := Lib.hid hl
  have HO := Lib.hid hlo
  have HT := Lib.hid ht
  have HLR := Lib.hid hLR
  clear hl hlo ht hLR h2 h3 h4
  go_enter Tryz.func3, Tryz.ntmps3
  go_wp2_with fail
  refine (drawQueryRead_any a0 len cap zs w h).mono ?_
  rintro e w1 ⟨S, ⟨rfl, hsz⟩, hb1⟩
  have hsz2 : S.size ≤ 9223372036854775000 := by omega
  have HR := Lib.hid (fun V (hV : Below w.heap.size w V) => queryRead_any bm bo S V (HL.out.below hV) (HO.out.below hV) (tab_below HT.out hV) (HLR.out.below hV) hsz2)
  have HS := Lib.hid (fun V => specQueryRead_any S V hsz2)
  obtain ⟨hlm, hwf, _⟩ := readD_sm S 201
  have HLM := Lib.hid hlm
  have HWF := Lib.hid hwf
  have HEQ := Lib.hid (fun h => readD_law (S := S) h)
  unfold RdI at HR
  unfold RdSp at HS
  generalize (readD S).isSome = b at HR HS HEQ
  generalize (readD S).getD qd0 = q at HR HS HLM HWF HEQ
  clear h hlm hwf hsz hsz2 hbig
  go_wp2_with fail
  refine (HR.out w1 hb1).mono ?_
  rintro e w2 ⟨A1, c1, B1, d1, ⟨rfl, h1⟩, hb2'⟩
  have s2 := hb2'.size
  have fW : Below w2.heap.size w2 (w2.alloc (.cells #[.int .i64 q.kd, .string q.fd, .slice A1 q.ws.length c1, .int .i64 q.fr, .int .i64 q.tgt, .slice B1 q.ks.length d1] 27)) := (Below.refl _ _).alloc (Nat.le_refl _) _
  have v3 := alloc_new w2 (.cells #[.int .i64 q.kd, .string q.fd, .slice A1 q.ws.length c1, .int .i64 q.fr, .int .i64 q.tgt, .slice B1 q.ks.length d1] 27)
  have zz3 : w2.heap.size < (w2.alloc (.cells #[.int .i64 q.kd, .string q.fd, .slice A1 q.ws.length c1, .int .i64 q.fr, .int .i64 q.tgt, .slice B1 q.ks.length d1] 27)).heap.size := by simp
  have M3 := hb2'.trans (fW.mono s2)
  have H3 := hb1.trans (M3.mono hb1.size)
  have hh3 := Lib.hid ((OwnQ.has h1).below fW)
  clear fW hb2' h1 M3
  go_wp2_with fail
  generalize (w2.alloc (.cells #[.int .i64 q.kd, .string q.fd, .slice A1 q.ws.length c1, .int .i64 q.fr, .int .i64 q.tgt, .slice B1 q.ks.length d1] 27)) = W3 at v3 zz3 H3 hh3 ⊢
  generalize w2.heap.size = p at v3 zz3 s2 ⊢
  refine (HS.out W3).mono ?_
  rintro e w4 ⟨A0, c0, B0, d0, ⟨rfl, h0⟩, hb4⟩
  have s4 := hb4.size
  have fW : Below w4.heap.size w4 (w4.alloc (.cells #[.int .i64 q.kd, .string q.fd, .slice A0 q.ws.length c0, .int .i64 q.fr, .int .i64 q.tgt, .slice B0 q.ks.length d0] 27)) := (Below.refl _ _).alloc (Nat.le_refl _) _
  have v5 := alloc_new w4 (.cells #[.int .i64 q.kd, .string q.fd, .slice A0 q.ws.length c0, .int .i64 q.fr, .int .i64 q.tgt, .slice B0 q.ks.length d0] 27)
  have zz5 : w4.heap.size < (w4.alloc (.cells #[.int .i64 q.kd, .string q.fd, .slice A0 q.ws.length c0, .int .i64 q.fr, .int .i64 q.tgt, .slice B0 q.ks.length d0] 27)).heap.size := by simp
  have M5 := hb4.trans (fW.mono s4)
  have H5 := H3.trans (M5.mono H3.size)
  have hw5 := Lib.hid (h0.below fW)
  have hh5 := Lib.hid (hh3.out.below M5)
  have v5a := (M5.block p zz3).trans v3
  obtain ⟨y0, y1, y2, y3, y4, y5⟩ := blk6 v5
  obtain ⟨x0, x1, x2, x3, x4, x5⟩ := blk6 v5a
  clear fW hb4 h0 v3 hh3 HR HS
  go_wp2_with fail
  generalize (w4.alloc (.cells #[.int .i64 q.kd, .string q.fd, .slice A0 q.ws.length c0, .int .i64 q.fr, .int .i64 q.tgt, .slice B0 q.ks.length d0] 27)) = W5 at v5 zz5 M5 H5 hw5 hh5 v5a y0 y1 y2 y3 y4 y5 x0 x1 x2 x3 x4 x5 ⊢
  generalize w4.heap.size = p2 at v5 zz5 s4 ⊢
  have hbb : (b != b) = false := by cases b <;> rfl
  refine (foQuery_same 201 q A1 c1 B1 d1 A0 c0 B0 d0 W5 hh5.out hw5.out HLM.out).mono ?_
  rintro e w6 ⟨rfl, hb6⟩
  have s6 := hb6.size
  have s5 := M5.size
  have H6 := H5.trans (hb6.mono H5.size)
  have v6 := (hb6.block p2 zz5).trans v5
  have v6a := (hb6.block p (by omega)).trans v5a
  have hh6 := Lib.hid (hh5.out.below hb6)
  have hw6 := Lib.hid (hw5.out.below hb6)
  clear x0 x1 x2 x3 x4 x5 y0 y1 y2 y3 y4 y5 v5 v5a hh5 hw5 hb6 M5
  obtain ⟨y0, y1, y2, y3, y4, y5⟩ := blk6 v6
  obtain ⟨x0, x1, x2, x3, x4, x5⟩ := blk6 v6a
  cases b with
  | false =>
    go_wp2_with fail
    refine (foQuery_same 201 q A1 c1 B1 d1 A0 c0 B0 d0 w6 hh6.out hw6.out HLM.out).mono ?_
    rintro e w7 ⟨rfl, hb7⟩
    have H7 := H6.trans (hb7.mono H6.size)
    clear x0 x1 x2 x3 x4 x5 y0 y1 y2 y3 y4 y5
    go_wp2
    go_ret
    exact ⟨rfl, H7⟩
  | true =>
    obtain ⟨ho, htx⟩ := HEQ.out rfl
    have hP : putR q = S := by unfold putR; rw [if_pos ho]; exact htx
    have HP := Lib.hid hP
    have HOK := Lib.hid ho
    clear hP ho htx HEQ
    have hss : (S.toList != S.toList) = false := by simp
    have hss2 : (S.toList == S.toList) = true := by simp
    go_wp2_with fail
    refine (queryPut_any bm bo 201 q A1 c1 B1 d1 w6 (HL.out.below H6) (HO.out.below H6) (tab_below HT.out H6) hh6.out HLM.out HWF).mono ?_
    rintro e w7 ⟨he, hb7⟩
    rw [HP.out] at he
    subst he
    have H7 := H6.trans (hb7.mono H6.size)
    have v7a := (hb7.block p (by omega)).trans v6a
    have hh7 := Lib.hid (hh6.out.below hb7)
    clear x0 x1 x2 x3 x4 x5 y0 y1 y2 y3 y4 y5 hb7
    obtain ⟨x0, x1, x2, x3, x4, x5⟩ := blk6 v7a
    go_wp2_with fail
    refine (queryOk_any bm 201 q A1 c1 B1 d1 w7 (HL.out.below H7) hh7.out HLM.out HWF).mono ?_
    rintro e w8 ⟨he, hb8⟩
    rw [HOK.out] at he
    subst he
    have H8 := H7.trans (hb8.mono H7.size)
    clear x0 x1 x2 x3 x4 x5
    go_wp2
    go_ret
    exact ⟨rfl, H8⟩
end Go.Proofs.YtaobgliimbmemaaGreatDoor
