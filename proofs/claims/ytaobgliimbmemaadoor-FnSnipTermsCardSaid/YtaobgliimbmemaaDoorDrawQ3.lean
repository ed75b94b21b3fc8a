/-
  What is drawn of questions: contract of l30AnyQuery: printed by mk_drawq3.py.
-/
import Derived.Test.YtaobgliimbmemaaDoorDrawQ2
import Derived.ArgAppend
namespace Go.Proofs.YtaobgliimbmemaaDoor
open Go.RowKit Go.Sort
set_option linter.unusedVariables false
set_option linter.unusedSimpArgs false

theorem HasQ.succ : ∀ {n : Nat} {w : World} {q : QD} {A : Option Addr} {c : Nat} {B : Option Addr}, HasQ n w q A c B → HasQ (n + 1) w q A c B
  | 0, _, _, _, _, _, h => h.elim
  | n + 1, w, q, A, c, B, h => ⟨h.1, fun k hk => by
    obtain ⟨b, off, A1, c1, B1, d1, e1, e2, e3, e4⟩ := h.2 k hk
    exact ⟨b, off, A1, c1, B1, d1, e1, e2, e3, HasQ.succ e4⟩⟩
/-- the header of a question, its words' capacity what it may be. -/
structure HdQy where
  q : QD
  A : Option Addr
  c : Nat
  B : Option Addr
  d : Nat
def encYq (h : HdQy) : List Value := encQ h.q h.A h.c h.B h.d
theorem encYq_ok : Enc encYq 6 := ⟨fun _ => rfl, fun a u hu => by simp [encYq, encQ] at hu; rcases hu with rfl | rfl | rfl | rfl | rfl | rfl <;> rfl⟩
theorem rdK_cellsY {n : Nat} {w : World} {b off : Nat} {hv : List HdQy} (hb : b < w.heap.size) (hc : ∀ j u, (hv.flatMap encYq)[j]? = some u → w.cell? ⟨b, off + j, none⟩ = some u) (hq : ∀ m ∈ hv, HasQ n w m.q m.A m.c m.B) :
    RdK (HasQ n) w (some ⟨b, off, none⟩) (hv.map (·.q)) := fun k hk => by
  have hk' : k < hv.length := by simpa using hk
  have hg := List.getElem?_eq_getElem hk'
  refine ⟨b, off, hv[k].A, hv[k].c, hv[k].B, hv[k].d, rfl, hb, fun j u hu => ?_, ?_⟩
  · rw [List.getElem_map] at hu
    have hj : j < 6 := by have := (List.getElem?_eq_some_iff.1 hu).1; simpa [encQ] using this
    rw [Nat.add_assoc]
    exact hc _ u (by rw [flat_get (enc := encYq) (F := 6) (fun _ => rfl) hg hj]; exact hu)
  · rw [List.getElem_map]; exact hq _ (List.getElem_mem _)
/-- the headers of kids. -/
theorem rdK_heads {n : Nat} {w : World} {b off : Nat} {Ks : List QD} (h : RdK (HasQ n) w (some ⟨b, off, none⟩) Ks) : ∃ hv : List HdQy, hv.map (·.q) = Ks ∧ ∀ j u, (hv.flatMap encYq)[j]? = some u → w.cell? ⟨b, off + j, none⟩ = some u := by
  suffices hs : ∀ n, n ≤ Ks.length → ∃ hv : List HdQy, hv.map (·.q) = Ks.take n ∧ ∀ k (hk : k < hv.length) j u, (encYq hv[k])[j]? = some u → w.cell? ⟨b, off + k * 6 + j, none⟩ = some u by
    obtain ⟨hv, h1, h2⟩ := hs Ks.length (Nat.le_refl _)
    refine ⟨hv, by rw [h1, List.take_length], fun j u hu => ?_⟩
    have hl := encYq_ok.flat hv
    have hj : j < hv.length * 6 := by have := (List.getElem?_eq_some_iff.1 hu).1; omega
    have e : j = j / 6 * 6 + j % 6 := by omega
    rw [e] at hu
    rw [flat_get (enc := encYq) (F := 6) (fun _ => rfl) (List.getElem?_eq_getElem (show j / 6 < hv.length by omega)) (Nat.mod_lt _ (by omega))] at hu
    have := h2 (j / 6) (by omega) (j % 6) u hu
    rw [Nat.add_assoc, ← e] at this
    exact this
  intro n
  induction n with
  | zero => intro _; exact ⟨[], rfl, fun k hk => by simp at hk⟩
  | succ n ih =>
    intro hn
    obtain ⟨hv, h1, h2⟩ := ih (by omega)
    have hl : hv.length = n := by have := congrArg List.length h1; rw [List.length_map, List.length_take] at this; omega
    obtain ⟨b', off', A1, c1, B1, d1, e1, _, hc, _⟩ := h n (by omega)
    simp only [Option.some.injEq, Addr.mk.injEq, and_true] at e1
    obtain ⟨rfl, rfl⟩ := e1
    refine ⟨hv ++ [⟨Ks[n], A1, c1, B1, d1⟩], ?_, fun k hk j u hu => ?_⟩
    · rw [List.map_append, h1, ← List.take_append_getElem (show n < Ks.length by omega)]; rfl
    · rcases Nat.lt_or_ge k hv.length with h3 | h3
      · rw [List.getElem_append_left h3] at hu; exact h2 k h3 j u hu
      · have h4 : k = n := by simp at hk; omega
        subst h4
        have e : (hv ++ [⟨Ks[k], A1, c1, B1, d1⟩])[k]'hk = ⟨Ks[k], A1, c1, B1, d1⟩ := by simp [← hl]
        rw [e] at hu; exact hc j u hu
theorem QS.finC {w wi : World} {g p : Nat} (h : QS w g wi p) {n : Nat} (q : QD) (A B : Option Addr) (c d : Nat) (hk : ∀ w', SameR (w.heap.size + 1) wi.heap.size wi w' → HasQ n w' q A c B) (u0 u1 u2 u3 u4 u5 : Value) :
    KeptQ n w ((((((wi.setCell ⟨w.heap.size, 0, none⟩ u0).setCell ⟨w.heap.size, 1, none⟩ u1).setCell ⟨w.heap.size, 2, none⟩ u2).setCell ⟨w.heap.size, 3, none⟩ u3).setCell ⟨w.heap.size, 4, none⟩ u4).setCell ⟨w.heap.size, 5, none⟩ u5) q A c B ∧
    Rd ((((((wi.setCell ⟨w.heap.size, 0, none⟩ u0).setCell ⟨w.heap.size, 1, none⟩ u1).setCell ⟨w.heap.size, 2, none⟩ u2).setCell ⟨w.heap.size, 3, none⟩ u3).setCell ⟨w.heap.size, 4, none⟩ u4).setCell ⟨w.heap.size, 5, none⟩ u5) g p ∧
    Outer w.heap.size g w ((((((wi.setCell ⟨w.heap.size, 0, none⟩ u0).setCell ⟨w.heap.size, 1, none⟩ u1).setCell ⟨w.heap.size, 2, none⟩ u2).setCell ⟨w.heap.size, 3, none⟩ u3).setCell ⟨w.heap.size, 4, none⟩ u4).setCell ⟨w.heap.size, 5, none⟩ u5) := by
  have hg := h.g0
  have hsz := h.sz
  refine ⟨fun w'' ho => hk w'' ?_, rdQ_set (rdQ_set (rdQ_set (rdQ_set (rdQ_set (rdQ_set h.r hg _) hg _) hg _) hg _) hg _) hg _, h.o.trans (Outer.of (((((((Below.refl _ wi).setCell (p := ⟨w.heap.size, 0, none⟩) (Nat.le_refl _) _).setCell (p := ⟨w.heap.size, 1, none⟩) (Nat.le_refl _) _).setCell (p := ⟨w.heap.size, 2, none⟩) (Nat.le_refl _) _).setCell (p := ⟨w.heap.size, 3, none⟩) (Nat.le_refl _) _).setCell (p := ⟨w.heap.size, 4, none⟩) (Nat.le_refl _) _).setCell (p := ⟨w.heap.size, 5, none⟩) (Nat.le_refl _) _))⟩
  have h1 : SameR (w.heap.size + 1) wi.heap.size wi ((((((wi.setCell ⟨w.heap.size, 0, none⟩ u0).setCell ⟨w.heap.size, 1, none⟩ u1).setCell ⟨w.heap.size, 2, none⟩ u2).setCell ⟨w.heap.size, 3, none⟩ u3).setCell ⟨w.heap.size, 4, none⟩ u4).setCell ⟨w.heap.size, 5, none⟩ u5) :=
    (((((SameR.set wi _ (by omega) (Nat.le_refl _)).set2 _ (by omega)).set2 _ (by omega)).set2 _ (by omega)).set2 _ (by omega)).set2 _ (by omega)
  exact h1.trans (ho.lo (by omega)) (by simp)
def SmA (q : QD) : Prop := ∀ k, LmQ 100000 k q ∧ WfQ k q
theorem LmQ.le {M M' : Nat} (hM : M ≤ M') : ∀ {k : Nat} {q : QD}, LmQ M k q → LmQ M' k q
  | 0, _, _ => trivial
  | k + 1, q, h => ⟨Nat.le_trans h.1 hM, Nat.le_trans h.2.1 hM, fun s hs => Nat.le_trans (h.2.2.1 s hs) hM, Nat.le_trans h.2.2.2.1 hM, fun y hy => LmQ.le hM (h.2.2.2.2 y hy)⟩
theorem SmQ.up {n : Nat} {q : QD} (h : SmQ n q) : SmA q := fun k => ⟨(h k).1.le (by omega), (h k).2⟩
theorem SmQ.wsA {n : Nat} {q : QD} (h : SmQ n q) (x : ByteArray) (hx : x.size ≤ 1000) : SmA ⟨q.kd, q.fd, q.ws ++ [x], q.fr, q.tgt, q.ks⟩
  | 0 => ⟨trivial, trivial⟩
  | k + 1 => by
    have h1 := (h (k + 1)).1
    refine ⟨⟨Nat.le_trans h1.1 (by omega), ?_, fun s hs => ?_, Nat.le_trans h1.2.2.2.1 (by omega), fun y hy => (h1.2.2.2.2 y hy).le (by omega)⟩, (h (k + 1)).2⟩
    · have := h1.2.1
      show (q.ws ++ [x]).length ≤ _
      rw [List.length_append, List.length_singleton]; omega
    · rcases List.mem_append.1 hs with h2 | h2
      · exact Nat.le_trans (h1.2.2.1 s h2) (by omega)
      · simp only [List.mem_cons, List.not_mem_nil, or_false] at h2; subst h2; omega
theorem SmQ.kidA {n : Nat} {q : QD} (h : SmQ n q) : SmA ⟨q.kd, q.fd, q.ws, q.fr, q.tgt, q :: q.ks⟩
  | 0 => ⟨trivial, trivial⟩
  | k + 1 => by
    have h1 := (h (k + 1)).1
    refine ⟨⟨Nat.le_trans h1.1 (by omega), Nat.le_trans h1.2.1 (by omega), fun s hs => Nat.le_trans (h1.2.2.1 s hs) (by omega), ?_, fun y hy => ?_⟩, (h (k + 1)).2.1, fun y hy => ?_⟩
    · have := h1.2.2.2.1
      show (q :: q.ks).length ≤ _
      rw [List.length_cons]; omega
    · rcases List.mem_cons.1 hy with rfl | hy
      · exact (h k).1.le (by omega)
      · exact (h1.2.2.2.2 y hy).le (by omega)
    · rcases List.mem_cons.1 hy with rfl | hy
      · exact (h k).2
      · exact (h (k + 1)).2.2 y hy
theorem kids_heads {n d lo hi c : Nat} {w : World} {q : QD} {A B : Option Addr} (hk : ∀ w', SameR lo hi w w' → HasQ (n + 1) w' q A c B) (hh : hi ≤ w.heap.size) (hB : ∀ b off, B = some ⟨b, off, none⟩ → lo ≤ b ∧ b < hi) (hnil : NilOr B d) :
    ∃ hv : List HdQy, hv.map (·.q) = q.ks ∧ SrcE encYq 6 w B d hv ∧ ∀ w', SameR lo hi w w' → ∀ m ∈ hv, HasQ n w' m.q m.A m.c m.B := by
  have h0 := (hk w ⟨hh, fun _ _ _ => rfl⟩).2
  rcases hnil with ⟨rfl, rfl⟩ | ⟨b, off, rfl⟩
  · have e : q.ks = [] := by
      cases hks : q.ks with
      | nil => rfl
      | cons y r => obtain ⟨b, off, _, _, _, _, e1, _⟩ := h0 0 (by rw [hks]; simp); cases e1
    exact ⟨[], by rw [e]; rfl, SrcE.nil_ w 0, fun w' _ m hm => by simp at hm⟩
  · obtain ⟨hv, h1, h2⟩ := rdK_heads h0
    have hb := hB b off rfl
    have hlen : hv.length = q.ks.length := by rw [← h1, List.length_map]
    refine ⟨hv, h1, ⟨⟨encYq_ok.flat hv, fun _ => ⟨b, off, rfl, by omega, h2⟩⟩, .inr ⟨_, rfl⟩⟩, fun w' hs m hm => ?_⟩
    obtain ⟨k, hk1, rfl⟩ := List.getElem_of_mem hm
    have hk2 : k < q.ks.length := by omega
    obtain ⟨b', off', A1, c1, B1, d1, e1, _, hc, hq⟩ := (hk w' hs).2 k hk2
    simp only [Option.some.injEq, Addr.mk.injEq, and_true] at e1
    obtain ⟨rfl, rfl⟩ := e1
    have hqk : hv[k].q = q.ks[k] := by
      have h5 : (hv.map (·.q))[k]? = q.ks[k]? := by rw [h1]
      rw [List.getElem?_map, List.getElem?_eq_getElem hk1, List.getElem?_eq_getElem hk2] at h5
      exact Option.some.inj h5
    have hat : ∀ j u v, j < 6 → (encQ q.ks[k] A1 c1 B1 d1)[j]? = some u → (encYq hv[k])[j]? = some v → u = v := fun j u v hj hu hv2 => by
      have g1 := hc j u hu
      have g2 := h2 (k * 6 + j) v (by rw [flat_get (enc := encYq) (F := 6) (fun _ => rfl) (List.getElem?_eq_getElem hk1) hj]; exact hv2)
      rw [Nat.add_assoc, cell_blk (hs.2 b (by omega) (by omega)), g2] at g1
      exact (Option.some.inj g1).symm
    have a2 := hat 2 _ _ (by omega) rfl rfl
    have a5 := hat 5 _ _ (by omega) rfl rfl
    simp only [Value.slice.injEq] at a2 a5
    rw [hqk, ← a2.1, ← a2.2.2, ← a5.1]
    exact hq
/-- what l30AnyQuery hands back. -/
def QueryA (n : Nat) (w : World) (g p k : Nat) (e : Ending) (w' : World) : Prop := ∃ (q : QD) (A : Option Addr) (c : Nat) (B : Option Addr) (d : Nat), (e = .returned (.agg #[.int .i64 q.kd, .string q.fd, .slice A q.ws.length c, .int .i64 q.fr, .int .i64 q.tgt, .slice B q.ks.length d]) ∧ SmA q ∧ KeptQ n w w' q A c B) ∧ ∃ p', p' ≤ p + k ∧ Rd w' g p' ∧ Outer w.heap.size g w w'
theorem queryA_mk {n : Nat} {w w' : World} {g p p' k : Nat} (q : QD) (A : Option Addr) (c : Nat) (B : Option Addr) (d : Nat) (hs : SmA q) (hf : KeptQ n w w' q A c B ∧ Rd w' g p' ∧ Outer w.heap.size g w w') (hp : p' ≤ p + k) :
    QueryA n w g p k (.returned (.agg #[.int .i64 q.kd, .string q.fd, .slice A q.ws.length c, .int .i64 q.fr, .int .i64 q.tgt, .slice B q.ks.length d])) w' :=
  ⟨q, A, c, B, d, ⟨rfl, hs, hf.1⟩, p', hp, hf.2.1, hf.2.2⟩
/-- a question in a variable of its own (block qb); its memory lies below that. -/
structure QV (n : Nat) (w : World) (g : Nat) (wi : World) (p qb : Nat) (q : QD) (A : Option Addr) (c : Nat) (B : Option Addr) (d : Nat) : Prop where
  s : QS w g wi p
  lo : w.heap.size < qb
  cb : wi.heap[qb]? = some (.cells #[.int .i64 q.kd, .string q.fd, .slice A q.ws.length c, .int .i64 q.fr, .int .i64 q.tgt, .slice B q.ks.length d] 26 (0, 0))
  k : ∀ w', SameR (w.heap.size + 1) qb wi w' → HasQ n w' q A c B
section
variable {n g p p' qb c d : Nat} {w wi wj : World} {q : QD} {A B : Option Addr}
theorem QV.lt (h : QV n w g wi p qb q A c B d) : qb < wi.heap.size := (Array.getElem?_eq_some_iff.1 h.cb).1
theorem QV.gen (h : QV n w g wi p qb q A c B d) (r : Rd wj g p') (o : Outer wi.heap.size g wi wj) : QV n w g wj p' qb q A c B d := by
  have h1 := h.lt
  have h2 := h.lo
  have h3 := h.s.g0
  exact ⟨h.s.gen r o, h2, (o.2.2 qb h1 (by omega)).trans h.cb, fun w' hs => h.k w' ((SameR.out2 o (by omega) (by omega)).trans hs (Nat.le_refl _))⟩
theorem QV.grow (h : QV n w g wi p qb q A c B d) (o : Below wi.heap.size wi wj) : QV n w g wj p qb q A c B d := h.gen (h.s.r.below (o.mono (by have := h.s.r.lt; omega))) (Outer.of o)
theorem QV.setQ (h : QV n w g wi p qb q A c B d) (j : Nat) (u : Value) : QS w g (wi.setCell ⟨qb, j, none⟩ u) p ∧ ∀ w', SameR (w.heap.size + 1) qb (wi.setCell ⟨qb, j, none⟩ u) w' → SameR (w.heap.size + 1) qb wi w' := by
  have h1 := h.lt
  have h2 := h.lo
  have h3 := h.s.g0
  refine ⟨⟨rdQ_set h.s.r (by omega) _, h.s.o.trans (Outer.of ((Below.refl _ wi).setCell (p := ⟨qb, j, none⟩) (by show _ ≤ qb; omega) _)), h3, by simpa using h.s.sz, (heap_setCell_other wi ⟨qb, j, none⟩ w.heap.size _ (by simp; omega)).trans h.s.rb⟩, fun w' hs => ⟨hs.1, fun k k1 k2 => (hs.2 k k1 k2).trans (heap_setCell_other wi ⟨qb, j, none⟩ k u (by simp; omega))⟩⟩
theorem QV.setKd (h : QV n w g wi p qb q A c B d) (x : Int) (hk : ∀ w', HasQ n w' q A c B → HasQ n w' ⟨x, q.fd, q.ws, q.fr, q.tgt, q.ks⟩ A c B) : QV n w g (wi.setCell ⟨qb, 0, none⟩ (.int .i64 x)) p qb ⟨x, q.fd, q.ws, q.fr, q.tgt, q.ks⟩ A c B d :=
  ⟨(h.setQ 0 _).1, h.lo, heap_setCell_same wi qb 0 _ _ (.int .i64 x) h.cb, fun w' hs => hk w' (h.k w' ((h.setQ 0 _).2 w' hs))⟩
theorem QV.setFr (h : QV n w g wi p qb q A c B d) (x : Int) (hk : ∀ w', HasQ n w' q A c B → HasQ n w' ⟨q.kd, q.fd, q.ws, x, q.tgt, q.ks⟩ A c B) : QV n w g (wi.setCell ⟨qb, 3, none⟩ (.int .i64 x)) p qb ⟨q.kd, q.fd, q.ws, x, q.tgt, q.ks⟩ A c B d :=
  ⟨(h.setQ 3 _).1, h.lo, heap_setCell_same wi qb 3 _ _ (.int .i64 x) h.cb, fun w' hs => hk w' (h.k w' ((h.setQ 3 _).2 w' hs))⟩
end
theorem has_kd {n : Nat} {w : World} {q : QD} {A : Option Addr} {c : Nat} {B : Option Addr} (x y : Int) (h : HasQ (n + 1) w q A c B) : HasQ (n + 1) w ⟨x, q.fd, q.ws, y, q.tgt, q.ks⟩ A c B := h
theorem SmQ.kd {n m : Nat} {q : QD} (h : SmQ n q) (x y : Int) (h0 : 0 ≤ x) (h1 : x ≤ 100) : SmQ m ⟨x, q.fd, q.ws, y, q.tgt, q.ks⟩
  | 0 => ⟨trivial, trivial⟩
  | k + 1 => ⟨(h (k + 1)).1, show (Lit.int .i64 x).wf = true from Go.WalkArith.wf_i64 ⟨by omega, by omega⟩, (h (k + 1)).2.2⟩
theorem SmQ.fr {n m : Nat} {q : QD} (h : SmQ n q) (y : Int) : SmQ m ⟨q.kd, q.fd, q.ws, y, q.tgt, q.ks⟩
  | 0 => ⟨trivial, trivial⟩
  | k + 1 => ⟨(h (k + 1)).1, (h (k + 1)).2.1, (h (k + 1)).2.2⟩
theorem SmQ.wl {n : Nat} {q : QD} (h : SmQ n q) : q.ws.length ≤ 1000 ∧ q.ks.length ≤ 1000 := ⟨(h 1).1.2.1, (h 1).1.2.2.2.1⟩
theorem l30Query_three (n g p : Nat) (w : World) (hr : Rd w g p) (hp : p + 320 < 1000000) : Calls Tryd.prog 67 #[.pointer (some ⟨g, 0, none⟩), .int .i64 3] w (QueryG (n + 3) w g p 220) := l30Query_gen n g p w hr (by omega)
set_option maxRecDepth 8000 in
set_option maxHeartbeats 6400000 in
theorem l30AnyQuery_gen (n g p : Nat) (w : World) (hr : Rd w g p) (hp : p + 500 < 1000000) :
    Calls Tryd.prog 37 #[.pointer (some ⟨g, 0, none⟩)] w (QueryA (n + 4) w g p 230) := by
  have S0 := QS.start w g p hr
  have hgl := hr.lt
  go_enter Tryd.func37, Tryd.ntmps37
  go_wp2_with fail
  have hq0 : (w.alloc (.cells #[.int .i64 0, .string ⟨#[]⟩, .slice none 0 0, .int .i64 0, .int .i64 0, .slice none 0 0] 26)).heap.size = w.heap.size + 1 := by simp
  generalize (w.alloc (.cells #[.int .i64 0, .string ⟨#[]⟩, .slice none 0 0, .int .i64 0, .int .i64 0, .slice none 0 0] 26)) = W0 at S0 hq0 ⊢
  refine (l30Query_three n g p _ S0.r (by omega)).mono ?_
  rintro e w1 ⟨q, A, B, d, ⟨rfl, hsm, hnil, hwa, hwb, hwc, hk⟩, p1, hp1, r1, o1⟩
  have S1 := S0.gen r1 o1
  have ho1 := o1.2.1
  have V2 : QV (n + 3) w g (w1.alloc (.cells #[.int .i64 q.kd, .string q.fd, .slice A q.ws.length q.ws.length, .int .i64 q.fr, .int .i64 q.tgt, .slice B q.ks.length d] 26)) p1 w1.heap.size q A q.ws.length B d :=
    ⟨S1.grow ((Below.refl _ _).alloc (Nat.le_refl _) _), S1.sz, alloc_new w1 _, fun w' hs => hk w' (SameR.trans ⟨by simp, fun k _ k2 => ((Below.refl _ w1).alloc (Nat.le_refl _) _).block k k2⟩ (hs.lo (by omega)) (Nat.le_refl _))⟩
  have HWA := Lib.hid hwa
  have HWB : Hid (∀ b off, A = some ⟨b, off, none⟩ → w.heap.size + 1 ≤ b ∧ b < w1.heap.size) := fun b off e => by have := hwb b off e; omega
  have HWC : Hid (∀ b off, B = some ⟨b, off, none⟩ → w.heap.size + 1 ≤ b ∧ b < w1.heap.size) := fun b off e => by have := hwc b off e; omega
  have HNL := Lib.hid hnil
  have HSM := Lib.hid hsm
  have hwl := hsm.wl
  clear S0 S1 hk o1 r1 hq0 hwa hwb hwc hnil hsm
  go_wp2_with fail
  generalize (w1.alloc (.cells #[.int .i64 q.kd, .string q.fd, .slice A q.ws.length q.ws.length, .int .i64 q.fr, .int .i64 q.tgt, .slice B q.ks.length d] 26)) = W2 at V2 ⊢
  generalize w1.heap.size = qb at V2 HWB HWC ⊢
  refine (pick_gen g p1 16 (by omega) (by omega) _ V2.s.r (by omega)).mono ?_
  rintro e w3 ⟨v, ⟨rfl, hv1, hv2⟩, p3, hp3, r3, o3⟩
  have V3 := V2.gen r3 o3
  clear V2 o3 r3
  by_cases c0 : v = 0
  · subst c0
    have V4 := V3.grow (wj := (w3.alloc (.cells #[.int .i64 0, .int .i64 11, .int .i64 7] 3))) (by (repeat' (first | exact Below.refl _ _ | apply Below.alloc | apply Below.setCell | apply Below.drew | apply below_draws)) <;> (first | omega | (simp <;> omega)))
    have hz3 := V3.lt
    have hz4 := V3.lo
    go_wp2_with fail
    refine (one_any g p3 w3.heap.size 3 [0, 11, 7] _ V4.s.r (by omega) rfl (by omega) (by omega) (by omega) (fun i hi => by rcases i with _ | _ | _ | i <;> first | omega | simp [go_sem])).mono ?_
    rintro e w5 ⟨x, ⟨rfl, hx⟩, p5, hp5, r5, o5⟩
    have V5 := V4.gen r5 o5
    have V6 := V5.setKd x (fun w' h => has_kd (n := n + 2) x q.fr h)
    obtain ⟨f0, f1, f2, f3, f4, f5⟩ := blk6 V5.cb
    have ff := frozen_blk V5.cb 0
    obtain ⟨u0, u1, u2, u3, u4, u5⟩ := blk6 V5.s.rb
    have y0 := frozen_blk V5.s.rb 0
    have y1 := frozen_blk V5.s.rb 1
    have y2 := frozen_blk V5.s.rb 2
    have y3 := frozen_blk V5.s.rb 3
    have y4 := frozen_blk V5.s.rb 4
    have y5 := frozen_blk V5.s.rb 5
    have hz6 := V6.lt
    have hq5 := V5.lt
    have HX : Hid (0 ≤ x ∧ x ≤ 100) := by simp at hx; show _ ∧ _; omega
    clear V3 V4 r5 o5 hx
    obtain ⟨x0, x1, x2, x3, x4, x5⟩ := blk6 V6.cb
    obtain ⟨s0, s1, s2, s3, s4, s5⟩ := blk6 V6.s.rb
    have t0 := frozen_blk V6.s.rb 0
    have t1 := frozen_blk V6.s.rb 1
    have t2 := frozen_blk V6.s.rb 2
    have t3 := frozen_blk V6.s.rb 3
    have t4 := frozen_blk V6.s.rb 4
    have t5 := frozen_blk V6.s.rb 5
    have HF := Lib.hid (QS.finC (n := n + 4) V6.s ⟨x, q.fd, q.ws, q.fr, q.tgt, q.ks⟩ A B q.ws.length d (fun w' hs => (V6.k w' ⟨by have := hs.1; omega, fun k k1 k2 => hs.2 k k1 (by omega)⟩).succ) (.int .i64 x) (.string q.fd) (.slice A q.ws.length q.ws.length) (.int .i64 q.fr) (.int .i64 q.tgt) (.slice B q.ks.length d))
    have HSN : Hid (SmA ⟨x, q.fd, q.ws, q.fr, q.tgt, q.ks⟩) := (HSM.out.kd (m := 0) x q.fr HX.out.1 HX.out.2).up
    clear V6 V5
    go_wp2
    exact bodyPost_ret (v := .agg #[.int .i64 x, .string q.fd, .slice A q.ws.length q.ws.length, .int .i64 q.fr, .int .i64 q.tgt, .slice B q.ks.length d]) (by simp [results, Tryd.results37, go_sem, *]) rfl (queryA_mk ⟨x, q.fd, q.ws, q.fr, q.tgt, q.ks⟩ A q.ws.length B d HSN.out HF.out (by omega))
  have n0 : (v == 0) = false := by rw [beq_eq_false_iff_ne]; exact c0
  by_cases c1 : v = 1
  · subst c1
    have V4 := V3.grow (wj := (w3.alloc (.cells #[.int .i64 (-1), .int .i64 10, .int .i64 1] 3))) (by (repeat' (first | exact Below.refl _ _ | apply Below.alloc | apply Below.setCell | apply Below.drew | apply below_draws)) <;> (first | omega | (simp <;> omega)))
    have hz3 := V3.lt
    have hz4 := V3.lo
    go_wp2_with fail
    refine (one_any g p3 w3.heap.size 3 [(-1), 10, 1] _ V4.s.r (by omega) rfl (by omega) (by omega) (by omega) (fun i hi => by rcases i with _ | _ | _ | i <;> first | omega | simp [go_sem])).mono ?_
    rintro e w5 ⟨x, ⟨rfl, hx⟩, p5, hp5, r5, o5⟩
    have V5 := V4.gen r5 o5
    have V6 := V5.setFr x (fun w' h => has_kd (n := n + 2) q.kd x h)
    obtain ⟨f0, f1, f2, f3, f4, f5⟩ := blk6 V5.cb
    have ff := frozen_blk V5.cb 3
    obtain ⟨u0, u1, u2, u3, u4, u5⟩ := blk6 V5.s.rb
    have y0 := frozen_blk V5.s.rb 0
    have y1 := frozen_blk V5.s.rb 1
    have y2 := frozen_blk V5.s.rb 2
    have y3 := frozen_blk V5.s.rb 3
    have y4 := frozen_blk V5.s.rb 4
    have y5 := frozen_blk V5.s.rb 5
    have hz6 := V6.lt
    have hq5 := V5.lt
    have HX : Hid (0 ≤ x + 1 ∧ x ≤ 100) := by simp at hx; show _ ∧ _; omega
    clear V3 V4 r5 o5 hx
    obtain ⟨x0, x1, x2, x3, x4, x5⟩ := blk6 V6.cb
    obtain ⟨s0, s1, s2, s3, s4, s5⟩ := blk6 V6.s.rb
    have t0 := frozen_blk V6.s.rb 0
    have t1 := frozen_blk V6.s.rb 1
    have t2 := frozen_blk V6.s.rb 2
    have t3 := frozen_blk V6.s.rb 3
    have t4 := frozen_blk V6.s.rb 4
    have t5 := frozen_blk V6.s.rb 5
    have HF := Lib.hid (QS.finC (n := n + 4) V6.s ⟨q.kd, q.fd, q.ws, x, q.tgt, q.ks⟩ A B q.ws.length d (fun w' hs => (V6.k w' ⟨by have := hs.1; omega, fun k k1 k2 => hs.2 k k1 (by omega)⟩).succ) (.int .i64 q.kd) (.string q.fd) (.slice A q.ws.length q.ws.length) (.int .i64 x) (.int .i64 q.tgt) (.slice B q.ks.length d))
    have HSN : Hid (SmA ⟨q.kd, q.fd, q.ws, x, q.tgt, q.ks⟩) := (HSM.out.fr (m := 0) x).up
    clear V6 V5
    go_wp2
    exact bodyPost_ret (v := .agg #[.int .i64 q.kd, .string q.fd, .slice A q.ws.length q.ws.length, .int .i64 x, .int .i64 q.tgt, .slice B q.ks.length d]) (by simp [results, Tryd.results37, go_sem, *]) rfl (queryA_mk ⟨q.kd, q.fd, q.ws, x, q.tgt, q.ks⟩ A q.ws.length B d HSN.out HF.out (by omega))
  have n1 : (v == 1) = false := by rw [beq_eq_false_iff_ne]; exact c1
  by_cases c2 : v = 2
  · subst c2
    obtain ⟨i0, hi, hz0, hz1, hz2⟩ := info_partsZ infoStr
    have hlo := V3.lo
    have hlt := V3.lt
    have V4 := V3.grow (wj := (w3.alloc (.cells #[.string ⟨#[66, 97, 100]⟩] 9))) ((Below.refl _ _).alloc (Nat.le_refl _) _)
    have hb4 := alloc_new w3 (.cells #[.string ⟨#[66, 97, 100]⟩] 9)
    have hs4 : (w3.alloc (.cells #[.string ⟨#[66, 97, 100]⟩] 9)).heap.size = w3.heap.size + 1 := by simp
    have h3 := V4.k _ ⟨by omega, fun _ _ _ => rfl⟩
    have HNN : Hid (A = none → q.ws.length = 0 ∧ q.ws.length = 0) := fun e => by
      rcases Nat.eq_zero_or_pos q.ws.length with h | h
      · exact ⟨h, h⟩
      · obtain ⟨_, _, e2, _⟩ := h3.1.1.1.2 h
        rw [e] at e2; cases e2
    have hol : (q.ws.flatMap encT).length = q.ws.length * 1 := by rw [flatW, List.length_map, Nat.mul_one]
    have HCO : Hid (∀ b, A = some b → ∀ j u, (q.ws.flatMap encT)[j]? = some u → (w3.alloc (.cells #[.string ⟨#[66, 97, 100]⟩] 9)).cell? (b.add j) = some u) := fun b e j u hu => by
      have hj : 0 < q.ws.length := by have := (List.getElem?_eq_some_iff.1 hu).1; omega
      obtain ⟨b1, o1, e2, _, hc⟩ := h3.1.1.1.2 hj
      rw [e] at e2
      injection e2 with e2
      subst e2
      rw [addr_add]
      exact hc j u hu
    have HNW : Hid (∀ j u, (encT ⟨#[66, 97, 100]⟩)[j]? = some u → (w3.alloc (.cells #[.string ⟨#[66, 97, 100]⟩] 9)).cell? ((⟨w3.heap.size, 0, none⟩ : Addr).add j) = some u) := fun j u hu => by
      rw [addr_add, Nat.zero_add, cell_of_row _ _ j _ _ (0, 0) hb4, ← Array.getElem?_toList]
      exact hu
    obtain ⟨_, _, f2, _, _, _⟩ := blk6 V3.cb
    obtain ⟨_, _, f2b, _, _, _⟩ := blk6 V4.cb
    go_wp2_with (at_builtin; refine wpList_append_grows _ rfl _ _ 23 rfl 9 i0 _ 1 16 Tryd.underlying23 hi hz0 hz1 hz2 rfl (by decide) A q.ws.length q.ws.length (q.ws.flatMap encT) rfl HNN.out hol HCO.out _ 1 _ (encT ⟨#[66, 97, 100]⟩) rfl rfl HNW.out (encT_ok.one _) (by omega) (by unfold maxLen; omega) (by omega) ?_)
    intro v' w5 hv' hg'
    obtain ⟨g5, c5, rfl⟩ : ∃ g5 c5, v' = .slice (some ⟨g5, 0, none⟩) (q.ws.length + 1) c5 := by
      rcases hv'.2 with ⟨_, h0⟩ | ⟨g', cap, cur, h', _⟩
      · omega
      · exact ⟨_, _, h'⟩
    have hbw := (Below.refl (w3.alloc (.cells #[.string ⟨#[66, 97, 100]⟩] 9)).heap.size (w3.alloc (.cells #[.string ⟨#[66, 97, 100]⟩] 9))).grown hg' (Nat.le_refl _) (fun k hk => by cases hk)
    have V5 := V4.grow hbw
    have hlt5 := V5.lt
    have hs5 := hbw.size
    have c6 := heap_setCell_same w5 qb 2 _ _ (.slice (some ⟨g5, 0, none⟩) (q.ws.length + 1) c5) V5.cb
    have S6 := (V5.setQ 2 (.slice (some ⟨g5, 0, none⟩) (q.ws.length + 1) c5)).1
    have hfin : ∀ w', SameR (w.heap.size + 1) (w5.setCell ⟨qb, 2, none⟩ (.slice (some ⟨g5, 0, none⟩) (q.ws.length + 1) c5)).heap.size (w5.setCell ⟨qb, 2, none⟩ (.slice (some ⟨g5, 0, none⟩) (q.ws.length + 1) c5)) w' → HasQ (n + 4) w' ⟨q.kd, q.fd, q.ws ++ [⟨#[66, 97, 100]⟩], q.fr, q.tgt, q.ks⟩ (some ⟨g5, 0, none⟩) c5 B := fun w' hs => by
      have hss : w5.heap.size ≤ w'.heap.size := by have := hs.1; simpa using this
      have hat : ∀ k, w.heap.size + 1 ≤ k → k < w5.heap.size → k ≠ qb → w'.heap[k]? = w5.heap[k]? := fun k k1 k2 k3 => (hs.2 k k1 (by simpa using k2)).trans (heap_setCell_other w5 ⟨qb, 2, none⟩ k _ (by show k ≠ qb; omega))
      have hkq := V5.k w' ⟨by omega, fun k k1 k2 => hat k k1 (by omega) (by omega)⟩
      have hown : w'.ownsRow (w3.heap.size + 1) 9 1 (.slice (some ⟨g5, 0, none⟩) (q.ws ++ [(⟨#[66, 97, 100]⟩ : ByteArray)]).length c5) (q.ws ++ [(⟨#[66, 97, 100]⟩ : ByteArray)]).length ((q.ws ++ [(⟨#[66, 97, 100]⟩ : ByteArray)]).flatMap encT) := by
        rw [List.length_append, List.length_singleton, List.flatMap_append, List.flatMap_cons, List.flatMap_nil, List.append_nil]
        exact own_sameQ hv' (fun k k1 k2 => hat k (by omega) k2 (by omega))
      have hcap := OwnE.capOk hown
      exact ⟨⟨OwnE.src hown, hcap.1, hcap.2.1⟩, hkq.succ.2⟩
    obtain ⟨y0, y1, y2, y3, y4, y5⟩ := blk6 V5.cb
    have yz := frozen_blk V5.cb 2
    obtain ⟨x0, x1, x2, x3, x4, x5⟩ := blk6 c6
    obtain ⟨u0, u1, u2, u3, u4, u5⟩ := blk6 V5.s.rb
    have z0 := frozen_blk V5.s.rb 0
    have z1 := frozen_blk V5.s.rb 1
    have z2 := frozen_blk V5.s.rb 2
    have z3 := frozen_blk V5.s.rb 3
    have z4 := frozen_blk V5.s.rb 4
    have z5 := frozen_blk V5.s.rb 5
    obtain ⟨s0, s1, s2, s3, s4, s5⟩ := blk6 S6.rb
    have t0 := frozen_blk S6.rb 0
    have t1 := frozen_blk S6.rb 1
    have t2 := frozen_blk S6.rb 2
    have t3 := frozen_blk S6.rb 3
    have t4 := frozen_blk S6.rb 4
    have t5 := frozen_blk S6.rb 5
    have HF := Lib.hid (QS.finC (n := n + 4) S6 ⟨q.kd, q.fd, q.ws ++ [⟨#[66, 97, 100]⟩], q.fr, q.tgt, q.ks⟩ (some ⟨g5, 0, none⟩) B c5 d hfin (.int .i64 q.kd) (.string q.fd) (.slice (some ⟨g5, 0, none⟩) (q.ws.length + 1) c5) (.int .i64 q.fr) (.int .i64 q.tgt) (.slice B q.ks.length d))
    have HSN : Hid (SmA ⟨q.kd, q.fd, q.ws ++ [⟨#[66, 97, 100]⟩], q.fr, q.tgt, q.ks⟩) := HSM.out.wsA _ (by decide)
    clear hfin S6 c6 V5 V4 V3 hv' hg' hbw h3
    go_wp2
    exact bodyPost_ret (v := .agg #[.int .i64 q.kd, .string q.fd, .slice (some ⟨g5, 0, none⟩) (q.ws ++ [(⟨#[66, 97, 100]⟩ : ByteArray)]).length c5, .int .i64 q.fr, .int .i64 q.tgt, .slice B q.ks.length d]) (by simp [results, Tryd.results37, go_sem, *]) rfl (queryA_mk ⟨q.kd, q.fd, q.ws ++ [⟨#[66, 97, 100]⟩], q.fr, q.tgt, q.ks⟩ (some ⟨g5, 0, none⟩) c5 B d HSN.out HF.out (by omega))
  have n2 : (v == 2) = false := by rw [beq_eq_false_iff_ne]; exact c2
  by_cases c3 : v = 3
  · subst c3
    have hlo := V3.lo
    have hlt := V3.lt
    obtain ⟨hvk, hvq, hvs, hvh⟩ := kids_heads (d := d) V3.k (by omega) HWC.out HNL.out
    have hvl : Hid (hvk.length = q.ks.length) := by show _ = _; rw [← hvq, List.length_map]
    have HVQ := Lib.hid hvq
    have HVH := Lib.hid hvh
    have hbl : Below w3.heap.size w3 ((w3.alloc (.cells #[.int .i64 q.kd, .string q.fd, .slice A q.ws.length q.ws.length, .int .i64 q.fr, .int .i64 q.tgt, .slice B q.ks.length d] 26)).alloc (.cells #[.int .i64 q.kd, .string q.fd, .slice A q.ws.length q.ws.length, .int .i64 q.fr, .int .i64 q.tgt, .slice B q.ks.length d] 26)) := ((Below.refl _ w3).alloc (Nat.le_refl _) _).alloc (by simp) _
    have hs5 : ((w3.alloc (.cells #[.int .i64 q.kd, .string q.fd, .slice A q.ws.length q.ws.length, .int .i64 q.fr, .int .i64 q.tgt, .slice B q.ks.length d] 26)).alloc (.cells #[.int .i64 q.kd, .string q.fd, .slice A q.ws.length q.ws.length, .int .i64 q.fr, .int .i64 q.tgt, .slice B q.ks.length d] 26)).heap.size = w3.heap.size + 2 := by simp
    have hb5 : ((w3.alloc (.cells #[.int .i64 q.kd, .string q.fd, .slice A q.ws.length q.ws.length, .int .i64 q.fr, .int .i64 q.tgt, .slice B q.ks.length d] 26)).alloc (.cells #[.int .i64 q.kd, .string q.fd, .slice A q.ws.length q.ws.length, .int .i64 q.fr, .int .i64 q.tgt, .slice B q.ks.length d] 26)).heap[w3.heap.size + 1]? = some (.cells #[.int .i64 q.kd, .string q.fd, .slice A q.ws.length q.ws.length, .int .i64 q.fr, .int .i64 q.tgt, .slice B q.ks.length d] 26 (0, 0)) := by
      have := alloc_new (w3.alloc (.cells #[.int .i64 q.kd, .string q.fd, .slice A q.ws.length q.ws.length, .int .i64 q.fr, .int .i64 q.tgt, .slice B q.ks.length d] 26)) (.cells #[.int .i64 q.kd, .string q.fd, .slice A q.ws.length q.ws.length, .int .i64 q.fr, .int .i64 q.tgt, .slice B q.ks.length d] 26)
      rwa [show (w3.alloc (.cells #[.int .i64 q.kd, .string q.fd, .slice A q.ws.length q.ws.length, .int .i64 q.fr, .int .i64 q.tgt, .slice B q.ks.length d] 26)).heap.size = w3.heap.size + 1 by simp] at this
    have hb4 : ((w3.alloc (.cells #[.int .i64 q.kd, .string q.fd, .slice A q.ws.length q.ws.length, .int .i64 q.fr, .int .i64 q.tgt, .slice B q.ks.length d] 26)).alloc (.cells #[.int .i64 q.kd, .string q.fd, .slice A q.ws.length q.ws.length, .int .i64 q.fr, .int .i64 q.tgt, .slice B q.ks.length d] 26)).heap[w3.heap.size]? = some (.cells #[.int .i64 q.kd, .string q.fd, .slice A q.ws.length q.ws.length, .int .i64 q.fr, .int .i64 q.tgt, .slice B q.ks.length d] 26 (0, 0)) := alloc_elder (alloc_new w3 _)
    have own5 : OwnE encYq 26 6 ((w3.alloc (.cells #[.int .i64 q.kd, .string q.fd, .slice A q.ws.length q.ws.length, .int .i64 q.fr, .int .i64 q.tgt, .slice B q.ks.length d] 26)).alloc (.cells #[.int .i64 q.kd, .string q.fd, .slice A q.ws.length q.ws.length, .int .i64 q.fr, .int .i64 q.tgt, .slice B q.ks.length d] 26)) (w3.heap.size + 1) (w3.heap.size + 1) 1 [(⟨q, A, q.ws.length, B, d⟩ : HdQy)] :=
      ⟨rfl, .inr ⟨_, 1, _, rfl, Nat.le_refl _, hb5, Nat.le_refl _, by unfold maxLen; omega, rfl, rfl⟩⟩
    have hvs5 : SrcE encYq 6 ((w3.alloc (.cells #[.int .i64 q.kd, .string q.fd, .slice A q.ws.length q.ws.length, .int .i64 q.fr, .int .i64 q.tgt, .slice B q.ks.length d] 26)).alloc (.cells #[.int .i64 q.kd, .string q.fd, .slice A q.ws.length q.ws.length, .int .i64 q.fr, .int .i64 q.tgt, .slice B q.ks.length d] 26)) B d hvk := hvs.below hbl
    have hwl2 := hwl.2
    obtain ⟨f0, f1, f2, f3, f4, f5⟩ := blk6 V3.cb
    obtain ⟨e0, e1, e2, e3, e4, e5⟩ := blk6 hb4
    obtain ⟨g0, g1, g2, g3, g4, g5⟩ := blk6 ((hbl.block qb hlt).trans V3.cb)
    obtain ⟨m0, m1, m2, m3, m4, m5⟩ := blk6 (alloc_new w3 (.cells #[.int .i64 q.kd, .string q.fd, .slice A q.ws.length q.ws.length, .int .i64 q.fr, .int .i64 q.tgt, .slice B q.ks.length d] 26))
    clear hvq hvh
    go_wp2_with (at_builtin; refine append_rec rowTQ encYq_ok (by decide) rfl _ _ rfl (w3.heap.size + 1) (w3.heap.size + 1) 1 [(⟨q, A, q.ws.length, B, d⟩ : HdQy)] rfl own5 B q.ks.length d hvk hvl.out.symm rfl hvs5 (by rw [hvl.out]; show 1 + _ ≤ _; omega) (by omega) (by omega) ?_)
    intro N hN g7 c7 w7 own7 hg7 hat7 hb7
    have hs7 := hb7.size
    have hb37 : Below w3.heap.size w3 w7 := hbl.trans (hb7.mono (by omega))
    have V7 := V3.grow hb37
    have hlt7 := V7.lt
    have c8 := heap_setCell_same w7 qb 5 _ _ (.slice (some ⟨g7, 0, none⟩) N.length c7) V7.cb
    have S8 := (V7.setQ 5 (.slice (some ⟨g7, 0, none⟩) N.length c7)).1
    have hNm : N.map (·.q) = q :: q.ks := by rw [hN.out, List.map_cons, HVQ.out]
    have HNL2 : Hid (N.length = q.ks.length + 1) := by show _ = _; rw [← List.length_cons (a := q), ← hNm, List.length_map]
    have hNp : 0 < N.length := by rw [HNL2.out]; omega
    have hfin : ∀ w', SameR (w.heap.size + 1) (w7.setCell ⟨qb, 5, none⟩ (.slice (some ⟨g7, 0, none⟩) N.length c7)).heap.size (w7.setCell ⟨qb, 5, none⟩ (.slice (some ⟨g7, 0, none⟩) N.length c7)) w' → HasQ (n + 4) w' ⟨q.kd, q.fd, q.ws, q.fr, q.tgt, q :: q.ks⟩ A q.ws.length (some ⟨g7, 0, none⟩) := fun w' hs => by
      have hss : w7.heap.size ≤ w'.heap.size := by have := hs.1; simpa using this
      have hat : ∀ k, w.heap.size + 1 ≤ k → k < w7.heap.size → k ≠ qb → w'.heap[k]? = w7.heap[k]? := fun k k1 k2 k3 => (hs.2 k k1 (by simpa using k2)).trans (heap_setCell_other w7 ⟨qb, 5, none⟩ k _ (by show k ≠ qb; omega))
      have hkq := V7.k w' ⟨by omega, fun k k1 k2 => hat k k1 (by omega) (by omega)⟩
      have hown := own_sameQ (w' := w') own7 (fun k k1 k2 => hat k (by omega) k2 (by omega))
      obtain ⟨b, off, e, hb, hc⟩ := (Rds.own hown).2 hNp
      simp only [Option.some.injEq, Addr.mk.injEq, and_true] at e
      obtain ⟨rfl, rfl⟩ := e
      refine ⟨hkq.1, ?_⟩
      show RdK (HasQ (n + 3)) w' _ (q :: q.ks)
      rw [← hNm]
      refine rdK_cellsY hb hc (fun m hm => ?_)
      rw [hN.out] at hm
      rcases List.mem_cons.1 hm with rfl | hm
      · exact hkq
      · exact (HVH.out w' ⟨by omega, fun k k1 k2 => (hat k k1 (by omega) (by omega)).trans (hb37.block k (by omega))⟩ m hm).succ
    obtain ⟨y0, y1, y2, y3, y4, y5⟩ := blk6 V7.cb
    have yz := frozen_blk V7.cb 5
    obtain ⟨x0, x1, x2, x3, x4, x5⟩ := blk6 c8
    obtain ⟨u0, u1, u2, u3, u4, u5⟩ := blk6 V7.s.rb
    have z0 := frozen_blk V7.s.rb 0
    have z1 := frozen_blk V7.s.rb 1
    have z2 := frozen_blk V7.s.rb 2
    have z3 := frozen_blk V7.s.rb 3
    have z4 := frozen_blk V7.s.rb 4
    have z5 := frozen_blk V7.s.rb 5
    obtain ⟨s0, s1, s2, s3, s4, s5⟩ := blk6 S8.rb
    have t0 := frozen_blk S8.rb 0
    have t1 := frozen_blk S8.rb 1
    have t2 := frozen_blk S8.rb 2
    have t3 := frozen_blk S8.rb 3
    have t4 := frozen_blk S8.rb 4
    have t5 := frozen_blk S8.rb 5
    have HF := Lib.hid (QS.finC (n := n + 4) S8 ⟨q.kd, q.fd, q.ws, q.fr, q.tgt, q :: q.ks⟩ A (some ⟨g7, 0, none⟩) q.ws.length c7 hfin (.int .i64 q.kd) (.string q.fd) (.slice A q.ws.length q.ws.length) (.int .i64 q.fr) (.int .i64 q.tgt) (.slice (some ⟨g7, 0, none⟩) N.length c7))
    have HSN : Hid (SmA ⟨q.kd, q.fd, q.ws, q.fr, q.tgt, q :: q.ks⟩) := HSM.out.kidA
    clear hfin S8 c8 V7 V3 own7 hg7 hat7 hb7 hb37 hbl own5 hvs5 hvs hNm hN HVQ HVH
    go_wp2
    exact bodyPost_ret (v := .agg #[.int .i64 q.kd, .string q.fd, .slice A q.ws.length q.ws.length, .int .i64 q.fr, .int .i64 q.tgt, .slice (some ⟨g7, 0, none⟩) (q :: q.ks).length c7]) (by simp [results, Tryd.results37, go_sem, HNL2.out, *]) rfl (queryA_mk ⟨q.kd, q.fd, q.ws, q.fr, q.tgt, q :: q.ks⟩ A q.ws.length (some ⟨g7, 0, none⟩) c7 HSN.out HF.out (by omega))
  have n3 : (v == 3) = false := by rw [beq_eq_false_iff_ne]; exact c3
  have hz3 := V3.lt
  obtain ⟨x0, x1, x2, x3, x4, x5⟩ := blk6 V3.cb
  obtain ⟨s0, s1, s2, s3, s4, s5⟩ := blk6 V3.s.rb
  have t0 := frozen_blk V3.s.rb 0
  have t1 := frozen_blk V3.s.rb 1
  have t2 := frozen_blk V3.s.rb 2
  have t3 := frozen_blk V3.s.rb 3
  have t4 := frozen_blk V3.s.rb 4
  have t5 := frozen_blk V3.s.rb 5
  have HF := Lib.hid (QS.finC (n := n + 4) V3.s q A B q.ws.length d (fun w' hs => (V3.k w' ⟨by have := hs.1; omega, fun k k1 k2 => hs.2 k k1 (by omega)⟩).succ) (.int .i64 q.kd) (.string q.fd) (.slice A q.ws.length q.ws.length) (.int .i64 q.fr) (.int .i64 q.tgt) (.slice B q.ks.length d))
  have HSN : Hid (SmA q) := HSM.out.up
  clear V3 
  go_wp2
  exact bodyPost_ret (v := .agg #[.int .i64 q.kd, .string q.fd, .slice A q.ws.length q.ws.length, .int .i64 q.fr, .int .i64 q.tgt, .slice B q.ks.length d]) (by simp [results, Tryd.results37, go_sem, *]) rfl (queryA_mk q A q.ws.length B d HSN.out HF.out (by omega))
end Go.Proofs.YtaobgliimbmemaaDoor
