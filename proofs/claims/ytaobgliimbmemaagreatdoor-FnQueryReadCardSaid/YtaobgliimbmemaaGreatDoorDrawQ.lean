/-
  What is drawn of questions: contract of l30Leaf: printed by mk_drawq.py.
-/
import Derived.Test.YtaobgliimbmemaaGreatDoorQdTo2
import Derived.Test.YtaobgliimbmemaaGreatDoorDrawText
namespace Go.Proofs.YtaobgliimbmemaaGreatDoor
open Go.RowKit Go.Sort
set_option linter.unusedVariables false
set_option linter.unusedSimpArgs false

/-- a question that is being made: the result's variable in block w.heap.size. -/
structure QS (w : World) (g : Nat) (wi : World) (p : Nat) : Prop where
  r : Rd wi g p
  o : Outer w.heap.size g w wi
  g0 : g < w.heap.size
  sz : w.heap.size < wi.heap.size
  rb : wi.heap[w.heap.size]? = some (.cells #[.int .i64 0, .string ⟨#[]⟩, .slice none 0 0, .int .i64 0, .int .i64 0, .slice none 0 0] 27 (0, 0))
section
variable {w wi wj : World} {g p p' : Nat}
theorem QS.gen (h : QS w g wi p) (r : Rd wj g p') (o : Outer wi.heap.size g wi wj) : QS w g wj p' :=
  ⟨r, h.o.trans (o.mono (by have := h.sz; omega)), h.g0, Nat.lt_of_lt_of_le h.sz o.2.1, (o.2.2 _ h.sz (by have := h.g0; omega)).trans h.rb⟩
theorem QS.grow (h : QS w g wi p) (o : Below wi.heap.size wi wj) : QS w g wj p := h.gen (h.r.below (o.mono (by have := h.r.lt; omega))) (Outer.of o)
theorem QS.start (w : World) (g p : Nat) (r : Rd w g p) : QS w g (w.alloc (.cells #[.int .i64 0, .string ⟨#[]⟩, .slice none 0 0, .int .i64 0, .int .i64 0, .slice none 0 0] 27)) p :=
  ⟨r.below ((Below.refl _ w).alloc (by have := r.lt; omega) _), Outer.of ((Below.refl _ w).alloc (Nat.le_refl _) _), r.lt, by simp, alloc_new w _⟩
theorem SameR.outer {lo g : Nat} {w w' : World} (h : Outer w.heap.size g w w') (hg : g < lo) : SameR lo w.heap.size w w' := ⟨h.2.1, fun k h1 h2 => h.2.2 k h2 (by omega)⟩
theorem rdQ_set {w : World} {g p b j : Nat} (h : Rd w g p) (hb : g < b) (u : Value) : Rd (w.setCell ⟨b, j, none⟩ u) g p := h.below ((Below.refl (g + 1) w).setCell (p := ⟨b, j, none⟩) (show g + 1 ≤ b by omega) u)
theorem QS.fin (h : QS w g wi p) {n : Nat} (q : QD) (A B : Option Addr) (d : Nat) (hk : ∀ w', SameR (w.heap.size + 1) wi.heap.size wi w' → HasQ n w' q A q.ws.length B) (u0 u1 u2 u3 u4 u5 : Value) :
    KeptQ n w ((((((wi.setCell ⟨w.heap.size, 0, none⟩ u0).setCell ⟨w.heap.size, 1, none⟩ u1).setCell ⟨w.heap.size, 2, none⟩ u2).setCell ⟨w.heap.size, 3, none⟩ u3).setCell ⟨w.heap.size, 4, none⟩ u4).setCell ⟨w.heap.size, 5, none⟩ u5) q A q.ws.length B ∧
    Rd ((((((wi.setCell ⟨w.heap.size, 0, none⟩ u0).setCell ⟨w.heap.size, 1, none⟩ u1).setCell ⟨w.heap.size, 2, none⟩ u2).setCell ⟨w.heap.size, 3, none⟩ u3).setCell ⟨w.heap.size, 4, none⟩ u4).setCell ⟨w.heap.size, 5, none⟩ u5) g p ∧
    Outer w.heap.size g w ((((((wi.setCell ⟨w.heap.size, 0, none⟩ u0).setCell ⟨w.heap.size, 1, none⟩ u1).setCell ⟨w.heap.size, 2, none⟩ u2).setCell ⟨w.heap.size, 3, none⟩ u3).setCell ⟨w.heap.size, 4, none⟩ u4).setCell ⟨w.heap.size, 5, none⟩ u5) ∧
    wi.heap.size ≤ ((((((wi.setCell ⟨w.heap.size, 0, none⟩ u0).setCell ⟨w.heap.size, 1, none⟩ u1).setCell ⟨w.heap.size, 2, none⟩ u2).setCell ⟨w.heap.size, 3, none⟩ u3).setCell ⟨w.heap.size, 4, none⟩ u4).setCell ⟨w.heap.size, 5, none⟩ u5).heap.size := by
  have hg := h.g0
  have hsz := h.sz
  refine ⟨fun w'' ho => hk w'' ?_, rdQ_set (rdQ_set (rdQ_set (rdQ_set (rdQ_set (rdQ_set h.r hg _) hg _) hg _) hg _) hg _) hg _, h.o.trans (Outer.of (((((((Below.refl _ wi).setCell (p := ⟨w.heap.size, 0, none⟩) (Nat.le_refl _) _).setCell (p := ⟨w.heap.size, 1, none⟩) (Nat.le_refl _) _).setCell (p := ⟨w.heap.size, 2, none⟩) (Nat.le_refl _) _).setCell (p := ⟨w.heap.size, 3, none⟩) (Nat.le_refl _) _).setCell (p := ⟨w.heap.size, 4, none⟩) (Nat.le_refl _) _).setCell (p := ⟨w.heap.size, 5, none⟩) (Nat.le_refl _) _)), by simp⟩
  have h1 : SameR (w.heap.size + 1) wi.heap.size wi ((((((wi.setCell ⟨w.heap.size, 0, none⟩ u0).setCell ⟨w.heap.size, 1, none⟩ u1).setCell ⟨w.heap.size, 2, none⟩ u2).setCell ⟨w.heap.size, 3, none⟩ u3).setCell ⟨w.heap.size, 4, none⟩ u4).setCell ⟨w.heap.size, 5, none⟩ u5) :=
    (((((SameR.set wi _ (by omega) (Nat.le_refl _)).set2 _ (by omega)).set2 _ (by omega)).set2 _ (by omega)).set2 _ (by omega)).set2 _ (by omega)
  exact h1.trans (ho.lo (by omega)) (by simp)
end
def NilOr (B : Option Addr) (d : Nat) : Prop := (B = none ∧ d = 0) ∨ ∃ b off, B = some ⟨b, off, none⟩
def SmQ (n : Nat) (q : QD) : Prop := ∀ k, LmQ 1000 k q ∧ WfQ k q
/-- what a call that draws a question hands back. -/
def QueryG (n : Nat) (w : World) (g p k : Nat) (e : Ending) (w' : World) : Prop := ∃ (q : QD) (A B : Option Addr) (d : Nat), (e = .returned (.agg #[.int .i64 q.kd, .string q.fd, .slice A q.ws.length q.ws.length, .int .i64 q.fr, .int .i64 q.tgt, .slice B q.ks.length d]) ∧ SmQ n q ∧ NilOr B d ∧ (q.ws = [] → A = none) ∧ (∀ b off, A = some ⟨b, off, none⟩ → w.heap.size ≤ b ∧ b < w'.heap.size) ∧ (∀ b off, B = some ⟨b, off, none⟩ → w.heap.size ≤ b ∧ b < w'.heap.size) ∧ KeptQ n w w' q A q.ws.length B) ∧ ∃ p', p' ≤ p + k ∧ Rd w' g p' ∧ Outer w.heap.size g w w'
theorem queryG_mk {n : Nat} {w w' wi : World} {g p p' k : Nat} (q : QD) (A B : Option Addr) (d : Nat) (hs : SmQ n q) (hn : NilOr B d) (ha : q.ws = [] → A = none) (hb : ∀ b off, A = some ⟨b, off, none⟩ → w.heap.size ≤ b ∧ b < wi.heap.size) (hb2 : ∀ b off, B = some ⟨b, off, none⟩ → w.heap.size ≤ b ∧ b < wi.heap.size)
    (hf : KeptQ n w w' q A q.ws.length B ∧ Rd w' g p' ∧ Outer w.heap.size g w w' ∧ wi.heap.size ≤ w'.heap.size) (hp : p' ≤ p + k) :
    QueryG n w g p k (.returned (.agg #[.int .i64 q.kd, .string q.fd, .slice A q.ws.length q.ws.length, .int .i64 q.fr, .int .i64 q.tgt, .slice B q.ks.length d])) w' :=
  ⟨q, A, B, d, ⟨rfl, hs, hn, ha, fun b off e => ⟨(hb b off e).1, Nat.lt_of_lt_of_le (hb b off e).2 hf.2.2.2⟩, fun b off e => ⟨(hb2 b off e).1, Nat.lt_of_lt_of_le (hb2 b off e).2 hf.2.2.2⟩, hf.1⟩, p', hp, hf.2.1, hf.2.2.1⟩
theorem flatW (L : List ByteArray) : L.flatMap encT = L.map Value.string := by induction L with | nil => rfl | cons x r ih => rw [List.flatMap_cons, ih]; rfl
theorem srcQ_blk {w : World} {b : Nat} {L : List ByteArray} (h : w.heap[b]? = some (.cells (L.map Value.string).toArray 9 (0, 0))) (hl : L.length ≤ 1000) : SrcQ w (some ⟨b, 0, none⟩) L.length L := by
  refine ⟨SrcE.blk (E := 9) encT_ok h ?_, Nat.le_refl _, by unfold maxLen; omega⟩
  exact (flatW L).symm
theorem known_any (w : World) : Calls Tryz.prog 39 #[] w fun e w' => e = .returned (.slice (some ⟨w.heap.size, 0, none⟩) 13 13) ∧ w' = w.alloc (.cells #[.string ⟨#[99, 97, 116]⟩, .string ⟨#[99, 97, 116, 115]⟩, .string ⟨#[100, 111, 103]⟩, .string ⟨#[100, 111, 103, 115]⟩, .string ⟨#[114, 117, 110]⟩, .string ⟨#[114, 117, 110, 110, 105, 110, 103]⟩, .string ⟨#[116, 104, 101]⟩, .string ⟨#[114, 101, 100]⟩, .string ⟨#[98, 105, 103]⟩, .string ⟨#[110, 101, 119]⟩, .string ⟨#[121, 111, 114, 107]⟩, .string ⟨#[110, 121]⟩, .string ⟨#[102, 111, 120]⟩] 9) := by
  go_enter Tryz.func39, Tryz.ntmps39
  go_wp2
  go_ret
  exact ⟨rfl, rfl⟩
theorem rdK_nil {H : HQ} {w : World} {B : Option Addr} : RdK H w B [] := fun k hk => absurd hk (by simp)
theorem has_leaf {n : Nat} {w : World} {kd fr tq : Int} {fd : ByteArray} {A B : Option Addr} {L : List ByteArray} (h : SrcQ w A L.length L) : HasQ (n + 1) w ⟨kd, fd, L, fr, tq, []⟩ A L.length B := ⟨h, rdK_nil⟩
theorem srcQ_nil (w : World) : SrcQ w none 0 [] := ⟨⟨⟨rfl, fun h => absurd h (by simp)⟩, .inl ⟨rfl, rfl⟩⟩, Nat.le_refl _, Nat.zero_le _⟩
theorem sm_leaf {n : Nat} {kd fr tq : Int} {fd : ByteArray} {L : List ByteArray} (h1 : fd.size ≤ 1000) (h2 : L.length ≤ 1000) (h3 : ∀ s ∈ L, s.size ≤ 1000) (h4 : 0 ≤ kd) (h5 : kd ≤ 100) : SmQ (n + 1) ⟨kd, fd, L, fr, tq, []⟩
  | 0 => ⟨trivial, trivial⟩
  | k + 1 => ⟨⟨h1, h2, h3, by simp, fun k hk => by simp at hk⟩, show (Lit.int .i64 kd).wf = true from Go.WalkArith.wf_i64 ⟨by omega, by omega⟩, fun k hk => by simp at hk⟩
set_option maxRecDepth 8000 in
set_option maxHeartbeats 3200000 in
theorem l30Leaf_gen (n g p : Nat) (w : World) (hr : Rd w g p) (hp : p + 20 < 1000000) :
    Calls Tryz.prog 23 #[.pointer (some ⟨g, 0, none⟩)] w (QueryG (n + 1) w g p 10) := by
  have S0 := QS.start w g p hr
  have hgl := hr.lt
  go_enter Tryz.func23, Tryz.ntmps23
  go_wp2_with fail
  have hq0 : (w.alloc (.cells #[.int .i64 0, .string ⟨#[]⟩, .slice none 0 0, .int .i64 0, .int .i64 0, .slice none 0 0] 27)).heap.size = w.heap.size + 1 := by simp
  generalize (w.alloc (.cells #[.int .i64 0, .string ⟨#[]⟩, .slice none 0 0, .int .i64 0, .int .i64 0, .slice none 0 0] 27)) = W0 at S0 hq0 ⊢
  have hst := strs_of W0 #[.string ⟨#[98, 111, 100, 121]⟩, .string ⟨#[98, 111, 100, 121]⟩, .string ⟨#[116, 105, 116, 108, 101]⟩] 9 3 rfl (by kernel_rfl)
  rw [hq0] at hst
  refine (of_gen g p (w.heap.size + 1) 3 _ ((S0.grow (by (repeat' (first | exact Below.refl _ _ | apply Below.alloc | apply Below.setCell | apply Below.drew | apply below_draws)) <;> (first | omega | (simp <;> omega)))).r) (by omega) (by omega) (by omega) (by omega) hst).mono ?_
  rintro e w1 ⟨f, ⟨rfl, hf⟩, p1, hp1, r1, o1⟩
  have S1 := (S0.grow (wj := (W0.alloc (.cells #[.string ⟨#[98, 111, 100, 121]⟩, .string ⟨#[98, 111, 100, 121]⟩, .string ⟨#[116, 105, 116, 108, 101]⟩] 9))) (by (repeat' (first | exact Below.refl _ _ | apply Below.alloc | apply Below.setCell | apply Below.drew | apply below_draws)) <;> (first | omega | (simp <;> omega)))).gen r1 o1
  clear S0 o1 r1 hq0 hst
  go_wp2_with fail
  refine (pick_gen g p1 9 (by omega) (by omega) _ S1.r (by omega)).mono ?_
  rintro e w2 ⟨v, ⟨rfl, hv1, hv2⟩, p2, hp2, r2, o2⟩
  have S2 := S1.gen r2 o2
  clear S1 o2 r2
  have q2 := S2.sz
  by_cases c0 : v = 0
  · subst c0
    obtain ⟨s0, s1, s2, s3, s4, s5⟩ := blk6 S2.rb
    have t0 := frozen_blk S2.rb 0
    have t1 := frozen_blk S2.rb 1
    have t2 := frozen_blk S2.rb 2
    have t3 := frozen_blk S2.rb 3
    have t4 := frozen_blk S2.rb 4
    have t5 := frozen_blk S2.rb 5
    have HF := Lib.hid (QS.fin (n := n + 1) S2 ⟨1, ⟨#[]⟩, [], 0, 0, []⟩ none none 0 (fun w' _ => has_leaf (srcQ_nil w')) (.int .i64 1) (.string ⟨#[]⟩) (.slice none 0 0) (.int .i64 0) (.int .i64 0) (.slice none 0 0))
    have HQS := Lib.hid S2.sz
    clear S2
    go_wp2
    exact bodyPost_ret (v := .agg #[.int .i64 1, .string ⟨#[]⟩, .slice none 0 0, .int .i64 0, .int .i64 0, .slice none 0 0]) (by simp [results, Tryz.results23, go_sem, *]) rfl (queryG_mk (wi := w2) ⟨1, ⟨#[]⟩, [], 0, 0, []⟩ none none 0 (sm_leaf (by show _ ≤ 1000; decide) (by show _ ≤ 1000; simp) (fun s hs => by simp at hs; done) (by show (0 : Int) ≤ _; omega) (by show _ ≤ (100 : Int); omega)) (.inl ⟨rfl, rfl⟩) (fun _ => rfl) (fun b off e => by cases e) (fun b off e => by cases e) HF.out (by omega))
  have n0 : (v == 0) = false := by rw [beq_eq_false_iff_ne]; exact c0
  by_cases c1 : v = 1
  · subst c1
    go_wp2_with fail
    refine (known_any _).mono ?_
    rintro e w3 ⟨rfl, rfl⟩
    have S3 := (S2.grow (wj := (w2.alloc (.cells #[.string ⟨#[99, 97, 116]⟩, .string ⟨#[99, 97, 116, 115]⟩, .string ⟨#[100, 111, 103]⟩, .string ⟨#[100, 111, 103, 115]⟩, .string ⟨#[114, 117, 110]⟩, .string ⟨#[114, 117, 110, 110, 105, 110, 103]⟩, .string ⟨#[116, 104, 101]⟩, .string ⟨#[114, 101, 100]⟩, .string ⟨#[98, 105, 103]⟩, .string ⟨#[110, 101, 119]⟩, .string ⟨#[121, 111, 114, 107]⟩, .string ⟨#[110, 121]⟩, .string ⟨#[102, 111, 120]⟩] 9))) (by (repeat' (first | exact Below.refl _ _ | apply Below.alloc | apply Below.setCell | apply Below.drew | apply below_draws)) <;> (first | omega | (simp <;> omega))))
    go_wp2_with fail
    refine (of_gen g p2 w2.heap.size 13 _ S3.r (by omega) (by omega) (by omega) (by omega) (by refine strs_of _ _ _ _ ?_ ?_; (rfl); (kernel_rfl))).mono ?_
    rintro e w4 ⟨x, ⟨rfl, hx⟩, p4, hp4, r4, o4⟩
    have S4 := S3.gen r4 o4
    clear S3 o4 r4 S2
    have q4 := S4.sz
    go_wp2_with fail
    refine (known_any _).mono ?_
    rintro e w5 ⟨rfl, rfl⟩
    have S5 := (S4.grow (wj := (w4.alloc (.cells #[.string ⟨#[99, 97, 116]⟩, .string ⟨#[99, 97, 116, 115]⟩, .string ⟨#[100, 111, 103]⟩, .string ⟨#[100, 111, 103, 115]⟩, .string ⟨#[114, 117, 110]⟩, .string ⟨#[114, 117, 110, 110, 105, 110, 103]⟩, .string ⟨#[116, 104, 101]⟩, .string ⟨#[114, 101, 100]⟩, .string ⟨#[98, 105, 103]⟩, .string ⟨#[110, 101, 119]⟩, .string ⟨#[121, 111, 114, 107]⟩, .string ⟨#[110, 121]⟩, .string ⟨#[102, 111, 120]⟩] 9))) (by (repeat' (first | exact Below.refl _ _ | apply Below.alloc | apply Below.setCell | apply Below.drew | apply below_draws)) <;> (first | omega | (simp <;> omega))))
    go_wp2_with fail
    refine (of_gen g p4 w4.heap.size 13 _ S5.r (by omega) (by omega) (by omega) (by omega) (by refine strs_of _ _ _ _ ?_ ?_; (rfl); (kernel_rfl))).mono ?_
    rintro e w6 ⟨y, ⟨rfl, hy⟩, p6, hp6, r6, o6⟩
    have S6 := S5.gen r6 o6
    clear S5 o6 r6 S4
    have q6 := S6.sz
    have wb := alloc_new w6 (.cells #[.string x, .string y] 9)
    have S7 := (S6.grow (wj := (w6.alloc (.cells #[.string x, .string y] 9))) (by (repeat' (first | exact Below.refl _ _ | apply Below.alloc | apply Below.setCell | apply Below.drew | apply below_draws)) <;> (first | omega | (simp <;> omega))))
    have q7 : w6.heap.size < (w6.alloc (.cells #[.string x, .string y] 9)).heap.size := by simp
    go_wp2_with fail
    generalize (w6.alloc (.cells #[.string x, .string y] 9)) = W7 at wb S7 q7 ⊢
    refine (pick_gen g p6 3 (by omega) (by omega) _ S7.r (by omega)).mono ?_
    rintro e w8 ⟨m, ⟨rfl, hm1, hm2⟩, p8, hp8, r8, o8⟩
    have S8 := S7.gen r8 o8
    replace wb := (o8.2.2 w6.heap.size q7 (by omega)).trans wb
    have q8 : w6.heap.size < w8.heap.size := Nat.lt_of_lt_of_le q7 o8.2.1
    clear S7 r8 o8 S6 q7
    generalize w6.heap.size = b6 at wb q8 q6 ⊢
    obtain ⟨s0, s1, s2, s3, s4, s5⟩ := blk6 S8.rb
    have t0 := frozen_blk S8.rb 0
    have t1 := frozen_blk S8.rb 1
    have t2 := frozen_blk S8.rb 2
    have t3 := frozen_blk S8.rb 3
    have t4 := frozen_blk S8.rb 4
    have t5 := frozen_blk S8.rb 5
    have HF := Lib.hid (QS.fin (n := n + 1) S8 ⟨3, f, [x, y], m, 0, []⟩ (some ⟨b6, 0, none⟩) none 0 (fun w' hs => has_leaf (srcQ_blk (L := [x, y]) ((hs.2 b6 (by omega) q8).trans wb) (by simp))) (.int .i64 3) (.string f) (.slice (some ⟨b6, 0, none⟩) 2 2) (.int .i64 m) (.int .i64 0) (.slice none 0 0))
    have HQS := Lib.hid S8.sz
    clear S8
    go_wp2
    exact bodyPost_ret (v := .agg #[.int .i64 3, .string f, .slice (some ⟨b6, 0, none⟩) 2 2, .int .i64 m, .int .i64 0, .slice none 0 0]) (by simp [results, Tryz.results23, go_sem, *]) rfl (queryG_mk (wi := w8) ⟨3, f, [x, y], m, 0, []⟩ (some ⟨b6, 0, none⟩) none 0 (sm_leaf (by show _ ≤ 1000; omega) (by show _ ≤ 1000; simp) (fun s hs => by simp at hs; rcases hs with rfl | rfl <;> omega) (by show (0 : Int) ≤ _; omega) (by show _ ≤ (100 : Int); omega)) (.inl ⟨rfl, rfl⟩) (fun h => by simp at h) (fun b off e => by simp only [Option.some.injEq, Addr.mk.injEq] at e; have := e.1; have := HQS.out; omega) (fun b off e => by cases e) HF.out (by omega))
  have n1 : (v == 1) = false := by rw [beq_eq_false_iff_ne]; exact c1
  by_cases c2 : v = 2
  · subst c2
    have S3 := (S2.grow (wj := (w2.alloc (.cells #[.string ⟨#[99, 111, 116]⟩, .string ⟨#[100, 117, 103]⟩, .string ⟨#[114, 110]⟩, .string ⟨#[102, 111, 103]⟩] 9))) (by (repeat' (first | exact Below.refl _ _ | apply Below.alloc | apply Below.setCell | apply Below.drew | apply below_draws)) <;> (first | omega | (simp <;> omega))))
    go_wp2_with fail
    refine (of_gen g p2 w2.heap.size 4 _ S3.r (by omega) (by omega) (by omega) (by omega) (by refine strs_of _ _ _ _ ?_ ?_; (rfl); (kernel_rfl))).mono ?_
    rintro e w4 ⟨x, ⟨rfl, hx⟩, p4, hp4, r4, o4⟩
    have S4 := S3.gen r4 o4
    clear S3 o4 r4 S2
    have q4 := S4.sz
    have wb := alloc_new w4 (.cells #[.string x] 9)
    have S5 := (S4.grow (wj := (w4.alloc (.cells #[.string x] 9))) (by (repeat' (first | exact Below.refl _ _ | apply Below.alloc | apply Below.setCell | apply Below.drew | apply below_draws)) <;> (first | omega | (simp <;> omega))))
    have q5 : w4.heap.size < (w4.alloc (.cells #[.string x] 9)).heap.size := by simp
    go_wp2_with fail
    generalize (w4.alloc (.cells #[.string x] 9)) = W5 at wb S5 q5 ⊢
    refine (pick_gen g p4 2 (by omega) (by omega) _ S5.r (by omega)).mono ?_
    rintro e w8 ⟨m, ⟨rfl, hm1, hm2⟩, p8, hp8, r8, o8⟩
    have S8 := S5.gen r8 o8
    replace wb := (o8.2.2 w4.heap.size q5 (by omega)).trans wb
    have q8 : w4.heap.size < w8.heap.size := Nat.lt_of_lt_of_le q5 o8.2.1
    have hmw : IntKind.i64.wrap (1 + m) = 1 + m := by rw [IntKind.wrap_i64] <;> omega
    clear S5 r8 o8 S4 q5
    generalize w4.heap.size = b6 at wb q8 q4 ⊢
    obtain ⟨s0, s1, s2, s3, s4, s5⟩ := blk6 S8.rb
    have t0 := frozen_blk S8.rb 0
    have t1 := frozen_blk S8.rb 1
    have t2 := frozen_blk S8.rb 2
    have t3 := frozen_blk S8.rb 3
    have t4 := frozen_blk S8.rb 4
    have t5 := frozen_blk S8.rb 5
    have HF := Lib.hid (QS.fin (n := n + 1) S8 ⟨4, f, [x], 1 + m, 0, []⟩ (some ⟨b6, 0, none⟩) none 0 (fun w' hs => has_leaf (srcQ_blk (L := [x]) ((hs.2 b6 (by omega) q8).trans wb) (by simp))) (.int .i64 4) (.string f) (.slice (some ⟨b6, 0, none⟩) 1 1) (.int .i64 (1 + m)) (.int .i64 0) (.slice none 0 0))
    have HQS := Lib.hid S8.sz
    clear S8
    go_wp2
    exact bodyPost_ret (v := .agg #[.int .i64 4, .string f, .slice (some ⟨b6, 0, none⟩) 1 1, .int .i64 (1 + m), .int .i64 0, .slice none 0 0]) (by simp [results, Tryz.results23, go_sem, *]) rfl (queryG_mk (wi := w8) ⟨4, f, [x], 1 + m, 0, []⟩ (some ⟨b6, 0, none⟩) none 0 (sm_leaf (by show _ ≤ 1000; omega) (by show _ ≤ 1000; simp) (fun s hs => by simp at hs; subst hs; omega) (by show (0 : Int) ≤ _; omega) (by show _ ≤ (100 : Int); omega)) (.inl ⟨rfl, rfl⟩) (fun h => by simp at h) (fun b off e => by simp only [Option.some.injEq, Addr.mk.injEq] at e; have := e.1; have := HQS.out; omega) (fun b off e => by cases e) HF.out (by omega))
  have n2 : (v == 2) = false := by rw [beq_eq_false_iff_ne]; exact c2
  by_cases c3 : v = 3
  · subst c3
    have S3 := (S2.grow (wj := (w2.alloc (.cells #[.string ⟨#[99, 42]⟩, .string ⟨#[63, 111, 63]⟩, .string ⟨#[42, 110]⟩, .string ⟨#[42]⟩] 9))) (by (repeat' (first | exact Below.refl _ _ | apply Below.alloc | apply Below.setCell | apply Below.drew | apply below_draws)) <;> (first | omega | (simp <;> omega))))
    go_wp2_with fail
    refine (of_gen g p2 w2.heap.size 4 _ S3.r (by omega) (by omega) (by omega) (by omega) (by refine strs_of _ _ _ _ ?_ ?_; (rfl); (kernel_rfl))).mono ?_
    rintro e w4 ⟨x, ⟨rfl, hx⟩, p4, hp4, r4, o4⟩
    have S4 := S3.gen r4 o4
    clear S3 o4 r4 S2
    have q4 := S4.sz
    have wb := alloc_new w4 (.cells #[.string x] 9)
    have S5 := (S4.grow (wj := (w4.alloc (.cells #[.string x] 9))) (by (repeat' (first | exact Below.refl _ _ | apply Below.alloc | apply Below.setCell | apply Below.drew | apply below_draws)) <;> (first | omega | (simp <;> omega))))
    have q5 : w4.heap.size < (w4.alloc (.cells #[.string x] 9)).heap.size := by simp
    obtain ⟨s0, s1, s2, s3, s4, s5⟩ := blk6 S5.rb
    have t0 := frozen_blk S5.rb 0
    have t1 := frozen_blk S5.rb 1
    have t2 := frozen_blk S5.rb 2
    have t3 := frozen_blk S5.rb 3
    have t4 := frozen_blk S5.rb 4
    have t5 := frozen_blk S5.rb 5
    obtain ⟨v0, v1, v2, v3, v4, v5⟩ := blk6 S4.rb
    have y0 := frozen_blk S4.rb 0
    have y1 := frozen_blk S4.rb 1
    have y2 := frozen_blk S4.rb 2
    have y3 := frozen_blk S4.rb 3
    have y4 := frozen_blk S4.rb 4
    have y5 := frozen_blk S4.rb 5
    have HF := Lib.hid (QS.fin (n := n + 1) S5 ⟨5, f, [x], 0, 0, []⟩ (some ⟨w4.heap.size, 0, none⟩) none 0 (fun w' hs => has_leaf (srcQ_blk (L := [x]) ((hs.2 w4.heap.size (by omega) q5).trans wb) (by simp))) (.int .i64 5) (.string f) (.slice (some ⟨w4.heap.size, 0, none⟩) 1 1) (.int .i64 0) (.int .i64 0) (.slice none 0 0))
    have hF := HF.out
    rw [World.setCell_alloc_past (hn := q4), World.setCell_alloc_past (hn := by simpa using q4), World.setCell_alloc_past (hn := by simpa using q4), World.setCell_alloc_past (hn := by simpa using q4), World.setCell_alloc_past (hn := by simpa using q4), World.setCell_alloc_past (hn := by simpa using q4)] at hF
    replace HF := Lib.hid hF
    clear hF
    have HQS := Lib.hid S5.sz
    clear S5
    go_wp2
    exact bodyPost_ret (v := .agg #[.int .i64 5, .string f, .slice (some ⟨w4.heap.size, 0, none⟩) 1 1, .int .i64 0, .int .i64 0, .slice none 0 0]) (by simp [results, Tryz.results23, go_sem, *]) rfl (queryG_mk (wi := (w4.alloc (.cells #[.string x] 9))) ⟨5, f, [x], 0, 0, []⟩ (some ⟨w4.heap.size, 0, none⟩) none 0 (sm_leaf (by show _ ≤ 1000; omega) (by show _ ≤ 1000; simp) (fun s hs => by simp at hs; subst hs; omega) (by show (0 : Int) ≤ _; omega) (by show _ ≤ (100 : Int); omega)) (.inl ⟨rfl, rfl⟩) (fun h => by simp at h) (fun b off e => by simp only [Option.some.injEq, Addr.mk.injEq] at e; have := e.1; have := HQS.out; omega) (fun b off e => by cases e) HF.out (by omega))
  have n3 : (v == 3) = false := by rw [beq_eq_false_iff_ne]; exact c3
  by_cases c4 : v = 4
  · subst c4
    go_wp2_with fail
    refine (pick_gen g p2 4 (by omega) (by omega) _ S2.r (by omega)).mono ?_
    rintro e w3 ⟨k, ⟨rfl, hk1, hk2⟩, p3, hp3, r3, o3⟩
    have S3 := S2.gen r3 o3
    clear o3 r3 S2
    go_wp2_with fail
    refine (pick_gen g p3 3 (by omega) (by omega) _ S3.r (by omega)).mono ?_
    rintro e w4 ⟨m, ⟨rfl, hm1, hm2⟩, p4, hp4, r4, o4⟩
    have S4 := S3.gen r4 o4
    clear o4 r4 S3
    have hmw : IntKind.i64.wrap (k + m) = k + m := by rw [IntKind.wrap_i64] <;> omega
    obtain ⟨s0, s1, s2, s3, s4, s5⟩ := blk6 S4.rb
    have t0 := frozen_blk S4.rb 0
    have t1 := frozen_blk S4.rb 1
    have t2 := frozen_blk S4.rb 2
    have t3 := frozen_blk S4.rb 3
    have t4 := frozen_blk S4.rb 4
    have t5 := frozen_blk S4.rb 5
    have HF := Lib.hid (QS.fin (n := n + 1) S4 ⟨6, ⟨#[114, 97, 116, 101]⟩, [], k, k + m, []⟩ none none 0 (fun w' _ => has_leaf (srcQ_nil w')) (.int .i64 6) (.string ⟨#[114, 97, 116, 101]⟩) (.slice none 0 0) (.int .i64 k) (.int .i64 (k + m)) (.slice none 0 0))
    have HQS := Lib.hid S4.sz
    clear S4
    go_wp2
    exact bodyPost_ret (v := .agg #[.int .i64 6, .string ⟨#[114, 97, 116, 101]⟩, .slice none 0 0, .int .i64 k, .int .i64 (k + m), .slice none 0 0]) (by simp [results, Tryz.results23, go_sem, *]) rfl (queryG_mk (wi := w4) ⟨6, ⟨#[114, 97, 116, 101]⟩, [], k, k + m, []⟩ none none 0 (sm_leaf (by show _ ≤ 1000; decide) (by show _ ≤ 1000; simp) (fun s hs => by simp at hs; done) (by show (0 : Int) ≤ _; omega) (by show _ ≤ (100 : Int); omega)) (.inl ⟨rfl, rfl⟩) (fun _ => rfl) (fun b off e => by cases e) (fun b off e => by cases e) HF.out (by omega))
  have n4 : (v == 4) = false := by rw [beq_eq_false_iff_ne]; exact c4
  · skip
    go_wp2_with fail
    refine (known_any _).mono ?_
    rintro e w3 ⟨rfl, rfl⟩
    have S3 := (S2.grow (wj := (w2.alloc (.cells #[.string ⟨#[99, 97, 116]⟩, .string ⟨#[99, 97, 116, 115]⟩, .string ⟨#[100, 111, 103]⟩, .string ⟨#[100, 111, 103, 115]⟩, .string ⟨#[114, 117, 110]⟩, .string ⟨#[114, 117, 110, 110, 105, 110, 103]⟩, .string ⟨#[116, 104, 101]⟩, .string ⟨#[114, 101, 100]⟩, .string ⟨#[98, 105, 103]⟩, .string ⟨#[110, 101, 119]⟩, .string ⟨#[121, 111, 114, 107]⟩, .string ⟨#[110, 121]⟩, .string ⟨#[102, 111, 120]⟩] 9))) (by (repeat' (first | exact Below.refl _ _ | apply Below.alloc | apply Below.setCell | apply Below.drew | apply below_draws)) <;> (first | omega | (simp <;> omega))))
    go_wp2_with fail
    refine (of_gen g p2 w2.heap.size 13 _ S3.r (by omega) (by omega) (by omega) (by omega) (by refine strs_of _ _ _ _ ?_ ?_; (rfl); (kernel_rfl))).mono ?_
    rintro e w4 ⟨x, ⟨rfl, hx⟩, p4, hp4, r4, o4⟩
    have S4 := S3.gen r4 o4
    clear S3 o4 r4 S2
    have q4 := S4.sz
    have wb := alloc_new w4 (.cells #[.string x] 9)
    have S5 := (S4.grow (wj := (w4.alloc (.cells #[.string x] 9))) (by (repeat' (first | exact Below.refl _ _ | apply Below.alloc | apply Below.setCell | apply Below.drew | apply below_draws)) <;> (first | omega | (simp <;> omega))))
    have q5 : w4.heap.size < (w4.alloc (.cells #[.string x] 9)).heap.size := by simp
    obtain ⟨s0, s1, s2, s3, s4, s5⟩ := blk6 S5.rb
    have t0 := frozen_blk S5.rb 0
    have t1 := frozen_blk S5.rb 1
    have t2 := frozen_blk S5.rb 2
    have t3 := frozen_blk S5.rb 3
    have t4 := frozen_blk S5.rb 4
    have t5 := frozen_blk S5.rb 5
    obtain ⟨v0, v1, v2, v3, v4, v5⟩ := blk6 S4.rb
    have y0 := frozen_blk S4.rb 0
    have y1 := frozen_blk S4.rb 1
    have y2 := frozen_blk S4.rb 2
    have y3 := frozen_blk S4.rb 3
    have y4 := frozen_blk S4.rb 4
    have y5 := frozen_blk S4.rb 5
    have HF := Lib.hid (QS.fin (n := n + 1) S5 ⟨2, f, [x], 0, 0, []⟩ (some ⟨w4.heap.size, 0, none⟩) none 0 (fun w' hs => has_leaf (srcQ_blk (L := [x]) ((hs.2 w4.heap.size (by omega) q5).trans wb) (by simp))) (.int .i64 2) (.string f) (.slice (some ⟨w4.heap.size, 0, none⟩) 1 1) (.int .i64 0) (.int .i64 0) (.slice none 0 0))
    have hF := HF.out
    rw [World.setCell_alloc_past (hn := q4), World.setCell_alloc_past (hn := by simpa using q4), World.setCell_alloc_past (hn := by simpa using q4), World.setCell_alloc_past (hn := by simpa using q4), World.setCell_alloc_past (hn := by simpa using q4), World.setCell_alloc_past (hn := by simpa using q4)] at hF
    replace HF := Lib.hid hF
    clear hF
    have HQS := Lib.hid S5.sz
    clear S5
    go_wp2
    exact bodyPost_ret (v := .agg #[.int .i64 2, .string f, .slice (some ⟨w4.heap.size, 0, none⟩) 1 1, .int .i64 0, .int .i64 0, .slice none 0 0]) (by simp [results, Tryz.results23, go_sem, *]) rfl (queryG_mk (wi := (w4.alloc (.cells #[.string x] 9))) ⟨2, f, [x], 0, 0, []⟩ (some ⟨w4.heap.size, 0, none⟩) none 0 (sm_leaf (by show _ ≤ 1000; omega) (by show _ ≤ 1000; simp) (fun s hs => by simp at hs; subst hs; omega) (by show (0 : Int) ≤ _; omega) (by show _ ≤ (100 : Int); omega)) (.inl ⟨rfl, rfl⟩) (fun h => by simp at h) (fun b off e => by simp only [Option.some.injEq, Addr.mk.injEq] at e; have := e.1; have := HQS.out; omega) (fun b off e => by cases e) HF.out (by omega))
end Go.Proofs.YtaobgliimbmemaaGreatDoor
