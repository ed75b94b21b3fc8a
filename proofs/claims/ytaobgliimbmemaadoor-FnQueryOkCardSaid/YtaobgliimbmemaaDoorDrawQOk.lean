/-
  What is drawn for FnQueryOk and FnQueryPut; plain facts of what is ok.
-/
import Derived.Test.YtaobgliimbmemaaDoorDrawQ3
import Derived.Test.YtaobgliimbmemaaDoorSpecQ2
namespace Go.Proofs.YtaobgliimbmemaaDoor
open Go.RowKit Go.Sort
set_option linter.unusedVariables false
set_option linter.unusedSimpArgs false

def DrawnQ (w : World) (e : Ending) (w' : World) : Prop := ∃ (q : QD) (A : Option Addr) (c : Nat) (B : Option Addr) (d : Nat), (e = .returned (.agg #[.int .i64 q.kd, .string q.fd, .slice A q.ws.length c, .int .i64 q.fr, .int .i64 q.tgt, .slice B q.ks.length d]) ∧ SmA q ∧ KeptQ 4 w w' q A c B) ∧ Below w.heap.size w w'
theorem drawnQ_mk {w w' : World} (q : QD) (A : Option Addr) (c : Nat) (B : Option Addr) (d : Nat) (hs : SmA q) (hf : KeptQ 4 w w' q A c B ∧ Below w.heap.size w w') :
    DrawnQ w (.returned (.agg #[.int .i64 q.kd, .string q.fd, .slice A q.ws.length c, .int .i64 q.fr, .int .i64 q.tgt, .slice B q.ks.length d])) w' := ⟨q, A, c, B, d, ⟨rfl, hs, hf.1⟩, hf.2⟩
/-- a question that was drawn, stored in the result's variable. -/
theorem drawn_fin {w w1 w2 : World} {g n : Nat} {q : QD} {A B : Option Addr} {c : Nat} (hB1 : Below w.heap.size w w1) (h1 : w.heap.size < w1.heap.size) (hg : w.heap.size < g) (o2 : Outer w1.heap.size g w1 w2) (hk : KeptQ n w1 w2 q A c B) (u0 u1 u2 u3 u4 u5 : Value) :
    KeptQ n w ((((((w2.setCell ⟨w.heap.size, 0, none⟩ u0).setCell ⟨w.heap.size, 1, none⟩ u1).setCell ⟨w.heap.size, 2, none⟩ u2).setCell ⟨w.heap.size, 3, none⟩ u3).setCell ⟨w.heap.size, 4, none⟩ u4).setCell ⟨w.heap.size, 5, none⟩ u5) q A c B ∧
    Below w.heap.size w ((((((w2.setCell ⟨w.heap.size, 0, none⟩ u0).setCell ⟨w.heap.size, 1, none⟩ u1).setCell ⟨w.heap.size, 2, none⟩ u2).setCell ⟨w.heap.size, 3, none⟩ u3).setCell ⟨w.heap.size, 4, none⟩ u4).setCell ⟨w.heap.size, 5, none⟩ u5) := by
  have h2 := o2.2.1
  have hB2 : Below w.heap.size w w2 := hB1.trans (o2.under (by omega) (by omega))
  refine ⟨fun w'' ho => hk w'' ?_, (((((hB2.setCell (p := ⟨w.heap.size, 0, none⟩) (Nat.le_refl _) _).setCell (p := ⟨w.heap.size, 1, none⟩) (Nat.le_refl _) _).setCell (p := ⟨w.heap.size, 2, none⟩) (Nat.le_refl _) _).setCell (p := ⟨w.heap.size, 3, none⟩) (Nat.le_refl _) _).setCell (p := ⟨w.heap.size, 4, none⟩) (Nat.le_refl _) _).setCell (p := ⟨w.heap.size, 5, none⟩) (Nat.le_refl _) _⟩
  have h3 : SameR w1.heap.size w2.heap.size w2 ((((((w2.setCell ⟨w.heap.size, 0, none⟩ u0).setCell ⟨w.heap.size, 1, none⟩ u1).setCell ⟨w.heap.size, 2, none⟩ u2).setCell ⟨w.heap.size, 3, none⟩ u3).setCell ⟨w.heap.size, 4, none⟩ u4).setCell ⟨w.heap.size, 5, none⟩ u5) :=
    (((((SameR.set w2 _ (by omega) (Nat.le_refl _)).set2 _ (by omega)).set2 _ (by omega)).set2 _ (by omega)).set2 _ (by omega)).set2 _ (by omega)
  exact h3.trans (ho.lo (by omega)) (by simp)
set_option maxRecDepth 8000 in
theorem drawQueryOk_any (a0 : Option Addr) (len cap : Nat) (zs : List Int) (w : World) (h : IsRow .u8 w a0 len cap zs) :
    Calls Tryd.prog 21 #[.slice a0 len cap] w (DrawnQ w) := by
  have b0 : Below w.heap.size w (w.alloc (.cells #[.int .i64 0, .string ⟨#[]⟩, .slice none 0 0, .int .i64 0, .int .i64 0, .slice none 0 0] 26)) := (Below.refl _ _).alloc (Nat.le_refl _) _
  have ra := alloc_new w (.cells #[.int .i64 0, .string ⟨#[]⟩, .slice none 0 0, .int .i64 0, .int .i64 0, .slice none 0 0] 26)
  have s0 : w.heap.size + 1 ≤ (w.alloc (.cells #[.int .i64 0, .string ⟨#[]⟩, .slice none 0 0, .int .i64 0, .int .i64 0, .slice none 0 0] 26)).heap.size := by simp
  go_enter Tryd.func21, Tryd.ntmps21
  go_wp2_with fail
  generalize (w.alloc (.cells #[.int .i64 0, .string ⟨#[]⟩, .slice none 0 0, .int .i64 0, .int .i64 0, .slice none 0 0] 26)) = W0 at b0 ra s0 ⊢
  refine (open_any a0 len cap zs W0 (h.below b0)).mono ?_
  rintro e w1 ⟨⟨rfl, r1⟩, hb1⟩
  have ra1 := (hb1.block w.heap.size (by omega)).trans ra
  have hB1 := b0.trans (hb1.mono (by omega))
  obtain ⟨g, hg⟩ : ∃ g, g = W0.heap.size := ⟨_, rfl⟩
  have hgw : w.heap.size < g := by omega
  have hs1 := hb1.size
  rw [← hg] at r1 ⊢
  clear hg hb1 h ra b0
  go_wp2_with fail
  refine (l30AnyQuery_gen 0 g 0 w1 r1 (by omega)).mono ?_
  rintro e w2 ⟨q, A, c, B, d, ⟨rfl, hsm, hk⟩, p2, hp2, r2, o2⟩
  have ra2 := (o2.2.2 w.heap.size (by omega) (by omega)).trans ra1
  obtain ⟨x0, x1, x2, x3, x4, x5⟩ := blk6 ra2
  have t0 := frozen_blk ra2 0
  have t1 := frozen_blk ra2 1
  have t2 := frozen_blk ra2 2
  have t3 := frozen_blk ra2 3
  have t4 := frozen_blk ra2 4
  have t5 := frozen_blk ra2 5
  have HF := Lib.hid (drawn_fin hB1 (by omega) hgw o2 hk (.int .i64 q.kd) (.string q.fd) (.slice A q.ws.length c) (.int .i64 q.fr) (.int .i64 q.tgt) (.slice B q.ks.length d))
  have HSM := Lib.hid hsm
  clear hsm hk o2 r2 ra1 ra2 hB1 r1
  go_wp2
  exact bodyPost_ret (v := .agg #[.int .i64 q.kd, .string q.fd, .slice A q.ws.length c, .int .i64 q.fr, .int .i64 q.tgt, .slice B q.ks.length d]) (by simp [results, Tryd.results21, go_sem, *]) rfl (drawnQ_mk q A c B d HSM.out HF.out)
set_option maxRecDepth 8000 in
theorem drawQueryPut_any (a0 : Option Addr) (len cap : Nat) (zs : List Int) (w : World) (h : IsRow .u8 w a0 len cap zs) :
    Calls Tryd.prog 10 #[.slice a0 len cap] w (DrawnQ w) := by
  have b0 : Below w.heap.size w (w.alloc (.cells #[.int .i64 0, .string ⟨#[]⟩, .slice none 0 0, .int .i64 0, .int .i64 0, .slice none 0 0] 26)) := (Below.refl _ _).alloc (Nat.le_refl _) _
  have ra := alloc_new w (.cells #[.int .i64 0, .string ⟨#[]⟩, .slice none 0 0, .int .i64 0, .int .i64 0, .slice none 0 0] 26)
  have s0 : w.heap.size + 1 ≤ (w.alloc (.cells #[.int .i64 0, .string ⟨#[]⟩, .slice none 0 0, .int .i64 0, .int .i64 0, .slice none 0 0] 26)).heap.size := by simp
  go_enter Tryd.func10, Tryd.ntmps10
  go_wp2_with fail
  generalize (w.alloc (.cells #[.int .i64 0, .string ⟨#[]⟩, .slice none 0 0, .int .i64 0, .int .i64 0, .slice none 0 0] 26)) = W0 at b0 ra s0 ⊢
  refine (open_any a0 len cap zs W0 (h.below b0)).mono ?_
  rintro e w1 ⟨⟨rfl, r1⟩, hb1⟩
  have ra1 := (hb1.block w.heap.size (by omega)).trans ra
  have hB1 := b0.trans (hb1.mono (by omega))
  obtain ⟨g, hg⟩ : ∃ g, g = W0.heap.size := ⟨_, rfl⟩
  have hgw : w.heap.size < g := by omega
  have hs1 := hb1.size
  rw [← hg] at r1 ⊢
  clear hg hb1 h ra b0
  go_wp2_with fail
  refine (l30AnyQuery_gen 0 g 0 w1 r1 (by omega)).mono ?_
  rintro e w2 ⟨q, A, c, B, d, ⟨rfl, hsm, hk⟩, p2, hp2, r2, o2⟩
  have ra2 := (o2.2.2 w.heap.size (by omega) (by omega)).trans ra1
  obtain ⟨x0, x1, x2, x3, x4, x5⟩ := blk6 ra2
  have t0 := frozen_blk ra2 0
  have t1 := frozen_blk ra2 1
  have t2 := frozen_blk ra2 2
  have t3 := frozen_blk ra2 3
  have t4 := frozen_blk ra2 4
  have t5 := frozen_blk ra2 5
  have HF := Lib.hid (drawn_fin hB1 (by omega) hgw o2 hk (.int .i64 q.kd) (.string q.fd) (.slice A q.ws.length c) (.int .i64 q.fr) (.int .i64 q.tgt) (.slice B q.ks.length d))
  have HSM := Lib.hid hsm
  clear hsm hk o2 r2 ra1 ra2 hB1 r1
  go_wp2
  exact bodyPost_ret (v := .agg #[.int .i64 q.kd, .string q.fd, .slice A q.ws.length c, .int .i64 q.fr, .int .i64 q.tgt, .slice B q.ks.length d]) (by simp [results, Tryd.results10, go_sem, *]) rfl (drawnQ_mk q A c B d HSM.out HF.out)
theorem okQ_up : ∀ {m : Nat} {q : QD}, okQ m q = true → okQ (m + 1) q = true
  | 0, _, h => by cases h
  | m + 1, q, h => by
    have h' : (oneB q && q.ks.all (okQ m)) = true := h
    rw [Bool.and_eq_true, List.all_eq_true] at h'
    show (oneB q && q.ks.all (okQ (m + 1))) = true
    rw [Bool.and_eq_true, List.all_eq_true]
    exact ⟨h'.1, fun k hk => okQ_up (h'.2 k hk)⟩
theorem ok_kids {q : QD} (h : okQ 4 q = true) : ∀ k ∈ q.ks, okQ 4 k = true := by
  have h' : (oneB q && q.ks.all (okQ 3)) = true := h
  rw [Bool.and_eq_true, List.all_eq_true] at h'
  exact fun k hk => okQ_up (h'.2 k hk)
theorem ok_three {q : QD} (h : okQ 4 q = true) (hk : q.ks = []) : okQ 3 q = true := by
  have h' : (oneB q && q.ks.all (okQ 3)) = true := h
  rw [Bool.and_eq_true] at h'
  show (oneB q && q.ks.all (okQ 2)) = true
  rw [h'.1, hk]; rfl
theorem ok_times (q : QD) : okQ 4 ⟨10, ⟨#[]⟩, [], 2, 0, [q]⟩ = okQ 3 q := by
  show (oneB (⟨10, ⟨#[]⟩, [], 2, 0, [q]⟩ : QD) && [q].all (okQ 3)) = okQ 3 q
  have : oneB ⟨10, ⟨#[]⟩, [], 2, 0, [q]⟩ = true := by simp [oneB, bareB, wi]
  rw [this]; simp
theorem ok_both (a b : QD) : okQ 4 ⟨7, ⟨#[]⟩, [], 0, 0, [a, b]⟩ = (okQ 3 a && okQ 3 b) := by
  show (oneB (⟨7, ⟨#[]⟩, [], 0, 0, [a, b]⟩ : QD) && [a, b].all (okQ 3)) = (okQ 3 a && okQ 3 b)
  have : oneB ⟨7, ⟨#[]⟩, [], 0, 0, [a, b]⟩ = true := by simp [oneB, bareB, wi]
  rw [this]; simp
end Go.Proofs.YtaobgliimbmemaaDoor
