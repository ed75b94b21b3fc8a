/-
  eqQuery of two questions that are the same.
-/
import Derived.Test.YtaobgliimbmemaaDoorQd
import Derived.Test.YtaobgliimbmemaaDoorSyn
namespace Go.Proofs.YtaobgliimbmemaaDoor
open Go.RowKit Go.Sort
set_option linter.unusedVariables false

abbrev qv (q : QD) (A : Option Addr) (c : Nat) (B : Option Addr) (d : Nat) : Value := .agg #[.int .i64 q.kd, .string q.fd, .slice A q.ws.length c, .int .i64 q.fr, .int .i64 q.tgt, .slice B q.ks.length d]
def EqC (n : Nat) : Prop := ∀ (q : QD) (A : Option Addr) (c : Nat) (B : Option Addr) (d : Nat) (A' : Option Addr) (c' : Nat) (B' : Option Addr) (d' : Nat) (w : World), HasQ n w q A c B → HasQ n w q A' c' B' → LmQ 1048576 n q →
  Calls Tryd.prog 18 #[.agg #[.int .i64 q.kd, .string q.fd, .slice A q.ws.length c, .int .i64 q.fr, .int .i64 q.tgt, .slice B q.ks.length d], .agg #[.int .i64 q.kd, .string q.fd, .slice A' q.ws.length c', .int .i64 q.fr, .int .i64 q.tgt, .slice B' q.ks.length d']] w fun e w' => e = .returned (.bool true) ∧ Below w.heap.size w w'
theorem cEqQ {n : Nat} (IH : EqC n) (q : QD) (A : Option Addr) (c : Nat) (B : Option Addr) (d : Nat) (A' : Option Addr) (c' : Nat) (B' : Option Addr) (d' : Nat) (W : World) (h : Hid (HasQ n W q A c B)) (h' : Hid (HasQ n W q A' c' B')) (hn : Hid (LmQ 1048576 n q)) (dw : Nat) (os : Array Obj) :
    Calls Tryd.prog 18 #[.agg #[.int .i64 q.kd, .string q.fd, .slice A q.ws.length c, .int .i64 q.fr, .int .i64 q.tgt, .slice B q.ks.length d], .agg #[.int .i64 q.kd, .string q.fd, .slice A' q.ws.length c', .int .i64 q.fr, .int .i64 q.tgt, .slice B' q.ks.length d']] (grow (redrawn W dw) os) fun e w'' => e = .returned (.bool true) ∧ ∃ p : Regrown, w'' = grow (redrawn W p.d) p.os :=
  Calls.regrown_of (IH q A c B d A' c' B' d' _ (h.out.below (below_regrown W dw os)) (h'.out.below (below_regrown W dw os)) hn.out)
theorem box2_cells (w : World) (x0 x1 x2 x3 x4 x5 y0 y1 y2 y3 y4 y5 : Value) (t : TypeId) : ∀ W : World, W = (w.alloc (.cells #[x0, x1, x2, x3, x4, x5] t)).alloc (.cells #[y0, y1, y2, y3, y4, y5] t) →
    (W.cell? ⟨w.heap.size, 0, none⟩ = some x0 ∧ W.cell? ⟨w.heap.size, 1, none⟩ = some x1 ∧ W.cell? ⟨w.heap.size, 2, none⟩ = some x2 ∧ W.cell? ⟨w.heap.size, 3, none⟩ = some x3 ∧ W.cell? ⟨w.heap.size, 4, none⟩ = some x4 ∧ W.cell? ⟨w.heap.size, 5, none⟩ = some x5) ∧
    (W.cell? ⟨w.heap.size + 1, 0, none⟩ = some y0 ∧ W.cell? ⟨w.heap.size + 1, 1, none⟩ = some y1 ∧ W.cell? ⟨w.heap.size + 1, 2, none⟩ = some y2 ∧ W.cell? ⟨w.heap.size + 1, 3, none⟩ = some y3 ∧ W.cell? ⟨w.heap.size + 1, 4, none⟩ = some y4 ∧ W.cell? ⟨w.heap.size + 1, 5, none⟩ = some y5) ∧
    Below w.heap.size w W ∧ w.heap.size + 1 < W.heap.size := by
  rintro W rfl
  refine ⟨?_, ?_, by (repeat' (first | exact Below.refl _ _ | apply Below.alloc | apply Below.setCell | apply Below.drew | apply below_draws)) <;> (first | omega | (simp <;> omega)), by simp⟩
  · refine ⟨?_, ?_, ?_, ?_, ?_, ?_⟩ <;> simp [go_sem]
  · refine ⟨?_, ?_, ?_, ?_, ?_, ?_⟩ <;> simp [go_sem]
theorem eqQueryS_of (n : Nat) (IH : Hid (EqC n)) (B B' : Option Addr) (d d' : Nat) (Ks : List QD) (w : World) (h : RdK (HasQ n) w B Ks) (h' : RdK (HasQ n) w B' Ks) (hn : Ks.length ≤ 1048576) (hs : ∀ y ∈ Ks, LmQ 1048576 n y) :
    Calls Tryd.prog 45 #[.slice B Ks.length d, .slice B' Ks.length d'] w fun e w' => e = .returned (.bool true) ∧ Below w.heap.size w w' := by
  have HSM := Lib.hid hs
  clear hs
  go_enter Tryd.func45, Tryd.ntmps45
  go_wp2
  go_loopw [5] (fun i wr => ∃ k : Nat, k ≤ Ks.length ∧ i = .int .i64 k ∧ Below w.heap.size w wr) (fun i _ => Ks.length - (intOf i).toNat)
  case atStart => exact ⟨0, Nat.zero_le _, rfl, Below.refl _ _⟩
  case round =>
    obtain ⟨k, hk, rfl, hB⟩ := hrel
    by_cases hlt : k < Ks.length
    · obtain ⟨b, off, A1, c1, B1, d1, rfl, hb, x0, x1, x2, x3, x4, x5, hx⟩ := (rdQ_below h hB).cells hlt
      obtain ⟨b', off', A1', c1', B1', d1', rfl, hb', y0, y1, y2, y3, y4, y5, hx'⟩ := (rdQ_below h' hB).cells hlt
      have hi0 : (k : Int) < (Ks.length : Int) := by omega
      have hsm := Lib.hid (HSM.out _ (List.getElem_mem hlt))
      have hx := Lib.hid hx
      have hx' := Lib.hid hx'
      generalize Ks[k] = y at x0 x1 x2 x3 x4 x5 hx y0 y1 y2 y3 y4 y5 hx' hsm
      replace x0 := cell_regrown x0
      replace x1 := cell_regrown x1
      replace x2 := cell_regrown x2
      replace x3 := cell_regrown x3
      replace x4 := cell_regrown x4
      replace x5 := cell_regrown x5
      replace y0 := cell_regrown y0
      replace y1 := cell_regrown y1
      replace y2 := cell_regrown y2
      replace y3 := cell_regrown y3
      replace y4 := cell_regrown y4
      replace y5 := cell_regrown y5
      clear hb hb' h h'
      go_wp2_with fail
      refine region_qw (by kernel_rfl) (by kernel_rfl) ?_
      repeat (
        refine qw_step (fun K hK => ?_)
        go_simp
        first
          | (refine hK _ ?_; clear hK K)
          | (apply Exists.intro
             refine ⟨fun _ => ?_, hK _ ?_⟩
             (first | ((go_at_call 18; exact cEqQ IH.out _ _ _ _ _ _ _ _ _ _ hx hx' hsm _ _)))
             clear hK K)
          | fail)
      refine qw_nil ?_
      intro _ hw'
      obtain ⟨⟨dq, osq⟩, hw''⟩ := hw'
      subst hw''
      have hBq := hB.trans ((below_regrown wr dq osq).mono (by have := hB.size; omega))
      clear hx hx'
      dsimp only
      generalize grow (redrawn wr dq) osq = Wq at hBq ⊢
      go_wp2
      go_roundw
      case rel => exact ⟨k + 1, by omega, by go_num, hBq⟩
      case measure => simp [intOf]; omega
    · go_wp2
      go_ret
      exact ⟨rfl, hB⟩
theorem eqQuery_same : ∀ n, EqC n
  | 0 => fun q A c B d A' c' B' d' w h _ _ => h.elim
  | n + 1 => fun q A c B d A' c' B' d' w h h' hs => by
    have IH := Lib.hid (eqQuery_same n)
    have ⟨hf1, hw1, hw2, hk1, hk2⟩ := hs
    have ⟨hS, hK⟩ := h
    have ⟨hS', hK'⟩ := h'
    have HK := Lib.hid hK
    have HK' := Lib.hid hK'
    have HK2 := Lib.hid hk2
    have HB := box2_cells w (.int .i64 q.kd) (.string q.fd) (.slice A q.ws.length c) (.int .i64 q.fr) (.int .i64 q.tgt) (.slice B q.ks.length d) (.int .i64 q.kd) (.string q.fd) (.slice A' q.ws.length c') (.int .i64 q.fr) (.int .i64 q.tgt) (.slice B' q.ks.length d') 26 _ rfl
    obtain ⟨⟨a0, a1, a2, a3, a4, a5⟩, ⟨b0, b1, b2, b3, b4, b5⟩, hB, hsz⟩ := HB
    clear h h' hs hK hK' hw2 hk2
    go_enter Tryd.func18, Tryd.ntmps18
    go_wp2_with fail
    generalize ((w.alloc (.cells #[.int .i64 q.kd, .string q.fd, .slice A q.ws.length c, .int .i64 q.fr, .int .i64 q.tgt, .slice B q.ks.length d] 26)).alloc (.cells #[.int .i64 q.kd, .string q.fd, .slice A' q.ws.length c', .int .i64 q.fr, .int .i64 q.tgt, .slice B' q.ks.length d'] 26)) = W at hB a0 a1 a2 a3 a4 a5 b0 b1 b2 b3 b4 b5 hsz ⊢
    refine (eqStringS_same A A' c c' q.ws _ (hS.below hB).1 (hS'.below hB).1 (by omega)).mono ?_
    rintro e w1 ⟨rfl, hb1⟩
    replace a3 := (belowL hb1 (by omega)).trans a3
    replace a4 := (belowL hb1 (by omega)).trans a4
    replace a5 := (belowL hb1 (by omega)).trans a5
    replace b3 := (belowL hb1 (by omega)).trans b3
    replace b4 := (belowL hb1 (by omega)).trans b4
    replace b5 := (belowL hb1 (by omega)).trans b5
    have hB1 := hB.trans (hb1.mono hB.size)
    clear hB hb1 hsz a0 a1 a2 b0 b1 b2
    go_wp2_with fail
    refine (eqQueryS_of n IH B B' d d' q.ks _ (rdQ_below HK.out hB1) (rdQ_below HK'.out hB1) hk1 HK2.out).mono ?_
    rintro e w2 ⟨rfl, hb2⟩
    have hB2 := hB1.trans (hb2.mono hB1.size)
    go_wp2
    go_ret
    exact ⟨rfl, hB2⟩
end Go.Proofs.YtaobgliimbmemaaDoor
