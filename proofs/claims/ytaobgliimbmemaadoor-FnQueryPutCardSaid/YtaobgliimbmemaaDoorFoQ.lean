/-
  foQuery: of two questions that are one it says so.
-/
import Derived.Test.YtaobgliimbmemaaDoorQdEq
namespace Go.Proofs.YtaobgliimbmemaaDoor
open Go.RowKit Go.Sort
set_option linter.unusedVariables false

theorem foTexts_sameQ (A A' : Option Addr) (c c' : Nat) (L : List ByteArray) (w : World) (h : SrcT w A c L) (h' : SrcT w A' c' L) (hn : L.length ≤ 4194304) :
    Calls Tryd.prog 26 #[.slice A L.length c, .slice A' L.length c'] w fun e w' => e = .returned (.bool true) ∧ Below w.heap.size w w' := by
  go_enter Tryd.func26, Tryd.ntmps26
  go_wp2
  go_loopw [5] (fun i wr => ∃ k : Nat, k ≤ L.length ∧ i = .int .i64 k ∧ Below w.heap.size w wr) (fun i _ => L.length - (intOf i).toNat)
  case atStart => exact ⟨0, Nat.zero_le _, rfl, Below.refl _ _⟩
  case round =>
    obtain ⟨k, hk, rfl, hB⟩ := hrel
    by_cases hlt : k < L.length
    · obtain ⟨b, off, rfl, hb, x0⟩ := (h.below hB).atT hlt
      obtain ⟨b', off', rfl, hb', x0'⟩ := (h'.below hB).atT hlt
      have hi0 : (k : Int) < (L.length : Int) := by omega
      generalize L[k] = p at x0 x0'
      have k1 := cell_regrown x0
      have k3 := cell_regrown x0'
      clear x0 x0' hb hb' h h'
      go_wp2_with fail
      refine region_qw (by kernel_rfl) (by kernel_rfl) ?_
      repeat (
        refine qw_step (fun K hK => ?_)
        go_simp
        first
          | (refine hK _ ?_; clear hK K)
          | fail)
      refine qw_nil ?_
      intro _ hw'
      obtain ⟨⟨dq, osq⟩, hw''⟩ := hw'
      subst hw''
      have hBq := hB.trans ((below_regrown wr dq osq).mono hB.size)
      generalize grow (redrawn wr dq) osq = Wq at hBq ⊢
      go_wp2
      go_roundw
      case rel => exact ⟨k + 1, by omega, by go_num, hBq⟩
      case measure => simp [intOf]; omega
    · go_wp2
      go_ret
      exact ⟨rfl, hB⟩
def FoC (n : Nat) : Prop := ∀ (q : QD) (A : Option Addr) (c : Nat) (B : Option Addr) (d : Nat) (A' : Option Addr) (c' : Nat) (B' : Option Addr) (d' : Nat) (w : World), HasQ n w q A c B → HasQ n w q A' c' B' → LmQ 1048576 n q →
  Calls Tryd.prog 16 #[.agg #[.int .i64 q.kd, .string q.fd, .slice A q.ws.length c, .int .i64 q.fr, .int .i64 q.tgt, .slice B q.ks.length d], .agg #[.int .i64 q.kd, .string q.fd, .slice A' q.ws.length c', .int .i64 q.fr, .int .i64 q.tgt, .slice B' q.ks.length d']] w fun e w' => e = .returned (.bool true) ∧ Below w.heap.size w w'
theorem cFoQ {n : Nat} (IH : FoC n) (q : QD) (A : Option Addr) (c : Nat) (B : Option Addr) (d : Nat) (A' : Option Addr) (c' : Nat) (B' : Option Addr) (d' : Nat) (W : World) (h : Hid (HasQ n W q A c B)) (h' : Hid (HasQ n W q A' c' B')) (hn : Hid (LmQ 1048576 n q)) (dw : Nat) (os : Array Obj) :
    Calls Tryd.prog 16 #[.agg #[.int .i64 q.kd, .string q.fd, .slice A q.ws.length c, .int .i64 q.fr, .int .i64 q.tgt, .slice B q.ks.length d], .agg #[.int .i64 q.kd, .string q.fd, .slice A' q.ws.length c', .int .i64 q.fr, .int .i64 q.tgt, .slice B' q.ks.length d']] (grow (redrawn W dw) os) fun e w'' => e = .returned (.bool true) ∧ ∃ p : Regrown, w'' = grow (redrawn W p.d) p.os :=
  Calls.regrown_of (IH q A c B d A' c' B' d' _ (h.out.below (below_regrown W dw os)) (h'.out.below (below_regrown W dw os)) hn.out)
set_option maxRecDepth 8000 in
set_option maxHeartbeats 6400000 in
theorem foQuery_step (n : Nat) (IH : Hid (FoC n)) : FoC (n + 1) := fun q A c B d A' c' B' d' w h h' hs => by
  have ⟨hf1, hw1, hw2, hk1, hk2⟩ := hs
  have ⟨hS, hK⟩ := h
  have ⟨hS', hK'⟩ := h'
  have HK := Lib.hid hK
  have HK' := Lib.hid hK'
  have HK2 := Lib.hid hk2
  have HB := box2_cells w (.int .i64 q.kd) (.string q.fd) (.slice A q.ws.length c) (.int .i64 q.fr) (.int .i64 q.tgt) (.slice B q.ks.length d) (.int .i64 q.kd) (.string q.fd) (.slice A' q.ws.length c') (.int .i64 q.fr) (.int .i64 q.tgt) (.slice B' q.ks.length d') 26 _ rfl
  obtain ⟨⟨a0, a1, a2, a3, a4, a5⟩, ⟨b0, b1, b2, b3, b4, b5⟩, hB, hsz⟩ := HB
  clear h h' hs hK hK' hw2 hk2
  go_enter Tryd.func16, Tryd.ntmps16
  go_wp2_with fail
  generalize ((w.alloc (.cells #[.int .i64 q.kd, .string q.fd, .slice A q.ws.length c, .int .i64 q.fr, .int .i64 q.tgt, .slice B q.ks.length d] 26)).alloc (.cells #[.int .i64 q.kd, .string q.fd, .slice A' q.ws.length c', .int .i64 q.fr, .int .i64 q.tgt, .slice B' q.ks.length d'] 26)) = W at hB a0 a1 a2 a3 a4 a5 b0 b1 b2 b3 b4 b5 hsz ⊢
  refine (foTexts_sameQ A A' c c' q.ws W (hS.below hB).1 (hS'.below hB).1 (by omega)).mono ?_
  rintro e w1 ⟨rfl, hb1⟩
  have KA : Hid (∀ V, Below W.heap.size W V → V.cell? ⟨w.heap.size, 5, none⟩ = some (.slice B q.ks.length d) ∧ V.cell? ⟨w.heap.size + 1, 5, none⟩ = some (.slice B' q.ks.length d')) := fun V hV => ⟨(belowL hV (by omega)).trans a5, (belowL hV (by omega)).trans b5⟩
  obtain ⟨p5, q5⟩ := KA.out _ hb1
  clear a0 a1 a2 a3 a4 a5 b0 b1 b2 b3 b4 b5
  have hkl := hk1
  go_wp2_with fail
  go_loopw [5] (fun i wr => ∃ k : Nat, k ≤ q.ks.length ∧ i = .int .i64 k ∧ Below W.heap.size W wr) (fun i _ => q.ks.length - (intOf i).toNat)
  case atStart => exact ⟨0, Nat.zero_le _, rfl, hb1⟩
  case round =>
    clear p5 q5 hb1
    obtain ⟨k, hk, rfl, hBW⟩ := hrel
    obtain ⟨p5, q5⟩ := KA.out _ hBW
    by_cases hlt : k < q.ks.length
    · have hBw := hB.trans (hBW.mono hB.size)
      obtain ⟨b, off, A1, c1, B1, d1, rfl, hb, x0, x1, x2, x3, x4, x5, hx⟩ := (rdQ_below HK.out hBw).cells hlt
      obtain ⟨b', off', A1', c1', B1', d1', rfl, hb', y0, y1, y2, y3, y4, y5, hx'⟩ := (rdQ_below HK'.out hBw).cells hlt
      have hi0 : (k : Int) < (q.ks.length : Int) := by omega
      have hsm := Lib.hid (HK2.out _ (List.getElem_mem hlt))
      have hx := Lib.hid hx
      have hx' := Lib.hid hx'
      generalize q.ks[k] = y at x0 x1 x2 x3 x4 x5 hx y0 y1 y2 y3 y4 y5 hx' hsm
      have p5r := cell_regrown p5
      have q5r := cell_regrown q5
      replace x0 := cell_regrown x0
      replace x1 := cell_regrown x1
      replace x2 := cell_regrown x2
      replace x3 := cell_regrown x3
      replace x4 := cell_regrown x4
      replace x5 := cell_regrown x5
      replace y0 := cell_regrown y0
      replace y1 := cell_regrown y1
      replace y2 := cell_regrown y2
      replace y3 := cell_regrown y3
      replace y4 := cell_regrown y4
      replace y5 := cell_regrown y5
      clear hb hb' hBw HK HK'
      go_wp2_with fail
      refine region_qw (by kernel_rfl) (by kernel_rfl) ?_
      repeat (
        refine qw_step (fun K hK => ?_)
        go_simp
        first
          | (refine hK _ ?_; clear hK K)
          | (apply Exists.intro
             refine ⟨fun _ => ?_, hK _ ?_⟩
             (first | ((go_at_call 16; exact cFoQ IH.out _ _ _ _ _ _ _ _ _ _ hx hx' hsm _ _)))
             clear hK K)
          | fail)
      refine qw_nil ?_
      intro _ hw'
      obtain ⟨⟨dq, osq⟩, hw''⟩ := hw'
      subst hw''
      have hBq := hBW.trans ((below_regrown wr dq osq).mono (by have := hBW.size; omega))
      clear hx hx'
      dsimp only
      generalize grow (redrawn wr dq) osq = Wq at hBq ⊢
      clear p5 q5 p5r q5r x0 x1 x2 x3 x4 x5 y0 y1 y2 y3 y4 y5
      go_wp2
      go_roundw
      case rel => exact ⟨k + 1, by omega, by go_num, hBq⟩
      case measure => simp [intOf]; omega
    · have hBw := hB.trans (hBW.mono hB.size)
      go_wp2
      go_ret
      exact ⟨rfl, hBw⟩
theorem foQuery_same (n : Nat) : FoC n := by
  induction n with
  | zero => exact fun q A c B d A' c' B' d' w h _ _ => h.elim
  | succ n ih => exact foQuery_step n (Lib.hid ih)
end Go.Proofs.YtaobgliimbmemaaDoor
