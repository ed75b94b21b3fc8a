/-
  The walk of FnExactQueryOk: printed by mk_exq.py.
-/
import Derived.Test.YtaobgliimbmemaaDoorNodeOk2
import Derived.Deep.RegionHeld3
import Derived.Deep.RegionLaw
namespace Go.Proofs.YtaobgliimbmemaaDoor
open Go.RowKit Go.Sort
set_option linter.unusedVariables false

theorem KeptQ.now {n : Nat} {w w' : World} {q : QD} {A : Option Addr} {c : Nat} {B : Option Addr} (h : KeptQ n w w' q A c B) (hb : Below w.heap.size w w') : HasQ n w' q A c B := h w' ⟨Nat.le_refl _, fun _ _ _ => rfl⟩
set_option maxRecDepth 8000 in
set_option maxHeartbeats 6400000 in
theorem walk_FnExactQueryOk (bm n : Nat) (q : QD) (A : Option Addr) (c : Nat) (B : Option Addr) (d : Nat) (w : World) (hl : LaidSh bm w) (h : HasQ n w q A c B) (hb : LmQ 9223372036854775807 n q) (hwq : WfQ n q) :
    Calls Tryd.prog 6 #[.agg #[.int .i64 q.kd, .string q.fd, .slice A q.ws.length c, .int .i64 q.fr, .int .i64 q.tgt, .slice B q.ks.length d]] w fun e w' => e = .returned (.bool true) ∧ Below w.heap.size w w' := by
  have HH := Lib.hid h
  have HL := Lib.hid hl
  have HBG := Lib.hid hb
  have HWQ := Lib.hid hwq
  clear h hl hb hwq
  have hB0 : Below w.heap.size w (w.alloc (.cells #[.int .i64 q.kd, .string q.fd, .slice A q.ws.length c, .int .i64 q.fr, .int .i64 q.tgt, .slice B q.ks.length d] 38)) := by (repeat' (first | exact Below.refl _ _ | apply Below.alloc | apply Below.setCell | apply Below.drew | apply below_draws)) <;> (first | omega | (simp <;> omega))
  have hv0 := alloc_new w (.cells #[.int .i64 q.kd, .string q.fd, .slice A q.ws.length c, .int .i64 q.fr, .int .i64 q.tgt, .slice B q.ks.length d] 38)
  have hz0 : w.heap.size < (w.alloc (.cells #[.int .i64 q.kd, .string q.fd, .slice A q.ws.length c, .int .i64 q.fr, .int .i64 q.tgt, .slice B q.ks.length d] 38)).heap.size := by simp
  go_enter Tryd.func6, Tryd.ntmps6
  go_wp2_with fail
  generalize (w.alloc (.cells #[.int .i64 q.kd, .string q.fd, .slice A q.ws.length c, .int .i64 q.fr, .int .i64 q.tgt, .slice B q.ks.length d] 38)) = W0 at hB0 hv0 hz0 ⊢
  refine (szQuery_any n q A c B d 1048576 _ (HH.out.below hB0) HBG.out (by omega) (by omega)).mono ?_
  rintro e w1 ⟨r, ⟨rfl, hr1, hr3⟩, hb1⟩
  have hB1 := hB0.trans (hb1.mono hB0.size)
  by_cases hr : r < 0
  · go_wp2
    go_ret
    exact ⟨rfl, hB1⟩
  have hs := Lib.hid (hr3.resolve_left hr)
  have hv1 := (hb1.block w.heap.size hz0).trans hv0
  have hz1 : w.heap.size < w1.heap.size := by have := hb1.size; omega
  clear hr3 hv0 hb1 hB0 hz0 HBG
  have KB0 : Hid (∀ V, Below w1.heap.size w1 V → V.cell? ⟨w.heap.size, 0, none⟩ = some (.int .i64 q.kd)) := fun V hV => (belowL hV hz1).trans (cells_blk hv1 rfl)
  have KB1 : Hid (∀ V, Below w1.heap.size w1 V → V.cell? ⟨w.heap.size, 1, none⟩ = some (.string q.fd)) := fun V hV => (belowL hV hz1).trans (cells_blk hv1 rfl)
  have KB2 : Hid (∀ V, Below w1.heap.size w1 V → V.cell? ⟨w.heap.size, 2, none⟩ = some (.slice A q.ws.length c)) := fun V hV => (belowL hV hz1).trans (cells_blk hv1 rfl)
  have KB3 : Hid (∀ V, Below w1.heap.size w1 V → V.cell? ⟨w.heap.size, 3, none⟩ = some (.int .i64 q.fr)) := fun V hV => (belowL hV hz1).trans (cells_blk hv1 rfl)
  have KB4 : Hid (∀ V, Below w1.heap.size w1 V → V.cell? ⟨w.heap.size, 4, none⟩ = some (.int .i64 q.tgt)) := fun V hV => (belowL hV hz1).trans (cells_blk hv1 rfl)
  have KB5 : Hid (∀ V, Below w1.heap.size w1 V → V.cell? ⟨w.heap.size, 5, none⟩ = some (.slice B q.ks.length d)) := fun V hV => (belowL hV hz1).trans (cells_blk hv1 rfl)
  obtain ⟨a0, a1, a2, a3, a4, a5⟩ := blk6 hv1
  have HA := Lib.hid (fun V (hV : Below w1.heap.size w1 V) => (HH.out.below hB1).below hV)
  have HS := Lib.hid (fun V (hV : Below w1.heap.size w1 V) => (HL.out.below hB1).below hV)
  clear hv1 HH HL
  -- the reference
  go_wp2_with fail
  refine (toQuery_any n q A c B d _ (HA.out _ (Below.refl _ _)) hs.out).mono ?_
  rintro e w2 ⟨A2, B2, ⟨rfl, k2⟩, hb2⟩
  have K2 := Lib.hid (k2.now hb2)
  clear k2
  go_wp2_with fail
  refine (specQueryOk_any n q A2 q.ws.length B2 q.ks.length _ K2.out hs.out).mono ?_
  rintro e w3 ⟨rfl, hb3⟩
  have H3 := hb2.trans (hb3.mono hb2.size)
  clear a0 a1 a2 a3 a4 a5 hb2 hb3 K2
  have a0 := KB0.out _ H3
  have a1 := KB1.out _ H3
  have a2 := KB2.out _ H3
  have a3 := KB3.out _ H3
  have a4 := KB4.out _ H3
  have a5 := KB5.out _ H3
  go_wp2_with fail
  refine (toQuery_any n q A c B d _ (HA.out _ H3) hs.out).mono ?_
  rintro e w4 ⟨A5, B5, ⟨rfl, k4⟩, hb4⟩
  have H4 := H3.trans (hb4.mono H3.size)
  have fW : Below w4.heap.size w4 (w4.alloc (.cells #[.int .i64 q.kd, .string q.fd, .slice A5 q.ws.length q.ws.length, .int .i64 q.fr, .int .i64 q.tgt, .slice B5 q.ks.length q.ks.length] 26)) := (Below.refl _ _).alloc (Nat.le_refl _) _
  have rW := alloc_new w4 (.cells #[.int .i64 q.kd, .string q.fd, .slice A5 q.ws.length q.ws.length, .int .i64 q.fr, .int .i64 q.tgt, .slice B5 q.ks.length q.ks.length] 26)
  have hzW : w4.heap.size < (w4.alloc (.cells #[.int .i64 q.kd, .string q.fd, .slice A5 q.ws.length q.ws.length, .int .i64 q.fr, .int .i64 q.tgt, .slice B5 q.ks.length q.ks.length] 26)).heap.size := by simp
  have K5 := Lib.hid ((k4.now hb4).below fW)
  have H5 := H4.trans (fW.mono H4.size)
  obtain ⟨b0, b1, b2, b3, b4, b5⟩ := blk6 rW
  clear k4 fW hb4 H4 a0 a1 a2 a3 a4 a5
  go_wp2_with fail
  generalize (w4.alloc (.cells #[.int .i64 q.kd, .string q.fd, .slice A5 q.ws.length q.ws.length, .int .i64 q.fr, .int .i64 q.tgt, .slice B5 q.ks.length q.ks.length] 26)) = W5 at rW K5 hzW H5 b0 b1 b2 b3 b4 b5 ⊢
  generalize w4.heap.size = p6 at rW hzW b0 b1 b2 b3 b4 b5 ⊢
  refine (queryOk_any bm n q A5 q.ws.length B5 q.ks.length _ (HS.out _ H5) K5.out hs.out HWQ).mono ?_
  rintro e w6 ⟨rfl, hb6⟩
  have H6 := H5.trans (hb6.mono H5.size)
  have s6 := H6.size
  have s5 := hb6.size
  have HX := Lib.hid (fun V (hV : Below w6.heap.size w6 V) => K5.out.below (hb6.trans (hV.mono s5)))
  have HA6 := Lib.hid (fun V (hV : Below w6.heap.size w6 V) => HA.out V (H6.trans (hV.mono s6)))
  clear b0 b1 b2 b3 b4 b5
  have kb0 : ∀ V, Below w6.heap.size w6 V → V.cell? ⟨w.heap.size, 0, none⟩ = some (.int .i64 q.kd) := fun V hV => KB0.out V (H6.trans (hV.mono s6))
  have kb1 : ∀ V, Below w6.heap.size w6 V → V.cell? ⟨w.heap.size, 1, none⟩ = some (.string q.fd) := fun V hV => KB1.out V (H6.trans (hV.mono s6))
  have kb2 : ∀ V, Below w6.heap.size w6 V → V.cell? ⟨w.heap.size, 2, none⟩ = some (.slice A q.ws.length c) := fun V hV => KB2.out V (H6.trans (hV.mono s6))
  have kb3 : ∀ V, Below w6.heap.size w6 V → V.cell? ⟨w.heap.size, 3, none⟩ = some (.int .i64 q.fr) := fun V hV => KB3.out V (H6.trans (hV.mono s6))
  have kb4 : ∀ V, Below w6.heap.size w6 V → V.cell? ⟨w.heap.size, 4, none⟩ = some (.int .i64 q.tgt) := fun V hV => KB4.out V (H6.trans (hV.mono s6))
  have kb5 : ∀ V, Below w6.heap.size w6 V → V.cell? ⟨w.heap.size, 5, none⟩ = some (.slice B q.ks.length d) := fun V hV => KB5.out V (H6.trans (hV.mono s6))
  have kx0 : ∀ V, Below w6.heap.size w6 V → V.cell? ⟨p6, 0, none⟩ = some (.int .i64 q.kd) := fun V hV => (belowL (hb6.trans (hV.mono s5)) hzW).trans (cells_blk rW rfl)
  have kx1 : ∀ V, Below w6.heap.size w6 V → V.cell? ⟨p6, 1, none⟩ = some (.string q.fd) := fun V hV => (belowL (hb6.trans (hV.mono s5)) hzW).trans (cells_blk rW rfl)
  have kx2 : ∀ V, Below w6.heap.size w6 V → V.cell? ⟨p6, 2, none⟩ = some (.slice A5 q.ws.length q.ws.length) := fun V hV => (belowL (hb6.trans (hV.mono s5)) hzW).trans (cells_blk rW rfl)
  have kx3 : ∀ V, Below w6.heap.size w6 V → V.cell? ⟨p6, 3, none⟩ = some (.int .i64 q.fr) := fun V hV => (belowL (hb6.trans (hV.mono s5)) hzW).trans (cells_blk rW rfl)
  have kx4 : ∀ V, Below w6.heap.size w6 V → V.cell? ⟨p6, 4, none⟩ = some (.int .i64 q.tgt) := fun V hV => (belowL (hb6.trans (hV.mono s5)) hzW).trans (cells_blk rW rfl)
  have kx5 : ∀ V, Below w6.heap.size w6 V → V.cell? ⟨p6, 5, none⟩ = some (.slice B5 q.ks.length q.ks.length) := fun V hV => (belowL (hb6.trans (hV.mono s5)) hzW).trans (cells_blk rW rfl)
  generalize okQ 4 q = R
  go_wp2_with fail
  go_region_held3 (fun V => Below w6.heap.size w6 V)
    ((repeat' (first | exact Below.refl _ _ | assumption | apply Below.alloc | apply Below.setCell | apply Below.drew | (refine Below.trans ?_ (Below.mono (by assumption) ?_)))) <;> (first | exact Below.size (by assumption) | omega | (simp; done) | (simp; omega) | (refine Nat.le_trans ?_ (Below.size (by assumption)); (first | omega | (simp; omega)))))
    (first
    | (go_at_call 23; refine (toQuery_any n q A c B d _ (HA6.out _ (by assumption)) hs.out).mono ?_; rintro e w10 ⟨A7, B7, ⟨rfl, k10⟩, hb10⟩; have O10 := Lib.hid (k10.now hb10); clear k10)
    | (go_at_call 18; refine (eqQuery_same n q _ _ _ _ _ _ _ _ _ (HX.out _ (by assumption)) O10.out hs.out).mono ?_; rintro e w11 ⟨rfl, hb11⟩))
  rename_i hH
  have H11 := H6.trans (hH.mono s6)
  clear kb0 kb1 kb2 kb3 kb4 kb5 kx0 kx1 kx2 kx3 kx4 kx5
  go_wp2
  go_ret
  exact ⟨rfl, hB1.trans (H11.mono hB1.size)⟩
theorem walkR_FnExactQueryOk (n : Nat) (q : QD) (A : Option Addr) (c : Nat) (B : Option Addr) (d : Nat) (w : World) (h : HasQ n w q A c B) (hb : LmQ 9223372036854775807 n q) (hwq : WfQ n q) (hl : ∃ bm, LaidSh bm w) :
    Calls Tryd.prog 6 #[.agg #[.int .i64 q.kd, .string q.fd, .slice A q.ws.length c, .int .i64 q.fr, .int .i64 q.tgt, .slice B q.ks.length d]] w fun e w' => e = .returned (.bool true) ∧ Below w.heap.size w w' := by
  obtain ⟨bm, hl⟩ := hl
  exact walk_FnExactQueryOk bm n q A c B d w hl h hb hwq
end Go.Proofs.YtaobgliimbmemaaDoor
