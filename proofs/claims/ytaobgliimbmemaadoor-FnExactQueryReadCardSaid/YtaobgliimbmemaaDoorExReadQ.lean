/-
  The walk of FnExactQueryRead.
-/
import Derived.Test.YtaobgliimbmemaaDoorReadS2
import Derived.Test.YtaobgliimbmemaaDoorHeldQ
import Derived.Test.YtaobgliimbmemaaDoorQdEq
import Derived.Test.YtaobgliimbmemaaDoorLaidR
namespace Go.Proofs.YtaobgliimbmemaaDoor
open Go.RowKit Go.Sort
set_option linter.unusedVariables false
set_option linter.unusedSimpArgs false

set_option maxRecDepth 8000 in
set_option maxHeartbeats 6400000 in
theorem walk_FnExactQueryRead (bm bo : Nat) (s : ByteArray) (w : World) (hl : LaidSh bm w) (hlo : LaidOp bo w) (ht : PowT w) (hL : LaidR w) :
    Calls Tryd.prog 4 #[.string s] w fun e w' => e = .returned (.bool true) ∧ Below w.heap.size w w' := by
  by_cases hbig : 1048576 < s.size
  · have hi0 : (1048576 : Int) < (s.size : Int) := by omega
    go_enter Tryd.func4, Tryd.ntmps4
    go_wp2
    go_ret
    exact ⟨rfl, Below.refl _ _⟩
  have hsz : s.size ≤ 9223372036854775000 := by omega
  have hi0 : ¬ (1048576 : Int) < (s.size : Int) := by omega
  have HR := Lib.hid (fun V (hV : Below w.heap.size w V) => queryRead_any bm bo s V (hl.below hV) (hlo.below hV) (tab_below ht hV) (hL.below hV) hsz)
  have HS := Lib.hid (fun V => specQueryRead_any s V hsz)
  obtain ⟨hlm, hwf, hmk⟩ := readD_sm s 201
  have HLM := Lib.hid hlm
  have HMK := Lib.hid hmk
  unfold RdI at HR
  unfold RdSp at HS
  generalize (readD s).isSome = b at HR HS
  generalize (readD s).getD qd0 = q at HR HS HLM HMK
  clear hl hlo ht hL hlm hwf hmk hbig
  go_enter Tryd.func4, Tryd.ntmps4
  go_wp2_with fail
  refine (HS.out w).mono ?_
  rintro e w1 ⟨A0, c0, B0, d0, ⟨rfl, h0⟩, hb1⟩
  have fW : Below w1.heap.size w1 (w1.alloc (.cells #[.int .i64 q.kd, .string q.fd, .slice A0 q.ws.length c0, .int .i64 q.fr, .int .i64 q.tgt, .slice B0 q.ks.length d0] 26)) := (Below.refl _ _).alloc (Nat.le_refl _) _
  have v2 := alloc_new w1 (.cells #[.int .i64 q.kd, .string q.fd, .slice A0 q.ws.length c0, .int .i64 q.fr, .int .i64 q.tgt, .slice B0 q.ks.length d0] 26)
  have zz2 : w1.heap.size < (w1.alloc (.cells #[.int .i64 q.kd, .string q.fd, .slice A0 q.ws.length c0, .int .i64 q.fr, .int .i64 q.tgt, .slice B0 q.ks.length d0] 26)).heap.size := by simp
  have H2 := hb1.trans (fW.mono hb1.size)
  have hh2 := Lib.hid (h0.below fW)
  clear fW hb1 h0
  go_wp2_with fail
  generalize (w1.alloc (.cells #[.int .i64 q.kd, .string q.fd, .slice A0 q.ws.length c0, .int .i64 q.fr, .int .i64 q.tgt, .slice B0 q.ks.length d0] 26)) = W2 at v2 zz2 H2 hh2 ⊢
  generalize w1.heap.size = p at v2 zz2 ⊢
  have s2 := H2.size
  refine (HR.out W2 H2).mono ?_
  rintro e w3 ⟨A1, c1, B1, d1, ⟨rfl, h1⟩, hb3⟩
  have s3 := hb3.size
  have fW : Below w3.heap.size w3 (w3.alloc (.cells #[.int .i64 q.kd, .string q.fd, .slice A1 q.ws.length c1, .int .i64 q.fr, .int .i64 q.tgt, .slice B1 q.ks.length d1] 26)) := (Below.refl _ _).alloc (Nat.le_refl _) _
  have v4 := alloc_new w3 (.cells #[.int .i64 q.kd, .string q.fd, .slice A1 q.ws.length c1, .int .i64 q.fr, .int .i64 q.tgt, .slice B1 q.ks.length d1] 26)
  have zz4 : w3.heap.size < (w3.alloc (.cells #[.int .i64 q.kd, .string q.fd, .slice A1 q.ws.length c1, .int .i64 q.fr, .int .i64 q.tgt, .slice B1 q.ks.length d1] 26)).heap.size := by simp
  have M4 := hb3.trans (fW.mono s3)
  have hh4 : Hid (OwnQ 201 (fun k => W2.heap.size ≤ k ∧ k < w3.heap.size) (w3.alloc (.cells #[.int .i64 q.kd, .string q.fd, .slice A1 q.ws.length c1, .int .i64 q.fr, .int .i64 q.tgt, .slice B1 q.ks.length d1] 26)) ⟨q, A1, c1, B1, d1⟩) := OwnQ.same _ _ _ _ h1 (SameS.below fW)
  have v2b := (M4.block p zz2).trans v2
  have hk2 := Lib.hid (hh2.out.below M4)
  obtain ⟨y0, y1, y2, y3, y4, y5⟩ := blk6 v4
  obtain ⟨x0, x1, x2, x3, x4, x5⟩ := blk6 v2b
  clear fW hb3 h1 v2
  go_wp2_with fail
  generalize (w3.alloc (.cells #[.int .i64 q.kd, .string q.fd, .slice A1 q.ws.length c1, .int .i64 q.fr, .int .i64 q.tgt, .slice B1 q.ks.length d1] 26)) = W4 at v4 zz4 M4 hh4 v2b hk2 y0 y1 y2 y3 y4 y5 x0 x1 x2 x3 x4 x5 ⊢
  generalize hp2 : w3.heap.size = p2 at v4 zz4 s3 hh4 y0 y1 y2 y3 y4 y5 ⊢
  clear hp2
  have s4 := M4.size
  refine (eqQuery_same 201 q A1 c1 B1 d1 A0 c0 B0 d0 W4 hh4.out.has hk2.out HLM.out).mono ?_
  rintro e w5 ⟨rfl, hb5⟩
  have s5 := hb5.size
  have M5 := M4.trans (hb5.mono s4)
  have v5 := (hb5.block p2 zz4).trans v4
  have v5b := (hb5.block p (by omega)).trans v2b
  have hh5 : Hid (OwnQ 201 (fun k => W2.heap.size ≤ k ∧ k < p2) w5 ⟨q, A1, c1, B1, d1⟩) := OwnQ.same _ _ _ _ hh4.out (SameS.below hb5)
  have hk5 := Lib.hid (hk2.out.below hb5)
  clear y0 y1 y2 y3 y4 y5 x0 x1 x2 x3 x4 x5 v4 v2b hh4 hk2 hb5 M4
  obtain ⟨y0, y1, y2, y3, y4, y5⟩ := blk6 v5
  have hbb : (b != b) = false := by cases b <;> rfl
  obtain ⟨r, hr⟩ : ∃ r, r = 1 + mkN 201 q := ⟨_, rfl⟩
  have hr1 : r ≤ 20000 := by have := HMK.out; omega
  have hdr : decide ((r : Int) < 0) = false := decide_eq_false (by omega)
  have HRR := Lib.hid hr
  clear hr
  go_wp2_with fail
  refine (markQuery_any 200 _ ⟨q, A1, c1, B1, d1⟩ 1 r w5 HRR hh5 HLM (Nat.le_refl _) (by omega)).mono ?_
  rintro e w6 ⟨⟨rfl, hm6⟩, o6⟩
  have s6 := o6.2.1
  have hb6 : Below W2.heap.size w5 w6 := o6.base (fun k hk => hk.1) (by omega)
  have M6 := M5.trans hb6
  have v6 := (o6.2.2 p2 (by omega) (fun e => absurd e.2 (Nat.lt_irrefl _))).trans v5
  have v6b := (hb6.block p zz2).trans v5b
  have hg6 := Lib.hid (OwnQ.has hm6)
  clear y0 y1 y2 y3 y4 y5 v5 v5b hh5 hk5 hm6 o6 hb6 M5
  obtain ⟨y0, y1, y2, y3, y4, y5⟩ := blk6 v6
  go_wp2_with fail
  refine (heldQuery_any 200 q A1 c1 B1 d1 1 r w6 HRR hg6 HLM (Nat.le_refl _) (by omega)).mono ?_
  rintro e w7 ⟨rfl, hb7⟩
  have M7 := M6.trans (hb7.mono (by omega))
  have v7 := (hb7.block p2 (by omega)).trans v6
  have v7b := (hb7.block p (by omega)).trans v6b
  have hg7 := Lib.hid (hg6.out.below hb7)
  have H7 := H2.trans (M7.mono s2)
  have s7 := hb7.size
  clear y0 y1 y2 y3 y4 y5 v6 v6b hg6 hb7 M6
  go_wp2_with fail
  refine (HR.out w7 H7).mono ?_
  rintro e w8 ⟨A2, c2, B2, d2, ⟨rfl, h8⟩, hb8⟩
  have s8 := hb8.size
  have fW : Below w8.heap.size w8 (w8.alloc (.cells #[.int .i64 q.kd, .string q.fd, .slice A2 q.ws.length c2, .int .i64 q.fr, .int .i64 q.tgt, .slice B2 q.ks.length d2] 26)) := (Below.refl _ _).alloc (Nat.le_refl _) _
  have v9 := alloc_new w8 (.cells #[.int .i64 q.kd, .string q.fd, .slice A2 q.ws.length c2, .int .i64 q.fr, .int .i64 q.tgt, .slice B2 q.ks.length d2] 26)
  have M9 := hb8.trans (fW.mono s8)
  have hh9 : Hid (HasQ 201 (w8.alloc (.cells #[.int .i64 q.kd, .string q.fd, .slice A2 q.ws.length c2, .int .i64 q.fr, .int .i64 q.tgt, .slice B2 q.ks.length d2] 26)) q A2 c2 B2) := (OwnQ.has h8).below fW
  have v9a := (M9.block p2 (by omega)).trans v7
  have v9b := (M9.block p (by omega)).trans v7b
  have hg9 := Lib.hid (hg7.out.below M9)
  have hk9 := Lib.hid (hh2.out.below (M7.trans (M9.mono (by omega))))
  have H9 := H7.trans (M9.mono (by omega))
  obtain ⟨y0, y1, y2, y3, y4, y5⟩ := blk6 v9
  obtain ⟨x0, x1, x2, x3, x4, x5⟩ := blk6 v9b
  have s9 := M9.size
  clear fW hb8 h8 v7 v7b hg7 M7 H7 hh2
  go_wp2_with fail
  generalize (w8.alloc (.cells #[.int .i64 q.kd, .string q.fd, .slice A2 q.ws.length c2, .int .i64 q.fr, .int .i64 q.tgt, .slice B2 q.ks.length d2] 26)) = W9 at v9 M9 hh9 v9a v9b hg9 hk9 H9 s9 y0 y1 y2 y3 y4 y5 x0 x1 x2 x3 x4 x5 ⊢
  refine (eqQuery_same 201 q A2 c2 B2 d2 A0 c0 B0 d0 W9 hh9.out hk9.out HLM.out).mono ?_
  rintro e w10 ⟨rfl, hb10⟩
  have v10 := (hb10.block p2 (by omega)).trans v9a
  have hg10 := Lib.hid (hg9.out.below hb10)
  have H10 := H9.trans (hb10.mono H9.size)
  clear y0 y1 y2 y3 y4 y5 x0 x1 x2 x3 x4 x5 v9 v9a v9b hh9 hg9 hk9 hb10
  obtain ⟨y0, y1, y2, y3, y4, y5⟩ := blk6 v10
  go_wp2_with fail
  refine (heldQuery_any 200 q A1 c1 B1 d1 1 r w10 HRR hg10 HLM (Nat.le_refl _) (by omega)).mono ?_
  rintro e w11 ⟨rfl, hb11⟩
  have H11 := H10.trans (hb11.mono H10.size)
  clear y0 y1 y2 y3 y4 y5 v10 hg10 hb11
  go_wp2
  go_ret
  exact ⟨rfl, H11⟩
theorem walkR_FnExactQueryRead (s : ByteArray) (_ : s.size ≤ maxLen) (w : World) (hl : ∃ bm, LaidSh bm w) (hlo : ∃ bo, LaidOp bo w) (ht : PowT w) (h2 : ∃ te pe, w.cell? ⟨4, 0, none⟩ = some (.iface te pe)) (h3 : ∃ te pe, w.cell? ⟨5, 0, none⟩ = some (.iface te pe)) (h4 : ∃ m, w.cell? ⟨2, 0, none⟩ = some (.int .i64 m)) :
    Calls Tryd.prog 4 #[.string s] w fun e w' => e = .returned (.bool true) ∧ Below w.heap.size w w' := by
  obtain ⟨bm, hl⟩ := hl
  obtain ⟨bo, hlo2⟩ := hlo
  exact walk_FnExactQueryRead bm bo s w hl hlo2 ht (laidR_mk ⟨bo, hlo2⟩ h2 h3 h4)
end Go.Proofs.YtaobgliimbmemaaDoor
