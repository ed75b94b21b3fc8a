/-
  impl's text: the leaves printed by mk_put.py.
-/
import Derived.Test.YtaobgliimbmemaaGreatDoorLaidOp
import Derived.Test.YtaobgliimbmemaaGreatDoorShelf
import Derived.Lib.AppendIntMem
namespace Go.Proofs.YtaobgliimbmemaaGreatDoor
open Go.RowKit Go.Sort
set_option linter.unusedVariables false
set_option linter.unusedSimpArgs false

theorem itoa_any (n : Nat) (hn : n ≤ 999999999) (w : World) (ht : PowT w) :
    Calls Tryz.prog 35 #[.int .i64 (n : Int)] w fun e w' => e = .returned (.string (tb (decL (n : Int)))) ∧ Below w.heap.size w w' := by
  refine (Tryz.strconv_Itoa (n : Int) (by omega) (by omega) w ht).mono ?_
  rintro e w' ⟨rfl, k, os, rfl⟩
  refine ⟨?_, ?_⟩
  · unfold Lib.itoa
    rw [if_neg (by omega)]
    rfl
  · exact Lib.below_grow _ w (Nat.le_refl _) k os
theorem cDecI (n : Nat) (td : ByteArray) (hn : n ≤ 999999999) (ht : Hid (td = tb (decL (n : Int)))) {W : World} (hp : Hid (PowT W)) (dw : Nat) (os : Array Obj) :
    Calls Tryz.prog 35 #[.int .i64 (n : Int)] (grow (redrawn W dw) os) fun e w'' => e = .returned (.string td) ∧ ∃ p : Regrown, w'' = grow (redrawn W p.d) p.os := by
  rw [ht.out]
  exact Calls.regrown_of (itoa_any n hn _ (tab_below hp.out (below_regrown W dw os)))
theorem flatI (L : List ByteArray) : L.flatMap encT = L.map Value.string := by induction L with | nil => rfl | cons x r ih => rw [List.flatMap_cons, ih]; rfl
theorem join_any (A : Option Addr) (c : Nat) (ws : List ByteArray) (sg : ByteArray) (w : World) (h : SrcQ w A c ws) (hn : 1 ≤ ws.length) (hN : ws.length ≤ 1048576) (hl : (joinT sg.data.toList ws).length ≤ 1048576) :
    Calls Tryz.prog 34 #[.slice A ws.length c, .string sg] w fun e w' => e = .returned (.string (tb (joinT sg.data.toList ws))) ∧ Below w.heap.size w w' := by
  obtain ⟨b, off, rfl, hb, hc⟩ := h.1.1.2 (by omega)
  refine Tryz.strings_Join b off c ws sg w (fun j x hx => ?_) hb ?_ h.2.1 (Nat.le_trans hl (by omega))
  · refine hc j _ ?_
    rw [flatI, List.getElem?_map, hx]
    rfl
  · omega
theorem cJoinI (A : Option Addr) (c : Nat) (ws : List ByteArray) (tj : ByteArray) (ht : Hid (tj = tb (joinT [43] ws))) {W : World} (h : Hid (SrcQ W A c ws)) (hl : ws.length ≤ 4) (hn : 1 ≤ ws.length) (hj : (joinP ws).length ≤ 100) (dw : Nat) (os : Array Obj) :
    Calls Tryz.prog 34 #[.slice A ws.length c, .string ⟨#[43]⟩] (grow (redrawn W dw) os) fun e w'' => e = .returned (.string tj) ∧ ∃ p : Regrown, w'' = grow (redrawn W p.d) p.os := by
  rw [ht.out]
  exact Calls.regrown_of (join_any A c ws ⟨#[43]⟩ _ (h.out.below (below_regrown W dw os)) hn (by omega) (by rw [show (⟨#[43]⟩ : ByteArray).data.toList = [43] from rfl, joinT_plus]; omega))
set_option maxRecDepth 8000 in
theorem putI1  (A : Option Addr) (c : Nat) (B : Option Addr) (d : Nat) (w : World) (HT : Hid (Lib.TabIs Tryz.prog w "internal/strconv.uint64pow10" .u64 Lib.pow10Tab)) :
    Calls Tryz.prog 19 #[.agg #[.int .i64 1, .string ⟨#[]⟩, .slice A 0 c, .int .i64 0, .int .i64 0, .slice B 0 d]] w fun e w' => e = .returned (.string (tb (leafL ⟨1, ⟨#[]⟩, [], 0, 0, []⟩))) ∧ Below w.heap.size w w' := by
  have HR : Hid ((⟨#[97, 108, 108]⟩ : ByteArray) = tb (leafL ⟨1, ⟨#[]⟩, [], 0, 0, []⟩)) := rfl
  have cb := alloc_new w (.cells #[.int .i64 1, .string ⟨#[]⟩, .slice A 0 c, .int .i64 0, .int .i64 0, .slice B 0 d] 27)
  have hB : Below w.heap.size w (w.alloc (.cells #[.int .i64 1, .string ⟨#[]⟩, .slice A 0 c, .int .i64 0, .int .i64 0, .slice B 0 d] 27)) := by (repeat' (first | exact Below.refl _ _ | apply Below.alloc | apply Below.setCell | apply Below.drew | apply below_draws)) <;> (first | omega | (simp <;> omega))
  have sz : w.heap.size < (w.alloc (.cells #[.int .i64 1, .string ⟨#[]⟩, .slice A 0 c, .int .i64 0, .int .i64 0, .slice B 0 d] 27)).heap.size := by simp
  go_enter Tryz.func19, Tryz.ntmps19
  obtain ⟨x0, x1, x2, x3, x4, x5⟩ := blk6 cb
  go_wp2
  go_ret
  exact ⟨ret_t HR.out, hB⟩
set_option maxRecDepth 8000 in
theorem putI2 (fd x : ByteArray) (hf : fd.size ≤ 12) (hx : x.size ≤ 12) (A : Option Addr) (c : Nat) (B : Option Addr) (d : Nat) (w : World) (HA : Hid (SrcT w A c [x])) (HT : Hid (Lib.TabIs Tryz.prog w "internal/strconv.uint64pow10" .u64 Lib.pow10Tab)) :
    Calls Tryz.prog 19 #[.agg #[.int .i64 2, .string fd, .slice A 1 c, .int .i64 0, .int .i64 0, .slice B 0 d]] w fun e w' => e = .returned (.string (tb (leafL ⟨2, fd, [x], 0, 0, []⟩))) ∧ Below w.heap.size w w' := by
  have HR : Hid (∀ z : ByteArray, z = fd ++ ⟨#[58]⟩ ++ x → z = tb (leafL ⟨2, fd, [x], 0, 0, []⟩)) := fun z hz => tb_eq (by rw [hz]; simp [leafL, hdW, tb])
  have cb := alloc_new w (.cells #[.int .i64 2, .string fd, .slice A 1 c, .int .i64 0, .int .i64 0, .slice B 0 d] 27)
  have hB : Below w.heap.size w (w.alloc (.cells #[.int .i64 2, .string fd, .slice A 1 c, .int .i64 0, .int .i64 0, .slice B 0 d] 27)) := by (repeat' (first | exact Below.refl _ _ | apply Below.alloc | apply Below.setCell | apply Below.drew | apply below_draws)) <;> (first | omega | (simp <;> omega))
  have sz : w.heap.size < (w.alloc (.cells #[.int .i64 2, .string fd, .slice A 1 c, .int .i64 0, .int .i64 0, .slice B 0 d] 27)).heap.size := by simp
  go_enter Tryz.func19, Tryz.ntmps19
  obtain ⟨x0, x1, x2, x3, x4, x5⟩ := blk6 cb
  go_wp2_with fail
  generalize (w.alloc (.cells #[.int .i64 2, .string fd, .slice A 1 c, .int .i64 0, .int .i64 0, .slice B 0 d] 27)) = W1 at cb hB sz x0 x1 x2 x3 x4 x5 ⊢
  replace x1 := cell_regrown x1
  replace x2 := cell_regrown x2
  replace x3 := cell_regrown x3
  replace x4 := cell_regrown x4
  obtain ⟨b, off, rfl, hbb, e0⟩ := (SrcE.below HA.out (Below.mono hB (Nat.le_refl _))).atT (k := 0) (by simp)
  have e1 : W1.cell? ⟨b, off, none⟩ = some (.string x) := e0
  replace e1 := cell_regrown e1
  have y1 : ¬ 9223372036854775807 < fd.size + 1 := by omega
  have yy1 : ¬ 9223372036854775807 ≤ fd.size := by omega
  have y2 : ¬ 9223372036854775807 < fd.size + 1 + x.size := by omega
  have z1 : ¬ 9223372036854775807 < fd.size + (⟨#[58]⟩ : ByteArray).size := by show ¬ _ < _ + 1; omega
  have z2 : ¬ 9223372036854775807 < (fd ++ ⟨#[58]⟩).size + x.size := by rw [ByteArray.size_append]; show ¬ _ < _ + 1 + _; omega
  refine region_qw (by kernel_rfl) (by kernel_rfl) ?_
  repeat (
    refine qw_step (fun K hK => ?_)
    go_simp
    first
      | (refine hK _ ?_; clear hK K)
      | fail)
  refine qw_nil ?_
  intro _ hw'
  obtain ⟨⟨dq, osq⟩, hw''⟩ := hw'
  subst hw''
  have hBq := hB.trans ((below_regrown W1 dq osq).mono (by have := hB.size; omega))
  dsimp only
  generalize grow (redrawn W1 dq) osq = Wq at hBq ⊢
  go_wp2
  go_ret
  exact ⟨ret_t (HR.out _ rfl), hBq⟩
set_option maxRecDepth 8000 in
theorem putI5 (fd x : ByteArray) (hf : fd.size ≤ 12) (hx : x.size ≤ 12) (A : Option Addr) (c : Nat) (B : Option Addr) (d : Nat) (w : World) (HA : Hid (SrcT w A c [x])) (HT : Hid (Lib.TabIs Tryz.prog w "internal/strconv.uint64pow10" .u64 Lib.pow10Tab)) :
    Calls Tryz.prog 19 #[.agg #[.int .i64 5, .string fd, .slice A 1 c, .int .i64 0, .int .i64 0, .slice B 0 d]] w fun e w' => e = .returned (.string (tb (leafL ⟨5, fd, [x], 0, 0, []⟩))) ∧ Below w.heap.size w w' := by
  have HR : Hid (∀ z : ByteArray, z = fd ++ ⟨#[58]⟩ ++ x → z = tb (leafL ⟨5, fd, [x], 0, 0, []⟩)) := fun z hz => tb_eq (by rw [hz]; simp [leafL, hdW, tb])
  have cb := alloc_new w (.cells #[.int .i64 5, .string fd, .slice A 1 c, .int .i64 0, .int .i64 0, .slice B 0 d] 27)
  have hB : Below w.heap.size w (w.alloc (.cells #[.int .i64 5, .string fd, .slice A 1 c, .int .i64 0, .int .i64 0, .slice B 0 d] 27)) := by (repeat' (first | exact Below.refl _ _ | apply Below.alloc | apply Below.setCell | apply Below.drew | apply below_draws)) <;> (first | omega | (simp <;> omega))
  have sz : w.heap.size < (w.alloc (.cells #[.int .i64 5, .string fd, .slice A 1 c, .int .i64 0, .int .i64 0, .slice B 0 d] 27)).heap.size := by simp
  go_enter Tryz.func19, Tryz.ntmps19
  obtain ⟨x0, x1, x2, x3, x4, x5⟩ := blk6 cb
  go_wp2_with fail
  generalize (w.alloc (.cells #[.int .i64 5, .string fd, .slice A 1 c, .int .i64 0, .int .i64 0, .slice B 0 d] 27)) = W1 at cb hB sz x0 x1 x2 x3 x4 x5 ⊢
  replace x1 := cell_regrown x1
  replace x2 := cell_regrown x2
  replace x3 := cell_regrown x3
  replace x4 := cell_regrown x4
  obtain ⟨b, off, rfl, hbb, e0⟩ := (SrcE.below HA.out (Below.mono hB (Nat.le_refl _))).atT (k := 0) (by simp)
  have e1 : W1.cell? ⟨b, off, none⟩ = some (.string x) := e0
  replace e1 := cell_regrown e1
  have y1 : ¬ 9223372036854775807 < fd.size + 1 := by omega
  have yy1 : ¬ 9223372036854775807 ≤ fd.size := by omega
  have y2 : ¬ 9223372036854775807 < fd.size + 1 + x.size := by omega
  have z1 : ¬ 9223372036854775807 < fd.size + (⟨#[58]⟩ : ByteArray).size := by show ¬ _ < _ + 1; omega
  have z2 : ¬ 9223372036854775807 < (fd ++ ⟨#[58]⟩).size + x.size := by rw [ByteArray.size_append]; show ¬ _ < _ + 1 + _; omega
  refine region_qw (by kernel_rfl) (by kernel_rfl) ?_
  repeat (
    refine qw_step (fun K hK => ?_)
    go_simp
    first
      | (refine hK _ ?_; clear hK K)
      | fail)
  refine qw_nil ?_
  intro _ hw'
  obtain ⟨⟨dq, osq⟩, hw''⟩ := hw'
  subst hw''
  have hBq := hB.trans ((below_regrown W1 dq osq).mono (by have := hB.size; omega))
  dsimp only
  generalize grow (redrawn W1 dq) osq = Wq at hBq ⊢
  go_wp2
  go_ret
  exact ⟨ret_t (HR.out _ rfl), hBq⟩
set_option maxRecDepth 8000 in
theorem putI3 (fd : ByteArray) (ws : List ByteArray) (f : Nat) (hf : fd.size ≤ 12) (hfr : f ≤ 999999999) (hl : ws.length ≤ 4) (hn : 1 ≤ ws.length) (hj : (joinP ws).length ≤ 100) (A : Option Addr) (c : Nat) (B : Option Addr) (d : Nat) (w : World) (HA : Hid (SrcQ w A c ws)) (HT : Hid (Lib.TabIs Tryz.prog w "internal/strconv.uint64pow10" .u64 Lib.pow10Tab)) :
    Calls Tryz.prog 19 #[.agg #[.int .i64 3, .string fd, .slice A ws.length c, .int .i64 (f : Int), .int .i64 0, .slice B 0 d]] w fun e w' => e = .returned (.string (tb (leafL ⟨3, fd, ws, (f : Int), 0, []⟩))) ∧ Below w.heap.size w w' := by
  obtain ⟨td, htd⟩ : ∃ td, td = tb (decL (f : Int)) := ⟨_, rfl⟩
  have htl : td.size ≤ 9 := by rw [htd, tb_size]; exact decL_len hfr
  obtain ⟨tj, htj⟩ : ∃ tj, tj = tb (joinT [43] ws) := ⟨_, rfl⟩
  have hjl : tj.size ≤ 100 := by rw [htj, tb_size, joinT_plus]; exact hj
  have HR : Hid (∀ z : ByteArray, z = fd ++ ⟨#[58]⟩ ++ tj ++ ⟨#[126]⟩ ++ td → z = tb (leafL ⟨3, fd, ws, (f : Int), 0, []⟩)) := fun z hz => tb_eq (by rw [hz]; simp [htd, htj, joinT_plus, leafL, hdW, tb])
  have cb := alloc_new w (.cells #[.int .i64 3, .string fd, .slice A ws.length c, .int .i64 (f : Int), .int .i64 0, .slice B 0 d] 27)
  have hB : Below w.heap.size w (w.alloc (.cells #[.int .i64 3, .string fd, .slice A ws.length c, .int .i64 (f : Int), .int .i64 0, .slice B 0 d] 27)) := by (repeat' (first | exact Below.refl _ _ | apply Below.alloc | apply Below.setCell | apply Below.drew | apply below_draws)) <;> (first | omega | (simp <;> omega))
  have sz : w.heap.size < (w.alloc (.cells #[.int .i64 3, .string fd, .slice A ws.length c, .int .i64 (f : Int), .int .i64 0, .slice B 0 d] 27)).heap.size := by simp
  go_enter Tryz.func19, Tryz.ntmps19
  obtain ⟨x0, x1, x2, x3, x4, x5⟩ := blk6 cb
  go_wp2_with fail
  generalize (w.alloc (.cells #[.int .i64 3, .string fd, .slice A ws.length c, .int .i64 (f : Int), .int .i64 0, .slice B 0 d] 27)) = W1 at cb hB sz x0 x1 x2 x3 x4 x5 ⊢
  replace x1 := cell_regrown x1
  replace x2 := cell_regrown x2
  replace x3 := cell_regrown x3
  replace x4 := cell_regrown x4
  have y1 : ¬ 9223372036854775807 < fd.size + 1 := by omega
  have yy1 : ¬ 9223372036854775807 ≤ fd.size := by omega
  have y2 : ¬ 9223372036854775807 < fd.size + 1 + tj.size := by omega
  have y3 : ¬ 9223372036854775807 < fd.size + 1 + tj.size + 1 := by omega
  have yy3 : ¬ 9223372036854775807 ≤ fd.size + 1 + tj.size := by omega
  have y4 : ¬ 9223372036854775807 < fd.size + 1 + tj.size + 1 + td.size := by omega
  have z1 : ¬ 9223372036854775807 < fd.size + (⟨#[58]⟩ : ByteArray).size := by show ¬ _ < _ + 1; omega
  have z2 : ¬ 9223372036854775807 < (fd ++ ⟨#[58]⟩).size + tj.size := by rw [ByteArray.size_append]; show ¬ _ < _ + 1 + _; omega
  have z3 : ¬ 9223372036854775807 < (fd ++ ⟨#[58]⟩ ++ tj).size + (⟨#[126]⟩ : ByteArray).size := by rw [ByteArray.size_append, ByteArray.size_append]; show ¬ _ < _ + 1 + _ + 1; omega
  have z4 : ¬ 9223372036854775807 < (fd ++ ⟨#[58]⟩ ++ tj ++ ⟨#[126]⟩).size + td.size := by rw [ByteArray.size_append, ByteArray.size_append, ByteArray.size_append]; show ¬ _ < _ + 1 + _ + 1 + _; omega
  have HTQ : Hid (Lib.TabIs Tryz.prog W1 "internal/strconv.uint64pow10" .u64 Lib.pow10Tab) := tab_below HT.out hB
  have HTD := Lib.hid htd
  have HTJ := Lib.hid htj
  clear htd htj
  have HA1 : Hid (SrcQ W1 A c ws) := HA.out.below hB
  refine region_qw (by kernel_rfl) (by kernel_rfl) ?_
  repeat (
    refine qw_step (fun K hK => ?_)
    go_simp
    first
      | (refine hK _ ?_; clear hK K)
      | (apply Exists.intro
         refine ⟨fun _ => ?_, hK _ ?_⟩
         (first | ((go_at_call 35; exact cDecI f td hfr HTD HTQ _ _)) | ((go_at_call 34; exact cJoinI A c ws tj HTJ HA1 hl hn hj _ _)))
         clear hK K)
      | fail)
  refine qw_nil ?_
  intro _ hw'
  obtain ⟨⟨dq, osq⟩, hw''⟩ := hw'
  subst hw''
  have hBq := hB.trans ((below_regrown W1 dq osq).mono (by have := hB.size; omega))
  dsimp only
  generalize grow (redrawn W1 dq) osq = Wq at hBq ⊢
  go_wp2
  go_ret
  exact ⟨ret_t (HR.out _ rfl), hBq⟩
set_option maxRecDepth 8000 in
theorem putI4 (fd x : ByteArray) (f : Nat) (hf : fd.size ≤ 12) (hx : x.size ≤ 12) (hfr : f ≤ 999999999) (A : Option Addr) (c : Nat) (B : Option Addr) (d : Nat) (w : World) (HA : Hid (SrcT w A c [x])) (HT : Hid (Lib.TabIs Tryz.prog w "internal/strconv.uint64pow10" .u64 Lib.pow10Tab)) :
    Calls Tryz.prog 19 #[.agg #[.int .i64 4, .string fd, .slice A 1 c, .int .i64 (f : Int), .int .i64 0, .slice B 0 d]] w fun e w' => e = .returned (.string (tb (leafL ⟨4, fd, [x], (f : Int), 0, []⟩))) ∧ Below w.heap.size w w' := by
  obtain ⟨td, htd⟩ : ∃ td, td = tb (decL (f : Int)) := ⟨_, rfl⟩
  have htl : td.size ≤ 9 := by rw [htd, tb_size]; exact decL_len hfr
  have HR : Hid (∀ z : ByteArray, z = fd ++ ⟨#[58]⟩ ++ x ++ ⟨#[37]⟩ ++ td → z = tb (leafL ⟨4, fd, [x], (f : Int), 0, []⟩)) := fun z hz => tb_eq (by rw [hz]; simp [htd, leafL, hdW, tb])
  have cb := alloc_new w (.cells #[.int .i64 4, .string fd, .slice A 1 c, .int .i64 (f : Int), .int .i64 0, .slice B 0 d] 27)
  have hB : Below w.heap.size w (w.alloc (.cells #[.int .i64 4, .string fd, .slice A 1 c, .int .i64 (f : Int), .int .i64 0, .slice B 0 d] 27)) := by (repeat' (first | exact Below.refl _ _ | apply Below.alloc | apply Below.setCell | apply Below.drew | apply below_draws)) <;> (first | omega | (simp <;> omega))
  have sz : w.heap.size < (w.alloc (.cells #[.int .i64 4, .string fd, .slice A 1 c, .int .i64 (f : Int), .int .i64 0, .slice B 0 d] 27)).heap.size := by simp
  go_enter Tryz.func19, Tryz.ntmps19
  obtain ⟨x0, x1, x2, x3, x4, x5⟩ := blk6 cb
  go_wp2_with fail
  generalize (w.alloc (.cells #[.int .i64 4, .string fd, .slice A 1 c, .int .i64 (f : Int), .int .i64 0, .slice B 0 d] 27)) = W1 at cb hB sz x0 x1 x2 x3 x4 x5 ⊢
  replace x1 := cell_regrown x1
  replace x2 := cell_regrown x2
  replace x3 := cell_regrown x3
  replace x4 := cell_regrown x4
  obtain ⟨b, off, rfl, hbb, e0⟩ := (SrcE.below HA.out (Below.mono hB (Nat.le_refl _))).atT (k := 0) (by simp)
  have e1 : W1.cell? ⟨b, off, none⟩ = some (.string x) := e0
  replace e1 := cell_regrown e1
  have y1 : ¬ 9223372036854775807 < fd.size + 1 := by omega
  have yy1 : ¬ 9223372036854775807 ≤ fd.size := by omega
  have y2 : ¬ 9223372036854775807 < fd.size + 1 + x.size := by omega
  have y3 : ¬ 9223372036854775807 < fd.size + 1 + x.size + 1 := by omega
  have yy3 : ¬ 9223372036854775807 ≤ fd.size + 1 + x.size := by omega
  have y4 : ¬ 9223372036854775807 < fd.size + 1 + x.size + 1 + td.size := by omega
  have z1 : ¬ 9223372036854775807 < fd.size + (⟨#[58]⟩ : ByteArray).size := by show ¬ _ < _ + 1; omega
  have z2 : ¬ 9223372036854775807 < (fd ++ ⟨#[58]⟩).size + x.size := by rw [ByteArray.size_append]; show ¬ _ < _ + 1 + _; omega
  have z3 : ¬ 9223372036854775807 < (fd ++ ⟨#[58]⟩ ++ x).size + (⟨#[37]⟩ : ByteArray).size := by rw [ByteArray.size_append, ByteArray.size_append]; show ¬ _ < _ + 1 + _ + 1; omega
  have z4 : ¬ 9223372036854775807 < (fd ++ ⟨#[58]⟩ ++ x ++ ⟨#[37]⟩).size + td.size := by rw [ByteArray.size_append, ByteArray.size_append, ByteArray.size_append]; show ¬ _ < _ + 1 + _ + 1 + _; omega
  have HTQ : Hid (Lib.TabIs Tryz.prog W1 "internal/strconv.uint64pow10" .u64 Lib.pow10Tab) := tab_below HT.out hB
  have HTD := Lib.hid htd
  clear htd
  refine region_qw (by kernel_rfl) (by kernel_rfl) ?_
  repeat (
    refine qw_step (fun K hK => ?_)
    go_simp
    first
      | (refine hK _ ?_; clear hK K)
      | (apply Exists.intro
         refine ⟨fun _ => ?_, hK _ ?_⟩
         (first | ((go_at_call 35; exact cDecI f td hfr HTD HTQ _ _)))
         clear hK K)
      | fail)
  refine qw_nil ?_
  intro _ hw'
  obtain ⟨⟨dq, osq⟩, hw''⟩ := hw'
  subst hw''
  have hBq := hB.trans ((below_regrown W1 dq osq).mono (by have := hB.size; omega))
  dsimp only
  generalize grow (redrawn W1 dq) osq = Wq at hBq ⊢
  go_wp2
  go_ret
  exact ⟨ret_t (HR.out _ rfl), hBq⟩
set_option maxRecDepth 8000 in
theorem putI6 (fd : ByteArray) (f t : Nat) (hf : fd.size ≤ 12) (hfr : f ≤ 999999999) (htr : t ≤ 999999999) (A : Option Addr) (c : Nat) (B : Option Addr) (d : Nat) (w : World) (HT : Hid (Lib.TabIs Tryz.prog w "internal/strconv.uint64pow10" .u64 Lib.pow10Tab)) :
    Calls Tryz.prog 19 #[.agg #[.int .i64 6, .string fd, .slice A 0 c, .int .i64 (f : Int), .int .i64 (t : Int), .slice B 0 d]] w fun e w' => e = .returned (.string (tb (leafL ⟨6, fd, [], (f : Int), (t : Int), []⟩))) ∧ Below w.heap.size w w' := by
  obtain ⟨td, htd⟩ : ∃ td, td = tb (decL (f : Int)) := ⟨_, rfl⟩
  have htl : td.size ≤ 9 := by rw [htd, tb_size]; exact decL_len hfr
  obtain ⟨tt, htt⟩ : ∃ tt, tt = tb (decL (t : Int)) := ⟨_, rfl⟩
  have htl2 : tt.size ≤ 9 := by rw [htt, tb_size]; exact decL_len htr
  have HR : Hid (∀ z : ByteArray, z = fd ++ ⟨#[61]⟩ ++ td ++ ⟨#[46, 46]⟩ ++ tt → z = tb (leafL ⟨6, fd, [], (f : Int), (t : Int), []⟩)) := fun z hz => tb_eq (by rw [hz]; simp [htd, htt, leafL, hdW, tb])
  have cb := alloc_new w (.cells #[.int .i64 6, .string fd, .slice A 0 c, .int .i64 (f : Int), .int .i64 (t : Int), .slice B 0 d] 27)
  have hB : Below w.heap.size w (w.alloc (.cells #[.int .i64 6, .string fd, .slice A 0 c, .int .i64 (f : Int), .int .i64 (t : Int), .slice B 0 d] 27)) := by (repeat' (first | exact Below.refl _ _ | apply Below.alloc | apply Below.setCell | apply Below.drew | apply below_draws)) <;> (first | omega | (simp <;> omega))
  have sz : w.heap.size < (w.alloc (.cells #[.int .i64 6, .string fd, .slice A 0 c, .int .i64 (f : Int), .int .i64 (t : Int), .slice B 0 d] 27)).heap.size := by simp
  go_enter Tryz.func19, Tryz.ntmps19
  obtain ⟨x0, x1, x2, x3, x4, x5⟩ := blk6 cb
  go_wp2_with fail
  generalize (w.alloc (.cells #[.int .i64 6, .string fd, .slice A 0 c, .int .i64 (f : Int), .int .i64 (t : Int), .slice B 0 d] 27)) = W1 at cb hB sz x0 x1 x2 x3 x4 x5 ⊢
  replace x1 := cell_regrown x1
  replace x2 := cell_regrown x2
  replace x3 := cell_regrown x3
  replace x4 := cell_regrown x4
  have y1 : ¬ 9223372036854775807 < fd.size + 1 := by omega
  have yy1 : ¬ 9223372036854775807 ≤ fd.size := by omega
  have y2 : ¬ 9223372036854775807 < fd.size + 1 + td.size := by omega
  have y3 : ¬ 9223372036854775807 < fd.size + 1 + td.size + 2 := by omega
  have y4 : ¬ 9223372036854775807 < fd.size + 1 + td.size + 2 + tt.size := by omega
  have z1 : ¬ 9223372036854775807 < fd.size + (⟨#[61]⟩ : ByteArray).size := by show ¬ _ < _ + 1; omega
  have z2 : ¬ 9223372036854775807 < (fd ++ ⟨#[61]⟩).size + td.size := by rw [ByteArray.size_append]; show ¬ _ < _ + 1 + _; omega
  have z3 : ¬ 9223372036854775807 < (fd ++ ⟨#[61]⟩ ++ td).size + (⟨#[46, 46]⟩ : ByteArray).size := by rw [ByteArray.size_append, ByteArray.size_append]; show ¬ _ < _ + 1 + _ + 2; omega
  have z4 : ¬ 9223372036854775807 < (fd ++ ⟨#[61]⟩ ++ td ++ ⟨#[46, 46]⟩).size + tt.size := by rw [ByteArray.size_append, ByteArray.size_append, ByteArray.size_append]; show ¬ _ < _ + 1 + _ + 2 + _; omega
  have HTQ : Hid (Lib.TabIs Tryz.prog W1 "internal/strconv.uint64pow10" .u64 Lib.pow10Tab) := tab_below HT.out hB
  have HTD := Lib.hid htd
  have HTT := Lib.hid htt
  clear htd htt
  refine region_qw (by kernel_rfl) (by kernel_rfl) ?_
  repeat (
    refine qw_step (fun K hK => ?_)
    go_simp
    first
      | (refine hK _ ?_; clear hK K)
      | (apply Exists.intro
         refine ⟨fun _ => ?_, hK _ ?_⟩
         (first | ((go_at_call_of 35 f; exact cDecI f td hfr HTD HTQ _ _)) | ((go_at_call_of 35 t; exact cDecI t tt htr HTT HTQ _ _)))
         clear hK K)
      | fail)
  refine qw_nil ?_
  intro _ hw'
  obtain ⟨⟨dq, osq⟩, hw''⟩ := hw'
  subst hw''
  have hBq := hB.trans ((below_regrown W1 dq osq).mono (by have := hB.size; omega))
  dsimp only
  generalize grow (redrawn W1 dq) osq = Wq at hBq ⊢
  go_wp2
  go_ret
  exact ⟨ret_t (HR.out _ rfl), hBq⟩
end Go.Proofs.YtaobgliimbmemaaGreatDoor
