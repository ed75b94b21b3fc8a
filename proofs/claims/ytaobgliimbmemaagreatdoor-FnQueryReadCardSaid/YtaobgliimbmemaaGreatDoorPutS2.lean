/-
  spec.l11Put: the leaves printed by mk_put.py.
-/
import Derived.Test.YtaobgliimbmemaaGreatDoorPutS
import Derived.Test.YtaobgliimbmemaaGreatDoorQdTo2
namespace Go.Proofs.YtaobgliimbmemaaGreatDoor
open Go.RowKit Go.Sort
set_option linter.unusedVariables false
set_option linter.unusedSimpArgs false

theorem cDecS (n : Nat) (td : ByteArray) (hn : n ≤ 999999999) (ht : Hid (td = tb (decL (n : Int)))) (W : World) (dw : Nat) (os : Array Obj) :
    Calls Tryz.prog 32 #[.int .i64 (n : Int)] (grow (redrawn W dw) os) fun e w'' => e = .returned (.string td) ∧ ∃ p : Regrown, w'' = grow (redrawn W p.d) p.os := by
  rw [ht.out]
  exact Calls.regrown_of (l1Dec_any n hn _)
theorem cJoinS (A : Option Addr) (c : Nat) (ws : List ByteArray) (tj : ByteArray) (ht : Hid (tj = tb (joinT [43] ws))) {W : World} (h : Hid (SrcQ W A c ws)) (hl : ws.length ≤ 4) (hn : 1 ≤ ws.length) (hj : (joinP ws).length ≤ 100) (dw : Nat) (os : Array Obj) :
    Calls Tryz.prog 33 #[.slice A ws.length c, .string ⟨#[43]⟩] (grow (redrawn W dw) os) fun e w'' => e = .returned (.string tj) ∧ ∃ p : Regrown, w'' = grow (redrawn W p.d) p.os := by
  rw [ht.out]
  exact Calls.regrown_of (l11Join_any A c ws ⟨#[43]⟩ _ (h.out.below (below_regrown W dw os)).1 (by omega) (by rw [show (⟨#[43]⟩ : ByteArray).data.toList = [43] from rfl, joinT_plus]; omega))
set_option maxRecDepth 8000 in
theorem putS1  (A : Option Addr) (c : Nat) (B : Option Addr) (d : Nat) (w : World) :
    Calls Tryz.prog 17 #[.agg #[.int .i64 1, .string ⟨#[]⟩, .slice A 0 c, .int .i64 0, .int .i64 0, .slice B 0 d]] w fun e w' => e = .returned (.string (tb (leafL ⟨1, ⟨#[]⟩, [], 0, 0, []⟩))) ∧ Below w.heap.size w w' := by
  have HR : Hid ((⟨#[97, 108, 108]⟩ : ByteArray) = tb (leafL ⟨1, ⟨#[]⟩, [], 0, 0, []⟩)) := rfl
  have cb := alloc_new w (.cells #[.int .i64 1, .string ⟨#[]⟩, .slice A 0 c, .int .i64 0, .int .i64 0, .slice B 0 d] 27)
  have hB : Below w.heap.size w (w.alloc (.cells #[.int .i64 1, .string ⟨#[]⟩, .slice A 0 c, .int .i64 0, .int .i64 0, .slice B 0 d] 27)) := by (repeat' (first | exact Below.refl _ _ | apply Below.alloc | apply Below.setCell | apply Below.drew | apply below_draws)) <;> (first | omega | (simp <;> omega))
  have sz : w.heap.size < (w.alloc (.cells #[.int .i64 1, .string ⟨#[]⟩, .slice A 0 c, .int .i64 0, .int .i64 0, .slice B 0 d] 27)).heap.size := by simp
  go_enter Tryz.func17, Tryz.ntmps17
  obtain ⟨_, _, _, x3, _, _⟩ := blk6 cb
  go_wp2_with fail
  generalize (w.alloc (.cells #[.int .i64 1, .string ⟨#[]⟩, .slice A 0 c, .int .i64 0, .int .i64 0, .slice B 0 d] 27)) = W0 at cb hB sz x3 ⊢
  refine (l1Dec_any 0 (by omega) _).mono ?_
  rintro e w1 ⟨rfl, hb⟩
  obtain ⟨th, hth⟩ : ∃ th, th = tb (decL ((0 : Nat) : Int)) := ⟨_, rfl⟩
  rw [← hth]
  have hz6 : ¬ 9223372036854775807 < (⟨#[116, 105, 109, 101, 115, 32]⟩ : ByteArray).size + th.size := by
    have := tb_size (decL ((0 : Nat) : Int))
    rw [← hth] at this
    have := decL_len (n := 0) (by omega)
    show ¬ _ < 6 + _
    omega
  clear hth
  replace cb := (hb.block _ sz).trans cb
  replace hB := hB.trans (hb.mono hB.size)
  have szw : w.heap.size < w1.heap.size := Nat.lt_of_lt_of_le sz hb.size
  have cb2 := alloc_elder (o' := Obj.cells #[.string ⟨#[]⟩, .string ⟨#[]⟩, .string ⟨#[]⟩, .string ⟨#[]⟩, .string ⟨#[]⟩, .string ⟨#[]⟩, .string ⟨#[]⟩, .string ⟨#[97, 110, 100]⟩, .string ⟨#[111, 114]⟩, .string ⟨#[108, 101, 115, 115]⟩, .string (⟨#[116, 105, 109, 101, 115, 32]⟩ ++ th)] 9) cb
  replace hB := hB.alloc (Nat.le_of_lt szw) (.cells #[.string ⟨#[]⟩, .string ⟨#[]⟩, .string ⟨#[]⟩, .string ⟨#[]⟩, .string ⟨#[]⟩, .string ⟨#[]⟩, .string ⟨#[]⟩, .string ⟨#[97, 110, 100]⟩, .string ⟨#[111, 114]⟩, .string ⟨#[108, 101, 115, 115]⟩, .string (⟨#[116, 105, 109, 101, 115, 32]⟩ ++ th)] 9)
  have sz2 : w.heap.size < (w1.alloc (.cells #[.string ⟨#[]⟩, .string ⟨#[]⟩, .string ⟨#[]⟩, .string ⟨#[]⟩, .string ⟨#[]⟩, .string ⟨#[]⟩, .string ⟨#[]⟩, .string ⟨#[97, 110, 100]⟩, .string ⟨#[111, 114]⟩, .string ⟨#[108, 101, 115, 115]⟩, .string (⟨#[116, 105, 109, 101, 115, 32]⟩ ++ th)] 9)).heap.size := by simp; omega
  clear cb x3 sz hb
  obtain ⟨x0, x1, x2, x3, x4, x5⟩ := blk6 cb2
  go_wp2
  go_ret
  exact ⟨ret_t HR.out, hB⟩
set_option maxRecDepth 8000 in
theorem putS2 (fd x : ByteArray) (hf : fd.size ≤ 12) (hx : x.size ≤ 12) (A : Option Addr) (c : Nat) (B : Option Addr) (d : Nat) (w : World) (HA : Hid (SrcT w A c [x])) :
    Calls Tryz.prog 17 #[.agg #[.int .i64 2, .string fd, .slice A 1 c, .int .i64 0, .int .i64 0, .slice B 0 d]] w fun e w' => e = .returned (.string (tb (leafL ⟨2, fd, [x], 0, 0, []⟩))) ∧ Below w.heap.size w w' := by
  have HR : Hid (∀ z : ByteArray, z = fd ++ ⟨#[58]⟩ ++ x → z = tb (leafL ⟨2, fd, [x], 0, 0, []⟩)) := fun z hz => tb_eq (by rw [hz]; simp [leafL, hdW, tb])
  have cb := alloc_new w (.cells #[.int .i64 2, .string fd, .slice A 1 c, .int .i64 0, .int .i64 0, .slice B 0 d] 27)
  have hB : Below w.heap.size w (w.alloc (.cells #[.int .i64 2, .string fd, .slice A 1 c, .int .i64 0, .int .i64 0, .slice B 0 d] 27)) := by (repeat' (first | exact Below.refl _ _ | apply Below.alloc | apply Below.setCell | apply Below.drew | apply below_draws)) <;> (first | omega | (simp <;> omega))
  have sz : w.heap.size < (w.alloc (.cells #[.int .i64 2, .string fd, .slice A 1 c, .int .i64 0, .int .i64 0, .slice B 0 d] 27)).heap.size := by simp
  go_enter Tryz.func17, Tryz.ntmps17
  obtain ⟨_, _, _, x3, _, _⟩ := blk6 cb
  go_wp2_with fail
  generalize (w.alloc (.cells #[.int .i64 2, .string fd, .slice A 1 c, .int .i64 0, .int .i64 0, .slice B 0 d] 27)) = W0 at cb hB sz x3 ⊢
  refine (l1Dec_any 0 (by omega) _).mono ?_
  rintro e w1 ⟨rfl, hb⟩
  obtain ⟨th, hth⟩ : ∃ th, th = tb (decL ((0 : Nat) : Int)) := ⟨_, rfl⟩
  rw [← hth]
  have hz6 : ¬ 9223372036854775807 < (⟨#[116, 105, 109, 101, 115, 32]⟩ : ByteArray).size + th.size := by
    have := tb_size (decL ((0 : Nat) : Int))
    rw [← hth] at this
    have := decL_len (n := 0) (by omega)
    show ¬ _ < 6 + _
    omega
  clear hth
  replace cb := (hb.block _ sz).trans cb
  replace hB := hB.trans (hb.mono hB.size)
  have szw : w.heap.size < w1.heap.size := Nat.lt_of_lt_of_le sz hb.size
  have cb2 := alloc_elder (o' := Obj.cells #[.string ⟨#[]⟩, .string ⟨#[]⟩, .string ⟨#[]⟩, .string ⟨#[]⟩, .string ⟨#[]⟩, .string ⟨#[]⟩, .string ⟨#[]⟩, .string ⟨#[97, 110, 100]⟩, .string ⟨#[111, 114]⟩, .string ⟨#[108, 101, 115, 115]⟩, .string (⟨#[116, 105, 109, 101, 115, 32]⟩ ++ th)] 9) cb
  replace hB := hB.alloc (Nat.le_of_lt szw) (.cells #[.string ⟨#[]⟩, .string ⟨#[]⟩, .string ⟨#[]⟩, .string ⟨#[]⟩, .string ⟨#[]⟩, .string ⟨#[]⟩, .string ⟨#[]⟩, .string ⟨#[97, 110, 100]⟩, .string ⟨#[111, 114]⟩, .string ⟨#[108, 101, 115, 115]⟩, .string (⟨#[116, 105, 109, 101, 115, 32]⟩ ++ th)] 9)
  have sz2 : w.heap.size < (w1.alloc (.cells #[.string ⟨#[]⟩, .string ⟨#[]⟩, .string ⟨#[]⟩, .string ⟨#[]⟩, .string ⟨#[]⟩, .string ⟨#[]⟩, .string ⟨#[]⟩, .string ⟨#[97, 110, 100]⟩, .string ⟨#[111, 114]⟩, .string ⟨#[108, 101, 115, 115]⟩, .string (⟨#[116, 105, 109, 101, 115, 32]⟩ ++ th)] 9)).heap.size := by simp; omega
  clear cb x3 sz hb
  obtain ⟨x0, x1, x2, x3, x4, x5⟩ := blk6 cb2
  go_wp2_with fail
  generalize (w1.alloc (.cells #[.string ⟨#[]⟩, .string ⟨#[]⟩, .string ⟨#[]⟩, .string ⟨#[]⟩, .string ⟨#[]⟩, .string ⟨#[]⟩, .string ⟨#[]⟩, .string ⟨#[97, 110, 100]⟩, .string ⟨#[111, 114]⟩, .string ⟨#[108, 101, 115, 115]⟩, .string (⟨#[116, 105, 109, 101, 115, 32]⟩ ++ th)] 9)) = W1 at cb2 hB sz2 x0 x1 x2 x3 x4 x5 ⊢
  replace x1 := cell_regrown x1
  replace x2 := cell_regrown x2
  replace x3 := cell_regrown x3
  replace x4 := cell_regrown x4
  obtain ⟨b, off, rfl, hbb, e0⟩ := (SrcE.below HA.out (Below.mono hB (Nat.le_refl _))).atT (k := 0) (by simp)
  have e1 : W1.cell? ⟨b, off, none⟩ = some (.string x) := e0
  replace e1 := cell_regrown e1
  have y1 : ¬ 9223372036854775807 < fd.size + 1 := by omega
  have yy1 : ¬ 9223372036854775807 ≤ fd.size := by omega
  have y2 : ¬ 9223372036854775807 < fd.size + 1 + x.size := by omega
  have z1 : ¬ 9223372036854775807 < fd.size + (⟨#[58]⟩ : ByteArray).size := by show ¬ _ < _ + 1; omega
  have z2 : ¬ 9223372036854775807 < (fd ++ ⟨#[58]⟩).size + x.size := by rw [ByteArray.size_append]; show ¬ _ < _ + 1 + _; omega
  refine region_qw (by kernel_rfl) (by kernel_rfl) ?_
  repeat (
    refine qw_step (fun K hK => ?_)
    go_simp
    first
      | (refine hK _ ?_; clear hK K)
      | fail)
  refine qw_nil ?_
  intro _ hw'
  obtain ⟨⟨dq, osq⟩, hw''⟩ := hw'
  subst hw''
  have hBq := hB.trans ((below_regrown W1 dq osq).mono (by have := hB.size; omega))
  dsimp only
  generalize grow (redrawn W1 dq) osq = Wq at hBq ⊢
  go_wp2
  go_ret
  exact ⟨ret_t (HR.out _ rfl), hBq⟩
set_option maxRecDepth 8000 in
theorem putS5 (fd x : ByteArray) (hf : fd.size ≤ 12) (hx : x.size ≤ 12) (A : Option Addr) (c : Nat) (B : Option Addr) (d : Nat) (w : World) (HA : Hid (SrcT w A c [x])) :
    Calls Tryz.prog 17 #[.agg #[.int .i64 5, .string fd, .slice A 1 c, .int .i64 0, .int .i64 0, .slice B 0 d]] w fun e w' => e = .returned (.string (tb (leafL ⟨5, fd, [x], 0, 0, []⟩))) ∧ Below w.heap.size w w' := by
  have HR : Hid (∀ z : ByteArray, z = fd ++ ⟨#[58]⟩ ++ x → z = tb (leafL ⟨5, fd, [x], 0, 0, []⟩)) := fun z hz => tb_eq (by rw [hz]; simp [leafL, hdW, tb])
  have cb := alloc_new w (.cells #[.int .i64 5, .string fd, .slice A 1 c, .int .i64 0, .int .i64 0, .slice B 0 d] 27)
  have hB : Below w.heap.size w (w.alloc (.cells #[.int .i64 5, .string fd, .slice A 1 c, .int .i64 0, .int .i64 0, .slice B 0 d] 27)) := by (repeat' (first | exact Below.refl _ _ | apply Below.alloc | apply Below.setCell | apply Below.drew | apply below_draws)) <;> (first | omega | (simp <;> omega))
  have sz : w.heap.size < (w.alloc (.cells #[.int .i64 5, .string fd, .slice A 1 c, .int .i64 0, .int .i64 0, .slice B 0 d] 27)).heap.size := by simp
  go_enter Tryz.func17, Tryz.ntmps17
  obtain ⟨_, _, _, x3, _, _⟩ := blk6 cb
  go_wp2_with fail
  generalize (w.alloc (.cells #[.int .i64 5, .string fd, .slice A 1 c, .int .i64 0, .int .i64 0, .slice B 0 d] 27)) = W0 at cb hB sz x3 ⊢
  refine (l1Dec_any 0 (by omega) _).mono ?_
  rintro e w1 ⟨rfl, hb⟩
  obtain ⟨th, hth⟩ : ∃ th, th = tb (decL ((0 : Nat) : Int)) := ⟨_, rfl⟩
  rw [← hth]
  have hz6 : ¬ 9223372036854775807 < (⟨#[116, 105, 109, 101, 115, 32]⟩ : ByteArray).size + th.size := by
    have := tb_size (decL ((0 : Nat) : Int))
    rw [← hth] at this
    have := decL_len (n := 0) (by omega)
    show ¬ _ < 6 + _
    omega
  clear hth
  replace cb := (hb.block _ sz).trans cb
  replace hB := hB.trans (hb.mono hB.size)
  have szw : w.heap.size < w1.heap.size := Nat.lt_of_lt_of_le sz hb.size
  have cb2 := alloc_elder (o' := Obj.cells #[.string ⟨#[]⟩, .string ⟨#[]⟩, .string ⟨#[]⟩, .string ⟨#[]⟩, .string ⟨#[]⟩, .string ⟨#[]⟩, .string ⟨#[]⟩, .string ⟨#[97, 110, 100]⟩, .string ⟨#[111, 114]⟩, .string ⟨#[108, 101, 115, 115]⟩, .string (⟨#[116, 105, 109, 101, 115, 32]⟩ ++ th)] 9) cb
  replace hB := hB.alloc (Nat.le_of_lt szw) (.cells #[.string ⟨#[]⟩, .string ⟨#[]⟩, .string ⟨#[]⟩, .string ⟨#[]⟩, .string ⟨#[]⟩, .string ⟨#[]⟩, .string ⟨#[]⟩, .string ⟨#[97, 110, 100]⟩, .string ⟨#[111, 114]⟩, .string ⟨#[108, 101, 115, 115]⟩, .string (⟨#[116, 105, 109, 101, 115, 32]⟩ ++ th)] 9)
  have sz2 : w.heap.size < (w1.alloc (.cells #[.string ⟨#[]⟩, .string ⟨#[]⟩, .string ⟨#[]⟩, .string ⟨#[]⟩, .string ⟨#[]⟩, .string ⟨#[]⟩, .string ⟨#[]⟩, .string ⟨#[97, 110, 100]⟩, .string ⟨#[111, 114]⟩, .string ⟨#[108, 101, 115, 115]⟩, .string (⟨#[116, 105, 109, 101, 115, 32]⟩ ++ th)] 9)).heap.size := by simp; omega
  clear cb x3 sz hb
  obtain ⟨x0, x1, x2, x3, x4, x5⟩ := blk6 cb2
  go_wp2_with fail
  generalize (w1.alloc (.cells #[.string ⟨#[]⟩, .string ⟨#[]⟩, .string ⟨#[]⟩, .string ⟨#[]⟩, .string ⟨#[]⟩, .string ⟨#[]⟩, .string ⟨#[]⟩, .string ⟨#[97, 110, 100]⟩, .string ⟨#[111, 114]⟩, .string ⟨#[108, 101, 115, 115]⟩, .string (⟨#[116, 105, 109, 101, 115, 32]⟩ ++ th)] 9)) = W1 at cb2 hB sz2 x0 x1 x2 x3 x4 x5 ⊢
  replace x1 := cell_regrown x1
  replace x2 := cell_regrown x2
  replace x3 := cell_regrown x3
  replace x4 := cell_regrown x4
  obtain ⟨b, off, rfl, hbb, e0⟩ := (SrcE.below HA.out (Below.mono hB (Nat.le_refl _))).atT (k := 0) (by simp)
  have e1 : W1.cell? ⟨b, off, none⟩ = some (.string x) := e0
  replace e1 := cell_regrown e1
  have y1 : ¬ 9223372036854775807 < fd.size + 1 := by omega
  have yy1 : ¬ 9223372036854775807 ≤ fd.size := by omega
  have y2 : ¬ 9223372036854775807 < fd.size + 1 + x.size := by omega
  have z1 : ¬ 9223372036854775807 < fd.size + (⟨#[58]⟩ : ByteArray).size := by show ¬ _ < _ + 1; omega
  have z2 : ¬ 9223372036854775807 < (fd ++ ⟨#[58]⟩).size + x.size := by rw [ByteArray.size_append]; show ¬ _ < _ + 1 + _; omega
  refine region_qw (by kernel_rfl) (by kernel_rfl) ?_
  repeat (
    refine qw_step (fun K hK => ?_)
    go_simp
    first
      | (refine hK _ ?_; clear hK K)
      | fail)
  refine qw_nil ?_
  intro _ hw'
  obtain ⟨⟨dq, osq⟩, hw''⟩ := hw'
  subst hw''
  have hBq := hB.trans ((below_regrown W1 dq osq).mono (by have := hB.size; omega))
  dsimp only
  generalize grow (redrawn W1 dq) osq = Wq at hBq ⊢
  go_wp2
  go_ret
  exact ⟨ret_t (HR.out _ rfl), hBq⟩
set_option maxRecDepth 8000 in
theorem putS3 (fd : ByteArray) (ws : List ByteArray) (f : Nat) (hf : fd.size ≤ 12) (hfr : f ≤ 999999999) (hl : ws.length ≤ 4) (hn : 1 ≤ ws.length) (hj : (joinP ws).length ≤ 100) (A : Option Addr) (c : Nat) (B : Option Addr) (d : Nat) (w : World) (HA : Hid (SrcQ w A c ws)) :
    Calls Tryz.prog 17 #[.agg #[.int .i64 3, .string fd, .slice A ws.length c, .int .i64 (f : Int), .int .i64 0, .slice B 0 d]] w fun e w' => e = .returned (.string (tb (leafL ⟨3, fd, ws, (f : Int), 0, []⟩))) ∧ Below w.heap.size w w' := by
  obtain ⟨td, htd⟩ : ∃ td, td = tb (decL (f : Int)) := ⟨_, rfl⟩
  have htl : td.size ≤ 9 := by rw [htd, tb_size]; exact decL_len hfr
  obtain ⟨tj, htj⟩ : ∃ tj, tj = tb (joinT [43] ws) := ⟨_, rfl⟩
  have hjl : tj.size ≤ 100 := by rw [htj, tb_size, joinT_plus]; exact hj
  have HR : Hid (∀ z : ByteArray, z = fd ++ ⟨#[58]⟩ ++ tj ++ ⟨#[126]⟩ ++ td → z = tb (leafL ⟨3, fd, ws, (f : Int), 0, []⟩)) := fun z hz => tb_eq (by rw [hz]; simp [htd, htj, joinT_plus, leafL, hdW, tb])
  have cb := alloc_new w (.cells #[.int .i64 3, .string fd, .slice A ws.length c, .int .i64 (f : Int), .int .i64 0, .slice B 0 d] 27)
  have hB : Below w.heap.size w (w.alloc (.cells #[.int .i64 3, .string fd, .slice A ws.length c, .int .i64 (f : Int), .int .i64 0, .slice B 0 d] 27)) := by (repeat' (first | exact Below.refl _ _ | apply Below.alloc | apply Below.setCell | apply Below.drew | apply below_draws)) <;> (first | omega | (simp <;> omega))
  have sz : w.heap.size < (w.alloc (.cells #[.int .i64 3, .string fd, .slice A ws.length c, .int .i64 (f : Int), .int .i64 0, .slice B 0 d] 27)).heap.size := by simp
  go_enter Tryz.func17, Tryz.ntmps17
  obtain ⟨_, _, _, x3, _, _⟩ := blk6 cb
  go_wp2_with fail
  generalize (w.alloc (.cells #[.int .i64 3, .string fd, .slice A ws.length c, .int .i64 (f : Int), .int .i64 0, .slice B 0 d] 27)) = W0 at cb hB sz x3 ⊢
  refine (l1Dec_any f hfr _).mono ?_
  rintro e w1 ⟨rfl, hb⟩
  obtain ⟨th, hth⟩ : ∃ th, th = tb (decL (f : Int)) := ⟨_, rfl⟩
  rw [← hth]
  have hz6 : ¬ 9223372036854775807 < (⟨#[116, 105, 109, 101, 115, 32]⟩ : ByteArray).size + th.size := by
    have := tb_size (decL (f : Int))
    rw [← hth] at this
    have := decL_len hfr
    show ¬ _ < 6 + _
    omega
  clear hth
  replace cb := (hb.block _ sz).trans cb
  replace hB := hB.trans (hb.mono hB.size)
  have szw : w.heap.size < w1.heap.size := Nat.lt_of_lt_of_le sz hb.size
  have cb2 := alloc_elder (o' := Obj.cells #[.string ⟨#[]⟩, .string ⟨#[]⟩, .string ⟨#[]⟩, .string ⟨#[]⟩, .string ⟨#[]⟩, .string ⟨#[]⟩, .string ⟨#[]⟩, .string ⟨#[97, 110, 100]⟩, .string ⟨#[111, 114]⟩, .string ⟨#[108, 101, 115, 115]⟩, .string (⟨#[116, 105, 109, 101, 115, 32]⟩ ++ th)] 9) cb
  replace hB := hB.alloc (Nat.le_of_lt szw) (.cells #[.string ⟨#[]⟩, .string ⟨#[]⟩, .string ⟨#[]⟩, .string ⟨#[]⟩, .string ⟨#[]⟩, .string ⟨#[]⟩, .string ⟨#[]⟩, .string ⟨#[97, 110, 100]⟩, .string ⟨#[111, 114]⟩, .string ⟨#[108, 101, 115, 115]⟩, .string (⟨#[116, 105, 109, 101, 115, 32]⟩ ++ th)] 9)
  have sz2 : w.heap.size < (w1.alloc (.cells #[.string ⟨#[]⟩, .string ⟨#[]⟩, .string ⟨#[]⟩, .string ⟨#[]⟩, .string ⟨#[]⟩, .string ⟨#[]⟩, .string ⟨#[]⟩, .string ⟨#[97, 110, 100]⟩, .string ⟨#[111, 114]⟩, .string ⟨#[108, 101, 115, 115]⟩, .string (⟨#[116, 105, 109, 101, 115, 32]⟩ ++ th)] 9)).heap.size := by simp; omega
  clear cb x3 sz hb
  obtain ⟨x0, x1, x2, x3, x4, x5⟩ := blk6 cb2
  go_wp2_with fail
  generalize (w1.alloc (.cells #[.string ⟨#[]⟩, .string ⟨#[]⟩, .string ⟨#[]⟩, .string ⟨#[]⟩, .string ⟨#[]⟩, .string ⟨#[]⟩, .string ⟨#[]⟩, .string ⟨#[97, 110, 100]⟩, .string ⟨#[111, 114]⟩, .string ⟨#[108, 101, 115, 115]⟩, .string (⟨#[116, 105, 109, 101, 115, 32]⟩ ++ th)] 9)) = W1 at cb2 hB sz2 x0 x1 x2 x3 x4 x5 ⊢
  replace x1 := cell_regrown x1
  replace x2 := cell_regrown x2
  replace x3 := cell_regrown x3
  replace x4 := cell_regrown x4
  have y1 : ¬ 9223372036854775807 < fd.size + 1 := by omega
  have yy1 : ¬ 9223372036854775807 ≤ fd.size := by omega
  have y2 : ¬ 9223372036854775807 < fd.size + 1 + tj.size := by omega
  have y3 : ¬ 9223372036854775807 < fd.size + 1 + tj.size + 1 := by omega
  have yy3 : ¬ 9223372036854775807 ≤ fd.size + 1 + tj.size := by omega
  have y4 : ¬ 9223372036854775807 < fd.size + 1 + tj.size + 1 + td.size := by omega
  have z1 : ¬ 9223372036854775807 < fd.size + (⟨#[58]⟩ : ByteArray).size := by show ¬ _ < _ + 1; omega
  have z2 : ¬ 9223372036854775807 < (fd ++ ⟨#[58]⟩).size + tj.size := by rw [ByteArray.size_append]; show ¬ _ < _ + 1 + _; omega
  have z3 : ¬ 9223372036854775807 < (fd ++ ⟨#[58]⟩ ++ tj).size + (⟨#[126]⟩ : ByteArray).size := by rw [ByteArray.size_append, ByteArray.size_append]; show ¬ _ < _ + 1 + _ + 1; omega
  have z4 : ¬ 9223372036854775807 < (fd ++ ⟨#[58]⟩ ++ tj ++ ⟨#[126]⟩).size + td.size := by rw [ByteArray.size_append, ByteArray.size_append, ByteArray.size_append]; show ¬ _ < _ + 1 + _ + 1 + _; omega
  have HTD := Lib.hid htd
  have HTJ := Lib.hid htj
  clear htd htj
  have HA1 : Hid (SrcQ W1 A c ws) := HA.out.below hB
  refine region_qw (by kernel_rfl) (by kernel_rfl) ?_
  repeat (
    refine qw_step (fun K hK => ?_)
    go_simp
    first
      | (refine hK _ ?_; clear hK K)
      | (apply Exists.intro
         refine ⟨fun _ => ?_, hK _ ?_⟩
         (first | ((go_at_call 32; exact cDecS f td hfr HTD _ _ _)) | ((go_at_call 33; exact cJoinS A c ws tj HTJ HA1 hl hn hj _ _)))
         clear hK K)
      | fail)
  refine qw_nil ?_
  intro _ hw'
  obtain ⟨⟨dq, osq⟩, hw''⟩ := hw'
  subst hw''
  have hBq := hB.trans ((below_regrown W1 dq osq).mono (by have := hB.size; omega))
  dsimp only
  generalize grow (redrawn W1 dq) osq = Wq at hBq ⊢
  go_wp2
  go_ret
  exact ⟨ret_t (HR.out _ rfl), hBq⟩
set_option maxRecDepth 8000 in
theorem putS4 (fd x : ByteArray) (f : Nat) (hf : fd.size ≤ 12) (hx : x.size ≤ 12) (hfr : f ≤ 999999999) (A : Option Addr) (c : Nat) (B : Option Addr) (d : Nat) (w : World) (HA : Hid (SrcT w A c [x])) :
    Calls Tryz.prog 17 #[.agg #[.int .i64 4, .string fd, .slice A 1 c, .int .i64 (f : Int), .int .i64 0, .slice B 0 d]] w fun e w' => e = .returned (.string (tb (leafL ⟨4, fd, [x], (f : Int), 0, []⟩))) ∧ Below w.heap.size w w' := by
  obtain ⟨td, htd⟩ : ∃ td, td = tb (decL (f : Int)) := ⟨_, rfl⟩
  have htl : td.size ≤ 9 := by rw [htd, tb_size]; exact decL_len hfr
  have HR : Hid (∀ z : ByteArray, z = fd ++ ⟨#[58]⟩ ++ x ++ ⟨#[37]⟩ ++ td → z = tb (leafL ⟨4, fd, [x], (f : Int), 0, []⟩)) := fun z hz => tb_eq (by rw [hz]; simp [htd, leafL, hdW, tb])
  have cb := alloc_new w (.cells #[.int .i64 4, .string fd, .slice A 1 c, .int .i64 (f : Int), .int .i64 0, .slice B 0 d] 27)
  have hB : Below w.heap.size w (w.alloc (.cells #[.int .i64 4, .string fd, .slice A 1 c, .int .i64 (f : Int), .int .i64 0, .slice B 0 d] 27)) := by (repeat' (first | exact Below.refl _ _ | apply Below.alloc | apply Below.setCell | apply Below.drew | apply below_draws)) <;> (first | omega | (simp <;> omega))
  have sz : w.heap.size < (w.alloc (.cells #[.int .i64 4, .string fd, .slice A 1 c, .int .i64 (f : Int), .int .i64 0, .slice B 0 d] 27)).heap.size := by simp
  go_enter Tryz.func17, Tryz.ntmps17
  obtain ⟨_, _, _, x3, _, _⟩ := blk6 cb
  go_wp2_with fail
  generalize (w.alloc (.cells #[.int .i64 4, .string fd, .slice A 1 c, .int .i64 (f : Int), .int .i64 0, .slice B 0 d] 27)) = W0 at cb hB sz x3 ⊢
  refine (l1Dec_any f hfr _).mono ?_
  rintro e w1 ⟨rfl, hb⟩
  obtain ⟨th, hth⟩ : ∃ th, th = tb (decL (f : Int)) := ⟨_, rfl⟩
  rw [← hth]
  have hz6 : ¬ 9223372036854775807 < (⟨#[116, 105, 109, 101, 115, 32]⟩ : ByteArray).size + th.size := by
    have := tb_size (decL (f : Int))
    rw [← hth] at this
    have := decL_len hfr
    show ¬ _ < 6 + _
    omega
  clear hth
  replace cb := (hb.block _ sz).trans cb
  replace hB := hB.trans (hb.mono hB.size)
  have szw : w.heap.size < w1.heap.size := Nat.lt_of_lt_of_le sz hb.size
  have cb2 := alloc_elder (o' := Obj.cells #[.string ⟨#[]⟩, .string ⟨#[]⟩, .string ⟨#[]⟩, .string ⟨#[]⟩, .string ⟨#[]⟩, .string ⟨#[]⟩, .string ⟨#[]⟩, .string ⟨#[97, 110, 100]⟩, .string ⟨#[111, 114]⟩, .string ⟨#[108, 101, 115, 115]⟩, .string (⟨#[116, 105, 109, 101, 115, 32]⟩ ++ th)] 9) cb
  replace hB := hB.alloc (Nat.le_of_lt szw) (.cells #[.string ⟨#[]⟩, .string ⟨#[]⟩, .string ⟨#[]⟩, .string ⟨#[]⟩, .string ⟨#[]⟩, .string ⟨#[]⟩, .string ⟨#[]⟩, .string ⟨#[97, 110, 100]⟩, .string ⟨#[111, 114]⟩, .string ⟨#[108, 101, 115, 115]⟩, .string (⟨#[116, 105, 109, 101, 115, 32]⟩ ++ th)] 9)
  have sz2 : w.heap.size < (w1.alloc (.cells #[.string ⟨#[]⟩, .string ⟨#[]⟩, .string ⟨#[]⟩, .string ⟨#[]⟩, .string ⟨#[]⟩, .string ⟨#[]⟩, .string ⟨#[]⟩, .string ⟨#[97, 110, 100]⟩, .string ⟨#[111, 114]⟩, .string ⟨#[108, 101, 115, 115]⟩, .string (⟨#[116, 105, 109, 101, 115, 32]⟩ ++ th)] 9)).heap.size := by simp; omega
  clear cb x3 sz hb
  obtain ⟨x0, x1, x2, x3, x4, x5⟩ := blk6 cb2
  go_wp2_with fail
  generalize (w1.alloc (.cells #[.string ⟨#[]⟩, .string ⟨#[]⟩, .string ⟨#[]⟩, .string ⟨#[]⟩, .string ⟨#[]⟩, .string ⟨#[]⟩, .string ⟨#[]⟩, .string ⟨#[97, 110, 100]⟩, .string ⟨#[111, 114]⟩, .string ⟨#[108, 101, 115, 115]⟩, .string (⟨#[116, 105, 109, 101, 115, 32]⟩ ++ th)] 9)) = W1 at cb2 hB sz2 x0 x1 x2 x3 x4 x5 ⊢
  replace x1 := cell_regrown x1
  replace x2 := cell_regrown x2
  replace x3 := cell_regrown x3
  replace x4 := cell_regrown x4
  obtain ⟨b, off, rfl, hbb, e0⟩ := (SrcE.below HA.out (Below.mono hB (Nat.le_refl _))).atT (k := 0) (by simp)
  have e1 : W1.cell? ⟨b, off, none⟩ = some (.string x) := e0
  replace e1 := cell_regrown e1
  have y1 : ¬ 9223372036854775807 < fd.size + 1 := by omega
  have yy1 : ¬ 9223372036854775807 ≤ fd.size := by omega
  have y2 : ¬ 9223372036854775807 < fd.size + 1 + x.size := by omega
  have y3 : ¬ 9223372036854775807 < fd.size + 1 + x.size + 1 := by omega
  have yy3 : ¬ 9223372036854775807 ≤ fd.size + 1 + x.size := by omega
  have y4 : ¬ 9223372036854775807 < fd.size + 1 + x.size + 1 + td.size := by omega
  have z1 : ¬ 9223372036854775807 < fd.size + (⟨#[58]⟩ : ByteArray).size := by show ¬ _ < _ + 1; omega
  have z2 : ¬ 9223372036854775807 < (fd ++ ⟨#[58]⟩).size + x.size := by rw [ByteArray.size_append]; show ¬ _ < _ + 1 + _; omega
  have z3 : ¬ 9223372036854775807 < (fd ++ ⟨#[58]⟩ ++ x).size + (⟨#[37]⟩ : ByteArray).size := by rw [ByteArray.size_append, ByteArray.size_append]; show ¬ _ < _ + 1 + _ + 1; omega
  have z4 : ¬ 9223372036854775807 < (fd ++ ⟨#[58]⟩ ++ x ++ ⟨#[37]⟩).size + td.size := by rw [ByteArray.size_append, ByteArray.size_append, ByteArray.size_append]; show ¬ _ < _ + 1 + _ + 1 + _; omega
  have HTD := Lib.hid htd
  clear htd
  refine region_qw (by kernel_rfl) (by kernel_rfl) ?_
  repeat (
    refine qw_step (fun K hK => ?_)
    go_simp
    first
      | (refine hK _ ?_; clear hK K)
      | (apply Exists.intro
         refine ⟨fun _ => ?_, hK _ ?_⟩
         (first | ((go_at_call 32; exact cDecS f td hfr HTD _ _ _)))
         clear hK K)
      | fail)
  refine qw_nil ?_
  intro _ hw'
  obtain ⟨⟨dq, osq⟩, hw''⟩ := hw'
  subst hw''
  have hBq := hB.trans ((below_regrown W1 dq osq).mono (by have := hB.size; omega))
  dsimp only
  generalize grow (redrawn W1 dq) osq = Wq at hBq ⊢
  go_wp2
  go_ret
  exact ⟨ret_t (HR.out _ rfl), hBq⟩
set_option maxRecDepth 8000 in
theorem putS6 (fd : ByteArray) (f t : Nat) (hf : fd.size ≤ 12) (hfr : f ≤ 999999999) (htr : t ≤ 999999999) (A : Option Addr) (c : Nat) (B : Option Addr) (d : Nat) (w : World) :
    Calls Tryz.prog 17 #[.agg #[.int .i64 6, .string fd, .slice A 0 c, .int .i64 (f : Int), .int .i64 (t : Int), .slice B 0 d]] w fun e w' => e = .returned (.string (tb (leafL ⟨6, fd, [], (f : Int), (t : Int), []⟩))) ∧ Below w.heap.size w w' := by
  obtain ⟨td, htd⟩ : ∃ td, td = tb (decL (f : Int)) := ⟨_, rfl⟩
  have htl : td.size ≤ 9 := by rw [htd, tb_size]; exact decL_len hfr
  obtain ⟨tt, htt⟩ : ∃ tt, tt = tb (decL (t : Int)) := ⟨_, rfl⟩
  have htl2 : tt.size ≤ 9 := by rw [htt, tb_size]; exact decL_len htr
  have HR : Hid (∀ z : ByteArray, z = fd ++ ⟨#[61]⟩ ++ td ++ ⟨#[46, 46]⟩ ++ tt → z = tb (leafL ⟨6, fd, [], (f : Int), (t : Int), []⟩)) := fun z hz => tb_eq (by rw [hz]; simp [htd, htt, leafL, hdW, tb])
  have cb := alloc_new w (.cells #[.int .i64 6, .string fd, .slice A 0 c, .int .i64 (f : Int), .int .i64 (t : Int), .slice B 0 d] 27)
  have hB : Below w.heap.size w (w.alloc (.cells #[.int .i64 6, .string fd, .slice A 0 c, .int .i64 (f : Int), .int .i64 (t : Int), .slice B 0 d] 27)) := by (repeat' (first | exact Below.refl _ _ | apply Below.alloc | apply Below.setCell | apply Below.drew | apply below_draws)) <;> (first | omega | (simp <;> omega))
  have sz : w.heap.size < (w.alloc (.cells #[.int .i64 6, .string fd, .slice A 0 c, .int .i64 (f : Int), .int .i64 (t : Int), .slice B 0 d] 27)).heap.size := by simp
  go_enter Tryz.func17, Tryz.ntmps17
  obtain ⟨_, _, _, x3, _, _⟩ := blk6 cb
  go_wp2_with fail
  generalize (w.alloc (.cells #[.int .i64 6, .string fd, .slice A 0 c, .int .i64 (f : Int), .int .i64 (t : Int), .slice B 0 d] 27)) = W0 at cb hB sz x3 ⊢
  refine (l1Dec_any f hfr _).mono ?_
  rintro e w1 ⟨rfl, hb⟩
  obtain ⟨th, hth⟩ : ∃ th, th = tb (decL (f : Int)) := ⟨_, rfl⟩
  rw [← hth]
  have hz6 : ¬ 9223372036854775807 < (⟨#[116, 105, 109, 101, 115, 32]⟩ : ByteArray).size + th.size := by
    have := tb_size (decL (f : Int))
    rw [← hth] at this
    have := decL_len hfr
    show ¬ _ < 6 + _
    omega
  clear hth
  replace cb := (hb.block _ sz).trans cb
  replace hB := hB.trans (hb.mono hB.size)
  have szw : w.heap.size < w1.heap.size := Nat.lt_of_lt_of_le sz hb.size
  have cb2 := alloc_elder (o' := Obj.cells #[.string ⟨#[]⟩, .string ⟨#[]⟩, .string ⟨#[]⟩, .string ⟨#[]⟩, .string ⟨#[]⟩, .string ⟨#[]⟩, .string ⟨#[]⟩, .string ⟨#[97, 110, 100]⟩, .string ⟨#[111, 114]⟩, .string ⟨#[108, 101, 115, 115]⟩, .string (⟨#[116, 105, 109, 101, 115, 32]⟩ ++ th)] 9) cb
  replace hB := hB.alloc (Nat.le_of_lt szw) (.cells #[.string ⟨#[]⟩, .string ⟨#[]⟩, .string ⟨#[]⟩, .string ⟨#[]⟩, .string ⟨#[]⟩, .string ⟨#[]⟩, .string ⟨#[]⟩, .string ⟨#[97, 110, 100]⟩, .string ⟨#[111, 114]⟩, .string ⟨#[108, 101, 115, 115]⟩, .string (⟨#[116, 105, 109, 101, 115, 32]⟩ ++ th)] 9)
  have sz2 : w.heap.size < (w1.alloc (.cells #[.string ⟨#[]⟩, .string ⟨#[]⟩, .string ⟨#[]⟩, .string ⟨#[]⟩, .string ⟨#[]⟩, .string ⟨#[]⟩, .string ⟨#[]⟩, .string ⟨#[97, 110, 100]⟩, .string ⟨#[111, 114]⟩, .string ⟨#[108, 101, 115, 115]⟩, .string (⟨#[116, 105, 109, 101, 115, 32]⟩ ++ th)] 9)).heap.size := by simp; omega
  clear cb x3 sz hb
  obtain ⟨x0, x1, x2, x3, x4, x5⟩ := blk6 cb2
  go_wp2_with fail
  generalize (w1.alloc (.cells #[.string ⟨#[]⟩, .string ⟨#[]⟩, .string ⟨#[]⟩, .string ⟨#[]⟩, .string ⟨#[]⟩, .string ⟨#[]⟩, .string ⟨#[]⟩, .string ⟨#[97, 110, 100]⟩, .string ⟨#[111, 114]⟩, .string ⟨#[108, 101, 115, 115]⟩, .string (⟨#[116, 105, 109, 101, 115, 32]⟩ ++ th)] 9)) = W1 at cb2 hB sz2 x0 x1 x2 x3 x4 x5 ⊢
  replace x1 := cell_regrown x1
  replace x2 := cell_regrown x2
  replace x3 := cell_regrown x3
  replace x4 := cell_regrown x4
  have y1 : ¬ 9223372036854775807 < fd.size + 1 := by omega
  have yy1 : ¬ 9223372036854775807 ≤ fd.size := by omega
  have y2 : ¬ 9223372036854775807 < fd.size + 1 + td.size := by omega
  have y3 : ¬ 9223372036854775807 < fd.size + 1 + td.size + 2 := by omega
  have y4 : ¬ 9223372036854775807 < fd.size + 1 + td.size + 2 + tt.size := by omega
  have z1 : ¬ 9223372036854775807 < fd.size + (⟨#[61]⟩ : ByteArray).size := by show ¬ _ < _ + 1; omega
  have z2 : ¬ 9223372036854775807 < (fd ++ ⟨#[61]⟩).size + td.size := by rw [ByteArray.size_append]; show ¬ _ < _ + 1 + _; omega
  have z3 : ¬ 9223372036854775807 < (fd ++ ⟨#[61]⟩ ++ td).size + (⟨#[46, 46]⟩ : ByteArray).size := by rw [ByteArray.size_append, ByteArray.size_append]; show ¬ _ < _ + 1 + _ + 2; omega
  have z4 : ¬ 9223372036854775807 < (fd ++ ⟨#[61]⟩ ++ td ++ ⟨#[46, 46]⟩).size + tt.size := by rw [ByteArray.size_append, ByteArray.size_append, ByteArray.size_append]; show ¬ _ < _ + 1 + _ + 2 + _; omega
  have HTD := Lib.hid htd
  have HTT := Lib.hid htt
  clear htd htt
  refine region_qw (by kernel_rfl) (by kernel_rfl) ?_
  repeat (
    refine qw_step (fun K hK => ?_)
    go_simp
    first
      | (refine hK _ ?_; clear hK K)
      | (apply Exists.intro
         refine ⟨fun _ => ?_, hK _ ?_⟩
         (first | ((go_at_call_of 32 f; exact cDecS f td hfr HTD _ _ _)) | ((go_at_call_of 32 t; exact cDecS t tt htr HTT _ _ _)))
         clear hK K)
      | fail)
  refine qw_nil ?_
  intro _ hw'
  obtain ⟨⟨dq, osq⟩, hw''⟩ := hw'
  subst hw''
  have hBq := hB.trans ((below_regrown W1 dq osq).mono (by have := hB.size; omega))
  dsimp only
  generalize grow (redrawn W1 dq) osq = Wq at hBq ⊢
  go_wp2
  go_ret
  exact ⟨ret_t (HR.out _ rfl), hBq⟩
end Go.Proofs.YtaobgliimbmemaaGreatDoor
