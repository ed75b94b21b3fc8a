/-
  toQuery: the question itself.
-/
import Derived.Test.YtaobgliimbmemaaDoorQdTo
namespace Go.Proofs.YtaobgliimbmemaaDoor
open Go.RowKit Go.Sort
set_option linter.unusedVariables false

theorem cells_blk {W : World} {b : Nat} {cs : Array Value} {t : TypeId} {r : Nat × Nat} (h : W.heap[b]? = some (.cells cs t r)) {j : Nat} {u : Value} (hu : cs[j]? = some u) : W.cell? ⟨b, j, none⟩ = some u := by simp [World.cell?, h, hu]
theorem blk6 {W : World} {b : Nat} {u0 u1 u2 u3 u4 u5 : Value} {t : TypeId} {r : Nat × Nat} (h : W.heap[b]? = some (.cells #[u0, u1, u2, u3, u4, u5] t r)) :
    W.cell? ⟨b, 0, none⟩ = some u0 ∧ W.cell? ⟨b, 1, none⟩ = some u1 ∧ W.cell? ⟨b, 2, none⟩ = some u2 ∧ W.cell? ⟨b, 3, none⟩ = some u3 ∧ W.cell? ⟨b, 4, none⟩ = some u4 ∧ W.cell? ⟨b, 5, none⟩ = some u5 :=
  ⟨cells_blk h rfl, cells_blk h rfl, cells_blk h rfl, cells_blk h rfl, cells_blk h rfl, cells_blk h rfl⟩
theorem frozen_blk {W : World} {b : Nat} {cs : Array Value} {t : TypeId} (h : W.heap[b]? = some (.cells cs t (0, 0))) (j : Nat) : W.frozen? ⟨b, j, none⟩ = false := by simp [World.frozen?, h]
theorem alloc_new (w : World) (o : Obj) : (w.alloc o).heap[w.heap.size]? = some o := heap_alloc_new w o
theorem alloc_elder {w : World} {b : Nat} {o o' : Obj} (h : w.heap[b]? = some o) : (w.alloc o').heap[b]? = some o := by
  have hb : b < w.heap.size := by
    rcases Nat.lt_or_ge b w.heap.size with hl | hl
    · exact hl
    · rw [Array.getElem?_eq_none hl] at h; cases h
  exact (((Below.refl _ w).alloc (Nat.le_refl _) o').block b hb).trans h
theorem box3 (w : World) (o1 o2 o3 : Obj) : ∀ W : World, W = ((w.alloc o1).alloc o2).alloc o3 → W.heap[w.heap.size]? = some o1 ∧ W.heap[w.heap.size + 1]? = some o2 ∧ W.heap[w.heap.size + 1 + 1]? = some o3 ∧ Below w.heap.size w W ∧ w.heap.size + 1 + 1 < W.heap.size := by
  rintro W rfl
  have e1 : (w.alloc o1).heap.size = w.heap.size + 1 := by simp
  have e2 : ((w.alloc o1).alloc o2).heap.size = w.heap.size + 1 + 1 := by simp
  refine ⟨alloc_elder (alloc_elder (alloc_new w o1)), ?_, ?_, ((((Below.refl _ w).alloc (Nat.le_refl _) o1).alloc (by omega) o2).alloc (by omega) o3), by simp⟩
  · have := alloc_new (w.alloc o1) o2; rw [e1] at this; exact alloc_elder this
  · have := alloc_new ((w.alloc o1).alloc o2) o3; rw [e2] at this; exact this
set_option maxHeartbeats 3200000 in
theorem toQuery_any : ∀ n, ToC n
  | 0 => fun q A c B d w h _ => h.elim
  | n + 1 => fun q A c B d w h hs => by
    have IH := Lib.hid (toQuery_any n)
    have ⟨hf1, hw1, hw2, hk1, hk2⟩ := hs
    have ⟨hS, hK⟩ := h
    have HK := Lib.hid hK
    have HK2 := Lib.hid hk2
    clear h hs hK hw2 hk2
    obtain ⟨p0, r0, v0, hB, hsz⟩ := box3 w (.cells #[.int .i64 q.kd, .string q.fd, .slice A q.ws.length c, .int .i64 q.fr, .int .i64 q.tgt, .slice B q.ks.length d] 38) (.cells #[.int .i64 0, .string ⟨#[]⟩, .slice none 0 0, .int .i64 0, .int .i64 0, .slice none 0 0] 26) (.cells #[.int .i64 q.kd, .string q.fd, .slice none 0 0, .int .i64 0, .int .i64 0, .slice none 0 0] 26) _ rfl
    go_enter Tryd.func23, Tryd.ntmps23
    go_wp2_with fail
    generalize (((w.alloc (.cells #[.int .i64 q.kd, .string q.fd, .slice A q.ws.length c, .int .i64 q.fr, .int .i64 q.tgt, .slice B q.ks.length d] 38)).alloc (.cells #[.int .i64 0, .string ⟨#[]⟩, .slice none 0 0, .int .i64 0, .int .i64 0, .slice none 0 0] 26)).alloc (.cells #[.int .i64 q.kd, .string q.fd, .slice none 0 0, .int .i64 0, .int .i64 0, .slice none 0 0] 26)) = W at hB p0 r0 v0 hsz ⊢
    refine (toStringS_any A c q.ws _ (hS.below hB).1 hw1).mono ?_
    rintro e w1 ⟨g1, ⟨rfl, r1⟩, hb1⟩
    have p1 := (hb1.block _ (by omega)).trans p0
    have r1b := (hb1.block _ (by omega)).trans r0
    have v1 := (hb1.block _ (by omega)).trans v0
    have hw1s := hb1.size
    have hB1 := hB.trans (hb1.mono hB.size)
    have hg1 := (World.ownsRow.lt r1 g1 rfl)
    have T1 := Lib.hid (OwnE.src r1)
    obtain ⟨_, _, _, x3, x4, x5⟩ := blk6 p1
    obtain ⟨_, _, k2, k3, k4, k5⟩ := blk6 v1
    have z2 := frozen_blk v1 2
    have z3 := frozen_blk v1 3
    have z4 := frozen_blk v1 4
    have v2 := heap_setCell_same w1 (w.heap.size + 1 + 1) 2 _ _ (.slice (some ⟨g1, 0, none⟩) q.ws.length q.ws.length) v1
    have v3 := heap_setCell_same _ (w.heap.size + 1 + 1) 3 _ _ (.int .i64 q.fr) v2
    have v4 := heap_setCell_same _ (w.heap.size + 1 + 1) 4 _ _ (.int .i64 q.tgt) v3
    have e4 : SameR (w.heap.size + 3) w1.heap.size w1 (((w1.setCell ⟨w.heap.size + 1 + 1, 2, none⟩ (.slice (some ⟨g1, 0, none⟩) q.ws.length q.ws.length)).setCell ⟨w.heap.size + 1 + 1, 3, none⟩ (.int .i64 q.fr)).setCell ⟨w.heap.size + 1 + 1, 4, none⟩ (.int .i64 q.tgt)) :=
      ((SameR.set w1 _ (by omega) (Nat.le_refl _)).set2 _ (by omega)).set2 _ (by omega)
    have hB4 := ((hB1.setCell (p := ⟨w.heap.size + 1 + 1, 2, none⟩) (by show _ ≤ _ + 1 + 1; omega) (.slice (some ⟨g1, 0, none⟩) q.ws.length q.ws.length)).setCell (p := ⟨w.heap.size + 1 + 1, 3, none⟩) (by show _ ≤ _ + 1 + 1; omega) (.int .i64 q.fr)).setCell (p := ⟨w.heap.size + 1 + 1, 4, none⟩) (by show _ ≤ _ + 1 + 1; omega) (.int .i64 q.tgt)
    have r4 : (((w1.setCell ⟨w.heap.size + 1 + 1, 2, none⟩ (.slice (some ⟨g1, 0, none⟩) q.ws.length q.ws.length)).setCell ⟨w.heap.size + 1 + 1, 3, none⟩ (.int .i64 q.fr)).setCell ⟨w.heap.size + 1 + 1, 4, none⟩ (.int .i64 q.tgt)).heap[w.heap.size + 1]? = some (.cells #[.int .i64 0, .string ⟨#[]⟩, .slice none 0 0, .int .i64 0, .int .i64 0, .slice none 0 0] 26 (0, 0)) := by
      rw [heap_setCell_other _ _ _ _ (by simp), heap_setCell_other _ _ _ _ (by simp), heap_setCell_other _ _ _ _ (by simp)]; exact r1b
    replace v4 : (((w1.setCell ⟨w.heap.size + 1 + 1, 2, none⟩ (.slice (some ⟨g1, 0, none⟩) q.ws.length q.ws.length)).setCell ⟨w.heap.size + 1 + 1, 3, none⟩ (.int .i64 q.fr)).setCell ⟨w.heap.size + 1 + 1, 4, none⟩ (.int .i64 q.tgt)).heap[w.heap.size + 1 + 1]? = some (.cells #[.int .i64 q.kd, .string q.fd, .slice (some ⟨g1, 0, none⟩) q.ws.length q.ws.length, .int .i64 q.fr, .int .i64 q.tgt, .slice none 0 0] 26 (0, 0)) := v4
    have HCAP : Hid (q.ws.length ≤ maxLen) := by show _ ≤ maxLen; unfold maxLen; omega
    have V4 := Lib.hid v4
    have E4 := Lib.hid e4
    have R4 := Lib.hid r4
    have BB4 := Lib.hid hB4
    clear p0 r0 v0 p1 r1b v1 v2 v3 v4 e4 r4 hB4 hB hb1 hB1 r1 hS hf1 hw1
    go_wp2_with fail
    generalize (((w1.setCell ⟨w.heap.size + 1 + 1, 2, none⟩ (.slice (some ⟨g1, 0, none⟩) q.ws.length q.ws.length)).setCell ⟨w.heap.size + 1 + 1, 3, none⟩ (.int .i64 q.fr)).setCell ⟨w.heap.size + 1 + 1, 4, none⟩ (.int .i64 q.tgt)) = V at V4 E4 R4 BB4 ⊢
    clear x3 x4 x5 k2 k3 k4 k5 z2 z3 z4
    have hB4 := BB4.out
    have hVs := E4.out.1
    refine (toQueryS_of n IH B d q.ks _ (rdQ_below HK.out hB4) hk1 HK2).mono ?_
    rintro e w2 ⟨B2, ⟨rfl, hk3⟩, hb2⟩
    have hw2s := hb2.size
    have v5 := (hb2.block _ (by omega)).trans V4.out
    have r5 := (hb2.block _ (by omega)).trans R4.out
    obtain ⟨y0, y1, y2, y3, y4, y5⟩ := blk6 v5
    have z5 := frozen_blk v5 5
    obtain ⟨s0, s1, s2, s3, s4, s5⟩ := blk6 r5
    have t0 := frozen_blk r5 0
    have t1 := frozen_blk r5 1
    have t2 := frozen_blk r5 2
    have t3 := frozen_blk r5 3
    have t4 := frozen_blk r5 4
    have t5 := frozen_blk r5 5
    have HF : Hid (∀ W5, (SameR (w.heap.size + 3) w2.heap.size w2 W5 ∧ Below w.heap.size w W5) → KeptQ (n + 1) w W5 q (some ⟨g1, 0, none⟩) q.ws.length B2) := fun W5 h5 w'' hq => by
      have h6 : SameR (w.heap.size + 3) w2.heap.size w2 w'' := h5.1.trans (hq.lo (by omega)) h5.1.1
      refine ⟨⟨srcT_same T1.out ?_ (by have := h6.1; omega), Nat.le_refl _, HCAP.out⟩, hk3 w'' (h6.lo (by omega))⟩
      exact (h6.2 g1 (by omega) (by omega)).trans ((hb2.block g1 (by omega)).trans (E4.out.2 g1 (by omega) (by omega)))
    have HG : Hid (∀ u0 u1 u2 u3 u4 u5 u6, SameR (w.heap.size + 3) w2.heap.size w2 (((((((w2.setCell ⟨w.heap.size + 1 + 1, 5, none⟩ u6).setCell ⟨w.heap.size + 1, 0, none⟩ u0).setCell ⟨w.heap.size + 1, 1, none⟩ u1).setCell ⟨w.heap.size + 1, 2, none⟩ u2).setCell ⟨w.heap.size + 1, 3, none⟩ u3).setCell ⟨w.heap.size + 1, 4, none⟩ u4).setCell ⟨w.heap.size + 1, 5, none⟩ u5) ∧
        Below w.heap.size w (((((((w2.setCell ⟨w.heap.size + 1 + 1, 5, none⟩ u6).setCell ⟨w.heap.size + 1, 0, none⟩ u0).setCell ⟨w.heap.size + 1, 1, none⟩ u1).setCell ⟨w.heap.size + 1, 2, none⟩ u2).setCell ⟨w.heap.size + 1, 3, none⟩ u3).setCell ⟨w.heap.size + 1, 4, none⟩ u4).setCell ⟨w.heap.size + 1, 5, none⟩ u5)) := fun u0 u1 u2 u3 u4 u5 u6 =>
      ⟨((((((SameR.set w2 _ (by omega) (Nat.le_refl _)).set2 _ (by omega)).set2 _ (by omega)).set2 _ (by omega)).set2 _ (by omega)).set2 _ (by omega)).set2 _ (by omega),
       (((((((hB4.trans (hb2.mono (by omega))).setCell (p := ⟨w.heap.size + 1 + 1, 5, none⟩) (by show _ ≤ _ + 1 + 1; omega) _).setCell (p := ⟨w.heap.size + 1, 0, none⟩) (by show _ ≤ _ + 1; omega) _).setCell (p := ⟨w.heap.size + 1, 1, none⟩) (by show _ ≤ _ + 1; omega) _).setCell (p := ⟨w.heap.size + 1, 2, none⟩) (by show _ ≤ _ + 1; omega) _).setCell (p := ⟨w.heap.size + 1, 3, none⟩) (by show _ ≤ _ + 1; omega) _).setCell (p := ⟨w.heap.size + 1, 4, none⟩) (by show _ ≤ _ + 1; omega) _).setCell (p := ⟨w.heap.size + 1, 5, none⟩) (by show _ ≤ _ + 1; omega) _⟩
    clear v5 r5 V4 R4 E4 BB4 hB4 hb2 hk3 HK HK2 T1 hVs hw2s hw1s hg1 hsz hk1
    go_wp2
    exact bodyPost_ret (v := .agg #[.int .i64 q.kd, .string q.fd, .slice (some ⟨g1, 0, none⟩) q.ws.length q.ws.length, .int .i64 q.fr, .int .i64 q.tgt, .slice B2 q.ks.length q.ks.length]) (by simp [results, Tryd.results23, go_sem, *]) rfl (ToP.mk (HF.out _ (HG.out _ _ _ _ _ _ _)) (HG.out _ _ _ _ _ _ _).2)
end Go.Proofs.YtaobgliimbmemaaDoor
