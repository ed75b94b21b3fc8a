/-
  The walk of FnQueryOk.
-/
import Derived.Test.YtaobgliimbmemaaDoorDrawQOk
import Derived.Test.YtaobgliimbmemaaDoorNodeOk2
namespace Go.Proofs.YtaobgliimbmemaaDoor
open Go.RowKit Go.Sort
set_option linter.unusedVariables false
set_option linter.unusedSimpArgs false

theorem SmA.lm {q : QD} (h : SmA q) (k : Nat) : LmQ 1048576 k q := (h k).1.le (by omega)
theorem SmA.wf {q : QD} (h : SmA q) (k : Nat) : WfQ k q := (h k).2
theorem SmA.kids {q : QD} (h : SmA q) : ∀ y ∈ q.ks, SmA y := fun y hy k => ⟨(h (k + 1)).1.2.2.2.2 y hy, (h (k + 1)).2.2 y hy⟩
theorem SmA.node {kd fr : Int} {ks : List QD} (h0 : 0 ≤ kd) (h1 : kd ≤ 100) (hl : ks.length ≤ 1000) (hk : ∀ y ∈ ks, SmA y) : SmA ⟨kd, ⟨#[]⟩, [], fr, 0, ks⟩
  | 0 => ⟨trivial, trivial⟩
  | j + 1 => ⟨⟨by show (0 : Nat) ≤ _; omega, by simp, fun s hs => by simp at hs, Nat.le_trans hl (by omega), fun y hy => (hk y hy j).1⟩, show (Lit.int .i64 kd).wf = true from Go.WalkArith.wf_i64 ⟨by omega, by omega⟩, fun y hy => (hk y hy j).2⟩
theorem rdK_blkY {n : Nat} {w : World} {b : Nat} {cs : Array Value} {hv : List HdQy} (h : w.heap[b]? = some (.cells cs 26 (0, 0))) (hcs : cs.toList = hv.flatMap encYq) (hq : ∀ m ∈ hv, HasQ n w m.q m.A m.c m.B) :
    RdK (HasQ n) w (some ⟨b, 0, none⟩) (hv.map (·.q)) := rdK_cellsY (Array.getElem?_eq_some_iff.1 h).1 (fun j u hu => by rw [Nat.zero_add, cell_of_row _ _ j cs _ (0, 0) h, ← Array.getElem?_toList, hcs]; exact hu) hq
theorem has_node {n : Nat} {w : World} {kd fr : Int} {B : Option Addr} {ks : List QD} (h : RdK (HasQ n) w B ks) : HasQ (n + 1) w ⟨kd, ⟨#[]⟩, [], fr, 0, ks⟩ none 0 B := ⟨srcQ_nil w, h⟩
theorem cQueryOk (bm n : Nat) (q : QD) (A : Option Addr) (c : Nat) (B : Option Addr) (d : Nat) (R : Bool) (hR : Hid (okQ 4 q = R)) {W : World} (hl : Hid (LaidSh bm W)) (h : Hid (HasQ n W q A c B)) (hs : Hid (SmA q)) (dw : Nat) (os : Array Obj) :
    Calls Tryd.prog 13 #[.agg #[.int .i64 q.kd, .string q.fd, .slice A q.ws.length c, .int .i64 q.fr, .int .i64 q.tgt, .slice B q.ks.length d]] (grow (redrawn W dw) os) fun e w'' => e = .returned (.bool R) ∧ ∃ p : Regrown, w'' = grow (redrawn W p.d) p.os := by
  rw [← hR.out]
  exact Calls.regrown_of (queryOk_any bm n q A c B d _ (hl.out.below (below_regrown W dw os)) (h.out.below (below_regrown W dw os)) (hs.out.lm n) (hs.out.wf n))
theorem cTimesOk (bm n : Nat) (q : QD) (A : Option Addr) (c : Nat) (B : Option Addr) (d b : Nat) (R : Bool) (hR : Hid (okQ 3 q = R)) {W : World} (hl : Hid (LaidSh bm W)) (hb : Hid (W.heap[b]? = some (.cells #[.int .i64 q.kd, .string q.fd, .slice A q.ws.length c, .int .i64 q.fr, .int .i64 q.tgt, .slice B q.ks.length d] 26 (0, 0)))) (h : Hid (HasQ n W q A c B)) (hs : Hid (SmA q)) (dw : Nat) (os : Array Obj) :
    Calls Tryd.prog 13 #[.agg #[.int .i64 10, .string ⟨#[]⟩, .slice none 0 0, .int .i64 2, .int .i64 0, .slice (some ⟨b, 0, none⟩) 1 1]] (grow (redrawn W dw) os) fun e w'' => e = .returned (.bool R) ∧ ∃ p : Regrown, w'' = grow (redrawn W p.d) p.os :=
  cQueryOk bm (n + 1) ⟨10, ⟨#[]⟩, [], 2, 0, [q]⟩ none 0 (some ⟨b, 0, none⟩) 1 R ((ok_times q).trans hR.out) hl (has_node (rdK_blkY (hv := [⟨q, A, c, B, d⟩]) hb.out rfl (fun m hm => by simp only [List.mem_cons, List.not_mem_nil, or_false] at hm; subst hm; exact h.out))) (SmA.node (by omega) (by omega) (by simp) (fun y hy => by simp only [List.mem_cons, List.not_mem_nil, or_false] at hy; subst hy; exact hs.out)) dw os
theorem cBothOk (bm n : Nat) (q : QD) (A : Option Addr) (c : Nat) (B : Option Addr) (d b : Nat) (R : Bool) (hR : Hid (okQ 3 q = R)) {W : World} (hl : Hid (LaidSh bm W)) (hb : Hid (W.heap[b]? = some (.cells #[.int .i64 q.kd, .string q.fd, .slice A q.ws.length c, .int .i64 q.fr, .int .i64 q.tgt, .slice B q.ks.length d, .int .i64 q.kd, .string q.fd, .slice A q.ws.length c, .int .i64 q.fr, .int .i64 q.tgt, .slice B q.ks.length d] 26 (0, 0)))) (h : Hid (HasQ n W q A c B)) (hs : Hid (SmA q)) (dw : Nat) (os : Array Obj) :
    Calls Tryd.prog 13 #[.agg #[.int .i64 7, .string ⟨#[]⟩, .slice none 0 0, .int .i64 0, .int .i64 0, .slice (some ⟨b, 0, none⟩) 2 2]] (grow (redrawn W dw) os) fun e w'' => e = .returned (.bool R) ∧ ∃ p : Regrown, w'' = grow (redrawn W p.d) p.os :=
  cQueryOk bm (n + 1) ⟨7, ⟨#[]⟩, [], 0, 0, [q, q]⟩ none 0 (some ⟨b, 0, none⟩) 2 R (((ok_both q q).trans (Bool.and_self _)).trans hR.out) hl (has_node (rdK_blkY (hv := [⟨q, A, c, B, d⟩, ⟨q, A, c, B, d⟩]) hb.out rfl (fun m hm => by simp only [List.mem_cons, List.not_mem_nil, or_false, or_self] at hm; subst hm; exact h.out))) (SmA.node (by omega) (by omega) (by simp) (fun y hy => by simp only [List.mem_cons, List.not_mem_nil, or_false, or_self] at hy; subst hy; exact hs.out)) dw os
set_option maxRecDepth 8000 in
set_option maxHeartbeats 3200000 in
theorem walk_FnQueryOk (a0 : Option Addr) (len cap : Nat) (zs : List Int) (w : World) (h : IsRow .u8 w a0 len cap zs) (hl : ∃ bm, LaidSh bm w) :
    Calls Tryd.prog 5 #[.slice a0 len cap] w fun e w' => e = .returned (.bool true) ∧ Below w.heap.size w w' := by
  obtain ⟨bm, hl⟩ := hl
  have HL := Lib.hid hl
  have hB0 : Below w.heap.size w w := Below.refl _ _
  clear hl
  by_cases hbig : 1048576 < len
  · have hb2 : (1048576 : Int) < (len : Int) := by omega
    go_enter Tryd.func5, Tryd.ntmps5
    go_wp2
    go_ret
    exact ⟨rfl, hB0⟩
  have hb2 : ¬ (1048576 : Int) < (len : Int) := by omega
  go_enter Tryd.func5, Tryd.ntmps5
  go_wp2_with fail
  refine (drawQueryOk_any a0 len cap zs w h).mono ?_
  rintro e w1 ⟨q, A, c, B, d, ⟨rfl, hsm, hk⟩, hb1⟩
  have hQ1 : HasQ 4 w1 q A c B := hk w1 ⟨Nat.le_refl _, fun _ _ _ => rfl⟩
  have cb := alloc_new w1 (.cells #[.int .i64 q.kd, .string q.fd, .slice A q.ws.length c, .int .i64 q.fr, .int .i64 q.tgt, .slice B q.ks.length d] 26)
  have bw : Below w1.heap.size w1 (w1.alloc (.cells #[.int .i64 q.kd, .string q.fd, .slice A q.ws.length c, .int .i64 q.fr, .int .i64 q.tgt, .slice B q.ks.length d] 26)) := (Below.refl _ _).alloc (Nat.le_refl _) _
  have sz : w1.heap.size < (w1.alloc (.cells #[.int .i64 q.kd, .string q.fd, .slice A q.ws.length c, .int .i64 q.fr, .int .i64 q.tgt, .slice B q.ks.length d] 26)).heap.size := by simp
  have hB2 := hb1.trans (bw.mono hb1.size)
  have HSM := Lib.hid hsm
  have HQ := Lib.hid (hQ1.below bw)
  have HL2 := Lib.hid ((HL.out.below hb1).below bw)
  have wfq := Lib.hid (hsm.wf 4)
  clear hk hQ1 hsm hb1 bw h
  obtain ⟨x0, x1, x2, x3, x4, x5⟩ := blk6 cb
  go_wp2_with fail
  generalize (w1.alloc (.cells #[.int .i64 q.kd, .string q.fd, .slice A q.ws.length c, .int .i64 q.fr, .int .i64 q.tgt, .slice B q.ks.length d] 26)) = W2 at cb sz hB2 HQ HL2 x0 x1 x2 x3 x4 x5 ⊢
  generalize w1.heap.size = qb at cb sz x0 x1 x2 x3 x4 x5 ⊢
  refine (queryOk_any bm 4 q A c B d _ HL2.out HQ.out (HSM.out.lm 4) wfq).mono ?_
  rintro e w3 ⟨rfl, hb3⟩
  have KB : Hid (∀ V, Below W2.heap.size W2 V → V.heap[qb]? = some (.cells #[.int .i64 q.kd, .string q.fd, .slice A q.ws.length c, .int .i64 q.fr, .int .i64 q.tgt, .slice B q.ks.length d] 26 (0, 0))) := fun V hV => (hV.block qb sz).trans cb
  clear x0 x1 x2 x3 x4 x5 cb
  obtain ⟨x0, x1, x2, x3, x4, x5⟩ := blk6 (KB.out _ hb3)
  have H3 := Lib.hid (HQ.out.below hb3)
  cases ho : okQ 4 q with
  | false =>
    have HO := Lib.hid ho
    clear ho
    go_wp2_with fail
    refine (specQueryOk_any 4 q A c B d _ H3.out (HSM.out.lm 4)).mono ?_
    rintro e w4 ⟨he, hb4⟩
    rw [HO.out] at he
    subst he
    have hB4 := hb3.trans (hb4.mono hb3.size)
    clear x0 x1 x2 x3 x4 x5
    obtain ⟨x0, x1, x2, x3, x4, x5⟩ := blk6 (KB.out _ hB4)
    have H4 := Lib.hid (HQ.out.below hB4)
    go_wp2_with fail
    refine (specQueryOk_any 4 q A c B d _ H4.out (HSM.out.lm 4)).mono ?_
    rintro e w5 ⟨he, hb5⟩
    rw [HO.out] at he
    subst he
    have hB5 := hB2.trans ((hB4.trans (hb5.mono hB4.size)).mono hB2.size)
    go_wp2
    go_ret
    exact ⟨rfl, hB5⟩
  | true =>
    have HO := Lib.hid ho
    clear ho
    go_wp2_with fail
    refine (specQueryOk_any 4 q A c B d _ H3.out (HSM.out.lm 4)).mono ?_
    rintro e w4 ⟨he, hb4⟩
    rw [HO.out] at he
    subst he
    have hB4 := hb3.trans (hb4.mono hb3.size)
    clear x0 x1 x2 x3 x4 x5
    have hwl : Hid (q.ks.length ≤ 100000) := by have := (HSM.out 1).1.2.2.2.1; exact this
    have hkl := hwl.out
    go_wp2_with fail
    go_loopw [5] (fun iv wr => ∃ k : Nat, k ≤ q.ks.length ∧ iv = .int .i64 k ∧ Below W2.heap.size W2 wr) (fun iv _ => q.ks.length - (intOf iv).toNat)
    case atStart => exact ⟨0, Nat.zero_le _, rfl, hB4⟩
    case round =>
      obtain ⟨k, hk, rfl, hBk⟩ := hrel
      obtain ⟨x0, x1, x2, x3, x4, x5⟩ := blk6 (KB.out _ hBk)
      have hBw := hB2.trans (hBk.mono hB2.size)
      by_cases hlt : k < q.ks.length
      · obtain ⟨b, off, A1, c1, B1, d1, rfl, hbb, z0, z1, z2, z3, z4, z5, hh⟩ := RdK.cells (H := HasQ 3) (HQ.out.below hBk).2 hlt
        have hi0 : (k : Int) < (q.ks.length : Int) := by omega
        have hsm := Lib.hid (HSM.out.kids _ (List.getElem_mem hlt))
        have hok : Hid (okQ 4 q.ks[k] = true) := ok_kids HO.out _ (List.getElem_mem hlt)
        have hh := Lib.hid hh
        have hwk := Lib.hid (hsm.out.wf 3)
        generalize q.ks[k] = y at z0 z1 z2 z3 z4 z5 hh hsm hok hwk
        go_wp2_with fail
        refine (queryOk_any bm 3 y A1 c1 B1 d1 _ (HL2.out.below hBk) hh.out (hsm.out.lm 3) hwk).mono ?_
        rintro e w6 ⟨he, hb6⟩
        rw [hok.out] at he
        subst he
        have hB6 := hBk.trans (hb6.mono hBk.size)
        go_wp2
        go_roundw
        case rel => exact ⟨k + 1, by omega, by go_num, hB6⟩
        case measure => simp [intOf]; omega
      · have hb4 : Below wr.heap.size wr ((((wr.alloc (.cells #[.int .i64 q.kd, .string q.fd, .slice A q.ws.length c, .int .i64 q.fr, .int .i64 q.tgt, .slice B q.ks.length d] 26)).alloc (.cells #[.int .i64 10, .string ⟨#[]⟩, .slice none 0 0, .int .i64 2, .int .i64 0, .slice (some ⟨wr.heap.size, 0, none⟩) 1 1] 26)).alloc (.cells #[.int .i64 q.kd, .string q.fd, .slice A q.ws.length c, .int .i64 q.fr, .int .i64 q.tgt, .slice B q.ks.length d, .int .i64 q.kd, .string q.fd, .slice A q.ws.length c, .int .i64 q.fr, .int .i64 q.tgt, .slice B q.ks.length d] 26)).alloc (.cells #[.int .i64 7, .string ⟨#[]⟩, .slice none 0 0, .int .i64 0, .int .i64 0, .slice (some ⟨wr.heap.size + 1 + 1, 0, none⟩) 2 2] 26)) := (((((Below.refl _ wr).alloc (Nat.le_refl _) _).alloc (by simp) _).alloc (by simp <;> omega) _).alloc (by simp <;> omega) _)
        have hb2 : Below wr.heap.size wr ((wr.alloc (.cells #[.int .i64 q.kd, .string q.fd, .slice A q.ws.length c, .int .i64 q.fr, .int .i64 q.tgt, .slice B q.ks.length d] 26)).alloc (.cells #[.int .i64 10, .string ⟨#[]⟩, .slice none 0 0, .int .i64 2, .int .i64 0, .slice (some ⟨wr.heap.size, 0, none⟩) 1 1] 26)) := (((Below.refl _ wr).alloc (Nat.le_refl _) _).alloc (by simp) _)
        have T0 : ((((wr.alloc (.cells #[.int .i64 q.kd, .string q.fd, .slice A q.ws.length c, .int .i64 q.fr, .int .i64 q.tgt, .slice B q.ks.length d] 26)).alloc (.cells #[.int .i64 10, .string ⟨#[]⟩, .slice none 0 0, .int .i64 2, .int .i64 0, .slice (some ⟨wr.heap.size, 0, none⟩) 1 1] 26)).alloc (.cells #[.int .i64 q.kd, .string q.fd, .slice A q.ws.length c, .int .i64 q.fr, .int .i64 q.tgt, .slice B q.ks.length d, .int .i64 q.kd, .string q.fd, .slice A q.ws.length c, .int .i64 q.fr, .int .i64 q.tgt, .slice B q.ks.length d] 26)).alloc (.cells #[.int .i64 7, .string ⟨#[]⟩, .slice none 0 0, .int .i64 0, .int .i64 0, .slice (some ⟨wr.heap.size + 1 + 1, 0, none⟩) 2 2] 26)).heap[wr.heap.size]? = some (.cells #[.int .i64 q.kd, .string q.fd, .slice A q.ws.length c, .int .i64 q.fr, .int .i64 q.tgt, .slice B q.ks.length d] 26 (0, 0)) := alloc_elder (alloc_elder (alloc_elder (alloc_new wr _)))
        have T1 : ((((wr.alloc (.cells #[.int .i64 q.kd, .string q.fd, .slice A q.ws.length c, .int .i64 q.fr, .int .i64 q.tgt, .slice B q.ks.length d] 26)).alloc (.cells #[.int .i64 10, .string ⟨#[]⟩, .slice none 0 0, .int .i64 2, .int .i64 0, .slice (some ⟨wr.heap.size, 0, none⟩) 1 1] 26)).alloc (.cells #[.int .i64 q.kd, .string q.fd, .slice A q.ws.length c, .int .i64 q.fr, .int .i64 q.tgt, .slice B q.ks.length d, .int .i64 q.kd, .string q.fd, .slice A q.ws.length c, .int .i64 q.fr, .int .i64 q.tgt, .slice B q.ks.length d] 26)).alloc (.cells #[.int .i64 7, .string ⟨#[]⟩, .slice none 0 0, .int .i64 0, .int .i64 0, .slice (some ⟨wr.heap.size + 1 + 1, 0, none⟩) 2 2] 26)).heap[wr.heap.size + 1]? = some (.cells #[.int .i64 10, .string ⟨#[]⟩, .slice none 0 0, .int .i64 2, .int .i64 0, .slice (some ⟨wr.heap.size, 0, none⟩) 1 1] 26 (0, 0)) := alloc_elder (alloc_elder (by have := alloc_new (wr.alloc (.cells #[.int .i64 q.kd, .string q.fd, .slice A q.ws.length c, .int .i64 q.fr, .int .i64 q.tgt, .slice B q.ks.length d] 26)) (.cells #[.int .i64 10, .string ⟨#[]⟩, .slice none 0 0, .int .i64 2, .int .i64 0, .slice (some ⟨wr.heap.size, 0, none⟩) 1 1] 26); rwa [show (wr.alloc (.cells #[.int .i64 q.kd, .string q.fd, .slice A q.ws.length c, .int .i64 q.fr, .int .i64 q.tgt, .slice B q.ks.length d] 26)).heap.size = wr.heap.size + 1 by simp] at this))
        have T2 : ((((wr.alloc (.cells #[.int .i64 q.kd, .string q.fd, .slice A q.ws.length c, .int .i64 q.fr, .int .i64 q.tgt, .slice B q.ks.length d] 26)).alloc (.cells #[.int .i64 10, .string ⟨#[]⟩, .slice none 0 0, .int .i64 2, .int .i64 0, .slice (some ⟨wr.heap.size, 0, none⟩) 1 1] 26)).alloc (.cells #[.int .i64 q.kd, .string q.fd, .slice A q.ws.length c, .int .i64 q.fr, .int .i64 q.tgt, .slice B q.ks.length d, .int .i64 q.kd, .string q.fd, .slice A q.ws.length c, .int .i64 q.fr, .int .i64 q.tgt, .slice B q.ks.length d] 26)).alloc (.cells #[.int .i64 7, .string ⟨#[]⟩, .slice none 0 0, .int .i64 0, .int .i64 0, .slice (some ⟨wr.heap.size + 1 + 1, 0, none⟩) 2 2] 26)).heap[wr.heap.size + 1 + 1]? = some (.cells #[.int .i64 q.kd, .string q.fd, .slice A q.ws.length c, .int .i64 q.fr, .int .i64 q.tgt, .slice B q.ks.length d, .int .i64 q.kd, .string q.fd, .slice A q.ws.length c, .int .i64 q.fr, .int .i64 q.tgt, .slice B q.ks.length d] 26 (0, 0)) := alloc_elder (by have := alloc_new ((wr.alloc (.cells #[.int .i64 q.kd, .string q.fd, .slice A q.ws.length c, .int .i64 q.fr, .int .i64 q.tgt, .slice B q.ks.length d] 26)).alloc (.cells #[.int .i64 10, .string ⟨#[]⟩, .slice none 0 0, .int .i64 2, .int .i64 0, .slice (some ⟨wr.heap.size, 0, none⟩) 1 1] 26)) (.cells #[.int .i64 q.kd, .string q.fd, .slice A q.ws.length c, .int .i64 q.fr, .int .i64 q.tgt, .slice B q.ks.length d, .int .i64 q.kd, .string q.fd, .slice A q.ws.length c, .int .i64 q.fr, .int .i64 q.tgt, .slice B q.ks.length d] 26); rwa [show ((wr.alloc (.cells #[.int .i64 q.kd, .string q.fd, .slice A q.ws.length c, .int .i64 q.fr, .int .i64 q.tgt, .slice B q.ks.length d] 26)).alloc (.cells #[.int .i64 10, .string ⟨#[]⟩, .slice none 0 0, .int .i64 2, .int .i64 0, .slice (some ⟨wr.heap.size, 0, none⟩) 1 1] 26)).heap.size = wr.heap.size + 1 + 1 by simp] at this)
        have T3 : ((((wr.alloc (.cells #[.int .i64 q.kd, .string q.fd, .slice A q.ws.length c, .int .i64 q.fr, .int .i64 q.tgt, .slice B q.ks.length d] 26)).alloc (.cells #[.int .i64 10, .string ⟨#[]⟩, .slice none 0 0, .int .i64 2, .int .i64 0, .slice (some ⟨wr.heap.size, 0, none⟩) 1 1] 26)).alloc (.cells #[.int .i64 q.kd, .string q.fd, .slice A q.ws.length c, .int .i64 q.fr, .int .i64 q.tgt, .slice B q.ks.length d, .int .i64 q.kd, .string q.fd, .slice A q.ws.length c, .int .i64 q.fr, .int .i64 q.tgt, .slice B q.ks.length d] 26)).alloc (.cells #[.int .i64 7, .string ⟨#[]⟩, .slice none 0 0, .int .i64 0, .int .i64 0, .slice (some ⟨wr.heap.size + 1 + 1, 0, none⟩) 2 2] 26)).heap[wr.heap.size + 1 + 1 + 1]? = some (.cells #[.int .i64 7, .string ⟨#[]⟩, .slice none 0 0, .int .i64 0, .int .i64 0, .slice (some ⟨wr.heap.size + 1 + 1, 0, none⟩) 2 2] 26 (0, 0)) := by have := alloc_new (((wr.alloc (.cells #[.int .i64 q.kd, .string q.fd, .slice A q.ws.length c, .int .i64 q.fr, .int .i64 q.tgt, .slice B q.ks.length d] 26)).alloc (.cells #[.int .i64 10, .string ⟨#[]⟩, .slice none 0 0, .int .i64 2, .int .i64 0, .slice (some ⟨wr.heap.size, 0, none⟩) 1 1] 26)).alloc (.cells #[.int .i64 q.kd, .string q.fd, .slice A q.ws.length c, .int .i64 q.fr, .int .i64 q.tgt, .slice B q.ks.length d, .int .i64 q.kd, .string q.fd, .slice A q.ws.length c, .int .i64 q.fr, .int .i64 q.tgt, .slice B q.ks.length d] 26)) (.cells #[.int .i64 7, .string ⟨#[]⟩, .slice none 0 0, .int .i64 0, .int .i64 0, .slice (some ⟨wr.heap.size + 1 + 1, 0, none⟩) 2 2] 26); rwa [show (((wr.alloc (.cells #[.int .i64 q.kd, .string q.fd, .slice A q.ws.length c, .int .i64 q.fr, .int .i64 q.tgt, .slice B q.ks.length d] 26)).alloc (.cells #[.int .i64 10, .string ⟨#[]⟩, .slice none 0 0, .int .i64 2, .int .i64 0, .slice (some ⟨wr.heap.size, 0, none⟩) 1 1] 26)).alloc (.cells #[.int .i64 q.kd, .string q.fd, .slice A q.ws.length c, .int .i64 q.fr, .int .i64 q.tgt, .slice B q.ks.length d, .int .i64 q.kd, .string q.fd, .slice A q.ws.length c, .int .i64 q.fr, .int .i64 q.tgt, .slice B q.ks.length d] 26)).heap.size = wr.heap.size + 1 + 1 + 1 by simp] at this
        have H4 := KB.out _ (hBk.trans (hb4.mono hBk.size))
        obtain ⟨y0, y1, y2, y3, y4, y5⟩ := blk6 (KB.out _ (hBk.trans (hb2.mono hBk.size)))
        have HQ4 := Lib.hid (HQ.out.below (hBk.trans (hb4.mono hBk.size)))
        have HL4 := Lib.hid (HL2.out.below (hBk.trans (hb4.mono hBk.size)))
        have hB9 := hBw.trans (hb4.mono hBw.size)
        have HH4 := Lib.hid H4
        have HT0 := Lib.hid T0
        have HT1 := Lib.hid T1
        have HT2 := Lib.hid T2
        have HT3 := Lib.hid T3
        clear T0 T1 T2 T3 H4 hb4 hb2
        go_wp2_with fail
        generalize ((((wr.alloc (.cells #[.int .i64 q.kd, .string q.fd, .slice A q.ws.length c, .int .i64 q.fr, .int .i64 q.tgt, .slice B q.ks.length d] 26)).alloc (.cells #[.int .i64 10, .string ⟨#[]⟩, .slice none 0 0, .int .i64 2, .int .i64 0, .slice (some ⟨wr.heap.size, 0, none⟩) 1 1] 26)).alloc (.cells #[.int .i64 q.kd, .string q.fd, .slice A q.ws.length c, .int .i64 q.fr, .int .i64 q.tgt, .slice B q.ks.length d, .int .i64 q.kd, .string q.fd, .slice A q.ws.length c, .int .i64 q.fr, .int .i64 q.tgt, .slice B q.ks.length d] 26)).alloc (.cells #[.int .i64 7, .string ⟨#[]⟩, .slice none 0 0, .int .i64 0, .int .i64 0, .slice (some ⟨wr.heap.size + 1 + 1, 0, none⟩) 2 2] 26)) = W9 at HT0 HT1 HT2 HT3 HH4 HQ4 HL4 hB9 ⊢
        clear x0 x1 x2 x3 x4 x5 y0 y1 y2 y3 y4 y5
        obtain ⟨R, hR⟩ : ∃ R, okQ 3 q = R := ⟨_, rfl⟩
        have HR := Lib.hid hR
        have HKR : Hid (q.ks.length = 0 → R = true) := fun h0 => by rw [← hR]; exact ok_three HO.out (List.length_eq_zero_iff.1 h0)
        clear hR
        obtain ⟨_, _, _, _, _, x5⟩ := blk6 HH4.out
        obtain ⟨t0, t1, t2, t3, t4, t5⟩ := blk6 HT1.out
        obtain ⟨b0, b1, b2, b3, b4, b5⟩ := blk6 HT3.out
        replace x5 := cell_regrown x5
        replace t0 := cell_regrown t0
        replace b0 := cell_regrown b0
        replace t1 := cell_regrown t1
        replace b1 := cell_regrown b1
        replace t2 := cell_regrown t2
        replace b2 := cell_regrown b2
        replace t3 := cell_regrown t3
        replace b3 := cell_regrown b3
        replace t4 := cell_regrown t4
        replace b4 := cell_regrown b4
        replace t5 := cell_regrown t5
        replace b5 := cell_regrown b5
        rcases Nat.eq_zero_or_pos q.ks.length with hk0 | hk0
        · have hRt := HKR.out hk0
          subst hRt
          have hd : decide ((q.ks.length : Int) > 0) = false := by rw [decide_eq_false_iff_not]; omega
          have hd2 : decide (0 < (q.ks.length : Int)) = false := by rw [decide_eq_false_iff_not]; omega
          have hd3 : decide (0 < q.ks.length) = false := by rw [decide_eq_false_iff_not]; omega
          have HK0 := Lib.hid hk0
          clear hk0 hkl hlt hk
          refine region_qw (by kernel_rfl) (by kernel_rfl) ?_
          repeat (
            refine qw_step (fun K hK => ?_)
            go_simp
            first
              | (refine hK _ ?_; clear hK K)
              | (apply Exists.intro
                 refine ⟨fun _ => ?_, hK _ ?_⟩
                 (first | ((go_at_call_of 13 (10 : Int); exact cTimesOk bm 4 q A c B d _ true HR HL4 HT0 HQ4 HSM _ _)) | ((go_at_call_of 13 (7 : Int); exact cBothOk bm 4 q A c B d _ true HR HL4 HT2 HQ4 HSM _ _)))
                 clear hK K)
              | fail)
          refine qw_nil ?_
          intro _ hw'
          obtain ⟨⟨dq, osq⟩, hw''⟩ := hw'
          subst hw''
          have hBq := hB9.trans ((below_regrown W9 dq osq).mono (by have := hB9.size; omega))
          dsimp only
          generalize grow (redrawn W9 dq) osq = Wq at hBq ⊢
          go_wp2
          go_ret
          exact ⟨rfl, hBq⟩
        · have hd : decide ((q.ks.length : Int) > 0) = true := by rw [decide_eq_true_iff]; omega
          have hd2 : decide (0 < (q.ks.length : Int)) = true := by rw [decide_eq_true_iff]; omega
          have hd3 : decide (0 < q.ks.length) = true := by rw [decide_eq_true_iff]; omega
          refine region_qw (by kernel_rfl) (by kernel_rfl) ?_
          repeat (
            refine qw_step (fun K hK => ?_)
            go_simp
            first
              | (refine hK _ ?_; clear hK K)
              | (apply Exists.intro
                 refine ⟨fun _ => ?_, hK _ ?_⟩
                 (first | ((go_at_call_of 13 (10 : Int); exact cTimesOk bm 4 q A c B d _ R HR HL4 HT0 HQ4 HSM _ _)) | ((go_at_call_of 13 (7 : Int); exact cBothOk bm 4 q A c B d _ R HR HL4 HT2 HQ4 HSM _ _)))
                 clear hK K)
              | fail)
          refine qw_nil ?_
          intro _ hw'
          obtain ⟨⟨dq, osq⟩, hw''⟩ := hw'
          subst hw''
          have hBq := hB9.trans ((below_regrown W9 dq osq).mono (by have := hB9.size; omega))
          dsimp only
          generalize grow (redrawn W9 dq) osq = Wq at hBq ⊢
          go_wp2
          go_ret
          exact ⟨rfl, hBq⟩
end Go.Proofs.YtaobgliimbmemaaDoor
