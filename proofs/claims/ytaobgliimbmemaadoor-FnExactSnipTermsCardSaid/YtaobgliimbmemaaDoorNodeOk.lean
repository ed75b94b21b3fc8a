/-
  impl.nodeOk, QueryOk: printed by mk_node.py.
-/
import Derived.Test.YtaobgliimbmemaaDoorNodeLaw
namespace Go.Proofs.YtaobgliimbmemaaDoor
open Go.RowKit Go.Sort
set_option linter.unusedVariables false
set_option linter.unusedSimpArgs false

def zShp : Shp := ⟨false, 0, 0, 0, 0, false, 0, 0⟩
abbrev shpV (x : Shp) : Value := .agg #[.bool x.f, .int .i64 x.lw, .int .i64 x.mw, .int .i64 x.lo, .int .i64 x.hi, .bool x.rg, .int .i64 x.lk, .int .i64 x.tk]
/-- the variable 'shapes' holds the map in block bm, that looks up as the table says. -/
structure LaidSh (bm : Nat) (w : World) : Prop where
  bl : bm < w.heap.size
  gl : 1 < w.heap.size
  cell : w.cell? ⟨1, 0, none⟩ = some (.map (some bm))
  look : ∀ V : World, V.heap[bm]? = w.heap[bm]? → ∀ kd : Int, (Lit.int .i64 kd).wf = true → (Instr.lookup 101 (.map (some bm)) (.int .i64 kd) true).run Tryd.prog V = .ok (.tuple #[shpV ((shp kd).getD zShp), .bool (shp kd).isSome]) V
theorem LaidSh.below {bm : Nat} {w w' : World} (h : LaidSh bm w) (hb : Below w.heap.size w w') : LaidSh bm w' :=
  ⟨Nat.lt_of_lt_of_le h.bl hb.size, Nat.lt_of_lt_of_le h.gl hb.size, (belowL hb h.gl).trans h.cell, fun V hV kd hk => h.look V (hV.trans (hb.block bm h.bl)) kd hk⟩
theorem LaidSh.run {bm : Nat} {w : World} (h : LaidSh bm w) (kd : Int) (hk : (Lit.int .i64 kd).wf = true) : (Instr.lookup 101 (.map (some bm)) (.int .i64 kd) true).run Tryd.prog w = .ok (.tuple #[shpV ((shp kd).getD zShp), .bool (shp kd).isSome]) w := h.look w rfl kd hk
def NdC (bm n : Nat) : Prop := ∀ (q : QD) (A : Option Addr) (c : Nat) (B : Option Addr) (d : Nat) (m : Nat) (w : World), LaidSh bm w → HasQ n w q A c B → LmQ 1048576 n q → WfQ n q → m ≤ 4 →
  Calls Tryd.prog 42 #[.agg #[.int .i64 q.kd, .string q.fd, .slice A q.ws.length c, .int .i64 q.fr, .int .i64 q.tgt, .slice B q.ks.length d], .int .i64 m] w fun e w' => e = .returned (.bool (okQ m q)) ∧ Below w.heap.size w w'
theorem okQ_none {q : QD} (m : Nat) (h : shp q.kd = none) : okQ m q = false := by
  cases m with
  | zero => rfl
  | succ p => show (oneB q && _) = false; rw [← oneI_eq]; unfold oneI; rw [h]; rfl
theorem okQ_some {q : QD} {x : Shp} (p : Nat) (h : shp q.kd = some x) : okQ (p + 1) q = (oneX x q && q.ks.all (okQ p)) := by
  show (oneB q && _) = _; rw [← oneI_eq]; unfold oneI; rw [h]

theorem blk8 {W : World} {b : Nat} {u0 u1 u2 u3 u4 u5 u6 u7 : Value} {t : TypeId} {r : Nat × Nat} (h : W.heap[b]? = some (.cells #[u0, u1, u2, u3, u4, u5, u6, u7] t r)) :
    W.cell? ⟨b, 0, none⟩ = some u0 ∧ W.cell? ⟨b, 1, none⟩ = some u1 ∧ W.cell? ⟨b, 2, none⟩ = some u2 ∧ W.cell? ⟨b, 3, none⟩ = some u3 ∧ W.cell? ⟨b, 4, none⟩ = some u4 ∧ W.cell? ⟨b, 5, none⟩ = some u5 ∧ W.cell? ⟨b, 6, none⟩ = some u6 ∧ W.cell? ⟨b, 7, none⟩ = some u7 :=
  ⟨cells_blk h rfl, cells_blk h rfl, cells_blk h rfl, cells_blk h rfl, cells_blk h rfl, cells_blk h rfl, cells_blk h rfl, cells_blk h rfl⟩
theorem box2 (w : World) (o1 o2 : Obj) : ∀ W : World, W = (w.alloc o1).alloc o2 → W.heap[w.heap.size]? = some o1 ∧ W.heap[w.heap.size + 1]? = some o2 ∧ Below w.heap.size w W ∧ w.heap.size + 1 < W.heap.size := by
  rintro W rfl
  have e1 : (w.alloc o1).heap.size = w.heap.size + 1 := by simp
  refine ⟨alloc_elder (alloc_new w o1), ?_, (((Below.refl _ w).alloc (Nat.le_refl _) o1).alloc (by omega) o2), by simp⟩
  have := alloc_new (w.alloc o1) o2; rw [e1] at this; exact this
theorem wdI_5 (s : ByteArray) : wdI 5 s = (globB s && !(wordB s)) := rfl
theorem wdI_n {kd : Int} (h : ¬ kd = 5) (s : ByteArray) : wdI kd s = wordB s := by unfold wdI; rw [if_neg h]
set_option maxRecDepth 20000 in
set_option maxHeartbeats 12800000 in
theorem nodeOk_core (bm n : Nat) (IH : Hid (NdC bm n)) (kd : Int) (fd : ByteArray) (ws : List ByteArray) (fr tq : Int) (ks : List QD) (A : Option Addr) (c : Nat) (B : Option Addr) (d : Nat) (p : Nat) (w : World) (f rg : Bool) (lw mw lo hi lk tk : Int)
    (hx : shp kd = some ⟨f, lw, mw, lo, hi, rg, lk, tk⟩) (HL : Hid (LaidSh bm w)) (HH : Hid (SrcT w A c ws ∧ RdK (HasQ n) w B ks)) (hf1 : fd.size ≤ 1048576) (hw1 : ws.length ≤ 1048576) (HW : Hid (∀ s ∈ ws, s.size ≤ 1048576)) (hk1 : ks.length ≤ 1048576) (HK2 : Hid (∀ k ∈ ks, LmQ 1048576 n k)) (hwf : Hid ((Lit.int .i64 kd).wf = true)) (HK3 : Hid (∀ k ∈ ks, WfQ n k)) (hp : p ≤ 3) :
    Calls Tryd.prog 42 #[.agg #[.int .i64 kd, .string fd, .slice A ws.length c, .int .i64 fr, .int .i64 tq, .slice B ks.length d], .int .i64 (p + 1 : Nat)] w fun e w' => e = .returned (.bool (oneX ⟨f, lw, mw, lo, hi, rg, lk, tk⟩ ⟨kd, fd, ws, fr, tq, ks⟩ && ks.all (okQ p))) ∧ Below w.heap.size w w' := by
  obtain ⟨R, hR⟩ : ∃ R, R = (oneX ⟨f, lw, mw, lo, hi, rg, lk, tk⟩ ⟨kd, fd, ws, fr, tq, ks⟩ && ks.all (okQ p)) := ⟨_, rfl⟩
  rw [← hR]
  have HR := Lib.hid hR
  have hB0 : Below w.heap.size w (w.alloc (.cells #[.int .i64 kd, .string fd, .slice A ws.length c, .int .i64 fr, .int .i64 tq, .slice B ks.length d] 26)) := (Below.refl _ w).alloc (Nat.le_refl _) _
  have hc := (HL.out.below hB0).cell
  have hrun := (HL.out.below hB0).run kd hwf.out
  rw [hx] at hrun
  simp only [Option.getD_some, Option.isSome_some] at hrun
  have hd1 : ¬ (((p + 1 : Nat) : Int) < 1) := by omega
  have hd2 : ¬ ((p : Int) + 1 < 1) := by omega
  have hd3 : decide ((p : Int) + 1 < 1) = false := decide_eq_false hd2
  have hpw : IntKind.i64.wrap ((p : Int) + 1 - 1) = (p : Int) := by rw [IntKind.wrap_i64] <;> omega
  obtain ⟨cb, sb, hB, sz⟩ := box2 w (.cells #[.int .i64 kd, .string fd, .slice A ws.length c, .int .i64 fr, .int .i64 tq, .slice B ks.length d] 26) (.cells #[.bool f, .int .i64 lw, .int .i64 mw, .int .i64 lo, .int .i64 hi, .bool rg, .int .i64 lk, .int .i64 tk] 99) _ rfl
  obtain ⟨x0, x1, x2, x3, x4, x5⟩ := blk6 cb
  obtain ⟨s0, s1, s2, s3, s4, s5, s6, s7⟩ := blk8 sb
  clear hR hx
  go_enter Tryd.func42, Tryd.ntmps42
  by_cases hfd : fd = ⟨#[]⟩
  · subst hfd
    cases f with
    | true =>
      have HV : Hid (R = false) := by show _ = _; rw [HR.out]; simp [oneX]
      go_wp2
      go_ret
      exact ⟨ret_bool HV.out.symm, hB⟩
    | false =>
      go_wp2_with fail
      generalize ((w.alloc (.cells #[.int .i64 kd, .string ⟨#[]⟩, .slice A ws.length c, .int .i64 fr, .int .i64 tq, .slice B ks.length d] 26)).alloc (.cells #[.bool false, .int .i64 lw, .int .i64 mw, .int .i64 lo, .int .i64 hi, .bool rg, .int .i64 lk, .int .i64 tk] 99)) = W at cb sb hB sz x0 x1 x2 x3 x4 x5 s0 s1 s2 s3 s4 s5 s6 s7 ⊢
      refine (within_any (ws.length : Int) lw mw _).mono ?_
      rintro e w1 ⟨rfl, rfl⟩
      cases h0 : wi (ws.length : Int) lw mw with
      | false =>
        have HV : Hid (R = false) := by show _ = _; rw [HR.out]; simp [oneX, h0]
        go_wp2
        go_ret
        exact ⟨ret_bool HV.out.symm, hB⟩
      | true =>
        go_wp2_with fail
        refine (within_any (ks.length : Int) lk tk _).mono ?_
        rintro e w1 ⟨rfl, rfl⟩
        cases h1 : wi (ks.length : Int) lk tk with
        | false =>
          have HV : Hid (R = false) := by show _ = _; rw [HR.out]; simp [oneX, h0, h1]
          go_wp2
          go_ret
          exact ⟨ret_bool HV.out.symm, hB⟩
        | true =>
          go_wp2_with fail
          refine (within_any fr lo hi _).mono ?_
          rintro e w1 ⟨rfl, rfl⟩
          cases h2 : wi fr lo hi with
          | false =>
            have HV : Hid (R = false) := by show _ = _; rw [HR.out]; simp [oneX, h0, h1, h2]
            go_wp2
            go_ret
            exact ⟨ret_bool HV.out.symm, hB⟩
          | true =>
            cases rg with
            | true =>
              go_wp2_with fail
              refine (within_any tq fr 999999999 _).mono ?_
              rintro e w1 ⟨rfl, rfl⟩
              cases h3 : wi tq fr 999999999 with
              | false =>
                have HV : Hid (R = false) := by show _ = _; rw [HR.out]; simp [oneX, h0, h1, h2, h3]
                go_wp2
                go_ret
                exact ⟨ret_bool HV.out.symm, hB⟩
              | true =>
                have HV : Hid (R = (ws.all (wdI kd) && ks.all (okQ p))) := by show _ = _; rw [HR.out]; simp [oneX, h0, h1, h2, h3]
                clear HR
                go_wp2_with fail
                go_loop [8, 95] (fun _ iv => ∃ k : Nat, k ≤ ws.length ∧ iv = .int .i64 k ∧ Hid ((ws.take k).all (wdI kd) = true)) (fun _ iv => ws.length - (intOf iv).toNat)
                case atStart => exact ⟨0, Nat.zero_le _, rfl, rfl⟩
                case round =>
                  obtain ⟨k, hk, rfl, hm⟩ := hrel
                  by_cases hlt : k < ws.length
                  · obtain ⟨b, off, rfl, hbb, c0⟩ := (HH.out.1.below hB).atT hlt
                    have hi0 : (k : Int) < (ws.length : Int) := by omega
                    have hsz := HW.out _ (List.getElem_mem hlt)
                    have HN := Lib.hid (all_succ (wdI kd) hlt)
                    have HF : Hid (wdI kd ws[k] = false → ws.all (wdI kd) = false) := fun h => all_bad hlt h
                    generalize ws[k] = s at c0 hsz HN HF
                    by_cases hk5 : kd = 5
                    · have e5 : (kd == 5) = true := by simp [hk5]
                      have n5 : (kd != 5) = false := by simp [hk5]
                      have HK5 := Lib.hid hk5
                      clear hk5
                      go_wp2_with fail
                      refine (globOk_any s _ (by omega)).mono ?_
                      rintro e w1 ⟨rfl, rfl⟩
                      cases hg : globB s with
                      | false =>
                        have HV2 : Hid (R = false) := by show _ = _; rw [HV.out, HF.out (by rw [HK5.out, wdI_5, hg]; rfl)]; rfl
                        go_wp2
                        go_ret
                        exact ⟨ret_bool HV2.out.symm, hB⟩
                      | true =>
                        go_wp2_with fail
                        refine (wordOk_any s _ (by omega)).mono ?_
                        rintro e w1 ⟨rfl, rfl⟩
                        cases hw : wordB s with
                        | true =>
                          have HV2 : Hid (R = false) := by show _ = _; rw [HV.out, HF.out (by rw [HK5.out, wdI_5, hg, hw]; rfl)]; rfl
                          go_wp2
                          go_ret
                          exact ⟨ret_bool HV2.out.symm, hB⟩
                        | false =>
                          have HM : Hid ((ws.take (k + 1)).all (wdI kd) = true) := by show _ = _; rw [HN.out, hm.out, HK5.out, wdI_5, hg, hw]; rfl
                          go_wp2
                          go_round
                          case rel => exact ⟨k + 1, by omega, by go_num, HM⟩
                          case measure => simp [intOf]; omega
                    · have e5 : (kd == 5) = false := by simp [hk5]
                      have n5 : (kd != 5) = true := by simp [hk5]
                      go_wp2_with fail
                      refine (wordOk_any s _ (by omega)).mono ?_
                      rintro e w1 ⟨rfl, rfl⟩
                      cases hw : wordB s with
                      | false =>
                        have HV2 : Hid (R = false) := by show _ = _; rw [HV.out, HF.out (by rw [wdI_n hk5, hw])]; rfl
                        go_wp2
                        go_ret
                        exact ⟨ret_bool HV2.out.symm, hB⟩
                      | true =>
                        have HM : Hid ((ws.take (k + 1)).all (wdI kd) = true) := by show _ = _; rw [HN.out, hm.out, wdI_n hk5, hw]; rfl
                        go_wp2
                        go_round
                        case rel => exact ⟨k + 1, by omega, by go_num, HM⟩
                        case measure => simp [intOf]; omega
                  · have HV3 : Hid (R = ks.all (okQ p)) := by
                      show _ = _
                      have := hm.out
                      rw [List.take_of_length_le (by omega)] at this
                      rw [HV.out, this]; rfl
                    clear hm HV
                    go_wp2_with fail
                    go_loopw [10, 125] (fun _ iv wr => ∃ k : Nat, k ≤ ks.length ∧ iv = .int .i64 k ∧ Hid ((ks.take k).all (okQ p) = true) ∧ Below W.heap.size W wr) (fun _ iv _ => ks.length - (intOf iv).toNat)
                    case atStart => exact ⟨0, Nat.zero_le _, rfl, rfl, Below.refl _ _⟩
                    case round =>
                      obtain ⟨k, hk, rfl, hm, hBk⟩ := hrel
                      have hBw := hB.trans (hBk.mono hB.size)
                      by_cases hlt : k < ks.length
                      · obtain ⟨b, off, A1, c1, B1, d1, rfl, hbb, z0, z1, z2, z3, z4, z5, hh⟩ := (rdQ_below HH.out.2 hBw).cells hlt
                        have hi0 : (k : Int) < (ks.length : Int) := by omega
                        have hsm := Lib.hid (HK2.out _ (List.getElem_mem hlt))
                        have hsw := Lib.hid (HK3.out _ (List.getElem_mem hlt))
                        have hh := Lib.hid hh
                        have HN := Lib.hid (all_succ (okQ p) hlt)
                        have HF : Hid (okQ p ks[k] = false → ks.all (okQ p) = false) := fun h => all_bad hlt h
                        generalize ks[k] = y at z0 z1 z2 z3 z4 z5 hh hsm hsw HN HF
                        have hBa : Below wr.heap.size wr (wr.alloc (.cells #[.int .i64 y.kd, .string y.fd, .slice A1 y.ws.length c1, .int .i64 y.fr, .int .i64 y.tgt, .slice B1 y.ks.length d1] 26)) := (Below.refl _ _).alloc (Nat.le_refl _) _
                        have HA := Lib.hid hBa
                        clear hBa
                        go_wp2_with fail
                        refine (IH.out y A1 c1 B1 d1 p _ (HL.out.below (hBw.trans (HA.out.mono hBw.size))) (hh.out.below HA.out) hsm.out hsw.out (by omega)).mono ?_
                        rintro e w2 ⟨rfl, hb2⟩
                        have hB2 := hBk.trans ((HA.out.trans (hb2.mono HA.out.size)).mono hBk.size)
                        have hBw2 := hB.trans (hB2.mono hB.size)
                        cases h1 : okQ p y with
                        | false =>
                          have HV4 : Hid (R = false) := HV3.out.trans (HF.out h1)
                          go_wp2
                          go_ret
                          exact ⟨ret_bool HV4.out.symm, hBw2⟩
                        | true =>
                          have HM : Hid ((ks.take (k + 1)).all (okQ p) = true) := by show _ = _; rw [HN.out, hm.out, h1]; rfl
                          go_wp2
                          go_roundw
                          case rel => exact ⟨k + 1, by omega, by go_num, HM, hB2⟩
                          case measure => simp [intOf]; omega
                      · have HV4 : Hid (R = true) := by
                          show _ = _
                          rw [HV3.out]
                          have := hm.out
                          rwa [List.take_of_length_le (by omega)] at this
                        clear hm
                        go_wp2
                        go_ret
                        exact ⟨ret_bool HV4.out.symm, hBw⟩
            | false =>
              by_cases h3 : tq = 0
              · subst h3
                have HV : Hid (R = (ws.all (wdI kd) && ks.all (okQ p))) := by show _ = _; rw [HR.out]; simp [oneX, h0, h1, h2]
                clear HR
                go_wp2_with fail
                go_loop [8, 95] (fun _ iv => ∃ k : Nat, k ≤ ws.length ∧ iv = .int .i64 k ∧ Hid ((ws.take k).all (wdI kd) = true)) (fun _ iv => ws.length - (intOf iv).toNat)
                case atStart => exact ⟨0, Nat.zero_le _, rfl, rfl⟩
                case round =>
                  obtain ⟨k, hk, rfl, hm⟩ := hrel
                  by_cases hlt : k < ws.length
                  · obtain ⟨b, off, rfl, hbb, c0⟩ := (HH.out.1.below hB).atT hlt
                    have hi0 : (k : Int) < (ws.length : Int) := by omega
                    have hsz := HW.out _ (List.getElem_mem hlt)
                    have HN := Lib.hid (all_succ (wdI kd) hlt)
                    have HF : Hid (wdI kd ws[k] = false → ws.all (wdI kd) = false) := fun h => all_bad hlt h
                    generalize ws[k] = s at c0 hsz HN HF
                    by_cases hk5 : kd = 5
                    · have e5 : (kd == 5) = true := by simp [hk5]
                      have n5 : (kd != 5) = false := by simp [hk5]
                      have HK5 := Lib.hid hk5
                      clear hk5
                      go_wp2_with fail
                      refine (globOk_any s _ (by omega)).mono ?_
                      rintro e w1 ⟨rfl, rfl⟩
                      cases hg : globB s with
                      | false =>
                        have HV2 : Hid (R = false) := by show _ = _; rw [HV.out, HF.out (by rw [HK5.out, wdI_5, hg]; rfl)]; rfl
                        go_wp2
                        go_ret
                        exact ⟨ret_bool HV2.out.symm, hB⟩
                      | true =>
                        go_wp2_with fail
                        refine (wordOk_any s _ (by omega)).mono ?_
                        rintro e w1 ⟨rfl, rfl⟩
                        cases hw : wordB s with
                        | true =>
                          have HV2 : Hid (R = false) := by show _ = _; rw [HV.out, HF.out (by rw [HK5.out, wdI_5, hg, hw]; rfl)]; rfl
                          go_wp2
                          go_ret
                          exact ⟨ret_bool HV2.out.symm, hB⟩
                        | false =>
                          have HM : Hid ((ws.take (k + 1)).all (wdI kd) = true) := by show _ = _; rw [HN.out, hm.out, HK5.out, wdI_5, hg, hw]; rfl
                          go_wp2
                          go_round
                          case rel => exact ⟨k + 1, by omega, by go_num, HM⟩
                          case measure => simp [intOf]; omega
                    · have e5 : (kd == 5) = false := by simp [hk5]
                      have n5 : (kd != 5) = true := by simp [hk5]
                      go_wp2_with fail
                      refine (wordOk_any s _ (by omega)).mono ?_
                      rintro e w1 ⟨rfl, rfl⟩
                      cases hw : wordB s with
                      | false =>
                        have HV2 : Hid (R = false) := by show _ = _; rw [HV.out, HF.out (by rw [wdI_n hk5, hw])]; rfl
                        go_wp2
                        go_ret
                        exact ⟨ret_bool HV2.out.symm, hB⟩
                      | true =>
                        have HM : Hid ((ws.take (k + 1)).all (wdI kd) = true) := by show _ = _; rw [HN.out, hm.out, wdI_n hk5, hw]; rfl
                        go_wp2
                        go_round
                        case rel => exact ⟨k + 1, by omega, by go_num, HM⟩
                        case measure => simp [intOf]; omega
                  · have HV3 : Hid (R = ks.all (okQ p)) := by
                      show _ = _
                      have := hm.out
                      rw [List.take_of_length_le (by omega)] at this
                      rw [HV.out, this]; rfl
                    clear hm HV
                    go_wp2_with fail
                    go_loopw [10, 125] (fun _ iv wr => ∃ k : Nat, k ≤ ks.length ∧ iv = .int .i64 k ∧ Hid ((ks.take k).all (okQ p) = true) ∧ Below W.heap.size W wr) (fun _ iv _ => ks.length - (intOf iv).toNat)
                    case atStart => exact ⟨0, Nat.zero_le _, rfl, rfl, Below.refl _ _⟩
                    case round =>
                      obtain ⟨k, hk, rfl, hm, hBk⟩ := hrel
                      have hBw := hB.trans (hBk.mono hB.size)
                      by_cases hlt : k < ks.length
                      · obtain ⟨b, off, A1, c1, B1, d1, rfl, hbb, z0, z1, z2, z3, z4, z5, hh⟩ := (rdQ_below HH.out.2 hBw).cells hlt
                        have hi0 : (k : Int) < (ks.length : Int) := by omega
                        have hsm := Lib.hid (HK2.out _ (List.getElem_mem hlt))
                        have hsw := Lib.hid (HK3.out _ (List.getElem_mem hlt))
                        have hh := Lib.hid hh
                        have HN := Lib.hid (all_succ (okQ p) hlt)
                        have HF : Hid (okQ p ks[k] = false → ks.all (okQ p) = false) := fun h => all_bad hlt h
                        generalize ks[k] = y at z0 z1 z2 z3 z4 z5 hh hsm hsw HN HF
                        have hBa : Below wr.heap.size wr (wr.alloc (.cells #[.int .i64 y.kd, .string y.fd, .slice A1 y.ws.length c1, .int .i64 y.fr, .int .i64 y.tgt, .slice B1 y.ks.length d1] 26)) := (Below.refl _ _).alloc (Nat.le_refl _) _
                        have HA := Lib.hid hBa
                        clear hBa
                        go_wp2_with fail
                        refine (IH.out y A1 c1 B1 d1 p _ (HL.out.below (hBw.trans (HA.out.mono hBw.size))) (hh.out.below HA.out) hsm.out hsw.out (by omega)).mono ?_
                        rintro e w2 ⟨rfl, hb2⟩
                        have hB2 := hBk.trans ((HA.out.trans (hb2.mono HA.out.size)).mono hBk.size)
                        have hBw2 := hB.trans (hB2.mono hB.size)
                        cases h1 : okQ p y with
                        | false =>
                          have HV4 : Hid (R = false) := HV3.out.trans (HF.out h1)
                          go_wp2
                          go_ret
                          exact ⟨ret_bool HV4.out.symm, hBw2⟩
                        | true =>
                          have HM : Hid ((ks.take (k + 1)).all (okQ p) = true) := by show _ = _; rw [HN.out, hm.out, h1]; rfl
                          go_wp2
                          go_roundw
                          case rel => exact ⟨k + 1, by omega, by go_num, HM, hB2⟩
                          case measure => simp [intOf]; omega
                      · have HV4 : Hid (R = true) := by
                          show _ = _
                          rw [HV3.out]
                          have := hm.out
                          rwa [List.take_of_length_le (by omega)] at this
                        clear hm
                        go_wp2
                        go_ret
                        exact ⟨ret_bool HV4.out.symm, hBw⟩
              · have n3 : (tq == 0) = false := by rw [beq_eq_false_iff_ne]; exact h3
                have n4 : (tq != 0) = true := by simp [h3]
                have HV : Hid (R = false) := by show _ = _; rw [HR.out]; simp [oneX, h0, h1, h2, h3]
                go_wp2
                go_ret
                exact ⟨ret_bool HV.out.symm, hB⟩
  · have nF := fd_ne hfd
    cases f with
    | false =>
      have HV : Hid (R = false) := by show _ = _; rw [HR.out]; simp [oneX, hfd]
      go_wp2
      go_ret
      exact ⟨ret_bool HV.out.symm, hB⟩
    | true =>
      go_wp2_with fail
      generalize ((w.alloc (.cells #[.int .i64 kd, .string fd, .slice A ws.length c, .int .i64 fr, .int .i64 tq, .slice B ks.length d] 26)).alloc (.cells #[.bool true, .int .i64 lw, .int .i64 mw, .int .i64 lo, .int .i64 hi, .bool rg, .int .i64 lk, .int .i64 tk] 99)) = W at cb sb hB sz x0 x1 x2 x3 x4 x5 s0 s1 s2 s3 s4 s5 s6 s7 ⊢
      refine (wordOk_any fd _ (by omega)).mono ?_
      rintro e w1 ⟨rfl, rfl⟩
      cases hwf : wordB fd with
      | false =>
        have HV : Hid (R = false) := by show _ = _; rw [HR.out]; simp [oneX, hfd, hwf]
        go_wp2
        go_ret
        exact ⟨ret_bool HV.out.symm, hB⟩
      | true =>
        go_wp2_with fail
        refine (within_any (ws.length : Int) lw mw _).mono ?_
        rintro e w1 ⟨rfl, rfl⟩
        cases h0 : wi (ws.length : Int) lw mw with
        | false =>
          have HV : Hid (R = false) := by show _ = _; rw [HR.out]; simp [oneX, hfd, hwf, h0]
          go_wp2
          go_ret
          exact ⟨ret_bool HV.out.symm, hB⟩
        | true =>
          go_wp2_with fail
          refine (within_any (ks.length : Int) lk tk _).mono ?_
          rintro e w1 ⟨rfl, rfl⟩
          cases h1 : wi (ks.length : Int) lk tk with
          | false =>
            have HV : Hid (R = false) := by show _ = _; rw [HR.out]; simp [oneX, hfd, hwf, h0, h1]
            go_wp2
            go_ret
            exact ⟨ret_bool HV.out.symm, hB⟩
          | true =>
            go_wp2_with fail
            refine (within_any fr lo hi _).mono ?_
            rintro e w1 ⟨rfl, rfl⟩
            cases h2 : wi fr lo hi with
            | false =>
              have HV : Hid (R = false) := by show _ = _; rw [HR.out]; simp [oneX, hfd, hwf, h0, h1, h2]
              go_wp2
              go_ret
              exact ⟨ret_bool HV.out.symm, hB⟩
            | true =>
              cases rg with
              | true =>
                go_wp2_with fail
                refine (within_any tq fr 999999999 _).mono ?_
                rintro e w1 ⟨rfl, rfl⟩
                cases h3 : wi tq fr 999999999 with
                | false =>
                  have HV : Hid (R = false) := by show _ = _; rw [HR.out]; simp [oneX, hfd, hwf, h0, h1, h2, h3]
                  go_wp2
                  go_ret
                  exact ⟨ret_bool HV.out.symm, hB⟩
                | true =>
                  have HV : Hid (R = (ws.all (wdI kd) && ks.all (okQ p))) := by show _ = _; rw [HR.out]; simp [oneX, hfd, hwf, h0, h1, h2, h3]
                  clear HR
                  go_wp2_with fail
                  go_loop [8, 95] (fun _ iv => ∃ k : Nat, k ≤ ws.length ∧ iv = .int .i64 k ∧ Hid ((ws.take k).all (wdI kd) = true)) (fun _ iv => ws.length - (intOf iv).toNat)
                  case atStart => exact ⟨0, Nat.zero_le _, rfl, rfl⟩
                  case round =>
                    obtain ⟨k, hk, rfl, hm⟩ := hrel
                    by_cases hlt : k < ws.length
                    · obtain ⟨b, off, rfl, hbb, c0⟩ := (HH.out.1.below hB).atT hlt
                      have hi0 : (k : Int) < (ws.length : Int) := by omega
                      have hsz := HW.out _ (List.getElem_mem hlt)
                      have HN := Lib.hid (all_succ (wdI kd) hlt)
                      have HF : Hid (wdI kd ws[k] = false → ws.all (wdI kd) = false) := fun h => all_bad hlt h
                      generalize ws[k] = s at c0 hsz HN HF
                      by_cases hk5 : kd = 5
                      · have e5 : (kd == 5) = true := by simp [hk5]
                        have n5 : (kd != 5) = false := by simp [hk5]
                        have HK5 := Lib.hid hk5
                        clear hk5
                        go_wp2_with fail
                        refine (globOk_any s _ (by omega)).mono ?_
                        rintro e w1 ⟨rfl, rfl⟩
                        cases hg : globB s with
                        | false =>
                          have HV2 : Hid (R = false) := by show _ = _; rw [HV.out, HF.out (by rw [HK5.out, wdI_5, hg]; rfl)]; rfl
                          go_wp2
                          go_ret
                          exact ⟨ret_bool HV2.out.symm, hB⟩
                        | true =>
                          go_wp2_with fail
                          refine (wordOk_any s _ (by omega)).mono ?_
                          rintro e w1 ⟨rfl, rfl⟩
                          cases hw : wordB s with
                          | true =>
                            have HV2 : Hid (R = false) := by show _ = _; rw [HV.out, HF.out (by rw [HK5.out, wdI_5, hg, hw]; rfl)]; rfl
                            go_wp2
                            go_ret
                            exact ⟨ret_bool HV2.out.symm, hB⟩
                          | false =>
                            have HM : Hid ((ws.take (k + 1)).all (wdI kd) = true) := by show _ = _; rw [HN.out, hm.out, HK5.out, wdI_5, hg, hw]; rfl
                            go_wp2
                            go_round
                            case rel => exact ⟨k + 1, by omega, by go_num, HM⟩
                            case measure => simp [intOf]; omega
                      · have e5 : (kd == 5) = false := by simp [hk5]
                        have n5 : (kd != 5) = true := by simp [hk5]
                        go_wp2_with fail
                        refine (wordOk_any s _ (by omega)).mono ?_
                        rintro e w1 ⟨rfl, rfl⟩
                        cases hw : wordB s with
                        | false =>
                          have HV2 : Hid (R = false) := by show _ = _; rw [HV.out, HF.out (by rw [wdI_n hk5, hw])]; rfl
                          go_wp2
                          go_ret
                          exact ⟨ret_bool HV2.out.symm, hB⟩
                        | true =>
                          have HM : Hid ((ws.take (k + 1)).all (wdI kd) = true) := by show _ = _; rw [HN.out, hm.out, wdI_n hk5, hw]; rfl
                          go_wp2
                          go_round
                          case rel => exact ⟨k + 1, by omega, by go_num, HM⟩
                          case measure => simp [intOf]; omega
                    · have HV3 : Hid (R = ks.all (okQ p)) := by
                        show _ = _
                        have := hm.out
                        rw [List.take_of_length_le (by omega)] at this
                        rw [HV.out, this]; rfl
                      clear hm HV
                      go_wp2_with fail
                      go_loopw [10, 125] (fun _ iv wr => ∃ k : Nat, k ≤ ks.length ∧ iv = .int .i64 k ∧ Hid ((ks.take k).all (okQ p) = true) ∧ Below W.heap.size W wr) (fun _ iv _ => ks.length - (intOf iv).toNat)
                      case atStart => exact ⟨0, Nat.zero_le _, rfl, rfl, Below.refl _ _⟩
                      case round =>
                        obtain ⟨k, hk, rfl, hm, hBk⟩ := hrel
                        have hBw := hB.trans (hBk.mono hB.size)
                        by_cases hlt : k < ks.length
                        · obtain ⟨b, off, A1, c1, B1, d1, rfl, hbb, z0, z1, z2, z3, z4, z5, hh⟩ := (rdQ_below HH.out.2 hBw).cells hlt
                          have hi0 : (k : Int) < (ks.length : Int) := by omega
                          have hsm := Lib.hid (HK2.out _ (List.getElem_mem hlt))
                          have hsw := Lib.hid (HK3.out _ (List.getElem_mem hlt))
                          have hh := Lib.hid hh
                          have HN := Lib.hid (all_succ (okQ p) hlt)
                          have HF : Hid (okQ p ks[k] = false → ks.all (okQ p) = false) := fun h => all_bad hlt h
                          generalize ks[k] = y at z0 z1 z2 z3 z4 z5 hh hsm hsw HN HF
                          have hBa : Below wr.heap.size wr (wr.alloc (.cells #[.int .i64 y.kd, .string y.fd, .slice A1 y.ws.length c1, .int .i64 y.fr, .int .i64 y.tgt, .slice B1 y.ks.length d1] 26)) := (Below.refl _ _).alloc (Nat.le_refl _) _
                          have HA := Lib.hid hBa
                          clear hBa
                          go_wp2_with fail
                          refine (IH.out y A1 c1 B1 d1 p _ (HL.out.below (hBw.trans (HA.out.mono hBw.size))) (hh.out.below HA.out) hsm.out hsw.out (by omega)).mono ?_
                          rintro e w2 ⟨rfl, hb2⟩
                          have hB2 := hBk.trans ((HA.out.trans (hb2.mono HA.out.size)).mono hBk.size)
                          have hBw2 := hB.trans (hB2.mono hB.size)
                          cases h1 : okQ p y with
                          | false =>
                            have HV4 : Hid (R = false) := HV3.out.trans (HF.out h1)
                            go_wp2
                            go_ret
                            exact ⟨ret_bool HV4.out.symm, hBw2⟩
                          | true =>
                            have HM : Hid ((ks.take (k + 1)).all (okQ p) = true) := by show _ = _; rw [HN.out, hm.out, h1]; rfl
                            go_wp2
                            go_roundw
                            case rel => exact ⟨k + 1, by omega, by go_num, HM, hB2⟩
                            case measure => simp [intOf]; omega
                        · have HV4 : Hid (R = true) := by
                            show _ = _
                            rw [HV3.out]
                            have := hm.out
                            rwa [List.take_of_length_le (by omega)] at this
                          clear hm
                          go_wp2
                          go_ret
                          exact ⟨ret_bool HV4.out.symm, hBw⟩
              | false =>
                by_cases h3 : tq = 0
                · subst h3
                  have HV : Hid (R = (ws.all (wdI kd) && ks.all (okQ p))) := by show _ = _; rw [HR.out]; simp [oneX, hfd, hwf, h0, h1, h2]
                  clear HR
                  go_wp2_with fail
                  go_loop [8, 95] (fun _ iv => ∃ k : Nat, k ≤ ws.length ∧ iv = .int .i64 k ∧ Hid ((ws.take k).all (wdI kd) = true)) (fun _ iv => ws.length - (intOf iv).toNat)
                  case atStart => exact ⟨0, Nat.zero_le _, rfl, rfl⟩
                  case round =>
                    obtain ⟨k, hk, rfl, hm⟩ := hrel
                    by_cases hlt : k < ws.length
                    · obtain ⟨b, off, rfl, hbb, c0⟩ := (HH.out.1.below hB).atT hlt
                      have hi0 : (k : Int) < (ws.length : Int) := by omega
                      have hsz := HW.out _ (List.getElem_mem hlt)
                      have HN := Lib.hid (all_succ (wdI kd) hlt)
                      have HF : Hid (wdI kd ws[k] = false → ws.all (wdI kd) = false) := fun h => all_bad hlt h
                      generalize ws[k] = s at c0 hsz HN HF
                      by_cases hk5 : kd = 5
                      · have e5 : (kd == 5) = true := by simp [hk5]
                        have n5 : (kd != 5) = false := by simp [hk5]
                        have HK5 := Lib.hid hk5
                        clear hk5
                        go_wp2_with fail
                        refine (globOk_any s _ (by omega)).mono ?_
                        rintro e w1 ⟨rfl, rfl⟩
                        cases hg : globB s with
                        | false =>
                          have HV2 : Hid (R = false) := by show _ = _; rw [HV.out, HF.out (by rw [HK5.out, wdI_5, hg]; rfl)]; rfl
                          go_wp2
                          go_ret
                          exact ⟨ret_bool HV2.out.symm, hB⟩
                        | true =>
                          go_wp2_with fail
                          refine (wordOk_any s _ (by omega)).mono ?_
                          rintro e w1 ⟨rfl, rfl⟩
                          cases hw : wordB s with
                          | true =>
                            have HV2 : Hid (R = false) := by show _ = _; rw [HV.out, HF.out (by rw [HK5.out, wdI_5, hg, hw]; rfl)]; rfl
                            go_wp2
                            go_ret
                            exact ⟨ret_bool HV2.out.symm, hB⟩
                          | false =>
                            have HM : Hid ((ws.take (k + 1)).all (wdI kd) = true) := by show _ = _; rw [HN.out, hm.out, HK5.out, wdI_5, hg, hw]; rfl
                            go_wp2
                            go_round
                            case rel => exact ⟨k + 1, by omega, by go_num, HM⟩
                            case measure => simp [intOf]; omega
                      · have e5 : (kd == 5) = false := by simp [hk5]
                        have n5 : (kd != 5) = true := by simp [hk5]
                        go_wp2_with fail
                        refine (wordOk_any s _ (by omega)).mono ?_
                        rintro e w1 ⟨rfl, rfl⟩
                        cases hw : wordB s with
                        | false =>
                          have HV2 : Hid (R = false) := by show _ = _; rw [HV.out, HF.out (by rw [wdI_n hk5, hw])]; rfl
                          go_wp2
                          go_ret
                          exact ⟨ret_bool HV2.out.symm, hB⟩
                        | true =>
                          have HM : Hid ((ws.take (k + 1)).all (wdI kd) = true) := by show _ = _; rw [HN.out, hm.out, wdI_n hk5, hw]; rfl
                          go_wp2
                          go_round
                          case rel => exact ⟨k + 1, by omega, by go_num, HM⟩
                          case measure => simp [intOf]; omega
                    · have HV3 : Hid (R = ks.all (okQ p)) := by
                        show _ = _
                        have := hm.out
                        rw [List.take_of_length_le (by omega)] at this
                        rw [HV.out, this]; rfl
                      clear hm HV
                      go_wp2_with fail
                      go_loopw [10, 125] (fun _ iv wr => ∃ k : Nat, k ≤ ks.length ∧ iv = .int .i64 k ∧ Hid ((ks.take k).all (okQ p) = true) ∧ Below W.heap.size W wr) (fun _ iv _ => ks.length - (intOf iv).toNat)
                      case atStart => exact ⟨0, Nat.zero_le _, rfl, rfl, Below.refl _ _⟩
                      case round =>
                        obtain ⟨k, hk, rfl, hm, hBk⟩ := hrel
                        have hBw := hB.trans (hBk.mono hB.size)
                        by_cases hlt : k < ks.length
                        · obtain ⟨b, off, A1, c1, B1, d1, rfl, hbb, z0, z1, z2, z3, z4, z5, hh⟩ := (rdQ_below HH.out.2 hBw).cells hlt
                          have hi0 : (k : Int) < (ks.length : Int) := by omega
                          have hsm := Lib.hid (HK2.out _ (List.getElem_mem hlt))
                          have hsw := Lib.hid (HK3.out _ (List.getElem_mem hlt))
                          have hh := Lib.hid hh
                          have HN := Lib.hid (all_succ (okQ p) hlt)
                          have HF : Hid (okQ p ks[k] = false → ks.all (okQ p) = false) := fun h => all_bad hlt h
                          generalize ks[k] = y at z0 z1 z2 z3 z4 z5 hh hsm hsw HN HF
                          have hBa : Below wr.heap.size wr (wr.alloc (.cells #[.int .i64 y.kd, .string y.fd, .slice A1 y.ws.length c1, .int .i64 y.fr, .int .i64 y.tgt, .slice B1 y.ks.length d1] 26)) := (Below.refl _ _).alloc (Nat.le_refl _) _
                          have HA := Lib.hid hBa
                          clear hBa
                          go_wp2_with fail
                          refine (IH.out y A1 c1 B1 d1 p _ (HL.out.below (hBw.trans (HA.out.mono hBw.size))) (hh.out.below HA.out) hsm.out hsw.out (by omega)).mono ?_
                          rintro e w2 ⟨rfl, hb2⟩
                          have hB2 := hBk.trans ((HA.out.trans (hb2.mono HA.out.size)).mono hBk.size)
                          have hBw2 := hB.trans (hB2.mono hB.size)
                          cases h1 : okQ p y with
                          | false =>
                            have HV4 : Hid (R = false) := HV3.out.trans (HF.out h1)
                            go_wp2
                            go_ret
                            exact ⟨ret_bool HV4.out.symm, hBw2⟩
                          | true =>
                            have HM : Hid ((ks.take (k + 1)).all (okQ p) = true) := by show _ = _; rw [HN.out, hm.out, h1]; rfl
                            go_wp2
                            go_roundw
                            case rel => exact ⟨k + 1, by omega, by go_num, HM, hB2⟩
                            case measure => simp [intOf]; omega
                        · have HV4 : Hid (R = true) := by
                            show _ = _
                            rw [HV3.out]
                            have := hm.out
                            rwa [List.take_of_length_le (by omega)] at this
                          clear hm
                          go_wp2
                          go_ret
                          exact ⟨ret_bool HV4.out.symm, hBw⟩
                · have n3 : (tq == 0) = false := by rw [beq_eq_false_iff_ne]; exact h3
                  have n4 : (tq != 0) = true := by simp [h3]
                  have HV : Hid (R = false) := by show _ = _; rw [HR.out]; simp [oneX, hfd, hwf, h0, h1, h2, h3]
                  go_wp2
                  go_ret
                  exact ⟨ret_bool HV.out.symm, hB⟩
end Go.Proofs.YtaobgliimbmemaaDoor
