/-
  The walk of FnKnotsOf: a tree has all its points, whatever order they came in.
-/
import Derived.Test.YtbmbejomodkabaaKnotsFo
import Derived.Test.YtbmbejomodkabaaDrawPts
import Derived.Test.YtbmbejomodkabaaQw
import Derived.Deep.RegionHeld3
import Derived.Deep.RegionLaw
import Derived.Laws.StructEq
namespace Go.Proofs.Ytbmbejomodkabaa
open Go.RowKit Go.Sort
set_option linter.unusedVariables false

theorem pt_ne {a b : Pt} (h : a ≠ b) : ¬ (a.i = b.i) ∨ ¬ (a.x = b.x) ∨ ¬ (a.y = b.y) := by
  refine Classical.byContradiction fun hc => h ?_
  simp only [not_or, Classical.not_not] at hc
  exact Pt.ext' hc.1 hc.2.1 hc.2.2
theorem rev_step {L : List Pt} {m : Nat} (h : m < L.length) : (L.drop m).reverse = (L.drop (m + 1)).reverse ++ [L[m]] := by
  rw [List.drop_eq_getElem_cons h, List.reverse_cons]
def hasP (X : List Kn) (p : Pt) : Bool := X.any fun q => decide (q.p = p)
theorem hasP_succ {X : List Kn} {k : Nat} (hk : k < X.length) (p : Pt) : hasP (X.take (k + 1)) p = (hasP (X.take k) p || decide (X[k].p = p)) := by
  unfold hasP; rw [← List.take_append_getElem hk, List.any_append]; simp
theorem hasP_all {L : List Pt} (hok : okB L = true) {i : Nat} (hi : i < L.length) : hasP (knotsL L) L[i] = true := by
  unfold hasP
  rw [List.any_eq_true]
  have hp : (ptsL (knotsL L)).Perm L := by unfold knotsL; rw [if_pos hok]; exact knF_pts _ _ _ (Nat.le_refl _)
  have hm : L[i] ∈ ptsL (knotsL L) := hp.mem_iff.2 (List.getElem_mem hi)
  obtain ⟨q, hq, e⟩ := List.mem_map.1 hm
  exact ⟨q, hq, decide_eq_true e⟩
theorem SrcE.ptAt {w : World} {g c : Nat} {L : List Pt} (h : SrcE encPt 3 w (some ⟨g, 0, none⟩) c L) {k : Nat} (hk : k < L.length) :
    g < w.heap.size ∧ w.cell? ⟨g, k * 3, none⟩ = some (.int .i64 L[k].i) ∧ w.cell? ⟨g, k * 3 + 1, none⟩ = some (.int .i64 L[k].x) ∧ w.cell? ⟨g, k * 3 + 2, none⟩ = some (.int .i64 L[k].y) := by
  obtain ⟨b, off, e, hb, h0, h1, h2⟩ := h.1.atPt hk
  simp only [Option.some.injEq, Addr.mk.injEq, and_true] at e
  obtain ⟨rfl, rfl⟩ := e
  rw [Nat.zero_add] at h0 h1 h2
  exact ⟨hb, h0, h1, h2⟩
theorem SrcE.knAt {w : World} {g c : Nat} {L : List Kn} (h : SrcE encKn 8 w (some ⟨g, 0, none⟩) c L) {k : Nat} (hk : k < L.length) :
    g < w.heap.size ∧ w.cell? ⟨g, k * 8, none⟩ = some (.int .i64 L[k].i) ∧ w.cell? ⟨g, k * 8 + 1, none⟩ = some (.int .i64 L[k].x) ∧ w.cell? ⟨g, k * 8 + 2, none⟩ = some (.int .i64 L[k].y) ∧ w.cell? ⟨g, k * 8 + 3, none⟩ = some (.int .i64 L[k].l) ∧ w.cell? ⟨g, k * 8 + 4, none⟩ = some (.int .i64 L[k].a) ∧ w.cell? ⟨g, k * 8 + 5, none⟩ = some (.int .i64 L[k].b) ∧ w.cell? ⟨g, k * 8 + 6, none⟩ = some (.int .i64 L[k].c) ∧ w.cell? ⟨g, k * 8 + 7, none⟩ = some (.int .i64 L[k].d) := by
  obtain ⟨b, off, e, hb, h0, h1, h2, h3, h4, h5, h6, h7⟩ := h.1.atKn hk
  simp only [Option.some.injEq, Addr.mk.injEq, and_true] at e
  obtain ⟨rfl, rfl⟩ := e
  rw [Nat.zero_add] at h0 h1 h2 h3 h4 h5 h6 h7
  exact ⟨hb, h0, h1, h2, h3, h4, h5, h6, h7⟩
theorem SrcE.belowB {α : Type} {enc : α → List Value} {F : Nat} {w w' : World} {B g c : Nat} {L : List α} (h : SrcE enc F w (some ⟨g, 0, none⟩) c L) (hg : g < B) (hb : Below B w w') : SrcE enc F w' (some ⟨g, 0, none⟩) c L := by
  refine ⟨⟨h.1.1, fun hn => ?_⟩, .inr ⟨_, rfl⟩⟩
  obtain ⟨b, off, e, hlt, hc⟩ := h.1.2 hn
  simp only [Option.some.injEq, Addr.mk.injEq, and_true] at e
  obtain ⟨rfl, rfl⟩ := e
  exact ⟨g, 0, rfl, Nat.lt_of_lt_of_le hlt hb.size, fun j u hu => (hb.cell (p := ⟨g, 0 + j, none⟩) hg).trans (hc j u hu)⟩
set_option maxRecDepth 8000 in
set_option maxHeartbeats 8000000 in
theorem walk_FnKnotsOf (a0 : Option Addr) (len cap : Nat) (zs : List Int) (w : World) (h : IsRow .u8 w a0 len cap zs) :
    Calls Try.prog 4 #[.slice a0 len cap] w fun e w' => e = .returned (.bool true) ∧ Below w.heap.size w w' := by
  by_cases hbig : (1048576 : Int) < (len : Int)
  · go_enter Try.func4, Try.ntmps4
    go_wp2
    go_ret
    exact ⟨rfl, Below.refl _ _⟩
  · go_enter Try.func4, Try.ntmps4
    go_wp2_with fail
    refine (drawKnotsOf_any a0 len cap zs _ h).mono ?_
    rintro e w1 ⟨gL, cL, L, ⟨rfl, own1, hL⟩, hb1⟩
    clear h hbig
    have s1 := own1.src
    have hgL := own1.capOk.2.2.2
    obtain ⟨X, hX⟩ : ∃ X, X = knotsL L := ⟨_, rfl⟩
    have hXl : X.length ≤ 24 := by rw [hX]; exact knotsL_len_le L
    have ci := fun A c w h => implKnotsOf_any A c L w h (by omega)
    have cs := fun A c w h => specKnotsOf_any A c L w h (by omega)
    rw [← hX] at ci cs
    have CI := Lib.hid ci
    have CS := Lib.hid cs
    have HX := Lib.hid hX
    clear ci cs hX
    go_wp2_with fail
    refine (CI.out _ _ _ s1).mono ?_
    rintro e w2 ⟨gX, cX, ⟨rfl, own2⟩, hb2⟩
    have s2 := own2.src
    have hgX := own2.capOk.2.2.2
    have hB2 := hb1.trans (hb2.mono hb1.size)
    have s1b := s1.below hb2
    have u1 := hb2.size
    clear s1 own1 own2 hb1 hb2
    go_wp2_with fail
    refine (CS.out _ _ _ s1b).mono ?_
    rintro e w3 ⟨A3, c3, ⟨rfl, s3⟩, hb3⟩
    have hB3 := hB2.trans (hb3.mono hB2.size)
    have s1c := s1b.below hb3
    have s2c := s2.below hb3
    have u3 := hb3.size
    have u2 := hB2.size
    clear s1b s2 hb3 hB2
    go_wp2_with fail
    refine (foKnots_same _ _ _ _ X _ s2c.1 s3.1 (by omega)).mono ?_
    rintro e w4 ⟨rfl, hb4⟩
    have hB4 := hB3.trans (hb4.mono hB3.size)
    have s1d := s1c.below hb4
    have s2d := s2c.below hb4
    have u4 := hb4.size
    clear s1c s2c s3 hb4 hB3
    by_cases hll : X.length = L.length
    · have hok : okB L = true := by
        cases ho : okB L with
        | true => rfl
        | false =>
          have e1 : X = [] := by rw [HX.out, knotsL_bad ho]
          have e2 : L = [] := List.length_eq_zero_iff.1 (by rw [← hll, e1]; rfl)
          rw [e2] at ho; revert ho; decide
      have HOK : Hid (knotsOkL X = true) := by show _ = _; rw [HX.out]; exact knotsOkL_self L
      have HREV : Hid (knotsL L.reverse = X) := by show _ = _; rw [HX.out]; exact knotsL_perm (List.reverse_perm L)
      have HAS : Hid (∀ i (hi : i < L.length), hasP X L[i] = true) := fun i hi => by rw [HX.out]; exact hasP_all hok hi
      have HBX : Hid (∀ i (hi : i < L.length), ∃ h0 : 0 < X.length, (X[0].a ≤ L[i].x ∧ L[i].x ≤ X[0].b) ∧ (X[0].c ≤ L[i].y ∧ L[i].y ≤ X[0].d)) := fun i hi => by
        have h0 : 0 < X.length := by rw [hll]; omega
        have hs := shape_of hok (by rw [← HX.out]; exact h0)
        have hh := hs.has L[i] (List.getElem_mem hi)
        refine ⟨h0, ?_⟩
        have e := HX.out
        subst e
        exact hh
      have hne : ((X.length : Int) != (L.length : Int)) = false := by rw [hll]; simp
      have HLL := Lib.hid hll
      clear HX CS hll
      have hbN : Below w4.heap.size w4 (w4.alloc (.cells #[] 29)) := by (repeat' (first | exact Below.refl _ _ | apply Below.alloc | apply Below.setCell | apply Below.drew | apply below_draws)) <;> (first | omega | (simp <;> omega))
      have own0 := ownE_made (enc := encPt) (F := 3) 29 w4 w4.heap.size (Nat.le_refl _)
      have s1e := s1d.below hbN
      have s2e := s2d.below hbN
      have hB5 := hB4.trans (hbN.mono hB4.size)
      have hw5s := hbN.size
      clear s1d s2d hbN
      obtain ⟨B, hB⟩ : ∃ B, B = w4.heap.size := ⟨_, rfl⟩
      rw [← hB] at own0 hw5s
      have hBw : w.heap.size ≤ B := by have := hB4.size; omega
      have hgLB : gL < B := by omega
      have hgXB : gX < B := by omega
      clear hB4 hgL hgX u1 u2 u3 u4
      go_wp2_with fail
      rw [← hB]
      generalize (w4.alloc (.cells #[] 29)) = w5 at own0 s1e s2e hB5 hw5s ⊢
      clear hB
      have HSL : Hid (∀ w', Below B w5 w' → SrcE encPt 3 w' (some ⟨gL, 0, none⟩) cL L) := fun w' hb => s1e.belowB hgLB hb
      have HSX : Hid (∀ w', Below B w5 w' → SrcE encKn 8 w' (some ⟨gX, 0, none⟩) cX X) := fun w' hb => s2e.belowB hgXB hb
      have hB55 : Below B w5 w5 := Below.refl _ _
      clear s1e s2e
      go_loopw [5, 6] (fun tv iv wr => ∃ (m : Nat) (v : Int), m ≤ L.length ∧ iv = .int .i64 v ∧ v + 1 = (m : Int) ∧ ∃ (g c : Nat) (O : List Pt), tv = .slice (some ⟨g, 0, none⟩) O.length c ∧ Hid (O = (L.drop m).reverse) ∧ OwnE encPt 29 3 wr B g c O ∧ Below B w5 wr) (fun _ iv _ => (intOf iv + 1).toNat)
      case atStart => exact ⟨L.length, (L.length : Int) - 1, Nat.le_refl _, rfl, by omega, _, _, [], rfl, by show _ = _; simp, own0, hB55⟩
      case round =>
        clear own0 hB55
        obtain ⟨m, v, hm, rfl, hv, g, co, O, rfl, hO, own, hB⟩ := hrel
        have hOl : O.length ≤ L.length := by rw [hO.out, List.length_reverse, List.length_drop]; omega
        rcases Nat.eq_zero_or_pos m with rfl | hm0
        · have hO2 : Hid (O = L.reverse) := by show _ = _; rw [hO.out]; simp
          obtain rfl : v = -1 := by omega
          have hB6 := hB5.trans (hB.mono (by omega))
          have s1f := HSL.out _ hB
          have s2f := HSX.out _ hB
          have s4f := own.src
          clear hO own HSL HSX hB hB5 hOl hv
          obtain ⟨wl, hwl⟩ : ∃ wl, wl = wr := ⟨_, rfl⟩
          subst hwl
          go_wp2_with fail
          go_loopw [7, 8, 9] (fun iv _ _ wv => ∃ i : Nat, i ≤ L.length ∧ iv = .int .i64 i ∧ Below wl.heap.size wl wv) (fun iv _ _ _ => L.length - (intOf iv).toNat)
          case atStart => exact ⟨0, Nat.zero_le _, rfl, Below.refl _ _⟩
          case round =>
            obtain ⟨i, hi, rfl, hbv⟩ := hrel
            obtain ⟨wo, hwo⟩ : ∃ wo, wo = wr := ⟨_, rfl⟩
            subst hwo
            by_cases hlt : i < L.length
            · have hi0 : (i : Int) < (L.length : Int) := by omega
              have HHAS := Lib.hid (HAS.out i hlt)
              obtain ⟨h0, hbx⟩ := HBX.out i hlt
              obtain ⟨Li, hLi⟩ : ∃ Li, Li = L[i] := ⟨_, rfl⟩
              have HLI : Hid (∀ w', Below wl.heap.size wl w' → gL < w'.heap.size ∧ w'.cell? ⟨gL, i * 3, none⟩ = some (.int .i64 Li.i) ∧ w'.cell? ⟨gL, i * 3 + 1, none⟩ = some (.int .i64 Li.x) ∧ w'.cell? ⟨gL, i * 3 + 2, none⟩ = some (.int .i64 Li.y)) := fun w' hb => by rw [hLi]; exact (s1f.below hb).ptAt hlt
              rw [← hLi] at HHAS hbx
              clear hLi
              go_wp2_with fail
              go_loopw [8, 9] (fun bv kv wv => ∃ (k : Nat) (b : Bool), k ≤ X.length ∧ kv = .int .i64 k ∧ bv = .bool b ∧ Hid (b = hasP (X.take k) Li) ∧ Below wl.heap.size wl wv) (fun _ kv _ => X.length - (intOf kv).toNat)
              case atStart => exact ⟨0, false, Nat.zero_le _, rfl, rfl, rfl, hbv⟩
              case round =>
                clear hbv
                obtain ⟨k, b, hk, rfl, rfl, hm, hbi⟩ := hrel
                obtain ⟨wi, hwi⟩ : ∃ wi, wi = wr := ⟨_, rfl⟩
                subst hwi
                by_cases hltk : k < X.length
                · have hk0 : (k : Int) < (X.length : Int) := by omega
                  have hst := hasP_succ hltk Li
                  rw [← hm.out] at hst
                  obtain ⟨hgX1, x0, x1, x2, _, _, _, _, _⟩ := (s2f.below hbi).knAt hltk
                  obtain ⟨hgL1, y0, y1, y2⟩ := HLI.out _ hbi
                  cases b with
                  | true =>
                    have HN : Hid (true = hasP (X.take (k + 1)) Li) := by show _ = _; rw [hst]; rfl
                    clear hst hm x0 x1 x2 y0 y1 y2 hbx
                    go_wp2_with fail
                    refine region_qw (by kernel_rfl) (by kernel_rfl) ?_
                    repeat (
                      refine qw_step (fun K hK => ?_)
                      go_simp
                      first
                        | (refine hK _ ?_; clear hK K)
                        | fail)
                    refine qw_nil ?_
                    intro _ hw'
                    obtain ⟨⟨dq, osq⟩, hw''⟩ := hw'
                    subst hw''
                    have hb7 := hbi.trans ((below_regrown wi dq osq).mono hbi.size)
                    go_wp2
                    go_roundw
                    case rel => exact ⟨k + 1, _, by omega, by go_num, rfl, HN, hb7⟩
                    case measure => simp [intOf]; omega
                  | false =>
                    have k0 := cell_regrown x0
                    have k1 := cell_regrown x1
                    have k2 := cell_regrown x2
                    have l0 := cell_regrown y0
                    have l1 := cell_regrown y1
                    have l2 := cell_regrown y2
                    by_cases he : X[k].p = Li
                    · have HN : Hid (true = hasP (X.take (k + 1)) Li) := by show _ = _; rw [hst, decide_eq_true he]; rfl
                      have e0 : X[k].i = Li.i := by rw [← he]; rfl
                      have e1 : X[k].x = Li.x := by rw [← he]; rfl
                      have e2 : X[k].y = Li.y := by rw [← he]; rfl
                      rw [e0] at k0
                      rw [e1] at k1
                      rw [e2] at k2
                      clear hst hm x0 x1 x2 y0 y1 y2 hbx e0 e1 e2 he
                      generalize Li.i = z0 at k0 l0
                      generalize Li.x = z1 at k1 l1
                      generalize Li.y = z2 at k2 l2
                      go_wp2_with fail
                      refine region_qw (by kernel_rfl) (by kernel_rfl) ?_
                      repeat (
                        refine qw_step (fun K hK => ?_)
                        go_simp
                        first
                          | (refine hK _ ?_; clear hK K)
                          | fail)
                      refine qw_nil ?_
                      intro _ hw'
                      obtain ⟨⟨dq, osq⟩, hw''⟩ := hw'
                      subst hw''
                      have hb7 := hbi.trans ((below_regrown wi dq osq).mono hbi.size)
                      go_wp2
                      go_roundw
                      case rel => exact ⟨k + 1, _, by omega, by go_num, rfl, HN, hb7⟩
                      case measure => simp [intOf]; omega
                    · have HN : Hid (false = hasP (X.take (k + 1)) Li) := by show _ = _; rw [hst, decide_eq_false he]; rfl
                      have hne := pt_ne he
                      have e0 : X[k].p.i = X[k].i := rfl
                      have e1 : X[k].p.x = X[k].x := rfl
                      have e2 : X[k].p.y = X[k].y := rfl
                      rw [e0, e1, e2] at hne
                      clear hst hm x0 x1 x2 y0 y1 y2 hbx e0 e1 e2 he
                      generalize Li.i = z0 at l0 hne
                      generalize Li.x = z1 at l1 hne
                      generalize Li.y = z2 at l2 hne
                      generalize X[k].i = r0 at k0 hne
                      generalize X[k].x = r1 at k1 hne
                      generalize X[k].y = r2 at k2 hne
                      rcases hne with hne | hne | hne
                      all_goals
                        go_wp2_with fail
                        refine region_qw (by kernel_rfl) (by kernel_rfl) ?_
                        repeat (
                          refine qw_step (fun K hK => ?_)
                          go_simp
                          first
                            | (refine hK _ ?_; clear hK K)
                            | fail)
                        refine qw_nil ?_
                        intro _ hw'
                        obtain ⟨⟨dq, osq⟩, hw''⟩ := hw'
                        subst hw''
                        have hb7 := hbi.trans ((below_regrown wi dq osq).mono hbi.size)
                        go_wp2
                        go_roundw
                        case rel => exact ⟨k + 1, _, by omega, by go_num, rfl, HN, hb7⟩
                        case measure => simp [intOf]; omega
                · obtain rfl : b = true := by
                    rw [hm.out, List.take_of_length_le (by omega)]; exact HHAS.out
                  have hX00 : (0 : Int) < (X.length : Int) := by omega
                  obtain ⟨hgX1, _, _, _, _, x4, x5, x6, x7⟩ := (s2f.below hbi).knAt h0
                  obtain ⟨hgL1, y0, y1, y2⟩ := HLI.out _ hbi
                  obtain ⟨⟨b1, b2⟩, b3, b4⟩ := hbx
                  simp only [Nat.zero_mul, Nat.zero_add] at x4 x5 x6 x7
                  clear hm
                  generalize Li.i = z0 at y0
                  generalize Li.x = z1 at y1 b1 b2
                  generalize Li.y = z2 at y2 b3 b4
                  generalize X[0].a = r4 at x4 b1
                  generalize X[0].b = r5 at x5 b2
                  generalize X[0].c = r6 at x6 b3
                  generalize X[0].d = r7 at x7 b4
                  have kx4 : ∀ w', Below wi.heap.size wi w' → w'.cell? ⟨gX, 4, none⟩ = some (.int .i64 r4) := fun w' h => (h.cell (p := ⟨gX, 4, none⟩) hgX1).trans x4
                  have kx5 : ∀ w', Below wi.heap.size wi w' → w'.cell? ⟨gX, 5, none⟩ = some (.int .i64 r5) := fun w' h => (h.cell (p := ⟨gX, 5, none⟩) hgX1).trans x5
                  have kx6 : ∀ w', Below wi.heap.size wi w' → w'.cell? ⟨gX, 6, none⟩ = some (.int .i64 r6) := fun w' h => (h.cell (p := ⟨gX, 6, none⟩) hgX1).trans x6
                  have kx7 : ∀ w', Below wi.heap.size wi w' → w'.cell? ⟨gX, 7, none⟩ = some (.int .i64 r7) := fun w' h => (h.cell (p := ⟨gX, 7, none⟩) hgX1).trans x7
                  have ky0 : ∀ w', Below wi.heap.size wi w' → w'.cell? ⟨gL, i * 3, none⟩ = some (.int .i64 z0) := fun w' h => (h.cell (p := ⟨gL, i * 3, none⟩) hgL1).trans y0
                  have ky1 : ∀ w', Below wi.heap.size wi w' → w'.cell? ⟨gL, i * 3 + 1, none⟩ = some (.int .i64 z1) := fun w' h => (h.cell (p := ⟨gL, i * 3 + 1, none⟩) hgL1).trans y1
                  have ky2 : ∀ w', Below wi.heap.size wi w' → w'.cell? ⟨gL, i * 3 + 2, none⟩ = some (.int .i64 z2) := fun w' h => (h.cell (p := ⟨gL, i * 3 + 2, none⟩) hgL1).trans y2
                  clear x4 x5 x6 x7 y0 y1 y2
                  go_wp2_with fail
                  go_region_held3 (fun w' => Below wi.heap.size wi w')
                    ((repeat' (first | exact Below.refl _ _ | assumption | apply Below.alloc | apply Below.setCell | apply Below.drew | apply below_draws | (refine Below.trans ?_ (Below.mono (by assumption) ?_)))) <;> (first | exact Below.size (by assumption) | omega | (simp; done) | (simp; omega) | (refine Nat.le_trans ?_ (Below.size (by assumption)); first | omega | (simp; omega))))
                    (first | (go_at_call 14; refine (foInBox_yes _ _ _ _ _ _ _ b1 b2 b3 b4 _).mono ?_; rintro e w' ⟨rfl, hb⟩))
                  rename_i hH
                  have hb7 := hbi.trans (hH.mono hbi.size)
                  clear kx4 kx5 kx6 kx7 ky0 ky1 ky2
                  go_wp2
                  go_roundw
                  case rel => exact ⟨i + 1, by omega, by go_num, hb7⟩
                  case measure => simp [intOf]; omega
            · have s1g := s4f.below hbv
              have s2g := s2f.below hbv
              have hBv := hB6.trans (hbv.mono hB6.size)
              have hKO : knotsL O = X := by rw [hO2.out]; exact HREV.out
              have hrl : O.length ≤ 1048576 := by rw [hO2.out, List.length_reverse]; omega
              have ck := fun A c w h => implKnotsOk_any A c X w h (by omega)
              have cr := fun A c w h => implKnotsOf_any A c O w h hrl
              rw [HOK.out] at ck
              rw [hKO] at cr
              have CKK := Lib.hid ck
              have CRR := Lib.hid cr
              clear ck cr HAS HBX CI hKO hO2 HREV
              go_wp2_with fail
              refine (CKK.out _ _ _ s2g).mono ?_
              rintro e w8 ⟨rfl, hb8⟩
              have hB8 := hBv.trans (hb8.mono hBv.size)
              go_wp2_with fail
              refine (CRR.out _ _ _ (s1g.below hb8)).mono ?_
              rintro e w9 ⟨g9, c9, ⟨rfl, own9⟩, hb9⟩
              have hB9 := hB8.trans (hb9.mono hB8.size)
              go_wp2_with fail
              refine (foKnots_same _ _ _ _ X _ own9.src.1 ((s2g.below hb8).below hb9).1 (by omega)).mono ?_
              rintro e w10 ⟨rfl, hb10⟩
              go_wp2
              go_ret
              exact ⟨rfl, hB9.trans (hb10.mono hB9.size)⟩
        · obtain ⟨j, rfl⟩ : ∃ j, m = j + 1 := ⟨m - 1, by omega⟩
          obtain rfl : v = (j : Int) := by omega
          have hBs := hB.size
          have hjl : j < L.length := by omega
          have hj0 : (j : Int) < (L.length : Int) := by omega
          obtain ⟨b, off, he, hb, x0, x1, x2⟩ := (HSL.out _ hB).1.atPt hjl
          simp only [Option.some.injEq, Addr.mk.injEq, and_true] at he
          obtain ⟨rfl, rfl⟩ := he
          simp only [Nat.zero_add] at x0 x1 x2
          have HO : Hid ((L.drop j).reverse = O ++ [⟨L[j].i, L[j].x, L[j].y⟩]) := by
            show _ = _
            rw [hO.out, rev_step hjl]
          clear hO
          generalize L[j].i = p0 at x0 HO
          generalize L[j].x = p1 at x1 HO
          generalize L[j].y = p2 at x2 HO
          go_wp2_with (at_builtin; refine append_rec rowTPoint encPt_ok (by decide) rfl _ _ rfl B _ _ O rfl (own.alloc _) _ _ _ [⟨p0, p1, p2⟩] rfl rfl ?_ (by simp; omega) (by omega) (by have := hB.size; first | omega | (simp; omega)) ?_; exact srcE_litAt encPt_ok #[.int .i64 p0, .int .i64 p1, .int .i64 p2] [⟨p0, p1, p2⟩] rfl (by rfl) (by first | rfl | (simp; done)))
          intro N hN g7 c7 w7 own7 hg7 hat7 hb7
          have hB7 : Below B w5 w7 := hB.trans (Below.trans (by (repeat' (first | exact Below.refl _ _ | apply Below.alloc | apply Below.setCell | apply Below.drew | apply below_draws)) <;> (first | omega | (simp <;> omega))) hb7)
          have HN : Hid (N = (L.drop j).reverse) := by show _ = _; rw [HO.out]; exact hN.out
          clear hN hg7 hat7 hb7 own HO x0 x1 x2
          go_wp2
          go_roundw
          case rel => exact ⟨j, (j : Int) - 1, by omega, by go_num, by omega, g7, c7, N, rfl, HN, own7, hB7⟩
          case measure => simp [intOf] <;> omega
    · have hX0 : X = [] := by
        cases ho : okB L with
        | true => exact absurd (by rw [HX.out, knotsL_ok ho, knF_len _ _ _ (Nat.le_refl _)]) hll
        | false => rw [HX.out, knotsL_bad ho]
      subst hX0
      have hne : ((0 : Int) != (L.length : Int)) = true := by have : L.length ≠ 0 := fun e => hll e.symm; simp; omega
      go_wp2_with fail
      refine (CS.out _ _ _ s1d).mono ?_
      rintro e w5 ⟨A5, c5, ⟨rfl, s5⟩, hb5⟩
      have hB5 := hB4.trans (hb5.mono hB4.size)
      have s2z := s2d.below hb5
      go_wp2_with fail
      refine (foKnots_same _ _ _ _ _ _ s2z.1 s5.1 (by omega)).mono ?_
      rintro e w6 ⟨rfl, hb6⟩
      go_wp2
      go_ret
      exact ⟨rfl, hB5.trans (hb6.mono hB5.size)⟩
end Go.Proofs.Ytbmbejomodkabaa
