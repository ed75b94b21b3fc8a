/-
  Contracts of impl.KnotsOf, spec.KnotsOf.
-/
import Derived.Test.YtbmbejomodkabaaKnots
import Derived.Test.YtbmbejomodkabaaKnotBuild
import Derived.Test.YtbmbejomodkabaaMapP
import Derived.Test.YtbmbejomodkabaaExactKnots
namespace Go.Proofs.Ytbmbejomodkabaa
open Go.RowKit Go.Sort Go.Maps
set_option linter.unusedVariables false

theorem idIn_inB (L : List Pt) (n : Int) : idIn L n = inB (L.map (·.i)) n := by
  induction L with
  | nil => rfl
  | cons p r ih =>
    unfold idIn inB at *
    rw [List.any_cons, List.map_cons, List.contains_cons, ih]
    congr 1
    rw [Bool.eq_iff_iff, decide_eq_true_eq, beq_iff_eq]
    exact ⟨fun h => h.symm, fun h => h.symm⟩
theorem knotsL_ok {L : List Pt} (h : okB L = true) : knotsL L = knF L.length false L := by unfold knotsL; rw [if_pos h]
theorem knotsL_bad {L : List Pt} (h : okB L = false) : knotsL L = [] := by unfold knotsL; rw [if_neg (by rw [h]; simp)]
set_option maxRecDepth 4000 in
set_option maxHeartbeats 3200000 in
theorem implKnotsOf_any (A : Option Addr) (c : Nat) (L : List Pt) (w : World) (h : SrcE encPt 3 w A c L) (hn : L.length ≤ 1048576) :
    Calls Try.prog 10 #[.slice A L.length c] w (MakesK (knotsL L) w) := by
  have CK : ∀ w, SrcE encPt 3 w A c L → Calls Try.prog 33 #[.slice A L.length c, .int .i64 0] w (MakesK (knF L.length false L) w) := fun w h => knots_any L.length A c 0 L w h (Nat.le_refl _) (by omega) (by omega)
  obtain ⟨R, hR⟩ : ∃ R, R = knotsL L := ⟨_, rfl⟩
  rw [← hR]
  have HBAD : Hid (okB L = false → R = []) := fun h => by rw [hR, knotsL_bad h]
  have HGOOD : Hid (okB L = true → R = knF L.length false L) := fun h => by rw [hR, knotsL_ok h]
  have HCK := Lib.hid CK
  clear hR CK
  have hmm := @run_makeMap Try.prog
  have hB0 : Below w.heap.size w (w.alloc (.map #[] 0)) := (Below.refl _ _).alloc (Nat.le_refl _) _
  have hmap0 := SetM.made w
  go_enter Try.func10, Try.ntmps10
  go_wp2_with fail
  generalize (w.alloc (.map #[] 0)) = w0 at hB0 hmap0 ⊢
  generalize hgb : w.heap.size = bm at hmap0 ⊢
  have hgb2 : w.heap.size ≤ bm := by omega
  go_loopw [5, 9] (fun _ iv wr => ∃ i : Nat, i ≤ L.length ∧ iv = .int .i64 i ∧ Hid (okB L = (okFrom (L.take i) (L.drop i) && decide (L.length ≤ 24))) ∧ SetM wr bm i ((L.take i).map (·.i)) ∧ Below w.heap.size w wr) (fun _ iv _ => L.length - (intOf iv).toNat)
  case atStart => exact ⟨0, Nat.zero_le _, rfl, rfl, hmap0, hB0⟩
  case round =>
    clear hmap0 hB0
    obtain ⟨i, hi, rfl, hm, hmap, hB⟩ := hrel
    have hBs := hB.size
    by_cases hlt : i < L.length
    · have hr := h.below hB
      obtain ⟨b, off, rfl, hb, x0, x1, x2⟩ := hr.1.atPt hlt
      have hi0 : (i : Int) < (L.length : Int) := by omega
      have hst := okFrom_step hlt
      rw [idIn_inB] at hst
      have hpo : pOk L[i] = (wi L[i].i 1 9999 && wi L[i].x 0 999 && wi L[i].y 0 999) := rfl
      rw [hpo] at hst
      have htk : (L.take (i + 1)).map (·.i) = (L.take i).map (·.i) ++ [L[i].i] := by rw [← List.take_append_getElem hlt, List.map_append]; rfl
      have hm' := hm.out
      rw [hst] at hm'
      have HM := Lib.hid hm'
      have HTK := Lib.hid htk
      clear hst hpo hm hm' htk hr
      generalize L[i].i = p0 at x0 HM HTK
      generalize L[i].x = p1 at x1 HM
      generalize L[i].y = p2 at x2 HM
      have hBN : Below wr.heap.size wr (wr.alloc (.cells #[.int .i64 p0, .int .i64 p1, .int .i64 p2] 29)) := by (repeat' (first | exact Below.refl _ _ | apply Below.alloc | apply Below.setCell | apply Below.drew | apply below_draws)) <;> (first | omega | (simp <;> omega))
      have hmap1 := hmap.below hBN
      have hB1 := hB.trans (hBN.mono hBs)
      cases h1 : wi p0 1 9999 with
      | false =>
        obtain rfl : R = [] := HBAD.out (by rw [HM.out, h1]; simp)
        clear HM HTK
        go_wp2_with (go_at_call 32; refine (within_any _ _ _ _).mono ?_; rintro e w' ⟨rfl, rfl⟩)
        go_ret
        exact ⟨_, 0, ⟨rfl, own_litAt encKn_ok #[] [] rfl (by rfl) (by first | rfl | simp) hB1.size (by simp)⟩, hB1.alloc hB1.size _⟩
      | true =>
        have hp := wi_true.1 h1
        have hwf := wf_small (x := p0) (by omega) (by omega)
        have hlook := hmap1.look hwf
        cases hin : inB ((L.take i).map (·.i)) p0 with
        | true =>
          obtain rfl : R = [] := HBAD.out (by rw [HM.out, hin]; simp)
          rw [hin] at hlook
          clear HM HTK hp
          go_wp2_with (go_at_call 32; refine (within_any _ _ _ _).mono ?_; rintro e w' ⟨rfl, rfl⟩)
          go_ret
          exact ⟨_, 0, ⟨rfl, own_litAt encKn_ok #[] [] rfl (by rfl) (by first | rfl | simp) hB1.size (by simp)⟩, hB1.alloc hB1.size _⟩
        | false =>
          rw [hin] at hlook
          cases h2 : wi p1 0 999 with
          | false =>
            obtain rfl : R = [] := HBAD.out (by rw [HM.out, h2]; simp)
            clear HM HTK hp
            go_wp2_with (go_at_call 32; refine (within_any _ _ _ _).mono ?_; rintro e w' ⟨rfl, rfl⟩)
            go_ret
            exact ⟨_, 0, ⟨rfl, own_litAt encKn_ok #[] [] rfl (by rfl) (by first | rfl | simp) hB1.size (by simp)⟩, hB1.alloc hB1.size _⟩
          | true =>
            cases h3 : wi p2 0 999 with
            | false =>
              obtain rfl : R = [] := HBAD.out (by rw [HM.out, h3]; simp)
              clear HM HTK hp
              go_wp2_with (go_at_call 32; refine (within_any _ _ _ _).mono ?_; rintro e w' ⟨rfl, rfl⟩)
              go_ret
              exact ⟨_, 0, ⟨rfl, own_litAt encKn_ok #[] [] rfl (by rfl) (by first | rfl | simp) hB1.size (by simp)⟩, hB1.alloc hB1.size _⟩
            | true =>
              have HM2 : Hid (okB L = (okFrom (L.take (i + 1)) (L.drop (i + 1)) && decide (L.length ≤ 24))) := by show _ = _; rw [HM.out, h1, h2, h3, hin]; simp
              obtain ⟨w8, hput, hmap8, hg8⟩ := hmap1.put hwf (by unfold maxLen; omega)
              rw [← HTK.out] at hmap8
              have hB8 : Below w.heap.size w w8 := hB1.grown hg8 hB1.size (fun k hk => by cases hk; exact hgb2)
              clear HM HTK hp hg8 hmap1 hmap hB hBN
              go_wp2_with (go_at_call 32; refine (within_any _ _ _ _).mono ?_; rintro e w' ⟨rfl, rfl⟩)
              go_roundw
              case rel => exact ⟨i + 1, by omega, by go_num, HM2, hmap8, hB8⟩
              case measure => simp [intOf]; omega
    · have hm2 : okB L = decide (L.length ≤ 24) := by rw [hm.out, List.drop_of_length_le (by omega)]; simp [okFrom]
      have HM2 := Lib.hid hm2
      clear hm hm2
      by_cases h24 : (24 : Int) < (L.length : Int)
      · obtain rfl : R = [] := HBAD.out (by rw [HM2.out, decide_eq_false (by omega)])
        go_wp2
        go_ret
        exact ⟨_, 0, ⟨rfl, own_litAt encKn_ok #[] [] rfl (by rfl) (by first | rfl | simp) hB.size (by simp)⟩, hB.alloc hB.size _⟩
      · have hRk : R = knF L.length false L := HGOOD.out (by rw [HM2.out, decide_eq_true (by omega)])
        subst hRk
        go_wp2_with fail
        refine (HCK.out _ (h.below hB)).mono ?_
        rintro e w9 ⟨g9, c9, ⟨rfl, own9⟩, hb9⟩
        go_wp2
        go_ret
        exact ⟨g9, c9, ⟨rfl, own_mono own9 hBs⟩, hB.trans (hb9.mono hBs)⟩
theorem specKnotsOf_any (A : Option Addr) (c : Nat) (L : List Pt) (w : World) (h : SrcE encPt 3 w A c L) (hn : L.length ≤ 1048576) :
    Calls Try.prog 12 #[.slice A L.length c] w (ReadsK (knotsL L) w) := by
  have CK := fun w h => l15Build_any L.length A c false L w h (Nat.le_refl _) (by omega)
  have HCK := Lib.hid CK
  clear CK
  cases hok : okB L with
  | false =>
    have HX : Hid (knotsL L = []) := knotsL_bad hok
    rw [HX.out]
    go_enter Try.func12, Try.ntmps12
    go_wp2_with fail
    refine (l15Points_any A c L _ h.1 (by omega)).mono ?_
    rintro e w1 ⟨rfl, hb⟩
    rw [hok]
    go_wp2
    go_ret
    exact ⟨none, 0, ⟨rfl, SrcE.nil_ _ 0⟩, hb⟩
  | true =>
    have HX : Hid (knotsL L = knF L.length false L) := knotsL_ok hok
    rw [HX.out]
    go_enter Try.func12, Try.ntmps12
    go_wp2_with fail
    refine (l15Points_any A c L _ h.1 (by omega)).mono ?_
    rintro e w1 ⟨rfl, hb⟩
    rw [hok]
    go_wp2_with fail
    refine (HCK.out _ (h.below hb)).mono ?_
    rintro e w2 ⟨A2, c2, ⟨rfl, s2⟩, hb2⟩
    go_wp2
    go_ret
    exact ⟨A2, c2, ⟨rfl, s2⟩, hb.trans (hb2.mono hb.size)⟩
end Go.Proofs.Ytbmbejomodkabaa
