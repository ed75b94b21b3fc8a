/-
  The walk of FnExactSnipText.
-/
import Derived.Test.YtlgomipfhbkklaaSnipTextS
import Derived.Test.YtlgomipfhbkklaaConfOf
namespace Go.Proofs.Ytlgomipfhbkklaa
open Go.RowKit Go.Sort
set_option linter.unusedVariables false

set_option maxRecDepth 8000 in
set_option maxHeartbeats 6400000 in
theorem walk_FnExactSnipText (d : ConfD) (A1 A2 : Option Addr) (c1 c2 : Nat) (s : ByteArray) (hsz : s.size ≤ maxLen) (A3 : Option Addr) (c3 : Nat) (ts : List ByteArray) (wd : Int) (_ : (Lit.int .i64 wd).wf = true) (w : World) (h : HasC w d A1 c1 A2) (hb : BgC d) (hT : SrcT w A3 c3 ts) (hbT : ts.length ≤ 9223372036854775807 ∧ ∀ t ∈ ts, t.size ≤ 9223372036854775807) :
    Calls Try.prog 6 #[.agg #[.slice A1 d.st.length c1, .slice A2 d.sy.length c2], .string s, .slice A3 ts.length c3, .int .i64 wd] w fun e w' => e = .returned (.bool true) ∧ Below w.heap.size w w' := by
  obtain ⟨hbT1, hbT2⟩ := hbT
  have HBT := Lib.hid hbT2
  clear hbT2
  unfold maxLen at hsz
  have hB0 : Below w.heap.size w (w.alloc (.cells #[.slice A1 d.st.length c1, .slice A2 d.sy.length c2] 38)) := by (repeat' (first | exact Below.refl _ _ | apply Below.alloc | apply Below.setCell | apply Below.drew | apply below_draws)) <;> (first | omega | (simp <;> omega))
  have hv0 : (w.alloc (.cells #[.slice A1 d.st.length c1, .slice A2 d.sy.length c2] 38)).heap[w.heap.size]? = some (.cells #[.slice A1 d.st.length c1, .slice A2 d.sy.length c2] 38 (0, 0)) := heap_alloc_new _ _
  have hz0 : w.heap.size < (w.alloc (.cells #[.slice A1 d.st.length c1, .slice A2 d.sy.length c2] 38)).heap.size := by simp
  by_cases hbig : 1048576 < s.size
  · go_enter Try.func6, Try.ntmps6
    go_wp2
    go_ret
    exact ⟨rfl, hB0⟩
  have hss : s.size ≤ 1048576 := by omega
  go_enter Try.func6, Try.ntmps6
  go_wp2_with fail
  generalize (w.alloc (.cells #[.slice A1 d.st.length c1, .slice A2 d.sy.length c2] 38)) = W0 at hB0 hv0 hz0 ⊢
  refine (szConf_any d A1 A2 c1 c2 1048576 _ (h.below hB0) hb (by omega) (by omega)).mono ?_
  rintro e w1 ⟨r, ⟨rfl, hr1, hr3⟩, hb1⟩
  have hB1 := hB0.trans (hb1.mono (by omega))
  have hv1 := (hb1.block w.heap.size hz0).trans hv0
  by_cases hr : r < 0
  · go_wp2
    go_ret
    exact ⟨rfl, hB1⟩
  have hs : SmC d := hr3.resolve_left hr
  have hz1 : w.heap.size < w1.heap.size := by have := hb1.size; omega
  clear hr3 hb hv0 hb1 hB0 hz0 hbig
  have hT1 := hT.below hB1
  go_wp2_with fail
  refine (szStringS_any A3 c3 ts r _ hT1 hbT1 HBT.out (by omega) hr1).mono ?_
  rintro e w2 ⟨r2, ⟨rfl, hr4, hr5⟩, hb2⟩
  have hB2 := hB1.trans (hb2.mono hB1.size)
  by_cases hr2 : r2 < 0
  · go_wp2
    go_ret
    exact ⟨rfl, hB2⟩
  have hst : SmT ts := hr5.resolve_left hr2
  obtain ⟨htl, hts⟩ := hst
  have HTS := Lib.hid hts
  have hv2 := (hb2.block w.heap.size hz1).trans hv1
  have hz2 : w.heap.size < w2.heap.size := by have := hb2.size; omega
  have kb0 : ∀ V, Below w2.heap.size w2 V → V.cell? ⟨w.heap.size, 0, none⟩ = some (.slice A1 d.st.length c1) := fun V hV => (belowL hV hz2).trans (cell_of_row w2 w.heap.size 0 _ _ _ hv2)
  have kb1 : ∀ V, Below w2.heap.size w2 V → V.cell? ⟨w.heap.size, 1, none⟩ = some (.slice A2 d.sy.length c2) := fun V hV => (belowL hV hz2).trans (cell_of_row w2 w.heap.size 1 _ _ _ hv2)
  have a0 := kb0 _ (Below.refl _ _)
  have a1 := kb1 _ (Below.refl _ _)
  have HA := Lib.hid (fun V (hV : Below w2.heap.size w2 V) => (h.below hB2).below hV)
  have HT := Lib.hid (fun V (hV : Below w2.heap.size w2 V) => (hT.below hB2).below hV)
  have KB0 := Lib.hid kb0
  have KB1 := Lib.hid kb1
  clear hr1 hr4 hr5 hts HBT hbT1 hb2 hv1 hv2 kb0 kb1 hT1 hz1
  -- the reference
  go_wp2_with fail
  refine (toConf_any d A1 A2 c1 c2 _ (HA.out _ (Below.refl _ _)) hs).mono ?_
  rintro e w3 ⟨g1, g2, hv, ⟨rfl, o3⟩, hb3⟩
  go_wp2_with fail
  refine (toStringS_any A3 c3 ts _ (HT.out _ hb3) htl).mono ?_
  rintro e w4 ⟨gt, ⟨rfl, ot⟩, hb4⟩
  have H4 := hb3.trans (hb4.mono hb3.size)
  have o4 := o3.below hb4
  have otc := OwnE.capOk ot
  go_wp2_with fail
  refine (specSnipText_any d _ _ _ _ _ _ s ts wd _ o4.has hs ot.src htl ⟨otc.1, otc.2.1⟩ hss HTS.out).mono ?_
  rintro e w5 ⟨rfl, hb5⟩
  have H5 := H4.trans (hb5.mono H4.size)
  have c0 := KB0.out _ H5
  have c1' := KB1.out _ H5
  have s5 := H5.size
  clear o3 ot o4 otc hb3 hb4 hb5 H4 a0 a1
  -- the arguments of impl
  go_wp2_with fail
  refine (toConf_any d A1 A2 c1 c2 _ (HA.out _ H5) hs).mono ?_
  rintro e w6 ⟨x1, x2, hx, ⟨rfl, o6⟩, hb6⟩
  have fW7 : Below w6.heap.size w6 (w6.alloc (.cells #[.slice (some ⟨x1, 0, none⟩) d.st.length d.st.length, .slice (some ⟨x2, 0, none⟩) d.sy.length d.sy.length] 26)) := (Below.refl _ _).alloc (Nat.le_refl _) _
  have rW7 : (w6.alloc (.cells #[.slice (some ⟨x1, 0, none⟩) d.st.length d.st.length, .slice (some ⟨x2, 0, none⟩) d.sy.length d.sy.length] 26)).heap[w6.heap.size]? = some (.cells #[.slice (some ⟨x1, 0, none⟩) d.st.length d.st.length, .slice (some ⟨x2, 0, none⟩) d.sy.length d.sy.length] 26 (0, 0)) := heap_alloc_new _ _
  have hzW7 : w6.heap.size < (w6.alloc (.cells #[.slice (some ⟨x1, 0, none⟩) d.st.length d.st.length, .slice (some ⟨x2, 0, none⟩) d.sy.length d.sy.length] 26)).heap.size := by simp
  have o7 := o6.below fW7
  have H6 := H5.trans (hb6.mono s5)
  have H7 := H6.trans (fW7.mono H6.size)
  go_wp2_with fail
  clear fW7 o6
  generalize (w6.alloc (.cells #[.slice (some ⟨x1, 0, none⟩) d.st.length d.st.length, .slice (some ⟨x2, 0, none⟩) d.sy.length d.sy.length] 26)) = W7 at rW7 o7 hzW7 H7 ⊢
  generalize w6.heap.size = p6 at rW7 hzW7 ⊢
  have s7 := H7.size
  have kx0 : ∀ V, Below W7.heap.size W7 V → V.cell? ⟨p6, 0, none⟩ = some (.slice (some ⟨x1, 0, none⟩) d.st.length d.st.length) := fun V hV => (belowL hV hzW7).trans (cell_of_row W7 p6 0 _ _ _ rW7)
  have kx1 : ∀ V, Below W7.heap.size W7 V → V.cell? ⟨p6, 1, none⟩ = some (.slice (some ⟨x2, 0, none⟩) d.sy.length d.sy.length) := fun V hV => (belowL hV hzW7).trans (cell_of_row W7 p6 1 _ _ _ rW7)
  have KX0 := Lib.hid kx0
  have KX1 := Lib.hid kx1
  have HX := Lib.hid (fun V (hV : Below W7.heap.size W7 V) => (o7.below hV).has)
  clear kx0 kx1 rW7 o7 c0 c1' hb6 H6 H5
  refine (toStringS_any A3 c3 ts _ (HT.out _ H7) htl).mono ?_
  rintro e w8 ⟨gy, ⟨rfl, oy⟩, hb8⟩
  have H8 := H7.trans (hb8.mono s7)
  have oyc := OwnE.capOk oy
  have b0 := KX0.out _ hb8
  have b1 := KX1.out _ hb8
  go_wp2_with fail
  refine (snipText_any d _ _ _ _ _ _ s ts wd _ (HX.out _ hb8) hs oy.src htl ⟨oyc.1, oyc.2.1⟩ hss HTS.out).mono ?_
  rintro e w9 ⟨rfl, hb9⟩
  have H9 := H8.trans (hb9.mono H8.size)
  have hb79 := hb8.trans (hb9.mono hb8.size)
  have oy9 := own_belowZ oy hb9
  have s9 := H9.size
  have s79 := hb79.size
  clear b0 b1 oy oyc hb8 hb9 H8
  generalize snipTextL d s ts wd = R
  have HX9 := Lib.hid (fun V (hV : Below w9.heap.size w9 V) => HX.out V (hb79.trans (hV.mono s79)))
  have HA9 := Lib.hid (fun V (hV : Below w9.heap.size w9 V) => HA.out V (H9.trans (hV.mono s9)))
  have HT9 := Lib.hid (fun V (hV : Below w9.heap.size w9 V) => HT.out V (H9.trans (hV.mono s9)))
  have kx0 : ∀ V, Below w9.heap.size w9 V → V.cell? ⟨p6, 0, none⟩ = some (.slice (some ⟨x1, 0, none⟩) d.st.length d.st.length) := fun V hV => KX0.out V (hb79.trans (hV.mono s79))
  have kx1 : ∀ V, Below w9.heap.size w9 V → V.cell? ⟨p6, 1, none⟩ = some (.slice (some ⟨x2, 0, none⟩) d.sy.length d.sy.length) := fun V hV => KX1.out V (hb79.trans (hV.mono s79))
  have kb0 : ∀ V, Below w9.heap.size w9 V → V.cell? ⟨w.heap.size, 0, none⟩ = some (.slice A1 d.st.length c1) := fun V hV => KB0.out V (H9.trans (hV.mono s9))
  have kb1 : ∀ V, Below w9.heap.size w9 V → V.cell? ⟨w.heap.size, 1, none⟩ = some (.slice A2 d.sy.length c2) := fun V hV => KB1.out V (H9.trans (hV.mono s9))
  go_wp2_with fail
  go_region_held3 (fun V => Below w9.heap.size w9 V)
    ((repeat' (first | exact Below.refl _ _ | assumption | apply Below.alloc | apply Below.setCell | apply Below.drew | (refine Below.trans ?_ (Below.mono (by assumption) ?_)))) <;> (first | exact Below.size (by assumption) | omega | (simp; done) | (simp; omega) | (refine Nat.le_trans ?_ (Below.size (by assumption)); (first | omega | (simp <;> omega)))))
    (first
    | (go_at_call 16; refine (toConf_any d A1 A2 c1 c2 _ (HA9.out _ (by assumption)) hs).mono ?_; rintro e w10 ⟨x3, x4, hx2, ⟨rfl, o10⟩, hb10⟩; have O10 := Lib.hid o10.has)
    | (go_at_call 18; refine (eqConf_same d _ _ _ _ _ _ _ _ _ (HX9.out _ (by assumption)) O10.out hs).mono ?_; rintro e w11 ⟨rfl, hb11⟩))
  rename_i hH
  have H11 := H9.trans (hH.mono s9)
  have oy11 := own_belowZ oy9 hH
  have s11 := hH.size
  clear kx0 kx1 kb0 kb1 HA9 HX9 KX0 KX1 HX oy9
  go_wp2_with fail
  refine (toStringS_any A3 c3 ts _ (HT9.out _ hH) htl).mono ?_
  rintro e w12 ⟨gz, ⟨rfl, oz⟩, hb12⟩
  go_wp2_with fail
  refine (eqStringS_same _ _ _ _ ts _ (OwnE.src (own_belowZ oy11 hb12)) oz.src (by omega)).mono ?_
  rintro e w13 ⟨rfl, hb13⟩
  have H12 := H11.trans (hb12.mono H11.size)
  have H13 := H12.trans (hb13.mono H12.size)
  go_wp2
  go_ret
  exact ⟨rfl, hB2.trans (H13.mono hB2.size)⟩
end Go.Proofs.Ytlgomipfhbkklaa
