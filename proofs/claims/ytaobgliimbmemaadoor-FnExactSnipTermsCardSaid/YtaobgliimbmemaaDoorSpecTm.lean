/-
  Contract of l2Terms.
-/
import Derived.Test.YtaobgliimbmemaaDoorSpecPlain
import Derived.Deep.RegionHeld3
namespace Go.Proofs.YtaobgliimbmemaaDoor
open Go.RowKit Go.Sort
set_option linter.unusedVariables false

theorem grown_cell {w w' : World} {g b off : Nat} (hg : w.grownBy w' (some g)) (hb : b < w.heap.size) (hne : b ≠ g) : w'.cell? ⟨b, off, none⟩ = w.cell? ⟨b, off, none⟩ :=
  World.cell?_of_block (w := w) (a := ⟨b, off, none⟩) (hg.block b hb (fun e => hne (by injection e)))
theorem SrcE.kept {α : Type} {enc : α → List Value} {F : Nat} {w w' : World} {b off c g : Nat} {L : List α} (h : SrcE enc F w (some ⟨b, off, none⟩) c L) (hg : w.grownBy w' (some g)) (hne : b ≠ g) : SrcE enc F w' (some ⟨b, off, none⟩) c L := by
  refine ⟨⟨h.1.1, fun hn => ?_⟩, .inr ⟨_, rfl⟩⟩
  obtain ⟨b', off', e, hlt, hc⟩ := h.1.2 hn
  simp only [Option.some.injEq, Addr.mk.injEq, and_true] at e
  obtain ⟨rfl, rfl⟩ := e
  exact ⟨b, off, rfl, Nat.lt_of_lt_of_le hlt hg.size, fun j u hu => (grown_cell hg hlt hne).trans (hc j u hu)⟩
theorem srcE_some {α : Type} {enc : α → List Value} {F : Nat} (w : World) (ad : Addr) (c : Nat) : SrcE enc F w (some ad) c ([] : List α) := ⟨⟨by simp, fun h => by simp at h⟩, .inr ⟨_, rfl⟩⟩
/-- list[k:], whatever its capacity. -/
theorem SrcE.tail {α : Type} {enc : α → List Value} {F : Nat} (he : Enc enc F) {w : World} {b off c : Nat} {L : List α} (h : SrcE enc F w (some ⟨b, off, none⟩) c L) (hl : L.length ≤ c) {k : Nat} (hk : k ≤ L.length) :
    ∃ off2, (if c = k then (some (⟨b, off, none⟩ : Addr)) else some ⟨b, off + k * F, none⟩) = some ⟨b, off2, none⟩ ∧ SrcE enc F w (some ⟨b, off2, none⟩) (c - k) (L.drop k) ∧ (L.drop k).length ≤ c - k := by
  by_cases hc : c = k
  · refine ⟨off, by rw [if_pos hc], ?_, by rw [List.length_drop]; omega⟩
    rw [List.drop_of_length_le (by omega)]
    exact srcE_some _ _ _
  · exact ⟨off + k * F, by rw [if_neg hc], h.drop he rfl, by rw [List.length_drop]; omega⟩
theorem termsL_n {sy : List SynD} {M : List TmD} (hi : 0 < M.length) (h : ruleS sy M sy.length = none) : termsL sy M = M[0] :: termsL sy (M.drop 1) := by
  have := termsL_none (sy := sy) (L := M) (i := 0) hi (by rw [List.drop_zero]; exact h)
  rwa [List.drop_zero] at this
theorem termsL_s {sy : List SynD} {M : List TmD} {k : Nat} (hi : 0 < M.length) (h : ruleS sy M sy.length = some k) (hf : 1 ≤ (frAt sy k).length) : termsL sy M = (toAt sy k, M[0].2) :: termsL sy (M.drop (frAt sy k).length) := by
  have := termsL_some (sy := sy) (L := M) (i := 0) (k := k) hi (by rw [List.drop_zero]; exact h) hf
  rw [List.drop_zero, Nat.zero_add] at this
  exact this
theorem confB_fr {d : ConfD} (h : confB d = true) : ∀ k (hk : k < d.sy.length), 1 ≤ d.sy[k].fr.length ∧ d.sy[k].fr.length ≤ 3 := fun k hk => by
  unfold confB at h
  simp only [Bool.and_eq_true, List.all_eq_true] at h
  have h2 := h.2.2.2 d.sy[k] (List.getElem_mem _)
  unfold okY at h2
  simp only [Bool.and_eq_true] at h2
  have := h2.1
  unfold wi at this
  simp at this
  omega
theorem plainL_at {st : List ByteArray} {s : ByteArray} : ∀ t ∈ plainL st (wordsB s), t.2 < (wordsB s).length := by
  intro t ht
  have h1 := (plainL_sub st (wordsB s)).subset (List.mem_map_of_mem (f := (·.2)) ht)
  rw [show (wordsB s).map (·.at') = List.range (wordsB s).length by unfold wordsB; rw [wordsFrom_at, List.range_eq_range']] at h1
  simpa using h1
theorem plainL_sm {st : List ByteArray} {s : ByteArray} (hs : s.size ≤ 1048576) : SmTm (plainL st (wordsB s)) :=
  ⟨by have := plainL_len st (wordsB s); have := wordsB_len s; omega, fun t ht => by have := plainL_at t ht; have := wordsB_len s; omega⟩
def lenV (v : Value) : Nat := match v with | .slice _ n _ => n | _ => 0
set_option maxRecDepth 4000 in
set_option maxHeartbeats 6400000 in
theorem l2Terms_any (d : ConfD) (A1 A2 : Option Addr) (c1 c2 : Nat) (s : ByteArray) (w : World) (h : HasC w d A1 c1 A2) (hs : SmC d) (hc : confB d = true) (hsz : s.size ≤ 1048576) :
    Calls Tryd.prog 90 #[.agg #[.slice A1 d.st.length c1, .slice A2 d.sy.length c2], .string s] w (MakesTm (termsB d s) w) := by
  have HFR := Lib.hid (confB_fr hc)
  have HCP := Lib.hid (fun w h => l2Plain_any d A1 A2 c1 c2 s w h hs hsz)
  have HCS := Lib.hid (fun L A3 c3 w h hL hsL => l2Syn_any d A1 A2 A3 c1 c2 c3 L w h hs hL hsL)
  have HPM := plainL_sm (st := d.st) hsz
  obtain ⟨R, hR⟩ : ∃ R, R = termsB d s := ⟨_, rfl⟩
  rw [← hR]
  unfold termsB at hR
  generalize plainL d.st (wordsB s) = P at hR HCP HPM
  obtain ⟨hP1, hP2⟩ := HPM
  have HP2 := Lib.hid hP2
  have HR := Lib.hid hR
  clear hR hc hP2
  have HH := Lib.hid h
  obtain ⟨st, sy⟩ := d
  have hsl : sy.length ≤ 1048576 := hs.2.1
  clear hs
  dsimp only at HFR HCP HCS HR ⊢
  have hsy := h.sy
  dsimp only at hsy
  clear h
  have hB0 : Below w.heap.size w ((w.alloc (.cells #[.slice A1 st.length c1, .slice A2 sy.length c2] 44)).alloc (.cells #[] 108)) := by (repeat' (first | exact Below.refl _ _ | apply Below.alloc | apply Below.setCell | apply Below.drew | apply below_draws)) <;> (first | omega | (simp <;> omega))
  have f0 : ((w.alloc (.cells #[.slice A1 st.length c1, .slice A2 sy.length c2] 44)).alloc (.cells #[] 108)).cell? ⟨w.heap.size, 0, none⟩ = some (.slice A1 st.length c1) := by simp [go_sem]
  have f1 : ((w.alloc (.cells #[.slice A1 st.length c1, .slice A2 sy.length c2] 44)).alloc (.cells #[] 108)).cell? ⟨w.heap.size, 1, none⟩ = some (.slice A2 sy.length c2) := by simp [go_sem]
  have hs0 : w.heap.size + 2 = ((w.alloc (.cells #[.slice A1 st.length c1, .slice A2 sy.length c2] 44)).alloc (.cells #[] 108)).heap.size := by simp
  have own0 := ownE_made (enc := encTm) (F := 2) 108 (w.alloc (.cells #[.slice A1 st.length c1, .slice A2 sy.length c2] 44)) (w.heap.size + 1) (by simp)
  rw [show (w.alloc (.cells #[.slice A1 st.length c1, .slice A2 sy.length c2] 44)).heap.size = w.heap.size + 1 by simp] at own0
  go_enter Tryd.func90, Tryd.ntmps90
  go_wp2_with fail
  generalize ((w.alloc (.cells #[.slice A1 st.length c1, .slice A2 sy.length c2] 44)).alloc (.cells #[] 108)) = W0 at hB0 f0 f1 hs0 own0 ⊢
  have hs0' : w.heap.size < W0.heap.size := by omega
  refine (HCP.out _ (HH.out.below hB0)).mono ?_
  rintro e w1 ⟨gl, cl, ⟨rfl, ownP⟩, hb1⟩
  have hB1 := hB0.trans (hb1.mono hB0.size)
  have g0 := (belowL hb1 hs0').trans f0
  have g1 := (belowL hb1 hs0').trans f1
  have own1 := own_belowZ own0 hb1
  have hcap := OwnE.capOk ownP
  have hsP : SrcE encTm 2 w1 (some ⟨gl, 0, none⟩) cl P := ownP.src
  have hw1s := hb1.size
  clear own0 hb1 hB0 f0 f1 HCP ownP
  go_wp2_with fail
  go_loopw [5, 6, 7] (fun ov lv _ wr => ∃ (g co oo cc : Nat) (O M : List TmD), lv = .slice (some ⟨gl, oo, none⟩) M.length cc ∧ ov = .slice (some ⟨g, 0, none⟩) O.length co ∧ Hid (R = O ++ termsL sy M) ∧ Hid (O.length + M.length ≤ P.length ∧ ∀ t ∈ M, t ∈ P) ∧ M.length ≤ cc ∧ cc ≤ maxLen ∧ g ≠ gl ∧ SrcE encTm 2 wr (some ⟨gl, oo, none⟩) cc M ∧ OwnE encTm 108 2 wr (w.heap.size + 1) g co O ∧ Below (w.heap.size + 1) w1 wr) (fun _ lv _ _ => lenV lv)
  case atStart => exact ⟨_, _, 0, _, [], P, rfl, rfl, HR.out, ⟨by simp, fun t h => h⟩, hcap.1, hcap.2.1, by omega, hsP, own1, Below.refl _ _⟩
  case round =>
    clear own1 hsP
    obtain ⟨g, co, oo, cc, O, M, rfl, rfl, hR2, hPO, hMc, hcm, hne, hM, own, hB⟩ := hrel
    obtain ⟨wo, hwo⟩ : ∃ wo, wo = wr := ⟨_, rfl⟩
    subst hwo
    have hBs := hB.size
    have hBs2 : w.heap.size + 1 ≤ wo.heap.size := by omega
    have hlm := hPO.out.1
    have HMP := Lib.hid hPO.out.2
    clear hPO
    rcases Nat.eq_zero_or_pos M.length with hz | hpos
    · obtain rfl : M = [] := List.length_eq_zero_iff.1 hz
      have HE : Hid (O = R) := by show _ = _; rw [hR2.out, termsL_nil, List.append_nil]
      clear hR2
      have := HE.out
      subst this
      clear HR hz
      go_wp2
      go_ret
      exact ⟨g, co, ⟨rfl, own_monoZ own (by omega)⟩, hB1.trans (hB.mono (by omega))⟩
    · have hne0 : M ≠ [] := List.ne_nil_of_length_pos hpos
      have h00 := (belowL hB (show w.heap.size < w.heap.size + 1 by omega)).trans g0
      have h01 := (belowL hB (show w.heap.size < w.heap.size + 1 by omega)).trans g1
      have hBw : Below w.heap.size w wo := hB1.trans (hB.mono (Nat.le_succ _))
      have hsM : SmTm M := ⟨by omega, fun t ht => HP2.out t (HMP.out t ht)⟩
      have hi1 : (1 : Int) ≤ (M.length : Int) := by omega
      go_wp2_with fail
      refine (HCS.out M _ _ _ (HH.out.below hBw) hM hsM).mono ?_
      rintro e w2 ⟨rfl, hb2⟩
      have hB2 := hB.trans (hb2.mono hBs2)
      have hB2s := hB2.size
      have hB2s2 : w.heap.size + 1 ≤ w2.heap.size := by omega
      have k0 := (belowL hb2 (show w.heap.size < wo.heap.size by omega)).trans h00
      have k1 := (belowL hb2 (show w.heap.size < wo.heap.size by omega)).trans h01
      have hM2 := hM.below hb2
      have own2 := own_belowZ own hb2
      have hBw2 : Below w.heap.size w w2 := hBw.trans (hb2.mono (by omega))
      obtain ⟨hgb, t0, t1⟩ := hM2.allTm hpos
      rw [Nat.zero_mul, Nat.add_zero] at t0 t1
      clear h00 h01 own hM hb2 hsM
      cases hr : ruleS sy M sy.length with
      | none =>
        have er : ruleI none = -1 := rfl
        rw [er]
        clear er
        have HT : Hid (termsL sy M = M[0] :: termsL sy (M.drop 1)) := termsL_n hpos hr
        have HMM : Hid (∀ t ∈ M.drop 1, t ∈ P) := fun t ht => HMP.out t (List.mem_of_mem_drop ht)
        obtain ⟨oo2, hA2, sD, hD2⟩ := hM2.tail encTm_ok hMc (k := 1) hpos
        have HDL : Hid ((M.drop 1).length = M.length - 1) := List.length_drop
        have HDD := Lib.hid sD
        have HD2 := Lib.hid hD2
        clear hr sD hD2
        rw [Nat.one_mul] at hA2
        generalize hx : M[0].1 = tx at t0
        generalize hp : M[0].2 = p at t1
        have HXP : Hid (M[0] = (tx, p)) := by show _ = _; rw [← hx, ← hp]
        clear hx hp
        generalize hMD : M.drop 1 = D at HT HMM HDL HDD HD2
        clear hMD
        go_wp2_with (at_builtin; refine append_rec rowTTm encTm_ok (by decide) rfl _ _ rfl (w.heap.size + 1) _ _ O rfl (own2.alloc _) _ _ _ [(tx, p)] rfl rfl ?_ (by simp only [List.length_cons, List.length_nil]; omega) (by omega) (by simp <;> omega) ?_; exact srcE_litAt encTm_ok #[.string tx, .int .i64 (p : Int)] [(tx, p)] rfl (by rfl) (by first | rfl | (simp; done)))
        intro N hN g7 c7 w7 own7 hg7 hat7 hb7
        have hB7 : Below (w.heap.size + 1) w1 w7 := hB2.trans (Below.trans (by (repeat' (first | exact Below.refl _ _ | apply Below.alloc | apply Below.setCell | apply Below.drew | apply below_draws)) <;> (first | omega | (simp <;> omega))) hb7)
        have hM7 := (HDD.out.below (w' := w2.alloc (.cells #[.string tx, .int .i64 (p : Int)] 108)) (by (repeat' (first | exact Below.refl _ _ | apply Below.alloc | apply Below.setCell | apply Below.drew | apply below_draws)) <;> (first | omega | (simp <;> omega)))).kept hg7 (fun e => hne e.symm)
        have hne7 : g7 ≠ gl := by
          rcases hat7 with h | h
          · omega
          · first | omega | (simp at h; omega)
        have HN : Hid (R = N ++ termsL sy D) := by show _ = _; rw [hN.out, hR2.out, HT.out, HXP.out, List.append_assoc]; rfl
        have HNL : Hid (N.length + D.length ≤ P.length) := by show _ ≤ _; rw [hN.out, HDL.out, List.length_append]; simp only [List.length_cons, List.length_nil]; omega
        have hDc := HD2.out
        have hdl := HDL.out
        clear hN hg7 hat7 hb7 HDD HD2 HT HXP hR2 HMP
        have HDL2 : Hid (D.length < M.length) := by show _ < _; rw [HDL.out]; omega
        have e1 : M.length - 1 = D.length := hdl.symm
        clear hdl
        have HE1 := Lib.hid e1
        clear e1
        go_wp2
        rw [HE1.out]
        go_roundw
        case rel => exact ⟨g7, c7, oo2, cc - 1, N, D, rfl, rfl, HN, ⟨HNL.out, HMM.out⟩, hDc, by omega, hne7, hM7, own7, hB7⟩
        case measure => exact HDL2.out
      | some k =>
        have hkl := ruleS_lt sy M sy.length k hr
        have hbg := ruleS_beg sy M sy.length k hr
        have hfr := HFR.out k hkl
        have hT0 := termsL_s hpos hr (by rw [frAt_get hkl]; exact hfr.1)
        rw [frAt_get hkl, toAt_get hkl] at hT0
        rw [frAt_get hkl] at hbg
        have hfl : sy[k].fr.length ≤ M.length := by
          unfold begB at hbg
          rw [Bool.and_eq_true, decide_eq_true_eq] at hbg
          exact hbg.1
        have er : ruleI (some k) = (k : Int) := rfl
        rw [er]
        clear er hbg
        obtain ⟨b, off, _, _, rfl, hbw, _⟩ := hsy k hkl
        obtain ⟨B1, d1, hbb, x0, x1, _⟩ := (hsy.below hBw2).all hkl
        have HT := Lib.hid hT0
        obtain ⟨oo2, hA2, sD, hD2⟩ := hM2.tail encTm_ok hMc (k := sy[k].fr.length) hfl
        have HDL : Hid ((M.drop sy[k].fr.length).length = M.length - sy[k].fr.length) := List.length_drop
        have HMM : Hid (∀ t ∈ M.drop sy[k].fr.length, t ∈ P) := fun t ht => HMP.out t (List.mem_of_mem_drop ht)
        have HDD := Lib.hid sD
        have HD2 := Lib.hid hD2
        clear hr sD hD2 hT0
        generalize M.drop sy[k].fr.length = D at HT HMM HDL HDD HD2
        generalize hn : sy[k].fr.length = n at x0 hfr hfl hA2 HDL HD2 HDD
        generalize hto : sy[k].tgt = tgt at x1 HT
        generalize hp : M[0].2 = p at t1 HT
        clear hn hto hp t0
        have hi2 : (k : Int) < (sy.length : Int) := by omega
        have hkn : decide ((k : Int) < 0) = false := decide_eq_false (by omega)
        have hg1 := OwnE.capOk own2
        have n1 : w.heap.size ≠ g := by omega
        have n2 : b ≠ g := by omega
        have n3 : gl ≠ g := fun e => hne e.symm
        go_wp2_with fail
        go_region_held3 (fun w' => w'.cell? ⟨w.heap.size, 1, none⟩ = some (.slice (some ⟨b, off, none⟩) sy.length c2) ∧ w'.cell? ⟨b, off + k * 2 + 1, none⟩ = some (.string tgt) ∧ w'.cell? ⟨gl, oo + 1, none⟩ = some (.int .i64 (p : Int)))
          (first
            | go_keep
            | (go_split_ands
               refine ⟨?_, ?_, ?_⟩
               · (rw [grown_cell hg7 (by simp; omega) n1]; assumption)
               · (rw [grown_cell hg7 (by simp; omega) n2]; assumption)
               · (rw [grown_cell hg7 (by simp; omega) n3]; assumption)))
          ((refine step_append_rec rowTTm encTm_ok (by decide) rfl _ _ rfl (w.heap.size + 1) g co O rfl (own2.alloc _) _ _ _ [(tgt, p)] rfl rfl (SrcE.blk (cs := #[.string tgt, .int .i64 (p : Int)]) encTm_ok (heap_alloc_new _ _) rfl) (by simp only [List.length_cons, List.length_nil]; omega) (by omega) (by simp; omega) ?_; intro N hN g7 c7 w7 own7 hg7 hat7 hb7))
        obtain ⟨h7a, h7b, h7c⟩ := (by assumption : w7.cell? ⟨w.heap.size, 1, none⟩ = some (.slice (some ⟨b, off, none⟩) sy.length c2) ∧ w7.cell? ⟨b, off + k * 2 + 1, none⟩ = some (.string tgt) ∧ w7.cell? ⟨gl, oo + 1, none⟩ = some (.int .i64 (p : Int)))
        have hbl : Below w2.heap.size w2 ((w2.alloc (.cells #[.string tgt, .int .i64 (p : Int)] 108)).drew) := by (repeat' (first | exact Below.refl _ _ | apply Below.alloc | apply Below.setCell | apply Below.drew | apply below_draws)) <;> (first | omega | (simp <;> omega))
        have h7d := (grown_cell hg7 (Nat.lt_of_lt_of_le hbb hbl.size) n2 (off := off + k * 2)).trans ((belowL hbl hbb).trans x0)
        have hB7 : Below (w.heap.size + 1) w1 w7 := hB2.trans (Below.trans (by (repeat' (first | exact Below.refl _ _ | apply Below.alloc | apply Below.setCell | apply Below.drew | apply below_draws)) <;> (first | omega | (simp <;> omega))) hb7)
        have hM7 := (HDD.out.below hbl).kept hg7 n3
        have hne7 : g7 ≠ gl := by
          rcases hat7 with h | h
          · omega
          · first | omega | (simp at h; omega)
        have HN : Hid (R = N ++ termsL sy D) := by show _ = _; rw [hN.out, hR2.out, HT.out, List.append_assoc]; rfl
        have HNL : Hid (N.length + D.length ≤ P.length) := by show _ ≤ _; rw [hN.out, HDL.out, List.length_append]; simp only [List.length_cons, List.length_nil]; omega
        have hDc := HD2.out
        have HE1 : Hid (M.length - n = D.length) := HDL.out.symm
        have HDL2 : Hid (D.length < M.length) := by show _ < _; rw [HDL.out]; omega
        rename_i hHeld
        clear hHeld hN hg7 hat7 hb7 HDD HD2 HT hR2 HMP hbl own2 h7b h7c x0 x1 t1 k0 k1 hM2
        go_wp2
        rw [HE1.out]
        go_roundw
        case rel => exact ⟨g7, c7, oo2, cc - n, N, D, rfl, rfl, HN, ⟨HNL.out, HMM.out⟩, hDc, by omega, hne7, hM7, own7, hB7⟩
        case measure => exact HDL2.out
end Go.Proofs.YtaobgliimbmemaaDoor
