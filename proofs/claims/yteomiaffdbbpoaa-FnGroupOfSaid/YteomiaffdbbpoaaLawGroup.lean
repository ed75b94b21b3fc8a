/-
  The walk of FnGroupOf.
-/
import Derived.Test.YteomiaffdbbpoaaDrawGroup
import Derived.Test.YteomiaffdbbpoaaGroupSpec
import Derived.Test.YteomiaffdbbpoaaTopPushLaw
namespace Go.Proofs.Yteomiaffdbbpoaa
open Go.RowKit Go.Sort
set_option linter.unusedVariables false

def goodG (S : List Int) (n : Int) : Bool := decide (0 ≤ n) && !inB S n
theorem stepG_yes {st : List Int × HitL} {h : Int × Int} {n : Int} (hg : goodG st.1 n = true) : stepG st h n = (st.1 ++ [n], st.2 ++ [h]) := by
  unfold goodG at hg; unfold stepG
  rw [Bool.and_eq_true, decide_eq_true_eq, Bool.not_eq_true'] at hg
  rw [if_pos hg]
theorem stepG_bad {st : List Int × HitL} {h : Int × Int} {n : Int} (hg : goodG st.1 n = false) : stepG st h n = st := by
  unfold stepG
  rw [if_neg]
  rintro ⟨h1, h2⟩
  unfold goodG at hg
  rw [decide_eq_true h1, h2] at hg
  cases hg
/-- what is told of the hits l, the numbers S having been seen. -/
def selG (f : Int × Int → Int) (S : List Int) : HitL → HitL
  | [] => []
  | h :: r => if goodG S (f h) = true then h :: selG f (S ++ [f h]) r else selG f S r
theorem selG_cons (f : Int × Int → Int) (S : List Int) (h : Int × Int) (r : HitL) : selG f S (h :: r) = if goodG S (f h) = true then h :: selG f (S ++ [f h]) r else selG f S r := rfl
theorem fold_sel (f : Int × Int → Int) : ∀ (l : HitL) (st : List Int × HitL), (l.foldl (fun st h => stepG st h (f h)) st).2 = st.2 ++ selG f st.1 l
  | [], st => by simp [selG]
  | h :: r, st => by
    rw [List.foldl_cons, fold_sel f r]
    cases hg : goodG st.1 (f h) with
    | true => rw [stepG_yes hg, selG_cons, if_pos hg]; simp
    | false => rw [stepG_bad hg]; conv => rhs; unfold selG
               rw [if_neg (by rw [hg]; simp)]
theorem selG_twice (f : Int × Int → Int) : ∀ (l : HitL) (S : List Int), selG f S (selG f S l) = selG f S l
  | [], S => rfl
  | h :: r, S => by
    cases hg : goodG S (f h) with
    | true =>
      have e : selG f S (h :: r) = h :: selG f (S ++ [f h]) r := by conv => lhs; unfold selG
                                                                    rw [if_pos hg]
      rw [e]
      conv => lhs; unfold selG
      rw [if_pos hg, selG_twice f r]
    | false =>
      have e : selG f S (h :: r) = selG f S r := by conv => lhs; unfold selG
                                                    rw [if_neg (by rw [hg]; simp)]
      rw [e, selG_twice f r]
theorem selG_sub (f : Int × Int → Int) : ∀ (l : HitL) (S : List Int), (selG f S l).Sublist l
  | [], S => List.Sublist.refl _
  | h :: r, S => by
    unfold selG
    split
    · exact (selG_sub f r _).cons_cons h
    · exact (selG_sub f r _).cons h
theorem foldG_sel (Ds : List DocD) (name : ByteArray) (hits : HitL) : (foldG Ds name hits).2 = selG (fun h => numF name h.1 Ds) [] hits := by
  unfold foldG; rw [fold_sel]; rfl
theorem foldG_prefix (Ds : List DocD) (name : ByteArray) (hits : HitL) (k : Nat) : ∃ t, (foldG Ds name hits).2 = (foldG Ds name (hits.take k)).2 ++ t := by
  refine ⟨selG (fun h => numF name h.1 Ds) (foldG Ds name (hits.take k)).1 (hits.drop k), ?_⟩
  have : foldG Ds name hits = (hits.drop k).foldl (fun st h => stepG st h (numF name h.1 Ds)) (foldG Ds name (hits.take k)) := by
    unfold foldG; rw [← List.foldl_append, List.take_append_drop]
  rw [this, fold_sel]
theorem hits_sub {L M : HitL} (h : hitsB L = true) (hs : M.Sublist L) : hitsB M = true := by
  obtain ⟨h1, h2, h3, h4⟩ := hits_iff.1 h
  exact hits_iff.2 ⟨h1.sublist hs, fun x hx => h2 x (hs.subset hx), h3.sublist (hs.map _), Nat.le_trans hs.length_le h4⟩
theorem group_at {Ds : List DocD} {name : ByteArray} {hits R : HitL} {i : Nat} (hR : R = (foldG Ds name hits).2) (hi : i < hits.length) (hg : goodG (foldG Ds name (hits.take i)).1 (numF name hits[i].1 Ds) = true) :
    R[(foldG Ds name (hits.take i)).2.length]? = some hits[i] := by
  obtain ⟨t, ht⟩ := foldG_prefix Ds name hits (i + 1)
  rw [foldG_succ hi, stepG_yes hg] at ht
  rw [hR, ht, List.append_assoc, List.getElem?_append_right (Nat.le_refl _), Nat.sub_self]
  rfl
set_option maxHeartbeats 3200000 in
set_option maxRecDepth 8000 in
theorem walk_FnGroupOf (a0 : Option Addr) (len cap : Nat) (zs : List Int) (w : World) (hrow : IsRow .u8 w a0 len cap zs) :
    Calls Try.prog 5 #[.slice a0 len cap] w fun e w' => e = .returned (.bool true) ∧ Below w.heap.size w w' := by
  obtain ⟨hc1, hc2, _⟩ := code_of_row hrow
  by_cases hbig : (1048576 : Int) < (len : Int)
  · go_enter Try.func5, Try.ntmps5
    go_wp2
    go_ret
    exact ⟨rfl, Below.refl _ _⟩
  · go_enter Try.func5, Try.ntmps5
    go_wp2_with fail
    refine (drawGroupOf_any a0 len cap zs _ hrow).mono ?_
    rintro e w0 ⟨B, d, Ds, I, di, L, s, ⟨rfl, hl6, hL6, hD, hsm, own0⟩, hB0⟩
    have hcap := own0.capOk
    unfold maxLen at hcap
    obtain ⟨hcp1, hcp2, _, _⟩ := hcap
    have hH : SrcE enc2 2 w0 (some ⟨I, 0, none⟩) di L := own0.src
    clear hrow own0
    obtain ⟨R, hR⟩ : ∃ R, R = groupF Ds L s := ⟨_, rfl⟩
    have hRl : R.length ≤ L.length := by rw [hR]; exact groupF_len Ds L s
    have ci := fun A c w h (hh : SrcE enc2 2 w (some ⟨I, 0, none⟩) di L) => implGroup_any A (some ⟨I, 0, none⟩) c di Ds L s w h hsm hh (by omega) (by omega) (by omega)
    have cs := fun A c w h (hh : SrcE enc2 2 w (some ⟨I, 0, none⟩) di L) => specGroup_any A (some ⟨I, 0, none⟩) c di Ds L s w h hsm hh (by omega) (by omega) (by omega)
    have CA := Lib.hid (fun A Ah c ch w h hh hcap hcm => implGroup_any A Ah c ch Ds R s w h hsm hh (by omega) hcap hcm)
    rw [← hR] at ci cs
    have CI := Lib.hid ci
    have CS := Lib.hid cs
    have HR := Lib.hid hR
    clear hR ci cs
    go_wp2_with fail
    refine (CI.out _ _ _ hD hH).mono ?_
    rintro e w1 ⟨b1, d1, ⟨rfl, rX⟩, hb⟩
    have hcapR := rX.capOk
    unfold maxLen at hcapR
    obtain ⟨hR1, hR2, _, _⟩ := hcapR
    have hX : SrcE enc2 2 w1 (some ⟨b1, 0, none⟩) d1 R := rX.src
    replace hD := hD.below hb
    replace hH := hH.below hb
    have hB1 := hB0.trans (hb.mono hB0.size)
    clear hb hB0 rX
    go_wp2_with fail
    refine (CS.out _ _ _ hD hH).mono ?_
    rintro e w2 ⟨b2, d2, ⟨rfl, rS⟩, hb⟩
    replace hD := hD.below hb
    replace hH := hH.below hb
    replace hX := hX.below hb
    have hB2 := hB1.trans (hb.mono hB1.size)
    clear hb hB1
    go_wp2_with fail
    refine (foHits_same _ _ _ _ R _ hX.1 rS.1 (by omega)).mono ?_
    rintro e w3 ⟨rfl, hb⟩
    replace hD := hD.below hb
    replace hH := hH.below hb
    replace hX := hX.below hb
    have hB3 := hB2.trans (hb.mono hB2.size)
    clear hb hB2 rS
    go_wp2_with fail
    refine (docsOk_any _ _ Ds _ hD hsm).mono ?_
    rintro e w4 ⟨rfl, hb⟩
    replace hD := hD.below hb
    replace hH := hH.below hb
    replace hX := hX.below hb
    have hB4 := hB3.trans (hb.mono hB3.size)
    clear hb hB3
    cases hdk : docsB Ds with
    | false =>
      go_wp2_with fail
      refine (CS.out _ _ _ hD hH).mono ?_
      rintro e w5 ⟨b5, d5, ⟨rfl, rS⟩, hb⟩
      replace hX := hX.below hb
      have hB5 := hB4.trans (hb.mono hB4.size)
      clear hb hB4
      go_wp2_with fail
      refine (foHits_same _ _ _ _ R _ hX.1 rS.1 (by omega)).mono ?_
      rintro e w6 ⟨rfl, hb⟩
      have hB6 := hB5.trans (hb.mono hB5.size)
      go_wp2
      go_ret
      exact ⟨rfl, hB6⟩
    | true =>
      go_wp2_with fail
      refine (implHitsOk_any _ _ L _ hH.1 (by omega) (by omega) (by omega)).mono ?_
      rintro e w5 ⟨rfl, hb⟩
      replace hD := hD.below hb
      replace hH := hH.below hb
      replace hX := hX.below hb
      have hB5 := hB4.trans (hb.mono hB4.size)
      clear hb hB4
      cases hul : hitsB L with
      | false =>
        go_wp2_with fail
        refine (CS.out _ _ _ hD hH).mono ?_
        rintro e w5 ⟨b5, d5, ⟨rfl, rS⟩, hb⟩
        replace hX := hX.below hb
        have hB6 := hB5.trans (hb.mono hB5.size)
        clear hb hB5
        go_wp2_with fail
        refine (foHits_same _ _ _ _ R _ hX.1 rS.1 (by omega)).mono ?_
        rintro e w6 ⟨rfl, hb⟩
        have hB7 := hB6.trans (hb.mono hB6.size)
        go_wp2
        go_ret
        exact ⟨rfl, hB7⟩
      | true =>
        have hRb : R = (foldG Ds s L).2 := by rw [HR.out]; unfold groupF; rw [if_pos ⟨hdk, hul⟩]
        have hRok : hitsB R = true := by rw [hRb, foldG_sel]; exact hits_sub hul (selG_sub _ _ _)
        have hRtw : groupF Ds R s = R := by
          unfold groupF; rw [if_pos ⟨hdk, hRok⟩, foldG_sel, hRb, foldG_sel, selG_twice]
        rw [hRtw] at CA
        have HRB := Lib.hid hRb
        have HOK := Lib.hid hRok
        have HXB : ∀ k, k < R.length → b1 < w5.heap.size := fun k hk => by obtain ⟨bX, offX, hXe, hbX, _⟩ := hX.1.at2 hk; injection hXe with e; injection e with e1 e2; omega
        replace HXB := Lib.hid HXB
        have HSM := Lib.hid hsm.2
        have hMade : ∀ (W : World), w5.heap.size ≤ W.heap.size → OwnE encI 3 1 (W.alloc (.cells #[] 3)) w5.heap.size W.heap.size 0 ([] : List Int) := fun W hW => own_monoZ (ownE_made (enc := encI) (F := 1) 3 W W.heap.size (Nat.le_refl _)) hW
        have own0 := hMade w5 (Nat.le_refl _)
        have hbW0 : Below w5.heap.size w5 (w5.alloc (.cells #[] 3)) := by (repeat' (first | exact Below.refl _ _ | apply Below.alloc | apply Below.setCell | apply Below.drew | apply below_draws)) <;> (first | omega | (simp <;> omega))
        clear hRb hRok hRtw HR CI CS hsm hMade
        go_wp2_with fail
        generalize (w5.alloc (.cells #[] 3)) = W0 at own0 hbW0 ⊢
        go_loopw [7, 8, 9, 10, 11] (fun sv nv iv mv kv wr => ∃ (i gS cS : Nat) (S : List Int) (a : Nat), i ≤ L.length ∧ iv = .int .i64 (i : Int) ∧ sv = .slice (some ⟨gS, 0, none⟩) S.length cS ∧ nv = .int .i64 (a : Int) ∧ S.length ≤ i ∧ a ≤ i ∧ Hid (S = (foldG Ds s (L.take i)).1) ∧ Hid (a = (foldG Ds s (L.take i)).2.length) ∧ OwnE encI 3 1 wr w5.heap.size gS cS S ∧ Below w5.heap.size w5 wr) (fun _ _ iv _ _ _ => L.length - (intOf iv).toNat)
        case atStart => exact ⟨0, _, _, [], 0, Nat.zero_le _, rfl, rfl, rfl, Nat.le_refl _, Nat.le_refl _, rfl, rfl, own0, hbW0⟩
        case round =>
          obtain ⟨i, gS, cS, S, a, hi, rfl, rfl, rfl, hSl, hal, hS, ha, own, hbW⟩ := hrel
          have hbs := hbW.size
          by_cases hlt : i < L.length
          · have hi0 : (i : Int) < (L.length : Int) := by omega
            have hsu := foldG_succ (Ds := Ds) (name := s) hlt
            have hgat := fun hg => group_at HRB.out hlt hg
            rw [← hS.out, ← ha.out] at hgat
            obtain ⟨hx, hhx⟩ : ∃ x, x = L[i] := ⟨_, rfl⟩
            rw [← hhx] at hsu hgat
            have HXL := Lib.hid hhx
            have HSU := Lib.hid hsu
            have HGA := Lib.hid hgat
            clear hhx hsu hgat
            obtain ⟨hxd, hxp⟩ := hx
            dsimp only at HSU HGA
            go_wp2_with fail
            go_loopw [10, 11] (fun mv kv wr => ∃ (j : Nat) (m : Int), j ≤ Ds.length ∧ kv = .int .i64 (j : Int) ∧ mv = .int .i64 m ∧ Hid (m = numF s hxd (Ds.take j)) ∧ OwnE encI 3 1 wr w5.heap.size gS cS S ∧ Below w5.heap.size w5 wr) (fun _ kv _ => Ds.length - (intOf kv).toNat)
            case atStart => exact ⟨0, -1, Nat.zero_le _, rfl, rfl, rfl, own, hbW⟩
            case round =>
              obtain ⟨j, m, hj, rfl, rfl, hm, own, hbV⟩ := hrel
              have hHV := hH.below hbV
              obtain ⟨bR, offR, hRe, hbR, r0, r1⟩ := hHV.1.at2 hlt
              have e1 : (⟨I, 0, none⟩ : Addr) = ⟨bR, offR, none⟩ := by injection hRe
              injection e1 with e1 e2
              subst e1 e2
              rw [Nat.zero_add] at r0 r1
              rw [← HXL.out] at r0 r1
              dsimp only at r0 r1
              clear hRe hHV
              by_cases hlj : j < Ds.length
              · have hj0 : (j : Int) < (Ds.length : Int) := by omega
                obtain ⟨b, off, A1, c1, A2, c2, hBe, hb, x0, x1, x2, hh⟩ := (hD.below hbV) j hlj
                have e1 : (⟨B, 0, none⟩ : Addr) = ⟨b, off, none⟩ := by injection hBe
                injection e1 with e1 e2
                subst e1 e2
                rw [Nat.zero_add] at x0 x1 x2
                have HNS := Lib.hid (numF_succ (name := s) (doc := hxd) hlj)
                have hsd := HSM.out Ds[j] (List.getElem_mem _)
                clear hBe r1
                generalize Ds[j] = dd at x0 x1 x2 hh hsd HNS
                obtain ⟨idd, fs, ns⟩ := dd
                dsimp only at x0 x1 x2 HNS
                have k0 := cell_regrown x0
                have k1 := cell_regrown x1
                have k2 := cell_regrown x2
                have k3 := cell_regrown r0
                clear x0 x1 x2 r0
                by_cases hxx : idd = hxd
                · have hN : Hid (docNum ⟨idd, fs, ns⟩ s = numF s hxd (Ds.take (j + 1))) := by show _ = _; rw [HNS.out, if_pos hxx]
                  have hq : (idd == hxd) = true := by simpa using hxx
                  clear HNS hm hxx
                  go_wp2_with fail
                  refine region_qw (by kernel_rfl) (by kernel_rfl) ?_
                  repeat (
                    refine qw_step (fun K hK => ?_)
                    go_simp
                    first
                      | (refine hK _ ?_; clear hK K)
                      | fail)
                  refine qw_nil ?_
                  intro _ hw'
                  obtain ⟨⟨dq, osq⟩, hw''⟩ := hw'
                  subst hw''
                  have hb7 := below_regrown wr dq osq
                  have hbU := hbV.trans (hb7.mono hbV.size)
                  have hh7 := hh.below hb7
                  have own7 := own_belowZ own hb7
                  clear own hh
                  go_wp2_with fail
                  refine (docNum_any ⟨idd, fs, ns⟩ A1 A2 c1 c2 s _ hh7 hsd).mono ?_
                  rintro e w7 ⟨rfl, hb8⟩
                  have own8 := own_belowZ own7 hb8
                  have hb9 := hbU.trans (hb8.mono hbU.size)
                  generalize docNum ⟨idd, fs, ns⟩ s = mm at hN ⊢
                  clear own7 hh7 hb8 hb7
                  go_wp2
                  go_roundw
                  case rel => exact ⟨j + 1, mm, by omega, by go_num, rfl, hN, own8, hb9⟩
                  case measure => simp [intOf]; omega
                · have hN : Hid (m = numF s hxd (Ds.take (j + 1))) := by show _ = _; rw [HNS.out, if_neg hxx, hm.out]
                  have hq : (idd == hxd) = false := by simpa using hxx
                  clear HNS hm hxx
                  go_wp2_with fail
                  refine region_qw (by kernel_rfl) (by kernel_rfl) ?_
                  repeat (
                    refine qw_step (fun K hK => ?_)
                    go_simp
                    first
                      | (refine hK _ ?_; clear hK K)
                      | fail)
                  refine qw_nil ?_
                  intro _ hw'
                  obtain ⟨⟨dq, osq⟩, hw''⟩ := hw'
                  subst hw''
                  have hb7 := below_regrown wr dq osq
                  have hbU := hbV.trans (hb7.mono hbV.size)
                  have own7 := own_belowZ own hb7
                  clear own
                  go_wp2
                  go_roundw
                  case rel => exact ⟨j + 1, m, by omega, by go_num, rfl, hN, own7, hbU⟩
                  case measure => simp [intOf]; omega
              · obtain rfl : j = Ds.length := by omega
                have hM : Hid (m = numF s hxd Ds) := by show _ = _; rw [hm.out, List.take_length]
                have hbv := hbV.size
                clear hm
                cases hg : goodG S m with
                | false =>
                  have hSU2 : foldG Ds s (L.take (i + 1)) = foldG Ds s (L.take i) := by
                    rw [HSU.out]; exact stepG_bad (by rw [← hS.out, ← hM.out]; exact hg)
                  have HS2 : Hid (S = (foldG Ds s (L.take (i + 1))).1) := by show _ = _; rw [hSU2]; exact hS.out
                  have HA2 : Hid (a = (foldG Ds s (L.take (i + 1))).2.length) := by show _ = _; rw [hSU2]; exact ha.out
                  clear hS ha HSU HGA hSU2 hM r0 r1
                  by_cases hm0 : m < 0
                  · clear hg
                    go_wp2
                    go_roundw
                    case rel => exact ⟨i + 1, gS, cS, S, a, by omega, by go_num, rfl, rfl, by omega, by omega, HS2, HA2, own, hbV⟩
                    case measure => simp [intOf]; omega
                  · have hin : inB S m = true := by
                      unfold goodG at hg
                      rw [decide_eq_true (by omega), Bool.true_and] at hg
                      simpa using hg
                    clear hg
                    go_wp2_with fail
                    refine (foIn_any _ _ S m _ (Rds.own own.ownI) (by omega)).mono ?_
                    rintro e w8 ⟨rfl, rfl⟩
                    rw [hin]
                    go_wp2
                    go_roundw
                    case rel => exact ⟨i + 1, gS, cS, S, a, by omega, by go_num, rfl, rfl, by omega, by omega, HS2, HA2, own, hbV⟩
                    case measure => simp [intOf]; omega
                | true =>
                  have hSU2 : foldG Ds s (L.take (i + 1)) = (S ++ [m], (foldG Ds s (L.take i)).2 ++ [(hxd, hxp)]) := by
                    rw [HSU.out, hS.out, hM.out]; exact stepG_yes (by rw [← hS.out, ← hM.out]; exact hg)
                  have hga := HGA.out (by rw [← hM.out]; exact hg)
                  have haR : a < R.length := by
                    rcases Nat.lt_or_ge a R.length with h | h
                    · exact h
                    · rw [List.getElem?_eq_none h] at hga; cases hga
                  have haR0 : (a : Int) < (R.length : Int) := by omega
                  obtain ⟨bX, offX, hXe, hbX, y0, y1⟩ := (hX.below hbV).1.at2 haR
                  have e1 : (⟨b1, 0, none⟩ : Addr) = ⟨bX, offX, none⟩ := by injection hXe
                  injection e1 with e1 e2
                  subst e1 e2
                  rw [Nat.zero_add] at y0 y1
                  have hRa : R[a] = (hxd, hxp) := by rw [List.getElem?_eq_getElem haR] at hga; injection hga
                  rw [hRa] at y0 y1
                  dsimp only at y0 y1
                  have hm0 : ¬ m < 0 := by
                    unfold goodG at hg
                    rw [Bool.and_eq_true, decide_eq_true_eq] at hg
                    omega
                  have hin : inB S m = false := by
                    unfold goodG at hg
                    rw [Bool.and_eq_true] at hg
                    simpa using hg.2
                  have HS2 : Hid (S ++ [m] = (foldG Ds s (L.take (i + 1))).1) := by show _ = _; rw [hSU2]
                  have HA2 : Hid (a + 1 = (foldG Ds s (L.take (i + 1))).2.length) := by show _ = _; rw [hSU2, List.length_append, ← ha.out]; rfl
                  have hax := haR
                  clear hS ha HSU HGA hSU2 hM hga hXe hRa hg haR
                  go_wp2_with fail
                  refine (foIn_any _ _ S m _ (Rds.own own.ownI) (by omega)).mono ?_
                  rintro e w8 ⟨rfl, rfl⟩
                  rw [hin]
                  have hbN : Below wr.heap.size wr (wr.alloc (.cells #[.int .i64 m] 3)) := by (repeat' (first | exact Below.refl _ _ | apply Below.alloc | apply Below.setCell | apply Below.drew | apply below_draws)) <;> (first | omega | (simp <;> omega))
                  have own2 := own_belowZ own hbN
                  go_wp2_with (at_builtin; refine append_rec rowTI encI_ok (by decide) rfl _ _ rfl w5.heap.size _ _ S rfl own2 _ _ _ [m] rfl rfl (SrcE.lit encI_ok wr 3 #[.int .i64 m] [m] rfl 1) (by simp; omega) (by omega) (by simp; omega) ?_)
                  intro N hN g7 c7 w7 own7 _ _ hb7
                  rw [← hN.out] at HS2
                  have hNl : N.length ≤ i + 1 := by rw [hN.out]; simp; omega
                  have hbT := (hbN.mono hbv).trans hb7
                  have hbU := hbV.trans hbT
                  obtain ⟨bR, offR, hRe, hbR2, q0, q1⟩ := (hH.below hbU).1.at2 hlt
                  have e1 : (⟨I, 0, none⟩ : Addr) = ⟨bR, offR, none⟩ := by injection hRe
                  injection e1 with e1 e2
                  subst e1 e2
                  rw [Nat.zero_add] at q0 q1
                  rw [← HXL.out] at q0 q1
                  dsimp only at q0 q1
                  have s0 := (hbT.cell (p := ⟨b1, a * 2, none⟩) (HXB.out a hax)).trans y0
                  have s1 := (hbT.cell (p := ⟨b1, a * 2 + 1, none⟩) (HXB.out a hax)).trans y1
                  have k0 := cell_regrown q0
                  have k1 := cell_regrown q1
                  have k2 := cell_regrown s0
                  have k3 := cell_regrown s1
                  clear hRe q0 q1 s0 s1 r0 r1 y0 y1 hN own own2 hbN
                  go_wp2_with fail
                  refine region_qw (by kernel_rfl) (by kernel_rfl) ?_
                  repeat (
                    refine qw_step (fun K hK => ?_)
                    go_simp
                    first
                      | (refine hK _ ?_; clear hK K)
                      | fail)
                  refine qw_nil ?_
                  intro _ hw'
                  obtain ⟨⟨dq, osq⟩, hw''⟩ := hw'
                  subst hw''
                  have hb8 := below_regrown w7 dq osq
                  have own8 := own_belowZ own7 hb8
                  have hb9 := hbU.trans (hb8.mono hbU.size)
                  clear own7 hb8
                  go_wp2
                  go_roundw
                  case rel => exact ⟨i + 1, g7, c7, N, a + 1, by omega, by go_num, rfl, by go_num, hNl, by omega, HS2, HA2, own8, hb9⟩
                  case measure => simp [intOf]; omega
          · obtain rfl : i = L.length := by omega
            have haR : a = R.length := by rw [ha.out, List.take_length, HRB.out]
            subst haR
            have hXV := hX.below hbW
            have hDV := hD.below hbW
            have hB6 := hB5.trans (hbW.mono hB5.size)
            clear ha hS own hX hD hH HRB hB5 hbW
            go_wp2_with fail
            refine (implHitsOk_any _ _ R _ hXV.1 (by omega) (by omega) (by omega)).mono ?_
            rintro e w7 ⟨rfl, hb⟩
            rw [HOK.out]
            replace hXV := hXV.below hb
            replace hDV := hDV.below hb
            have hB7 := hB6.trans (hb.mono hB6.size)
            clear hb hB6
            go_wp2_with fail
            refine (CA.out _ _ _ _ _ hDV hXV (by omega) (by omega)).mono ?_
            rintro e w8 ⟨b8, d8, ⟨rfl, rX⟩, hb⟩
            replace hXV := hXV.below hb
            have hB8 := hB7.trans (hb.mono hB7.size)
            clear hb hB7
            go_wp2_with fail
            refine (foHits_same _ _ _ _ R _ (Rds.own rX) hXV.1 (by omega)).mono ?_
            rintro e w9 ⟨rfl, hb⟩
            have hB9 := hB8.trans (hb.mono hB8.size)
            go_wp2
            go_ret
            exact ⟨rfl, hB9⟩
end Go.Proofs.Yteomiaffdbbpoaa
