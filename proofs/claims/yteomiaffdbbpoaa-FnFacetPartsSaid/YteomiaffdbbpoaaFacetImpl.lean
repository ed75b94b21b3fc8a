/-
  Contract of impl.FacetOf.
-/
import Derived.Test.YteomiaffdbbpoaaFacet
namespace Go.Proofs.Yteomiaffdbbpoaa
open Go.RowKit Go.Maps
set_option linter.unusedVariables false

theorem rowTFac : RowT Try.prog 69 73 2 16 := rowTFacet
theorem ranges_ne {H : Type} {w : World} {P : Program} {k : TypeId} {R : Value → Option (DataW H × List MemPlace)} {b r n : Nat} {D : DataW H} {left : Lit → Bool} {cnt : Nat} (h : w.ranges P k R b r n D left cnt) {base e size m g c : Nat} {xs : List Value} (ho : w.ownsRow base e size (.slice (some ⟨g, 0, none⟩) m c) m xs) : r ≠ g ∧ b ≠ g := by
  obtain ⟨es, clock, since, seen, c0, hb, _, _, _, hr, _⟩ := h
  rcases ho.2 with ⟨hbad, _⟩ | ⟨g', cap, cur, hv, _, hh, _⟩
  · simp at hbad
  · simp only [Value.slice.injEq, Option.some.injEq, Addr.mk.injEq, and_true, true_and] at hv
    obtain ⟨rfl, _⟩ := hv
    constructor
    · intro e; subst e; rw [hr] at hh; cases hh
    · intro e; subst e; rw [hb] at hh; cases hh
theorem CntM.ne {w : World} {b n base e size m g c : Nat} {S : List Int} {xs : List Value} (h : CntM w b n S) (ho : w.ownsRow base e size (.slice (some ⟨g, 0, none⟩) m c) m xs) : b ≠ g := by
  obtain ⟨D, ⟨es, clock, hb, _⟩, _⟩ := h
  rcases ho.2 with ⟨hbad, _⟩ | ⟨g', cap, cur, hv, _, hh, _⟩
  · simp at hbad
  · simp only [Value.slice.injEq, Option.some.injEq, Addr.mk.injEq, and_true, true_and] at hv
    obtain ⟨rfl, _⟩ := hv
    intro e
    subst e
    rw [hb] at hh
    cases hh
theorem grown_none {w w' : World} {base e size n : Nat} {v : Value} {xs : List Value} (h : w.ownsRow base e size v n xs) (hg : w.grownBy w' none) : w'.ownsRow base e size v n xs := h.kept hg (Classical.em _)
set_option maxRecDepth 4000 in
set_option maxHeartbeats 1600000 in
theorem implFacet_any (A Ai : Option Addr) (c ci : Nat) (Ds : List DocD) (ids : List Int) (name : ByteArray) (w : World) (h : RdD w A Ds) (hs : SmDs Ds) (hi : RdI w Ai ids) (hil : ids.length ≤ 4194304) :
    Calls Try.prog 46 #[.slice A Ds.length c, .slice Ai ids.length ci, .string name] w (MakesF (facetF Ds ids name) w) := by
  obtain ⟨R, hR⟩ : ∃ R, R = facetF Ds ids name := ⟨_, rfl⟩
  rw [← hR]
  have HR := Lib.hid hR
  clear hR
  have hmm := @run_makeMap Try.prog
  have hDl := hs.1
  have hB0 : Below w.heap.size w (w.alloc (.cells #[] 73)) := (Below.refl _ _).alloc (Nat.le_refl _) _
  have own0 := ownE_made (enc := enc2) (F := 2) 73 w w.heap.size (Nat.le_refl _)
  go_enter Try.func46, Try.ntmps46
  go_wp2_with fail
  generalize (w.alloc (.cells #[] 73)) = w0 at hB0 own0 ⊢
  refine (docsOk_any A c Ds _ (h.below hB0) hs).mono ?_
  rintro e w1 ⟨rfl, hb1⟩
  replace own0 : OwnE enc2 73 2 w1 w.heap.size w.heap.size 0 ([] : FacL) := own_below own0 hb1
  have hB1 := hB0.trans (hb1.mono hB0.size)
  cases hd : docsB Ds with
  | false =>
    obtain rfl : R = [] := by rw [HR.out]; unfold facetF; rw [if_neg (by rw [hd]; simp)]
    go_wp2
    go_ret
    exact ⟨_, _, ⟨rfl, own0⟩, hB1⟩
  | true =>
    go_wp2_with fail
    refine (upOk_any Ai ci ids _ (hi.below hB1) (by omega)).mono ?_
    rintro e w2 ⟨rfl, q2, rfl⟩
    have hbq : Below w1.heap.size w1 (w1.drewN q2) := below_of_drewN
    have own2 : OwnE enc2 73 2 (w1.drewN q2) w.heap.size w.heap.size 0 ([] : FacL) := own_below own0 hbq
    have hB2 := hB1.trans (hbq.mono hB1.size)
    generalize w1.drewN q2 = w2 at own2 hB2 ⊢
    clear own0 hB0 hB1 hb1 hbq
    cases hu : upB ids with
    | false =>
      obtain rfl : R = [] := by rw [HR.out]; unfold facetF; rw [if_neg (by rw [hu]; simp)]
      go_wp2
      go_ret
      exact ⟨_, _, ⟨rfl, own2⟩, hB2⟩
    | true =>
      have HR2 : Hid (R = facetL (selL ids name Ds)) := by show _ = _; rw [HR.out]; unfold facetF; rw [if_pos ⟨hd, hu⟩]
      clear HR hd hu
      have hmap0 := CntM.made w2
      have own3 : OwnE enc2 73 2 (w2.alloc (.map #[] 0)) w.heap.size w.heap.size 0 ([] : FacL) := own_below own2 ((Below.refl _ w2).alloc (Nat.le_refl _) _)
      have hB3 : Below w.heap.size w (w2.alloc (.map #[] 0)) := hB2.trans (((Below.refl _ _).alloc (Nat.le_refl _) _).mono hB2.size)
      have hmb : w.heap.size ≤ w2.heap.size := hB2.size
      go_wp2_with fail
      generalize w2.heap.size = mb at hmap0 hmb ⊢
      generalize (w2.alloc (.map #[] 0)) = w3 at hmap0 own3 hB3 ⊢
      clear own2 hB2
      refine (selected_any A Ai c ci Ds ids name _ (h.below hB3) hs (hi.below hB3) hil).mono ?_
      rintro e w5 ⟨B, d, ⟨rfl, rS⟩, hb5⟩
      have hml := hmap0.lt
      replace hmap0 := hmap0.below hb5
      replace own3 : OwnE enc2 73 2 w5 w.heap.size w.heap.size 0 ([] : FacL) := own_below own3 hb5
      have hB5 := hB3.trans (hb5.mono hB3.size)
      have hsel := selL_len ids name Ds
      have HRG := Lib.hid (selL_range (ids := ids) (name := name) (Ds := Ds) (fun d => docNum_range9 (d := d) name))
      generalize selL ids name Ds = S at rS HR2 hsel HRG ⊢
      have hSl : S.length ≤ 1048576 := by omega
      clear hb5 hB3 h hi
      go_wp2_with fail
      go_loopw [10, 29] (fun _ iv wr => ∃ k : Nat, k ≤ S.length ∧ iv = .int .i64 k ∧ CntM wr mb k (S.take k) ∧ OwnE enc2 73 2 wr w.heap.size w.heap.size 0 ([] : FacL) ∧ OwnI wr w3.heap.size (.slice B S.length d) S ∧ Below w.heap.size w wr) (fun _ iv _ => S.length - (intOf iv).toNat)
      case atStart => exact ⟨0, Nat.zero_le _, rfl, hmap0, own3, rS, hB5⟩
      case round =>
        obtain ⟨k, hk, rfl, hmap, hown, hS, hB⟩ := hrel
        by_cases hlt : k < S.length
        · obtain ⟨b, off, hBe, hb, x0⟩ := hS.rds.at1 hlt
          have hi0 : (k : Int) < (S.length : Int) := by omega
          have hsn : S.take (k + 1) = S.take k ++ [S[k]] := (List.take_append_getElem hlt).symm
          have HSN := Lib.hid hsn
          have htl : (S.take k).length = k := by rw [List.length_take]; omega
          have hrg := HRG.out _ (List.getElem_mem hlt)
          clear hsn
          generalize S[k] = n at x0 HSN hrg
          subst hBe
          have hwf : (Lit.int .i64 n).wf = true := wf_small (by omega) (by omega)
          have hlook := hmap.look hwf
          obtain ⟨w8, hput, hmap8, hg8⟩ := hmap.put hwf (by unfold maxLen; omega) (by omega)
          have hcl := cntI_le (S.take k) n
          rw [htl] at hcl
          have hmg := hmap.ne hown
          rw [← HSN.out] at hmap8
          generalize cntI (S.take k) n = v at hlook hput hcl
          have own8 : OwnE enc2 73 2 w8 w.heap.size w.heap.size 0 ([] : FacL) := own_other hown hg8 (fun e => hmg e.symm)
          have hS8 : OwnI w8 w3.heap.size (.slice (some ⟨b, off, none⟩) S.length d) S := hS.kept hg8 (by
            right
            intro e
            have h1 := (hS.lt mb e).1
            omega)
          have hB8 : Below w.heap.size w w8 := hB.grown hg8 hB.size (fun k hk => by cases hk; exact hmb)
          clear hmap hown hB hS hmg hg8
          go_wp2
          go_roundw
          case rel => exact ⟨k + 1, by omega, by go_num, hmap8, own8, hS8, hB8⟩
          case measure => simp [intOf]; omega
        · obtain rfl : k = S.length := by omega
          rw [List.take_length] at hmap
          obtain ⟨D, hmo, hat, hhas⟩ := hmap
          have HAT := Lib.hid hat
          have HHAS := Lib.hid hhas
          have hBs := hB.size
          clear hat hhas hS hmap0 rS own3 hB5
          go_wp2_with (first
            | (at_range; refine wpList_range_own _ rfl _ 106 rfl 3 3 keyedI Try.underlying106 _ mb S.length _ rfl hmo ?_; intro w6 hrg0 hg0 hs0)
            | go_in)
          go_frame
          have own6 : OwnE enc2 73 2 w6 w.heap.size w.heap.size 0 ([] : FacL) := grown_none hown hg0
          have hB6 : Below w.heap.size w w6 := hB.grown hg0 hBs (fun k hk => by cases hk)
          have hrb : w.heap.size ≤ wr.heap.size := hBs
          generalize wr.heap.size = rb at hrg0 hrb ⊢
          have hran0 : RanS [] S (has D) := ⟨fun y => by rw [HHAS.out]; simp [inB], fun p hp => by simp at hp, List.nodup_nil⟩
          clear hown hB hg0 hs0 hmo HHAS
          go_loopw [7, 11, 12] (fun ov _ _ wq => ∃ (left : Lit → Bool) (cnt g c : Nat) (L : FacL), ov = .slice (some ⟨g, 0, none⟩) L.length c ∧ wq.ranges Try.prog 3 (plainElem Try.prog 3) mb rb S.length D left cnt ∧ Hid (RanS L S left) ∧ OwnE enc2 73 2 wq w.heap.size g c L ∧ Below w.heap.size w wq) (fun _ _ _ wq => wq.rangeLeft mb rb)
          case atStart => exact ⟨_, _, _, _, [], rfl, hrg0, hran0, own6, hB6⟩
          case round =>
            obtain ⟨left, cnt, g, c9, L, rfl, hrg, hran, hown, hB⟩ := hrel
            have hLl := hran.out.len
            have hBs := hB.size
            go_wp2_with (first
              | (at_next; refine wpList_next_ranges_ii _ rfl _ rfl 3 3 .i64 .i64 keyedI Try.underlying3 Try.underlying3 mb rb S.length _ _ _ rfl hrg ?_ ?_)
              | go_in)
            · intro _ hl0
              have hfin := hran.out.done hl0
              have hfl := sortH_len L
              rw [hfin, ← HR2.out] at hfl
              go_wp2_with fail
              refine (sortFacet_own g c9 w.heap.size L _ hown (by omega)).mono ?_
              rintro e w7 ⟨N, ⟨rfl, hN, hNl, ownN, hgN⟩, hbN⟩
              obtain rfl : R = N := by rw [HR2.out, ← hfin]; exact hN.out.symm
              have hB7 : Below w.heap.size w w7 := hB.trans hbN
              have ownN' : OwnE enc2 73 2 w7 w.heap.size g c9 R := ownN
              clear hN HR2 hfin hran
              go_wp2
              go_ret
              exact ⟨g, c9, ⟨by rw [hNl]; rfl, ownN'⟩, hB7⟩
            · intro x cc w1 cnt1 hwx hwc hlx hat hrg1 hltc hg1 hs1 hen
              have hc : cc = cntI S x := by
                have h1 := hat (.lit (.int .i64 0))
                rw [HAT.out x] at h1
                exact (lit_inj h1).symm
              have hran2 : Hid (RanS (L ++ [(x, cc)]) S (fun z => left z && !z.sameKey (.int .i64 x))) := hran.out.step hlx hc
              obtain ⟨hn1, hn2⟩ := ranges_ne hrg hown
              have own1 : OwnE enc2 73 2 w1 w.heap.size g c9 L := own_other hown hg1 (fun e => hn1 e.symm)
              have hB1 : Below w.heap.size w w1 := hB.grown hg1 hBs (fun k hk => by cases hk; exact hrb)
              have hB1s := hB1.size
              clear hran hlx hat hc HR2 hown hB hg1 hs1
              go_wp2_with (first
                | (at_builtin; refine append_rec rowTFac encHit (by decide) rfl _ _ rfl w.heap.size _ _ L rfl (own1.alloc _) _ _ _ [(x, cc)] rfl rfl (SrcE.lit encHit _ _ #[.int .i64 x, .int .i64 cc] [(x, cc)] rfl 1) (by simp; omega) (by omega) (by simp <;> omega) ?_)
                | go_in)
              intro N hN g6 c6 w7 own7 hg7 hat7 hb7
              obtain rfl : N = L ++ [(x, cc)] := hN.out
              have hrg2 := hrg1.alloc (.cells #[.int .i64 x, .int .i64 cc] 73)
              obtain ⟨hn3, hn4⟩ := ranges_ne hrg2 (own1.alloc (.cells #[.int .i64 x, .int .i64 cc] 73))
              have hrg7 := hrg2.kept hg7 (by simpa using hn4) (by simpa using hn3)
              have hB7 : Below w.heap.size w w7 := (hB1.alloc hB1s _).trans hb7
              have hm1 := hrg7.left_eq
              have hm0 := hrg.left_eq
              clear hN hg7 hat7 hb7 own1 hB1 hrg2 hn3 hn4 hn1 hn2 hen hrg1
              go_wp2
              go_roundw
              case rel => exact ⟨_, cnt1, g6, c6, L ++ [(x, cc)], rfl, hrg7, hran2, own7, hB7⟩
              case measure => rw [hm1, hm0]; exact hltc
end Go.Proofs.Yteomiaffdbbpoaa
