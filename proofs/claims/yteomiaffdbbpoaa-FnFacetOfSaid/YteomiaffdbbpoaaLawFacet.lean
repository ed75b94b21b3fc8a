/-
  The walk of FnFacetOf.
-/
import Derived.Test.YteomiaffdbbpoaaDrawFacet
import Derived.Test.YteomiaffdbbpoaaFacetOf
import Derived.Test.YteomiaffdbbpoaaDocs2
import Derived.Laws.StructEq
namespace Go.Proofs.Yteomiaffdbbpoaa
open Go.RowKit Go.Sort
set_option linter.unusedVariables false

theorem foFacets_same (A A' : Option Addr) (c c' : Nat) (L : List (Int × Int)) (w : World) (h : Rds w 2 A L.length (L.flatMap enc2)) (h' : Rds w 2 A' L.length (L.flatMap enc2)) (hn : L.length ≤ 4194304) :
    Calls Try.prog 47 #[.slice A L.length c, .slice A' L.length c'] w fun e w' => e = .returned (.bool true) ∧ Below w.heap.size w w' := by
  go_enter Try.func47, Try.ntmps47
  go_wp2
  go_loopw [5] (fun i wr => ∃ k : Nat, k ≤ L.length ∧ i = .int .i64 k ∧ ∃ q, wr = w.drewN q) (fun i _ => L.length - (intOf i).toNat)
  case atStart => exact ⟨0, Nat.zero_le _, rfl, 0, rfl⟩
  case round =>
    obtain ⟨k, hk, rfl, q, rfl⟩ := hrel
    by_cases hlt : k < L.length
    · obtain ⟨b, off, rfl, hb, x0, x1⟩ := h.at2 hlt
      obtain ⟨b', off', rfl, hb', x0', x1'⟩ := h'.at2 hlt
      have hi0 : (k : Int) < (L.length : Int) := by omega
      generalize L[k].1 = p at x0 x0'
      generalize L[k].2 = q2 at x1 x1'
      go_wp2_with fail
      go_quiet (fail)
      go_wp2
      go_roundw
      case rel => exact ⟨k + 1, by omega, by go_num, _, (by first | rfl | exact World.drewN_drewN _ _ _)⟩
      case measure => simp [intOf]; omega
    · go_wp2
      go_ret
      exact ⟨rfl, below_of_drewN⟩
theorem cFoIn (A : Option Addr) (c : Nat) (L : List Int) (x : Int) (r : Bool) (hr : inB L x = r) (W : World) (h : RdI W A L) (hn : L.length ≤ 9223372036854775000) (dd : Nat) (os : Array Obj) :
    Calls Try.prog 25 #[.slice A L.length c, .int .i64 x] (grow (redrawn W dd) os) fun e w'' => e = .returned (.bool r) ∧ ∃ p : Regrown, w'' = grow (redrawn W p.d) p.os := by
  subst hr
  exact Calls.regrown_of ((foIn_any A c L x _ (h.below (below_regrown W dd os)) hn).mono (by rintro e w' ⟨h1, rfl⟩; exact ⟨h1, Below.refl _ _⟩))
theorem cDocNum (d : DocD) (A1 A2 : Option Addr) (c1 c2 : Nat) (name : ByteArray) (r : Int) (hr : docNum d name = r) (W : World) (h : HasD W d A1 A2) (hs : SmD d) (dd : Nat) (os : Array Obj) :
    Calls Try.prog 24 #[.agg #[.int .i64 d.id, .slice A1 d.fs.length c1, .slice A2 d.ns.length c2], .string name] (grow (redrawn W dd) os) fun e w'' => e = .returned (.int .i64 r) ∧ ∃ p : Regrown, w'' = grow (redrawn W p.d) p.os := by
  subst hr
  exact Calls.regrown_of (docNum_any d A1 A2 c1 c2 name _ (h.below (below_regrown W dd os)) hs)
/-- how many of the first j documents have number x. -/
def nNum (ids : List Int) (name : ByteArray) (Ds : List DocD) (x : Int) (j : Nat) : Nat := (Ds.take j).countP (fun d => inB ids d.id && decide (docNum d name = x))
theorem nNum_zero (ids : List Int) (name : ByteArray) (Ds : List DocD) (x : Int) : nNum ids name Ds x 0 = 0 := by simp [nNum]
theorem nNum_succ {ids : List Int} {name : ByteArray} {Ds : List DocD} {x : Int} {j : Nat} (hj : j < Ds.length) : nNum ids name Ds x (j + 1) = nNum ids name Ds x j + if (inB ids Ds[j].id && decide (docNum Ds[j] name = x)) = true then 1 else 0 := by
  unfold nNum
  rw [← List.take_append_getElem hj, List.countP_append, List.countP_singleton]
theorem nNum_le {ids : List Int} {name : ByteArray} {Ds : List DocD} {x : Int} {j : Nat} (hj : j ≤ Ds.length) : nNum ids name Ds x j ≤ j := by
  unfold nNum
  have := List.countP_le_length (p := fun d => inB ids d.id && decide (docNum d name = x)) (l := Ds.take j)
  rw [List.length_take] at this
  omega
theorem nNum_all {ids : List Int} {name : ByteArray} {Ds : List DocD} {x : Int} (hx : x ≠ -1) : ((nNum ids name Ds x Ds.length : Nat) : Int) = cntI (selL ids name Ds) x := by
  unfold nNum cntI selL
  rw [List.take_length, List.countP_map, List.countP_filter]
  congr 1
  refine List.countP_congr (fun d _ => ?_)
  simp only [Function.comp, selP, Bool.and_eq_true, decide_eq_true_eq]
  constructor
  · rintro ⟨h1, h2⟩
    exact ⟨h2, by omega, h1⟩
  · rintro ⟨h2, _, h1⟩
    exact ⟨h1, h2⟩
theorem selL_not {ids : List Int} {name : ByteArray} {Ds : List DocD} {x : Int} (h : x ∈ selL ids name Ds) : x ≠ -1 := by
  unfold selL at h
  rw [List.mem_map] at h
  obtain ⟨d, hd, rfl⟩ := h
  rw [List.mem_filter] at hd
  have := hd.2
  unfold selP at this
  rw [Bool.and_eq_true, decide_eq_true_eq] at this
  exact this.1
/-- how many of the first j documents have a number. -/
def nAll (ids : List Int) (name : ByteArray) (Ds : List DocD) (j : Nat) : Nat := (Ds.take j).countP (fun d => inB ids d.id && decide (0 ≤ docNum d name))
theorem nAll_zero (ids : List Int) (name : ByteArray) (Ds : List DocD) : nAll ids name Ds 0 = 0 := by simp [nAll]
theorem nAll_succ {ids : List Int} {name : ByteArray} {Ds : List DocD} {j : Nat} (hj : j < Ds.length) : nAll ids name Ds (j + 1) = nAll ids name Ds j + if (inB ids Ds[j].id && decide (0 ≤ docNum Ds[j] name)) = true then 1 else 0 := by
  unfold nAll
  rw [← List.take_append_getElem hj, List.countP_append, List.countP_singleton]
theorem nAll_le {ids : List Int} {name : ByteArray} {Ds : List DocD} {j : Nat} (hj : j ≤ Ds.length) : nAll ids name Ds j ≤ j := by
  unfold nAll
  have := List.countP_le_length (p := fun d => inB ids d.id && decide (0 ≤ docNum d name)) (l := Ds.take j)
  rw [List.length_take] at this
  omega
theorem nAll_all {ids : List Int} {name : ByteArray} {Ds : List DocD} : nAll ids name Ds Ds.length = (selL ids name Ds).length := by
  unfold nAll selL
  rw [List.take_length, List.length_map, ← List.countP_eq_length_filter]
  refine List.countP_congr (fun d _ => ?_)
  have hr := docNum_range9 (d := d) name
  simp only [selP, Bool.and_eq_true, decide_eq_true_eq]
  constructor
  · rintro ⟨h1, h2⟩; exact ⟨by omega, h1⟩
  · rintro ⟨h1, h2⟩; exact ⟨h2, by omega⟩
def sumF (L : List (Int × Int)) (k : Nat) : Int := ((L.take k).map Prod.snd).sum
theorem sumF_zero (L : List (Int × Int)) : sumF L 0 = 0 := rfl
theorem sumF_succ {L : List (Int × Int)} {k : Nat} (hk : k < L.length) : sumF L (k + 1) = sumF L k + L[k].2 := by
  unfold sumF; rw [← List.take_append_getElem hk, List.map_append, List.sum_append]; simp
theorem key_sum (S : List Int) : ∀ (K : List Int), K.Nodup → (K.map fun x => cntI S x).sum = ((S.countP fun y => K.contains y : Nat) : Int) := by
  intro K hK
  induction S with
  | nil => 
    have : (K.map fun x => cntI [] x) = K.map fun _ => 0 := List.map_congr_left (fun x _ => by simp [cntI])
    rw [this]; simp
    induction K with
    | nil => rfl
    | cons a r ih => simp only [List.map_cons, List.sum_cons]; rw [List.nodup_cons] at hK; simpa using ih hK.2 (by exact List.map_congr_left (fun x _ => by simp [cntI]))
  | cons y S ih =>
    have h1 : ∀ K : List Int, (K.map fun x => cntI (y :: S) x).sum = (K.map fun x => cntI S x).sum + ((K.countP fun x => decide (y = x) : Nat) : Int) := by
      intro K
      induction K with
      | nil => rfl
      | cons a r ih2 =>
        rw [List.map_cons, List.sum_cons, ih2, List.map_cons, List.sum_cons, List.countP_cons]
        have : cntI (y :: S) a = cntI S a + if decide (y = a) = true then 1 else 0 := by
          unfold cntI; rw [List.countP_cons]; split <;> simp
        rw [this]; split <;> simp <;> omega
    have h2 : ∀ K : List Int, K.Nodup → (K.countP fun x => decide (y = x)) = if K.contains y = true then 1 else 0 := by
      intro K hK
      induction K with
      | nil => rfl
      | cons a r ih2 =>
        rw [List.nodup_cons] at hK
        rw [List.countP_cons, ih2 hK.2]
        by_cases e : y = a
        · subst e
          have : r.contains y = false := by rw [← Bool.not_eq_true, List.contains_iff_mem]; exact hK.1
          rw [this]; simp
        · have e2 : (y == a) = false := by simpa using e
          rw [List.contains_cons, e2, decide_eq_false e]; simp
    rw [h1, ih, h2 K hK, List.countP_cons]
    split <;> simp
theorem facet_sum (S : List Int) : sumF (facetL S) (facetL S).length = (S.length : Int) := by
  have hof := facetL_of S
  have hpw := facetL_pw S
  have hnd : ((facetL S).map Prod.fst).Nodup := by
    unfold List.Nodup
    rw [List.pairwise_map]
    refine List.Pairwise.imp_of_mem ?_ hpw
    intro a b ha hb hl e
    have h1 := ((hof a).1 ha).2
    have h2 := ((hof b).1 hb).2
    unfold lessH at hl
    rw [e] at h1
    rw [h1, h2, e] at hl
    simp at hl
  have h3 : (facetL S).map Prod.snd = ((facetL S).map Prod.fst).map fun x => cntI S x := by
    rw [List.map_map]
    exact List.map_congr_left (fun p hp => ((hof p).1 hp).2)
  unfold sumF
  rw [List.take_length, h3, key_sum S _ hnd]
  congr 1
  rw [List.countP_eq_length.2]
  intro y hy
  rw [List.contains_iff_mem, List.mem_map]
  exact ⟨(y, cntI S y), (hof _).2 ⟨hy, rfl⟩, rfl⟩
theorem facet_order {S : List Int} {k : Nat} (hk : k + 1 < (facetL S).length) : (facetL S)[k + 1].2 < (facetL S)[k].2 ∨ ((facetL S)[k].2 = (facetL S)[k + 1].2 ∧ (facetL S)[k].1 < (facetL S)[k + 1].1) := by
  have h := List.pairwise_iff_getElem.1 (facetL_pw S) k (k + 1) (by omega) hk (by omega)
  unfold lessH at h
  rw [Bool.or_eq_true, Bool.and_eq_true, decide_eq_true_eq, decide_eq_true_eq, decide_eq_true_eq] at h
  exact h
set_option maxHeartbeats 3200000 in
set_option maxRecDepth 8000 in
theorem walk_FnFacetOf (a0 : Option Addr) (len cap : Nat) (zs : List Int) (w : World) (hrow : IsRow .u8 w a0 len cap zs) :
    Calls Try.prog 11 #[.slice a0 len cap] w fun e w' => e = .returned (.bool true) ∧ Below w.heap.size w w' := by
  obtain ⟨hc1, hc2, _⟩ := code_of_row hrow
  by_cases hbig : (1048576 : Int) < (len : Int)
  · go_enter Try.func11, Try.ntmps11
    go_wp2
    go_ret
    exact ⟨rfl, Below.refl _ _⟩
  · go_enter Try.func11, Try.ntmps11
    go_wp2_with fail
    refine (drawFacetOf_any a0 len cap zs _ hrow).mono ?_
    rintro e w0 ⟨B, d, Ds, I, di, L, s, ⟨rfl, hl6, hL6, hD, hsm, ownI⟩, hB0⟩
    have hI : RdI w0 (some ⟨I, 0, none⟩) L := Rds.own ownI
    clear hrow ownI
    obtain ⟨R, hR⟩ : ∃ R, R = facetF Ds L s := ⟨_, rfl⟩
    have hRl : R.length ≤ Ds.length := by rw [hR]; exact facetF_len Ds L s
    have ci := fun A Ai c ci w h hi => implFacet_any A Ai c ci Ds L s w h hsm hi (by omega)
    have cs := fun A Ai c ci w h hi => specFacet_any A Ai c ci Ds L s w h hsm hi (by omega)
    rw [← hR] at ci cs
    have CI := Lib.hid ci
    have CS := Lib.hid cs
    have HR := Lib.hid hR
    clear hR ci cs
    go_wp2_with fail
    refine (CI.out _ _ _ _ _ hD hI).mono ?_
    rintro e w1 ⟨b1, d1, ⟨rfl, rX⟩, hb⟩
    have hX : Rds w1 2 (some ⟨b1, 0, none⟩) R.length (R.flatMap enc2) := Rds.own rX
    replace hD := hD.below hb
    replace hI := hI.below hb
    have hB1 := hB0.trans (hb.mono hB0.size)
    clear hb hB0 rX
    go_wp2_with fail
    refine (CS.out _ _ _ _ _ hD hI).mono ?_
    rintro e w2 ⟨b2, d2, ⟨rfl, rS⟩, hb⟩
    replace hD := hD.below hb
    replace hI := hI.below hb
    replace hX := hX.below hb
    have hB2 := hB1.trans (hb.mono hB1.size)
    clear hb hB1
    go_wp2_with fail
    refine (foFacets_same _ _ _ _ R _ hX rS.1 (by omega)).mono ?_
    rintro e w3 ⟨rfl, hb⟩
    replace hD := hD.below hb
    replace hI := hI.below hb
    replace hX := hX.below hb
    have hB3 := hB2.trans (hb.mono hB2.size)
    clear hb hB2 rS
    go_wp2_with fail
    refine (docsOk_any _ _ Ds _ hD hsm).mono ?_
    rintro e w4 ⟨rfl, hb⟩
    replace hD := hD.below hb
    replace hI := hI.below hb
    replace hX := hX.below hb
    have hB4 := hB3.trans (hb.mono hB3.size)
    clear hb hB3
    cases hdk : docsB Ds with
    | false =>
      go_wp2_with fail
      refine (CS.out _ _ _ _ _ hD hI).mono ?_
      rintro e w5 ⟨b5, d5, ⟨rfl, rS⟩, hb⟩
      replace hX := hX.below hb
      have hB5 := hB4.trans (hb.mono hB4.size)
      clear hb hB4
      go_wp2_with fail
      refine (foFacets_same _ _ _ _ R _ hX rS.1 (by omega)).mono ?_
      rintro e w6 ⟨rfl, hb⟩
      have hB6 := hB5.trans (hb.mono hB5.size)
      go_wp2
      go_ret
      exact ⟨rfl, hB6⟩
    | true =>
      go_wp2_with fail
      refine (upOk_any _ _ L _ hI (by omega)).mono ?_
      rintro e w5 ⟨rfl, q, rfl⟩
      have hb : Below w4.heap.size w4 (w4.drewN q) := below_of_drewN
      generalize w4.drewN q = w5 at hb ⊢
      replace hD := hD.below hb
      replace hI := hI.below hb
      replace hX := hX.below hb
      have hB5 := hB4.trans (hb.mono hB4.size)
      clear hb hB4
      cases hul : upB L with
      | false =>
        go_wp2_with fail
        refine (CS.out _ _ _ _ _ hD hI).mono ?_
        rintro e w5 ⟨b5, d5, ⟨rfl, rS⟩, hb⟩
        replace hX := hX.below hb
        have hB6 := hB5.trans (hb.mono hB5.size)
        clear hb hB5
        go_wp2_with fail
        refine (foFacets_same _ _ _ _ R _ hX rS.1 (by omega)).mono ?_
        rintro e w6 ⟨rfl, hb⟩
        have hB7 := hB6.trans (hb.mono hB6.size)
        go_wp2
        go_ret
        exact ⟨rfl, hB7⟩
      | true =>
        have hRb : R = facetL (selL L s Ds) := by rw [HR.out]; unfold facetF; rw [if_pos ⟨hdk, hul⟩]
        have hRat : ∀ k, (hk : k < R.length) → R[k].2 = ((nNum L s Ds R[k].1 Ds.length : Nat) : Int) ∧ 0 < nNum L s Ds R[k].1 Ds.length := fun k hk => by
          have hm := (facetL_of (selL L s Ds) R[k]).1 (by rw [← hRb]; exact List.getElem_mem hk)
          have hn := nNum_all (ids := L) (name := s) (Ds := Ds) (selL_not hm.1)
          refine ⟨by rw [hn]; exact hm.2, ?_⟩
          have hp : 0 < (selL L s Ds).countP (fun y => decide (y = R[k].1)) := List.countP_pos_iff.2 ⟨_, hm.1, by simp⟩
          unfold cntI at hn
          omega
        have hRor : ∀ k, (hk : k + 1 < R.length) → R[k + 1].2 < R[k].2 ∨ (R[k].2 = R[k + 1].2 ∧ R[k].1 < R[k + 1].1) := fun k hk => by
          subst hRb; exact facet_order hk
        have hRsum : sumF R R.length = ((nAll L s Ds Ds.length : Nat) : Int) := by rw [nAll_all, hRb, facet_sum]
        have HRat := Lib.hid hRat
        have HRor := Lib.hid hRor
        have HRsum := Lib.hid hRsum
        have HSM := Lib.hid hsm.2
        clear hRb hRat hRor hRsum HR CI CS hsm
        go_wp2_with fail
        go_loopw [7, 8, 9, 10] (fun sv kv nv iv wr => ∃ k : Nat, k ≤ R.length ∧ kv = .int .i64 (k : Int) ∧ (∃ t : Int, sv = .int .i64 t ∧ Hid (t = sumF R k) ∧ 0 ≤ t ∧ t ≤ 6 * k) ∧ Below w5.heap.size w5 wr) (fun _ kv _ _ _ => R.length - (intOf kv).toNat)
        case atStart => exact ⟨0, Nat.zero_le _, rfl, ⟨0, rfl, rfl, by omega, by omega⟩, Below.refl _ _⟩
        case round =>
          obtain ⟨k, hk, rfl, ⟨t, rfl, ht, ht0, ht6⟩, hbW⟩ := hrel
          by_cases hlt : k < R.length
          · have hk0 : (k : Int) < (R.length : Int) := by omega
            have hsu := sumF_succ hlt
            have hat := HRat.out k hlt
            obtain ⟨hv, hn0⟩ := hat
            obtain ⟨x, hx⟩ : ∃ x, x = R[k].1 := ⟨_, rfl⟩
            obtain ⟨y, hy⟩ : ∃ y, y = R[k].2 := ⟨_, rfl⟩
            rw [← hx, ← hy] at hv
            rw [← hx] at hn0
            rw [← hy] at hsu
            have HX := Lib.hid hx
            have HY := Lib.hid hy
            have HV := Lib.hid hv
            have HSU := Lib.hid hsu
            clear hx hy hv hsu
            go_wp2_with fail
            go_loopw [9, 10] (fun nv iv wr => ∃ j : Nat, j ≤ Ds.length ∧ iv = .int .i64 (j : Int) ∧ (∃ n : Nat, nv = .int .i64 (n : Int) ∧ n ≤ j ∧ Hid (n = nNum L s Ds x j)) ∧ Below w5.heap.size w5 wr) (fun _ iv _ => Ds.length - (intOf iv).toNat)
            case atStart => exact ⟨0, Nat.zero_le _, rfl, ⟨0, rfl, Nat.zero_le _, (nNum_zero L s Ds x).symm⟩, hbW⟩
            case round =>
              obtain ⟨j, hj, rfl, ⟨n, rfl, hnj, hn⟩, hbV⟩ := hrel
              have hXV := hX.below hbV
              obtain ⟨bR, offR, hRe, hbR, r0, r1⟩ := hXV.at2 hlt
              have e1 : (⟨b1, 0, none⟩ : Addr) = ⟨bR, offR, none⟩ := by injection hRe
              injection e1 with e1 e2
              subst e1 e2
              rw [Nat.zero_add] at r0 r1
              rw [← HX.out] at r0
              rw [← HY.out] at r1
              clear hRe
              by_cases hlj : j < Ds.length
              · have hj0 : (j : Int) < (Ds.length : Int) := by omega
                obtain ⟨b, off, A1, c1, A2, c2, hBe, hb, x0, x1, x2, hh⟩ := (hD.below hbV) j hlj
                have e1 : (⟨B, 0, none⟩ : Addr) = ⟨b, off, none⟩ := by injection hBe
                injection e1 with e1 e2
                subst e1 e2
                rw [Nat.zero_add] at x0 x1 x2
                have HNS := Lib.hid (nNum_succ (ids := L) (name := s) (x := x) hlj)
                have hsd := HSM.out Ds[j] (List.getElem_mem _)
                have hIV := hI.below hbV
                clear hBe hXV r1
                generalize Ds[j] = dd at x0 x1 x2 hh hsd HNS
                obtain ⟨idd, fs, ns⟩ := dd
                dsimp only at x0 x1 x2
                have k0 := cell_regrown x0
                have k1 := cell_regrown x1
                have k2 := cell_regrown x2
                have k3 := cell_regrown r0
                clear x0 x1 x2 r0
                cases hin : inB L idd with
                | false =>
                  have hN : Hid (n = nNum L s Ds x (j + 1)) := by show _ = _; rw [HNS.out]; dsimp only; rw [hin, hn.out]; simp
                  clear HNS hn
                  go_wp2_with fail
                  refine region_qw (by kernel_rfl) (by kernel_rfl) ?_
                  repeat (
                    refine qw_step (fun K hK => ?_)
                    go_simp
                    first
                      | (refine hK _ ?_; clear hK K)
                      | (apply Exists.intro
                         refine ⟨fun _ => ?_, hK _ ?_⟩
                         (first | (go_at_call 25; exact cFoIn _ _ _ _ _ hin _ hIV (by omega) _ _))
                         clear hK K))
                  refine qw_nil ?_
                  intro _ hw'
                  obtain ⟨⟨dq, osq⟩, hw''⟩ := hw'
                  subst hw''
                  have hb7 := hbV.trans ((below_regrown wr dq osq).mono hbV.size)
                  go_wp2
                  go_roundw
                  case rel => exact ⟨j + 1, by omega, by go_num, ⟨n, rfl, by omega, hN⟩, hb7⟩
                  case measure => simp [intOf]; omega
                | true =>
                  obtain ⟨m, hm⟩ : ∃ m, docNum ⟨idd, fs, ns⟩ s = m := ⟨_, rfl⟩
                  by_cases hmx : m = x
                  · have hN : Hid (n + 1 = nNum L s Ds x (j + 1)) := by show _ = _; rw [HNS.out]; dsimp only; rw [hin, hm, decide_eq_true hmx, hn.out]; rfl
                    have hq : (m == x) = true := by simpa using hmx
                    have HMX := Lib.hid hmx
                    clear HNS hn hmx
                    go_wp2_with fail
                    refine region_qw (by kernel_rfl) (by kernel_rfl) ?_
                    repeat (
                      refine qw_step (fun K hK => ?_)
                      go_simp
                      first
                        | (refine hK _ ?_; clear hK K)
                        | (apply Exists.intro
                           refine ⟨fun _ => ?_, hK _ ?_⟩
                           (first | (go_at_call 25; exact cFoIn _ _ _ _ _ hin _ hIV (by omega) _ _) | (go_at_call 24; exact cDocNum ⟨idd, fs, ns⟩ _ _ _ _ _ _ hm _ hh hsd _ _))
                           clear hK K))
                    refine qw_nil ?_
                    intro _ hw'
                    obtain ⟨⟨dq, osq⟩, hw''⟩ := hw'
                    subst hw''
                    have hb7 := hbV.trans ((below_regrown wr dq osq).mono hbV.size)
                    go_wp2
                    go_roundw
                    case rel => exact ⟨j + 1, by omega, by go_num, ⟨n + 1, by go_num, by omega, hN⟩, hb7⟩
                    case measure => simp [intOf]; omega
                  · have hN : Hid (n = nNum L s Ds x (j + 1)) := by show _ = _; rw [HNS.out]; dsimp only; rw [hin, hm, decide_eq_false hmx, hn.out]; simp
                    have hq : (m == x) = false := by simpa using hmx
                    clear HNS hn hmx
                    go_wp2_with fail
                    refine region_qw (by kernel_rfl) (by kernel_rfl) ?_
                    repeat (
                      refine qw_step (fun K hK => ?_)
                      go_simp
                      first
                        | (refine hK _ ?_; clear hK K)
                        | (apply Exists.intro
                           refine ⟨fun _ => ?_, hK _ ?_⟩
                           (first | (go_at_call 25; exact cFoIn _ _ _ _ _ hin _ hIV (by omega) _ _) | (go_at_call 24; exact cDocNum ⟨idd, fs, ns⟩ _ _ _ _ _ _ hm _ hh hsd _ _))
                           clear hK K))
                    refine qw_nil ?_
                    intro _ hw'
                    obtain ⟨⟨dq, osq⟩, hw''⟩ := hw'
                    subst hw''
                    have hb7 := hbV.trans ((below_regrown wr dq osq).mono hbV.size)
                    go_wp2
                    go_roundw
                    case rel => exact ⟨j + 1, by omega, by go_num, ⟨n, rfl, by omega, hN⟩, hb7⟩
                    case measure => simp [intOf]; omega
              · obtain rfl : j = Ds.length := by omega
                have hyn : y = (n : Int) := by rw [HV.out, hn.out]
                have hnp : 0 < n := by rw [hn.out]; exact hn0
                subst hyn
                have hq1 : ((n : Int) != (n : Int)) = false := by simp
                have hq2 : ((n : Int) == 0) = false := by rw [beq_eq_false_iff_ne]; omega
                have hT : Hid (t + (n : Int) = sumF R (k + 1)) := by show _ = _; rw [HSU.out, ht.out]
                have j0 := cell_regrown r0
                have j1 := cell_regrown r1
                clear HV hn HSU ht hn0 r0 r1
                rcases Nat.eq_zero_or_pos k with rfl | hkp
                · rw [Nat.zero_mul] at j0 j1
                  clear hXV
                  go_wp2_with fail
                  refine region_qw (by kernel_rfl) (by kernel_rfl) ?_
                  repeat (
                    refine qw_step (fun K hK => ?_)
                    go_simp
                    first
                      | (refine hK _ ?_; clear hK K)
                      | fail)
                  refine qw_nil ?_
                  intro _ hw'
                  obtain ⟨⟨dq, osq⟩, hw''⟩ := hw'
                  subst hw''
                  have hb7 := hbV.trans ((below_regrown wr dq osq).mono hbV.size)
                  go_wp2
                  go_roundw
                  case rel => exact ⟨1, by omega, by go_num, ⟨t + (n : Int), by go_num, hT, by omega, by omega⟩, hb7⟩
                  case measure => simp [intOf]; omega
                · obtain ⟨k, rfl⟩ : ∃ k', k = k' + 1 := ⟨k - 1, by omega⟩
                  have hkr : k < R.length := by omega
                  have hor := HRor.out k hlt
                  rw [← HX.out, ← HY.out] at hor
                  obtain ⟨bR, offR, hRe, hbR2, s0, s1⟩ := hXV.at2 hkr
                  have e1 : (⟨b1, 0, none⟩ : Addr) = ⟨bR, offR, none⟩ := by injection hRe
                  injection e1 with e1 e2
                  subst e1 e2
                  rw [Nat.zero_add] at s0 s1
                  clear hRe hXV HX HY
                  generalize R[k].1 = x2 at s0 hor
                  generalize R[k].2 = y2 at s1 hor
                  have j2 := cell_regrown s0
                  have j3 := cell_regrown s1
                  clear s0 s1
                  have hk2 : (k : Int) < (R.length : Int) := by omega
                  have hk3 : (k : Int) + 1 < (R.length : Int) := by omega
                  have hk4 : ((k : Int) + 1).toNat = k + 1 := by omega
                  have hk5 : 0 ≤ (k : Int) + 1 := by omega
                  have hk6 : IntKind.i64.wrap (k : Int) = (k : Int) := IntWalk.i64_in _ (by omega)
                  clear hk0
                  rcases hor with ho | ⟨ho, ho2⟩
                  · have hq3 : ((n : Int) == y2) = false := by rw [beq_eq_false_iff_ne]; omega
                    have hq4 : ¬ y2 < (n : Int) := by omega
                    clear ho
                    go_wp2_with fail
                    refine region_qw (by kernel_rfl) (by kernel_rfl) ?_
                    repeat (
                      refine qw_step (fun K hK => ?_)
                      go_simp
                      first
                        | (refine hK _ ?_; clear hK K)
                        | fail)
                    refine qw_nil ?_
                    intro _ hw'
                    obtain ⟨⟨dq, osq⟩, hw''⟩ := hw'
                    subst hw''
                    have hb7 := hbV.trans ((below_regrown wr dq osq).mono hbV.size)
                    go_wp2
                    go_roundw
                    case rel => exact ⟨k + 1 + 1, by omega, by go_num, ⟨t + (n : Int), by go_num, hT, by omega, by omega⟩, hb7⟩
                    case measure => simp [intOf]; omega
                  · subst ho
                    have hq3 : ¬ x ≤ x2 := by omega
                    clear ho2
                    go_wp2_with fail
                    refine region_qw (by kernel_rfl) (by kernel_rfl) ?_
                    repeat (
                      refine qw_step (fun K hK => ?_)
                      go_simp
                      first
                        | (refine hK _ ?_; clear hK K)
                        | fail)
                    refine qw_nil ?_
                    intro _ hw'
                    obtain ⟨⟨dq, osq⟩, hw''⟩ := hw'
                    subst hw''
                    have hb7 := hbV.trans ((below_regrown wr dq osq).mono hbV.size)
                    go_wp2
                    go_roundw
                    case rel => exact ⟨k + 1 + 1, by omega, by go_num, ⟨t + (n : Int), by go_num, hT, by omega, by omega⟩, hb7⟩
                    case measure => simp [intOf]; omega
          · obtain rfl : k = R.length := by omega
            have hSU : Hid (t = ((nAll L s Ds Ds.length : Nat) : Int)) := by show _ = _; rw [ht.out, HRsum.out]
            clear ht HRsum HRat HRor
            go_wp2_with fail
            go_loopw [11, 12] (fun nv iv wr => ∃ j : Nat, j ≤ Ds.length ∧ iv = .int .i64 (j : Int) ∧ (∃ n : Nat, nv = .int .i64 (n : Int) ∧ n ≤ j ∧ Hid (n = nAll L s Ds j)) ∧ Below w5.heap.size w5 wr) (fun _ iv _ => Ds.length - (intOf iv).toNat)
            case atStart => exact ⟨0, Nat.zero_le _, rfl, ⟨0, rfl, Nat.zero_le _, (nAll_zero L s Ds).symm⟩, hbW⟩
            case round =>
              obtain ⟨j, hj, rfl, ⟨n, rfl, hnj, hn⟩, hbV⟩ := hrel
              by_cases hlj : j < Ds.length
              · have hj0 : (j : Int) < (Ds.length : Int) := by omega
                obtain ⟨b, off, A1, c1, A2, c2, hBe, hb, x0, x1, x2, hh⟩ := (hD.below hbV) j hlj
                have e1 : (⟨B, 0, none⟩ : Addr) = ⟨b, off, none⟩ := by injection hBe
                injection e1 with e1 e2
                subst e1 e2
                rw [Nat.zero_add] at x0 x1 x2
                have HNS := Lib.hid (nAll_succ (ids := L) (name := s) hlj)
                have hsd := HSM.out Ds[j] (List.getElem_mem _)
                have hIV := hI.below hbV
                clear hBe
                generalize Ds[j] = dd at x0 x1 x2 hh hsd HNS
                obtain ⟨idd, fs, ns⟩ := dd
                dsimp only at x0 x1 x2
                cases hin : inB L idd with
                | false =>
                  have hN : Hid (n = nAll L s Ds (j + 1)) := by show _ = _; rw [HNS.out]; dsimp only; rw [hin, hn.out]; simp
                  clear HNS hn
                  go_wp2_with fail
                  refine (foIn_any _ _ L idd _ hIV (by omega)).mono ?_
                  rintro e w8 ⟨rfl, rfl⟩
                  rw [hin]
                  have hb7 := hbV
                  go_wp2
                  go_roundw
                  case rel => exact ⟨j + 1, by omega, by go_num, ⟨n, rfl, by omega, hN⟩, hb7⟩
                  case measure => simp [intOf]; omega
                | true =>
                  obtain ⟨m, hm⟩ : ∃ m, docNum ⟨idd, fs, ns⟩ s = m := ⟨_, rfl⟩
                  by_cases hmx : 0 ≤ m
                  · have hN : Hid (n + 1 = nAll L s Ds (j + 1)) := by show _ = _; rw [HNS.out]; dsimp only; rw [hin, hm, decide_eq_true hmx, hn.out]; rfl
                    clear HNS hn
                    go_wp2_with fail
                    refine (foIn_any _ _ L idd _ hIV (by omega)).mono ?_
                    rintro e w8 ⟨rfl, rfl⟩
                    rw [hin]
                    go_wp2_with fail
                    refine (docNum_any ⟨idd, fs, ns⟩ A1 A2 c1 c2 s _ hh hsd).mono ?_
                    rintro e w7 ⟨rfl, hb7⟩
                    rw [hm]
                    replace hb7 := hbV.trans (hb7.mono hbV.size)
                    go_wp2
                    go_roundw
                    case rel => exact ⟨j + 1, by omega, by go_num, ⟨n + 1, by go_num, by omega, hN⟩, hb7⟩
                    case measure => simp [intOf]; omega
                  · have hN : Hid (n = nAll L s Ds (j + 1)) := by show _ = _; rw [HNS.out]; dsimp only; rw [hin, hm, decide_eq_false hmx, hn.out]; simp
                    clear HNS hn
                    go_wp2_with fail
                    refine (foIn_any _ _ L idd _ hIV (by omega)).mono ?_
                    rintro e w8 ⟨rfl, rfl⟩
                    rw [hin]
                    go_wp2_with fail
                    refine (docNum_any ⟨idd, fs, ns⟩ A1 A2 c1 c2 s _ hh hsd).mono ?_
                    rintro e w7 ⟨rfl, hb7⟩
                    rw [hm]
                    replace hb7 := hbV.trans (hb7.mono hbV.size)
                    go_wp2
                    go_roundw
                    case rel => exact ⟨j + 1, by omega, by go_num, ⟨n, rfl, by omega, hN⟩, hb7⟩
                    case measure => simp [intOf]; omega
              · obtain rfl : j = Ds.length := by omega
                obtain rfl : t = (n : Int) := by rw [hSU.out, hn.out]
                have hq : ((n : Int) == (n : Int)) = true := by simp
                go_wp2
                go_ret
                exact ⟨ret_bool (by first | rfl | exact hq), hB5.trans (hbV.mono hB5.size)⟩
end Go.Proofs.Yteomiaffdbbpoaa
