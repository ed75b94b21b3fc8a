/-
  The walk of FnFacetParts.
-/
import Derived.Test.YteomiaffdbbpoaaDrawFacet
import Derived.Test.YteomiaffdbbpoaaFacetOf
import Derived.Test.YteomiaffdbbpoaaDocs2
import Derived.Laws.StructEq
namespace Go.Proofs.Yteomiaffdbbpoaa
open Go.RowKit Go.Sort
set_option linter.unusedVariables false

theorem foFacets_same (A A' : Option Addr) (c c' : Nat) (L : List (Int × Int)) (w : World) (h : Rds w 2 A L.length (L.flatMap enc2)) (h' : Rds w 2 A' L.length (L.flatMap enc2)) (hn : L.length ≤ 4194304) :
    Calls Try.prog 47 #[.slice A L.length c, .slice A' L.length c'] w fun e w' => e = .returned (.bool true) ∧ Below w.heap.size w w' := by
  go_enter Try.func47, Try.ntmps47
  go_wp2
  go_loopw [5] (fun i wr => ∃ k : Nat, k ≤ L.length ∧ i = .int .i64 k ∧ ∃ q, wr = w.drewN q) (fun i _ => L.length - (intOf i).toNat)
  case atStart => exact ⟨0, Nat.zero_le _, rfl, 0, rfl⟩
  case round =>
    obtain ⟨k, hk, rfl, q, rfl⟩ := hrel
    by_cases hlt : k < L.length
    · obtain ⟨b, off, rfl, hb, x0, x1⟩ := h.at2 hlt
      obtain ⟨b', off', rfl, hb', x0', x1'⟩ := h'.at2 hlt
      have hi0 : (k : Int) < (L.length : Int) := by omega
      generalize L[k].1 = p at x0 x0'
      generalize L[k].2 = q2 at x1 x1'
      go_wp2_with fail
      go_quiet (fail)
      go_wp2
      go_roundw
      case rel => exact ⟨k + 1, by omega, by go_num, _, (by first | rfl | exact World.drewN_drewN _ _ _)⟩
      case measure => simp [intOf]; omega
    · go_wp2
      go_ret
      exact ⟨rfl, below_of_drewN⟩
/-- what is counted of number x in the first j rows. -/
def sumAt (K : List (Int × Int)) (x : Int) (j : Nat) : Int := (((K.take j).filter fun p => decide (p.1 = x)).map Prod.snd).sum
theorem sumAt_zero (K : List (Int × Int)) (x : Int) : sumAt K x 0 = 0 := rfl
theorem sumAt_succ {K : List (Int × Int)} {x : Int} {j : Nat} (hj : j < K.length) : sumAt K x (j + 1) = sumAt K x j + if K[j].1 = x then K[j].2 else 0 := by
  unfold sumAt
  rw [← List.take_append_getElem hj, List.filter_append, List.map_append, List.sum_append]
  by_cases h : K[j].1 = x <;> simp [h]
theorem sum_keys (S : List Int) (x : Int) : ∀ K : List (Int × Int), (∀ p ∈ K, p.2 = cntI S p.1) → (K.map Prod.fst).Nodup → ((K.filter fun p => decide (p.1 = x)).map Prod.snd).sum = if x ∈ K.map Prod.fst then cntI S x else 0 := by
  intro K
  induction K with
  | nil => intro _ _; rfl
  | cons a r ih =>
    intro h1 h2
    rw [List.map_cons, List.nodup_cons] at h2
    have ih' := ih (fun p hp => h1 p (List.mem_cons_of_mem _ hp)) h2.2
    by_cases e : a.1 = x
    · have hno : x ∉ r.map Prod.fst := by rw [← e]; exact h2.1
      rw [if_neg hno] at ih'
      rw [List.filter_cons, if_pos (by simpa using e), List.map_cons, List.sum_cons, ih', if_pos (by rw [List.map_cons, e]; exact List.mem_cons_self ..), h1 a (List.mem_cons_self ..), e]
      omega
    · rw [List.filter_cons, if_neg (by simpa using e), ih']
      have : (x ∈ (a :: r).map Prod.fst) = (x ∈ r.map Prod.fst) := by
        rw [List.map_cons, List.mem_cons]
        exact propext ⟨fun h => h.resolve_left (fun e2 => e e2.symm), .inr⟩
      simp only [this]
theorem facet_nodup (S : List Int) : ((facetL S).map Prod.fst).Nodup := by
  have hof := facetL_of S
  unfold List.Nodup
  rw [List.pairwise_map]
  refine List.Pairwise.imp_of_mem ?_ (facetL_pw S)
  intro a b ha hb hl e
  have h1 := ((hof a).1 ha).2
  have h2 := ((hof b).1 hb).2
  unfold lessH at hl
  rw [e] at h1
  rw [h1, h2, e] at hl
  simp at hl
theorem sumAt_all (S : List Int) (x : Int) : sumAt (facetL S) x (facetL S).length = cntI S x := by
  have hof := facetL_of S
  unfold sumAt
  rw [List.take_length, sum_keys S x _ (fun p hp => ((hof p).1 hp).2) (facet_nodup S)]
  split
  · rfl
  · rename_i h
    unfold cntI
    rw [List.countP_eq_zero.2]
    · rfl
    · intro y hy e
      rw [decide_eq_true_eq] at e
      subst e
      exact h (List.mem_map.2 ⟨(y, cntI S y), (hof _).2 ⟨hy, rfl⟩, rfl⟩)
theorem nodup_le : ∀ (A B : List Int), A.Nodup → (∀ x ∈ A, x ∈ B) → A.length ≤ B.length
  | [], _, _, _ => Nat.zero_le _
  | a :: r, B, h, hs => by
    rw [List.nodup_cons] at h
    have h1 := nodup_le r (B.erase a) h.2 (fun x hx => (List.mem_erase_of_ne (fun (e : x = a) => h.1 (by rw [← e]; exact hx))).2 (hs x (List.mem_cons_of_mem _ hx)))
    have hm := hs a (List.mem_cons_self ..)
    rw [List.length_erase_of_mem hm] at h1
    have := List.length_pos_of_mem hm
    rw [List.length_cons]; omega
theorem facet_le {S T : List Int} (h : ∀ x ∈ S, x ∈ T) : (facetL S).length ≤ (facetL T).length := by
  have := nodup_le ((facetL S).map Prod.fst) ((facetL T).map Prod.fst) (facet_nodup S) (fun x hx => by
    obtain ⟨p, hp, rfl⟩ := List.mem_map.1 hx
    have := ((facetL_of S p).1 hp).1
    exact List.mem_map.2 ⟨(p.1, cntI T p.1), (facetL_of T _).2 ⟨h _ this, rfl⟩, rfl⟩)
  simpa using this
theorem upB_part {L : List Int} (h : upB L = true) (k : Nat) : upB (L.take k) = true ∧ upB (L.drop k) = true ∧ ∀ x, x ∈ L.take k → x ∈ L.drop k → False := by
  obtain ⟨h1, h2, h3⟩ := upB_iff.1 h
  refine ⟨upB_iff.2 ⟨fun x hx => h1 x (List.mem_of_mem_take hx), h2.sublist (List.take_sublist _ _), by rw [List.length_take]; omega⟩, upB_iff.2 ⟨fun x hx => h1 x (List.mem_of_mem_drop hx), h2.sublist (List.drop_sublist _ _), by rw [List.length_drop]; omega⟩, fun x hx hy => ?_⟩
  rw [← List.take_append_drop k L, List.pairwise_append] at h2
  have := h2.2.2 x hx x hy
  omega
theorem countP_two (p p1 p2 : DocD → Bool) (h1 : ∀ d, p d = (p1 d || p2 d)) (h2 : ∀ d, ¬ (p1 d = true ∧ p2 d = true)) (l : List DocD) : l.countP p = l.countP p1 + l.countP p2 := by
  induction l with
  | nil => rfl
  | cons d r ih =>
    rw [List.countP_cons, List.countP_cons, List.countP_cons, ih, h1]
    have := h2 d
    revert this
    cases p1 d <;> cases p2 d <;> simp <;> omega
theorem sel_sum {L : List Int} (h : upB L = true) (k : Nat) (s : ByteArray) (Ds : List DocD) (x : Int) : cntI (selL L s Ds) x = cntI (selL (L.take k) s Ds) x + cntI (selL (L.drop k) s Ds) x := by
  obtain ⟨_, _, hno⟩ := upB_part h k
  have hin : ∀ y, inB L y = (inB (L.take k) y || inB (L.drop k) y) := fun y => by
    unfold inB
    conv => lhs; rw [← List.take_append_drop k L]
    rw [List.contains_eq_any_beq, List.any_append, ← List.contains_eq_any_beq, ← List.contains_eq_any_beq]
  unfold cntI selL
  rw [List.countP_map, List.countP_map, List.countP_map, List.countP_filter, List.countP_filter, List.countP_filter, ← Int.natCast_add]
  congr 1
  refine countP_two _ _ _ (fun d => ?_) (fun d h => ?_) Ds
  · simp only [Function.comp, selP, hin]
    cases decide (docNum d s = x) <;> cases decide (docNum d s ≠ -1) <;> cases inB (L.take k) d.id <;> cases inB (L.drop k) d.id <;> rfl
  · simp only [Function.comp, selP, Bool.and_eq_true] at h
    exact hno _ (inB_mem.1 h.1.2.2) (inB_mem.1 h.2.2.2)
theorem sel_sub {L : List Int} (k : Nat) (s : ByteArray) (Ds : List DocD) : (∀ x ∈ selL (L.take k) s Ds, x ∈ selL L s Ds) ∧ ∀ x ∈ selL (L.drop k) s Ds, x ∈ selL L s Ds := by
  constructor
  all_goals
    intro x hx
    unfold selL at hx ⊢
    obtain ⟨d, hd, rfl⟩ := List.mem_map.1 hx
    rw [List.mem_filter] at hd
    refine List.mem_map.2 ⟨d, List.mem_filter.2 ⟨hd.1, ?_⟩, rfl⟩
    have h2 := hd.2
    unfold selP at h2 ⊢
    rw [Bool.and_eq_true] at h2 ⊢
    refine ⟨h2.1, inB_mem.2 ?_⟩
    have := inB_mem.1 h2.2
    first | exact List.mem_of_mem_take this | exact List.mem_of_mem_drop this
theorem cnt_le (S : List Int) (x : Int) : 0 ≤ cntI S x ∧ cntI S x ≤ S.length := by
  unfold cntI
  have := List.countP_le_length (p := fun y => decide (y = x)) (l := S)
  omega
set_option maxHeartbeats 3200000 in
set_option maxRecDepth 8000 in
theorem walk_FnFacetParts (a0 : Option Addr) (len cap : Nat) (zs : List Int) (a1 : Option Addr) (len1 cap1 : Nat) (zs1 : List Int) (w : World) (hrow : IsRow .u8 w a0 len cap zs) (hrow1 : IsRow .u8 w a1 len1 cap1 zs1) :
    Calls Try.prog 10 #[.slice a0 len cap, .slice a1 len1 cap1] w fun e w' => e = .returned (.bool true) ∧ Below w.heap.size w w' := by
  obtain ⟨hc1, hc2, _⟩ := code_of_row hrow
  obtain ⟨hc3, hc4, _⟩ := code_of_row hrow1
  clear hrow1
  by_cases hbig : (1048576 : Int) < (len : Int)
  · go_enter Try.func10, Try.ntmps10
    go_wp2
    go_ret
    exact ⟨rfl, Below.refl _ _⟩
  by_cases hbig2 : (1048576 : Int) < (len1 : Int)
  · go_enter Try.func10, Try.ntmps10
    go_wp2
    go_ret
    exact ⟨rfl, Below.refl _ _⟩
  · go_enter Try.func10, Try.ntmps10
    go_wp2_with fail
    refine (drawFacetOf_any a0 len cap zs _ hrow).mono ?_
    rintro e w0 ⟨B, d, Ds, I, di, L, s, ⟨rfl, hl6, hL6, hD, hsm, ownI⟩, hB0⟩
    have hI : RdI w0 (some ⟨I, 0, none⟩) L := Rds.own ownI
    obtain ⟨hLd, hdm, _, _⟩ := own_cap ownI
    clear hrow ownI
    obtain ⟨R, hR⟩ : ∃ R, R = facetF Ds L s := ⟨_, rfl⟩
    have hRl : R.length ≤ Ds.length := by rw [hR]; exact facetF_len Ds L s
    have CA := Lib.hid (fun A Ai c ci M w h hi (hM : M.length ≤ 4194304) => implFacet_any A Ai c ci Ds M s w h hsm hi hM)
    have ci := fun A Ai c ci w h hi => implFacet_any A Ai c ci Ds L s w h hsm hi (by omega)
    have cs := fun A Ai c ci w h hi => specFacet_any A Ai c ci Ds L s w h hsm hi (by omega)
    rw [← hR] at ci cs
    have CI := Lib.hid ci
    have CS := Lib.hid cs
    have HR := Lib.hid hR
    clear hR ci cs
    go_wp2_with fail
    refine (CI.out _ _ _ _ _ hD hI).mono ?_
    rintro e w1 ⟨b1, d1, ⟨rfl, rX⟩, hb⟩
    have hX : Rds w1 2 (some ⟨b1, 0, none⟩) R.length (R.flatMap enc2) := Rds.own rX
    replace hD := hD.below hb
    replace hI := hI.below hb
    have hB1 := hB0.trans (hb.mono hB0.size)
    clear hb hB0 rX
    go_wp2_with fail
    refine (CS.out _ _ _ _ _ hD hI).mono ?_
    rintro e w2 ⟨b2, d2, ⟨rfl, rS⟩, hb⟩
    replace hD := hD.below hb
    replace hI := hI.below hb
    replace hX := hX.below hb
    have hB2 := hB1.trans (hb.mono hB1.size)
    clear hb hB1
    go_wp2_with fail
    refine (foFacets_same _ _ _ _ R _ hX rS.1 (by omega)).mono ?_
    rintro e w3 ⟨rfl, hb⟩
    replace hD := hD.below hb
    replace hI := hI.below hb
    replace hX := hX.below hb
    have hB3 := hB2.trans (hb.mono hB2.size)
    clear hb hB2 rS
    go_wp2_with fail
    refine (docsOk_any _ _ Ds _ hD hsm).mono ?_
    rintro e w4 ⟨rfl, hb⟩
    replace hD := hD.below hb
    replace hI := hI.below hb
    replace hX := hX.below hb
    have hB4 := hB3.trans (hb.mono hB3.size)
    clear hb hB3
    cases hdk : docsB Ds with
    | false =>
      go_wp2_with fail
      refine (CS.out _ _ _ _ _ hD hI).mono ?_
      rintro e w5 ⟨b5, d5, ⟨rfl, rS⟩, hb⟩
      replace hX := hX.below hb
      have hB5 := hB4.trans (hb.mono hB4.size)
      clear hb hB4
      go_wp2_with fail
      refine (foFacets_same _ _ _ _ R _ hX rS.1 (by omega)).mono ?_
      rintro e w6 ⟨rfl, hb⟩
      have hB6 := hB5.trans (hb.mono hB5.size)
      go_wp2
      go_ret
      exact ⟨rfl, hB6⟩
    | true =>
      go_wp2_with fail
      refine (upOk_any _ _ L _ hI (by omega)).mono ?_
      rintro e w5 ⟨rfl, q, rfl⟩
      have hb : Below w4.heap.size w4 (w4.drewN q) := below_of_drewN
      generalize w4.drewN q = w5 at hb ⊢
      replace hD := hD.below hb
      replace hI := hI.below hb
      replace hX := hX.below hb
      have hB5 := hB4.trans (hb.mono hB4.size)
      clear hb hB4
      cases hul : upB L with
      | false =>
        go_wp2_with fail
        refine (CS.out _ _ _ _ _ hD hI).mono ?_
        rintro e w5 ⟨b5, d5, ⟨rfl, rS⟩, hb⟩
        replace hX := hX.below hb
        have hB6 := hB5.trans (hb.mono hB5.size)
        clear hb hB5
        go_wp2_with fail
        refine (foFacets_same _ _ _ _ R _ hX rS.1 (by omega)).mono ?_
        rintro e w6 ⟨rfl, hb⟩
        have hB7 := hB6.trans (hb.mono hB6.size)
        go_wp2
        go_ret
        exact ⟨rfl, hB7⟩
      | true =>
        have hRb : R = facetL (selL L s Ds) := by rw [HR.out]; unfold facetF; rw [if_pos ⟨hdk, hul⟩]
        obtain ⟨k, hk⟩ : ∃ k, k = len1 % (L.length + 1) := ⟨_, rfl⟩
        have hkl : k ≤ L.length := by have := Nat.mod_lt len1 (show 0 < L.length + 1 by omega); omega
        have hrem : (len1 : Int) % ((L.length : Int) + 1) = (k : Int) := by rw [hk]; simp
        obtain ⟨hu1, hu2, _⟩ := upB_part hul k
        obtain ⟨X1, hX1⟩ : ∃ X, X = facetF Ds (L.take k) s := ⟨_, rfl⟩
        obtain ⟨X2, hX2⟩ : ∃ X, X = facetF Ds (L.drop k) s := ⟨_, rfl⟩
        have hb1 : X1 = facetL (selL (L.take k) s Ds) := by rw [hX1]; unfold facetF; rw [if_pos ⟨hdk, hu1⟩]
        have hb2 : X2 = facetL (selL (L.drop k) s Ds) := by rw [hX2]; unfold facetF; rw [if_pos ⟨hdk, hu2⟩]
        have hRat : ∀ i, (hi : i < R.length) → R[i].2 = sumAt X1 R[i].1 X1.length + sumAt X2 R[i].1 X2.length := fun i hi => by
          have hm := (facetL_of (selL L s Ds) R[i]).1 (by rw [← hRb]; exact List.getElem_mem hi)
          rw [hm.2, sel_sum hul k, hb1, hb2, sumAt_all, sumAt_all]
        have hle1 : X1.length ≤ R.length := by rw [hb1, hRb]; exact facet_le (sel_sub k s Ds).1
        have hle2 : X2.length ≤ R.length := by rw [hb2, hRb]; exact facet_le (sel_sub k s Ds).2
        have hv1 : ∀ i, (hi : i < X1.length) → 0 ≤ X1[i].2 ∧ X1[i].2 ≤ 6 := fun i hi => by
          have hm := (facetL_of _ X1[i]).1 (by rw [← hb1]; exact List.getElem_mem hi)
          have := cnt_le (selL (L.take k) s Ds) X1[i].1
          have := selL_len (L.take k) s Ds
          omega
        have hv2 : ∀ i, (hi : i < X2.length) → 0 ≤ X2[i].2 ∧ X2[i].2 ≤ 6 := fun i hi => by
          have hm := (facetL_of _ X2[i]).1 (by rw [← hb2]; exact List.getElem_mem hi)
          have := cnt_le (selL (L.drop k) s Ds) X2[i].1
          have := selL_len (L.drop k) s Ds
          omega
        have c1 := fun A Ai c ci w h hi => CA.out A Ai c ci (L.take k) w h hi (by rw [List.length_take]; omega)
        have c2 := fun A Ai c ci w h hi => CA.out A Ai c ci (L.drop k) w h hi (by rw [List.length_drop]; omega)
        rw [← hX1, List.length_take, Nat.min_eq_left hkl] at c1
        rw [← hX2, List.length_drop] at c2
        have C1 := Lib.hid c1
        have C2 := Lib.hid c2
        have HRat := Lib.hid hRat
        have HV1 := Lib.hid hv1
        have HV2 := Lib.hid hv2
        clear hRb hk hX1 hX2 hb1 hb2 hRat hv1 hv2 c1 c2 HR CI CS CA hu1 hu2 hsm hdk hul
        have hki : (k : Int) ≤ (L.length : Int) := by omega
        have hkd : k ≤ di := by omega
        have hkdi : (k : Int) ≤ (di : Int) := by omega
        have hk0 : 0 ≤ (k : Int) := by omega
        have hz1 : ¬ ((L.length : Int) + 1 = 0) := by omega
        go_wp2_with fail
        refine (C1.out _ _ _ _ _ hD (Src.take (c' := di) (⟨hI, .inr ⟨_, rfl⟩⟩ : Src _ _ di L) hkl).1).mono ?_
        rintro e w6 ⟨g6, d6, ⟨rfl, rX1⟩, hb⟩
        have hY1 : Rds w6 2 (some ⟨g6, 0, none⟩) X1.length (X1.flatMap enc2) := Rds.own rX1
        replace hD := hD.below hb
        replace hI := hI.below hb
        replace hX := hX.below hb
        have hB6 := hB5.trans (hb.mono hB5.size)
        clear hb hB5 rX1 C1
        have hcall : ∀ ad c, (k < L.length → ad = ⟨I, k, none⟩) → Calls Try.prog 46 #[.slice (some ⟨B, 0, none⟩) Ds.length d, .slice (some ad) (L.length - k) c, .string s] w6 (MakesF X2 w6) := by
          intro ad c had
          refine C2.out _ _ _ _ _ hD ?_
          by_cases h : k < L.length
          · rw [had h]
            exact (Src.drop (c' := di) (k := k) (⟨hI, .inr ⟨_, rfl⟩⟩ : Src _ _ di L)).1
          · rw [List.drop_of_length_le (by omega)]
            exact (Src.empty _ _ di).1
        have HC := Lib.hid hcall
        clear hcall C2
        by_cases hcd : k = di
        · have hkL : k = L.length := by omega
          have hlk : L.length - k = 0 := by omega
          have hcall := HC.out ⟨I, 0, none⟩ 0 (fun h => by omega)
          rw [hlk] at hcall
          have HC2 := Lib.hid hcall
          have hdk0 : di - k = 0 := by omega
          have hcd2 : ¬ (k < di) := by omega
          clear hcall HC hkL hcd
          go_wp2_with fail
          refine HC2.out.mono ?_
          rintro e w7 ⟨g7, d7, ⟨rfl, rX2⟩, hb⟩
          have hY2 : Rds w7 2 (some ⟨g7, 0, none⟩) X2.length (X2.flatMap enc2) := Rds.own rX2
          replace hX := hX.below hb
          replace hY1 := hY1.below hb
          have hB7 := hB6.trans (hb.mono hB6.size)
          clear hb hB6 rX2 HC2 hI hD
          go_wp2_with fail
          go_loopw [12, 13, 14, 15] (fun iv nv mv m2v wr => ∃ i : Nat, i ≤ R.length ∧ iv = .int .i64 (i : Int) ∧ Below w7.heap.size w7 wr) (fun iv _ _ _ _ => R.length - (intOf iv).toNat)
          case atStart => exact ⟨0, Nat.zero_le _, rfl, Below.refl _ _⟩
          case round =>
            obtain ⟨i, hi, rfl, hbW⟩ := hrel
            by_cases hlt : i < R.length
            · have hi0 : (i : Int) < (R.length : Int) := by omega
              have hat := HRat.out i hlt
              obtain ⟨x, hx⟩ : ∃ x, x = R[i].1 := ⟨_, rfl⟩
              obtain ⟨y, hy⟩ : ∃ y, y = R[i].2 := ⟨_, rfl⟩
              rw [← hx, ← hy] at hat
              have HX := Lib.hid hx
              have HY := Lib.hid hy
              have HAT := Lib.hid hat
              clear hx hy hat
              go_wp2_with fail
              go_loopw [13, 14] (fun nv mv wr => ∃ j : Nat, j ≤ X1.length ∧ mv = .int .i64 (j : Int) ∧ (∃ t : Int, nv = .int .i64 t ∧ Hid (t = sumAt X1 x j) ∧ 0 ≤ t ∧ t ≤ 6 * j) ∧ Below w7.heap.size w7 wr) (fun _ mv _ => X1.length - (intOf mv).toNat)
              case atStart => exact ⟨0, Nat.zero_le _, rfl, ⟨0, rfl, rfl, by omega, by omega⟩, hbW⟩
              case round =>
                obtain ⟨j, hj, rfl, ⟨t, rfl, ht, ht0, ht6⟩, hbV⟩ := hrel
                by_cases hlj : j < X1.length
                · have hj0 : (j : Int) < (X1.length : Int) := by omega
                  have hsu := sumAt_succ (x := x) hlj
                  have hvv := HV1.out j hlj
                  have hXV := hX.below hbV
                  have hYV := hY1.below hbV
                  obtain ⟨bR, offR, hRe, hbR, r0, r1⟩ := hXV.at2 hlt
                  have e1 : (⟨b1, 0, none⟩ : Addr) = ⟨bR, offR, none⟩ := by injection hRe
                  injection e1 with e1 e2
                  subst e1 e2
                  obtain ⟨bS, offS, hSe, hbS, s0, s1⟩ := hYV.at2 hlj
                  have e1 : (⟨g6, 0, none⟩ : Addr) = ⟨bS, offS, none⟩ := by injection hSe
                  injection e1 with e1 e2
                  subst e1 e2
                  rw [Nat.zero_add] at r0 r1 s0 s1
                  rw [← HX.out] at r0
                  clear hRe hSe hXV hYV r1
                  generalize X1[j].1 = p at s0 hsu
                  generalize X1[j].2 = v at s1 hsu hvv
                  have HSU := Lib.hid hsu
                  clear hsu
                  have k0 := cell_regrown r0
                  have k1 := cell_regrown s0
                  have k2 := cell_regrown s1
                  clear r0 s0 s1
                  by_cases hpx : p = x
                  · have hN : Hid (t + v = sumAt X1 x (j + 1)) := by show _ = _; rw [HSU.out, if_pos hpx, ht.out] <;> omega
                    have hq : (p == x) = true := by simpa using hpx
                    have hvb := hvv
                    clear HSU ht hpx
                    go_wp2_with fail
                    refine region_qw (by kernel_rfl) (by kernel_rfl) ?_
                    repeat (
                      refine qw_step (fun K hK => ?_)
                      go_simp
                      first
                        | (refine hK _ ?_; clear hK K)
                        | fail)
                    refine qw_nil ?_
                    intro _ hw'
                    obtain ⟨⟨dq, osq⟩, hw''⟩ := hw'
                    subst hw''
                    have hb7 := hbV.trans ((below_regrown wr dq osq).mono hbV.size)
                    go_wp2
                    go_roundw
                    case rel => exact ⟨j + 1, by omega, by go_num, ⟨t + v, by go_num, hN, by omega, by omega⟩, hb7⟩
                    case measure => simp [intOf]; omega
                  · have hN : Hid (t = sumAt X1 x (j + 1)) := by show _ = _; rw [HSU.out, if_neg hpx, ht.out] <;> omega
                    have hq : (p == x) = false := by simpa using hpx
                    have hvb := hvv
                    clear HSU ht hpx
                    go_wp2_with fail
                    refine region_qw (by kernel_rfl) (by kernel_rfl) ?_
                    repeat (
                      refine qw_step (fun K hK => ?_)
                      go_simp
                      first
                        | (refine hK _ ?_; clear hK K)
                        | fail)
                    refine qw_nil ?_
                    intro _ hw'
                    obtain ⟨⟨dq, osq⟩, hw''⟩ := hw'
                    subst hw''
                    have hb7 := hbV.trans ((below_regrown wr dq osq).mono hbV.size)
                    go_wp2
                    go_roundw
                    case rel => exact ⟨j + 1, by omega, by go_num, ⟨t, by go_num, hN, by omega, by omega⟩, hb7⟩
                    case measure => simp [intOf]; omega
                · obtain rfl : j = X1.length := by omega
                  have HAT2 : Hid (y = t + sumAt X2 x X2.length) := by show _ = _; rw [HAT.out, ht.out]
                  clear HAT ht
                  have hx1 : X1.length ≤ 6 := by omega
                  go_wp2_with fail
                  go_loopw [13, 15] (fun nv mv wr => ∃ j : Nat, j ≤ X2.length ∧ mv = .int .i64 (j : Int) ∧ (∃ u : Int, nv = .int .i64 u ∧ Hid (u = t + sumAt X2 x j) ∧ 0 ≤ u ∧ u ≤ 36 + 6 * j) ∧ Below w7.heap.size w7 wr) (fun _ mv _ => X2.length - (intOf mv).toNat)
                  case atStart => exact ⟨0, Nat.zero_le _, rfl, ⟨t, rfl, by show _ = _; simp [sumAt_zero], by omega, by omega⟩, hbV⟩
                  case round =>
                    obtain ⟨j, hj, rfl, ⟨u, rfl, hu, hu0, hu6⟩, hbV2⟩ := hrel
                    by_cases hlj : j < X2.length
                    · have hj0 : (j : Int) < (X2.length : Int) := by omega
                      have hsu := sumAt_succ (x := x) hlj
                      have hvv := HV2.out j hlj
                      have hXV := hX.below hbV2
                      have hYV := hY2.below hbV2
                      obtain ⟨bR, offR, hRe, hbR, r0, r1⟩ := hXV.at2 hlt
                      have e1 : (⟨b1, 0, none⟩ : Addr) = ⟨bR, offR, none⟩ := by injection hRe
                      injection e1 with e1 e2
                      subst e1 e2
                      obtain ⟨bS, offS, hSe, hbS, s0, s1⟩ := hYV.at2 hlj
                      have e1 : (⟨g7, 0, none⟩ : Addr) = ⟨bS, offS, none⟩ := by injection hSe
                      injection e1 with e1 e2
                      subst e1 e2
                      rw [Nat.zero_add] at r0 r1 s0 s1
                      rw [← HX.out] at r0
                      clear hRe hSe hXV hYV r1
                      generalize X2[j].1 = p at s0 hsu
                      generalize X2[j].2 = v at s1 hsu hvv
                      have HSU := Lib.hid hsu
                      clear hsu
                      have k0 := cell_regrown r0
                      have k1 := cell_regrown s0
                      have k2 := cell_regrown s1
                      clear r0 s0 s1
                      by_cases hpx : p = x
                      · have hN : Hid (u + v = t + sumAt X2 x (j + 1)) := by show _ = _; rw [HSU.out, if_pos hpx, hu.out] <;> omega
                        have hq : (p == x) = true := by simpa using hpx
                        have hvb := hvv
                        clear HSU hu hpx
                        go_wp2_with fail
                        refine region_qw (by kernel_rfl) (by kernel_rfl) ?_
                        repeat (
                          refine qw_step (fun K hK => ?_)
                          go_simp
                          first
                            | (refine hK _ ?_; clear hK K)
                            | fail)
                        refine qw_nil ?_
                        intro _ hw'
                        obtain ⟨⟨dq, osq⟩, hw''⟩ := hw'
                        subst hw''
                        have hb7 := hbV2.trans ((below_regrown wr dq osq).mono hbV2.size)
                        go_wp2
                        go_roundw
                        case rel => exact ⟨j + 1, by omega, by go_num, ⟨u + v, by go_num, hN, by omega, by omega⟩, hb7⟩
                        case measure => simp [intOf]; omega
                      · have hN : Hid (u = t + sumAt X2 x (j + 1)) := by show _ = _; rw [HSU.out, if_neg hpx, hu.out] <;> omega
                        have hq : (p == x) = false := by simpa using hpx
                        have hvb := hvv
                        clear HSU hu hpx
                        go_wp2_with fail
                        refine region_qw (by kernel_rfl) (by kernel_rfl) ?_
                        repeat (
                          refine qw_step (fun K hK => ?_)
                          go_simp
                          first
                            | (refine hK _ ?_; clear hK K)
                            | fail)
                        refine qw_nil ?_
                        intro _ hw'
                        obtain ⟨⟨dq, osq⟩, hw''⟩ := hw'
                        subst hw''
                        have hb7 := hbV2.trans ((below_regrown wr dq osq).mono hbV2.size)
                        go_wp2
                        go_roundw
                        case rel => exact ⟨j + 1, by omega, by go_num, ⟨u, by go_num, hN, by omega, by omega⟩, hb7⟩
                        case measure => simp [intOf]; omega
                    · obtain rfl : j = X2.length := by omega
                      obtain rfl : y = u := by rw [HAT2.out, hu.out]
                      have hXV := hX.below hbV2
                      obtain ⟨bR, offR, hRe, hbR, r0, r1⟩ := hXV.at2 hlt
                      have e1 : (⟨b1, 0, none⟩ : Addr) = ⟨bR, offR, none⟩ := by injection hRe
                      injection e1 with e1 e2
                      subst e1 e2
                      rw [Nat.zero_add] at r0 r1
                      rw [← HY.out] at r1
                      have hq : ((y : Int) != y) = false := by simp
                      clear hRe r0 hXV HX HY HAT2 hu
                      go_wp2
                      go_roundw
                      case rel => exact ⟨i + 1, by omega, by go_num, hbV2⟩
                      case measure => simp [intOf]; omega
            · have hg1 : (X1.length : Int) ≤ (R.length : Int) := by omega
              have hg2 : (X2.length : Int) ≤ (R.length : Int) := by omega
              go_wp2
              go_ret
              exact ⟨ret_bool (by first | rfl | simp [hg1, hg2]), hB7.trans (hbW.mono hB7.size)⟩
        · have hcall := HC.out ⟨I, k, none⟩ (di - k) (fun _ => rfl)
          have HC2 := Lib.hid hcall
          have hcd2 : k < di := by omega
          have hcd3 : ¬ (di - k = 0) := by omega
          clear hcall HC hcd
          go_wp2_with fail
          refine HC2.out.mono ?_
          rintro e w7 ⟨g7, d7, ⟨rfl, rX2⟩, hb⟩
          have hY2 : Rds w7 2 (some ⟨g7, 0, none⟩) X2.length (X2.flatMap enc2) := Rds.own rX2
          replace hX := hX.below hb
          replace hY1 := hY1.below hb
          have hB7 := hB6.trans (hb.mono hB6.size)
          clear hb hB6 rX2 HC2 hI hD
          go_wp2_with fail
          go_loopw [12, 13, 14, 15] (fun iv nv mv m2v wr => ∃ i : Nat, i ≤ R.length ∧ iv = .int .i64 (i : Int) ∧ Below w7.heap.size w7 wr) (fun iv _ _ _ _ => R.length - (intOf iv).toNat)
          case atStart => exact ⟨0, Nat.zero_le _, rfl, Below.refl _ _⟩
          case round =>
            obtain ⟨i, hi, rfl, hbW⟩ := hrel
            by_cases hlt : i < R.length
            · have hi0 : (i : Int) < (R.length : Int) := by omega
              have hat := HRat.out i hlt
              obtain ⟨x, hx⟩ : ∃ x, x = R[i].1 := ⟨_, rfl⟩
              obtain ⟨y, hy⟩ : ∃ y, y = R[i].2 := ⟨_, rfl⟩
              rw [← hx, ← hy] at hat
              have HX := Lib.hid hx
              have HY := Lib.hid hy
              have HAT := Lib.hid hat
              clear hx hy hat
              go_wp2_with fail
              go_loopw [13, 14] (fun nv mv wr => ∃ j : Nat, j ≤ X1.length ∧ mv = .int .i64 (j : Int) ∧ (∃ t : Int, nv = .int .i64 t ∧ Hid (t = sumAt X1 x j) ∧ 0 ≤ t ∧ t ≤ 6 * j) ∧ Below w7.heap.size w7 wr) (fun _ mv _ => X1.length - (intOf mv).toNat)
              case atStart => exact ⟨0, Nat.zero_le _, rfl, ⟨0, rfl, rfl, by omega, by omega⟩, hbW⟩
              case round =>
                obtain ⟨j, hj, rfl, ⟨t, rfl, ht, ht0, ht6⟩, hbV⟩ := hrel
                by_cases hlj : j < X1.length
                · have hj0 : (j : Int) < (X1.length : Int) := by omega
                  have hsu := sumAt_succ (x := x) hlj
                  have hvv := HV1.out j hlj
                  have hXV := hX.below hbV
                  have hYV := hY1.below hbV
                  obtain ⟨bR, offR, hRe, hbR, r0, r1⟩ := hXV.at2 hlt
                  have e1 : (⟨b1, 0, none⟩ : Addr) = ⟨bR, offR, none⟩ := by injection hRe
                  injection e1 with e1 e2
                  subst e1 e2
                  obtain ⟨bS, offS, hSe, hbS, s0, s1⟩ := hYV.at2 hlj
                  have e1 : (⟨g6, 0, none⟩ : Addr) = ⟨bS, offS, none⟩ := by injection hSe
                  injection e1 with e1 e2
                  subst e1 e2
                  rw [Nat.zero_add] at r0 r1 s0 s1
                  rw [← HX.out] at r0
                  clear hRe hSe hXV hYV r1
                  generalize X1[j].1 = p at s0 hsu
                  generalize X1[j].2 = v at s1 hsu hvv
                  have HSU := Lib.hid hsu
                  clear hsu
                  have k0 := cell_regrown r0
                  have k1 := cell_regrown s0
                  have k2 := cell_regrown s1
                  clear r0 s0 s1
                  by_cases hpx : p = x
                  · have hN : Hid (t + v = sumAt X1 x (j + 1)) := by show _ = _; rw [HSU.out, if_pos hpx, ht.out] <;> omega
                    have hq : (p == x) = true := by simpa using hpx
                    have hvb := hvv
                    clear HSU ht hpx
                    go_wp2_with fail
                    refine region_qw (by kernel_rfl) (by kernel_rfl) ?_
                    repeat (
                      refine qw_step (fun K hK => ?_)
                      go_simp
                      first
                        | (refine hK _ ?_; clear hK K)
                        | fail)
                    refine qw_nil ?_
                    intro _ hw'
                    obtain ⟨⟨dq, osq⟩, hw''⟩ := hw'
                    subst hw''
                    have hb7 := hbV.trans ((below_regrown wr dq osq).mono hbV.size)
                    go_wp2
                    go_roundw
                    case rel => exact ⟨j + 1, by omega, by go_num, ⟨t + v, by go_num, hN, by omega, by omega⟩, hb7⟩
                    case measure => simp [intOf]; omega
                  · have hN : Hid (t = sumAt X1 x (j + 1)) := by show _ = _; rw [HSU.out, if_neg hpx, ht.out] <;> omega
                    have hq : (p == x) = false := by simpa using hpx
                    have hvb := hvv
                    clear HSU ht hpx
                    go_wp2_with fail
                    refine region_qw (by kernel_rfl) (by kernel_rfl) ?_
                    repeat (
                      refine qw_step (fun K hK => ?_)
                      go_simp
                      first
                        | (refine hK _ ?_; clear hK K)
                        | fail)
                    refine qw_nil ?_
                    intro _ hw'
                    obtain ⟨⟨dq, osq⟩, hw''⟩ := hw'
                    subst hw''
                    have hb7 := hbV.trans ((below_regrown wr dq osq).mono hbV.size)
                    go_wp2
                    go_roundw
                    case rel => exact ⟨j + 1, by omega, by go_num, ⟨t, by go_num, hN, by omega, by omega⟩, hb7⟩
                    case measure => simp [intOf]; omega
                · obtain rfl : j = X1.length := by omega
                  have HAT2 : Hid (y = t + sumAt X2 x X2.length) := by show _ = _; rw [HAT.out, ht.out]
                  clear HAT ht
                  have hx1 : X1.length ≤ 6 := by omega
                  go_wp2_with fail
                  go_loopw [13, 15] (fun nv mv wr => ∃ j : Nat, j ≤ X2.length ∧ mv = .int .i64 (j : Int) ∧ (∃ u : Int, nv = .int .i64 u ∧ Hid (u = t + sumAt X2 x j) ∧ 0 ≤ u ∧ u ≤ 36 + 6 * j) ∧ Below w7.heap.size w7 wr) (fun _ mv _ => X2.length - (intOf mv).toNat)
                  case atStart => exact ⟨0, Nat.zero_le _, rfl, ⟨t, rfl, by show _ = _; simp [sumAt_zero], by omega, by omega⟩, hbV⟩
                  case round =>
                    obtain ⟨j, hj, rfl, ⟨u, rfl, hu, hu0, hu6⟩, hbV2⟩ := hrel
                    by_cases hlj : j < X2.length
                    · have hj0 : (j : Int) < (X2.length : Int) := by omega
                      have hsu := sumAt_succ (x := x) hlj
                      have hvv := HV2.out j hlj
                      have hXV := hX.below hbV2
                      have hYV := hY2.below hbV2
                      obtain ⟨bR, offR, hRe, hbR, r0, r1⟩ := hXV.at2 hlt
                      have e1 : (⟨b1, 0, none⟩ : Addr) = ⟨bR, offR, none⟩ := by injection hRe
                      injection e1 with e1 e2
                      subst e1 e2
                      obtain ⟨bS, offS, hSe, hbS, s0, s1⟩ := hYV.at2 hlj
                      have e1 : (⟨g7, 0, none⟩ : Addr) = ⟨bS, offS, none⟩ := by injection hSe
                      injection e1 with e1 e2
                      subst e1 e2
                      rw [Nat.zero_add] at r0 r1 s0 s1
                      rw [← HX.out] at r0
                      clear hRe hSe hXV hYV r1
                      generalize X2[j].1 = p at s0 hsu
                      generalize X2[j].2 = v at s1 hsu hvv
                      have HSU := Lib.hid hsu
                      clear hsu
                      have k0 := cell_regrown r0
                      have k1 := cell_regrown s0
                      have k2 := cell_regrown s1
                      clear r0 s0 s1
                      by_cases hpx : p = x
                      · have hN : Hid (u + v = t + sumAt X2 x (j + 1)) := by show _ = _; rw [HSU.out, if_pos hpx, hu.out] <;> omega
                        have hq : (p == x) = true := by simpa using hpx
                        have hvb := hvv
                        clear HSU hu hpx
                        go_wp2_with fail
                        refine region_qw (by kernel_rfl) (by kernel_rfl) ?_
                        repeat (
                          refine qw_step (fun K hK => ?_)
                          go_simp
                          first
                            | (refine hK _ ?_; clear hK K)
                            | fail)
                        refine qw_nil ?_
                        intro _ hw'
                        obtain ⟨⟨dq, osq⟩, hw''⟩ := hw'
                        subst hw''
                        have hb7 := hbV2.trans ((below_regrown wr dq osq).mono hbV2.size)
                        go_wp2
                        go_roundw
                        case rel => exact ⟨j + 1, by omega, by go_num, ⟨u + v, by go_num, hN, by omega, by omega⟩, hb7⟩
                        case measure => simp [intOf]; omega
                      · have hN : Hid (u = t + sumAt X2 x (j + 1)) := by show _ = _; rw [HSU.out, if_neg hpx, hu.out] <;> omega
                        have hq : (p == x) = false := by simpa using hpx
                        have hvb := hvv
                        clear HSU hu hpx
                        go_wp2_with fail
                        refine region_qw (by kernel_rfl) (by kernel_rfl) ?_
                        repeat (
                          refine qw_step (fun K hK => ?_)
                          go_simp
                          first
                            | (refine hK _ ?_; clear hK K)
                            | fail)
                        refine qw_nil ?_
                        intro _ hw'
                        obtain ⟨⟨dq, osq⟩, hw''⟩ := hw'
                        subst hw''
                        have hb7 := hbV2.trans ((below_regrown wr dq osq).mono hbV2.size)
                        go_wp2
                        go_roundw
                        case rel => exact ⟨j + 1, by omega, by go_num, ⟨u, by go_num, hN, by omega, by omega⟩, hb7⟩
                        case measure => simp [intOf]; omega
                    · obtain rfl : j = X2.length := by omega
                      obtain rfl : y = u := by rw [HAT2.out, hu.out]
                      have hXV := hX.below hbV2
                      obtain ⟨bR, offR, hRe, hbR, r0, r1⟩ := hXV.at2 hlt
                      have e1 : (⟨b1, 0, none⟩ : Addr) = ⟨bR, offR, none⟩ := by injection hRe
                      injection e1 with e1 e2
                      subst e1 e2
                      rw [Nat.zero_add] at r0 r1
                      rw [← HY.out] at r1
                      have hq : ((y : Int) != y) = false := by simp
                      clear hRe r0 hXV HX HY HAT2 hu
                      go_wp2
                      go_roundw
                      case rel => exact ⟨i + 1, by omega, by go_num, hbV2⟩
                      case measure => simp [intOf]; omega
            · have hg1 : (X1.length : Int) ≤ (R.length : Int) := by omega
              have hg2 : (X2.length : Int) ≤ (R.length : Int) := by omega
              go_wp2
              go_ret
              exact ⟨ret_bool (by first | rfl | simp [hg1, hg2]), hB7.trans (hbW.mono hB7.size)⟩
end Go.Proofs.Yteomiaffdbbpoaa
