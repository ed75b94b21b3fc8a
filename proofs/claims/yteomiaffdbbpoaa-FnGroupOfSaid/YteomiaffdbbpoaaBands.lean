/-
  Contracts of impl.FacetBands, spec.FacetBands.
-/
import Derived.Test.YteomiaffdbbpoaaSel
import Derived.Test.YteomiaffdbbpoaaSetLaw
import Derived.Test.YteomiaffdbbpoaaExactInts
namespace Go.Proofs.Yteomiaffdbbpoaa
open Go.RowKit
set_option linter.unusedVariables false

def inBand (edges : List Int) (n : Int) (k : Nat) : Bool := decide (edges.getD k 0 ≤ n) && (decide (k + 1 = edges.length) || decide (n < edges.getD (k + 1) 0))
def cntB (edges S : List Int) (k : Nat) : Int := ((S.countP fun n => inBand edges n k : Nat) : Int)
def bandsL (edges S : List Int) : List Int := (List.range edges.length).map (cntB edges S)
theorem bandsL_len (edges S : List Int) : (bandsL edges S).length = edges.length := by simp [bandsL]
theorem cntB_snoc (edges S : List Int) (n : Int) (k : Nat) : cntB edges (S ++ [n]) k = if inBand edges n k = true then cntB edges S k + 1 else cntB edges S k := by
  unfold cntB
  rw [List.countP_append, List.countP_cons, List.countP_nil]
  split <;> simp
theorem cntB_le (edges S : List Int) (k : Nat) : 0 ≤ cntB edges S k ∧ cntB edges S k ≤ S.length := by
  unfold cntB
  have := List.countP_le_length (p := fun n => inBand edges n k) (l := S)
  omega
theorem getB {L : List Int} {k : Nat} (h : k < L.length) : L.getD k 0 = L[k] := by rw [List.getD_eq_getElem?_getD, List.getElem?_eq_getElem h]; rfl
theorem bandsL_nil (edges : List Int) : ints (bandsL edges []) = List.replicate (edges.length * 1) (.int .i64 0) := by
  unfold bandsL ints
  rw [Nat.mul_one, List.map_map]
  apply List.ext_getElem
  · simp
  · intro i h1 h2; simp [cntB]
theorem bandsL_get {edges S : List Int} {k : Nat} (h : k < edges.length) : (ints (bandsL edges S))[k]? = some (.int .i64 (cntB edges S k)) := by
  rw [ints_get (by rw [bandsL_len]; exact h)]
  simp [bandsL]
/-- between two numbers: the bands below j have counted the next one. -/
def mixB (edges S : List Int) (n : Int) (j : Nat) : List Int := (List.range edges.length).map fun i => if i < j then cntB edges (S ++ [n]) i else cntB edges S i
theorem mixB_len (edges S : List Int) (n : Int) (j : Nat) : (mixB edges S n j).length = edges.length := by simp [mixB]
theorem mixB_zero (edges S : List Int) (n : Int) : mixB edges S n 0 = bandsL edges S := by simp [mixB, bandsL]
theorem mixB_all (edges S : List Int) (n : Int) : mixB edges S n edges.length = bandsL edges (S ++ [n]) := by
  unfold mixB bandsL
  apply List.map_congr_left
  intro i hi
  rw [if_pos (List.mem_range.1 hi)]
theorem mixB_get {edges S : List Int} {n : Int} {j : Nat} (h : j < edges.length) : (ints (mixB edges S n j))[j]? = some (.int .i64 (cntB edges S j)) := by
  rw [ints_get (by rw [mixB_len]; exact h)]
  simp [mixB]
theorem ints_set (L : List Int) (k : Nat) (x : Int) : (ints L).set k (.int .i64 x) = ints (L.set k x) := by
  unfold ints; rw [List.map_set]
theorem mixB_at {edges S : List Int} {n : Int} {j i : Nat} (h : i < (mixB edges S n j).length) : (mixB edges S n j)[i] = if i < j then cntB edges (S ++ [n]) i else cntB edges S i := by simp [mixB]
theorem mixB_yes {edges S : List Int} {n : Int} {j : Nat} (h : j < edges.length) (hb : inBand edges n j = true) : (ints (mixB edges S n j)).set j (.int .i64 (cntB edges S j + 1)) = ints (mixB edges S n (j + 1)) := by
  rw [ints_set]
  congr 1
  apply List.ext_getElem
  · rw [List.length_set, mixB_len, mixB_len]
  · intro i h1 h2
    rw [mixB_len] at h2
    rw [List.getElem_set, mixB_at, mixB_at]
    split
    · rename_i e; subst e; rw [if_pos (by omega), cntB_snoc, if_pos hb]
    · rename_i e
      by_cases hl : i < j
      · rw [if_pos hl, if_pos (by omega)]
      · rw [if_neg hl, if_neg (by omega)]
theorem mixB_no {edges S : List Int} {n : Int} {j : Nat} (hb : inBand edges n j = false) : mixB edges S n (j + 1) = mixB edges S n j := by
  unfold mixB
  apply List.map_congr_left
  intro i _
  by_cases h1 : i < j
  · rw [if_pos h1, if_pos (by omega)]
  · by_cases h2 : i = j
    · subst h2; rw [if_pos (by omega), if_neg (by omega), cntB_snoc, if_neg (by rw [hb]; simp)]
    · rw [if_neg h1, if_neg (by omega)]
theorem bandsL_at {edges S : List Int} {i : Nat} (h : i < (bandsL edges S).length) : (bandsL edges S)[i] = cntB edges S i := by simp [bandsL]
theorem bands_none {edges S : List Int} {n : Int} (h : ∀ j, (hj : j < edges.length) → n < edges[j]) : bandsL edges (S ++ [n]) = bandsL edges S := by
  unfold bandsL
  apply List.map_congr_left
  intro i hi
  have hi := List.mem_range.1 hi
  rw [cntB_snoc, if_neg]
  unfold inBand
  have := h i hi
  rw [getB hi, decide_eq_false (by omega)]
  simp
theorem bands_some {edges S : List Int} {n : Int} (hu : edges.Pairwise (· < ·)) {k : Nat} (hk : k < edges.length) (h1 : edges[k] ≤ n) (h2 : ∀ j, k < j → (hj : j < edges.length) → n < edges[j]) :
    ints (bandsL edges (S ++ [n])) = (ints (bandsL edges S)).set k (.int .i64 (cntB edges S k + 1)) := by
  rw [ints_set]
  congr 1
  rw [List.pairwise_iff_getElem] at hu
  apply List.ext_getElem
  · rw [List.length_set, bandsL_len, bandsL_len]
  · intro i h3 h4
    rw [bandsL_len] at h3
    rw [List.getElem_set, bandsL_at, bandsL_at, cntB_snoc]
    split
    · rename_i hb
      unfold inBand at hb
      rw [Bool.and_eq_true, decide_eq_true_eq, getB h3, Bool.or_eq_true, decide_eq_true_eq, decide_eq_true_eq] at hb
      split
      · rename_i e; subst e; rfl
      · rename_i e
        rcases Nat.lt_or_gt_of_ne e with h5 | h5
        · have := h2 i h5 h3; omega
        · rcases hb.2 with h6 | h6
          · omega
          · rw [getB (by omega)] at h6
            rcases Nat.lt_or_eq_of_le (show i + 1 ≤ k by omega) with h7 | h7
            · have := hu (i + 1) k (by omega) hk h7; omega
            · subst h7; omega
    · rename_i hb
      split
      · rename_i e
        subst e
        exfalso
        apply hb
        unfold inBand
        rw [getB hk, decide_eq_true h1, Bool.true_and, Bool.or_eq_true, decide_eq_true_eq, decide_eq_true_eq]
        by_cases h5 : k + 1 = edges.length
        · exact .inl h5
        · exact .inr (by rw [getB (by omega)]; exact h2 (k + 1) (by omega) (by omega))
      · rfl
def bandsF (Ds : List DocD) (ids : List Int) (name : ByteArray) (edges : List Int) : List Int :=
  if docsB Ds = true ∧ upB ids = true ∧ upB edges = true then bandsL edges (selL ids name Ds) else []
theorem bandsF_len (Ds : List DocD) (ids : List Int) (name : ByteArray) (edges : List Int) : (bandsF Ds ids name edges).length ≤ edges.length := by
  unfold bandsF; split
  · rw [bandsL_len]; exact Nat.le_refl _
  · simp
set_option maxHeartbeats 1600000 in
theorem implBands_any (A Ai Ae : Option Addr) (c ci ce : Nat) (Ds : List DocD) (ids : List Int) (name : ByteArray) (edges : List Int) (w : World) (h : RdD w A Ds) (hs : SmDs Ds) (hi : RdI w Ai ids) (hil : ids.length ≤ 4194304) (he : RdI w Ae edges) (hel : edges.length ≤ 1048576) :
    Calls Try.prog 19 #[.slice A Ds.length c, .slice Ai ids.length ci, .string name, .slice Ae edges.length ce] w (Makes w (bandsF Ds ids name edges)) := by
  obtain ⟨R, hR⟩ : ∃ R, R = bandsF Ds ids name edges := ⟨_, rfl⟩
  rw [← hR]
  have HR := Lib.hid hR
  clear hR
  have hDl := hs.1
  go_enter Try.func19, Try.ntmps19
  go_wp2_with fail
  refine (docsOk_any A c Ds _ h hs).mono ?_
  rintro e w1 ⟨rfl, hb1⟩
  cases hd : docsB Ds with
  | false =>
    obtain rfl : R = [] := by rw [HR.out]; unfold bandsF; rw [if_neg (by rw [hd]; simp)]
    go_wp2
    go_ret
    exact ⟨_, _, ⟨rfl, ownI_made w1 w.heap.size hb1.size⟩, hb1.alloc hb1.size _⟩
  | true =>
    go_wp2_with fail
    refine (upOk_any Ai ci ids _ (hi.below hb1) (by omega)).mono ?_
    rintro e w2 ⟨rfl, q2, rfl⟩
    have hb2 : Below w.heap.size w (w1.drewN q2) := hb1.trans (below_of_drewN.mono hb1.size)
    generalize w1.drewN q2 = w2 at hb2 ⊢
    clear hb1
    cases hu : upB ids with
    | false =>
      obtain rfl : R = [] := by rw [HR.out]; unfold bandsF; rw [if_neg (by rw [hu]; simp)]
      go_wp2
      go_ret
      exact ⟨_, _, ⟨rfl, ownI_made w2 w.heap.size hb2.size⟩, hb2.alloc hb2.size _⟩
    | true =>
      go_wp2_with fail
      refine (upOk_any Ae ce edges _ (he.below hb2) (by omega)).mono ?_
      rintro e w3 ⟨rfl, q3, rfl⟩
      have hb3 : Below w.heap.size w (w2.drewN q3) := hb2.trans (below_of_drewN.mono hb2.size)
      generalize w2.drewN q3 = w3 at hb3 ⊢
      clear hb2
      cases hv : upB edges with
      | false =>
        obtain rfl : R = [] := by rw [HR.out]; unfold bandsF; rw [if_neg (by rw [hv]; simp)]
        go_wp2
        go_ret
        exact ⟨_, _, ⟨rfl, ownI_made w3 w.heap.size hb3.size⟩, hb3.alloc hb3.size _⟩
      | true =>
        have HR2 : Hid (R = bandsL edges (selL ids name Ds)) := by show _ = _; rw [HR.out]; unfold bandsF; rw [if_pos ⟨hd, hu, hv⟩]
        clear HR
        obtain ⟨i0, hi0', hz0, hz1, hz2⟩ := info_parts infoInt
        obtain ⟨wm, hmk, hown0, hg0⟩ := run_make_full (P := Try.prog) w3 w.heap.size 31 3 i0 _ 1 Try.underlying31 hi0' hz0 hz1 .i64 .i64 edges.length (by rw [hz2]; omega) (by unfold maxLen; omega) hb3.size
        have hB0 : Below w3.heap.size w3 wm := (Below.refl _ _).grown hg0 (Nat.le_refl _) (fun k hk => by cases hk)
        have hB4 := hb3.trans (hB0.mono hb3.size)
        have hlt4 := (hown0.lt w3.heap.size rfl).2
        have hbs := hb3.size
        have HOWN := Lib.hid hown0
        clear hown0 hg0
        go_wp2_with fail
        refine (selected_any A Ai c ci Ds ids name _ (h.below hB4) hs (hi.below hB4) hil).mono ?_
        rintro e w5 ⟨B, d, ⟨rfl, rS⟩, hb5⟩
        have hB5 := hB4.trans (hb5.mono hB4.size)
        have own5 := own_below HOWN.out hb5
        have hsel := selL_len ids name Ds
        generalize selL ids name Ds = S at rS HR2 hsel ⊢
        have hSl : S.length ≤ 1048576 := by omega
        have hle := hb5.size
        clear HOWN hb5 hB4 hB0 hmk h hi
        go_wp2_with fail
        go_loopw [11, 12, 13, 36, 42] (fun _ _ _ iv _ wr => ∃ k : Nat, k ≤ S.length ∧ iv = .int .i64 k ∧ wr.ownsRow w.heap.size 3 1 (.slice (some ⟨w3.heap.size, 0, none⟩) edges.length edges.length) edges.length (ints (bandsL edges (S.take k))) ∧ OwnI wr wm.heap.size (.slice B S.length d) S ∧ Below w.heap.size w wr) (fun _ _ _ iv _ _ => S.length - (intOf iv).toNat)
        case atStart => exact ⟨0, Nat.zero_le _, rfl, by rw [List.take_zero, bandsL_nil, ← madeCells_one]; exact own5, rS, hB5⟩
        case round =>
          obtain ⟨k, hk, rfl, hown, hS, hB⟩ := hrel
          by_cases hlt : k < S.length
          · obtain ⟨b, off, hBe, hb, x0⟩ := hS.rds.at1 hlt
            have hi0 : (k : Int) < (S.length : Int) := by omega
            have hsn : S.take (k + 1) = S.take k ++ [S[k]] := (List.take_append_getElem hlt).symm
            have HSN := Lib.hid hsn
            have htl : (S.take k).length = k := by rw [List.length_take]; omega
            clear hsn
            generalize S[k] = n at x0 HSN
            subst hBe
            go_wp2_with fail
            go_loopw [12, 13, 42] (fun _ _ iv wr => ∃ j : Nat, j ≤ edges.length ∧ iv = .int .i64 j ∧ wr.ownsRow w.heap.size 3 1 (.slice (some ⟨w3.heap.size, 0, none⟩) edges.length edges.length) edges.length (ints (mixB edges (S.take k) n j)) ∧ OwnI wr wm.heap.size (.slice (some ⟨b, off, none⟩) S.length d) S ∧ Below w.heap.size w wr) (fun _ _ iv _ => edges.length - (intOf iv).toNat)
            case atStart => exact ⟨0, Nat.zero_le _, rfl, by rw [mixB_zero]; exact hown, hS, hB⟩
            case round =>
              obtain ⟨j, hj, rfl, hown2, hS2, hB2⟩ := hrel
              by_cases hlj : j < edges.length
              · obtain ⟨b2, off2, hAe, hb2, y0⟩ := (he.below hB2).at1 hlj
                subst hAe
                have hj0 : (j : Int) < (edges.length : Int) := by omega
                have hib0 : inBand edges n j = (decide (edges[j] ≤ n) && (decide (j + 1 = edges.length) || decide (n < edges.getD (j + 1) 0))) := by unfold inBand; rw [getB hlj]
                have htk : k ≤ 1048576 := by omega
                by_cases h1 : edges[j] ≤ n
                · by_cases h2 : j + 1 = edges.length
                  · have hib : inBand edges n j = true := by rw [hib0, decide_eq_true h1, decide_eq_true h2]; rfl
                    have hq : ((j : Int) + 1 == (edges.length : Int)) = true := by rw [beq_iff_eq]; omega
                    have hq2 : (j : Int) + 1 = (edges.length : Int) := by omega
                    clear hib0
                    generalize edges[j] = ej at y0 h1
                    have hm := mixB_get (S := S.take k) (n := n) hlj
                    have hcb := cntB_le edges (S.take k) j
                    have hyes := mixB_yes (S := S.take k) hlj hib
                    generalize cntB edges (S.take k) j = v at hm hcb hyes
                    rw [htl] at hcb
                    have g0 := (hown2.cellAt j (by omega)).trans hm
                    have z0 := hown2.frozenAt j
                    have a5 := hown2.stored j (.int .i64 (v + 1))
                    have own5 := a5.1
                    rw [hyes] at own5
                    have hS5 := own_kept (v2 := .slice (some ⟨w3.heap.size, 0, none⟩) edges.length edges.length) hS2 a5.2 (fun k1 k2 e1 e2 => by have := (hS2.lt k1 e1).1; simp [Value.ownBlock] at e2; omega)
                    have hB5 := hB2.setCell (p := ⟨w3.heap.size, j, none⟩) hbs (.int .i64 (v + 1))
                    have O5 := Lib.hid own5
                    have S5 := Lib.hid hS5
                    clear hown2 hS2 hyes a5 own5 hS5 hm hib hB2 hown hS
                    go_wp2
                    go_roundw
                    case rel => exact ⟨j + 1, by omega, by go_num, O5.out, S5.out, hB5⟩
                    case measure => simp [intOf]; omega
                  · have hjj : j + 1 < edges.length := by omega
                    obtain ⟨_, y1⟩ := Rds.all1 (he.below hB2) (k := j + 1) hjj
                    rw [getB hjj] at hib0
                    have y2 := y1
                    rw [← Nat.add_assoc] at y2
                    have hj1 : (j : Int) + 1 < (edges.length : Int) := by omega
                    have hq : ((j : Int) + 1 == (edges.length : Int)) = false := by rw [beq_eq_false_iff_ne]; omega
                    have ht1 : ((j : Int) + 1).toNat = j + 1 := by omega
                    by_cases h3 : n < edges[j + 1]
                    · have hib : inBand edges n j = true := by rw [hib0, decide_eq_true h1, decide_eq_true h3]; simp
                      clear hib0 h2
                      generalize edges[j] = ej at y0 h1
                      generalize edges[j + 1] = ek at y1 y2 h3
                      clear hjj
                      have hm := mixB_get (S := S.take k) (n := n) hlj
                      have hcb := cntB_le edges (S.take k) j
                      have hyes := mixB_yes (S := S.take k) hlj hib
                      generalize cntB edges (S.take k) j = v at hm hcb hyes
                      rw [htl] at hcb
                      have g0 := (hown2.cellAt j (by omega)).trans hm
                      have z0 := hown2.frozenAt j
                      have a5 := hown2.stored j (.int .i64 (v + 1))
                      have own5 := a5.1
                      rw [hyes] at own5
                      have hS5 := own_kept (v2 := .slice (some ⟨w3.heap.size, 0, none⟩) edges.length edges.length) hS2 a5.2 (fun k1 k2 e1 e2 => by have := (hS2.lt k1 e1).1; simp [Value.ownBlock] at e2; omega)
                      have hB5 := hB2.setCell (p := ⟨w3.heap.size, j, none⟩) hbs (.int .i64 (v + 1))
                      have O5 := Lib.hid own5
                      have S5 := Lib.hid hS5
                      clear hown2 hS2 hyes a5 own5 hS5 hm hib hB2 hown hS
                      go_wp2
                      go_roundw
                      case rel => exact ⟨j + 1, by omega, by go_num, O5.out, S5.out, hB5⟩
                      case measure => simp [intOf]; omega
                    · have hib : inBand edges n j = false := by rw [hib0, decide_eq_false h2, decide_eq_false h3]; simp
                      clear hib0 h2
                      generalize edges[j] = ej at y0 h1
                      generalize edges[j + 1] = ek at y1 y2 h3
                      clear hjj
                      have O5 := Lib.hid hown2
                      rw [← mixB_no (S := S.take k) hib] at O5
                      have S5 := Lib.hid hS2
                      have hB5 := hB2
                      clear hown2 hS2 hib hown hS
                      go_wp2
                      go_roundw
                      case rel => exact ⟨j + 1, by omega, by go_num, O5.out, S5.out, hB5⟩
                      case measure => simp [intOf]; omega
                · have hib : inBand edges n j = false := by rw [hib0, decide_eq_false h1]; rfl
                  clear hib0
                  generalize edges[j] = ej at y0 h1
                  have O5 := Lib.hid hown2
                  rw [← mixB_no (S := S.take k) hib] at O5
                  have S5 := Lib.hid hS2
                  have hB5 := hB2
                  clear hown2 hS2 hib hown hS
                  go_wp2
                  go_roundw
                  case rel => exact ⟨j + 1, by omega, by go_num, O5.out, S5.out, hB5⟩
                  case measure => simp [intOf]; omega
              · obtain rfl : j = edges.length := by omega
                have O5 : Hid (wr.ownsRow w.heap.size 3 1 (.slice (some ⟨w3.heap.size, 0, none⟩) edges.length edges.length) edges.length (ints (bandsL edges (S.take (k + 1))))) := by
                  have := hown2
                  rw [mixB_all, ← HSN.out] at this
                  exact this
                clear hown2 hown hS
                go_wp2
                go_roundw
                case rel => exact ⟨k + 1, by omega, by go_num, O5.out, hS2, hB2⟩
                case measure => simp [intOf]; omega
          · obtain rfl : k = S.length := by omega
            have hown' : OwnI wr w.heap.size (.slice (some ⟨w3.heap.size, 0, none⟩) (bandsL edges S).length edges.length) (bandsL edges S) := by
              have := hown
              rw [List.take_length] at this
              unfold OwnI; rw [bandsL_len]; exact this
            clear hown
            obtain rfl : R = bandsL edges S := HR2.out
            have hbl := bandsL_len edges S
            go_wp2
            go_ret
            exact ⟨_, _, ⟨by rw [hbl]; rfl, hown'⟩, hB⟩
end Go.Proofs.Yteomiaffdbbpoaa
