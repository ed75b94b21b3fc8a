/-
  Contracts of l16Sort, l16Of, spec.FacetOf.
-/
import Derived.Test.YteomiaffdbbpoaaFacetSpec
namespace Go.Proofs.Yteomiaffdbbpoaa
open Go.RowKit Go.Sort Go.Maps
set_option linter.unusedVariables false

def insAll (L : FacL) : FacL := L.foldl insH []
theorem insAll_succ {L : FacL} {k : Nat} (hk : k < L.length) : insAll (L.take (k + 1)) = insH (insAll (L.take k)) L[k] := by
  unfold insAll; rw [← List.take_append_getElem hk, List.foldl_append]; rfl
theorem insAll_mem {y : Int × Int} {L : FacL} : ∀ k, k ≤ L.length → (y ∈ insAll (L.take k) ↔ y ∈ L.take k) := by
  intro k
  induction k with
  | zero => intro _; simp [insAll]
  | succ k ih =>
    intro hk
    rw [insAll_succ (show k < L.length by omega), insH_mem, ih (by omega), ← List.take_append_getElem (show k < L.length by omega), List.mem_append]
    simp
theorem insAll_len {L : FacL} : ∀ k, k ≤ L.length → (insAll (L.take k)).length = k := by
  intro k
  induction k with
  | zero => intro _; simp [insAll]
  | succ k ih => intro hk; rw [insAll_succ (show k < L.length by omega), insH_len, ih (by omega)]
theorem asc_take {L : FacL} (h : AscF L) {k : Nat} (hk : k < L.length) : ∀ y ∈ L.take k, y.1 < L[k].1 := fun y hy => by
  obtain ⟨i, hi, rfl⟩ := List.mem_take_iff_getElem.1 hy
  exact (List.pairwise_iff_getElem.1 h) i k (by omega) hk (by omega)
theorem insAll_pw {L : FacL} (h : AscF L) : ∀ k, k ≤ L.length → PwH (insAll (L.take k)) := by
  intro k
  induction k with
  | zero => intro _; simp [insAll, PwH]
  | succ k ih =>
    intro hk
    have hlt : k < L.length := by omega
    rw [insAll_succ hlt]
    refine insH_pw (ih (by omega)) fun x hx e => ?_
    have := asc_take h hlt x ((insAll_mem k (by omega)).1 hx)
    rw [e] at this; omega
theorem insAll_facet {L : FacL} {S : List Int} (h : AscF L) (ho : OfS L S) : insAll L = facetL S := by
  have h1 := insAll_pw h L.length (Nat.le_refl _)
  rw [List.take_length] at h1
  refine facetL_eq h1 fun p => ?_
  have h2 := insAll_mem (y := p) (L := L) L.length (Nat.le_refl _)
  rw [List.take_length] at h2
  exact h2.trans (ho p)
theorem less_many {y x : Int × Int} (h : y.1 < x.1) : lessH y x = decide (x.2 ≤ y.2) := by
  rw [Bool.eq_iff_iff, lessH_iff, decide_eq_true_eq]; omega
set_option maxRecDepth 4000 in
set_option maxHeartbeats 3200000 in
theorem l16Sort_any (A : Option Addr) (c : Nat) (L : FacL) (w : World) (h : SrcE enc2 2 w A c L) (hn : L.length ≤ 1048576) (hasc : AscF L) :
    Calls Try.prog 108 #[.slice A L.length c] w (MakesF (insAll L) w) := by
  have HASC := Lib.hid hasc
  obtain ⟨R, hR⟩ : ∃ R, R = insAll L := ⟨_, rfl⟩
  rw [← hR]
  have HR := Lib.hid hR
  clear hR hasc
  have hB0 : Below w.heap.size w (w.alloc (.cells #[] 73)) := (Below.refl _ _).alloc (Nat.le_refl _) _
  have own0 := ownE_made (enc := enc2) (F := 2) 73 w w.heap.size (Nat.le_refl _)
  go_enter Try.func108, Try.ntmps108
  go_wp2_with fail
  go_loopw [3, 4, 5, 6] (fun ov iv _ _ wr => ∃ i : Nat, i ≤ L.length ∧ iv = .int .i64 i ∧ ∃ (g c : Nat) (O : FacL), ov = .slice (some ⟨g, 0, none⟩) O.length c ∧ Hid (O = insAll (L.take i)) ∧ OwnE enc2 73 2 wr w.heap.size g c O ∧ Below w.heap.size w wr) (fun _ iv _ _ _ => L.length - (intOf iv).toNat)
  case atStart => exact ⟨0, Nat.zero_le _, rfl, w.heap.size, 0, [], rfl, rfl, own0, hB0⟩
  case round =>
    obtain ⟨i, hik, rfl, g, co, O, rfl, hO, hown, hB⟩ := hrel
    have hBs := hB.size
    by_cases hlt : i < L.length
    · obtain ⟨b, off, hAe, _, _, _⟩ := (h.below hB).1.at2 hlt
      subst hAe
      have hi0 : (i : Int) < (L.length : Int) := by omega
      have hol : O.length ≤ 1048576 := by rw [hO.out, insAll_len i hik]; omega
      have HM : Hid (∀ y ∈ O, y.1 < L[i].1) := fun y hy => asc_take HASC.out hlt y ((insAll_mem i hik).1 (by rw [← hO.out]; exact hy))
      have HN : Hid (insAll (L.take (i + 1)) = insH O (L[i].1, L[i].2)) := by show _ = _; rw [insAll_succ hlt, hO.out]
      have HCELL : Hid (∀ w', Below w.heap.size w w' → b < w'.heap.size ∧ w'.cell? ⟨b, off + i * 2, none⟩ = some (.int .i64 L[i].1) ∧ w'.cell? ⟨b, off + i * 2 + 1, none⟩ = some (.int .i64 L[i].2)) := fun w' hw => Rds.all2 (h.1.below hw) hlt
      clear hO
      generalize L[i].1 = p at HM HN HCELL
      generalize L[i].2 = q at HN HCELL
      go_wp2_with fail
      go_loopw [5] (fun kv wq => ∃ k : Nat, k ≤ O.length ∧ kv = .int .i64 k ∧ Hid (∀ j, (hj : j < O.length) → j < k → lessH O[j] (p, q) = true) ∧ OwnE enc2 73 2 wq w.heap.size g co O ∧ Below w.heap.size w wq) (fun kv _ => O.length - (intOf kv).toNat)
      case atStart => exact ⟨0, Nat.zero_le _, rfl, fun j hj hk => by omega, hown, hB⟩
      case round =>
        obtain ⟨k, hk, rfl, hlo, own2, hB2⟩ := hrel
        obtain ⟨hbe, m0, m1⟩ := HCELL.out wr hB2
        have hB2s := hB2.size
        have hcap := own2.capOk
        have hOs : SrcE enc2 2 wr (some ⟨g, 0, none⟩) co O := own2.src
        by_cases hkl : k < O.length
        · obtain ⟨hgl, x0, x1⟩ := Rds.all2 hOs.1 hkl
          rw [Nat.zero_add] at x0 x1
          have hk0 : (k : Int) < (O.length : Int) := by omega
          have hkd : decide ((k : Int) < (O.length : Int)) = true := decide_eq_true hk0
          have hkd2 : decide (k < O.length) = true := decide_eq_true hkl
          have hlm := less_many (y := O[k]) (x := (p, q)) (HM.out _ (List.getElem_mem hkl))
          dsimp only at hlm
          have k0 := cell_regrown m0
          have k1 := cell_regrown m1
          have k2 := cell_regrown x0
          have k3 := cell_regrown x1
          by_cases hle : q ≤ O[k].2
          · have HLO : Hid (∀ j, (hj : j < O.length) → j < k + 1 → lessH O[j] (p, q) = true) := fun j hj hjk => by
              rcases Nat.lt_or_eq_of_le (Nat.le_of_lt_succ hjk) with h2 | rfl
              · exact hlo.out j hj h2
              · rw [hlm, decide_eq_true hle]
            have hcd : decide (q ≤ O[k].2) = true := decide_eq_true hle
            clear hlo hlm
            generalize O[k].1 = op at x0 k2
            generalize O[k].2 = oq at x1 k3 hle hcd
            go_wp2_with fail
            refine region_qw (by kernel_rfl) (by kernel_rfl) ?_
            repeat (
              refine qw_step (fun K hK => ?_)
              go_simp
              first
                | (refine hK _ ?_; clear hK K))
            refine qw_nil ?_
            intro _ hw'
            obtain ⟨⟨dq, osq⟩, hw''⟩ := hw'
            subst hw''
            have hbq9 : Below wr.heap.size wr (grow (redrawn wr dq) osq) := below_regrown wr dq osq
            have own3 : OwnE enc2 73 2 (grow (redrawn wr dq) osq) w.heap.size g co O := own_below own2 hbq9
            have hB3 := hB2.trans (hbq9.mono hB2s)
            generalize grow (redrawn wr dq) osq = Wq at own3 hB3 ⊢
            clear own2 hbq9 x0 x1 m0 m1 k0 k1 k2 k3 hB2 hOs
            go_wp2
            go_roundw
            case rel => exact ⟨k + 1, by omega, by go_num, HLO, own3, hB3⟩
            case measure => simp [intOf]; omega
          · have HQ : Hid (insH O (p, q) = O.take k ++ [(p, q)] ++ O.drop k) := insH_at hlo.out hk (fun _ => by rw [hlm, decide_eq_false hle])
            have hcd : decide (q ≤ O[k].2) = false := decide_eq_false hle
            clear hlo hlm
            generalize O[k].1 = op at x0 k2
            generalize O[k].2 = oq at x1 k3 hle hcd
            go_wp2_with fail
            refine region_qw (by kernel_rfl) (by kernel_rfl) ?_
            repeat (
              refine qw_step (fun K hK => ?_)
              go_simp
              first
                | (refine hK _ ?_; clear hK K))
            refine qw_nil ?_
            intro _ hw'
            obtain ⟨⟨dq, osq⟩, hw''⟩ := hw'
            subst hw''
            clear m0 m1 x0 x1 k0 k1 k2 k3
            have hbq9 : Below wr.heap.size wr (grow (redrawn wr dq) osq) := below_regrown wr dq osq
            have own3 : OwnE enc2 73 2 (grow (redrawn wr dq) osq) w.heap.size g co O := own_below own2 hbq9
            have hB3 := hB2.trans (hbq9.mono hB2s)
            obtain ⟨hbe3, m0, m1⟩ := HCELL.out _ hB3
            have hB3s := hB3.size
            generalize grow (redrawn wr dq) osq = Wq at own3 hB3 m0 m1 hbe3 hB3s ⊢
            have hq : SrcE enc2 2 Wq (some ⟨g, 0, none⟩) co O := own3.src
            have hT : SrcE enc2 2 Wq (some ⟨g, 0, none⟩) co (O.take k) := hq.take encHit hk
            have hD : SrcE enc2 2 Wq (some ⟨g, k * 2, none⟩) (co - k) (O.drop k) := by have := hq.drop (c' := co - k) encHit (k := k) (o := k * 2) rfl; rwa [Nat.zero_add] at this
            have hXl : Hid (k = (O.take k).length) := by show _ = _; rw [List.length_take, Nat.min_eq_left hk]
            have hYl : Hid (O.length - k = (O.drop k).length) := by show _ = _; rw [List.length_drop]
            generalize O.take k = X at hT hXl HQ
            generalize O.drop k = Y at hD hYl HQ
            have hkc : k ≤ co := by omega
            clear own2 hbq9 hB2 hOs hq own3 hown hB
            have own0 := ownE_made (enc := enc2) (F := 2) 73 Wq Wq.heap.size (Nat.le_refl _)
            go_wp2_with (at_builtin; refine append_rec rowTFac encHit (by decide) rfl _ _ rfl Wq.heap.size _ _ [] rfl own0 _ _ _ X hXl.out rfl (hT.below (by (repeat' (first | exact Below.refl _ _ | apply Below.alloc | apply Below.setCell | apply Below.drew | apply below_draws)) <;> (first | omega | (simp <;> omega)))) (by simp; have := hXl.out; omega) (by omega) (by simp <;> omega) ?_)
            intro L1 hL1 g1 c1 w1 own1 hg1 hat1 hb1
            obtain rfl : L1 = X := hL1.out
            have hB1 : Below Wq.heap.size Wq w1 := Below.trans (by (repeat' (first | exact Below.refl _ _ | apply Below.alloc | apply Below.setCell | apply Below.drew | apply below_draws)) <;> (first | omega | (simp <;> omega))) hb1
            clear hb1 hL1 hg1 hat1
            have hs1 := hB1.size
            have e_m0 := (hB1.cell (p := ⟨_, _, none⟩) hbe3).trans m0
            have e_m1 := (hB1.cell (p := ⟨_, _, none⟩) hbe3).trans m1
            go_wp2_with (at_builtin; refine append_rec rowTFac encHit (by decide) rfl _ _ rfl Wq.heap.size _ _ L1 rfl (own1.alloc _) _ _ _ [(p, q)] rfl rfl (SrcE.lit encHit _ _ #[.int .i64 p, .int .i64 q] [(p, q)] rfl 1) (by simp; have := hXl.out; omega) (by omega) (by simp <;> omega) ?_)
            intro L2 hL2 g2 c2 w2 own2 hg2 hat2 hb2
            have hB2 : Below Wq.heap.size Wq w2 := hB1.trans (Below.trans (by (repeat' (first | exact Below.refl _ _ | apply Below.alloc | apply Below.setCell | apply Below.drew | apply below_draws)) <;> (first | omega | (simp <;> omega))) hb2)
            clear hb2 hg2 hat2 e_m0 e_m1
            have hs2 := hB2.size
            have hl2 : Hid (L2.length = L1.length + 1) := by show _ = _; rw [hL2.out]; simp
            go_wp2_with (at_builtin; refine append_rec rowTFac encHit (by decide) rfl _ _ rfl Wq.heap.size _ _ L2 rfl own2 _ _ _ Y hYl.out rfl (hD.below hB2) (by have := hXl.out; have := hl2.out; have := hYl.out; omega) (by omega) (by omega) ?_)
            intro N hN g3 c3 w3 own3z hg3 hat3 hb3
            have HN0 : N = L1 ++ [(p, q)] ++ Y := by have e1 := hN.out; have e2 := hL2.out; rw [e1, e2]; try simp
            have hB3z : Below Wq.heap.size Wq w3 := hB2.trans hb3
            clear hb3 hg3 hat3 hN hL2
            have HNX : Hid (N = insAll (L.take (i + 1))) := by show _ = _; rw [HN0, HN.out, HQ.out]
            clear HN0 HN HQ
            go_wp2
            go_roundw
            case rel => exact ⟨i + 1, by omega, by go_num, g3, c3, N, rfl, HNX, own_mono own3z (by omega), hB3.trans (hB3z.mono hB3s)⟩
            case measure => simp [intOf]; omega
        · obtain rfl : k = O.length := by omega
          have HQ0 := insH_at hlo.out hk (fun h => by omega)
          rw [List.take_length, List.drop_length] at HQ0
          have hk0 : ¬ (O.length : Int) < (O.length : Int) := by omega
          have hkd : decide ((O.length : Int) < (O.length : Int)) = false := decide_eq_false hk0
          have hkd2 : decide (O.length < O.length) = false := decide_eq_false (by omega)
          clear hlo
          go_wp2_with fail
          refine region_qw (by kernel_rfl) (by kernel_rfl) ?_
          repeat (
            refine qw_step (fun K hK => ?_)
            go_simp
            first
              | (refine hK _ ?_; clear hK K))
          refine qw_nil ?_
          intro _ hw'
          obtain ⟨⟨dq, osq⟩, hw''⟩ := hw'
          subst hw''
          clear m0 m1
          have hbq9 : Below wr.heap.size wr (grow (redrawn wr dq) osq) := below_regrown wr dq osq
          have own3 : OwnE enc2 73 2 (grow (redrawn wr dq) osq) w.heap.size g co O := own_below own2 hbq9
          have hB3 := hB2.trans (hbq9.mono hB2s)
          obtain ⟨hbe3, m0, m1⟩ := HCELL.out _ hB3
          have hB3s := hB3.size
          generalize grow (redrawn wr dq) osq = Wq at own3 hB3 m0 m1 hbe3 hB3s ⊢
          have hq : SrcE enc2 2 Wq (some ⟨g, 0, none⟩) co O := own3.src
          obtain ⟨X, hX⟩ : ∃ X, X = O := ⟨_, rfl⟩
          have hT : SrcE enc2 2 Wq (some ⟨g, 0, none⟩) co X := by rw [hX]; exact hq
          have hXl : Hid (O.length = X.length) := by show _ = _; rw [hX]
          have HQ : Hid (insH O (p, q) = X ++ [(p, q)] ++ []) := by show _ = _; rw [HQ0, hX]
          clear HQ0 hX own2 hbq9 hB2 hOs hq own3 hown hB
          by_cases hL0 : O.length = 0
          · obtain rfl : O = [] := List.length_eq_zero_iff.1 hL0
            clear hL0
            simp only [List.length_nil] at *
            have own0 := ownE_made (enc := enc2) (F := 2) 73 Wq Wq.heap.size (Nat.le_refl _)
            go_wp2_with (at_builtin; refine append_rec rowTFac encHit (by decide) rfl _ _ rfl Wq.heap.size _ _ [] rfl own0 _ _ _ X hXl.out rfl (hT.below (by (repeat' (first | exact Below.refl _ _ | apply Below.alloc | apply Below.setCell | apply Below.drew | apply below_draws)) <;> (first | omega | (simp <;> omega)))) (by simp; have := hXl.out; omega) (by omega) (by simp <;> omega) ?_)
            intro L1 hL1 g1 c1 w1 own1 hg1 hat1 hb1
            obtain rfl : L1 = X := hL1.out
            have hB1 : Below Wq.heap.size Wq w1 := Below.trans (by (repeat' (first | exact Below.refl _ _ | apply Below.alloc | apply Below.setCell | apply Below.drew | apply below_draws)) <;> (first | omega | (simp <;> omega))) hb1
            clear hb1 hL1 hg1 hat1
            have hs1 := hB1.size
            have e_m0 := (hB1.cell (p := ⟨_, _, none⟩) hbe3).trans m0
            have e_m1 := (hB1.cell (p := ⟨_, _, none⟩) hbe3).trans m1
            go_wp2_with (at_builtin; refine append_rec rowTFac encHit (by decide) rfl _ _ rfl Wq.heap.size _ _ L1 rfl (own1.alloc _) _ _ _ [(p, q)] rfl rfl (SrcE.lit encHit _ _ #[.int .i64 p, .int .i64 q] [(p, q)] rfl 1) (by simp; have := hXl.out; omega) (by omega) (by simp <;> omega) ?_)
            intro L2 hL2 g2 c2 w2 own2 hg2 hat2 hb2
            have hB2 : Below Wq.heap.size Wq w2 := hB1.trans (Below.trans (by (repeat' (first | exact Below.refl _ _ | apply Below.alloc | apply Below.setCell | apply Below.drew | apply below_draws)) <;> (first | omega | (simp <;> omega))) hb2)
            clear hb2 hg2 hat2 e_m0 e_m1
            have hs2 := hB2.size
            have hl2 : Hid (L2.length = L1.length + 1) := by show _ = _; rw [hL2.out]; simp
            go_wp2_with (at_builtin; refine append_rec rowTFac encHit (by decide) rfl _ _ rfl Wq.heap.size _ _ L2 rfl own2 _ _ _ [] (by simp) rfl (srcE_empty _ _ _) (by have := hXl.out; have := hl2.out; simp; omega) (by omega) (by omega) ?_)
            intro N hN g3 c3 w3 own3z hg3 hat3 hb3
            have HN0 : N = L1 ++ [(p, q)] ++ [] := by have e1 := hN.out; have e2 := hL2.out; rw [e1, e2]; try simp
            have hB3z : Below Wq.heap.size Wq w3 := hB2.trans hb3
            clear hb3 hg3 hat3 hN hL2
            have HNX : Hid (N = insAll (L.take (i + 1))) := by show _ = _; rw [HN0, HN.out, HQ.out]
            clear HN0 HN HQ
            go_wp2
            go_roundw
            case rel => exact ⟨i + 1, by omega, by go_num, g3, c3, N, rfl, HNX, own_mono own3z (by omega), hB3.trans (hB3z.mono hB3s)⟩
            case measure => simp [intOf]; omega
          · by_cases hcc : co = O.length
            · subst hcc
              have own0 := ownE_made (enc := enc2) (F := 2) 73 Wq Wq.heap.size (Nat.le_refl _)
              go_wp2_with (at_builtin; refine append_rec rowTFac encHit (by decide) rfl _ _ rfl Wq.heap.size _ _ [] rfl own0 _ _ _ X hXl.out rfl (hT.below (by (repeat' (first | exact Below.refl _ _ | apply Below.alloc | apply Below.setCell | apply Below.drew | apply below_draws)) <;> (first | omega | (simp <;> omega)))) (by simp; have := hXl.out; omega) (by omega) (by simp <;> omega) ?_)
              intro L1 hL1 g1 c1 w1 own1 hg1 hat1 hb1
              obtain rfl : L1 = X := hL1.out
              have hB1 : Below Wq.heap.size Wq w1 := Below.trans (by (repeat' (first | exact Below.refl _ _ | apply Below.alloc | apply Below.setCell | apply Below.drew | apply below_draws)) <;> (first | omega | (simp <;> omega))) hb1
              clear hb1 hL1 hg1 hat1
              have hs1 := hB1.size
              have e_m0 := (hB1.cell (p := ⟨_, _, none⟩) hbe3).trans m0
              have e_m1 := (hB1.cell (p := ⟨_, _, none⟩) hbe3).trans m1
              go_wp2_with (at_builtin; refine append_rec rowTFac encHit (by decide) rfl _ _ rfl Wq.heap.size _ _ L1 rfl (own1.alloc _) _ _ _ [(p, q)] rfl rfl (SrcE.lit encHit _ _ #[.int .i64 p, .int .i64 q] [(p, q)] rfl 1) (by simp; have := hXl.out; omega) (by omega) (by simp <;> omega) ?_)
              intro L2 hL2 g2 c2 w2 own2 hg2 hat2 hb2
              have hB2 : Below Wq.heap.size Wq w2 := hB1.trans (Below.trans (by (repeat' (first | exact Below.refl _ _ | apply Below.alloc | apply Below.setCell | apply Below.drew | apply below_draws)) <;> (first | omega | (simp <;> omega))) hb2)
              clear hb2 hg2 hat2 e_m0 e_m1
              have hs2 := hB2.size
              have hl2 : Hid (L2.length = L1.length + 1) := by show _ = _; rw [hL2.out]; simp
              go_wp2_with (at_builtin; refine append_rec rowTFac encHit (by decide) rfl _ _ rfl Wq.heap.size _ _ L2 rfl own2 _ _ _ [] (by simp) rfl (srcE_empty _ _ _) (by have := hXl.out; have := hl2.out; simp; omega) (by omega) (by omega) ?_)
              intro N hN g3 c3 w3 own3z hg3 hat3 hb3
              have HN0 : N = L1 ++ [(p, q)] ++ [] := by have e1 := hN.out; have e2 := hL2.out; rw [e1, e2]; try simp
              have hB3z : Below Wq.heap.size Wq w3 := hB2.trans hb3
              clear hb3 hg3 hat3 hN hL2
              have HNX : Hid (N = insAll (L.take (i + 1))) := by show _ = _; rw [HN0, HN.out, HQ.out]
              clear HN0 HN HQ
              go_wp2
              go_roundw
              case rel => exact ⟨i + 1, by omega, by go_num, g3, c3, N, rfl, HNX, own_mono own3z (by omega), hB3.trans (hB3z.mono hB3s)⟩
              case measure => simp [intOf]; omega
            · skip
              have own0 := ownE_made (enc := enc2) (F := 2) 73 Wq Wq.heap.size (Nat.le_refl _)
              go_wp2_with (at_builtin; refine append_rec rowTFac encHit (by decide) rfl _ _ rfl Wq.heap.size _ _ [] rfl own0 _ _ _ X hXl.out rfl (hT.below (by (repeat' (first | exact Below.refl _ _ | apply Below.alloc | apply Below.setCell | apply Below.drew | apply below_draws)) <;> (first | omega | (simp <;> omega)))) (by simp; have := hXl.out; omega) (by omega) (by simp <;> omega) ?_)
              intro L1 hL1 g1 c1 w1 own1 hg1 hat1 hb1
              obtain rfl : L1 = X := hL1.out
              have hB1 : Below Wq.heap.size Wq w1 := Below.trans (by (repeat' (first | exact Below.refl _ _ | apply Below.alloc | apply Below.setCell | apply Below.drew | apply below_draws)) <;> (first | omega | (simp <;> omega))) hb1
              clear hb1 hL1 hg1 hat1
              have hs1 := hB1.size
              have e_m0 := (hB1.cell (p := ⟨_, _, none⟩) hbe3).trans m0
              have e_m1 := (hB1.cell (p := ⟨_, _, none⟩) hbe3).trans m1
              go_wp2_with (at_builtin; refine append_rec rowTFac encHit (by decide) rfl _ _ rfl Wq.heap.size _ _ L1 rfl (own1.alloc _) _ _ _ [(p, q)] rfl rfl (SrcE.lit encHit _ _ #[.int .i64 p, .int .i64 q] [(p, q)] rfl 1) (by simp; have := hXl.out; omega) (by omega) (by simp <;> omega) ?_)
              intro L2 hL2 g2 c2 w2 own2 hg2 hat2 hb2
              have hB2 : Below Wq.heap.size Wq w2 := hB1.trans (Below.trans (by (repeat' (first | exact Below.refl _ _ | apply Below.alloc | apply Below.setCell | apply Below.drew | apply below_draws)) <;> (first | omega | (simp <;> omega))) hb2)
              clear hb2 hg2 hat2 e_m0 e_m1
              have hs2 := hB2.size
              have hl2 : Hid (L2.length = L1.length + 1) := by show _ = _; rw [hL2.out]; simp
              go_wp2_with (at_builtin; refine append_rec rowTFac encHit (by decide) rfl _ _ rfl Wq.heap.size _ _ L2 rfl own2 _ _ _ [] (by simp) rfl (srcE_empty _ _ _) (by have := hXl.out; have := hl2.out; simp; omega) (by omega) (by omega) ?_)
              intro N hN g3 c3 w3 own3z hg3 hat3 hb3
              have HN0 : N = L1 ++ [(p, q)] ++ [] := by have e1 := hN.out; have e2 := hL2.out; rw [e1, e2]; try simp
              have hB3z : Below Wq.heap.size Wq w3 := hB2.trans hb3
              clear hb3 hg3 hat3 hN hL2
              have HNX : Hid (N = insAll (L.take (i + 1))) := by show _ = _; rw [HN0, HN.out, HQ.out]
              clear HN0 HN HQ
              go_wp2
              go_roundw
              case rel => exact ⟨i + 1, by omega, by go_num, g3, c3, N, rfl, HNX, own_mono own3z (by omega), hB3.trans (hB3z.mono hB3s)⟩
              case measure => simp [intOf]; omega
    · obtain rfl : i = L.length := by omega
      obtain rfl : R = O := by rw [HR.out, hO.out, List.take_length]
      clear hO HR
      go_wp2
      go_ret
      exact ⟨g, co, ⟨rfl, hown⟩, hB⟩
end Go.Proofs.Yteomiaffdbbpoaa
