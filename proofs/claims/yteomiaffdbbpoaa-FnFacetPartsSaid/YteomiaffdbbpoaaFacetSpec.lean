/-
  Contracts of l16Put, l16Sort, l16Of, spec.FacetOf.
-/
import Derived.Test.YteomiaffdbbpoaaFacetImpl
import Derived.Test.YteomiaffdbbpoaaQw
namespace Go.Proofs.Yteomiaffdbbpoaa
open Go.RowKit Go.Sort Go.Maps
set_option linter.unusedVariables false

def AscF (L : FacL) : Prop := L.Pairwise fun a b => a.1 < b.1
theorem cntI_not {S : List Int} {n : Int} (h : ¬ n ∈ S) : cntI S n = 0 := by
  unfold cntI
  rw [List.countP_eq_zero.2 (fun x hx => by simp; intro e; exact h (e ▸ hx))]; rfl
theorem put1 {X Z : FacL} {n v : Int} {S : List Int} (h1 : AscF (X ++ (n, v) :: Z)) (h2 : OfS (X ++ (n, v) :: Z) S) : AscF (X ++ [(n, v + 1)] ++ Z) ∧ OfS (X ++ [(n, v + 1)] ++ Z) (S ++ [n]) := by
  have hv : n ∈ S ∧ v = cntI S n := (h2 (n, v)).1 (by simp)
  unfold AscF at h1
  rw [List.pairwise_append, List.pairwise_cons] at h1
  obtain ⟨a1, ⟨a2, a3⟩, a4⟩ := h1
  refine ⟨?_, fun p => ?_⟩
  · unfold AscF
    rw [List.append_assoc, List.pairwise_append]
    refine ⟨a1, ?_, fun x hx y hy => ?_⟩
    · simp only [List.singleton_append, List.pairwise_cons]
      exact ⟨a2, a3⟩
    · simp only [List.singleton_append, List.mem_cons] at hy
      rcases hy with rfl | hy
      · exact a4 x hx (n, v) (by simp)
      · exact a4 x hx y (by simp [hy])
  · have h3 := h2 p
    rw [cntI_snoc]
    simp only [List.mem_append, List.mem_cons, List.not_mem_nil, or_false] at h3 ⊢
    by_cases e : n = p.1
    · rw [if_pos e]
      have hX : ¬ p ∈ X := fun hx => by have := a4 p hx (n, v) (by simp); simp at this; omega
      have hZ : ¬ p ∈ Z := fun hz => by have := a2 p hz; simp at this; omega
      constructor
      · rintro ((h | h) | h)
        · exact absurd h hX
        · rw [h]; exact ⟨.inr rfl, by show v + 1 = cntI S n + 1; rw [hv.2]⟩
        · exact absurd h hZ
      · rintro ⟨_, h⟩
        exact .inl (.inr (Prod.ext e.symm (by rw [h, ← e, ← hv.2])))
    · rw [if_neg e]
      have e1 : ¬ p = (n, v + 1) := fun h => e (by rw [h])
      have e2 : ¬ p = (n, v) := fun h => e (by rw [h])
      have e3 : ¬ p.1 = n := fun h => e h.symm
      simp only [e1, e2, e3, or_false, false_or] at h3 ⊢
      exact h3
theorem put2 {X Z : FacL} {n : Int} {S : List Int} (h1 : AscF (X ++ Z)) (h2 : OfS (X ++ Z) S) (hX : ∀ x ∈ X, x.1 < n) (hZ : ∀ z ∈ Z, n < z.1) : AscF (X ++ [(n, 1)] ++ Z) ∧ OfS (X ++ [(n, 1)] ++ Z) (S ++ [n]) := by
  have hn : ¬ n ∈ S := fun h => by
    have := (h2 (n, cntI S n)).2 ⟨h, rfl⟩
    rcases List.mem_append.1 this with h3 | h3
    · have := hX _ h3; simp at this
    · have := hZ _ h3; simp at this
  have hc := cntI_not hn
  unfold AscF at h1
  rw [List.pairwise_append] at h1
  obtain ⟨a1, a3, a4⟩ := h1
  refine ⟨?_, fun p => ?_⟩
  · unfold AscF
    rw [List.append_assoc, List.pairwise_append]
    refine ⟨a1, ?_, fun x hx y hy => ?_⟩
    · simp only [List.singleton_append, List.pairwise_cons]
      exact ⟨fun z hz => hZ z hz, a3⟩
    · simp only [List.singleton_append, List.mem_cons] at hy
      rcases hy with rfl | hy
      · exact hX x hx
      · exact a4 x hx y hy
  · have h3 := h2 p
    rw [cntI_snoc]
    simp only [List.mem_append, List.mem_cons, List.not_mem_nil, or_false] at h3 ⊢
    by_cases e : n = p.1
    · rw [if_pos e]
      have hX' : ¬ p ∈ X := fun hx => by have := hX p hx; omega
      have hZ' : ¬ p ∈ Z := fun hz => by have := hZ p hz; omega
      constructor
      · rintro ((h | h) | h)
        · exact absurd h hX'
        · rw [h]; exact ⟨.inr rfl, by rw [hc]; rfl⟩
        · exact absurd h hZ'
      · rintro ⟨_, h⟩
        exact .inl (.inr (Prod.ext e.symm (by rw [h, ← e, hc]; rfl)))
    · rw [if_neg e]
      have e1 : ¬ p = (n, 1) := fun h => e (by rw [h])
      have e3 : ¬ p.1 = n := fun h => e h.symm
      simp only [e1, e3, or_false] at h3 ⊢
      exact h3
def PutF (L : FacL) (S : List Int) (n : Int) (w : World) (e : Ending) (w' : World) : Prop :=
  ∃ g c N, (e = .returned (.slice (some ⟨g, 0, none⟩) N.length c) ∧ AscF N ∧ OfS N (S ++ [n]) ∧ N.length ≤ L.length + 1 ∧ OwnE enc2 73 2 w' w.heap.size g c N) ∧ Below w.heap.size w w'
set_option maxRecDepth 4000 in
set_option maxHeartbeats 1600000 in
theorem l16Put_any (A : Option Addr) (c : Nat) (L : FacL) (S : List Int) (n : Int) (Wq : World) (hq : SrcE enc2 2 Wq A c L) (hn : L.length ≤ 1048576) (hcap : L.length ≤ c) (hcm : c ≤ 9223372036854775807) (hasc : AscF L) (hof : OfS L S) (hcnt : ∀ p ∈ L, 0 ≤ p.2 ∧ p.2 ≤ 1048576) :
    Calls Try.prog 107 #[.slice A L.length c, .int .i64 n] Wq (PutF L S n Wq) := by
  have HASC := Lib.hid hasc
  have HOF := Lib.hid hof
  have HCNT := Lib.hid hcnt
  have h := hq
  clear hasc hof hcnt
  go_enter Try.func107, Try.ntmps107
  go_wp2_with fail
  go_loop [5] (fun iv => ∃ k : Nat, k ≤ L.length ∧ iv = .int .i64 k ∧ Hid (∀ x ∈ L.take k, x.1 < n)) (fun iv => L.length - (intOf iv).toNat)
  case atStart => exact ⟨0, Nat.zero_le _, rfl, fun x hx => by simp at hx⟩
  case round =>
    obtain ⟨k, hk, rfl, hlo⟩ := hrel
    by_cases hlt : k < L.length
    · obtain ⟨b, off, rfl, hbq, x0, x1⟩ := hq.1.at2 hlt
      have hi0 : (k : Int) < (L.length : Int) := by omega
      have hkc : k ≤ c := by omega
      have hsp : L = L.take k ++ L[k] :: L.drop (k + 1) := by rw [← List.drop_eq_getElem_cons hlt, List.take_append_drop]
      by_cases hls : L[k].1 < n
      · have HLO : Hid (∀ x ∈ L.take (k + 1), x.1 < n) := fun x hx => by
          rw [← List.take_append_getElem hlt, List.mem_append] at hx
          rcases hx with hx | hx
          · exact hlo.out x hx
          · simp at hx; rw [hx]; exact hls
        clear hlo hsp
        generalize L[k].1 = p at x0 hls
        go_wp2
        go_round
        case rel => exact ⟨k + 1, by omega, by go_num, HLO⟩
        case measure => simp [intOf]; omega
      · by_cases heq : L[k].1 = n
        · have hv := HCNT.out _ (List.getElem_mem hlt)
          have e3 : L[k] = (L[k].1, L[k].2) := rfl
          rw [e3, heq] at hsp
          have hp1 := put1 (X := L.take k) (Z := L.drop (k + 1)) (n := n) (v := L[k].2) (S := S) (by rw [← hsp]; exact HASC.out) (by rw [← hsp]; exact HOF.out)
          rw [heq] at x0
          generalize L[k].2 = v at x1 hv hp1
          have HP := Lib.hid hp1
          clear hsp e3 hp1 hls heq hlo
          have hT : SrcE enc2 2 Wq (some ⟨b, off, none⟩) c (L.take k) := hq.take encHit hk
          have hD : SrcE enc2 2 Wq (some ⟨b, off + (k + 1) * 2, none⟩) (c - (k + 1)) (L.drop (k + 1)) := hq.drop encHit rfl
          have hXl : Hid (k = (L.take k).length) := by show _ = _; rw [List.length_take, Nat.min_eq_left hk]
          have hYl : Hid (L.length - (k + 1) = (L.drop (k + 1)).length) := by show _ = _; rw [List.length_drop]
          have hyn : Hid (k + 1 = L.length → L.drop (k + 1) = []) := fun h9 => List.drop_of_length_le (by omega)
          generalize L.take k = X at hT hXl HP
          generalize L.drop (k + 1) = Y at hD hYl hyn HP
          have hk1 : (k : Int) + 1 ≤ (c : Int) := by omega
          have hk2 : (k : Int) + 1 ≤ (L.length : Int) := by omega
          by_cases hcc : c = k + 1
          · have hYe : Y = [] := hyn.out (by omega)
            subst hYe
            have hll : L.length = k + 1 := by omega
            subst hcc
            have own0 := ownE_made (enc := enc2) (F := 2) 73 Wq Wq.heap.size (Nat.le_refl _)
            go_wp2_with (at_builtin; refine append_rec rowTFac encHit (by decide) rfl _ _ rfl Wq.heap.size _ _ [] rfl own0 _ _ _ X hXl.out rfl (hT.below (by (repeat' (first | exact Below.refl _ _ | apply Below.alloc | apply Below.setCell | apply Below.drew | apply below_draws)) <;> (first | omega | (simp <;> omega)))) (by simp; have := hXl.out; omega) (by omega) (by simp <;> omega) ?_)
            intro L1 hL1 g1 c1 w1 own1 hg1 hat1 hb1
            obtain rfl : L1 = X := hL1.out
            have hB1 : Below Wq.heap.size Wq w1 := Below.trans (by (repeat' (first | exact Below.refl _ _ | apply Below.alloc | apply Below.setCell | apply Below.drew | apply below_draws)) <;> (first | omega | (simp <;> omega))) hb1
            clear hb1 hL1 hg1 hat1
            have hs1 := hB1.size
            have e_x0 := (hB1.cell (p := ⟨_, _, none⟩) hbq).trans x0
            have e_x1 := (hB1.cell (p := ⟨_, _, none⟩) hbq).trans x1
            go_wp2_with (at_builtin; refine append_rec rowTFac encHit (by decide) rfl _ _ rfl Wq.heap.size _ _ L1 rfl (own1.alloc _) _ _ _ [(n, v + 1)] rfl rfl (SrcE.lit encHit _ _ #[.int .i64 n, .int .i64 (v + 1)] [(n, v + 1)] rfl 1) (by simp; have := hXl.out; omega) (by omega) (by simp <;> omega) ?_)
            intro L2 hL2 g2 c2 w2 own2 hg2 hat2 hb2
            have hB2 : Below Wq.heap.size Wq w2 := hB1.trans (Below.trans (by (repeat' (first | exact Below.refl _ _ | apply Below.alloc | apply Below.setCell | apply Below.drew | apply below_draws)) <;> (first | omega | (simp <;> omega))) hb2)
            clear hb2 hg2 hat2 e_x0 e_x1
            have hs2 := hB2.size
            have hl2 : Hid (L2.length = L1.length + 1) := by show _ = _; rw [hL2.out]; simp
            go_wp2_with (at_builtin; refine append_rec rowTFac encHit (by decide) rfl _ _ rfl Wq.heap.size _ _ L2 rfl own2 _ _ _ [] (by simp) rfl (srcE_empty _ _ _) (by have := hXl.out; have := hl2.out; simp; omega) (by omega) (by omega) ?_)
            intro N hN g3 c3 w3 own3 hg3 hat3 hb3
            have HN : N = L1 ++ [(n, v + 1)] ++ [] := by have e1 := hN.out; have e2 := hL2.out; rw [e1, e2]; try simp
            have hB3 : Below Wq.heap.size Wq w3 := hB2.trans hb3
            clear hb3 hg3 hat3 hN hL2
            obtain rfl : N = L1 ++ [(n, v + 1)] ++ [] := HN
            have hNl : (L1 ++ [(n, v + 1)] ++ []).length ≤ L.length + 1 := by have := hXl.out;  rw [List.length_append, List.length_append]; simp only [List.length_cons, List.length_nil]; omega
            go_wp2
            go_ret
            exact ⟨g3, c3, _, ⟨rfl, HP.out.1, HP.out.2, hNl, own3⟩, hB3⟩
          · skip
            have own0 := ownE_made (enc := enc2) (F := 2) 73 Wq Wq.heap.size (Nat.le_refl _)
            go_wp2_with (at_builtin; refine append_rec rowTFac encHit (by decide) rfl _ _ rfl Wq.heap.size _ _ [] rfl own0 _ _ _ X hXl.out rfl (hT.below (by (repeat' (first | exact Below.refl _ _ | apply Below.alloc | apply Below.setCell | apply Below.drew | apply below_draws)) <;> (first | omega | (simp <;> omega)))) (by simp; have := hXl.out; omega) (by omega) (by simp <;> omega) ?_)
            intro L1 hL1 g1 c1 w1 own1 hg1 hat1 hb1
            obtain rfl : L1 = X := hL1.out
            have hB1 : Below Wq.heap.size Wq w1 := Below.trans (by (repeat' (first | exact Below.refl _ _ | apply Below.alloc | apply Below.setCell | apply Below.drew | apply below_draws)) <;> (first | omega | (simp <;> omega))) hb1
            clear hb1 hL1 hg1 hat1
            have hs1 := hB1.size
            have e_x0 := (hB1.cell (p := ⟨_, _, none⟩) hbq).trans x0
            have e_x1 := (hB1.cell (p := ⟨_, _, none⟩) hbq).trans x1
            go_wp2_with (at_builtin; refine append_rec rowTFac encHit (by decide) rfl _ _ rfl Wq.heap.size _ _ L1 rfl (own1.alloc _) _ _ _ [(n, v + 1)] rfl rfl (SrcE.lit encHit _ _ #[.int .i64 n, .int .i64 (v + 1)] [(n, v + 1)] rfl 1) (by simp; have := hXl.out; omega) (by omega) (by simp <;> omega) ?_)
            intro L2 hL2 g2 c2 w2 own2 hg2 hat2 hb2
            have hB2 : Below Wq.heap.size Wq w2 := hB1.trans (Below.trans (by (repeat' (first | exact Below.refl _ _ | apply Below.alloc | apply Below.setCell | apply Below.drew | apply below_draws)) <;> (first | omega | (simp <;> omega))) hb2)
            clear hb2 hg2 hat2 e_x0 e_x1
            have hs2 := hB2.size
            have hl2 : Hid (L2.length = L1.length + 1) := by show _ = _; rw [hL2.out]; simp
            go_wp2_with (at_builtin; refine append_rec rowTFac encHit (by decide) rfl _ _ rfl Wq.heap.size _ _ L2 rfl own2 _ _ _ Y hYl.out rfl (hD.below hB2) (by have := hXl.out; have := hl2.out; have := hYl.out; omega) (by omega) (by omega) ?_)
            intro N hN g3 c3 w3 own3 hg3 hat3 hb3
            have HN : N = L1 ++ [(n, v + 1)] ++ Y := by have e1 := hN.out; have e2 := hL2.out; rw [e1, e2]; try simp
            have hB3 : Below Wq.heap.size Wq w3 := hB2.trans hb3
            clear hb3 hg3 hat3 hN hL2
            obtain rfl : N = L1 ++ [(n, v + 1)] ++ Y := HN
            have hNl : (L1 ++ [(n, v + 1)] ++ Y).length ≤ L.length + 1 := by have := hXl.out; have := hYl.out; rw [List.length_append, List.length_append]; simp only [List.length_cons, List.length_nil]; omega
            go_wp2
            go_ret
            exact ⟨g3, c3, _, ⟨rfl, HP.out.1, HP.out.2, hNl, own3⟩, hB3⟩
        · have hZ : ∀ z ∈ L.drop k, n < z.1 := fun z hz => by
            rw [List.drop_eq_getElem_cons hlt] at hz
            rcases List.mem_cons.1 hz with rfl | hz
            · omega
            · have h9 := HASC.out
              unfold AscF at h9
              rw [hsp, List.pairwise_append, List.pairwise_cons] at h9
              have := h9.2.1.1 z hz
              omega
          have hp2 := put2 (X := L.take k) (Z := L.drop k) (n := n) (S := S) (by rw [List.take_append_drop]; exact HASC.out) (by rw [List.take_append_drop]; exact HOF.out) hlo.out hZ
          generalize L[k].1 = p at x0 hls heq
          have HP := Lib.hid hp2
          clear hsp hp2 hZ hlo
          have hqe : (p == n) = false := by simpa using heq
          have hT : SrcE enc2 2 Wq (some ⟨b, off, none⟩) c (L.take k) := hq.take encHit hk
          have hD : SrcE enc2 2 Wq (some ⟨b, off + k * 2, none⟩) (c - k) (L.drop k) := hq.drop encHit rfl
          have hXl : Hid (k = (L.take k).length) := by show _ = _; rw [List.length_take, Nat.min_eq_left hk]
          have hYl : Hid (L.length - k = (L.drop k).length) := by show _ = _; rw [List.length_drop]
          generalize L.take k = X at hT hXl HP
          generalize L.drop k = Y at hD hYl HP
          have own0 := ownE_made (enc := enc2) (F := 2) 73 Wq Wq.heap.size (Nat.le_refl _)
          go_wp2_with (at_builtin; refine append_rec rowTFac encHit (by decide) rfl _ _ rfl Wq.heap.size _ _ [] rfl own0 _ _ _ X hXl.out rfl (hT.below (by (repeat' (first | exact Below.refl _ _ | apply Below.alloc | apply Below.setCell | apply Below.drew | apply below_draws)) <;> (first | omega | (simp <;> omega)))) (by simp; have := hXl.out; omega) (by omega) (by simp <;> omega) ?_)
          intro L1 hL1 g1 c1 w1 own1 hg1 hat1 hb1
          obtain rfl : L1 = X := hL1.out
          have hB1 : Below Wq.heap.size Wq w1 := Below.trans (by (repeat' (first | exact Below.refl _ _ | apply Below.alloc | apply Below.setCell | apply Below.drew | apply below_draws)) <;> (first | omega | (simp <;> omega))) hb1
          clear hb1 hL1 hg1 hat1
          have hs1 := hB1.size
          have e_x0 := (hB1.cell (p := ⟨_, _, none⟩) hbq).trans x0
          go_wp2_with (at_builtin; refine append_rec rowTFac encHit (by decide) rfl _ _ rfl Wq.heap.size _ _ L1 rfl (own1.alloc _) _ _ _ [(n, 1)] rfl rfl (SrcE.lit encHit _ _ #[.int .i64 n, .int .i64 1] [(n, 1)] rfl 1) (by simp; have := hXl.out; omega) (by omega) (by simp <;> omega) ?_)
          intro L2 hL2 g2 c2 w2 own2 hg2 hat2 hb2
          have hB2 : Below Wq.heap.size Wq w2 := hB1.trans (Below.trans (by (repeat' (first | exact Below.refl _ _ | apply Below.alloc | apply Below.setCell | apply Below.drew | apply below_draws)) <;> (first | omega | (simp <;> omega))) hb2)
          clear hb2 hg2 hat2 e_x0
          have hs2 := hB2.size
          have hl2 : Hid (L2.length = L1.length + 1) := by show _ = _; rw [hL2.out]; simp
          go_wp2_with (at_builtin; refine append_rec rowTFac encHit (by decide) rfl _ _ rfl Wq.heap.size _ _ L2 rfl own2 _ _ _ Y hYl.out rfl (hD.below hB2) (by have := hXl.out; have := hl2.out; have := hYl.out; omega) (by omega) (by omega) ?_)
          intro N hN g3 c3 w3 own3 hg3 hat3 hb3
          have HN : N = L1 ++ [(n, 1)] ++ Y := by have e1 := hN.out; have e2 := hL2.out; rw [e1, e2]; try simp
          have hB3 : Below Wq.heap.size Wq w3 := hB2.trans hb3
          clear hb3 hg3 hat3 hN hL2
          obtain rfl : N = L1 ++ [(n, 1)] ++ Y := HN
          have hNl : (L1 ++ [(n, 1)] ++ Y).length ≤ L.length + 1 := by have := hXl.out; have := hYl.out; rw [List.length_append, List.length_append]; simp only [List.length_cons, List.length_nil]; omega
          go_wp2
          go_ret
          exact ⟨g3, c3, _, ⟨rfl, HP.out.1, HP.out.2, hNl, own3⟩, hB3⟩
    · obtain rfl : k = L.length := by omega
      have hp2 := put2 (X := L) (Z := []) (n := n) (S := S) (by rw [List.append_nil]; exact HASC.out) (by rw [List.append_nil]; exact HOF.out) (fun x hx => hlo.out x (by rw [List.take_length]; exact hx)) (fun z hz => by simp at hz)
      have HP := Lib.hid hp2
      have hi0 : ¬ (L.length : Int) < (L.length : Int) := by omega
      clear hlo hp2
      obtain ⟨X, hX⟩ : ∃ X, X = L := ⟨_, rfl⟩
      have hT : SrcE enc2 2 Wq A c X := by rw [hX]; exact hq
      have hXl : Hid (L.length = X.length) := by show _ = _; rw [hX]
      rw [← hX] at HP
      clear hX
      by_cases hL0 : L.length = 0
      · obtain rfl : L = [] := List.length_eq_zero_iff.1 hL0
        clear hL0
        simp only [List.length_nil] at *
        rcases h.2 with ⟨rfl, rfl⟩ | ⟨ad, rfl⟩
        · skip
          have own0 := ownE_made (enc := enc2) (F := 2) 73 Wq Wq.heap.size (Nat.le_refl _)
          go_wp2_with (at_builtin; refine append_rec rowTFac encHit (by decide) rfl _ _ rfl Wq.heap.size _ _ [] rfl own0 _ _ _ X hXl.out rfl (hT.below (by (repeat' (first | exact Below.refl _ _ | apply Below.alloc | apply Below.setCell | apply Below.drew | apply below_draws)) <;> (first | omega | (simp <;> omega)))) (by simp; have := hXl.out; omega) (by omega) (by simp <;> omega) ?_)
          intro L1 hL1 g1 c1 w1 own1 hg1 hat1 hb1
          obtain rfl : L1 = X := hL1.out
          have hB1 : Below Wq.heap.size Wq w1 := Below.trans (by (repeat' (first | exact Below.refl _ _ | apply Below.alloc | apply Below.setCell | apply Below.drew | apply below_draws)) <;> (first | omega | (simp <;> omega))) hb1
          clear hb1 hL1 hg1 hat1
          have hs1 := hB1.size
          go_wp2_with (at_builtin; refine append_rec rowTFac encHit (by decide) rfl _ _ rfl Wq.heap.size _ _ L1 rfl (own1.alloc _) _ _ _ [(n, 1)] rfl rfl (SrcE.lit encHit _ _ #[.int .i64 n, .int .i64 1] [(n, 1)] rfl 1) (by simp; have := hXl.out; omega) (by omega) (by simp <;> omega) ?_)
          intro L2 hL2 g2 c2 w2 own2 hg2 hat2 hb2
          have hB2 : Below Wq.heap.size Wq w2 := hB1.trans (Below.trans (by (repeat' (first | exact Below.refl _ _ | apply Below.alloc | apply Below.setCell | apply Below.drew | apply below_draws)) <;> (first | omega | (simp <;> omega))) hb2)
          clear hb2 hg2 hat2
          have hs2 := hB2.size
          have hl2 : Hid (L2.length = L1.length + 1) := by show _ = _; rw [hL2.out]; simp
          go_wp2_with (at_builtin; refine append_rec rowTFac encHit (by decide) rfl _ _ rfl Wq.heap.size _ _ L2 rfl own2 _ _ _ [] (by simp) rfl (SrcE.nil_ _ 0) (by have := hXl.out; have := hl2.out; simp; omega) (by omega) (by omega) ?_)
          intro N hN g3 c3 w3 own3 hg3 hat3 hb3
          have HN : N = L1 ++ [(n, 1)] ++ [] := by have e1 := hN.out; have e2 := hL2.out; rw [e1, e2]; try simp
          have hB3 : Below Wq.heap.size Wq w3 := hB2.trans hb3
          clear hb3 hg3 hat3 hN hL2
          obtain rfl : N = L1 ++ [(n, 1)] ++ [] := HN
          have hNl : (L1 ++ [(n, 1)] ++ []).length ≤ 0 + 1 := by have := hXl.out;  rw [List.length_append, List.length_append]; simp only [List.length_cons, List.length_nil]; omega
          go_wp2
          go_ret
          exact ⟨g3, c3, _, ⟨rfl, HP.out.1, HP.out.2, hNl, own3⟩, hB3⟩
        · skip
          have own0 := ownE_made (enc := enc2) (F := 2) 73 Wq Wq.heap.size (Nat.le_refl _)
          go_wp2_with (at_builtin; refine append_rec rowTFac encHit (by decide) rfl _ _ rfl Wq.heap.size _ _ [] rfl own0 _ _ _ X hXl.out rfl (hT.below (by (repeat' (first | exact Below.refl _ _ | apply Below.alloc | apply Below.setCell | apply Below.drew | apply below_draws)) <;> (first | omega | (simp <;> omega)))) (by simp; have := hXl.out; omega) (by omega) (by simp <;> omega) ?_)
          intro L1 hL1 g1 c1 w1 own1 hg1 hat1 hb1
          obtain rfl : L1 = X := hL1.out
          have hB1 : Below Wq.heap.size Wq w1 := Below.trans (by (repeat' (first | exact Below.refl _ _ | apply Below.alloc | apply Below.setCell | apply Below.drew | apply below_draws)) <;> (first | omega | (simp <;> omega))) hb1
          clear hb1 hL1 hg1 hat1
          have hs1 := hB1.size
          go_wp2_with (at_builtin; refine append_rec rowTFac encHit (by decide) rfl _ _ rfl Wq.heap.size _ _ L1 rfl (own1.alloc _) _ _ _ [(n, 1)] rfl rfl (SrcE.lit encHit _ _ #[.int .i64 n, .int .i64 1] [(n, 1)] rfl 1) (by simp; have := hXl.out; omega) (by omega) (by simp <;> omega) ?_)
          intro L2 hL2 g2 c2 w2 own2 hg2 hat2 hb2
          have hB2 : Below Wq.heap.size Wq w2 := hB1.trans (Below.trans (by (repeat' (first | exact Below.refl _ _ | apply Below.alloc | apply Below.setCell | apply Below.drew | apply below_draws)) <;> (first | omega | (simp <;> omega))) hb2)
          clear hb2 hg2 hat2
          have hs2 := hB2.size
          have hl2 : Hid (L2.length = L1.length + 1) := by show _ = _; rw [hL2.out]; simp
          go_wp2_with (at_builtin; refine append_rec rowTFac encHit (by decide) rfl _ _ rfl Wq.heap.size _ _ L2 rfl own2 _ _ _ [] (by simp) rfl (srcE_empty _ _ _) (by have := hXl.out; have := hl2.out; simp; omega) (by omega) (by omega) ?_)
          intro N hN g3 c3 w3 own3 hg3 hat3 hb3
          have HN : N = L1 ++ [(n, 1)] ++ [] := by have e1 := hN.out; have e2 := hL2.out; rw [e1, e2]; try simp
          have hB3 : Below Wq.heap.size Wq w3 := hB2.trans hb3
          clear hb3 hg3 hat3 hN hL2
          obtain rfl : N = L1 ++ [(n, 1)] ++ [] := HN
          have hNl : (L1 ++ [(n, 1)] ++ []).length ≤ 0 + 1 := by have := hXl.out;  rw [List.length_append, List.length_append]; simp only [List.length_cons, List.length_nil]; omega
          go_wp2
          go_ret
          exact ⟨g3, c3, _, ⟨rfl, HP.out.1, HP.out.2, hNl, own3⟩, hB3⟩
      · obtain ⟨b, off, rfl, _⟩ := h.1.2 (by omega)
        by_cases hcc : c = L.length
        · subst hcc
          have own0 := ownE_made (enc := enc2) (F := 2) 73 Wq Wq.heap.size (Nat.le_refl _)
          go_wp2_with (at_builtin; refine append_rec rowTFac encHit (by decide) rfl _ _ rfl Wq.heap.size _ _ [] rfl own0 _ _ _ X hXl.out rfl (hT.below (by (repeat' (first | exact Below.refl _ _ | apply Below.alloc | apply Below.setCell | apply Below.drew | apply below_draws)) <;> (first | omega | (simp <;> omega)))) (by simp; have := hXl.out; omega) (by omega) (by simp <;> omega) ?_)
          intro L1 hL1 g1 c1 w1 own1 hg1 hat1 hb1
          obtain rfl : L1 = X := hL1.out
          have hB1 : Below Wq.heap.size Wq w1 := Below.trans (by (repeat' (first | exact Below.refl _ _ | apply Below.alloc | apply Below.setCell | apply Below.drew | apply below_draws)) <;> (first | omega | (simp <;> omega))) hb1
          clear hb1 hL1 hg1 hat1
          have hs1 := hB1.size
          go_wp2_with (at_builtin; refine append_rec rowTFac encHit (by decide) rfl _ _ rfl Wq.heap.size _ _ L1 rfl (own1.alloc _) _ _ _ [(n, 1)] rfl rfl (SrcE.lit encHit _ _ #[.int .i64 n, .int .i64 1] [(n, 1)] rfl 1) (by simp; have := hXl.out; omega) (by omega) (by simp <;> omega) ?_)
          intro L2 hL2 g2 c2 w2 own2 hg2 hat2 hb2
          have hB2 : Below Wq.heap.size Wq w2 := hB1.trans (Below.trans (by (repeat' (first | exact Below.refl _ _ | apply Below.alloc | apply Below.setCell | apply Below.drew | apply below_draws)) <;> (first | omega | (simp <;> omega))) hb2)
          clear hb2 hg2 hat2
          have hs2 := hB2.size
          have hl2 : Hid (L2.length = L1.length + 1) := by show _ = _; rw [hL2.out]; simp
          go_wp2_with (at_builtin; refine append_rec rowTFac encHit (by decide) rfl _ _ rfl Wq.heap.size _ _ L2 rfl own2 _ _ _ [] (by simp) rfl (srcE_empty _ _ _) (by have := hXl.out; have := hl2.out; simp; omega) (by omega) (by omega) ?_)
          intro N hN g3 c3 w3 own3 hg3 hat3 hb3
          have HN : N = L1 ++ [(n, 1)] ++ [] := by have e1 := hN.out; have e2 := hL2.out; rw [e1, e2]; try simp
          have hB3 : Below Wq.heap.size Wq w3 := hB2.trans hb3
          clear hb3 hg3 hat3 hN hL2
          obtain rfl : N = L1 ++ [(n, 1)] ++ [] := HN
          have hNl : (L1 ++ [(n, 1)] ++ []).length ≤ L.length + 1 := by have := hXl.out;  rw [List.length_append, List.length_append]; simp only [List.length_cons, List.length_nil]; omega
          go_wp2
          go_ret
          exact ⟨g3, c3, _, ⟨rfl, HP.out.1, HP.out.2, hNl, own3⟩, hB3⟩
        · skip
          have own0 := ownE_made (enc := enc2) (F := 2) 73 Wq Wq.heap.size (Nat.le_refl _)
          go_wp2_with (at_builtin; refine append_rec rowTFac encHit (by decide) rfl _ _ rfl Wq.heap.size _ _ [] rfl own0 _ _ _ X hXl.out rfl (hT.below (by (repeat' (first | exact Below.refl _ _ | apply Below.alloc | apply Below.setCell | apply Below.drew | apply below_draws)) <;> (first | omega | (simp <;> omega)))) (by simp; have := hXl.out; omega) (by omega) (by simp <;> omega) ?_)
          intro L1 hL1 g1 c1 w1 own1 hg1 hat1 hb1
          obtain rfl : L1 = X := hL1.out
          have hB1 : Below Wq.heap.size Wq w1 := Below.trans (by (repeat' (first | exact Below.refl _ _ | apply Below.alloc | apply Below.setCell | apply Below.drew | apply below_draws)) <;> (first | omega | (simp <;> omega))) hb1
          clear hb1 hL1 hg1 hat1
          have hs1 := hB1.size
          go_wp2_with (at_builtin; refine append_rec rowTFac encHit (by decide) rfl _ _ rfl Wq.heap.size _ _ L1 rfl (own1.alloc _) _ _ _ [(n, 1)] rfl rfl (SrcE.lit encHit _ _ #[.int .i64 n, .int .i64 1] [(n, 1)] rfl 1) (by simp; have := hXl.out; omega) (by omega) (by simp <;> omega) ?_)
          intro L2 hL2 g2 c2 w2 own2 hg2 hat2 hb2
          have hB2 : Below Wq.heap.size Wq w2 := hB1.trans (Below.trans (by (repeat' (first | exact Below.refl _ _ | apply Below.alloc | apply Below.setCell | apply Below.drew | apply below_draws)) <;> (first | omega | (simp <;> omega))) hb2)
          clear hb2 hg2 hat2
          have hs2 := hB2.size
          have hl2 : Hid (L2.length = L1.length + 1) := by show _ = _; rw [hL2.out]; simp
          go_wp2_with (at_builtin; refine append_rec rowTFac encHit (by decide) rfl _ _ rfl Wq.heap.size _ _ L2 rfl own2 _ _ _ [] (by simp) rfl (srcE_empty _ _ _) (by have := hXl.out; have := hl2.out; simp; omega) (by omega) (by omega) ?_)
          intro N hN g3 c3 w3 own3 hg3 hat3 hb3
          have HN : N = L1 ++ [(n, 1)] ++ [] := by have e1 := hN.out; have e2 := hL2.out; rw [e1, e2]; try simp
          have hB3 : Below Wq.heap.size Wq w3 := hB2.trans hb3
          clear hb3 hg3 hat3 hN hL2
          obtain rfl : N = L1 ++ [(n, 1)] ++ [] := HN
          have hNl : (L1 ++ [(n, 1)] ++ []).length ≤ L.length + 1 := by have := hXl.out;  rw [List.length_append, List.length_append]; simp only [List.length_cons, List.length_nil]; omega
          go_wp2
          go_ret
          exact ⟨g3, c3, _, ⟨rfl, HP.out.1, HP.out.2, hNl, own3⟩, hB3⟩
end Go.Proofs.Yteomiaffdbbpoaa
