/-
  Contract of impl.knots: the tree of points.
-/
import Derived.Test.YtbmbejomodkabaaKnotKit
import Derived.Deep.RegionHeld3
namespace Go.Proofs.Ytbmbejomodkabaa
open Go.RowKit Go.Sort
set_option linter.unusedVariables false

set_option maxRecDepth 8000 in
set_option maxHeartbeats 16000000 in
theorem knots_any : ∀ (n : Nat) (A : Option Addr) (c m : Nat) (L : List Pt) (w : World), SrcE encPt 3 w A c L → L.length ≤ n → n ≤ 1048576 → m + n ≤ 2097152 →
    Calls Try.prog 33 #[.slice A L.length c, .int .i64 (m : Int)] w (MakesK (knF n (m % 2 == 1) L) w) := by
  intro n
  induction n with
  | zero =>
    intro A c m L w h hl hn hm
    obtain rfl : L = [] := List.length_eq_zero_iff.1 (by omega)
    rw [knF_nil]
    go_enter Try.func33, Try.ntmps33
    go_wp2
    go_ret
    exact ⟨_, 0, ⟨rfl, ownE_made (enc := encKn) (F := 8) 33 w w.heap.size (Nat.le_refl _)⟩, (Below.refl _ _).alloc (Nat.le_refl _) _⟩
  | succ n ih =>
    intro A c m L w h hl hn hm
    rcases Nat.eq_zero_or_pos L.length with h0 | h0
    · obtain rfl : L = [] := List.length_eq_zero_iff.1 h0
      rw [knF_nil]
      clear ih
      go_enter Try.func33, Try.ntmps33
      go_wp2
      go_ret
      exact ⟨_, 0, ⟨rfl, ownE_made (enc := encKn) (F := 8) 33 w w.heap.size (Nat.le_refl _)⟩, (Below.refl _ _).alloc (Nat.le_refl _) _⟩
    · obtain ⟨P, hP⟩ : ∃ P, P = sortP (m % 2 == 1) L := ⟨_, rfl⟩
      have hPl : P.length = L.length := by rw [hP, sortP_len]
      obtain ⟨k, hkd⟩ : ∃ k, k = P.length / 2 := ⟨_, rfl⟩
      have hkl : k < P.length := by omega
      have hq2k : (P.length : Int) / 2 = (k : Int) := by omega
      have HK : knF (n + 1) (m % 2 == 1) L = node P k P[k] P[k] :: (knF n (!(m % 2 == 1)) (P.take k) ++ knF n (!(m % 2 == 1)) (P.drop (k + 1))) := by
        subst hkd
        exact knF_cons hP hkl
      have hflip : ((m + 1) % 2 == 1) = !(m % 2 == 1) := by
        rcases Nat.mod_two_eq_zero_or_one m with h9 | h9
        · have : (m + 1) % 2 = 1 := by omega
          rw [h9, this]; rfl
        · have : (m + 1) % 2 = 0 := by omega
          rw [h9, this]; rfl
      rw [HK, ← hflip]
      have IH1 := fun A c w h => ih A c (m + 1) (P.take (k)) w h (by rw [List.length_take]; omega) (by omega) (by omega)
      have IH2 := fun A c w h => ih A c (m + 1) (P.drop (k + 1)) w h (by rw [List.length_drop]; omega) (by omega) (by omega)
      have HIH1 := Lib.hid IH1
      have HIH2 := Lib.hid IH2
      have hT1 : (P.take (k)).length = k := by rw [List.length_take]; omega
      have hT2 : (P.drop (k + 1)).length = P.length - (k + 1) := by rw [List.length_drop]
      have hlK1 := knF_len n ((m + 1) % 2 == 1) (P.take (k)) (by omega)
      have hlK2 := knF_len n ((m + 1) % 2 == 1) (P.drop (k + 1)) (by omega)
      rw [hT1] at hlK1
      rw [hT2] at hlK2
      have HMEM : Hid (∀ v ∈ P, node P (k) P[k] v = node P (k) P[k] P[k]) := fun v hv => node_eq hv (List.getElem_mem _)
      have em : ((m + 1 : Nat) : Int) = (m : Int) + 1 := by push_cast; rfl
      rw [hT1, em] at HIH1
      rw [hT2, em] at HIH2
      have HT1 := Lib.hid hT1
      have HT2 := Lib.hid hT2
      have HlK1 := Lib.hid hlK1
      have HlK2 := Lib.hid hlK2
      clear ih HK hflip IH1 IH2 hkd em hT1 hT2 hlK1 hlK2
      generalize knF n ((m + 1) % 2 == 1) (P.take (k)) = K1 at HIH1 HlK1 ⊢
      generalize knF n ((m + 1) % 2 == 1) (P.drop (k + 1)) = K2 at HIH2 HlK2 ⊢
      have hne0 : ((L.length : Int) == 0) = false := beq_eq_false_iff_ne.2 (by omega)
      have own0 := ownE_made (enc := encPt) (F := 3) 29 w w.heap.size (Nat.le_refl _)
      have hB0 : Below w.heap.size w (w.alloc (.cells #[] 29)) := (Below.refl _ _).alloc (Nat.le_refl _) _
      go_enter Try.func33, Try.ntmps33
      go_wp2_with (go_loud (at_builtin; refine append_rec rowTPoint encPt_ok (by decide) rfl _ _ rfl w.heap.size _ _ [] rfl own0 _ _ _ L rfl rfl (h.below hB0) (by simp; omega) (by omega) (by simp <;> omega) ?_))
      intro L1 hL1 g1 c1 w1 own1 hg1 hat1 hb1
      obtain rfl : L1 = L := by have := hL1.out; simpa using this
      have hB1 : Below w.heap.size w w1 := hB0.trans hb1
      clear hb1 hL1 hg1 hat1 own0 hB0 h
      have hs1 := hB1.size
      have hg1 := own1.capOk
      go_wp2_with fail
      refine (byAxis_any m _).mono ?_
      rintro e w2 ⟨rfl, rfl⟩
      have own2 := own1.alloc (.cells #[.int .i64 (m : Int)] 3)
      have hbc : (w1.alloc (.cells #[.int .i64 (m : Int)] 3)).cell? ⟨w1.heap.size, 0, none⟩ = some (.int .i64 (m : Int)) := by simp [go_sem]
      have hB2 : Below w.heap.size w (w1.alloc (.cells #[.int .i64 (m : Int)] 3)) := hB1.alloc (by omega) _
      go_wp2_with fail
      refine (sortPt_own g1 c1 w.heap.size w1.heap.size m L1 _ own2 hbc (by omega) (by omega)).mono ?_
      rintro e w3 ⟨N, ⟨rfl, hN, hNl, own3, hg3⟩, hb3⟩
      obtain rfl : N = P := by rw [hN.out, hP]
      clear hN hP own1 own2 hbc hg3
      have hB3 := hB2.trans hb3
      clear hb3 hB2 hB1
      rw [← hPl] at hl ⊢
      have hg1b : g1 < w1.heap.size := hg1.2.2.2
      clear hg1 hNl hne0 h0
      have hHH := Lib.hid hPl
      clear hPl
      have hs3 := hB3.size
      have hcap := own3.capOk
      obtain ⟨q0, q1, q2⟩ := own3.cellsPt hkl
      have HNODE : Hid (∀ a b e f : Int, (a, b, e, f) = bx N N[k] N.length → (⟨N[k].i, N[k].x, N[k].y, (k : Int), a, b, e, f⟩ : Kn) = node N k N[k] N[k]) := fun a b e f h => by
        unfold bx at h
        rw [List.take_length] at h
        simp only [Prod.mk.injEq] at h
        obtain ⟨rfl, rfl, rfl, rfl⟩ := h
        rfl
      obtain ⟨pv, hpv⟩ : ∃ pv, pv = N[k] := ⟨_, rfl⟩
      rw [← hpv] at q0 q1 q2 HNODE
      obtain ⟨pi, px, py⟩ := pv
      have HPV := Lib.hid hpv
      clear hpv HMEM
      simp only at q0 q1 q2
      have own5 := (own3.alloc (.cells #[.int .i64 pi, .int .i64 px, .int .i64 py] 29)).alloc (.cells #[.int .i64 pi, .int .i64 px, .int .i64 py, .int .i64 k, .int .i64 px, .int .i64 px, .int .i64 py, .int .i64 py] 33)
      have hB5 : Below w.heap.size w ((w3.alloc (.cells #[.int .i64 pi, .int .i64 px, .int .i64 py] 29)).alloc (.cells #[.int .i64 pi, .int .i64 px, .int .i64 py, .int .i64 k, .int .i64 px, .int .i64 px, .int .i64 py, .int .i64 py] 33)) := hB3.trans (by (repeat' (first | exact Below.refl _ _ | apply Below.alloc | apply Below.setCell | apply Below.drew | apply below_draws)) <;> (first | omega | (simp <;> omega)))
      have hk5 : ((w3.alloc (.cells #[.int .i64 pi, .int .i64 px, .int .i64 py] 29)).alloc (.cells #[.int .i64 pi, .int .i64 px, .int .i64 py, .int .i64 k, .int .i64 px, .int .i64 px, .int .i64 py, .int .i64 py] 33)).heap[w3.heap.size + 1]? = some (.cells #[.int .i64 pi, .int .i64 px, .int .i64 py, .int .i64 k, .int .i64 px, .int .i64 px, .int .i64 py, .int .i64 py] 33 (0, 0)) := by
        have := heap_alloc_new (w3.alloc (.cells #[.int .i64 pi, .int .i64 px, .int .i64 py] 29)) (.cells #[.int .i64 pi, .int .i64 px, .int .i64 py, .int .i64 k, .int .i64 px, .int .i64 px, .int .i64 py, .int .i64 py] 33)
        simpa using this
      have hgk : w.heap.size ≤ w3.heap.size + 1 := by omega
      have hgn : w3.heap.size + 1 ≠ g1 := by omega
      go_wp2_with fail
      generalize ((w3.alloc (.cells #[.int .i64 pi, .int .i64 px, .int .i64 py] 29)).alloc (.cells #[.int .i64 pi, .int .i64 px, .int .i64 py, .int .i64 k, .int .i64 px, .int .i64 px, .int .i64 py, .int .i64 py] 33)) = w5 at own5 hB5 hk5 ⊢
      generalize w3.heap.size + 1 = gk at hk5 hgk hgn ⊢
      clear own3 hB3 hs3 q0 q1 q2
      go_loopw [10, 44] (fun _ jv wr => ∃ j : Nat, j ≤ N.length ∧ jv = .int .i64 j ∧ ∃ a b e f : Int, Hid ((a, b, e, f) = bx N ⟨pi, px, py⟩ j) ∧ wr.heap[gk]? = some (.cells #[.int .i64 pi, .int .i64 px, .int .i64 py, .int .i64 k, .int .i64 a, .int .i64 b, .int .i64 e, .int .i64 f] 33 (0, 0)) ∧ OwnE encPt 29 3 wr w.heap.size g1 c1 N ∧ Below w.heap.size w wr) (fun _ jv _ => N.length - (intOf jv).toNat)
      case atStart => exact ⟨0, Nat.zero_le _, rfl, px, px, py, py, rfl, hk5, own5, hB5⟩
      case round =>
        clear hk5 own5 hB5
        obtain ⟨j, hj, rfl, a, b, e, f, hbx, hkb, own, hB⟩ := hrel
        have hgl := heap_lt hkb
        have y0 : wr.cell? ⟨gk, 0, none⟩ = some (.int .i64 pi) := by simp [World.cell?, hkb]
        have y1 : wr.cell? ⟨gk, 1, none⟩ = some (.int .i64 px) := by simp [World.cell?, hkb]
        have y2 : wr.cell? ⟨gk, 2, none⟩ = some (.int .i64 py) := by simp [World.cell?, hkb]
        have y3 : wr.cell? ⟨gk, 3, none⟩ = some (.int .i64 k) := by simp [World.cell?, hkb]
        have y4 : wr.cell? ⟨gk, 4, none⟩ = some (.int .i64 a) := by simp [World.cell?, hkb]
        have y5 : wr.cell? ⟨gk, 5, none⟩ = some (.int .i64 b) := by simp [World.cell?, hkb]
        have y6 : wr.cell? ⟨gk, 6, none⟩ = some (.int .i64 e) := by simp [World.cell?, hkb]
        have y7 : wr.cell? ⟨gk, 7, none⟩ = some (.int .i64 f) := by simp [World.cell?, hkb]
        have u4 : wr.frozen? ⟨gk, 4, none⟩ = false := by simp [World.frozen?, hkb]
        have u5 : wr.frozen? ⟨gk, 5, none⟩ = false := by simp [World.frozen?, hkb]
        have u6 : wr.frozen? ⟨gk, 6, none⟩ = false := by simp [World.frozen?, hkb]
        have u7 : wr.frozen? ⟨gk, 7, none⟩ = false := by simp [World.frozen?, hkb]
        by_cases hlt : j < N.length
        · obtain ⟨q0, q1, q2⟩ := own.cellsPt hlt
          generalize hv0 : N[j].i = v0 at q0
          generalize hv1 : N[j].x = v1 at q1
          generalize hv2 : N[j].y = v2 at q2
          have HV1 := Lib.hid hv1
          have HV2 := Lib.hid hv2
          clear hv0 hv1 hv2
          have hj0 : (j : Int) < (N.length : Int) := by omega
          have h1 : ((((wr.setCell ⟨gk, 4, none⟩ (.int .i64 (min a v1))).setCell ⟨gk, 5, none⟩ (.int .i64 (max b v1))).setCell ⟨gk, 6, none⟩ (.int .i64 (min e v2))).setCell ⟨gk, 7, none⟩ (.int .i64 (max f v2))).heap[gk]? = some (.cells #[.int .i64 pi, .int .i64 px, .int .i64 py, .int .i64 k, .int .i64 (min a v1), .int .i64 (max b v1), .int .i64 (min e v2), .int .i64 (max f v2)] 33 (0, 0)) := by
            simp [World.setCell, Array.getElem?_modify, hkb]
          have own5 := ownE_set (ownE_set (ownE_set (ownE_set own hgn 4 (.int .i64 (min a v1))) hgn 5 (.int .i64 (max b v1))) hgn 6 (.int .i64 (min e v2))) hgn 7 (.int .i64 (max f v2))
          have hB5 := (((hB.setCell (p := ⟨gk, 4, none⟩) hgk (.int .i64 (min a v1))).setCell (p := ⟨gk, 5, none⟩) hgk (.int .i64 (max b v1))).setCell (p := ⟨gk, 6, none⟩) hgk (.int .i64 (min e v2))).setCell (p := ⟨gk, 7, none⟩) hgk (.int .i64 (max f v2))
          have H1 := Lib.hid h1
          have HBX : Hid ((min a v1, max b v1, min e v2, max f v2) = bx N ⟨pi, px, py⟩ (j + 1)) := by
            have := bx_succ hlt hbx.out
            rw [HV1.out, HV2.out] at this
            exact this
          clear h1
          go_wp2
          go_roundw
          case rel => exact ⟨j + 1, by omega, by go_num, _, _, _, _, HBX, (heap_alloc_old _ _ (heap_lt H1.out)).trans H1.out, own5.alloc _, hB5.alloc hB5.size _⟩
          case measure => simp [intOf]; omega
        · obtain rfl : j = N.length := by omega
          have HN2 := HNODE.out a b e f hbx.out
          have HNK : Hid ((⟨pi, px, py, (k : Int), a, b, e, f⟩ : Kn) = node N k N[k] N[k]) := by show _ = _; rw [HN2, HPV.out]
          have hT : SrcE encPt 3 wr (some ⟨g1, 0, none⟩) c1 (N.take k) := own.src.take encPt_ok (by omega)
          have hBs := hB.size
          clear hbx hkb HN2 HNODE HPV u4 u5 u6 u7
          have k0 : ∀ w', Below wr.heap.size wr w' → w'.cell? ⟨gk, 0, none⟩ = some (.int .i64 pi) := fun w' h => (h.cell (p := ⟨gk, 0, none⟩) hgl).trans y0
          have k1 : ∀ w', Below wr.heap.size wr w' → w'.cell? ⟨gk, 1, none⟩ = some (.int .i64 px) := fun w' h => (h.cell (p := ⟨gk, 1, none⟩) hgl).trans y1
          have k2 : ∀ w', Below wr.heap.size wr w' → w'.cell? ⟨gk, 2, none⟩ = some (.int .i64 py) := fun w' h => (h.cell (p := ⟨gk, 2, none⟩) hgl).trans y2
          have k3 : ∀ w', Below wr.heap.size wr w' → w'.cell? ⟨gk, 3, none⟩ = some (.int .i64 k) := fun w' h => (h.cell (p := ⟨gk, 3, none⟩) hgl).trans y3
          have k4 : ∀ w', Below wr.heap.size wr w' → w'.cell? ⟨gk, 4, none⟩ = some (.int .i64 a) := fun w' h => (h.cell (p := ⟨gk, 4, none⟩) hgl).trans y4
          have k5 : ∀ w', Below wr.heap.size wr w' → w'.cell? ⟨gk, 5, none⟩ = some (.int .i64 b) := fun w' h => (h.cell (p := ⟨gk, 5, none⟩) hgl).trans y5
          have k6 : ∀ w', Below wr.heap.size wr w' → w'.cell? ⟨gk, 6, none⟩ = some (.int .i64 e) := fun w' h => (h.cell (p := ⟨gk, 6, none⟩) hgl).trans y6
          have k7 : ∀ w', Below wr.heap.size wr w' → w'.cell? ⟨gk, 7, none⟩ = some (.int .i64 f) := fun w' h => (h.cell (p := ⟨gk, 7, none⟩) hgl).trans y7
          have hkc : (k : Int) ≤ (c1 : Int) := by omega
          have hwm : IntKind.i64.wrap ((m : Int) + 1) = (m : Int) + 1 := IntWalk.i64_in _ (by omega)
          clear y0 y1 y2 y3 y4 y5 y6 y7
          go_wp2_with fail
          go_region_held3 (fun w' => Below wr.heap.size wr w')
            ((repeat' (first | exact Below.refl _ _ | assumption | apply Below.alloc | apply Below.setCell | apply Below.drew | apply below_draws | (refine Below.trans ?_ (Below.mono (by assumption) ?_)))) <;> (first | exact Below.size (by assumption) | omega | (simp; done) | (simp; omega) | (refine Nat.le_trans ?_ (Below.size (by assumption)); (first | omega | (simp <;> omega)))))
            (first | (go_at_call 33; refine (HIH1.out _ _ _ (hT.below (by assumption))).mono ?_; rintro e w8 ⟨g8, c8, ⟨rfl, own8⟩, hb8⟩) | (refine step_append_any rowTKnot encKn_ok (by decide) rfl _ _ rfl wr.heap.size _ _ [⟨pi, px, py, (k : Int), a, b, e, f⟩] rfl ?_ _ _ _ K1 rfl rfl ?_ (by have := HlK1.out; simp; omega) (by omega) (by first | exact Nat.le_refl _ | exact (show Below wr.heap.size wr _ by assumption).size | exact hb8.size | (simp; done) | (simp; omega)) ?_; (first | exact own_litAt encKn_ok #[.int .i64 pi, .int .i64 px, .int .i64 py, .int .i64 k, .int .i64 a, .int .i64 b, .int .i64 e, .int .i64 f] [⟨pi, px, py, (k : Int), a, b, e, f⟩] rfl (by rfl) (by first | rfl | (simp; done)) (by first | exact Nat.le_refl _ | exact (show Below wr.heap.size wr _ by assumption).size | exact hb8.size | (simp; done) | (simp; omega)) (by unfold maxLen; simp) | exact ownEB2 hb8 (own_litAt encKn_ok #[.int .i64 pi, .int .i64 px, .int .i64 py, .int .i64 k, .int .i64 a, .int .i64 b, .int .i64 e, .int .i64 f] [⟨pi, px, py, (k : Int), a, b, e, f⟩] rfl (by rfl) (by first | rfl | (simp; done)) (by first | exact Nat.le_refl _ | exact (show Below wr.heap.size wr _ by assumption).size | exact hb8.size | (simp; done) | (simp; omega)) (by unfold maxLen; simp))); (first | exact own8.src | exact SrcE.below own8.src (by (repeat' (first | exact Below.refl _ _ | apply Below.alloc | apply Below.setCell | apply Below.drew | apply below_draws)) <;> (first | omega | (simp <;> omega)))); intro X hX g9 c9 w9 own9 hg9 hat9 hb9))
          all_goals rename_i hH
          all_goals try clear hb8
          all_goals try clear own8
          all_goals clear k0 k1 k2 k3 k4 k5 k6 k7 hkc hg9 hat9 hb9 hT HIH1 HT1
          all_goals
            have hXl : Hid (X.length = 1 + k) := by show _ = _; rw [hX.out, List.length_append, HlK1.out]; rfl
            have hB9 := hB.trans (hH.mono hBs)
            have own9s := own_below own hH
            have hs9 := hH.size
            have hD : SrcE encPt 3 w9 (some ⟨g1, (k + 1) * 3, none⟩) (c1 - (k + 1)) (N.drop (k + 1)) := by
              have := (OwnE.src (enc := encPt) own9s).drop (c' := c1 - (k + 1)) encPt_ok (k := k + 1) (o := (k + 1) * 3) rfl
              rwa [Nat.zero_add] at this
            have CALL2 : ∃ A2 c2, (if c1 = k + 1 then (some (⟨g1, 0, none⟩ : Addr)) else some ⟨g1, (k + 1) * 3, none⟩) = A2 ∧ c2 = c1 - (k + 1) ∧ SrcE encPt 3 w9 A2 c2 (N.drop (k + 1)) := by
              by_cases hcc : c1 = k + 1
              · exact ⟨_, _, rfl, rfl, by rw [if_pos hcc, List.drop_of_length_le (by omega), show c1 - (k + 1) = 0 by omega]; exact srcE_nilA _ _ _⟩
              · exact ⟨_, _, rfl, rfl, by rw [if_neg hcc]; exact hD⟩
            obtain ⟨A2, c2, hA2, hc2, sD⟩ := CALL2
            have hk1c : (k : Int) + 1 ≤ (N.length : Int) := by omega
            clear hD own9s
            go_wp2_with fail
            rw [← hc2]
            refine (HIH2.out _ _ _ sD).mono ?_
            rintro e w10 ⟨g10, c10, ⟨rfl, own10⟩, hb10⟩
            clear hA2 hc2 sD hk1c HIH2
            have own9b := ownEB own9 hb10
            have hs10 := hb10.size
            go_wp2_with (at_builtin; refine append_rec rowTKnot encKn_ok (by decide) rfl _ _ rfl wr.heap.size _ _ X rfl own9b _ _ _ K2 rfl rfl own10.src (by have := hXl.out; have := HlK2.out; omega) (by omega) (by omega) ?_)
            intro Z hZ g11 c11 w11 own11 hg11 hat11 hb11
            have HZ : Z = node N k N[k] N[k] :: (K1 ++ K2) := by rw [hZ.out, hX.out, HNK.out]; simp
            subst HZ
            clear hZ hX HNK
            go_wp2
            go_ret
            exact ⟨g11, c11, ⟨rfl, own_mono own11 hBs⟩, (hB9.trans (hb10.mono hB9.size)).trans (hb11.mono hBs)⟩
end Go.Proofs.Ytbmbejomodkabaa
