/-
  markQuery: only the question's own rows turn; heldQuery: the marks that it finds.
-/
import Derived.Test.YtaobgliimbmemaaDoorOwnQ
import Derived.Test.YtaobgliimbmemaaDoorConfMark
namespace Go.Proofs.YtaobgliimbmemaaDoor
open Go.RowKit Go.Sort
set_option linter.unusedVariables false
set_option linter.unusedSimpArgs false

theorem OnlyS.up {S T : PS} {w w' : World} (h : OnlyS S w w') (hs : Sub S T) : OnlyS T w w' := ⟨h.1, h.2.1, fun k hk hn => h.2.2 k hk (fun e => hn (hs k e))⟩
theorem markText_x (k : Nat) (x : Int) (hx : x = (k : Int)) (h0 : 1 ≤ k) (h1 : k ≤ 4611686018427387904) (w : World) :
    Calls Tryd.prog 66 #[.int .i64 x] w fun e w' => e = .returned (.string (mtx k)) ∧ Below w.heap.size w w' := by subst hx; exact markText_fn k h0 h1 w
theorem cMarkText_x (k : Nat) (x : Int) (hx : x = (k : Int)) (h0 : 1 ≤ k) (h1 : k ≤ 4611686018427387904) (W : World) (d : Nat) (os : Array Obj) :
    Calls Tryd.prog 66 #[.int .i64 x] (grow (redrawn W d) os) fun e w'' => e = .returned (.string (mtx k)) ∧ ∃ p : Regrown, w'' = grow (redrawn W p.d) p.os := by subst hx; exact cMarkText k h0 h1 W d os
theorem markW_any (S : PS) (A : Option Addr) (c : Nat) (L : List ByteArray) (n k r : Nat) (x : Int) (hx : x = (k : Int)) (hl : Hid (n = L.length)) (hr : Hid (r = k + n)) (w : World) (h : Hid (OwnW S w A c L)) (hn : n ≤ 1048576) (h0 : 1 ≤ k) (h1 : k ≤ 1000000000000000) :
    Calls Tryd.prog 35 #[.slice A n c, .int .i64 x] w fun e w' => (e = .returned (.int .i64 (r : Int)) ∧ OwnW S w' A c (mkL k n)) ∧ OnlyS S w w' := by
  have e1 := hl.out
  have e2 := hr.out
  subst hx e1 e2
  rcases h.out with ⟨rfl, rfl, rfl⟩ | ⟨a, rfl, hS, h⟩
  · refine (markStringS_zero none 0 k w).mono ?_
    rintro e w' ⟨rfl, hb⟩
    exact ⟨⟨rfl, .inl ⟨rfl, rfl, rfl⟩⟩, OnlyS.of hb⟩
  · refine (markStringS_any a c 0 L k w h hn h0 (by omega)).mono ?_
    rintro e w' ⟨⟨rfl, ho⟩, hg⟩
    exact ⟨⟨rfl, .inr ⟨a, rfl, hS, ho⟩⟩, OnlyS.grown hg hS⟩
def MarkC (n : Nat) : Prop := ∀ (S : PS) (B : Option Addr) (d : Nat) (L : List QD) (N k r : Nat) (x : Int) (w : World), x = (k : Int) → Hid (N = L.length) → Hid (r = k + sumN n L) → Hid (OwnKs (OwnQ n) S w B d L) → N ≤ 1048576 → Hid (∀ y ∈ L, LmQ 1048576 n y) → 1 ≤ k → r ≤ 1000000000000000 →
  Calls Tryd.prog 46 #[.slice B N d, .int .i64 x] w fun e w' => (e = .returned (.int .i64 (r : Int)) ∧ OwnKs (OwnQ n) S w' B d (mkKs n k L)) ∧ OnlyS S w w'
theorem markS_zero (B : Option Addr) (d : Nat) (k : Nat) (w : World) (hk : k ≤ 1000000000000000) :
    Calls Tryd.prog 46 #[.slice B 0 d, .int .i64 (k : Int)] w fun e w' => e = .returned (.int .i64 (k : Int)) ∧ w = w' := by
  go_enter Tryd.func46, Tryd.ntmps46
  go_wp2_with fail
  go_loopw [1, 5] (fun m i wr => m = .int .i64 (k : Int) ∧ i = .int .i64 0 ∧ wr = w) (fun _ _ _ => 0)
  case atStart => exact ⟨rfl, rfl, rfl⟩
  case round =>
    obtain ⟨rfl, rfl, rfl⟩ := hrel
    go_wp2
    go_ret
    exact ⟨rfl, rfl⟩
theorem MarkC_zero : MarkC 0 := fun S B d L N k r x w hx hN hr h hN1 hL h0 hk => by
  have e1 := hN.out
  have e2 := hr.out
  have e : L = [] := by
    rcases h.out with ⟨_, _, e⟩ | ⟨b, hv, S', _, _, _, _, e, _, h7⟩
    · exact e
    · cases hv with
      | nil => exact e
      | cons m r => obtain ⟨S1, S2, _, _, _, h1, _⟩ := h7; exact h1.elim
  subst e hx e1
  obtain rfl : k = r := e2.symm
  refine (markS_zero B d k w hk).mono ?_
  rintro e w' ⟨rfl, rfl⟩
  exact ⟨⟨rfl, h.out⟩, OnlyS.refl _ _⟩
set_option maxRecDepth 8000 in
set_option maxHeartbeats 3200000 in
theorem MarkC_step (n : Nat) (IH : Hid (MarkC n)) : MarkC (n + 1) := fun S B d L N k r x w hx hN hr h hN1 hL h0 hk => by
  have e1 := hN.out
  have e2 := hr.out
  subst hx
  rcases h.out with ⟨rfl, rfl, rfl⟩ | ⟨kb, hv, S', rfl, hSb, hsub, hnb, rfl, hown0, hzn0⟩
  · subst e1
    obtain rfl : k = r := e2.symm
    refine (markS_zero none 0 k w hk).mono ?_
    rintro e w' ⟨rfl, rfl⟩
    exact ⟨⟨rfl, .inl ⟨rfl, rfl, rfl⟩⟩, OnlyS.refl _ _⟩
  · have HSb := Lib.hid hSb
    have Hsub := Lib.hid hsub
    have Hnb := Lib.hid hnb
    have HLv : Hid (N = hv.length) := by show _ = _; rw [e1, List.length_map]
    have hZ0 := Lib.hid hzn0
    have hown : w.ownsRow 0 26 6 (.slice (some ⟨kb, 0, none⟩) N d) N (hv.flatMap encHR) := by rw [HLv.out]; exact hown0
    have hbd : Hid (∀ j, (hj : j < hv.length) → k + sumN (n + 1) ((hv.take j).map (·.q)) + (4 + mkN (n + 1) hv[j].q) ≤ r) := fun j hj => by
      have h1 := sumN_succ (n + 1) (L := hv.map (·.q)) (j := j) (by simpa using hj)
      have h2 := sumN_le (n + 1) (hv.map (·.q)) (j + 1)
      rw [List.getElem_map] at h1
      rw [List.map_take, e2]
      omega
    clear hSb hsub hnb hown0 hzn0 h e1
    go_enter Tryd.func46, Tryd.ntmps46
    go_wp2_with fail
    go_loopw [1, 5] (fun m i wr => ∃ (j q : Nat), j ≤ N ∧ i = .int .i64 j ∧ m = .int .i64 (q : Int) ∧ Hid (q = k + sumN (n + 1) ((hv.take j).map (·.q))) ∧ wr.ownsRow 0 26 6 (.slice (some ⟨kb, 0, none⟩) N d) N ((mkHs (n + 1) (mkKs n) k (hv.take j) ++ hv.drop j).flatMap encHR) ∧ Hid (ZnQ (OwnQ (n + 1)) wr S' (mkHs (n + 1) (mkKs n) k (hv.take j) ++ hv.drop j)) ∧ Hid (OnlyS S w wr)) (fun _ i _ => N - (intOf i).toNat)
    case atStart => exact ⟨0, k, Nat.zero_le _, rfl, rfl, by show _ = _; simp [sumN], by simpa [mkHs] using hown, by simpa [mkHs] using hZ0, OnlyS.refl _ _⟩
    case round =>
      clear hown hZ0
      obtain ⟨j, q, hj, rfl, rfl, hq, hown, hzn, hz⟩ := hrel
      by_cases hlt : j < N
      · have hjv : j < hv.length := by have := HLv.out; omega
        have hi0 : (j : Int) < (N : Int) := by omega
        have hqb := hbd.out j hjv
        rw [← hq.out] at hqb
        have hPl : (mkHs (n + 1) (mkKs n) k (hv.take j)).length = j := by rw [mkHs_len, List.length_take]; omega
        have HNX : Hid (mkHs (n + 1) (mkKs n) k (hv.take (j + 1)) ++ hv.drop (j + 1) = mkHs (n + 1) (mkKs n) k (hv.take j) ++ mkHR (mkKs n) q hv[j] :: hv.drop (j + 1)) := by
          show _ = _
          rw [← List.take_append_getElem hjv, mkHs_snoc, ← hq.out, List.append_assoc]; rfl
        have HQX : Hid (k + sumN (n + 1) ((hv.take (j + 1)).map (·.q)) = q + (4 + mkN (n + 1) hv[j].q)) := by
          show _ = _
          rw [List.map_take, sumN_succ (n + 1) (by simpa using hjv), List.getElem_map, ← List.map_take, hq.out]; omega
        have hlm := hL.out hv[j].q (List.mem_map.2 ⟨_, List.getElem_mem hjv, rfl⟩)
        have hzn := hzn.out
        rw [List.drop_eq_getElem_cons hjv] at hown hzn
        clear hq
        generalize mkHs (n + 1) (mkKs n) k (hv.take j) = P at hown hzn HNX hPl
        obtain ⟨Q, hQ⟩ : ∃ Q, Q = hv.drop (j + 1) := ⟨_, rfl⟩
        rw [← hQ] at hown hzn
        have HQQ := Lib.hid hQ
        have HNX : Hid (mkHs (n + 1) (mkKs n) k (hv.take (j + 1)) ++ hv.drop (j + 1) = P ++ mkHR (mkKs n) q hv[j] :: Q) := by show _ = _; rw [HQQ.out]; exact HNX.out
        clear hQ
        generalize hv[j] = m at hown hzn HNX HQX hqb hlm
        obtain ⟨⟨mkd, mfd, mws, mfr, mto, mks⟩, A, c, B2, d2⟩ := m
        have e0 : ((P ++ ⟨⟨mkd, mfd, mws, mfr, mto, mks⟩, A, c, B2, d2⟩ :: Q).flatMap encHR)[j * 6]? = some (.int .i64 mkd) := by have := encHR_cells P Q ⟨⟨mkd, mfd, mws, mfr, mto, mks⟩, A, c, B2, d2⟩ 0 (by omega); rw [hPl] at this; exact this
        have e1 : ((P ++ ⟨⟨mkd, mfd, mws, mfr, mto, mks⟩, A, c, B2, d2⟩ :: Q).flatMap encHR)[j * 6 + 1]? = some (.string mfd) := by have := encHR_cells P Q ⟨⟨mkd, mfd, mws, mfr, mto, mks⟩, A, c, B2, d2⟩ 1 (by omega); rw [hPl] at this; exact this
        have e2 : ((P ++ ⟨⟨mkd, mfd, mws, mfr, mto, mks⟩, A, c, B2, d2⟩ :: Q).flatMap encHR)[j * 6 + 2]? = some (.slice A mws.length c) := by have := encHR_cells P Q ⟨⟨mkd, mfd, mws, mfr, mto, mks⟩, A, c, B2, d2⟩ 2 (by omega); rw [hPl] at this; exact this
        have e3 : ((P ++ ⟨⟨mkd, mfd, mws, mfr, mto, mks⟩, A, c, B2, d2⟩ :: Q).flatMap encHR)[j * 6 + 3]? = some (.int .i64 mfr) := by have := encHR_cells P Q ⟨⟨mkd, mfd, mws, mfr, mto, mks⟩, A, c, B2, d2⟩ 3 (by omega); rw [hPl] at this; exact this
        have e4 : ((P ++ ⟨⟨mkd, mfd, mws, mfr, mto, mks⟩, A, c, B2, d2⟩ :: Q).flatMap encHR)[j * 6 + 4]? = some (.int .i64 mto) := by have := encHR_cells P Q ⟨⟨mkd, mfd, mws, mfr, mto, mks⟩, A, c, B2, d2⟩ 4 (by omega); rw [hPl] at this; exact this
        have e5 : ((P ++ ⟨⟨mkd, mfd, mws, mfr, mto, mks⟩, A, c, B2, d2⟩ :: Q).flatMap encHR)[j * 6 + 5]? = some (.slice B2 mks.length d2) := by have := encHR_cells P Q ⟨⟨mkd, mfd, mws, mfr, mto, mks⟩, A, c, B2, d2⟩ 5 (by omega); rw [hPl] at this; exact this
        obtain ⟨S1, s1, ⟨Sa, Sk, sa, sk, hdd, hW, hK⟩, hback⟩ := ZnQ.focus OwnQ.same hzn
        dsimp only at hW hK
        have HS1 := Lib.hid s1
        have HSA := Lib.hid sa
        have HSK := Lib.hid sk
        have HDD := Lib.hid hdd
        have HW := Lib.hid hW
        have HK := Lib.hid hK
        have HB := Lib.hid hback
        have HKA : Hid (¬ Sa kb) := fun e => Hnb.out (s1 kb (sa kb e))
        have HKK : Hid (¬ Sk kb) := fun e => Hnb.out (s1 kb (sk kb e))
        obtain ⟨nm, hnm⟩ : ∃ nm, nm = mws.length := ⟨_, rfl⟩
        obtain ⟨nk, hnk⟩ : ∃ nk, nk = mks.length := ⟨_, rfl⟩
        obtain ⟨r1, hr1⟩ : ∃ r1, r1 = q + 2 + nm := ⟨_, rfl⟩
        obtain ⟨r2, hr2⟩ : ∃ r2, r2 = r1 + 2 + sumN n mks := ⟨_, rfl⟩
        have hmN : mkN (n + 1) ⟨mkd, mfd, mws, mfr, mto, mks⟩ = mws.length + sumN n mks := rfl
        dsimp only at hqb HQX
        rw [hmN, ← hnm] at hqb
        have hq2 : r2 ≤ 1000000000000000 := by omega
        have hq1 : r1 + 2 ≤ 1000000000000000 := by omega
        have hq0 : q + 2 ≤ 1000000000000000 := by omega
        have HQY : Hid (r2 = k + sumN (n + 1) ((hv.take (j + 1)).map (·.q))) := by show _ = _; rw [HQX.out, hmN, ← hnm]; omega
        have hlw : nm ≤ 1048576 := by rw [hnm]; exact hlm.2.1
        have hlk : nk ≤ 1048576 := by rw [hnk]; exact hlm.2.2.2.1
        have HLM := Lib.hid hlm.2.2.2.2
        have HNM := Lib.hid hnm
        have HNK := Lib.hid hnk
        have HR1 := Lib.hid hr1
        have HR2 := Lib.hid hr2
        have hr1q : q + 2 ≤ r1 := by omega
        have HST : Hid ((((((P ++ ⟨⟨mkd, mfd, mws, mfr, mto, mks⟩, A, c, B2, d2⟩ :: Q).flatMap encHR).set (j * 6) (.int .i64 (q : Int))).set (j * 6 + 1) (.string (mtx (q + 1)))).set (j * 6 + 3) (.int .i64 (r1 : Int))).set (j * 6 + 4) (.int .i64 ((r1 : Int) + 1)) = (P ++ mkHR (mkKs n) q ⟨⟨mkd, mfd, mws, mfr, mto, mks⟩, A, c, B2, d2⟩ :: Q).flatMap encHR) := by
          show _ = _
          have := encHR_set4 P Q ⟨⟨mkd, mfd, mws, mfr, mto, mks⟩, A, c, B2, d2⟩ (mkHR (mkKs n) q ⟨⟨mkd, mfd, mws, mfr, mto, mks⟩, A, c, B2, d2⟩) (.int .i64 (q : Int)) (.string (mtx (q + 1))) (.int .i64 (r1 : Int)) (.int .i64 ((r1 : Int) + 1)) (by
            have a1 : ((q + 2 + mws.length : Nat) : Int) = (r1 : Int) := by omega
            have a2 : ((q + 3 + mws.length : Nat) : Int) = (r1 : Int) + 1 := by omega
            simp only [encHR, encQ, mkHR, mkY, mkL_len, mkKs_len, a1, a2]
            rfl)
          rw [hPl] at this
          exact this
        rw [← hnm] at e2
        rw [← hnk] at e5
        clear hnm hnk hr1 hr2 hqb hlm HQX hmN s1 sa sk hdd hW hK hback hzn hPl
        have x0 := (hown.cellAt (j * 6) (by omega)).trans e0
        have z0 := hown.frozenAt (j * 6)
        have A1 := Lib.hid (hown.stored (j * 6) (.int .i64 (q : Int)))
        have E1 : Hid ((((P ++ ⟨⟨mkd, mfd, mws, mfr, mto, mks⟩, A, c, B2, d2⟩ :: Q).flatMap encHR).set (j * 6) (.int .i64 (q : Int)))[j * 6 + 1]? = some (.string mfd)) := by show _ = _; rw [List.getElem?_set_ne (by omega)]; exact e1
        have E2 : Hid ((((P ++ ⟨⟨mkd, mfd, mws, mfr, mto, mks⟩, A, c, B2, d2⟩ :: Q).flatMap encHR).set (j * 6) (.int .i64 (q : Int)))[j * 6 + 2]? = some (.slice A nm c)) := by show _ = _; rw [List.getElem?_set_ne (by omega)]; exact e2
        have E3 : Hid (((((P ++ ⟨⟨mkd, mfd, mws, mfr, mto, mks⟩, A, c, B2, d2⟩ :: Q).flatMap encHR).set (j * 6) (.int .i64 (q : Int))).set (j * 6 + 1) (.string (mtx (q + 1))))[j * 6 + 3]? = some (.int .i64 mfr)) := by show _ = _; rw [List.getElem?_set_ne (by omega), List.getElem?_set_ne (by omega)]; exact e3
        have E4 : Hid (((((P ++ ⟨⟨mkd, mfd, mws, mfr, mto, mks⟩, A, c, B2, d2⟩ :: Q).flatMap encHR).set (j * 6) (.int .i64 (q : Int))).set (j * 6 + 1) (.string (mtx (q + 1))))[j * 6 + 4]? = some (.int .i64 mto)) := by show _ = _; rw [List.getElem?_set_ne (by omega), List.getElem?_set_ne (by omega)]; exact e4
        have E5 : Hid (((((P ++ ⟨⟨mkd, mfd, mws, mfr, mto, mks⟩, A, c, B2, d2⟩ :: Q).flatMap encHR).set (j * 6) (.int .i64 (q : Int))).set (j * 6 + 1) (.string (mtx (q + 1))))[j * 6 + 5]? = some (.slice B2 nk d2)) := by show _ = _; rw [List.getElem?_set_ne (by omega), List.getElem?_set_ne (by omega)]; exact e5
        clear e0 e1 e2 e3 e4 e5 hown
        generalize (P ++ ⟨⟨mkd, mfd, mws, mfr, mto, mks⟩, A, c, B2, d2⟩ :: Q).flatMap encHR = X at HST A1 E1 E2 E3 E4 E5
        go_wp2_with fail
        refine (markText_x (q + 1) _ (by omega) (by omega) (by omega) _).mono ?_
        rintro e w2 ⟨rfl, hb2⟩
        have own2 := own_belowZ A1.out.1 hb2
        have x1 := (own2.cellAt (j * 6 + 1) (by omega)).trans E1.out
        have x2 := (own2.cellAt (j * 6 + 2) (by omega)).trans E2.out
        have z1 := own2.frozenAt (j * 6 + 1)
        have a2 := own2.stored (j * 6 + 1) (.string (mtx (q + 1)))
        have OK1 : Hid (OnlyS (fun b => b = kb) wr (w2.setCell ⟨kb, j * 6 + 1, none⟩ (.string (mtx (q + 1))))) := ((OnlyS.grown (S := fun b => b = kb) A1.out.2 rfl).trans (OnlyS.of hb2)).trans (OnlyS.grown (S := fun b => b = kb) a2.2 rfl)
        have O3 := Lib.hid a2.1
        clear a2 own2 A1 hb2 x0 z0 E1 E2
        generalize mtx (q + 1) = t at HST OK1 O3 E3 E4 E5 ⊢
        have HW3 : Hid (OwnW Sa (w2.setCell ⟨kb, j * 6 + 1, none⟩ (.string t)) A c mws) := HW.out.same (SameS.only OK1.out (fun k hk e => HKA.out (e ▸ hk)))
        go_wp2_with fail
        refine (markW_any Sa A c mws nm (q + 2) r1 _ (by omega) HNM HR1 _ HW3 hlw (by omega) (by omega)).mono ?_
        rintro e w4 ⟨⟨rfl, hw4⟩, o4⟩
        have own4 := own_blk O3.out (o4.2.2 kb (O3.out.lt kb rfl).2 HKA.out)
        have x3 := (own4.cellAt (j * 6 + 3) (by omega)).trans E3.out
        have x4 := (own4.cellAt (j * 6 + 4) (by omega)).trans E4.out
        have x5 := (own4.cellAt (j * 6 + 5) (by omega)).trans E5.out
        have z3 := own4.frozenAt (j * 6 + 3)
        have z4 := own4.frozenAt (j * 6 + 4)
        have a3 := own4.stored (j * 6 + 3) (.int .i64 (r1 : Int))
        have a4 := a3.1.stored (j * 6 + 4) (.int .i64 ((r1 : Int) + 1))
        have OKa : Hid (OnlyS (fun b => b = kb) w4 ((w4.setCell ⟨kb, j * 6 + 3, none⟩ (.int .i64 (r1 : Int))).setCell ⟨kb, j * 6 + 4, none⟩ (.int .i64 ((r1 : Int) + 1)))) := (OnlyS.grown (S := fun b => b = kb) a3.2 rfl).trans (OnlyS.grown (S := fun b => b = kb) a4.2 rfl)
        have OK2 : Hid (OnlyS (fun b => b = kb ∨ Sa b) wr ((w4.setCell ⟨kb, j * 6 + 3, none⟩ (.int .i64 (r1 : Int))).setCell ⟨kb, j * 6 + 4, none⟩ (.int .i64 ((r1 : Int) + 1)))) :=
          ((OK1.out.up (fun k hk => .inl hk)).trans (o4.up (fun k hk => .inr hk))).trans (OKa.out.up (fun k hk => .inl hk))
        have O5 := Lib.hid a4.1
        have HW4 := Lib.hid hw4
        have HK6 : Hid (OwnKs (OwnQ n) Sk ((w4.setCell ⟨kb, j * 6 + 3, none⟩ (.int .i64 (r1 : Int))).setCell ⟨kb, j * 6 + 4, none⟩ (.int .i64 ((r1 : Int) + 1))) B2 d2 mks) :=
          HK.out.same OwnQ.same (SameS.only OK2.out (fun k hk e => e.elim (fun e => HKK.out (e ▸ hk)) (fun e => HDD.out k e hk)))
        clear a3 a4 own4 O3 hw4 o4 OK1 HW3 HW HK x1 x2 z1 E3 E4 E5
        go_wp2_with fail
        refine (IH.out Sk B2 d2 mks nk (r1 + 2) r2 _ _ (by omega) HNK HR2 HK6 hlk HLM (by omega) (by omega)).mono ?_
        rintro e w7 ⟨⟨rfl, hk7⟩, o7⟩
        have hkb := (O5.out.lt kb rfl).2
        have O7 : Hid (w7.ownsRow 0 26 6 (.slice (some ⟨kb, 0, none⟩) N d) N ((mkHs (n + 1) (mkKs n) k (hv.take (j + 1)) ++ hv.drop (j + 1)).flatMap encHR)) := by
          have := own_blk O5.out (o7.2.2 kb hkb HKK.out)
          rw [HST.out] at this
          rw [HNX.out]
          exact this
        have OU : OnlyS (fun b => b = kb ∨ S1 b) wr w7 := (OK2.out.up (fun k hk => hk.elim .inl (fun h => .inr (HSA.out k h)))).trans (o7.up (fun k hk => .inr (HSK.out k hk)))
        have HW7 : OwnW Sa w7 A c (mkL (q + 2) nm) := HW4.out.same (SameS.only ((OKa.out.up (T := fun b => b = kb ∨ Sk b) (fun k hk => .inl hk)).trans (o7.up (fun k hk => .inr hk))) (fun k hk e => e.elim (fun e => HKA.out (e ▸ hk)) (fun e => HDD.out k hk e)))
        have ZN : Hid (ZnQ (OwnQ (n + 1)) w7 S' (mkHs (n + 1) (mkKs n) k (hv.take (j + 1)) ++ hv.drop (j + 1))) := by
          rw [HNX.out]
          refine HB.out w7 _ ⟨Sa, Sk, HSA.out, HSK.out, HDD.out, ?_, ?_⟩ (fun k h1 h2 h3 => OU.2.2 k h3 (fun e => e.elim (fun e => Hnb.out (e ▸ h1)) h2))
          · show OwnW Sa w7 A c (mkL (q + 2) mws.length); rw [← HNM.out]; exact HW7
          · show OwnKs (OwnQ n) Sk w7 B2 d2 (mkKs n (q + 4 + mws.length) mks)
            rw [show q + 4 + mws.length = r1 + 2 by have := HR1.out; have := HNM.out; omega]; exact hk7
        have HZ : Hid (OnlyS S w w7) := hz.out.trans (OU.up (fun k hk => hk.elim (fun e => e ▸ HSb.out) (fun h => Hsub.out k (HS1.out k h))))
        clear OU HW7 hk7 o7 HW4 OKa OK2 O5 HK6 hkb HB hz x3 x4 x5 z3 z4 HST HNX
        go_wp2
        go_roundw
        case rel => exact ⟨j + 1, r2, by omega, by go_num, rfl, HQY, O7.out, ZN, HZ⟩
        case measure => simp [intOf]; omega
      · obtain rfl : j = N := by omega
        have hq2 : Hid (q = r) := by show _ = _; rw [hq.out, e2, HLv.out, List.take_length]
        have O5 : Hid (OwnKs (OwnQ (n + 1)) S wr (some ⟨kb, 0, none⟩) d (mkKs (n + 1) k (hv.map (·.q)))) := by
          have hzn := hzn.out
          rw [HLv.out, List.take_length, List.drop_length, List.append_nil] at hown hzn
          refine .inr ⟨kb, mkHs (n + 1) (mkKs n) k hv, S', rfl, HSb.out, Hsub.out, Hnb.out, (mkHs_q _ _ _ _).symm, ?_, hzn⟩
          unfold OwnE
          rw [mkHs_len]
          exact hown
        clear hown hq hzn
        go_wp2
        go_ret
        exact ⟨⟨by rw [hq2.out]; rfl, O5.out⟩, hz.out⟩
theorem markQueryS_any (n : Nat) : MarkC n := by
  induction n with
  | zero => exact MarkC_zero
  | succ n ih => exact MarkC_step n ih
end Go.Proofs.YtaobgliimbmemaaDoor
