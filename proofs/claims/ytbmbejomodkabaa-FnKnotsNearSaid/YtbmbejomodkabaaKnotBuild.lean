/-
  Contract of l15Build: the tree of points.
-/
import Derived.Test.YtbmbejomodkabaaKnotSpec
import Derived.Deep.RegionHeld3
namespace Go.Proofs.Ytbmbejomodkabaa
open Go.RowKit Go.Sort
set_option linter.unusedVariables false

def ReadsK (N : List Kn) (w : World) (e : Ending) (w' : World) : Prop := ∃ (A : Option Addr) (c : Nat), (e = .returned (.slice A N.length c) ∧ SrcE encKn 8 w' A c N) ∧ Below w.heap.size w w'
/-- .. and it is a row of the call's own, if it has any. -/
def BuildsK (N : List Kn) (w : World) (e : Ending) (w' : World) : Prop := ∃ (A : Option Addr) (c : Nat), (e = .returned (.slice A N.length c) ∧ SrcE encKn 8 w' A c N ∧ (0 < N.length → ∃ g, A = some ⟨g, 0, none⟩ ∧ OwnE encKn 33 8 w' w.heap.size g c N)) ∧ Below w.heap.size w w'
theorem BuildsK.reads {N : List Kn} {w : World} {e : Ending} {w' : World} (h : BuildsK N w e w') : ReadsK N w e w' := by
  obtain ⟨A, c, ⟨h1, h2, _⟩, h3⟩ := h
  exact ⟨A, c, ⟨h1, h2⟩, h3⟩
set_option maxRecDepth 8000 in
set_option maxHeartbeats 16000000 in
theorem l15Build_own : ∀ (n : Nat) (A : Option Addr) (c : Nat) (byY : Bool) (L : List Pt) (w : World), SrcE encPt 3 w A c L → L.length ≤ n → n ≤ 1048576 →
    Calls Try.prog 35 #[.slice A L.length c, .bool byY] w (BuildsK (knF n byY L) w) := by
  intro n
  induction n with
  | zero =>
    intro A c byY L w h hl hn
    obtain rfl : L = [] := List.length_eq_zero_iff.1 (by omega)
    rw [knF_nil]
    go_enter Try.func35, Try.ntmps35
    go_wp2
    go_ret
    exact ⟨none, 0, ⟨rfl, SrcE.nil_ _ 0, fun h => absurd h (by simp)⟩, Below.refl _ _⟩
  | succ n ih =>
    intro A c byY L w h hl hn
    rcases Nat.eq_zero_or_pos L.length with h0 | h0
    · obtain rfl : L = [] := List.length_eq_zero_iff.1 h0
      rw [knF_nil]
      clear ih
      go_enter Try.func35, Try.ntmps35
      go_wp2
      go_ret
      exact ⟨none, 0, ⟨rfl, SrcE.nil_ _ 0, fun h => absurd h (by simp)⟩, Below.refl _ _⟩
    · obtain ⟨P, hP⟩ : ∃ P, P = sortP byY L := ⟨_, rfl⟩
      have hPl : P.length = L.length := by rw [hP, sortP_len]
      obtain ⟨k, hkd⟩ : ∃ k, k = P.length / 2 := ⟨_, rfl⟩
      have hkl : k < P.length := by omega
      have hq2k : (P.length : Int) / 2 = (k : Int) := by omega
      have HK : knF (n + 1) byY L = node P k P[k] P[k] :: (knF n (!byY) (P.take k) ++ knF n (!byY) (P.drop (k + 1))) := by
        subst hkd
        exact knF_cons hP hkl
      have h0P : 0 < P.length := by omega
      have HMEM : Hid (node P k P[k] P[0] = node P k P[k] P[k]) := node_eq (List.getElem_mem _) (List.getElem_mem _)
      rw [HK]
      have hT1 : (P.take k).length = k := by rw [List.length_take]; omega
      have hT2 : (P.drop (k + 1)).length = P.length - (k + 1) := by rw [List.length_drop]
      have IH1 : ∀ (A : Option Addr) (c : Nat) (w : World), SrcE encPt 3 w A c (P.take k) → Calls Try.prog 35 #[.slice A (P.take k).length c, .bool (!byY)] w (ReadsK (knF n (!byY) (P.take k)) w) := fun A c w h => (ih A c (!byY) (P.take k) w h (by omega) (by omega)).mono fun _ _ h => BuildsK.reads h
      have IH2 : ∀ (A : Option Addr) (c : Nat) (w : World), SrcE encPt 3 w A c (P.drop (k + 1)) → Calls Try.prog 35 #[.slice A (P.drop (k + 1)).length c, .bool (!byY)] w (ReadsK (knF n (!byY) (P.drop (k + 1))) w) := fun A c w h => (ih A c (!byY) (P.drop (k + 1)) w h (by omega) (by omega)).mono fun _ _ h => BuildsK.reads h
      have hlK1 := knF_len n (!byY) (P.take k) (by omega)
      have hlK2 := knF_len n (!byY) (P.drop (k + 1)) (by omega)
      rw [hT1] at hlK1
      rw [hT2] at hlK2
      have HIH1 := Lib.hid IH1
      have HIH2 := Lib.hid IH2
      rw [hT1] at HIH1
      rw [hT2] at HIH2
      have HT1 := Lib.hid hT1
      have HT2 := Lib.hid hT2
      have HlK1 := Lib.hid hlK1
      have HlK2 := Lib.hid hlK2
      have CS := l15Sort_any A c byY L w h (by omega)
      rw [← hP] at CS
      have HCS := Lib.hid CS
      clear ih HK IH1 IH2 hkd hT1 hT2 hlK1 hlK2 hP CS h
      generalize knF n (!byY) (P.take k) = K1 at HIH1 HlK1 ⊢
      generalize knF n (!byY) (P.drop (k + 1)) = K2 at HIH2 HlK2 ⊢
      have hne0 : ((L.length : Int) == 0) = false := beq_eq_false_iff_ne.2 (by omega)
      go_enter Try.func35, Try.ntmps35
      go_wp2_with fail
      refine HCS.out.mono ?_
      rintro e w3 ⟨g, cP, ⟨rfl, own3⟩, hB3⟩
      clear HCS
      have hcap := own3.capOk
      have hPb : P.length ≤ n + 1 := by omega
      have hs3 := hB3.size
      clear hPl h0 hne0 hl
      have hkc : (k : Int) ≤ (cP : Int) := by omega
      have hk1c : (k : Int) + 1 ≤ (P.length : Int) := by omega
      have hT : SrcE encPt 3 w3 (some ⟨g, 0, none⟩) cP (P.take k) := own3.src.take encPt_ok (by omega)
      go_wp2_with fail
      refine (HIH1.out _ _ _ hT).mono ?_
      rintro e w4 ⟨A6, c6, ⟨rfl, s6⟩, hb4⟩
      have own4 := own_below own3 hb4
      have hB4 := hB3.trans (hb4.mono hs3)
      have hs4 := hb4.size
      clear own3 hB3 hT hb4 HIH1 HT1
      have hD : ∀ w', Below w4.heap.size w4 w' → SrcE encPt 3 w' (some ⟨g, (k + 1) * 3, none⟩) (cP - (k + 1)) (P.drop (k + 1)) := fun w' hw => by
        have := (OwnE.src (enc := encPt) own4).below hw
        have := this.drop (c' := cP - (k + 1)) encPt_ok (k := k + 1) (o := (k + 1) * 3) rfl
        rwa [Nat.zero_add] at this
      have hD0 : cP = k + 1 → SrcE encPt 3 w4 (some ⟨g, 0, none⟩) 0 (P.drop (k + 1)) := fun e => by
        rw [List.drop_of_length_le (by omega)]; exact srcE_nilA _ _ _
      have hlt4 := own4.lt
      have CALL2 : ∃ A2 c2, (if cP = k + 1 then (some (⟨g, 0, none⟩ : Addr)) else some ⟨g, (k + 1) * 3, none⟩) = A2 ∧ c2 = cP - (k + 1) ∧ SrcE encPt 3 w4 A2 c2 (P.drop (k + 1)) := by
        by_cases hcc : cP = k + 1
        · exact ⟨_, _, rfl, rfl, by rw [if_pos hcc, show cP - (k + 1) = 0 by omega]; exact hD0 hcc⟩
        · exact ⟨_, _, rfl, rfl, by rw [if_neg hcc]; exact hD _ (Below.refl _ _)⟩
      obtain ⟨A2, c2, hA2, hc2, sD⟩ := CALL2
      have HD := Lib.hid hD
      have HD0 := Lib.hid hD0
      clear hD hD0
      go_wp2_with fail
      rw [← hc2]
      refine (HIH2.out _ _ _ sD).mono ?_
      rintro e w5 ⟨A7, c7, ⟨rfl, s7⟩, hb5⟩
      have own5 := own_below own4 hb5
      have hB5 := hB4.trans (hb5.mono (by omega))
      have hs5 := hB5.size
      replace s6 := s6.below hb5
      clear own4 hB4 hs4 hb5 HIH2 HT2 sD HD HD0 hA2 hlt4 hs3
      have hgl := (own5.lt g rfl).2
      obtain ⟨q0, q1, q2⟩ := OwnE.cellsPt own5 h0P
      rw [Nat.zero_mul] at q0
      rw [Nat.zero_mul, Nat.zero_add] at q1 q2
      obtain ⟨vv, hvv⟩ : ∃ vv, vv = P[0] := ⟨_, rfl⟩
      rw [← hvv] at q0 q1 q2 HMEM
      have HVV := Lib.hid hvv
      clear hvv
      obtain ⟨vi, vx, vy⟩ := vv
      simp only at q0 q1 q2
      clear q0
      have k1 : ∀ w', Below w5.heap.size w5 w' → w'.cell? ⟨g, 1, none⟩ = some (.int .i64 vx) := fun w' h => (h.cell (p := ⟨g, 1, none⟩) hgl).trans q1
      have k2 : ∀ w', Below w5.heap.size w5 w' → w'.cell? ⟨g, 2, none⟩ = some (.int .i64 vy) := fun w' h => (h.cell (p := ⟨g, 2, none⟩) hgl).trans q2
      have h00 : (0 : Int) < (P.length : Int) := by omega
      clear q1 q2
      go_wp2_with fail
      go_region_held3 (fun w' => Below w5.heap.size w5 w')
        ((repeat' (first | exact Below.refl _ _ | assumption | apply Below.alloc | apply Below.setCell | apply Below.drew | apply below_draws | (refine Below.trans ?_ (Below.mono (by assumption) ?_)))) <;> (first | exact Below.size (by assumption) | omega | (simp; done) | (simp; omega) | (refine Nat.le_trans ?_ (Below.size (by assumption)); (first | omega | (simp <;> omega)))))
        (fail)
      rename_i hH
      clear k1 k2 h00
      have hk6 : (w5.alloc (.cells #[.int .i64 vx, .int .i64 vx, .int .i64 vy, .int .i64 vy] 31)).drew.heap[w5.heap.size]? = some (.cells #[.int .i64 vx, .int .i64 vx, .int .i64 vy, .int .i64 vy] 31 (0, 0)) := heap_alloc_new w5 _
      have hgn : w5.heap.size ≠ g := by omega
      generalize (w5.alloc (.cells #[.int .i64 vx, .int .i64 vx, .int .i64 vy, .int .i64 vy] 31)).drew = w6 at hk6 hH ⊢
      obtain ⟨gb, hgb⟩ : ∃ gb, gb = w5.heap.size := ⟨_, rfl⟩
      rw [← hgb] at hk6 hgn hs5 hgl hH
      have HGB := Lib.hid hgb
      rw [← hgb]
      clear hgb
      go_wp2_with fail
      go_loopw [9] (fun jv wr => ∃ j : Nat, j ≤ P.length ∧ jv = .int .i64 j ∧ ∃ a b e f : Int, Hid ((a, b, e, f) = bx P ⟨vi, vx, vy⟩ j) ∧ a ≤ b ∧ e ≤ f ∧ wr.heap[gb]? = some (.cells #[.int .i64 a, .int .i64 b, .int .i64 e, .int .i64 f] 31 (0, 0)) ∧ Below gb w5 wr) (fun jv _ => P.length - (intOf jv).toNat)
      case atStart => exact ⟨0, Nat.zero_le _, rfl, vx, vx, vy, vy, rfl, by omega, by omega, hk6, hH⟩
      case round =>
        clear hk6 hH
        obtain ⟨j, hj, rfl, a, b, e, f, hbx, hab, hef, hkb, hBG⟩ := hrel
        have own : OwnE encPt 29 3 wr w.heap.size g cP P := own_under own5 hBG (fun k hk => by cases hk; exact hgl)
        have hgbl := heap_lt hkb
        have y0 : wr.cell? ⟨gb, 0, none⟩ = some (.int .i64 a) := by simp [World.cell?, hkb]
        have y1 : wr.cell? ⟨gb, 1, none⟩ = some (.int .i64 b) := by simp [World.cell?, hkb]
        have y2 : wr.cell? ⟨gb, 2, none⟩ = some (.int .i64 e) := by simp [World.cell?, hkb]
        have y3 : wr.cell? ⟨gb, 3, none⟩ = some (.int .i64 f) := by simp [World.cell?, hkb]
        by_cases hlt : j < P.length
        · have z0 : wr.frozen? ⟨gb, 0, none⟩ = false := by simp [World.frozen?, hkb]
          have z1 : wr.frozen? ⟨gb, 1, none⟩ = false := by simp [World.frozen?, hkb]
          have z2 : wr.frozen? ⟨gb, 2, none⟩ = false := by simp [World.frozen?, hkb]
          have z3 : wr.frozen? ⟨gb, 3, none⟩ = false := by simp [World.frozen?, hkb]
          obtain ⟨q0, q1, q2⟩ := OwnE.cellsPt own hlt
          have hst := bx_succ hlt hbx.out
          generalize P[j].x = x at q1 hst
          generalize P[j].y = y at q2 hst
          have HST := Lib.hid hst
          have HKB := Lib.hid hkb
          have hj0 : (j : Int) < (P.length : Int) := by omega
          have hgng : g ≠ gb := by omega
          clear hst hkb own q0 hbx
          by_cases hx : x < a
          · by_cases hy : y < e
            · have HB : Hid ((x, b, y, f) = bx P ⟨vi, vx, vy⟩ (j + 1)) := by
                show _ = _
                rw [← HST.out]
                simp only [Prod.mk.injEq]
                refine ⟨by omega, by omega, by omega, by omega⟩
              have hk2 : ((wr.setCell ⟨gb, 0, none⟩ (.int .i64 x)).setCell ⟨gb, 2, none⟩ (.int .i64 y)).heap[gb]? = some (.cells #[.int .i64 x, .int .i64 b, .int .i64 y, .int .i64 f] 31 (0, 0)) := by simp [World.setCell, Array.getElem?_modify, HKB.out]
              have HK2 := Lib.hid hk2
              clear hk2
              clear HST HKB
              go_wp2_with fail
              go_quiet (fail)
              go_wp2_with fail
              go_quiet (fail)
              go_wp2_with fail
              go_quiet (fail)
              go_wp2_with fail
              go_quiet (fail)
              go_wp2
              go_roundw
              case rel => exact ⟨j + 1, by omega, by go_num, x, b, y, f, HB, by omega, by omega, HK2.out, by (repeat' (first | exact hBG | (apply Below.setCell (hp := Nat.le_refl _)) | apply below_draws | apply Below.setCell)) <;> (first | exact Nat.le_refl _ | (simp; done))⟩
              case measure => simp [intOf]; omega
            · by_cases hy2 : f < y
              · have HB : Hid ((x, b, e, y) = bx P ⟨vi, vx, vy⟩ (j + 1)) := by
                  show _ = _
                  rw [← HST.out]
                  simp only [Prod.mk.injEq]
                  refine ⟨by omega, by omega, by omega, by omega⟩
                have hk2 : ((wr.setCell ⟨gb, 0, none⟩ (.int .i64 x)).setCell ⟨gb, 3, none⟩ (.int .i64 y)).heap[gb]? = some (.cells #[.int .i64 x, .int .i64 b, .int .i64 e, .int .i64 y] 31 (0, 0)) := by simp [World.setCell, Array.getElem?_modify, HKB.out]
                have HK2 := Lib.hid hk2
                clear hk2
                clear HST HKB
                go_wp2_with fail
                go_quiet (fail)
                go_wp2_with fail
                go_quiet (fail)
                go_wp2_with fail
                go_quiet (fail)
                go_wp2_with fail
                go_quiet (fail)
                go_wp2
                go_roundw
                case rel => exact ⟨j + 1, by omega, by go_num, x, b, e, y, HB, by omega, by omega, HK2.out, by (repeat' (first | exact hBG | (apply Below.setCell (hp := Nat.le_refl _)) | apply below_draws | apply Below.setCell)) <;> (first | exact Nat.le_refl _ | (simp; done))⟩
                case measure => simp [intOf]; omega
              · have HB : Hid ((x, b, e, f) = bx P ⟨vi, vx, vy⟩ (j + 1)) := by
                  show _ = _
                  rw [← HST.out]
                  simp only [Prod.mk.injEq]
                  refine ⟨by omega, by omega, by omega, by omega⟩
                have hk2 : (wr.setCell ⟨gb, 0, none⟩ (.int .i64 x)).heap[gb]? = some (.cells #[.int .i64 x, .int .i64 b, .int .i64 e, .int .i64 f] 31 (0, 0)) := by simp [World.setCell, Array.getElem?_modify, HKB.out]
                have HK2 := Lib.hid hk2
                clear hk2
                clear HST HKB
                go_wp2_with fail
                go_quiet (fail)
                go_wp2_with fail
                go_quiet (fail)
                go_wp2_with fail
                go_quiet (fail)
                go_wp2_with fail
                go_quiet (fail)
                go_wp2
                go_roundw
                case rel => exact ⟨j + 1, by omega, by go_num, x, b, e, f, HB, by omega, by omega, HK2.out, by (repeat' (first | exact hBG | (apply Below.setCell (hp := Nat.le_refl _)) | apply below_draws | apply Below.setCell)) <;> (first | exact Nat.le_refl _ | (simp; done))⟩
                case measure => simp [intOf]; omega
          · by_cases hx2 : b < x
            · by_cases hy : y < e
              · have HB : Hid ((a, x, y, f) = bx P ⟨vi, vx, vy⟩ (j + 1)) := by
                  show _ = _
                  rw [← HST.out]
                  simp only [Prod.mk.injEq]
                  refine ⟨by omega, by omega, by omega, by omega⟩
                have hk2 : ((wr.setCell ⟨gb, 1, none⟩ (.int .i64 x)).setCell ⟨gb, 2, none⟩ (.int .i64 y)).heap[gb]? = some (.cells #[.int .i64 a, .int .i64 x, .int .i64 y, .int .i64 f] 31 (0, 0)) := by simp [World.setCell, Array.getElem?_modify, HKB.out]
                have HK2 := Lib.hid hk2
                clear hk2
                clear HST HKB
                go_wp2_with fail
                go_quiet (fail)
                go_wp2_with fail
                go_quiet (fail)
                go_wp2_with fail
                go_quiet (fail)
                go_wp2_with fail
                go_quiet (fail)
                go_wp2
                go_roundw
                case rel => exact ⟨j + 1, by omega, by go_num, a, x, y, f, HB, by omega, by omega, HK2.out, by (repeat' (first | exact hBG | (apply Below.setCell (hp := Nat.le_refl _)) | apply below_draws | apply Below.setCell)) <;> (first | exact Nat.le_refl _ | (simp; done))⟩
                case measure => simp [intOf]; omega
              · by_cases hy2 : f < y
                · have HB : Hid ((a, x, e, y) = bx P ⟨vi, vx, vy⟩ (j + 1)) := by
                    show _ = _
                    rw [← HST.out]
                    simp only [Prod.mk.injEq]
                    refine ⟨by omega, by omega, by omega, by omega⟩
                  have hk2 : ((wr.setCell ⟨gb, 1, none⟩ (.int .i64 x)).setCell ⟨gb, 3, none⟩ (.int .i64 y)).heap[gb]? = some (.cells #[.int .i64 a, .int .i64 x, .int .i64 e, .int .i64 y] 31 (0, 0)) := by simp [World.setCell, Array.getElem?_modify, HKB.out]
                  have HK2 := Lib.hid hk2
                  clear hk2
                  clear HST HKB
                  go_wp2_with fail
                  go_quiet (fail)
                  go_wp2_with fail
                  go_quiet (fail)
                  go_wp2_with fail
                  go_quiet (fail)
                  go_wp2_with fail
                  go_quiet (fail)
                  go_wp2
                  go_roundw
                  case rel => exact ⟨j + 1, by omega, by go_num, a, x, e, y, HB, by omega, by omega, HK2.out, by (repeat' (first | exact hBG | (apply Below.setCell (hp := Nat.le_refl _)) | apply below_draws | apply Below.setCell)) <;> (first | exact Nat.le_refl _ | (simp; done))⟩
                  case measure => simp [intOf]; omega
                · have HB : Hid ((a, x, e, f) = bx P ⟨vi, vx, vy⟩ (j + 1)) := by
                    show _ = _
                    rw [← HST.out]
                    simp only [Prod.mk.injEq]
                    refine ⟨by omega, by omega, by omega, by omega⟩
                  have hk2 : (wr.setCell ⟨gb, 1, none⟩ (.int .i64 x)).heap[gb]? = some (.cells #[.int .i64 a, .int .i64 x, .int .i64 e, .int .i64 f] 31 (0, 0)) := by simp [World.setCell, Array.getElem?_modify, HKB.out]
                  have HK2 := Lib.hid hk2
                  clear hk2
                  clear HST HKB
                  go_wp2_with fail
                  go_quiet (fail)
                  go_wp2_with fail
                  go_quiet (fail)
                  go_wp2_with fail
                  go_quiet (fail)
                  go_wp2_with fail
                  go_quiet (fail)
                  go_wp2
                  go_roundw
                  case rel => exact ⟨j + 1, by omega, by go_num, a, x, e, f, HB, by omega, by omega, HK2.out, by (repeat' (first | exact hBG | (apply Below.setCell (hp := Nat.le_refl _)) | apply below_draws | apply Below.setCell)) <;> (first | exact Nat.le_refl _ | (simp; done))⟩
                  case measure => simp [intOf]; omega
            · by_cases hy : y < e
              · have HB : Hid ((a, b, y, f) = bx P ⟨vi, vx, vy⟩ (j + 1)) := by
                  show _ = _
                  rw [← HST.out]
                  simp only [Prod.mk.injEq]
                  refine ⟨by omega, by omega, by omega, by omega⟩
                have hk2 : (wr.setCell ⟨gb, 2, none⟩ (.int .i64 y)).heap[gb]? = some (.cells #[.int .i64 a, .int .i64 b, .int .i64 y, .int .i64 f] 31 (0, 0)) := by simp [World.setCell, Array.getElem?_modify, HKB.out]
                have HK2 := Lib.hid hk2
                clear hk2
                clear HST HKB
                go_wp2_with fail
                go_quiet (fail)
                go_wp2_with fail
                go_quiet (fail)
                go_wp2_with fail
                go_quiet (fail)
                go_wp2_with fail
                go_quiet (fail)
                go_wp2
                go_roundw
                case rel => exact ⟨j + 1, by omega, by go_num, a, b, y, f, HB, by omega, by omega, HK2.out, by (repeat' (first | exact hBG | (apply Below.setCell (hp := Nat.le_refl _)) | apply below_draws | apply Below.setCell)) <;> (first | exact Nat.le_refl _ | (simp; done))⟩
                case measure => simp [intOf]; omega
              · by_cases hy2 : f < y
                · have HB : Hid ((a, b, e, y) = bx P ⟨vi, vx, vy⟩ (j + 1)) := by
                    show _ = _
                    rw [← HST.out]
                    simp only [Prod.mk.injEq]
                    refine ⟨by omega, by omega, by omega, by omega⟩
                  have hk2 : (wr.setCell ⟨gb, 3, none⟩ (.int .i64 y)).heap[gb]? = some (.cells #[.int .i64 a, .int .i64 b, .int .i64 e, .int .i64 y] 31 (0, 0)) := by simp [World.setCell, Array.getElem?_modify, HKB.out]
                  have HK2 := Lib.hid hk2
                  clear hk2
                  clear HST HKB
                  go_wp2_with fail
                  go_quiet (fail)
                  go_wp2_with fail
                  go_quiet (fail)
                  go_wp2_with fail
                  go_quiet (fail)
                  go_wp2_with fail
                  go_quiet (fail)
                  go_wp2
                  go_roundw
                  case rel => exact ⟨j + 1, by omega, by go_num, a, b, e, y, HB, by omega, by omega, HK2.out, by (repeat' (first | exact hBG | (apply Below.setCell (hp := Nat.le_refl _)) | apply below_draws | apply Below.setCell)) <;> (first | exact Nat.le_refl _ | (simp; done))⟩
                  case measure => simp [intOf]; omega
                · have HB : Hid ((a, b, e, f) = bx P ⟨vi, vx, vy⟩ (j + 1)) := by
                    show _ = _
                    rw [← HST.out]
                    simp only [Prod.mk.injEq]
                    refine ⟨by omega, by omega, by omega, by omega⟩
                  have HK2 := HKB
                  clear HST HKB
                  go_wp2_with fail
                  go_quiet (fail)
                  go_wp2_with fail
                  go_quiet (fail)
                  go_wp2_with fail
                  go_quiet (fail)
                  go_wp2_with fail
                  go_quiet (fail)
                  go_wp2
                  go_roundw
                  case rel => exact ⟨j + 1, by omega, by go_num, a, b, e, f, HB, by omega, by omega, HK2.out, by (repeat' (first | exact hBG | (apply Below.setCell (hp := Nat.le_refl _)) | apply below_draws | apply Below.setCell)) <;> (first | exact Nat.le_refl _ | (simp; done))⟩
                  case measure => simp [intOf]; omega
        · obtain rfl : j = P.length := by omega
          obtain ⟨q0, q1, q2⟩ := OwnE.cellsPt own hkl
          have hrs : w5.heap.size ≤ wr.heap.size := hBG.size
          have hgr : g < wr.heap.size := by omega
          have s6r : SrcE encKn 8 wr A6 c6 K1 := s6.below (by rw [← HGB.out]; exact hBG)
          have s7r : SrcE encKn 8 wr A7 c7 K2 := s7.below (by rw [← HGB.out]; exact hBG)
          have hBr : Below w.heap.size w wr := hB5.trans (hBG.mono hs5)
          have HNK : Hid ((⟨P[k].i, P[k].x, P[k].y, (K1.length : Int), a, b, e, f⟩ : Kn) = node P k P[k] P[k]) := by
            show _ = _
            rw [← HMEM.out]
            have h := hbx.out
            unfold bx at h
            rw [List.take_length] at h
            simp only [Prod.mk.injEq] at h
            obtain ⟨rfl, rfl, rfl, rfl⟩ := h
            unfold node
            rw [HlK1.out]
          have hws := hBr.size
          clear hbx HMEM HVV hkb s6 s7 own
          generalize P[k].i = pi at q0 HNK
          generalize P[k].x = px at q1 HNK
          generalize P[k].y = py at q2 HNK
          have kk0 : ∀ w', Below wr.heap.size wr w' → w'.cell? ⟨g, k * 3, none⟩ = some (.int .i64 pi) := fun w' h => (h.cell (p := ⟨g, k * 3, none⟩) hgr).trans q0
          have kk1 : ∀ w', Below wr.heap.size wr w' → w'.cell? ⟨g, k * 3 + 1, none⟩ = some (.int .i64 px) := fun w' h => (h.cell (p := ⟨g, k * 3 + 1, none⟩) hgr).trans q1
          have kk2 : ∀ w', Below wr.heap.size wr w' → w'.cell? ⟨g, k * 3 + 2, none⟩ = some (.int .i64 py) := fun w' h => (h.cell (p := ⟨g, k * 3 + 2, none⟩) hgr).trans q2
          have b0 : ∀ w', Below wr.heap.size wr w' → w'.cell? ⟨gb, 0, none⟩ = some (.int .i64 a) := fun w' h => (h.cell (p := ⟨gb, 0, none⟩) hgbl).trans y0
          have b1 : ∀ w', Below wr.heap.size wr w' → w'.cell? ⟨gb, 1, none⟩ = some (.int .i64 b) := fun w' h => (h.cell (p := ⟨gb, 1, none⟩) hgbl).trans y1
          have b2 : ∀ w', Below wr.heap.size wr w' → w'.cell? ⟨gb, 2, none⟩ = some (.int .i64 e) := fun w' h => (h.cell (p := ⟨gb, 2, none⟩) hgbl).trans y2
          have b3 : ∀ w', Below wr.heap.size wr w' → w'.cell? ⟨gb, 3, none⟩ = some (.int .i64 f) := fun w' h => (h.cell (p := ⟨gb, 3, none⟩) hgbl).trans y3
          clear y0 y1 y2 y3 q0 q1 q2
          have hkn0 : 0 ≤ (k : Int) := by omega
          have hkn1 : (k : Int) < (P.length : Int) := by omega
          go_wp2_with fail
          go_region_held3 (fun w' => Below wr.heap.size wr w')
            ((repeat' (first | exact Below.refl _ _ | assumption | apply Below.alloc | apply Below.setCell | apply Below.drew | apply below_draws | (refine Below.trans ?_ (Below.mono (by assumption) ?_)))) <;> (first | exact Below.size (by assumption) | omega | (simp; done) | (simp; omega) | (refine Nat.le_trans ?_ (Below.size (by assumption)); (first | omega | (simp <;> omega)))))
            (first | (refine step_append_any rowTKnot encKn_ok (by decide) rfl _ _ rfl wr.heap.size _ _ [⟨pi, px, py, (K1.length : Int), a, b, e, f⟩] rfl ?_ _ _ _ K1 rfl rfl ?_ (by have := HlK1.out; simp; omega) (by omega) (by first | exact Nat.le_refl _ | exact (show Below wr.heap.size wr _ by assumption).size | (simp; done) | (simp; omega)) ?_; (exact own_litAt encKn_ok #[.int .i64 pi, .int .i64 px, .int .i64 py, .int .i64 K1.length, .int .i64 a, .int .i64 b, .int .i64 e, .int .i64 f] [⟨pi, px, py, (K1.length : Int), a, b, e, f⟩] rfl (by rfl) (by first | rfl | (simp; done)) (by first | exact Nat.le_refl _ | exact (show Below wr.heap.size wr _ by assumption).size | (simp; done) | (simp; omega)) (by unfold maxLen; simp)); (exact s6r.below (by assumption)); intro X hX g9 c9 w9 own9 hg9 hat9 hb9))
          all_goals rename_i hH
          all_goals clear kk0 kk1 kk2 b0 b1 b2 b3 hg9 hat9 hb9
          all_goals
            have hXl : Hid (X.length = 1 + K1.length) := by show _ = _; rw [hX.out, List.length_append]; rfl
            have hs9 := hH.size
            have s79 := s7r.below hH
            go_wp2_with (at_builtin; refine append_rec rowTKnot encKn_ok (by decide) rfl _ _ rfl wr.heap.size _ _ X rfl own9 _ _ _ K2 rfl rfl s79 (by have := hXl.out; have := HlK2.out; have := HlK1.out; omega) (by omega) (by omega) ?_)
            intro Z hZ g11 c11 w11 own11 hg11 hat11 hb11
            have HZ : Z = node P k P[k] P[k] :: (K1 ++ K2) := by rw [hZ.out, hX.out, HNK.out]; simp
            subst HZ
            clear hZ hX HNK
            go_wp2
            go_ret
            exact ⟨_, c11, ⟨rfl, own11.src, fun _ => ⟨_, rfl, own_mono own11 hws⟩⟩, (hBr.trans (hH.mono hws)).trans (hb11.mono hws)⟩
theorem l15Build_any (n : Nat) (A : Option Addr) (c : Nat) (byY : Bool) (L : List Pt) (w : World) (h : SrcE encPt 3 w A c L) (h1 : L.length ≤ n) (h2 : n ≤ 1048576) :
    Calls Try.prog 35 #[.slice A L.length c, .bool byY] w (ReadsK (knF n byY L) w) := (l15Build_own n A c byY L w h h1 h2).mono fun _ _ h => BuildsK.reads h
end Go.Proofs.Ytbmbejomodkabaa
