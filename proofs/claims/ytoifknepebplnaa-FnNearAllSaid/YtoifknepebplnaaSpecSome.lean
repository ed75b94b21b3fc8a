/-
  Contract of spec.SetSome; both are one.
-/
import Derived.Test.YtoifknepebplnaaSetSome
namespace Go.Proofs.Ytoifknepebplnaa
open Go.RowKit
set_option linter.unusedVariables false

def allI (Ls : List (List Int)) : List Int := Ls.foldl putAll []
theorem allI_take (Ls : List (List Int)) {k : Nat} (hk : k < Ls.length) : allI (Ls.take (k + 1)) = putAll (allI (Ls.take k)) Ls[k] := by
  unfold allI
  rw [← List.take_append_getElem hk, List.foldl_append]; rfl
theorem allI_len (Ls : List (List Int)) : (allI Ls).length ≤ (Ls.map List.length).sum := by
  have : ∀ X : List Int, (Ls.foldl putAll X).length ≤ X.length + (Ls.map List.length).sum := by
    induction Ls with
    | nil => intro X; simp
    | cons L r ih =>
      intro X
      rw [List.foldl_cons, List.map_cons, List.sum_cons]
      have := ih (putAll X L)
      have := putAll_len X L
      omega
  have := this []
  rw [List.length_nil, Nat.zero_add] at this
  exact this
theorem sum_take (Ls : List (List Int)) (k : Nat) : ((Ls.take k).map List.length).sum ≤ (Ls.map List.length).sum := by
  conv => rhs; rw [← List.take_append_drop k Ls, List.map_append, List.sum_append]
  omega
def cntL (Ls : List (List Int)) (x : Int) : Nat := Ls.countP fun L => inB L x
theorem cntL_yes {Ls : List (List Int)} {x : Int} {k : Nat} (hk : k < Ls.length) (h : inB Ls[k] x = true) : cntL (Ls.take (k + 1)) x = cntL (Ls.take k) x + 1 := by
  unfold cntL; rw [← List.take_append_getElem hk, List.countP_append]; simp [h]
theorem cntL_no {Ls : List (List Int)} {x : Int} {k : Nat} (hk : k < Ls.length) (h : inB Ls[k] x = false) : cntL (Ls.take (k + 1)) x = cntL (Ls.take k) x := by
  unfold cntL; rw [← List.take_append_getElem hk, List.countP_append]; simp [h]
theorem cntL_le (Ls : List (List Int)) (x : Int) : cntL Ls x ≤ Ls.length := List.countP_le_length
def enough (Ls : List (List Int)) (many : Int) (x : Int) : Bool := decide (many ≤ (cntL Ls x : Int))
def sSomeI (Ls : List (List Int)) (many : Int) : List Int := if listsB Ls && decide (1 ≤ many) then (allI Ls).filter (enough Ls many) else []
theorem sSomeI_big {Ls : List (List Int)} (many : Int) (h : ¬ Ls.length ≤ 6) : sSomeI Ls many = [] := by
  unfold sSomeI listsB; rw [decide_eq_false h, Bool.and_false]; rfl
theorem sSomeI_few {Ls : List (List Int)} {many : Int} (h : ¬ 1 ≤ many) : sSomeI Ls many = [] := by
  unfold sSomeI; rw [decide_eq_false h, Bool.and_false]; rfl
theorem sSomeI_not {Ls : List (List Int)} (many : Int) (h : allUp Ls = false) : sSomeI Ls many = [] := by
  unfold sSomeI listsB; rw [h]; rfl

set_option maxHeartbeats 400000 in
theorem specSetSome_any (A : Option Addr) (c : Nat) (Ls : List (List Int)) (many : Int) (w : World) (h : RdSS w A Ls) (hn : total Ls ≤ 1048576) :
    Calls Try.prog 40 #[.slice A Ls.length c, .int .i64 many] w (Makes w (sSomeI Ls many)) := by
  have hl : Ls.length ≤ 1048576 := by unfold total at hn; omega
  have own0 := ownI_made w w.heap.size (Nat.le_refl _)
  by_cases h6 : Ls.length ≤ 6
  · by_cases hm : 1 ≤ many
    · go_enter Try.func40, Try.ntmps40
      go_wp2_with fail
      obtain ⟨W0, hW0⟩ : ∃ W0, W0 = w.alloc (.cells #[] 3) := ⟨_, rfl⟩
      have hB0 : Below w.heap.size w W0 := by rw [hW0]; exact (by (repeat' (first | exact Below.refl _ _ | apply Below.alloc | apply Below.setCell | apply Below.drew | apply below_draws)) <;> (first | omega | (simp <;> omega)))
      rw [← hW0] at own0 ⊢
      clear hW0
      go_loopw [5, 6] (fun v i wr => ∃ k : Nat, k ≤ Ls.length ∧ i = .int .i64 k ∧ Hid (allUp Ls = allUp (Ls.drop k)) ∧ ∃ X, Hid (X = allI (Ls.take k)) ∧ ∃ B d, v = .slice B X.length d ∧ OwnI wr w.heap.size (.slice B X.length d) X ∧ Below w.heap.size w wr) (fun _ i _ => Ls.length - (intOf i).toNat)
      case atStart => exact ⟨0, Nat.zero_le _, rfl, rfl, [], rfl, _, _, rfl, own0, hB0⟩
      case round =>
        obtain ⟨k, hk, rfl, hu, X, hX, g, c1, rfl, own, hB⟩ := hrel
        have hXl : X.length ≤ 1048576 := by
          have h1 := allI_len (Ls.take k)
          have h2 := sum_take Ls k
          rw [hX.out]; unfold total at hn; omega
        have hBs := hB.size
        by_cases hlt : k < Ls.length
        · obtain ⟨b, off, B, d, rfl, hb, hc, hs⟩ := (h.below hB) k hlt
          have hX2 : Hid (allI (Ls.take (k + 1)) = putAll X Ls[k]) := by show _ = _; rw [allI_take Ls hlt, hX.out]
          have hLk : Ls[k].length ≤ 1048576 := by have := total_mem (List.getElem_mem hlt); omega
          have hd := allUp_drop hlt
          clear hX own0 hB0
          generalize Ls[k] = L at hc hs hX2 hLk hd
          cases hul : upB L with
          | false =>
            have HD : Hid (sSomeI Ls many = []) := by show _ = _; rw [sSomeI_not many (by rw [hu.out, hd, hul]; rfl)]
            clear hd hu
            go_wp2_with fail
            refine (l3Up_any B d L _ hs.1 (by omega)).mono ?_
            rintro e w2 ⟨rfl, q2, rfl⟩
            rw [hul]
            go_wp2
            go_ret
            exact ⟨none, 0, ⟨by rw [HD.out]; rfl, by rw [HD.out]; exact ownI_nil _ _⟩, hB.trans (by (repeat' (first | exact Below.refl _ _ | apply Below.alloc | apply Below.setCell | apply Below.drew | apply below_draws)) <;> (first | omega | (simp <;> omega)))⟩
          | true =>
            have HD : Hid (allUp Ls = allUp (Ls.drop (k + 1))) := by show _ = _; rw [hu.out, hd, hul, Bool.true_and]
            clear hd hu
            go_wp2_with fail
            refine (l3Up_any B d L _ hs.1 (by omega)).mono ?_
            rintro e w2 ⟨rfl, q2, rfl⟩
            rw [hul]
            go_wp2_with fail
            refine (l8Or_any g B c1 d X L _ (OwnI.src (own_drawn own)) (hs.drawn _) (by omega) (by omega)).mono ?_
            rintro e w3 ⟨B3, d3, ⟨rfl, own3⟩, hB3⟩
            have hB4 := hB.trans ((below_of_drewN (n := q2)).mono hBs |>.trans (hB3.mono (by simp; omega)))
            have own4 := own_mono own3 (base' := w.heap.size) (by simp; omega)
            clear own own3 hB hB3 hs hc
            go_wp2
            go_roundw
            case rel => exact ⟨k + 1, by omega, by go_num, HD, _, hX2.out.symm, B3, d3, rfl, own4, hB4⟩
            case measure => simp [intOf]; omega
        · have hX2 : Hid (X = allI Ls) := by show X = _; rw [hX.out, List.take_of_length_le (by omega)]
          have hU : allUp Ls = true := by rw [hu.out, List.drop_of_length_le (by omega)]; rfl
          have HY : Hid (sSomeI Ls many = X.filter (enough Ls many)) := by show _ = _; unfold sSomeI listsB; rw [hU, decide_eq_true h6, decide_eq_true hm, hX2.out]; rfl
          clear hX hu hU hX2 hB0 own0
          obtain ⟨W1, rfl⟩ : ∃ W1 : World, W1 = wr := ⟨_, rfl⟩
          have hL1 := h.below hB
          have ownY := ownI_made W1 W1.heap.size (Nat.le_refl _)
          have hX1 := OwnI.src own
          have HLen : Hid (∀ L ∈ Ls, L.length ≤ 1048576) := fun L hL => by have := total_mem hL; omega
          clear h own
          go_wp2_with fail
          go_loopw [7, 8, 9, 10] (fun v iv _ _ wr => ∃ i : Nat, i ≤ X.length ∧ iv = .int .i64 i ∧ ∃ Y, Hid (Y = (X.take i).filter (enough Ls many)) ∧ ∃ g2 c2, v = .slice (some ⟨g2, 0, none⟩) Y.length c2 ∧ OwnI wr W1.heap.size (.slice (some ⟨g2, 0, none⟩) Y.length c2) Y ∧ Below W1.heap.size W1 wr) (fun _ iv _ _ _ => X.length - (intOf iv).toNat)
          case atStart => exact ⟨0, Nat.zero_le _, rfl, [], rfl, _, _, rfl, ownY, by (repeat' (first | exact Below.refl _ _ | apply Below.alloc | apply Below.setCell | apply Below.drew | apply below_draws)) <;> (first | omega | (simp <;> omega))⟩
          case round =>
            obtain ⟨i, hi, rfl, Y, hY, g2, c2, rfl, ownY2, hB2⟩ := hrel
            have hYl : Y.length ≤ X.length := by rw [hY.out]; exact filter_len _ _ _
            have hs2 := hB2.size
            by_cases hlt : i < X.length
            · obtain ⟨b, off, rfl, hb, x0⟩ := (hX1.1.below hB2).at1 hlt
              have hi0 : (i : Int) < (X.length : Int) := by omega
              have hyes := filter_yes (p := enough Ls many) hlt
              have hno := filter_no (p := enough Ls many) hlt
              generalize X[i] = p at x0 hyes hno
              have HYES := Lib.hid hyes
              have HNO := Lib.hid hno
              clear hyes hno
              obtain ⟨W2, rfl⟩ : ∃ W2 : World, W2 = wr := ⟨_, rfl⟩
              go_wp2_with fail
              go_loopw [9, 10] (fun nv jv wr => ∃ j : Nat, j ≤ Ls.length ∧ jv = .int .i64 j ∧ (∃ n : Nat, nv = .int .i64 n ∧ n ≤ j ∧ Hid (n = cntL (Ls.take j) p)) ∧ ∃ q, wr = W2.drewN q) (fun _ jv _ => Ls.length - (intOf jv).toNat)
              case atStart => exact ⟨0, Nat.zero_le _, rfl, ⟨0, rfl, Nat.le_refl _, rfl⟩, 0, rfl⟩
              case round =>
                obtain ⟨j, hj, rfl, ⟨n, rfl, hnj, hn2⟩, q, rfl⟩ := hrel
                by_cases hlj : j < Ls.length
                · obtain ⟨b2, off2, B, d, rfl, hb2, hc, hs⟩ := (hL1.below hB2) j hlj
                  have hj0 : (j : Int) < (Ls.length : Int) := by omega
                  have hLk := HLen.out Ls[j] (List.getElem_mem _)
                  have hcy := cntL_yes (x := p) hlj
                  have hcn := cntL_no (x := p) hlj
                  generalize Ls[j] = L at hc hs hLk hcy hcn
                  cases hin : inB L p with
                  | true =>
                    have HN : Hid (n + 1 = cntL (Ls.take (j + 1)) p) := by show _ = _; rw [hcy hin, hn2.out]
                    clear hcy hcn hn2
                    go_wp2_with fail
                    go_quiet ((go_at_call 71; first | exact qsame (l8Has_any _ _ _ _ _ (hs.1.drawn _) (by omega)) | exact qsame2 (l8Has_any _ _ _ _ _ (hs.1.drawn _) (by omega))))
                    rw [hin]
                    go_wp2
                    go_roundw
                    case rel => exact ⟨j + 1, by omega, by go_num, ⟨n + 1, by go_num, by omega, HN⟩, _, (by first | rfl | exact World.drewN_drewN _ _ _)⟩
                    case measure => simp [intOf]; omega
                  | false =>
                    have HN : Hid (n = cntL (Ls.take (j + 1)) p) := by show _ = _; rw [hcn hin, hn2.out]
                    clear hcy hcn hn2
                    go_wp2_with fail
                    go_quiet ((go_at_call 71; first | exact qsame (l8Has_any _ _ _ _ _ (hs.1.drawn _) (by omega)) | exact qsame2 (l8Has_any _ _ _ _ _ (hs.1.drawn _) (by omega))))
                    rw [hin]
                    go_wp2
                    go_roundw
                    case rel => exact ⟨j + 1, by omega, by go_num, ⟨n, rfl, by omega, HN⟩, _, (by first | rfl | exact World.drewN_drewN _ _ _)⟩
                    case measure => simp [intOf]; omega
                · have hn3 : Hid (n = cntL Ls p) := by show _ = _; rw [hn2.out, List.take_of_length_le (by omega)]
                  clear hn2
                  have hB3 : Below W1.heap.size W1 (W2.drewN q) := hB2.trans ((below_of_drewN).mono hs2)
                  have own3 := own_drawn (q := q) ownY2
                  by_cases hge : many ≤ (n : Int)
                  · have HK : Hid (Y ++ [p] = (X.take (i + 1)).filter (enough Ls many)) := by
                      show _ = _
                      rw [HYES.out (by unfold enough; rw [← hn3.out]; exact decide_eq_true hge), hY.out]
                    clear hY hn3 HYES HNO
                    go_wp2_with (at_builtin; refine append_at rfl _ _ rfl W1.heap.size _ _ _ Y rfl rfl (own3.alloc _) _ _ _ [p] rfl rfl (Src.lit _ p) (by simp; omega) (by simp; omega) ?_)
                    intro N hN g4 c4 w4 own4 hg4 hat4 hb4
                    have hB4 : Below W1.heap.size W1 w4 := hB2.trans (Below.trans (by (repeat' (first | exact Below.refl _ _ | apply Below.alloc | apply Below.setCell | apply Below.drew | apply below_draws)) <;> (first | omega | (simp <;> omega))) hb4)
                    have HN : N = (X.take (i + 1)).filter (enough Ls many) := by rw [← HK.out]; exact hN.out
                    clear hN HK hat4 hg4 hb4 hB2 hB3 ownY2 own3
                    go_wp2
                    go_roundw
                    case rel => exact ⟨i + 1, by omega, by go_num, N, HN, g4, c4, rfl, own4, hB4⟩
                    case measure => simp [intOf]; omega
                  · have HK : Hid (Y = (X.take (i + 1)).filter (enough Ls many)) := by
                      show _ = _
                      rw [HNO.out (by unfold enough; rw [← hn3.out]; exact decide_eq_false hge), hY.out]
                    clear hY hn3 HYES HNO
                    go_wp2
                    go_roundw
                    case rel => exact ⟨i + 1, by omega, by go_num, Y, HK.out, g2, c2, rfl, own3, hB3⟩
                    case measure => simp [intOf]; omega
            · have e : Y = sSomeI Ls many := by rw [HY.out, hY.out, List.take_of_length_le (by omega)]
              subst e
              clear HY hY
              go_wp2
              go_ret
              exact ⟨_, _, ⟨rfl, own_mono ownY2 hBs⟩, hB.trans (hB2.mono hBs)⟩
    · have HD : Hid (sSomeI Ls many = []) := by show _ = _; rw [sSomeI_few hm]
      go_enter Try.func40, Try.ntmps40
      go_wp2
      go_ret
      exact ⟨none, 0, ⟨by rw [HD.out]; rfl, by rw [HD.out]; exact ownI_nil _ _⟩, by (repeat' (first | exact Below.refl _ _ | apply Below.alloc | apply Below.setCell | apply Below.drew | apply below_draws)) <;> (first | omega | (simp <;> omega))⟩
  · have HD : Hid (sSomeI Ls many = []) := by show _ = _; rw [sSomeI_big many h6]
    go_enter Try.func40, Try.ntmps40
    go_wp2
    go_ret
    exact ⟨none, 0, ⟨by rw [HD.out]; rfl, by rw [HD.out]; exact ownI_nil _ _⟩, by (repeat' (first | exact Below.refl _ _ | apply Below.alloc | apply Below.setCell | apply Below.drew | apply below_draws)) <;> (first | omega | (simp <;> omega))⟩
end Go.Proofs.Ytoifknepebplnaa
