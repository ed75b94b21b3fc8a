/-
  Contracts of reach and impl.NearAll.
-/
import Derived.Test.YtoifknepebplnaaPhraseLaw
import Derived.Test.YtoifknepebplnaaAt
namespace Go.Proofs.Ytoifknepebplnaa
open Go.RowKit
set_option linter.unusedVariables false

def rcI : List (List Int) → Int → Int → Int × Bool
  | [], _, t => (t, true)
  | L :: r, f, t => if nxB L f then rcI r f (max t (nxN L f)) else (0, false)
theorem rcI_drop {Ls : List (List Int)} {k : Nat} (hk : k < Ls.length) (f t : Int) : rcI (Ls.drop k) f t = if nxB Ls[k] f then rcI (Ls.drop (k + 1)) f (max t (nxN Ls[k] f)) else (0, false) := by
  rw [List.drop_eq_getElem_cons hk]; rfl
theorem reach_any (A : Option Addr) (c : Nat) (Ls : List (List Int)) (f : Int) (w : World) (h : RdSS w A Ls) (hn : total Ls ≤ 1048576) (hUP : Hid (∀ L ∈ Ls, upB L = true)) (hf0 : 0 ≤ f) (hf1 : f ≤ 1000000000) :
    Calls Try.prog 74 #[.slice A Ls.length c, .int .i64 f] w fun e w' => e = .returned (.tuple #[.int .i64 (rcI Ls f f).1, .bool (rcI Ls f f).2]) ∧ ∃ q, w' = w.drewN q := by
  have hl : Ls.length ≤ 1048576 := by unfold total at hn; omega
  obtain ⟨R, hR⟩ : ∃ R, R = rcI Ls f f := ⟨_, rfl⟩
  rw [← hR]
  have HR := Lib.hid hR
  clear hR
  go_enter Try.func74, Try.ntmps74
  go_wp2
  go_loopw [6, 8, 9, 10, 14] (fun tv _ _ _ iv wr => ∃ k : Nat, k ≤ Ls.length ∧ iv = .int .i64 k ∧ ∃ t : Int, tv = .int .i64 t ∧ 0 ≤ t ∧ t ≤ 1000000000 ∧ Hid (R = rcI (Ls.drop k) f t) ∧ ∃ q, wr = w.drewN q) (fun _ _ _ _ iv _ => Ls.length - (intOf iv).toNat)
  case atStart => exact ⟨0, Nat.zero_le _, rfl, f, rfl, hf0, hf1, HR, 0, rfl⟩
  case round =>
    obtain ⟨k, hk, rfl, t, rfl, ht0, ht1, hm, q, rfl⟩ := hrel
    by_cases hlt : k < Ls.length
    · obtain ⟨b, off, B, d, rfl, hb, hc, hs⟩ := h k hlt
      have hLk : Ls[k].length ≤ 1048576 := by have := total_mem (List.getElem_mem hlt); omega
      have hd := rcI_drop hlt f t
      have hU := hUP.out Ls[k] (List.getElem_mem _)
      generalize Ls[k] = L at hc hs hLk hd hU
      have hso : Hid (L.Pairwise (· ≤ ·)) := up_sorted hU
      obtain ⟨hb0, hb1⟩ := nxN_b (up_b hU) f
      clear hU
      cases hnb : nxB L f with
      | true =>
        rw [hnb, if_pos rfl] at hd
        have cN := next_any B d L f
        rw [hnb] at cN
        generalize nxN L f = n at hd hb0 hb1 cN
        have CN := Lib.hid cN
        have HD : Hid (R = rcI (Ls.drop (k + 1)) f (max t n)) := by show _ = _; rw [hm.out, hd]
        clear hd hm cN hnb
        go_wp2_with fail
        refine (CN.out _ (hs.1.drawn _) (by omega) hso).mono ?_
        rintro e w2 ⟨rfl, q2, rfl⟩
        go_wp2
        go_roundw
        case rel => exact ⟨k + 1, by omega, by go_num, max t n, by first | rfl | (congr 1; omega) | simp, by omega, by omega, HD, _, (by first | rfl | exact World.drewN_drewN _ _ _)⟩
        case measure => simp [intOf]; omega
      | false =>
        rw [hnb, if_neg (by simp)] at hd
        have cN := next_any B d L f
        rw [hnb] at cN
        have CN := Lib.hid cN
        have HD : Hid (R = (0, false)) := by show _ = _; rw [hm.out, hd]
        clear hd hm cN hnb
        go_wp2_with fail
        refine (CN.out _ (hs.1.drawn _) (by omega) hso).mono ?_
        rintro e w2 ⟨rfl, q2, rfl⟩
        go_wp2
        go_ret2
        exact ⟨by rw [HD.out]; rfl, _, (by first | rfl | exact World.drewN_drewN _ _ _)⟩
    · have HD : Hid (R = (t, true)) := by show _ = _; rw [hm.out, List.drop_of_length_le (by omega)]; rfl
      clear hm
      go_wp2
      go_ret2
      exact ⟨by rw [HD.out]; rfl, q, rfl⟩
theorem infoSpan : (Try.prog.info? 47).map (fun i => (i.zero, i.size, i.bytes)) = some (some (.agg #[.int .i64 0, .int .i64 0]), 2, 16) := by kernel_rfl
theorem rowTS : RowT Try.prog 43 47 2 16 := rowT_of Try.underlying43 infoSpan rfl
theorem enc2_ok : Enc enc2 2 := ⟨enc2_len, fun a u hu => by simp [enc2] at hu; rcases hu with rfl | rfl <;> rfl⟩
def spanOf (Ls : List (List Int)) (f : Int) : Bool := (rcI Ls f f).2 && (!(rcI Ls (f + 1) (f + 1)).2 || decide ((rcI Ls f f).1 < (rcI Ls (f + 1) (f + 1)).1))
def spansTo (Ls : List (List Int)) (K : List Int) : List (Int × Int) := (K.filter (spanOf Ls)).map fun f => (f, (rcI Ls f f).1)
def allK (Ls : List (List Int)) : List Int := Lib.compact (sortI Ls.flatten)
def nearI (Ls : List (List Int)) : List (Int × Int) := if placesB Ls then spansTo Ls (allK Ls) else []
theorem spans_yes {Ls : List (List Int)} {K : List Int} {k : Nat} (hk : k < K.length) (h : spanOf Ls K[k] = true) : spansTo Ls (K.take (k + 1)) = spansTo Ls (K.take k) ++ [(K[k], (rcI Ls K[k] K[k]).1)] := by
  unfold spansTo; rw [filter_yes hk h, List.map_append]; rfl
theorem spans_no {Ls : List (List Int)} {K : List Int} {k : Nat} (hk : k < K.length) (h : spanOf Ls K[k] = false) : spansTo Ls (K.take (k + 1)) = spansTo Ls (K.take k) := by
  unfold spansTo; rw [filter_no hk h]
theorem spans_len (Ls : List (List Int)) (K : List Int) (k : Nat) : (spansTo Ls (K.take k)).length ≤ K.length := by
  unfold spansTo; rw [List.length_map]; exact filter_len _ _ _
abbrev OwnS (w : World) (base g c : Nat) (L : List (Int × Int)) : Prop := OwnE enc2 47 2 w base g c L
/-- what a call that makes a slice of spans of its own hands back. -/
def MakesS (w : World) (L : List (Int × Int)) (e : Ending) (w' : World) : Prop :=
  ∃ (g d : Nat), (e = .returned (.slice (some ⟨g, 0, none⟩) L.length d) ∧ OwnS w' w.heap.size g d L) ∧ Below w.heap.size w w'
theorem allK_mem {Ls : List (List Int)} {x : Int} : x ∈ allK Ls ↔ ∃ L ∈ Ls, x ∈ L := by
  unfold allK; rw [compact_mem _ (sortI_asc _), sortI_mem, List.mem_flatten]
theorem allK_asc (Ls : List (List Int)) : (allK Ls).Pairwise (· < ·) := compact_asc _ (sortI_asc _)

set_option maxHeartbeats 800000 in
theorem nearAll_any (A : Option Addr) (c : Nat) (Ls : List (List Int)) (w : World) (h : RdSS w A Ls) (hn : total Ls ≤ 1048576) :
    Calls Try.prog 44 #[.slice A Ls.length c] w (MakesS w (nearI Ls)) := by
  have hl : Ls.length ≤ 1048576 := by unfold total at hn; omega
  have own0 : OwnS (w.alloc (.cells #[] 47)) w.heap.size w.heap.size 0 [] := ownE_made _ w _ (Nat.le_refl _)
  cases hu : placesB Ls with
  | false =>
    have HX : Hid (nearI Ls = []) := by show _ = _; unfold nearI; rw [hu]; rfl
    go_enter Try.func44, Try.ntmps44
    go_wp2_with fail
    refine (placesOk_any A c Ls _ (h.below (by (repeat' (first | exact Below.refl _ _ | apply Below.alloc | apply Below.setCell | apply Below.drew | apply below_draws)) <;> (first | omega | (simp <;> omega)))) hn).mono ?_
    rintro e w1 ⟨rfl, q, rfl⟩
    rw [hu]
    go_wp2
    go_ret
    exact ⟨_, _, ⟨by rw [HX.out]; rfl, by rw [HX.out]; exact own_drawn own0⟩, by (repeat' (first | exact Below.refl _ _ | apply Below.alloc | apply Below.setCell | apply Below.drew | apply below_draws)) <;> (first | omega | (simp <;> omega))⟩
  | true =>
    have hUP : Hid (∀ L ∈ Ls, upB L = true) := (places_up hu).1
    have HX : Hid (nearI Ls = spansTo Ls (allK Ls)) := by show _ = _; unfold nearI; rw [hu]; rfl
    have HF : Hid (Ls.flatten.length ≤ 1048576) := by show _ ≤ _; rw [List.length_flatten]; unfold total at hn; omega
    have HKb : Hid (∀ x ∈ allK Ls, 0 ≤ x ∧ x ≤ 999999999) := fun x hx => by
      obtain ⟨L, hL, hxL⟩ := allK_mem.1 hx
      exact up_b (hUP.out L hL) x hxL
    go_enter Try.func44, Try.ntmps44
    go_wp2_with fail
    refine (placesOk_any A c Ls _ (h.below (by (repeat' (first | exact Below.refl _ _ | apply Below.alloc | apply Below.setCell | apply Below.drew | apply below_draws)) <;> (first | omega | (simp <;> omega)))) hn).mono ?_
    rintro e w1 ⟨rfl, q, rfl⟩
    rw [hu]
    clear hu
    go_wp2_with fail
    obtain ⟨W1, hW1⟩ : ∃ W1, W1 = ((w.alloc (.cells #[] 47)).drewN q).alloc (.cells #[] 3) := ⟨_, rfl⟩
    have hsz : W1.heap.size = w.heap.size + 2 := by rw [hW1]; simp
    have hBW : Below w.heap.size w W1 := by rw [hW1]; exact (by (repeat' (first | exact Below.refl _ _ | apply Below.alloc | apply Below.setCell | apply Below.drew | apply below_draws)) <;> (first | omega | (simp <;> omega)))
    have ownO : OwnS W1 w.heap.size w.heap.size 0 [] := by rw [hW1]; exact (own_drawn own0).alloc _
    have ownA : OwnI W1 (w.heap.size + 1) (.slice (some ⟨w.heap.size + 1, 0, none⟩) 0 0) [] := by
      rw [hW1]
      have := ownI_made ((w.alloc (.cells #[] 47)).drewN q) (w.heap.size + 1) (by simp)
      simpa using this
    rw [← hW1]
    have hs1 : w.heap.size + 2 ≤ W1.heap.size := by omega
    clear hW1 own0 hsz
    go_loopw [4, 6, 21] (fun v _ i wr => ∃ k : Nat, k ≤ Ls.length ∧ i = .int .i64 k ∧ ∃ X, Hid (X = (Ls.take k).flatten) ∧ ∃ g c, v = .slice (some ⟨g, 0, none⟩) X.length c ∧ OwnI wr (w.heap.size + 1) (.slice (some ⟨g, 0, none⟩) X.length c) X ∧ Below (w.heap.size + 1) W1 wr) (fun _ _ i _ => Ls.length - (intOf i).toNat)
    case atStart => exact ⟨0, Nat.zero_le _, rfl, [], rfl, w.heap.size + 1, 0, rfl, ownA, Below.refl _ _⟩
    case round =>
      obtain ⟨k, hk, rfl, X, hX, g, c1, rfl, own, hB⟩ := hrel
      have hXl : X.length ≤ 1048576 := by
        have h1 : (Ls.take k).flatten.length ≤ Ls.flatten.length := by
          conv => rhs; rw [← List.take_append_drop k Ls, List.flatten_append, List.length_append]
          omega
        rw [hX.out]; exact Nat.le_trans h1 HF.out
      have hBs := hB.size
      by_cases hlt : k < Ls.length
      · obtain ⟨b, off, B, d, rfl, hb, hc, hs⟩ := (h.below (hBW.trans (hB.mono (by omega)))) k hlt
        have hX2 : Hid (X ++ Ls[k] = (Ls.take (k + 1)).flatten) := by show _ = _; rw [← List.take_append_getElem hlt, List.flatten_append, hX.out]; simp
        have hLk : Ls[k].length ≤ 1048576 := by have := total_mem (List.getElem_mem hlt); omega
        clear hX
        generalize Ls[k] = L at hc hs hX2 hLk
        go_wp2_with (at_builtin; refine append_at rfl _ _ rfl (w.heap.size + 1) _ _ _ X rfl rfl own _ _ _ L rfl rfl hs (by omega) (by omega) ?_)
        intro N hN g2 c2 w2 own2 hg2 hat2 hb2
        obtain rfl := hN.out
        have hB2 := hB.trans hb2
        clear hB hb2 hg2 hat2 hN hs hc own
        go_wp2
        go_roundw
        case rel => exact ⟨k + 1, by omega, by go_num, _, hX2, g2, c2, rfl, own2, hB2⟩
        case measure => simp [intOf]; omega
      · have hX2 : Hid (X = Ls.flatten) := by show X = _; rw [hX.out, List.take_of_length_le (by omega)]
        clear hX
        go_wp2_with fail
        refine (sort_own g c1 (w.heap.size + 1) X _ own (by omega)).mono ?_
        rintro e w3 ⟨S, ⟨rfl, hS, hSl, own3, _⟩, hb3⟩
        have hB3 := hB.trans hb3
        have HSl : Hid (X.length = S.length) := hSl.symm
        have hSb : S.length ≤ 1048576 := by have := HSl.out; omega
        clear hb3 hB own
        go_wp2_with fail
        refine (compact_own g c1 (w.heap.size + 1) X.length S _ HSl.out own3 (by omega)).mono ?_
        rintro e w4 ⟨K, ⟨rfl, hK, hKl, own4, _⟩, hb4⟩
        have hB4 := hB3.trans hb4
        have HK : Hid (K = allK Ls) := by show K = _; rw [hK.out, hS.out, hX2.out]; rfl
        have hKb : Hid (∀ x ∈ K, 0 ≤ x ∧ x ≤ 999999999) := fun x hx => by rw [HK.out] at hx; exact HKb.out x hx
        have HY : Hid (nearI Ls = spansTo Ls K) := by show _ = _; rw [HX.out, HK.out]
        have hKl2 : K.length ≤ 1048576 := by omega
        have ownO4 : OwnS w4 w.heap.size w.heap.size 0 [] := own_under ownO hB4 (fun k e => by simp [Value.ownBlock] at e; omega)
        have hBB := hBW.trans (hB4.mono (by omega))
        clear hb4 hB3 hB4 own3 ownO ownA hBW HX HK hK hS hX2 HF HKb hSl HSl hKl
        go_wp2_with fail
        go_loopw [3, 8, 9, 10, 11, 12, 34] (fun v _ _ _ _ _ iv wr => ∃ i : Nat, i ≤ K.length ∧ iv = .int .i64 i ∧ ∃ Y, Hid (Y = spansTo Ls (K.take i)) ∧ ∃ g2 c2, v = .slice (some ⟨g2, 0, none⟩) Y.length c2 ∧ OwnS wr w.heap.size g2 c2 Y ∧ OwnI wr (w.heap.size + 1) (.slice (some ⟨g, 0, none⟩) K.length c1) K ∧ Below w.heap.size w wr) (fun _ _ _ _ _ _ iv _ => K.length - (intOf iv).toNat)
        case atStart => exact ⟨0, Nat.zero_le _, rfl, [], rfl, _, _, rfl, ownO4, own4, hBB⟩
        case round =>
          obtain ⟨i, hi, rfl, Y, hY, g2, c2, rfl, ownY, ownK, hBr⟩ := hrel
          have hYl : Y.length ≤ K.length := by rw [hY.out]; exact spans_len Ls K i
          have hrs := hBr.size
          clear hBB own4 ownO4
          by_cases hlt2 : i < K.length
          · obtain ⟨hb2, x0⟩ := (Rds.own ownK).all1 hlt2
            rw [Nat.zero_add] at x0
            have hi0 : (i : Int) < (K.length : Int) := by omega
            have hpb := hKb.out K[i] (List.getElem_mem _)
            have hyes := spans_yes (Ls := Ls) hlt2
            have hno := spans_no (Ls := Ls) hlt2
            generalize K[i] = p at x0 hpb hyes hno
            obtain ⟨hp0, hp1⟩ := hpb
            obtain ⟨R, hR⟩ : ∃ R, R = rcI Ls p p := ⟨_, rfl⟩
            obtain ⟨R2, hR2⟩ : ∃ R, R = rcI Ls (p + 1) (p + 1) := ⟨_, rfl⟩
            have hsp : spanOf Ls p = (R.2 && (!R2.2 || decide (R.1 < R2.1))) := by unfold spanOf; rw [← hR, ← hR2]
            have c1' := fun W h => reach_any A c Ls p W h hn hUP hp0 (by omega)
            have c2' := fun W h => reach_any A c Ls (p + 1) W h hn hUP (by omega) (by omega)
            rw [← hR] at c1' hyes
            rw [← hR2] at c2'
            obtain ⟨t, ok⟩ := R
            obtain ⟨t2, ok2⟩ := R2
            simp only at hsp hyes c1' c2'
            have C1 := Lib.hid c1'
            have C2 := Lib.hid c2'
            have HYES := Lib.hid hyes
            have HNO := Lib.hid hno
            have HSP := Lib.hid hsp
            have hS2 := h.below hBr
            clear hyes hno hsp c1' c2' hR hR2
            go_wp2_with fail
            refine (C1.out _ hS2).mono ?_
            rintro e w5 ⟨rfl, q5, rfl⟩
            go_wp2_with fail
            refine (C2.out _ (hS2.drawn _)).mono ?_
            rintro e w6 ⟨rfl, q6, rfl⟩
            have hB6 : Below w.heap.size w (wr.drewN (q5 + q6)) := hBr.trans ((below_of_drewN).mono hrs)
            have own6 : OwnS (wr.drewN (q5 + q6)) w.heap.size g2 c2 Y := own_drawn ownY
            have ownK6 : OwnI (wr.drewN (q5 + q6)) (w.heap.size + 1) (.slice (some ⟨g, 0, none⟩) K.length c1) K := own_drawn ownK
            cases ok with
            | false =>
              have hK : Hid (Y = spansTo Ls (K.take (i + 1))) := by show _ = _; rw [HNO.out (by rw [HSP.out]; rfl), hY.out]
              clear hY HYES HNO HSP
              go_wp2
              go_roundw
              case rel => exact ⟨i + 1, by omega, by go_num, Y, hK.out, g2, c2, rfl, own6, ownK6, hB6⟩
              case measure => simp [intOf]; omega
            | true =>
              cases ok2 with
              | false =>
                have hK : Hid (Y ++ [(p, t)] = spansTo Ls (K.take (i + 1))) := by show _ = _; rw [HYES.out (by rw [HSP.out]; rfl), hY.out]
                clear hY HYES HNO HSP
                go_wp2_with (at_builtin; refine append_rec rowTS enc2_ok (by decide) rfl _ _ rfl w.heap.size g2 c2 Y rfl (own6.alloc _) _ _ _ [(p, t)] rfl rfl (SrcE.lit enc2_ok _ _ #[.int .i64 p, .int .i64 t] [(p, t)] rfl 1) (by simp; omega) (by omega) (by simp; omega) ?_)
                intro N hN g7 c7 w7 own7 hg7 hat7 hb7
                have hB7 : Below w.heap.size w w7 := hB6.trans (Below.trans (by (repeat' (first | exact Below.refl _ _ | apply Below.alloc | apply Below.setCell | apply Below.drew | apply below_draws)) <;> (first | omega | (simp <;> omega))) hb7)
                have ownK7 := own_kept (v2 := .slice (some ⟨g2, 0, none⟩) Y.length c2) (ownK6.alloc _) hg7 (own_ne ownK6 own6 (by decide))
                have HN : N = spansTo Ls (K.take (i + 1)) := by rw [← hK.out]; exact hN.out
                clear hN hK hg7 hat7 hb7 hB6 own6 ownK6 hBr ownY ownK
                go_wp2
                go_roundw
                case rel => exact ⟨i + 1, by omega, by go_num, N, HN, g7, c7, rfl, own7, ownK7, hB7⟩
                case measure => simp [intOf]; omega
              | true =>
                by_cases htt : t < t2
                · have tok := trivial
                  have hK : Hid (Y ++ [(p, t)] = spansTo Ls (K.take (i + 1))) := by show _ = _; rw [HYES.out (by rw [HSP.out]; rw [decide_eq_true htt]; rfl), hY.out]
                  clear hY HYES HNO HSP
                  go_wp2_with (at_builtin; refine append_rec rowTS enc2_ok (by decide) rfl _ _ rfl w.heap.size g2 c2 Y rfl (own6.alloc _) _ _ _ [(p, t)] rfl rfl (SrcE.lit enc2_ok _ _ #[.int .i64 p, .int .i64 t] [(p, t)] rfl 1) (by simp; omega) (by omega) (by simp; omega) ?_)
                  intro N hN g7 c7 w7 own7 hg7 hat7 hb7
                  have hB7 : Below w.heap.size w w7 := hB6.trans (Below.trans (by (repeat' (first | exact Below.refl _ _ | apply Below.alloc | apply Below.setCell | apply Below.drew | apply below_draws)) <;> (first | omega | (simp <;> omega))) hb7)
                  have ownK7 := own_kept (v2 := .slice (some ⟨g2, 0, none⟩) Y.length c2) (ownK6.alloc _) hg7 (own_ne ownK6 own6 (by decide))
                  have HN : N = spansTo Ls (K.take (i + 1)) := by rw [← hK.out]; exact hN.out
                  clear hN hK hg7 hat7 hb7 hB6 own6 ownK6 hBr ownY ownK
                  go_wp2
                  go_roundw
                  case rel => exact ⟨i + 1, by omega, by go_num, N, HN, g7, c7, rfl, own7, ownK7, hB7⟩
                  case measure => simp [intOf]; omega
                · have tok := trivial
                  have hK : Hid (Y = spansTo Ls (K.take (i + 1))) := by show _ = _; rw [HNO.out (by rw [HSP.out]; rw [decide_eq_false htt]; rfl), hY.out]
                  clear hY HYES HNO HSP
                  go_wp2
                  go_roundw
                  case rel => exact ⟨i + 1, by omega, by go_num, Y, hK.out, g2, c2, rfl, own6, ownK6, hB6⟩
                  case measure => simp [intOf]; omega
          · have e : Y = nearI Ls := by rw [HY.out, hY.out, List.take_of_length_le (by omega)]
            subst e
            clear HY hY
            go_wp2
            go_ret
            exact ⟨_, _, ⟨rfl, ownY⟩, hBr⟩
end Go.Proofs.Ytoifknepebplnaa
