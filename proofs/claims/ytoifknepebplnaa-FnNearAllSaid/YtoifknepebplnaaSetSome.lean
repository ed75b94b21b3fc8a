/-
  Contracts of listsOk, impl.SetSome, spec.SetSome.
-/
import Derived.Test.YtoifknepebplnaaExactSS
import Derived.Test.YtoifknepebplnaaOrMore
import Derived.Test.YtoifknepebplnaaAt
namespace Go.Proofs.Ytoifknepebplnaa
open Go.RowKit
set_option linter.unusedVariables false

def allUp (Ls : List (List Int)) : Bool := Ls.all upB
def listsB (Ls : List (List Int)) : Bool := allUp Ls && decide (Ls.length ≤ 6)
theorem allUp_drop {Ls : List (List Int)} {k : Nat} (hk : k < Ls.length) : allUp (Ls.drop k) = (upB Ls[k] && allUp (Ls.drop (k + 1))) := by
  unfold allUp; rw [List.drop_eq_getElem_cons hk, List.all_cons]
theorem listsOk_any (A : Option Addr) (c : Nat) (Ls : List (List Int)) (w : World) (h : RdSS w A Ls) (hn : total Ls ≤ 1048576) :
    Calls Try.prog 72 #[.slice A Ls.length c] w fun e w' => e = .returned (.bool (listsB Ls)) ∧ ∃ q, w' = w.drewN q := by
  have hl : Ls.length ≤ 1048576 := by unfold total at hn; omega
  have HL : Hid (∀ L ∈ Ls, L.length ≤ 1048576) := fun L hL => by have := total_mem hL; omega
  go_enter Try.func72, Try.ntmps72
  go_wp2
  go_loopw [4, 7] (fun _ i wr => ∃ k : Nat, k ≤ Ls.length ∧ i = .int .i64 k ∧ Hid (allUp Ls = allUp (Ls.drop k)) ∧ ∃ q, wr = w.drewN q) (fun _ i _ => Ls.length - (intOf i).toNat)
  case atStart => exact ⟨0, Nat.zero_le _, rfl, rfl, 0, rfl⟩
  case round =>
    obtain ⟨k, hk, rfl, hm, q, rfl⟩ := hrel
    by_cases hlt : k < Ls.length
    · obtain ⟨b, off, B, d, rfl, hb, hc, hs⟩ := h k hlt
      have hLk := HL.out Ls[k] (List.getElem_mem _)
      have hd := allUp_drop hlt
      generalize Ls[k] = L at hc hs hLk hd
      cases hu : upB L with
      | true =>
        have HD : Hid (allUp Ls = allUp (Ls.drop (k + 1))) := by show _ = _; rw [hm.out, hd, hu, Bool.true_and]
        clear hd hm
        go_wp2_with fail
        refine (upOk_any B d L _ (hs.1.drawn _) (by omega)).mono ?_
        rintro e w2 ⟨rfl, q2, rfl⟩
        rw [hu]
        go_wp2
        go_roundw
        case rel => exact ⟨k + 1, by omega, by go_num, HD, _, (by first | rfl | exact World.drewN_drewN _ _ _)⟩
        case measure => simp [intOf]; omega
      | false =>
        have HD : Hid (listsB Ls = false) := by show _ = _; unfold listsB; rw [hm.out, hd, hu]; rfl
        clear hd hm
        go_wp2_with fail
        refine (upOk_any B d L _ (hs.1.drawn _) (by omega)).mono ?_
        rintro e w2 ⟨rfl, q2, rfl⟩
        rw [hu]
        go_wp2
        go_ret
        exact ⟨ret_bool (by rw [HD.out]), _, (by first | rfl | exact World.drewN_drewN _ _ _)⟩
    · have HD : Hid (listsB Ls = decide (Ls.length ≤ 6)) := by show _ = _; unfold listsB; rw [hm.out, List.drop_of_length_le (by omega)]; rfl
      clear hm
      by_cases h6 : Ls.length ≤ 6
      · go_wp2
        go_ret
        exact ⟨ret_bool (by rw [HD.out]; simp [h6]; omega), q, rfl⟩
      · go_wp2
        go_ret
        exact ⟨ret_bool (by rw [HD.out]; simp [h6]; omega), q, rfl⟩

/-- what is kept of a sorted list: the last of each run that is long enough. -/
def keepAt (S : List Int) (many : Int) (k : Nat) : Bool := !(decide (k + 1 < S.length) && decide (S.getD (k + 1) 0 = S.getD k 0)) && decide (many ≤ (k : Int) + 1 - (S.countP (· < S.getD k 0) : Nat))
def someTo (S : List Int) (many : Int) (k : Nat) : List Int := ((List.range k).filter (keepAt S many)).map fun j => S.getD j 0
theorem someTo_yes {S : List Int} {many : Int} {k : Nat} (h : keepAt S many k = true) : someTo S many (k + 1) = someTo S many k ++ [S.getD k 0] := by
  unfold someTo; rw [List.range_succ, List.filter_append, List.map_append]; simp [h]
theorem someTo_no {S : List Int} {many : Int} {k : Nat} (h : keepAt S many k = false) : someTo S many (k + 1) = someTo S many k := by
  unfold someTo; rw [List.range_succ, List.filter_append, List.map_append]; simp [h]
theorem someTo_len (S : List Int) (many : Int) (k : Nat) : (someTo S many k).length ≤ k := by
  unfold someTo; rw [List.length_map]; exact Nat.le_trans (List.length_filter_le _ _) (by simp)
def someI (Ls : List (List Int)) (many : Int) : List Int := if listsB Ls && decide (1 ≤ many) then someTo (sortI Ls.flatten) many (sortI Ls.flatten).length else []

/-- BinarySearch on a sorted row of the call's own. -/
theorem search_own (A : Option Addr) (c n : Nat) (L : List Int) (x : Int) (w : World) (hn0 : n = L.length) (h : RdI w A L) (hn : L.length ≤ 16777216) (hs : L.Pairwise (· ≤ ·)) :
    Calls Try.prog 73 #[.slice A n c, .int .i64 x] w fun e w' => e = .returned (.tuple #[.int .i64 (L.countP (· < x) : Nat), .bool (inB L x)]) ∧ ∃ q, w' = w.drewN q := by
  subst hn0
  rcases Nat.eq_zero_or_pos L.length with h0 | h0
  · obtain rfl : L = [] := List.length_eq_zero_iff.1 h0
    refine (Try.slices_BinarySearch_int_empty A c x w).mono ?_
    rintro e w' ⟨rfl, rfl⟩
    exact ⟨rfl, 0, rfl⟩
  · obtain ⟨b, off, rfl, hb, hc⟩ := h.2 h0
    have := Try.slices_BinarySearch_int b off L.length c L x w (Nat.le_refl _) (by omega) (fun j hj => by
      have := hc j _ (ints_get hj)
      rw [this, List.getD_eq_getElem?_getD, List.getElem?_eq_getElem hj]; rfl) (by rw [List.take_length]; exact hs)
    rw [List.take_length] at this
    exact this
theorem setSome_any (A : Option Addr) (c : Nat) (Ls : List (List Int)) (many : Int) (w : World) (h : RdSS w A Ls) (hn : total Ls ≤ 1048576) :
    Calls Try.prog 41 #[.slice A Ls.length c, .int .i64 many] w (Makes w (someI Ls many)) := by
  have hl : Ls.length ≤ 1048576 := by unfold total at hn; omega
  have own0 := ownI_made w w.heap.size (Nat.le_refl _)
  cases hu : listsB Ls with
  | false =>
    have HX : Hid (someI Ls many = []) := by show _ = _; unfold someI; rw [hu]; rfl
    go_enter Try.func41, Try.ntmps41
    go_wp2_with fail
    refine (listsOk_any A c Ls _ (h.below (by (repeat' (first | exact Below.refl _ _ | apply Below.alloc | apply Below.setCell | apply Below.drew | apply below_draws)) <;> (first | omega | (simp <;> omega)))) hn).mono ?_
    rintro e w1 ⟨rfl, q, rfl⟩
    rw [hu]
    go_wp2
    go_ret
    exact ⟨_, _, ⟨by rw [HX.out]; rfl, by rw [HX.out]; exact own_drawn own0⟩, by (repeat' (first | exact Below.refl _ _ | apply Below.alloc | apply Below.setCell | apply Below.drew | apply below_draws)) <;> (first | omega | (simp <;> omega))⟩
  | true =>
    by_cases hm : many < 1
    · have HX : Hid (someI Ls many = []) := by show _ = _; unfold someI; rw [decide_eq_false (by omega : ¬ 1 ≤ many), Bool.and_false]; rfl
      go_enter Try.func41, Try.ntmps41
      go_wp2_with fail
      refine (listsOk_any A c Ls _ (h.below (by (repeat' (first | exact Below.refl _ _ | apply Below.alloc | apply Below.setCell | apply Below.drew | apply below_draws)) <;> (first | omega | (simp <;> omega)))) hn).mono ?_
      rintro e w1 ⟨rfl, q, rfl⟩
      rw [hu]
      go_wp2
      go_ret
      exact ⟨_, _, ⟨by rw [HX.out]; rfl, by rw [HX.out]; exact own_drawn own0⟩, by (repeat' (first | exact Below.refl _ _ | apply Below.alloc | apply Below.setCell | apply Below.drew | apply below_draws)) <;> (first | omega | (simp <;> omega))⟩
    · have HX : Hid (someI Ls many = someTo (sortI Ls.flatten) many (sortI Ls.flatten).length) := by show _ = _; unfold someI; rw [hu, decide_eq_true (by omega : 1 ≤ many)]; rfl
      have HF : Hid (Ls.flatten.length ≤ 1048576) := by show _ ≤ _; rw [List.length_flatten]; unfold total at hn; omega
      go_enter Try.func41, Try.ntmps41
      go_wp2_with fail
      refine (listsOk_any A c Ls _ (h.below (by (repeat' (first | exact Below.refl _ _ | apply Below.alloc | apply Below.setCell | apply Below.drew | apply below_draws)) <;> (first | omega | (simp <;> omega)))) hn).mono ?_
      rintro e w1 ⟨rfl, q, rfl⟩
      rw [hu]
      clear hu
      go_wp2_with fail
      obtain ⟨W1, hW1⟩ : ∃ W1, W1 = ((w.alloc (.cells #[] 3)).drewN q).alloc (.cells #[] 3) := ⟨_, rfl⟩
      have hsz : W1.heap.size = w.heap.size + 2 := by rw [hW1]; simp
      have hBW : Below w.heap.size w W1 := by rw [hW1]; exact (by (repeat' (first | exact Below.refl _ _ | apply Below.alloc | apply Below.setCell | apply Below.drew | apply below_draws)) <;> (first | omega | (simp <;> omega)))
      have ownO : OwnI W1 w.heap.size (.slice (some ⟨w.heap.size, 0, none⟩) 0 0) [] := by rw [hW1]; exact (own_drawn own0).alloc _
      have ownA : OwnI W1 (w.heap.size + 1) (.slice (some ⟨w.heap.size + 1, 0, none⟩) 0 0) [] := by
        rw [hW1]
        have := ownI_made ((w.alloc (.cells #[] 3)).drewN q) (w.heap.size + 1) (by simp)
        simpa using this
      rw [← hW1]
      have hs1 : w.heap.size + 2 ≤ W1.heap.size := by omega
      clear hW1 own0 hsz
      go_loopw [6, 8, 25] (fun v _ i wr => ∃ k : Nat, k ≤ Ls.length ∧ i = .int .i64 k ∧ ∃ X, Hid (X = (Ls.take k).flatten) ∧ ∃ g c, v = .slice (some ⟨g, 0, none⟩) X.length c ∧ OwnI wr (w.heap.size + 1) (.slice (some ⟨g, 0, none⟩) X.length c) X ∧ Below (w.heap.size + 1) W1 wr) (fun _ _ i _ => Ls.length - (intOf i).toNat)
      case atStart => exact ⟨0, Nat.zero_le _, rfl, [], rfl, w.heap.size + 1, 0, rfl, ownA, Below.refl _ _⟩
      case round =>
        obtain ⟨k, hk, rfl, X, hX, g, c1, rfl, own, hB⟩ := hrel
        have hXl : X.length ≤ 1048576 := by
          have h1 : (Ls.take k).flatten.length ≤ Ls.flatten.length := by
            conv => rhs; rw [← List.take_append_drop k Ls, List.flatten_append, List.length_append]
            omega
          rw [hX.out]; exact Nat.le_trans h1 HF.out
        have hBs := hB.size
        by_cases hlt : k < Ls.length
        · obtain ⟨b, off, B, d, rfl, hb, hc, hs⟩ := (h.below (hBW.trans (hB.mono (by omega)))) k hlt
          have hX2 : Hid (X ++ Ls[k] = (Ls.take (k + 1)).flatten) := by show _ = _; rw [← List.take_append_getElem hlt, List.flatten_append, hX.out]; simp
          have hLk : Ls[k].length ≤ 1048576 := by have := total_mem (List.getElem_mem hlt); omega
          clear hX
          generalize Ls[k] = L at hc hs hX2 hLk
          go_wp2_with (at_builtin; refine append_at rfl _ _ rfl (w.heap.size + 1) _ _ _ X rfl rfl own _ _ _ L rfl rfl hs (by omega) (by omega) ?_)
          intro N hN g2 c2 w2 own2 hg2 hat2 hb2
          obtain rfl := hN.out
          have hB2 := hB.trans hb2
          clear hB hb2 hg2 hat2 hN hs hc own
          go_wp2
          go_roundw
          case rel => exact ⟨k + 1, by omega, by go_num, _, hX2, g2, c2, rfl, own2, hB2⟩
          case measure => simp [intOf]; omega
        · have hX2 : Hid (X = Ls.flatten) := by show X = _; rw [hX.out, List.take_of_length_le (by omega)]
          clear hX
          go_wp2_with fail
          refine (sort_own g c1 (w.heap.size + 1) X _ own (by omega)).mono ?_
          rintro e w3 ⟨S, ⟨rfl, hS, hSl, own3, _⟩, hb3⟩
          have hB3 := hB.trans hb3
          have HSl : Hid (X.length = S.length) := hSl.symm
          have hSasc : Hid (S.Pairwise (· ≤ ·)) := by rw [hS.out]; exact sortI_asc X
          have HY : Hid (someI Ls many = someTo S many S.length) := by show _ = _; rw [HX.out, hS.out, hX2.out]
          clear HX hX2 hSl hb3 hB own HF
          have hSb : S.length ≤ 1048576 := by have := HSl.out; omega
          have hRS : RdI w3 (some ⟨g, 0, none⟩) S := Rds.own own3
          have hg3 := (own3.lt g rfl).2
          have hg1 := (own3.lt g rfl).1
          have ownO3 := own_under ownO hB3 (fun k e => by simp [Value.ownBlock] at e; omega)
          have hBB := hBW.trans (hB3.mono (by omega))
          have hs3 := hB3.size
          clear ownO hB3 hBW ownA
          generalize hXn : X.length = n at HSl ⊢
          obtain rfl := HSl.out
          clear hXn HSl hRS hXl
          go_wp2_with fail
          go_loopw [5, 9, 10, 11, 12, 37] (fun v _ _ _ _ i wr => ∃ k : Nat, k ≤ S.length ∧ i = .int .i64 k ∧ ∃ X, Hid (X = someTo S many k) ∧ ∃ g2 c2, v = .slice (some ⟨g2, 0, none⟩) X.length c2 ∧ OwnI wr w.heap.size (.slice (some ⟨g2, 0, none⟩) X.length c2) X ∧ g2 ≠ g ∧ OwnI wr (w.heap.size + 1) (.slice (some ⟨g, 0, none⟩) S.length c1) S ∧ Below w.heap.size w wr) (fun _ _ _ _ _ i _ => S.length - (intOf i).toNat)
          case atStart => exact ⟨0, Nat.zero_le _, rfl, [], rfl, w.heap.size, 0, rfl, ownO3, by omega, own3, hBB⟩
          case round =>
            obtain ⟨k, hk, rfl, X, hX, g3, c3, rfl, own, hne, ownS, hB⟩ := hrel
            have hXl : X.length ≤ 1048576 := by rw [hX.out]; exact Nat.le_trans (someTo_len S many k) (by omega)
            have hBs := hB.size
            have hgS := (ownS.lt g rfl).2
            clear h hg3 hBB hs3 hs1
            by_cases hlt : k < S.length
            · obtain ⟨hb, x0⟩ := (Rds.own ownS).all1 hlt
              rw [Nat.zero_add] at x0
              have hi0 : (k : Int) < (S.length : Int) := by omega
              obtain ⟨p, hp⟩ : ∃ p, p = S[k] := ⟨_, rfl⟩
              rw [← hp] at x0
              have hpD : Hid (S.getD k 0 = p) := by show _ = _; rw [List.getD_eq_getElem?_getD, List.getElem?_eq_getElem hlt, hp]; rfl
              clear hp
              by_cases hlt2 : k + 1 < S.length
              · obtain ⟨_, x1⟩ := (Rds.own ownS).all1 hlt2
                rw [Nat.zero_add] at x1
                have hi1 : (k : Int) + 1 < (S.length : Int) := by omega
                have t1 : ((k : Int) + 1).toNat = k + 1 := by omega
                obtain ⟨p', hp'⟩ : ∃ p, p = S[k + 1] := ⟨_, rfl⟩
                rw [← hp'] at x1
                have HP : Hid (S.getD (k + 1) 0 = p') := by show _ = _; rw [List.getD_eq_getElem?_getD, List.getElem?_eq_getElem hlt2, hp']; rfl
                clear hp'
                by_cases he : p' = p
                · have HK : Hid (X = someTo S many (k + 1)) := by
                    show _ = _
                    rw [someTo_no (by unfold keepAt; rw [hpD.out, HP.out, decide_eq_true hlt2, decide_eq_true he]; rfl), hX.out]
                  subst he
                  clear hX HP hpD
                  go_wp2
                  go_roundw
                  case rel => exact ⟨k + 1, by omega, by go_num, X, HK.out, g3, c3, rfl, own, hne, ownS, hB⟩
                  case measure => simp [intOf]; omega
                · have heb : (p' == p) = false := beq_eq_false_iff_ne.2 he
                  go_wp2_with fail
                  refine (search_own _ _ _ S p _ rfl (Rds.own ownS) (by omega) hSasc.out).mono ?_
                  rintro e w5 ⟨rfl, q5, rfl⟩
                  by_cases hge : many ≤ (k : Int) + 1 - ((S.countP fun x => decide (x < p) : Nat) : Int)
                  · have HK : Hid (someTo S many (k + 1) = X ++ [p]) := by
                      show _ = _
                      rw [someTo_yes (by unfold keepAt; rw [hpD.out, decide_eq_true hge, HP.out, decide_eq_true hlt2, decide_eq_false he]; rfl), hX.out, hpD.out]
                    clear hX HP
                    have hf := List.countP_le_length (p := fun x => decide (x < p)) (l := S)
                    generalize (S.countP fun x => decide (x < p)) = f at hge hf
                    go_wp2_with (at_builtin; refine append_at rfl _ _ rfl w.heap.size _ _ _ X rfl rfl ((own_drawn own).alloc _) _ _ _ [p] rfl rfl (Src.lit _ p) (by simp; omega) (by simp; omega) ?_)
                    intro N hN g4 c4 w4 own4 hg4 hat4 hb4
                    have hBN : Below w.heap.size w w4 := hB.trans (Below.trans (by (repeat' (first | exact Below.refl _ _ | apply Below.alloc | apply Below.setCell | apply Below.drew | apply below_draws)) <;> (first | omega | (simp <;> omega))) hb4)
                    have ownS4 := own_other ((own_drawn (q := q5) ownS).alloc _) hg4 (Ne.symm hne)
                    have hne4 : g4 ≠ g := by
                      rcases hat4 with e | e
                      · rw [e]; exact hne
                      · first | omega | (simp at e; omega)
                    have HN : N = someTo S many (k + 1) := by rw [HK.out]; exact hN.out
                    clear hN HK hat4 hg4 hb4 hB own ownS
                    go_wp2
                    go_roundw
                    case rel => exact ⟨k + 1, by omega, by go_num, N, HN, g4, c4, rfl, own4, hne4, ownS4, hBN⟩
                    case measure => simp [intOf]; omega
                  · have HK : Hid (X = someTo S many (k + 1)) := by
                      show _ = _
                      rw [someTo_no (by unfold keepAt; rw [hpD.out, decide_eq_false hge]; simp), hX.out]
                    clear hX HP
                    have hf := List.countP_le_length (p := fun x => decide (x < p)) (l := S)
                    generalize (S.countP fun x => decide (x < p)) = f at hge hf
                    have hBN : Below w.heap.size w (wr.drewN q5) := hB.trans (by (repeat' (first | exact Below.refl _ _ | apply Below.alloc | apply Below.setCell | apply Below.drew | apply below_draws)) <;> (first | omega | (simp <;> omega)))
                    have own5 := own_drawn (q := q5) own
                    have ownS5 := own_drawn (q := q5) ownS
                    clear hB own ownS
                    go_wp2
                    go_roundw
                    case rel => exact ⟨k + 1, by omega, by go_num, X, HK.out, g3, c3, rfl, own5, hne, ownS5, hBN⟩
                    case measure => simp [intOf]; omega
              · have HP : Hid (decide (k + 1 < S.length) = false) := decide_eq_false hlt2
                have hi1 : ¬ (k : Int) + 1 < (S.length : Int) := by omega
                go_wp2_with fail
                refine (search_own _ _ _ S p _ rfl (Rds.own ownS) (by omega) hSasc.out).mono ?_
                rintro e w5 ⟨rfl, q5, rfl⟩
                by_cases hge : many ≤ (k : Int) + 1 - ((S.countP fun x => decide (x < p) : Nat) : Int)
                · have HK : Hid (someTo S many (k + 1) = X ++ [p]) := by
                    show _ = _
                    rw [someTo_yes (by unfold keepAt; rw [hpD.out, decide_eq_true hge, HP.out]; rfl), hX.out, hpD.out]
                  clear hX HP
                  have hf := List.countP_le_length (p := fun x => decide (x < p)) (l := S)
                  generalize (S.countP fun x => decide (x < p)) = f at hge hf
                  go_wp2_with (at_builtin; refine append_at rfl _ _ rfl w.heap.size _ _ _ X rfl rfl ((own_drawn own).alloc _) _ _ _ [p] rfl rfl (Src.lit _ p) (by simp; omega) (by simp; omega) ?_)
                  intro N hN g4 c4 w4 own4 hg4 hat4 hb4
                  have hBN : Below w.heap.size w w4 := hB.trans (Below.trans (by (repeat' (first | exact Below.refl _ _ | apply Below.alloc | apply Below.setCell | apply Below.drew | apply below_draws)) <;> (first | omega | (simp <;> omega))) hb4)
                  have ownS4 := own_other ((own_drawn (q := q5) ownS).alloc _) hg4 (Ne.symm hne)
                  have hne4 : g4 ≠ g := by
                    rcases hat4 with e | e
                    · rw [e]; exact hne
                    · first | omega | (simp at e; omega)
                  have HN : N = someTo S many (k + 1) := by rw [HK.out]; exact hN.out
                  clear hN HK hat4 hg4 hb4 hB own ownS
                  go_wp2
                  go_roundw
                  case rel => exact ⟨k + 1, by omega, by go_num, N, HN, g4, c4, rfl, own4, hne4, ownS4, hBN⟩
                  case measure => simp [intOf]; omega
                · have HK : Hid (X = someTo S many (k + 1)) := by
                    show _ = _
                    rw [someTo_no (by unfold keepAt; rw [hpD.out, decide_eq_false hge]; simp), hX.out]
                  clear hX HP
                  have hf := List.countP_le_length (p := fun x => decide (x < p)) (l := S)
                  generalize (S.countP fun x => decide (x < p)) = f at hge hf
                  have hBN : Below w.heap.size w (wr.drewN q5) := hB.trans (by (repeat' (first | exact Below.refl _ _ | apply Below.alloc | apply Below.setCell | apply Below.drew | apply below_draws)) <;> (first | omega | (simp <;> omega)))
                  have own5 := own_drawn (q := q5) own
                  have ownS5 := own_drawn (q := q5) ownS
                  clear hB own ownS
                  go_wp2
                  go_roundw
                  case rel => exact ⟨k + 1, by omega, by go_num, X, HK.out, g3, c3, rfl, own5, hne, ownS5, hBN⟩
                  case measure => simp [intOf]; omega
            · obtain rfl : k = S.length := by omega
              have e : X = someI Ls many := by rw [hX.out, HY.out]
              subst e
              clear HY hX
              go_wp2
              go_ret
              exact ⟨_, _, ⟨rfl, own⟩, hB⟩
end Go.Proofs.Ytoifknepebplnaa
