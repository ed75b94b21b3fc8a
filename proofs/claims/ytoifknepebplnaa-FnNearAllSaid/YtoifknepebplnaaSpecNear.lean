/-
  Contracts of spec.l9All and spec.NearAll.
-/
import Derived.Test.YtoifknepebplnaaNear
import Derived.Deep.RegionHeld3
namespace Go.Proofs.Ytoifknepebplnaa
open Go.RowKit
set_option linter.unusedVariables false

def any9 (L : List Int) (a b : Int) : Bool := L.any fun x => wi x a b
def all9 (Ls : List (List Int)) (a b : Int) : Bool := Ls.all fun L => any9 L a b
theorem all9_drop {Ls : List (List Int)} {k : Nat} (hk : k < Ls.length) (a b : Int) : all9 (Ls.drop k) a b = (any9 Ls[k] a b && all9 (Ls.drop (k + 1)) a b) := by
  unfold all9; rw [List.drop_eq_getElem_cons hk, List.all_cons]
theorem any9_take {L : List Int} {i : Nat} (hi : i < L.length) (a b : Int) : any9 (L.take (i + 1)) a b = (any9 (L.take i) a b || wi L[i] a b) := by
  unfold any9; rw [← List.take_append_getElem hi, List.any_append]; simp
theorem l9All_any (A : Option Addr) (c : Nat) (Ls : List (List Int)) (a b : Int) (w : World) (h : RdSS w A Ls) (hn : total Ls ≤ 1048576) :
    Calls Try.prog 75 #[.slice A Ls.length c, .int .i64 a, .int .i64 b] w fun e w' => e = .returned (.bool (all9 Ls a b)) ∧ w = w' := by
  have hl : Ls.length ≤ 1048576 := by unfold total at hn; omega
  obtain ⟨R, hR⟩ : ∃ R, R = all9 Ls a b := ⟨_, rfl⟩
  rw [← hR]
  have HR := Lib.hid hR
  clear hR
  go_enter Try.func75, Try.ntmps75
  go_wp2
  go_loop [7, 8, 9] (fun kv _ _ => ∃ k : Nat, k ≤ Ls.length ∧ kv = .int .i64 k ∧ Hid (R = all9 (Ls.drop k) a b)) (fun kv _ _ => Ls.length - (intOf kv).toNat)
  case atStart => exact ⟨0, Nat.zero_le _, rfl, HR⟩
  case round =>
    obtain ⟨k, hk, rfl, hm⟩ := hrel
    by_cases hlt : k < Ls.length
    · obtain ⟨bb, off, B, d, rfl, hb, hc, hs⟩ := h k hlt
      have hki : (k : Int) < (Ls.length : Int) := by omega
      have hLk : Ls[k].length ≤ 1048576 := by have := total_mem (List.getElem_mem hlt); omega
      have hd := all9_drop hlt a b
      generalize Ls[k] = L at hc hs hLk hd
      have HD := Lib.hid hd
      clear hd
      go_wp2_with fail
      go_loop [8, 9] (fun ov iv => ∃ i : Nat, i ≤ L.length ∧ iv = .int .i64 i ∧ ∃ o : Bool, ov = .bool o ∧ Hid (o = any9 (L.take i) a b)) (fun _ iv => L.length - (intOf iv).toNat)
      case atStart => exact ⟨0, Nat.zero_le _, rfl, false, rfl, rfl⟩
      case round =>
        obtain ⟨i, hi, rfl, o, rfl, ho⟩ := hrel
        by_cases hli : i < L.length
        · obtain ⟨b2, off2, rfl, hb2, x0⟩ := hs.1.at1 hli
          have hi0 : (i : Int) < (L.length : Int) := by omega
          have ht := any9_take hli a b
          generalize L[i] = p at x0 ht
          cases o with
          | true =>
            have HO : Hid (true = any9 (L.take (i + 1)) a b) := by show _ = _; rw [ht, ← ho.out, Bool.true_or]
            clear ht ho
            go_wp2
            go_round
            case rel => exact ⟨i + 1, by omega, by go_num, true, rfl, HO⟩
            case measure => simp [intOf]; omega
          | false =>
            have HO : Hid (wi p a b = any9 (L.take (i + 1)) a b) := by show _ = _; rw [ht, ← ho.out, Bool.false_or]
            clear ht ho
            go_wp2_with fail
            refine (l1In_any _ _ _ _).mono ?_
            rintro e w' ⟨rfl, rfl⟩
            go_wp2
            go_round
            case rel => exact ⟨i + 1, by omega, by go_num, _, rfl, HO⟩
            case measure => simp [intOf]; omega
        · have ho2 : Hid (o = any9 L a b) := by show _ = _; rw [ho.out, List.take_of_length_le (by omega)]
          clear ho
          cases o with
          | true =>
            have HM : Hid (R = all9 (Ls.drop (k + 1)) a b) := by show _ = _; rw [hm.out, HD.out, ← ho2.out, Bool.true_and]
            clear hm HD ho2
            go_wp2
            go_round
            case rel => exact ⟨k + 1, by omega, by go_num, HM⟩
            case measure => simp [intOf]; omega
          | false =>
            have HM : Hid (R = false) := by show _ = _; rw [hm.out, HD.out, ← ho2.out, Bool.false_and]
            clear hm HD ho2
            go_wp2
            go_ret
            exact ⟨ret_bool HM.out.symm, rfl⟩
    · have HM : Hid (R = true) := by show _ = _; rw [hm.out, List.drop_of_length_le (by omega)]; rfl
      clear hm
      go_wp2
      go_ret
      exact ⟨ret_bool HM.out.symm, rfl⟩
/-- the least span that begins at f, if none within it. -/
def sItem (Ls : List (List Int)) (f : Int) : List Int → List (Int × Int)
  | [] => []
  | b :: r => if all9 Ls f b then (if all9 Ls (f + 1) b then [] else [(f, b)]) else sItem Ls f r
theorem sItem_drop {Ls : List (List Int)} {K : List Int} {k : Nat} (hk : k < K.length) (f : Int) : sItem Ls f (K.drop k) = if all9 Ls f K[k] then (if all9 Ls (f + 1) K[k] then [] else [(f, K[k])]) else sItem Ls f (K.drop (k + 1)) := by
  rw [List.drop_eq_getElem_cons hk]; rfl
def sTo (Ls : List (List Int)) (K : List Int) (i : Nat) : List (Int × Int) := (List.range i).flatMap fun j => sItem Ls (K.getD j 0) (K.drop j)
theorem sTo_succ {Ls : List (List Int)} {K : List Int} {i : Nat} (hi : i < K.length) : sTo Ls K (i + 1) = sTo Ls K i ++ sItem Ls K[i] (K.drop i) := by
  unfold sTo
  rw [List.range_succ, List.flatMap_append, List.flatMap_cons, List.flatMap_nil, List.append_nil, getD_get hi]
theorem sItem_len (Ls : List (List Int)) (f : Int) (K : List Int) : (sItem Ls f K).length ≤ 1 := by
  induction K with
  | nil => simp [sItem]
  | cons b r ih => unfold sItem; split; split <;> simp; exact ih
theorem sTo_len (Ls : List (List Int)) (K : List Int) (i : Nat) : (sTo Ls K i).length ≤ i := by
  induction i with
  | zero => simp [sTo]
  | succ i ih =>
    unfold sTo at *
    rw [List.range_succ, List.flatMap_append, List.length_append, List.flatMap_cons, List.flatMap_nil, List.append_nil]
    have := sItem_len Ls (K.getD i 0) (K.drop i)
    omega
def sNearI (Ls : List (List Int)) : List (Int × Int) := if placesB Ls then sTo Ls (allI Ls) (allI Ls).length else []
theorem sNear_not {Ls : List (List Int)} (h : allUp Ls = false) : sNearI Ls = [] := by unfold sNearI placesB listsB; rw [h]; simp
/-- a slice of spans, nil or the call's own. -/
def MakesSN (w : World) (L : List (Int × Int)) (e : Ending) (w' : World) : Prop :=
  ∃ (A : Option Addr) (d : Nat), (e = .returned (.slice A L.length d) ∧ w'.ownsRow w.heap.size 47 2 (.slice A L.length d) L.length (L.flatMap enc2)) ∧ Below w.heap.size w w'
theorem grown_cell {w w' : World} {g b off : Nat} (hg : w.grownBy w' (some g)) (hb : b < w.heap.size) (hne : b ≠ g) : w'.cell? ⟨b, off, none⟩ = w.cell? ⟨b, off, none⟩ :=
  World.cell?_of_block (w := w) (a := ⟨b, off, none⟩) (hg.block b hb (fun e => hne (by injection e)))
set_option maxHeartbeats 1000000 in
theorem specNearAll_any (A : Option Addr) (c : Nat) (Ls : List (List Int)) (w : World) (h : RdSS w A Ls) (hn : total Ls ≤ 1048576) :
    Calls Try.prog 46 #[.slice A Ls.length c] w (MakesSN w (sNearI Ls)) := by
  have hl : Ls.length ≤ 1048576 := by unfold total at hn; omega
  go_enter Try.func46, Try.ntmps46
  go_wp2_with fail
  obtain ⟨W0, hW0⟩ : ∃ W0, W0 = (w.alloc (.cells #[] 47)).alloc (.cells #[] 3) := ⟨_, rfl⟩
  have hB0 : Below w.heap.size w W0 := by rw [hW0]; exact (by (repeat' (first | exact Below.refl _ _ | apply Below.alloc | apply Below.setCell | apply Below.drew | apply below_draws)) <;> (first | omega | (simp <;> omega)))
  have ownO : OwnS W0 w.heap.size w.heap.size 0 [] := by rw [hW0]; exact (ownE_made _ w _ (Nat.le_refl _)).alloc _
  have own0 : OwnI W0 (w.heap.size + 1) (.slice (some ⟨w.heap.size + 1, 0, none⟩) 0 0) [] := by
    rw [hW0]
    have := ownI_made (w.alloc (.cells #[] 47)) (w.heap.size + 1) (by simp)
    simpa using this
  have hs0 : w.heap.size + 2 ≤ W0.heap.size := by rw [hW0]; simp
  rw [← hW0]
  clear hW0
  go_loopw [4, 5] (fun v i wr => ∃ k : Nat, k ≤ Ls.length ∧ i = .int .i64 k ∧ Hid (allUp Ls = allUp (Ls.drop k)) ∧ ∃ X, Hid (X = allI (Ls.take k)) ∧ ∃ B d, v = .slice B X.length d ∧ OwnI wr (w.heap.size + 1) (.slice B X.length d) X ∧ Below (w.heap.size + 1) W0 wr) (fun _ i _ => Ls.length - (intOf i).toNat)
  case atStart => exact ⟨0, Nat.zero_le _, rfl, rfl, [], rfl, _, _, rfl, own0, Below.refl _ _⟩
  case round =>
    obtain ⟨k, hk, rfl, hu, X, hX, g, c1, rfl, own, hBz⟩ := hrel
    have hB := hB0.trans (hBz.mono (by omega))
    have hXl : X.length ≤ 1048576 := by
      have h1 := allI_len (Ls.take k)
      have h2 := sum_take Ls k
      rw [hX.out]; unfold total at hn; omega
    have hBs := hBz.size
    by_cases hlt : k < Ls.length
    · obtain ⟨b, off, B, d, rfl, hb, hc, hs⟩ := (h.below hB) k hlt
      have hX2 : Hid (allI (Ls.take (k + 1)) = putAll X Ls[k]) := by show _ = _; rw [allI_take Ls hlt, hX.out]
      have hLk : Ls[k].length ≤ 1048576 := by have := total_mem (List.getElem_mem hlt); omega
      have hd := allUp_drop hlt
      clear hX own0 hB0 ownO
      generalize Ls[k] = L at hc hs hX2 hLk hd
      cases hul : upB L with
      | false =>
        have HD : Hid (sNearI Ls = []) := by show _ = _; rw [sNear_not (by rw [hu.out, hd, hul]; rfl)]
        clear hd hu
        go_wp2_with fail
        refine (l3Up_any B d L _ hs.1 (by omega)).mono ?_
        rintro e w2 ⟨rfl, q2, rfl⟩
        rw [hul]
        go_wp2
        go_ret
        exact ⟨none, 0, ⟨by rw [HD.out]; rfl, by rw [HD.out]; exact World.ownsRow_nil _ _ _ _⟩, hB.trans ((below_of_drewN).mono hB.size)⟩
      | true =>
        have HD : Hid (allUp Ls = allUp (Ls.drop (k + 1))) := by show _ = _; rw [hu.out, hd, hul, Bool.true_and]
        clear hd hu
        go_wp2_with fail
        refine (l3Up_any B d L _ hs.1 (by omega)).mono ?_
        rintro e w2 ⟨rfl, q2, rfl⟩
        rw [hul]
        go_wp2_with fail
        refine (l8Or_any g B c1 d X L _ (OwnI.src (own_drawn own)) (hs.drawn _) (by omega) (by omega)).mono ?_
        rintro e w3 ⟨B3, d3, ⟨rfl, own3⟩, hB3⟩
        have hB4 := hBz.trans (((below_of_drewN (n := q2)).mono (by omega)).trans (hB3.mono (by simp; omega)))
        have own4 := own_mono own3 (base' := w.heap.size + 1) (by simp; omega)
        clear own own3 hB hB3 hs hc hBz
        go_wp2
        go_roundw
        case rel => exact ⟨k + 1, by omega, by go_num, HD, _, hX2.out.symm, B3, d3, rfl, own4, hB4⟩
        case measure => simp [intOf]; omega
    · have hX2 : Hid (X = allI Ls) := by show X = _; rw [hX.out, List.take_of_length_le (by omega)]
      have hU : allUp Ls = true := by rw [hu.out, List.drop_of_length_le (by omega)]; rfl
      have hpl := placesB_wi hU
      have ownO2 : OwnS wr w.heap.size w.heap.size 0 [] := own_under ownO hBz (fun k e => by simp [Value.ownBlock] at e; omega)
      cases hp : wi Ls.length 1 6 with
      | false =>
        have HX : Hid (sNearI Ls = []) := by show _ = _; unfold sNearI; rw [hpl, hp]; rfl
        clear hpl hU hu hX hX2
        go_wp2_with fail
        refine (l1In_any _ _ _ _).mono ?_
        rintro e w' ⟨rfl, rfl⟩
        rw [hp]
        go_wp2
        go_ret
        exact ⟨none, 0, ⟨by rw [HX.out]; rfl, by rw [HX.out]; exact World.ownsRow_nil _ _ _ _⟩, hB⟩
      | true =>
        have HX : Hid (sNearI Ls = sTo Ls X X.length) := by show _ = _; unfold sNearI; rw [hpl, hp, hX2.out]; rfl
        have hXb : Hid (∀ x ∈ X, 0 ≤ x ∧ x ≤ 999999999) := fun x hx => by
          rw [hX2.out] at hx
          obtain ⟨L, hL, hxL⟩ := allI_mem.1 hx
          unfold allUp at hU
          rw [List.all_eq_true] at hU
          exact up_b (hU L hL) x hxL
        have hS := h.below hB
        clear hpl hU hu hX hX2 ownO own0 hB0 hBz
        obtain ⟨W1, rfl⟩ : ∃ W1 : World, W1 = wr := ⟨_, rfl⟩
        go_wp2_with fail
        refine (l1In_any _ _ _ _).mono ?_
        rintro e w' ⟨rfl, rfl⟩
        rw [hp]
        go_wp2_with fail
        go_loopw [3, 6, 7] (fun v iv _ wr => ∃ i : Nat, i ≤ X.length ∧ iv = .int .i64 i ∧ ∃ Y, Hid (Y = sTo Ls X i) ∧ ∃ g2 c2, v = .slice (some ⟨g2, 0, none⟩) Y.length c2 ∧ OwnS wr w.heap.size g2 c2 Y ∧ OwnI wr (w.heap.size + 1) (.slice g X.length c1) X ∧ Below w.heap.size w wr) (fun _ iv _ _ => X.length - (intOf iv).toNat)
        case atStart => exact ⟨0, Nat.zero_le _, rfl, [], rfl, _, _, rfl, ownO2, own, hB⟩
        case round =>
          obtain ⟨i, hi, rfl, Y, hY, g2, c2, rfl, ownY, ownX, hBr⟩ := hrel
          have hS2 := h.below hBr
          have hYl : Y.length ≤ X.length := by rw [hY.out]; exact Nat.le_trans (sTo_len Ls X i) hi
          have hrs := hBr.size
          clear hS own ownO2
          by_cases hlt2 : i < X.length
          · obtain ⟨b2, off2, rfl, hb2, x0⟩ := (Rds.own ownX).at1 hlt2
            have hi0 : (i : Int) < (X.length : Int) := by omega
            have hpb := hXb.out X[i] (List.getElem_mem _)
            have hsu := sTo_succ (Ls := Ls) hlt2
            generalize X[i] = p at x0 hpb hsu
            have HSU := Lib.hid hsu
            obtain ⟨hp0, hp1⟩ := hpb
            clear hsu
            obtain ⟨W2, rfl⟩ : ∃ W2 : World, W2 = wr := ⟨_, rfl⟩
            go_wp2_with fail
            go_loopw [3, 7] (fun v kv wr => v = .slice (some ⟨g2, 0, none⟩) Y.length c2 ∧ ∃ k : Nat, i ≤ k ∧ k ≤ X.length ∧ kv = .int .i64 k ∧ Hid (sItem Ls p (X.drop i) = sItem Ls p (X.drop k)) ∧ ∃ q, wr = W2.drewN q) (fun _ kv _ => X.length - (intOf kv).toNat)
            case atStart => exact ⟨rfl, i, Nat.le_refl _, by omega, rfl, rfl, 0, rfl⟩
            case round =>
              obtain ⟨rfl, k, hik, hk, rfl, hit, q, rfl⟩ := hrel
              have hBq : Below w.heap.size w (W2.drewN q) := hBr.trans ((below_of_drewN).mono hrs)
              by_cases hlk : k < X.length
              · obtain ⟨_, x1⟩ := (Rds.own ownX).all1 hlk
                have hk0 : (k : Int) < (X.length : Int) := by omega
                have hpb2 := hXb.out X[k] (List.getElem_mem _)
                have hsd := sItem_drop (Ls := Ls) hlk p
                generalize X[k] = p2 at x1 hpb2 hsd
                obtain ⟨hq0, hq1⟩ := hpb2
                cases ha : all9 Ls p p2 with
                | false =>
                  have HI : Hid (sItem Ls p (X.drop i) = sItem Ls p (X.drop (k + 1))) := by show _ = _; rw [hit.out, hsd, ha]; rfl
                  clear hsd hit
                  go_wp2_with fail
                  go_quiet ((go_at_call 75; first | exact qsame (l9All_any _ _ _ _ _ _ (hS2.drawn _) hn) | exact qsame2 (l9All_any _ _ _ _ _ _ (hS2.drawn _) hn)))
                  rw [ha]
                  go_wp2
                  go_roundw
                  case rel => exact ⟨rfl, k + 1, by omega, by omega, by go_num, HI, _, (by first | rfl | exact World.drewN_drewN _ _ _)⟩
                  case measure => simp [intOf]; omega
                | true =>
                  cases ha2 : all9 Ls (p + 1) p2 with
                  | true =>
                    have HI : Hid (Y = sTo Ls X (i + 1)) := by show _ = _; rw [HSU.out, hit.out, hsd, ha, ha2, ← hY.out]; simp
                    clear hsd hit HSU hY
                    go_wp2_with fail
                    go_quiet ((go_at_call 75; first | exact qsame (l9All_any _ _ _ _ _ _ (hS2.drawn _) hn) | exact qsame2 (l9All_any _ _ _ _ _ _ (hS2.drawn _) hn)))
                    rw [ha]
                    go_wp2_with fail
                    have hw1 : IntKind.i64.wrap (p + 1) = p + 1 := IntWalk.i64_in _ (by omega)
                    go_quiet ((go_at_call 75; first | exact qsame (l9All_any _ _ _ _ _ _ (hS2.drawn _) hn) | exact qsame2 (l9All_any _ _ _ _ _ _ (hS2.drawn _) hn)))
                    rw [ha2]
                    clear hw1
                    go_wp2
                    go_roundw
                    case rel => exact ⟨i + 1, by omega, by go_num, Y, HI.out, g2, c2, rfl, own_drawn ownY, own_drawn ownX, hBr.trans ((below_of_drewN).mono hrs)⟩
                    case measure => simp [intOf]; omega
                  | false =>
                    have HI : Hid (Y ++ [(p, p2)] = sTo Ls X (i + 1)) := by show _ = _; rw [HSU.out, hit.out, hsd, ha, ha2, ← hY.out]; simp
                    clear hsd hit HSU hY
                    go_wp2_with fail
                    go_quiet ((go_at_call 75; first | exact qsame (l9All_any _ _ _ _ _ _ (hS2.drawn _) hn) | exact qsame2 (l9All_any _ _ _ _ _ _ (hS2.drawn _) hn)))
                    rw [ha]
                    go_wp2_with fail
                    have hw1 : IntKind.i64.wrap (p + 1) = p + 1 := IntWalk.i64_in _ (by omega)
                    go_quiet ((go_at_call 75; first | exact qsame (l9All_any _ _ _ _ _ _ (hS2.drawn _) hn) | exact qsame2 (l9All_any _ _ _ _ _ _ (hS2.drawn _) hn)))
                    rw [ha2]
                    clear hw1
                    go_wp2_with fail
                    have hne : b2 ≠ g2 := own_ne ownX ownY (by decide) b2 g2 rfl rfl
                    go_region_held3 (fun w' => w'.cell? ⟨b2, off2 + i, none⟩ = some (.int .i64 p) ∧ w'.cell? ⟨b2, off2 + k, none⟩ = some (.int .i64 p2))
                      (first
                        | go_keep
                        | (go_split_ands
                           refine ⟨?_, ?_⟩
                           · (rw [grown_cell hg7 (by simp; omega) hne]; assumption)
                           · (rw [grown_cell hg7 (by simp; omega) hne]; assumption)))
                      ((refine step_append_rec rowTS enc2_ok (by decide) rfl _ _ rfl w.heap.size g2 c2 Y rfl ((own_drawn ownY).alloc _) _ _ _ [(p, p2)] rfl rfl (SrcE.blk (cs := #[.int .i64 p, .int .i64 p2]) enc2_ok (heap_alloc_new _ _) rfl) (by simp; omega) (by omega) (by simp; omega) ?_; intro N hN g7 c7 w7 own7 hg7 hat7 hb7))
                    have hB7 : Below w.heap.size w w7 := hBr.trans (Below.trans (by (repeat' (first | exact Below.refl _ _ | apply Below.alloc | apply Below.setCell | apply Below.drew | apply below_draws)) <;> (first | omega | (simp <;> omega))) hb7)
                    have ownX7 := own_kept (v2 := .slice (some ⟨g2, 0, none⟩) Y.length c2) ((own_drawn ownX).alloc _) hg7 (own_ne ownX ownY (by decide))
                    have HN : N = sTo Ls X (i + 1) := by rw [← HI.out]; exact hN.out
                    clear hN HI hg7 hat7 hb7 hBq hBr ownY ownX hS2
                    go_wp2
                    go_roundw
                    case rel => exact ⟨i + 1, by omega, by go_num, N, HN, g7, c7, rfl, own7, ownX7, hB7⟩
                    case measure => simp [intOf]; omega
              · have HI : Hid (Y = sTo Ls X (i + 1)) := by show _ = _; rw [HSU.out, hit.out, List.drop_of_length_le (by omega), ← hY.out]; simp [sItem]
                clear hit HSU hY
                go_wp2
                go_roundw
                case rel => exact ⟨i + 1, by omega, by go_num, Y, HI.out, g2, c2, rfl, own_drawn ownY, own_drawn ownX, hBq⟩
                case measure => simp [intOf]; omega
          · have e : Y = sNearI Ls := by rw [HX.out, hY.out, show i = X.length by omega]
            subst e
            clear HX hY
            go_wp2
            go_ret
            exact ⟨_, _, ⟨rfl, ownY⟩, hBr⟩
end Go.Proofs.Ytoifknepebplnaa
