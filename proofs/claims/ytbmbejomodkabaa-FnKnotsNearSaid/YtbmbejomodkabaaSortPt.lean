/-
  slices.SortFunc by byAxis on a row of points of the call's own.
-/
import Derived.Test.YtbmbejomodkabaaKnotLaw
import Derived.Shelf.SlSortCmp.NoneTotal
import Derived.BigQuiet
namespace Go.Proofs.Ytbmbejomodkabaa
open Go.RowKit Go.Sort Go.Shelf
set_option linter.unusedVariables false

def orI : List Int → Int
  | [] => 0
  | x :: r => if x ≠ 0 then x else orI r
theorem orI_drop {L : List Int} {k : Nat} (hk : k < L.length) : orI (L.drop k) = if L[k] ≠ 0 then L[k] else orI (L.drop (k + 1)) := by
  rw [List.drop_eq_getElem_cons hk]; rfl
theorem or_any (A : Option Addr) (c : Nat) (L : List Int) (w : World) (h : RdI w A L) (hn : L.length ≤ 4194304) :
    Calls Try.prog 61 #[.slice A L.length c] w fun e w' => e = .returned (.int .i64 (orI L)) ∧ w = w' := by
  obtain ⟨R, hR⟩ : ∃ R, R = orI L := ⟨_, rfl⟩
  rw [← hR]
  have HR := Lib.hid hR
  clear hR
  go_enter Try.func61, Try.ntmps61
  go_wp2_with fail
  go_loop [5, 8] (fun _ iv => ∃ k : Nat, k ≤ L.length ∧ iv = .int .i64 k ∧ Hid (R = orI (L.drop k))) (fun _ iv => L.length - (intOf iv).toNat)
  case atStart => exact ⟨0, by omega, rfl, HR⟩
  case round =>
    obtain ⟨k, hk, rfl, hm⟩ := hrel
    by_cases hlt : k < L.length
    · obtain ⟨b, off, rfl, hb, x0⟩ := h.at1 hlt
      have hi0 : (k : Int) < (L.length : Int) := by omega
      have hd := orI_drop hlt
      generalize L[k] = p at x0 hd
      by_cases hp : p = 0
      · have HM : Hid (R = orI (L.drop (k + 1))) := by show _ = _; rw [hm.out, hd, if_neg (by simpa using hp)]
        subst hp
        clear hm hd
        go_wp2
        go_round
        case rel => exact ⟨k + 1, by omega, by go_num, HM⟩
        case measure => simp [intOf]; omega
      · have HM : Hid (R = p) := by show _ = _; rw [hm.out, hd, if_pos hp]
        have hp2 : (p != 0) = true := by simpa using hp
        clear hm hd
        go_wp2
        go_ret
        exact ⟨ret_int HM.out.symm, rfl⟩
    · have HM : Hid (R = 0) := by show _ = _; rw [hm.out, List.drop_of_length_le (by omega)]; rfl
      clear hm
      go_wp2
      go_ret
      exact ⟨ret_int HM.out.symm, rfl⟩
theorem cmp_any (x y : Int) (w : World) : Calls Try.prog 60 #[.int .i64 x, .int .i64 y] w fun e w' => e = .returned (.int .i64 (Lib.compareInt x y)) ∧ w = w' :=
  (Try.cmp_Compare_int x y w).mono fun _ _ ⟨h1, h2⟩ => ⟨h1, h2.symm⟩
theorem rdI_heap {w : World} {g : Nat} {cs : Array Value} {L : List Int} (h : w.heap[g]? = some (.cells cs 3 (0, 0))) (hcs : cs.toList = ints L) : RdI w (some ⟨g, 0, none⟩) L := by
  refine ⟨by rw [ints_len, Nat.mul_one], fun _ => ⟨g, 0, rfl, heap_lt h, fun j u hu => ?_⟩⟩
  rw [Nat.zero_add, cell_of_row w g j cs 3 (0, 0) h, ← Array.getElem?_toList, hcs]
  exact hu

/-- how a level orders two points. -/
def pcmp (c : Bool) (a b : Pt) : Int := if c then orI [Lib.compareInt a.y b.y, Lib.compareInt a.x b.x, Lib.compareInt a.i b.i] else orI [Lib.compareInt a.x b.x, Lib.compareInt a.y b.y, Lib.compareInt a.i b.i]
theorem pcmp_less (c : Bool) (a b : Pt) : decide (pcmp c a b < 0) = lessP c a b := by
  rw [Bool.eq_iff_iff, lessP_iff, decide_eq_true_eq]
  unfold pcmp
  cases c
  · simp only [Bool.false_eq_true, if_false, false_and, true_and, false_or]
    unfold orI orI orI orI Lib.compareInt
    (repeat' split) <;> omega
  · simp only [if_true, true_and, Bool.true_eq_false, false_and, or_false]
    unfold orI orI orI orI Lib.compareInt
    (repeat' split) <;> omega
theorem lt_pcmp (c : Bool) (x y : Pt) : ltOf (pcmp c) x y = lessP c x y := pcmp_less c x y
theorem swoPc (c : Bool) : SWO (ltOf (pcmp c)) := by
  have e : ltOf (pcmp c) = lessP c := by funext x y; exact lt_pcmp c x y
  rw [e]; exact swoP c

section
variable {α : Type} [Inhabited α] {enc : α → List Value} {F : Nat}
theorem flatK_enc (he : Enc enc F) (hF : 0 < F) (L : List α) : (flatK enc F L.toArray).toList = L.flatMap enc := by
  apply List.ext_getElem?
  intro t
  by_cases ht : t < L.length * F
  · have h1 : t < (flatK enc F L.toArray).size := by simpa using ht
    have hm : t % F < F := Nat.mod_lt _ hF
    have hi : t / F < L.length := Nat.div_lt_of_lt_mul (by rw [Nat.mul_comm]; exact ht)
    have h2 := flat_get (zs := L) (i := t / F) (j := t % F) he.len (List.getElem?_eq_getElem hi) hm
    rw [show t / F * F + t % F = t by rw [Nat.mul_comm]; exact Nat.div_add_mod t F] at h2
    have h3 := get_flatK enc F L.toArray t (by simpa using ht)
    rw [getElem!_pos _ t h1] at h3
    rw [Array.getElem?_toList, Array.getElem?_eq_getElem h1, h3, h2, getElem!_pos L.toArray (t / F) (by simpa using hi)]
    have h4 : t % F < (enc L[t / F]).length := by rw [he.len]; exact hm
    simp only [List.getElem_toArray]
    rw [getElem!_pos (enc L[t / F]) (t % F) h4, List.getElem?_eq_getElem h4]
  · rw [List.getElem?_eq_none (by simp; omega), List.getElem?_eq_none (by rw [flat_len he.len]; omega)]
theorem holdsK_ownE {E : TypeId} (he : Enc enc F) (hF : 0 < F) {w : World} {base g c : Nat} {L : List α} (h : OwnE enc E F w base g c L) : HoldsK enc F w g 0 L.toArray := by
  intro j hj
  rcases h.2 with ⟨h', _⟩ | ⟨g', cap, cur, hv, hb, hh, hnc, hcm, hcs, htake⟩
  · simp at h'
  · simp only [Value.slice.injEq, Option.some.injEq, Addr.mk.injEq, and_true, true_and] at hv
    obtain ⟨rfl, rfl⟩ := hv
    refine ⟨?_, by simp [World.frozen?, hh]⟩
    have hj' : j < L.length * F := by simpa using hj
    have h1 : (cur.toList.take (L.length * F))[j]? = (L.flatMap enc)[j]? := by rw [htake]
    rw [List.getElem?_take_of_lt hj', ← flatK_enc he hF L, Array.getElem?_toList, Array.getElem?_toList, Array.getElem?_eq_getElem hj] at h1
    rw [cell_of_row w g _ cur E (0, 0) hh, Nat.zero_add, h1, getElem!_pos (flatK enc F L.toArray) j hj]
    rfl
theorem take_putKE (he : Enc enc F) (hF : 0 < F) (cur : Array Value) (N : List α) (h : N.length * F ≤ cur.size) : (putCells id 0 (flatK enc F N.toArray) cur).toList.take (N.length * F) = N.flatMap enc := by
  rw [← flatK_enc he hF N]
  apply List.ext_getElem?
  intro j
  by_cases hj : j < N.length * F
  · have hj2 : j < (flatK enc F N.toArray).size := by simpa using hj
    rw [List.getElem?_take_of_lt hj, Array.getElem?_toList, Array.getElem?_toList, Array.getElem?_eq_getElem hj2]
    simp [putCells, hj, show j < cur.size by omega]
  · rw [List.getElem?_take_eq_none (by omega), List.getElem?_eq_none (by simp; omega)]
theorem own_sortKE {E : TypeId} (he : Enc enc F) (hF : 0 < F) {w : World} {base g cap n : Nat} {os : Array Obj} {cur : Array Value} {L N : List α} (hl : N.length = L.length) (hbase : base ≤ g) (hb : w.heap[g]? = some (.cells cur E (0, 0)))
    (h1 : L.length ≤ cap) (h2 : cap ≤ maxLen) (h3 : cur.size = cap * F) : OwnE enc E F (sortWorldK enc F w g 0 n N.toArray os) base g cap N := by
  have hg : g < w.heap.size := (Array.getElem?_eq_some_iff.1 hb).1
  have hh : (sortWorldK enc F w g 0 n N.toArray os).heap[g]? = some (.cells (putCells id 0 (flatK enc F N.toArray) cur) E (0, 0)) := by
    unfold sortWorldK putRowK
    rw [heap_grow_old _ _ (by simpa using hg)]
    simp [putRow, mapBlock, Sort.ahead, Array.getElem?_modify, hb, onCells]
  have hle : N.length * F ≤ cap * F := Nat.mul_le_mul_right _ (by omega)
  exact ⟨flat_len he.len _, .inr ⟨g, cap, _, rfl, hbase, hh, by omega, h2, by simp [putCells, h3], take_putKE he hF cur N (by omega)⟩⟩
theorem grown_sortKE {w : World} {g n : Nat} {os : Array Obj} {N : List α} : w.grownBy (sortWorldK enc F w g 0 n N.toArray os) (some g) := by
  refine ⟨rfl, rfl, rfl, by simp [sortWorldK, putRowK], fun k hk hne => ?_⟩
  unfold sortWorldK putRowK
  rw [heap_grow_old _ _ (by simpa using hk)]
  have : g ≠ k := fun e => hne (by rw [e])
  simp [putRow, mapBlock, Sort.ahead, Array.getElem?_modify, this]
end
theorem grownCell {w w' : World} {g b off : Nat} (hg : w.grownBy w' (some g)) (hb : b < w.heap.size) (hne : b ≠ g) : w'.cell? ⟨b, off, none⟩ = w.cell? ⟨b, off, none⟩ :=
  World.cell?_of_block (w := w) (a := ⟨b, off, none⟩) (hg.block b hb (fun e => hne (by injection e)))
theorem level_cases (m : Nat) : ((m : Int) % 2 = 1 ∧ (m % 2 == 1) = true) ∨ ((m : Int) % 2 = 0 ∧ (m % 2 == 1) = false) := by
  rcases Nat.mod_two_eq_zero_or_one m with h | h
  · exact .inr ⟨by omega, by simp [h]⟩
  · exact .inl ⟨by omega, by simp [h]⟩
theorem grow3 (w : World) (a b : Obj) (n : Nat) : ∀ c, (((w.alloc a).alloc b).drewN n).alloc c = Go.Sort.grow (w.drewN n) #[a, b, c] := by
  intro c
  have h1 : ((w.alloc a).alloc b) = Go.Sort.grow w #[a, b] := by rw [Go.Sort.alloc_eq_grow, Go.Sort.alloc_eq_grow, Go.Sort.grow_grow]; rfl
  have h2 : (Go.Sort.grow w #[a, b]).drewN n = Go.Sort.grow (w.drewN n) #[a, b] := rfl
  rw [h1, h2, Go.Sort.alloc_eq_grow, Go.Sort.grow_grow]; rfl
theorem byAxis_any (m : Nat) (w : World) :
    Calls Try.prog 51 #[.int .i64 (m : Int)] w fun e w' => e = .returned (.func (.func 59) #[] #[.pointer (some ⟨w.heap.size, 0, none⟩)]) ∧ w' = w.alloc (.cells #[.int .i64 (m : Int)] 3) := by
  have hmf : ∀ (fn : Fn) (first cap : Array Value) (w : World), (Instr.makeFunc fn first cap).run Try.prog w = .ok (.func fn first cap) w := fun _ _ _ _ => rfl
  go_enter Try.func51, Try.ntmps51
  go_wp2
  go_ret
  exact ⟨rfl, rfl⟩
set_option maxHeartbeats 1600000 in
theorem axis_exact (a b : Pt) (m bl : Nat) (w : World) (hc : w.cell? ⟨bl, 0, none⟩ = some (.int .i64 (m : Int))) :
    Calls Try.prog 59 #[.agg #[.int .i64 a.i, .int .i64 a.x, .int .i64 a.y], .agg #[.int .i64 b.i, .int .i64 b.x, .int .i64 b.y], .pointer (some ⟨bl, 0, none⟩)] w fun e w' => e = .returned (.int .i64 (pcmp (m % 2 == 1) a b)) ∧ ∃ q os', w' = Go.Sort.grow (w.drewN q) os' := by
  obtain ⟨ai, ax, ay⟩ := a
  obtain ⟨bi, bx, by'⟩ := b
  have hlt : bl < w.heap.size := World.block_lt_of_cell? w _ hc
  have h0 : 0 ≤ (m : Int) := by omega
  rcases level_cases m with ⟨h1, h2⟩ | ⟨h1, h2⟩
  · have HX : Hid (pcmp (m % 2 == 1) ⟨ai, ax, ay⟩ ⟨bi, bx, by'⟩ = orI [Lib.compareInt ay by', Lib.compareInt ax bx, Lib.compareInt ai bi]) := by show _ = _; rw [h2]; rfl
    clear h2
    rw [HX.out]
    go_enter Try.func59, Try.ntmps59
    go_wp2
    go_quiet ((go_at_call 60; first | exact qsame (cmp_any _ _ _) | exact qsame2 (cmp_any _ _ _)))
    go_wp2_with fail
    refine (cmp_any _ _ _).mono ?_
    rintro e w' ⟨rfl, rfl⟩
    go_wp2_with fail
    have HG := Lib.hid (grow3 w (.cells #[.int .i64 ai, .int .i64 ax, .int .i64 ay] 29) (.cells #[.int .i64 bi, .int .i64 bx, .int .i64 by'] 29) nq)
    have hs2 : (((w.alloc (.cells #[.int .i64 ai, .int .i64 ax, .int .i64 ay] 29)).alloc (.cells #[.int .i64 bi, .int .i64 bx, .int .i64 by'] 29)).drewN nq).heap.size = w.heap.size + 1 + 1 := by simp
    generalize (((w.alloc (.cells #[.int .i64 ai, .int .i64 ax, .int .i64 ay] 29)).alloc (.cells #[.int .i64 bi, .int .i64 bx, .int .i64 by'] 29)).drewN nq) = W2 at hs2 HG ⊢
    rw [← hs2]
    clear hs2
    refine (or_any _ _ [Lib.compareInt ay by', Lib.compareInt ax bx, Lib.compareInt ai bi] _ (rdI_heap (heap_alloc_new _ _) rfl) (by simp)).mono ?_
    rintro e w' ⟨rfl, rfl⟩
    go_wp2
    go_ret
    exact ⟨rfl, _, _, HG.out _⟩
  · have HX : Hid (pcmp (m % 2 == 1) ⟨ai, ax, ay⟩ ⟨bi, bx, by'⟩ = orI [Lib.compareInt ax bx, Lib.compareInt ay by', Lib.compareInt ai bi]) := by show _ = _; rw [h2]; rfl
    clear h2
    rw [HX.out]
    go_enter Try.func59, Try.ntmps59
    go_wp2
    go_quiet ((go_at_call 60; first | exact qsame (cmp_any _ _ _) | exact qsame2 (cmp_any _ _ _)))
    go_wp2_with fail
    refine (cmp_any _ _ _).mono ?_
    rintro e w' ⟨rfl, rfl⟩
    go_wp2_with fail
    have HG := Lib.hid (grow3 w (.cells #[.int .i64 ai, .int .i64 ax, .int .i64 ay] 29) (.cells #[.int .i64 bi, .int .i64 bx, .int .i64 by'] 29) nq)
    have hs2 : (((w.alloc (.cells #[.int .i64 ai, .int .i64 ax, .int .i64 ay] 29)).alloc (.cells #[.int .i64 bi, .int .i64 bx, .int .i64 by'] 29)).drewN nq).heap.size = w.heap.size + 1 + 1 := by simp
    generalize (((w.alloc (.cells #[.int .i64 ai, .int .i64 ax, .int .i64 ay] 29)).alloc (.cells #[.int .i64 bi, .int .i64 bx, .int .i64 by'] 29)).drewN nq) = W2 at hs2 HG ⊢
    rw [← hs2]
    clear hs2
    refine (or_any _ _ [Lib.compareInt ax bx, Lib.compareInt ay by', Lib.compareInt ai bi] _ (rdI_heap (heap_alloc_new _ _) rfl) (by simp)).mono ?_
    rintro e w' ⟨rfl, rfl⟩
    go_wp2
    go_ret
    exact ⟨rfl, _, _, HG.out _⟩
theorem sortPt_own (g c base bl m : Nat) (L : List Pt) (w : World) (h : OwnE encPt 29 3 w base g c L) (hc : w.cell? ⟨bl, 0, none⟩ = some (.int .i64 (m : Int))) (hne : bl ≠ g) (hn : L.length ≤ 16777216) :
    Calls Try.prog 50 #[.slice (some ⟨g, 0, none⟩) L.length c, .func (.func 59) #[] #[.pointer (some ⟨bl, 0, none⟩)]] w fun e w' => ∃ N, (e = .returned (.tuple #[]) ∧ Hid (N = sortP (m % 2 == 1) L) ∧ N.length = L.length ∧ OwnE encPt 29 3 w' base g c N ∧ w.grownBy w' (some g)) ∧ Below base w w' := by
  have hk := holdsK_ownE encPt_ok (by decide) h
  rcases h.2 with ⟨h', _⟩ | ⟨g', cap, cur, hv, hb, hh, hnc, hcm, hcs, htake⟩
  · simp at h'
  · simp only [Value.slice.injEq, Option.some.injEq, Addr.mk.injEq, and_true, true_and] at hv
    obtain ⟨rfl, rfl⟩ := hv
    have hlt := (h.lt g rfl).2
    have hbl : bl < w.heap.size := World.block_lt_of_cell? w _ hc
    have eg : ∀ args w, (callFunc 59 args).run Try.prog w = .ok (.enter 59 args) w := enters_of Try.func59 (by kernel_rfl) rfl
    have hcon := AnyQ.slices_SortFunc_total Try.sortPoint 3 Try.isAgg29 Try.sizeOf29 encPt encPt_len encPt_ok.one (pcmp (m % 2 == 1)) (swoPc _) 59 #[.pointer (some ⟨bl, 0, none⟩)] g 0 c L.toArray w eg
      (fun k os dk hs x y => by
        have e := grownCell (off := 0) (grown_sortKE (enc := encPt) (F := 3) (w := w) (g := g) (n := k) (os := os) (N := dk.toList)) hbl hne
        exact axis_exact x y m bl _ (by rw [hc] at e; exact e))
      hk hlt (by simpa using (by omega : L.length < 4611686018427387904)) (fun x y h1 h2 => by rw [lt_pcmp] at h1 h2; exact lessP_total h1 h2)
    refine (show Calls Try.prog 50 _ _ _ from hcon).mono ?_
    rintro e w' ⟨rfl, n, os, rfl⟩
    have e1 : (L.toArray.toList.mergeSort fun x y => !(ltOf (pcmp (m % 2 == 1))) y x) = sortP (m % 2 == 1) L := by
      unfold sortP
      simp only [lt_pcmp]
    rw [e1]
    exact ⟨sortP (m % 2 == 1) L, ⟨rfl, rfl, sortP_len _ L, own_sortKE encPt_ok (by decide) (sortP_len _ L) hb hh hnc hcm hcs, grown_sortKE⟩, (Below.refl _ _).grown grown_sortKE (by omega) (fun k hk => by cases hk; exact hb)⟩
end Go.Proofs.Ytbmbejomodkabaa
