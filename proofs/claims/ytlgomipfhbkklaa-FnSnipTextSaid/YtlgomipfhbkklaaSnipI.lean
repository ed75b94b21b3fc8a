/-
  Contracts of marks, SnipOf (impl).
-/
import Derived.Test.YtlgomipfhbkklaaTermsOf
import Derived.Test.YtlgomipfhbkklaaSnipLaw
import Derived.Maps.OwnOps
import Derived.Maps.OwnSet
import Derived.Maps.Views
import Derived.StringKeys
namespace Go.Proofs.Ytlgomipfhbkklaa
open Go.RowKit Go.Sort Go.Maps
set_option linter.unusedVariables false

theorem encT_flat (L : List ByteArray) : L.flatMap encT = L.map Value.string := by
  induction L with
  | nil => rfl
  | cons x r ih => rw [List.flatMap_cons, ih]; rfl
theorem encT_set (L : List ByteArray) (i : Nat) (x : ByteArray) : (L.flatMap encT).set i (.string x) = (L.set i x).flatMap encT := by
  rw [encT_flat, encT_flat, List.map_set]
/-- what a call that makes rows of texts hands back. -/
def MakesT (M : List ByteArray) (w : World) (e : Ending) (w' : World) : Prop := ∃ g c : Nat, (e = .returned (.slice (some ⟨g, 0, none⟩) M.length c) ∧ OwnT w' w.heap.size g c M) ∧ Below w.heap.size w w'
theorem below_setO {B g j : Nat} {w w' : World} (h : Below B w w') (hb : B ≤ g) (u : Value) : Below B w (w'.setCell ⟨g, j, none⟩ u) := h.setCell (p := ⟨g, j, none⟩) hb u
set_option maxRecDepth 8000 in
set_option maxHeartbeats 6400000 in
theorem marks_any (d : ConfD) (A1 A2 A3 : Option Addr) (c1 c2 c3 : Nat) (s : ByteArray) (ts : List ByteArray) (w : World) (h : HasC w d A1 c1 A2) (hs : SmC d) (hc : confB d = true) (ht : textB s = true) (hT : SrcT w A3 c3 ts) (htl : ts.length ≤ 1048576) (hsz : s.size ≤ 1048576) :
    Calls Try.prog 42 #[.agg #[.slice A1 d.st.length c1, .slice A2 d.sy.length c2], .string s, .slice A3 ts.length c3] w (MakesT (markL (wordsB s).length ts (termsB d s)) w) := by
  have HCT : Hid (∀ w, HasC w d A1 c1 A2 → Calls Try.prog 11 #[.agg #[.slice A1 d.st.length c1, .slice A2 d.sy.length c2], .string s] w (MakesTm (termsB d s) w)) := fun w h => by
    have h1 := termsOf_any d A1 A2 c1 c2 s w h hs hsz
    have e : termsT d s = termsB d s := by unfold termsT; rw [hc, ht]; rfl
    rwa [e] at h1
  have HCW : Hid (∀ w, Calls Try.prog 23 #[.string s] w (MakesW (wordsB s) w)) := fun w => by
    have h1 := wordsOf_any s w hsz
    have e : wordsT s = wordsB s := by unfold wordsT; rw [ht]; rfl
    rwa [e] at h1
  have hwl := wordsB_len s
  have hlt := termsB_lt d s
  have hPl := termsB_len d s
  generalize termsB d s = P at HCT hlt hPl ⊢
  obtain ⟨m, hm⟩ : ∃ m, m = (wordsB s).length := ⟨_, rfl⟩
  rw [← hm] at hlt hPl hwl ⊢
  generalize wordsB s = ws at HCW hm
  have HLT := Lib.hid hlt
  have HM := Lib.hid hm
  clear hlt hm hc ht
  have HH := Lib.hid h
  obtain ⟨n1, hn1⟩ : ∃ n1, n1 = d.st.length := ⟨_, rfl⟩
  obtain ⟨n2, hn2⟩ : ∃ n2, n2 = d.sy.length := ⟨_, rfl⟩
  rw [← hn1, ← hn2] at HCT ⊢
  clear hn1 hn2 h hs
  have hB0 : Below w.heap.size w (w.alloc (.cells #[.slice A1 n1 c1, .slice A2 n2 c2] 26)) := by (repeat' (first | exact Below.refl _ _ | apply Below.alloc | apply Below.setCell | apply Below.drew | apply below_draws)) <;> (first | omega | (simp <;> omega))
  have f0 : (w.alloc (.cells #[.slice A1 n1 c1, .slice A2 n2 c2] 26)).cell? ⟨w.heap.size, 0, none⟩ = some (.slice A1 n1 c1) := by simp [go_sem]
  have f1 : (w.alloc (.cells #[.slice A1 n1 c1, .slice A2 n2 c2] 26)).cell? ⟨w.heap.size, 1, none⟩ = some (.slice A2 n2 c2) := by simp [go_sem]
  have hs0 : w.heap.size + 1 ≤ (w.alloc (.cells #[.slice A1 n1 c1, .slice A2 n2 c2] 26)).heap.size := by simp
  go_enter Try.func42, Try.ntmps42
  go_wp2_with fail
  generalize (w.alloc (.cells #[.slice A1 n1 c1, .slice A2 n2 c2] 26)) = W0 at hB0 f0 f1 hs0 ⊢
  refine (HCW.out _).mono ?_
  rintro e w1 ⟨gw, cw, ⟨rfl, _⟩, hb1⟩
  rw [← HM.out]
  have hB1 := hB0.trans (hb1.mono hB0.size)
  have hw1s := hb1.size
  obtain ⟨i0, hi, hz0, hz1, hz2⟩ := info_partsZ infoStr
  obtain ⟨wm, hmk, hown0, hg0⟩ := run_make_full (P := Try.prog) w1 w1.heap.size 23 9 i0 _ 1 Try.underlying23 hi hz0 hz1 .i64 .i64 m (by rw [hz2]; omega) (by unfold maxLen; omega) (Nat.le_refl _)
  have hbm : Below w1.heap.size w1 wm := (Below.refl _ _).grown hg0 (Nat.le_refl _) (fun k hk => by cases hk)
  have hown1 : OwnT wm w1.heap.size w1.heap.size m (markL m ts []) := by
    have e : (madeCells (Value.string ⟨#[]⟩).cells (m * 1)).toList = (List.replicate m ByteArray.empty).flatMap encT := by
      rw [encT_flat, Nat.mul_one, List.map_replicate]
      exact toList_madeCells_one _ _
    have hl : (markL m ts []).length = m := markL_len m ts []
    show wm.ownsRow _ _ _ _ _ _
    rw [hl]
    rw [e] at hown0
    exact hown0
  have hltg := (OwnE.capOk hown1).2.2.2
  have hb1m := hb1.trans (hbm.mono hb1.size)
  have g0 := (belowL hb1m (show w.heap.size < W0.heap.size by omega)).trans f0
  have g1 := (belowL hb1m (show w.heap.size < W0.heap.size by omega)).trans f1
  have hB2 := hB1.trans (hbm.mono hB1.size)
  have hwms := hbm.size
  clear hi hz0 hz1 hz2 hown0 hg0 f0 f1 hb1 hb1m
  go_wp2_with fail
  refine (HCT.out _ (HH.out.below hB2)).mono ?_
  rintro e w3 ⟨gp, cp, ⟨rfl, ownP⟩, hb3⟩
  have srcP := ownP.src
  have hgp := OwnE.capOk ownP
  have own3 := own_belowZ hown1 hb3
  have hB3 := hB2.trans (hb3.mono hB2.size)
  have hb13 := hbm.trans (hb3.mono hwms)
  clear hown1 ownP hbm hb3 g0 g1 hmk
  have hgne := (OwnE.capOk own3).2.2.2
  have hgp2 := hgp.2.2.1
  go_wp2_with fail
  go_loopw [9, 18] (fun _ iv wr => ∃ k : Nat, k ≤ P.length ∧ iv = .int .i64 k ∧ wr.ownsRow w1.heap.size 9 1 (.slice (some ⟨w1.heap.size, 0, none⟩) m m) m ((markL m ts (P.take k)).flatMap encT) ∧ SrcE encTm 2 wr (some ⟨gp, 0, none⟩) cp P ∧ Below w1.heap.size w1 wr) (fun _ iv _ => P.length - (intOf iv).toNat)
  case atStart => exact ⟨0, Nat.zero_le _, rfl, by have h1 : w3.ownsRow _ _ _ _ _ _ := own3; rw [markL_len] at h1; exact h1, srcP, hb13⟩
  case round =>
    clear own3 srcP
    obtain ⟨k, hk, rfl, own, hP, hB⟩ := hrel
    obtain ⟨wo, hwo⟩ : ∃ wo, wo = wr := ⟨_, rfl⟩
    subst hwo
    have hBs := hB.size
    by_cases hlt : k < P.length
    · have hi0 : (k : Int) < (P.length : Int) := by omega
      obtain ⟨hgb, t0, t1⟩ := hP.allTm hlt
      rw [Nat.zero_add] at t0 t1
      have hpm := HLT.out P[k] (List.getElem_mem _)
      have hy := markL_yes (n := m) (ts := ts) hlt
      have hn := markL_no (n := m) (ts := ts) hlt
      have HML : Hid ((markL m ts (P.take k)).length = m) := markL_len _ _ _
      generalize markL m ts (P.take k) = M at own hy hn HML
      generalize P[k].1 = tx at t0 hy hn
      generalize P[k].2 = p at t1 hy hn hpm
      have HY := Lib.hid hy
      have HN := Lib.hid hn
      clear hy hn
      have hba : Below wo.heap.size wo (wo.alloc (.cells #[.string tx, .int .i64 (p : Int)] 76)) := by (repeat' (first | exact Below.refl _ _ | apply Below.alloc | apply Below.setCell | apply Below.drew | apply below_draws)) <;> (first | omega | (simp <;> omega))
      have u0 : (wo.alloc (.cells #[.string tx, .int .i64 (p : Int)] 76)).cell? ⟨wo.heap.size, 0, none⟩ = some (.string tx) := by simp [go_sem]
      have u1 : (wo.alloc (.cells #[.string tx, .int .i64 (p : Int)] 76)).cell? ⟨wo.heap.size, 1, none⟩ = some (.int .i64 (p : Int)) := by simp [go_sem]
      go_wp2_with fail
      generalize (wo.alloc (.cells #[.string tx, .int .i64 (p : Int)] 76)) = wz at hba u0 u1 ⊢
      have hBz := hB.trans (hba.mono hBs)
      have hTz := hT.below (hB1.trans (hBz.mono hB1.size))
      have ownz := own_belowZ own hba
      have hPz := hP.below hba
      refine (contains_any _ _ ts tx _ hTz (by omega)).mono ?_
      rintro e w5 ⟨rfl, rfl⟩
      cases h1 : hasB ts tx with
      | false =>
        have HM2 : Hid (markL m ts (P.take (k + 1)) = M) := HN.out h1
        clear HY HN own hP
        go_wp2
        go_roundw
        case rel => exact ⟨k + 1, by omega, by go_num, by rw [HM2.out]; exact ownz, hPz, hBz⟩
        case measure => simp [intOf] <;> omega
      | true =>
        have HM2 : Hid (markL m ts (P.take (k + 1)) = M.set p tx) := HY.out h1
        clear HY HN own hP
        have hpi : (p : Int) < (m : Int) := by omega
        have hgl : (M.flatMap encT).length = m := by rw [encT_ok.flat, HML.out, Nat.mul_one]
        have z0 := ownz.frozenAt p
        have own6 := (ownz.stored p (.string tx)).1
        have hg6 := (ownz.stored p (.string tx)).2
        rw [encT_set] at own6
        have c0 := ownz.cellAt p (by omega)
        obtain ⟨v0, hv0⟩ : ∃ v0, (M.flatMap encT)[p]? = some v0 := ⟨_, List.getElem?_eq_getElem (by omega)⟩
        rw [hv0] at c0
        have hP6 := hPz.kept hg6 (by omega)
        have hB6 := below_setO (j := p) hBz (Nat.le_refl _) (.string tx)
        clear ownz hPz hba hBz hTz hg6 hgl hv0
        go_wp2
        go_roundw
        case rel => exact ⟨k + 1, by omega, by go_num, by rw [HM2.out]; exact own6, hP6, hB6⟩
        case measure => simp [intOf] <;> omega
    · have e1 : markL m ts (P.take k) = markL m ts P := by rw [List.take_of_length_le (by omega)]
      rw [e1] at own
      have hl : (markL m ts P).length = m := markL_len m ts P
      have ownF : OwnT wo w.heap.size w1.heap.size m (markL m ts P) := by
        show wo.ownsRow _ _ _ _ _ _
        rw [hl]
        exact own_monoZ own (show w.heap.size ≤ w1.heap.size by omega)
      have HL := Lib.hid hl
      clear e1 hl own
      go_wp2
      go_ret
      exact ⟨w1.heap.size, m, ⟨by show Ending.returned (.slice (some ⟨w1.heap.size, 0, none⟩) m m) = Ending.returned (.slice (some ⟨w1.heap.size, 0, none⟩) (markL m ts P).length m); rw [HL.out], ownF⟩, hB1.trans (hB.mono hB1.size)⟩
/-! a set of texts -/
def keyB (s : ByteArray) : Lit := .string s.data.toList
theorem keyB_ok (xs : List ByteArray) : ∀ x ∈ xs.map keyB, WideAt.IsKeyLit x := fun x hx => by obtain ⟨_, _, rfl⟩ := List.mem_map.1 hx; trivial
theorem keyB_same (K : List ByteArray) (x : ByteArray) : (K.map keyB).any (fun y => y.sameKey (keyB x)) = hasB K x := by
  rw [Bool.eq_iff_iff, hasB_iff, List.any_eq_true]
  constructor
  · rintro ⟨y, hy, h⟩
    obtain ⟨z, hz, rfl⟩ := List.mem_map.1 hy
    have e := WideAt.sameKey_eq h
    unfold keyB at e
    injection e with e
    rw [← ba_ext e]
    exact hz
  · intro h
    exact ⟨keyB x, List.mem_map_of_mem h, WideAt.sameKey_self trivial⟩
theorem fold_key : ∀ (xs K : List ByteArray), (xs.map keyB).foldl addKey (K.map keyB) = (xs.foldl (fun K x => if hasB K x = true then K else K ++ [x]) K).map keyB
  | [], K => rfl
  | x :: r, K => by
    rw [List.map_cons, List.foldl_cons, List.foldl_cons]
    unfold addKey
    rw [keyB_same]
    cases hb : hasB K x with
    | true => rw [if_pos rfl, if_pos rfl]; exact fold_key r K
    | false =>
      rw [if_neg (by simp), if_neg (by simp)]
      have := fold_key r (K ++ [x])
      rw [List.map_append, List.map_singleton] at this
      exact this
def setB (xs : List ByteArray) : DataW Unit := setOf (.lit (.bool true)) (xs.map keyB)
theorem setB_snoc (xs : List ByteArray) (x : ByteArray) : setB (xs ++ [x]) = (setB xs).put (keyB x) (.lit (.bool true)) := by unfold setB; rw [List.map_append, List.map_singleton, setOf_snoc]
theorem setB_size (xs : List ByteArray) : Maps.size (setB xs) = (dedB xs).length := by
  unfold setB
  rw [size_setOf _ _ (keyB_ok xs)]
  have := fold_key xs []
  rw [List.map_nil] at this
  rw [this, List.length_map]
  rfl
theorem keyedS : Keyed Try.prog 9 := string_keyed Try.underlying9
theorem keyS {x : ByteArray} (h : x.size ≤ maxLen) : keyOf Try.prog 9 (.string x) = some (keyB x) := WideMaps.keyOf_string_mk Try.underlying9 h
abbrev SetS (w : World) (b n : Nat) (xs : List ByteArray) : Prop := w.ownsMap Try.prog 9 (plainElem (H := Unit) Try.prog 4) b n (setB xs)
theorem SetS.made (w : World) : SetS (w.alloc (.map #[] 0)) w.heap.size 0 [] := World.ownsMap_made w _ _ _
/-- what impl counts of a piece. -/
def fullW (M : List ByteArray) (w a : Nat) : List ByteArray := (winL M a w).filter fullB
def scM (M : List ByteArray) (w a : Nat) : Int × Int := (((dedB (fullW M w a)).length : Nat), ((fullW M w a).length : Nat))
theorem dedB_len : ∀ (xs K : List ByteArray), (xs.foldl (fun K x => if hasB K x = true then K else K ++ [x]) K).length ≤ K.length + xs.length
  | [], K => Nat.le_refl _
  | x :: r, K => by
    rw [List.foldl_cons]
    refine Nat.le_trans (dedB_len r _) ?_
    split <;> simp <;> omega
end Go.Proofs.Ytlgomipfhbkklaa
