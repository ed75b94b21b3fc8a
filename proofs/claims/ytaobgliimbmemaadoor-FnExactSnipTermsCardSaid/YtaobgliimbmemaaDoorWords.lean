/-
  Contracts of lower, WordsOf, WordsMany; l1Words.
-/
import Derived.Test.YtaobgliimbmemaaDoorTermLaw
import Derived.Laws.IdiomStrings
namespace Go.Proofs.YtaobgliimbmemaaDoor
open Go.RowKit Go.Sort
set_option linter.unusedVariables false

theorem srcE_litAt {α : Type} {enc : α → List Value} {F : Nat} (he : Enc enc F) {E : TypeId} (cs : Array Value) (L : List α) (hcs : cs.toList = L.flatMap enc) {V V' : World} {b c : Nat} (h2 : V'.heap = (V.alloc (.cells cs E)).heap) (h0 : b = V.heap.size) : SrcE enc F V' (some ⟨b, 0, none⟩) c L := by
  subst h0
  exact SrcE.blk (cs := cs) (E := E) he (by rw [h2]; exact heap_alloc_new _ _) hcs
def encU (b : UInt8) : List Value := [.int .u8 (b.toNat : Int)]
theorem encU_ok : Enc encU 1 := ⟨fun _ => rfl, fun a u hu => by simp [encU] at hu; subst hu; rfl⟩
theorem infoU : (Tryd.prog.info? 5).map (fun i => (i.zero, i.size, i.bytes)) = some (some (.int .u8 0), 1, 1) := by kernel_rfl
theorem rowTU : RowT Tryd.prog 22 5 1 1 := rowT_of Tryd.underlying22 infoU rfl
abbrev OwnU (w : World) (base g c : Nat) (L : List UInt8) : Prop := OwnE encU 5 1 w base g c L
/-- string(b) of a row of bytes, or of its head. -/
theorem conv_head {w : World} {base g c : Nat} {T : List UInt8} (own : OwnU w base g c T) {n : Nat} (hn : n ≤ T.length) (c' : Nat) : (convert 22 9 (.slice (some ⟨g, 0, none⟩) n c')).run Tryd.prog w = .ok (.string ⟨(T.take n).toArray⟩) w := by
  have hl : (T.take n).length = n := by rw [List.length_take]; omega
  have h := run_convert_bytes_back (P := Tryd.prog) w 22 9 5 ⟨g, 0, none⟩ c' (T.take n) Tryd.underlying22 Tryd.underlying5 Tryd.underlying9 (fun j hj => by
    have hj2 : j < T.length := by omega
    obtain ⟨b, off, e, hb, hc⟩ := SrcE.cells encU_ok own.src hj2 (by omega)
    simp only [Option.some.injEq, Addr.mk.injEq, and_true] at e
    obtain ⟨rfl, rfl⟩ := e
    have h0 := hc 0 _ (by unfold encU; rfl)
    rw [List.getElem_take]
    have e2 : (Addr.add ⟨g, 0, none⟩ j) = ⟨g, 0 + (j * 1 + 0), none⟩ := by
      unfold Addr.add; split
      · rename_i h; subst h; rfl
      · simp
    rw [e2]; exact h0)
  rw [hl] at h
  exact h
theorem conv_all {w : World} {base g c : Nat} {T : List UInt8} (own : OwnU w base g c T) (c' : Nat) : (convert 22 9 (.slice (some ⟨g, 0, none⟩) T.length c')).run Tryd.prog w = .ok (.string ⟨T.toArray⟩) w := by
  have h := conv_head own (Nat.le_refl _) c'
  rwa [List.take_length] at h

/-! plain -/
def lowI (n : Int) : Int := if 65 ≤ n ∧ n ≤ 90 then n + 32 else n
theorem wbI_low {n : Int} (h0 : 0 ≤ n) : wbI (lowI n) = decide (foldI n ≠ 0) := by
  unfold lowI foldI
  by_cases h : 65 ≤ n ∧ n ≤ 90
  · rw [if_pos h, if_pos h, decide_eq_true (by omega), wbI_true]; omega
  · rw [if_neg h, if_neg h]
    cases hb : wbI n with
    | true =>
      rw [if_pos rfl]
      have := wbI_true.1 hb
      rw [decide_eq_true (by omega)]
    | false => rw [if_neg (by simp)]; rfl
theorem lowI_fold {n : Int} (h : foldI n ≠ 0) : lowI n = foldI n := by
  unfold lowI foldI at *
  by_cases h2 : 65 ≤ n ∧ n ≤ 90
  · rw [if_pos h2, if_pos h2]
  · rw [if_neg h2] at h ⊢
    rw [if_neg h2]
    split
    · rfl
    · rename_i h3; rw [if_neg h3] at h; exact absurd rfl h
/-- the letters of a run, small. -/
def txA (s : ByteArray) (i n : Nat) : List UInt8 := (List.range n).map fun k => UInt8.ofNat (foldI ((s.data.getD (i + k) 0).toNat : Int)).toNat
theorem txA_succ (s : ByteArray) (i n : Nat) : txA s i (n + 1) = txA s i n ++ [UInt8.ofNat (foldI ((s.data.getD (i + n) 0).toNat : Int)).toNat] := by
  unfold txA; rw [List.range_succ, List.map_append]; rfl
theorem txA_len (s : ByteArray) (i n : Nat) : (txA s i n).length = n := by unfold txA; simp
theorem byte_get {s : ByteArray} {i : Nat} (h : i < s.size) : s.data.getD i 0 = s[i] := by
  have h2 : i < s.data.size := h
  rw [Array.getD_eq_getD_getElem?, Array.getElem?_eq_getElem h2]; rfl
theorem isWd_at {s : ByteArray} {i : Nat} (h : i < s.size) : isWd s i = decide (foldI (s[i].toNat : Int) ≠ 0) := by
  unfold isWd; rw [decide_eq_true h, byte_get h]; rfl
theorem isWd_out {s : ByteArray} {i : Nat} (h : ¬ i < s.size) : isWd s i = false := by unfold isWd; rw [decide_eq_false h]; rfl
theorem txA_next {s : ByteArray} {i m : Nat} (hi : i ≤ m) (hm : m < s.size) {b : UInt8} (hb : foldI (s[m].toNat : Int) = (b.toNat : Int)) : txA s i (m + 1 - i) = txA s i (m - i) ++ [b] := by
  rw [show m + 1 - i = (m - i) + 1 by omega, txA_succ, show i + (m - i) = m by omega, byte_get hm, hb]
  simp
theorem fold_byte (n : Int) (h0 : 0 ≤ n) (h1 : n ≤ 255) : ∃ b : UInt8, foldI n = (b.toNat : Int) := by
  have h : 0 ≤ foldI n ∧ foldI n ≤ 255 := by
    by_cases h : foldI n = 0
    · omega
    · exact (foldI_good h0 h1 h).2
  refine ⟨UInt8.ofNat (foldI n).toNat, ?_⟩
  rw [UInt8.toNat_ofNat']
  have : (foldI n).toNat % 2 ^ 8 = (foldI n).toNat := Nat.mod_eq_of_lt (by omega)
  rw [this]
  omega
theorem runEnd_to {s : ByteArray} {i m : Nat} (h : i ≤ m) (h1 : ∀ j, i ≤ j → j < m → isWd s j = true) (h2 : isWd s m = false) : runEnd s i = m := by
  induction hk : m - i generalizing i with
  | zero =>
    obtain rfl : i = m := by omega
    rw [runEnd, if_neg (by rw [h2]; simp)]
  | succ k ih =>
    rw [runEnd, if_pos (h1 i (Nat.le_refl _) (by omega))]
    exact ih (by omega) (fun j hj hj' => h1 j (by omega) hj') (by omega)
theorem wordsFrom_word {s : ByteArray} {i m n : Nat} (h : i < m) (h1 : ∀ j, i ≤ j → j < m → isWd s j = true) (h2 : isWd s m = false) : wordsFrom s i n = ⟨⟨((txA s i (m - i)).take 12).toArray⟩, n, i, m⟩ :: wordsFrom s m (n + 1) := by
  have e := runEnd_to (Nat.le_of_lt h) h1 h2
  conv => lhs; rw [wordsFrom]
  rw [dif_pos (h1 i (Nat.le_refl _) h), e]
  rfl
theorem wordsFrom_step {s : ByteArray} {m n : Nat} (h2 : isWd s m = false) (hm : m < s.size) : wordsFrom s m n = wordsFrom s (m + 1) n := wordsFrom_skip h2 hm
theorem wordsFrom_past {s : ByteArray} {m n : Nat} (h2 : isWd s m = false) : wordsFrom s m n = wordsFrom s (m + 1) n := by
  rcases Nat.lt_or_ge m s.size with h | h
  · exact wordsFrom_skip h2 h
  · rw [wordsFrom_end (by omega), wordsFrom_end (by omega)]
/-- what a call that makes rows of words hands back. -/
def MakesW (ws : List WordD) (w : World) (e : Ending) (w' : World) : Prop := ∃ g c : Nat, (e = .returned (.slice (some ⟨g, 0, none⟩) ws.length c) ∧ OwnE encW 132 4 w' w.heap.size g c ws) ∧ Below w.heap.size w w'

set_option maxHeartbeats 3200000 in
theorem l1Words_any (s : ByteArray) (w : World) (hs : s.size ≤ 1048576) :
    Calls Tryd.prog 143 #[.string s] w (MakesW (wordsB s) w) := by
  obtain ⟨R, hR⟩ : ∃ R, R = wordsB s := ⟨_, rfl⟩
  rw [← hR]
  have HR : Hid (R = [] ++ wordsFrom s 0 0) := hR
  clear hR
  have hB0 : Below w.heap.size w (w.alloc (.cells #[] 132)) := (Below.refl _ _).alloc (Nat.le_refl _) _
  have own0 := ownE_made (enc := encW) (F := 4) 132 w w.heap.size (Nat.le_refl _)
  go_enter Tryd.func143, Tryd.ntmps143
  go_wp2_with fail
  generalize (w.alloc (.cells #[] 132)) = w0 at hB0 own0 ⊢
  go_loopw [3, 4, 5, 6] (fun ov iv _ _ wr => ∃ i : Nat, i ≤ s.size + 1 ∧ iv = .int .i64 i ∧ ∃ (g c : Nat) (O : List WordD), ov = .slice (some ⟨g, 0, none⟩) O.length c ∧ Hid (R = O ++ wordsFrom s i O.length) ∧ Hid (O.length ≤ i) ∧ OwnE encW 132 4 wr w.heap.size g c O ∧ Below w.heap.size w wr) (fun _ iv _ _ _ => s.size + 1 - (intOf iv).toNat)
  case atStart => exact ⟨0, Nat.zero_le _, rfl, _, _, [], rfl, HR, Nat.le_refl _, own0, hB0⟩
  case round =>
    clear own0 hB0 HR
    obtain ⟨wo, hwo⟩ : ∃ wo, wo = wr := ⟨_, rfl⟩
    subst hwo
    obtain ⟨i, hi, rfl, g, co, O, rfl, hm, hOl, own, hB⟩ := hrel
    have hBs := hB.size
    by_cases hlt : i < s.size
    · have hi0 : (i : Int) < (s.size : Int) := by omega
      have own1 := ownE_made (enc := encU) (F := 1) 5 wo wo.heap.size (Nat.le_refl _)
      have hb1 : Below wo.heap.size wo (wo.alloc (.cells #[] 5)) := (Below.refl _ _).alloc (Nat.le_refl _) _
      go_wp2_with fail
      generalize (wo.alloc (.cells #[] 5)) = w1 at own1 hb1 ⊢
      go_loopw [4, 5] (fun iv tv wv => ∃ m : Nat, i ≤ m ∧ m ≤ s.size ∧ iv = .int .i64 m ∧ ∃ (g2 c2 : Nat) (T : List UInt8), tv = .slice (some ⟨g2, 0, none⟩) T.length c2 ∧ Hid (T = txA s i (m - i)) ∧ Hid (∀ j, i ≤ j → j < m → isWd s j = true) ∧ OwnU wv wo.heap.size g2 c2 T ∧ Below wo.heap.size wo wv) (fun iv _ _ => s.size - (intOf iv).toNat)
      case atStart => exact ⟨i, Nat.le_refl _, by omega, rfl, _, _, [], rfl, by show _ = _; rw [Nat.sub_self]; rfl, fun j h1 h2 => absurd h1 (by omega), own1, hb1⟩
      case round =>
        clear own1 hb1
        obtain ⟨wv, hwv⟩ : ∃ wv, wv = wr := ⟨_, rfl⟩
        subst hwv
        obtain ⟨m, him, hms, rfl, g2, c2, T, rfl, hT, hW, ownT, hbT⟩ := hrel
        have hbTs := hbT.size
        have HTL : Hid (T.length = m - i) := by show _ = _; rw [hT.out, txA_len]
        by_cases hlm : m < s.size
        · have hm0 : (m : Int) < (s.size : Int) := by omega
          have hby := s[m].toNat_lt
          obtain ⟨b, hfb⟩ := fold_byte (s[m].toNat : Int) (by omega) (by omega)
          have hwd := isWd_at hlm
          rw [hfb] at hwd
          have HN : Hid (T ++ [b] = txA s i (m + 1 - i)) := by show _ = _; rw [txA_next him hlm hfb, hT.out]
          by_cases hb0 : (b.toNat : Int) = 0
          · have HS : Hid (isWd s m = false) := by show _ = _; rw [hwd, decide_eq_false (by omega)]
            clear hwd HN
            rw [hb0] at hfb
            go_wp2_with fail
            refine (l1Fold_any (s[m].toNat : Int) (by omega) (by omega) _).mono ?_
            rintro e w2 ⟨rfl, rfl⟩
            rw [hfb]
            clear hfb
            have HOl := hOl
            rcases Nat.eq_zero_or_pos T.length with hz | hz
            · obtain rfl : T = [] := List.length_eq_zero_iff.1 hz
              obtain rfl : i = m := by have := HTL.out; simp at this; omega
              have HM : Hid (R = O ++ wordsFrom s (i + 1) O.length) := by show _ = _; rw [hm.out, wordsFrom_past HS.out]
              have own2 := own_belowZ own hbT
              have hB2 := hB.trans (hbT.mono hBs)
              clear hm hT hW HTL hz
              go_wp2
              go_roundw
              case rel => exact ⟨i + 1, by omega, by go_num, g, co, O, rfl, HM, by have := HOl.out; show _ ≤ _; omega, own2, hB2⟩
              case measure => simp [intOf] <;> omega
            · have hlt2 : i < m := by have := HTL.out; omega
              have HM : Hid (R = O ++ [⟨⟨(T.take 12).toArray⟩, O.length, i, m⟩] ++ wordsFrom s (m + 1) (O.length + 1)) := by
                show _ = _
                rw [hm.out, wordsFrom_word hlt2 hW.out HS.out, ← hT.out, wordsFrom_past HS.out, List.append_assoc]; rfl
              have hOl2 : O.length ≤ i := HOl.out
              have own2 := own_belowZ own hbT
              have hB2 := hB.trans (hbT.mono hBs)
              have hlit : ∀ tx : ByteArray, encW ⟨tx, O.length, i, m⟩ = [.string tx, .int .i64 (O.length : Int), .int .i64 (i : Int), .int .i64 (m : Int)] := fun _ => rfl
              clear hm hT hW HTL own hB
              by_cases h12 : 12 < T.length
              · have kc := fun c' => conv_head ownT (n := 12) (by omega) c'
                generalize htx : (⟨(T.take 12).toArray⟩ : ByteArray) = tx at kc HM
                clear htx
                have h12c : 12 ≤ c2 := by have hcap := OwnE.capOk ownT; omega
                go_wp2_with (at_builtin; refine append_rec rowTWrd encW_ok (by decide) rfl _ _ rfl w.heap.size _ _ O rfl (own2.alloc _) _ _ _ [⟨tx, O.length, i, m⟩] rfl rfl ?_ (by simp; omega) (by omega) (by simp <;> omega) ?_; exact srcE_litAt encW_ok #[.string tx, .int .i64 (O.length : Int), .int .i64 (i : Int), .int .i64 (m : Int)] [⟨tx, O.length, i, m⟩] rfl (by rfl) (by first | rfl | (simp; done)))
                intro N hN g7 c7 w7 own7 hg7 hat7 hb7
                have hB7 : Below w.heap.size w w7 := hB2.trans (Below.trans (by (repeat' (first | exact Below.refl _ _ | apply Below.alloc | apply Below.setCell | apply Below.drew | apply below_draws)) <;> (first | omega | (simp <;> omega))) hb7)
                have HNL : Hid (N.length = O.length + 1) := by show _ = _; rw [hN.out, List.length_append]; rfl
                have HN : Hid (R = N ++ wordsFrom s (m + 1) N.length) := by show _ = _; rw [HNL.out, hN.out, HM.out]
                clear hN hg7 hat7 hb7 own2 HM kc
                go_wp2
                go_roundw
                case rel => exact ⟨m + 1, by omega, by go_num, g7, c7, N, rfl, HN, by have := HNL.out; show _ ≤ _; omega, own7, hB7⟩
                case measure => simp [intOf] <;> omega
              · have kc := fun c' => conv_all ownT c'
                rw [List.take_of_length_le (by omega)] at HM
                generalize htx : (⟨T.toArray⟩ : ByteArray) = tx at kc HM
                clear htx
                go_wp2_with (at_builtin; refine append_rec rowTWrd encW_ok (by decide) rfl _ _ rfl w.heap.size _ _ O rfl (own2.alloc _) _ _ _ [⟨tx, O.length, i, m⟩] rfl rfl ?_ (by simp; omega) (by omega) (by simp <;> omega) ?_; exact srcE_litAt encW_ok #[.string tx, .int .i64 (O.length : Int), .int .i64 (i : Int), .int .i64 (m : Int)] [⟨tx, O.length, i, m⟩] rfl (by rfl) (by first | rfl | (simp; done)))
                intro N hN g7 c7 w7 own7 hg7 hat7 hb7
                have hB7 : Below w.heap.size w w7 := hB2.trans (Below.trans (by (repeat' (first | exact Below.refl _ _ | apply Below.alloc | apply Below.setCell | apply Below.drew | apply below_draws)) <;> (first | omega | (simp <;> omega))) hb7)
                have HNL : Hid (N.length = O.length + 1) := by show _ = _; rw [hN.out, List.length_append]; rfl
                have HN : Hid (R = N ++ wordsFrom s (m + 1) N.length) := by show _ = _; rw [HNL.out, hN.out, HM.out]
                clear hN hg7 hat7 hb7 own2 HM kc
                go_wp2
                go_roundw
                case rel => exact ⟨m + 1, by omega, by go_num, g7, c7, N, rfl, HN, by have := HNL.out; show _ ≤ _; omega, own7, hB7⟩
                case measure => simp [intOf] <;> omega
          · have HW : Hid (∀ j, i ≤ j → j < m + 1 → isWd s j = true) := fun j h1 h2 => by
              rcases Nat.lt_or_ge j m with h3 | h3
              · exact hW.out j h1 h3
              · obtain rfl : j = m := by omega
                rw [hwd]; exact decide_eq_true hb0
            have HTS : Hid (T.length ≤ s.size) := by show _ ≤ _; rw [HTL.out]; omega
            clear hwd hT hW HTL hm
            go_wp2_with fail
            refine (l1Fold_any (s[m].toNat : Int) (by omega) (by omega) _).mono ?_
            rintro e w2 ⟨rfl, rfl⟩
            rw [hfb]
            go_wp2_with fail
            refine (l1Fold_any (s[m].toNat : Int) (by omega) (by omega) _).mono ?_
            rintro e w2 ⟨rfl, rfl⟩
            rw [hfb]
            clear hfb
            go_wp2_with (at_builtin; refine append_rec rowTU encU_ok (by decide) rfl _ _ rfl wo.heap.size _ _ T rfl (ownT.alloc _) _ _ _ [b] rfl rfl ?_ (by have h0 := HTS.out; simp only [List.length_cons, List.length_nil]; omega) (by omega) (by simp <;> omega) ?_; exact srcE_litAt encU_ok #[.int .u8 (b.toNat : Int)] [b] rfl (by rfl) (by first | rfl | (simp; done)))
            intro N hN g7 c7 w7 own7 hg7 hat7 hb7
            have hb8 : Below wo.heap.size wo w7 := hbT.trans (Below.trans (by (repeat' (first | exact Below.refl _ _ | apply Below.alloc | apply Below.setCell | apply Below.drew | apply below_draws)) <;> (first | omega | (simp <;> omega))) hb7)
            have HN2 : Hid (N = txA s i (m + 1 - i)) := by show _ = _; rw [← HN.out]; exact hN.out
            clear hN hg7 hat7 hb7 ownT HN hbT
            go_wp2
            go_roundw
            case rel => exact ⟨m + 1, by omega, by omega, by go_num, g7, c7, N, rfl, HN2, HW, own7, hb8⟩
            case measure => simp [intOf] <;> omega
        · have hm0 : ¬ (m : Int) < (s.size : Int) := by omega
          have HS : Hid (isWd s m = false) := isWd_out (by omega)
          have HOl := hOl
          rcases Nat.eq_zero_or_pos T.length with hz | hz
          · exfalso
            have h0 := HTL.out
            omega
          · have hlt2 : i < m := by have := HTL.out; omega
            have HM : Hid (R = O ++ [⟨⟨(T.take 12).toArray⟩, O.length, i, m⟩] ++ wordsFrom s (m + 1) (O.length + 1)) := by
              show _ = _
              rw [hm.out, wordsFrom_word hlt2 hW.out HS.out, ← hT.out, wordsFrom_past HS.out, List.append_assoc]; rfl
            have hOl2 : O.length ≤ i := HOl.out
            have own2 := own_belowZ own hbT
            have hB2 := hB.trans (hbT.mono hBs)
            have hlit : ∀ tx : ByteArray, encW ⟨tx, O.length, i, m⟩ = [.string tx, .int .i64 (O.length : Int), .int .i64 (i : Int), .int .i64 (m : Int)] := fun _ => rfl
            clear hm hT hW HTL own hB
            by_cases h12 : 12 < T.length
            · have kc := fun c' => conv_head ownT (n := 12) (by omega) c'
              generalize htx : (⟨(T.take 12).toArray⟩ : ByteArray) = tx at kc HM
              clear htx
              have h12c : 12 ≤ c2 := by have hcap := OwnE.capOk ownT; omega
              go_wp2_with (at_builtin; refine append_rec rowTWrd encW_ok (by decide) rfl _ _ rfl w.heap.size _ _ O rfl (own2.alloc _) _ _ _ [⟨tx, O.length, i, m⟩] rfl rfl ?_ (by simp; omega) (by omega) (by simp <;> omega) ?_; exact srcE_litAt encW_ok #[.string tx, .int .i64 (O.length : Int), .int .i64 (i : Int), .int .i64 (m : Int)] [⟨tx, O.length, i, m⟩] rfl (by rfl) (by first | rfl | (simp; done)))
              intro N hN g7 c7 w7 own7 hg7 hat7 hb7
              have hB7 : Below w.heap.size w w7 := hB2.trans (Below.trans (by (repeat' (first | exact Below.refl _ _ | apply Below.alloc | apply Below.setCell | apply Below.drew | apply below_draws)) <;> (first | omega | (simp <;> omega))) hb7)
              have HNL : Hid (N.length = O.length + 1) := by show _ = _; rw [hN.out, List.length_append]; rfl
              have HN : Hid (R = N ++ wordsFrom s (m + 1) N.length) := by show _ = _; rw [HNL.out, hN.out, HM.out]
              clear hN hg7 hat7 hb7 own2 HM kc
              go_wp2
              go_roundw
              case rel => exact ⟨m + 1, by omega, by go_num, g7, c7, N, rfl, HN, by have := HNL.out; show _ ≤ _; omega, own7, hB7⟩
              case measure => simp [intOf] <;> omega
            · have kc := fun c' => conv_all ownT c'
              rw [List.take_of_length_le (by omega)] at HM
              generalize htx : (⟨T.toArray⟩ : ByteArray) = tx at kc HM
              clear htx
              go_wp2_with (at_builtin; refine append_rec rowTWrd encW_ok (by decide) rfl _ _ rfl w.heap.size _ _ O rfl (own2.alloc _) _ _ _ [⟨tx, O.length, i, m⟩] rfl rfl ?_ (by simp; omega) (by omega) (by simp <;> omega) ?_; exact srcE_litAt encW_ok #[.string tx, .int .i64 (O.length : Int), .int .i64 (i : Int), .int .i64 (m : Int)] [⟨tx, O.length, i, m⟩] rfl (by rfl) (by first | rfl | (simp; done)))
              intro N hN g7 c7 w7 own7 hg7 hat7 hb7
              have hB7 : Below w.heap.size w w7 := hB2.trans (Below.trans (by (repeat' (first | exact Below.refl _ _ | apply Below.alloc | apply Below.setCell | apply Below.drew | apply below_draws)) <;> (first | omega | (simp <;> omega))) hb7)
              have HNL : Hid (N.length = O.length + 1) := by show _ = _; rw [hN.out, List.length_append]; rfl
              have HN : Hid (R = N ++ wordsFrom s (m + 1) N.length) := by show _ = _; rw [HNL.out, hN.out, HM.out]
              clear hN hg7 hat7 hb7 own2 HM kc
              go_wp2
              go_roundw
              case rel => exact ⟨m + 1, by omega, by go_num, g7, c7, N, rfl, HN, by have := HNL.out; show _ ≤ _; omega, own7, hB7⟩
              case measure => simp [intOf] <;> omega
    · have hend : ¬ i < s.size := hlt
      have HE : Hid (O = R) := by show _ = _; rw [hm.out, wordsFrom_end hend, List.append_nil]
      clear hm
      have := HE.out
      subst this
      go_wp2
      go_ret
      exact ⟨g, co, ⟨rfl, own⟩, hB⟩
theorem lower_any (n : Int) (h0 : 0 ≤ n) (h1 : n ≤ 255) (w : World) :
    Calls Tryd.prog 130 #[.int .u8 n] w fun e w' => e = .returned (.int .u8 (lowI n)) ∧ w = w' := by
  by_cases a1 : 65 ≤ n
  · by_cases a2 : n ≤ 90
    · have e : lowI n = n + 32 := by unfold lowI; rw [if_pos ⟨a1, a2⟩]
      rw [e]
      have hw1 : IntKind.u8.wrap (n + 97) = n + 97 := by rw [IntKind.wrap_u8]; omega
      have hw2 : IntKind.u8.wrap (n + 97 - 65) = n + 32 := by rw [IntKind.wrap_u8]; omega
      clear e
      go_enter Tryd.func130, Tryd.ntmps130
      go_wp2
      go_ret
      exact ⟨rfl, rfl⟩
    · have e : lowI n = n := by unfold lowI; rw [if_neg (by omega)]
      rw [e]
      clear e
      go_enter Tryd.func130, Tryd.ntmps130
      go_wp2
      go_ret
      exact ⟨rfl, rfl⟩
  · have e : lowI n = n := by unfold lowI; rw [if_neg (by omega)]
    rw [e]
    clear e
    go_enter Tryd.func130, Tryd.ntmps130
    go_wp2
    go_ret
    exact ⟨rfl, rfl⟩
/-- the answer of WordsOf. -/
def wordsT (s : ByteArray) : List WordD := if textB s = true then wordsB s else []
set_option maxRecDepth 4000 in
set_option maxHeartbeats 6400000 in
theorem wordsOf_any (s : ByteArray) (w : World) (hs : s.size ≤ 1048576) :
    Calls Tryd.prog 109 #[.string s] w (MakesW (wordsT s) w) := by
  have hB0 : Below w.heap.size w (w.alloc (.cells #[] 132)) := (Below.refl _ _).alloc (Nat.le_refl _) _
  have own0 := ownE_made (enc := encW) (F := 4) 132 w w.heap.size (Nat.le_refl _)
  cases ht : textB s with
  | false =>
    have e : wordsT s = [] := by unfold wordsT; rw [ht]; rfl
    rw [e]
    clear e
    go_enter Tryd.func109, Tryd.ntmps109
    go_wp2_with fail
    refine (textOk_any s _ (by omega)).mono ?_
    rintro e w1 ⟨rfl, rfl⟩
    rw [ht]
    go_wp2
    go_ret
    exact ⟨_, _, ⟨rfl, own0⟩, hB0⟩
  | true =>
    have e : wordsT s = wordsB s := by unfold wordsT; rw [ht]; rfl
    rw [e]
    clear e
    obtain ⟨R, hR⟩ : ∃ R, R = wordsB s := ⟨_, rfl⟩
    rw [← hR]
    have HR : Hid (R = [] ++ wordsFrom s 0 0) := hR
    clear hR
    have HT := Lib.hid ht
    clear ht
    go_enter Tryd.func109, Tryd.ntmps109
    go_wp2_with fail
    generalize (w.alloc (.cells #[] 132)) = w0 at hB0 own0 ⊢
    refine (textOk_any s _ (by omega)).mono ?_
    rintro e w1 ⟨rfl, rfl⟩
    rw [HT.out]
    clear HT
    go_wp2_with fail
    go_loopw [3, 4, 5, 6] (fun ov iv _ _ wr => ∃ i : Nat, i ≤ s.size ∧ iv = .int .i64 i ∧ ∃ (g c : Nat) (O : List WordD), ov = .slice (some ⟨g, 0, none⟩) O.length c ∧ Hid (R = O ++ wordsFrom s i O.length) ∧ Hid (O.length ≤ i) ∧ OwnE encW 132 4 wr w.heap.size g c O ∧ Below w.heap.size w wr) (fun _ iv _ _ _ => s.size - (intOf iv).toNat)
    case atStart => exact ⟨0, Nat.zero_le _, rfl, _, _, [], rfl, HR, Nat.le_refl _, own0, hB0⟩
    case round =>
      clear own0 hB0 HR
      obtain ⟨wo, hwo⟩ : ∃ wo, wo = wr := ⟨_, rfl⟩
      subst hwo
      obtain ⟨i, hi, rfl, g, co, O, rfl, hm, hOl, own, hB⟩ := hrel
      have hBs := hB.size
      by_cases hlt : i < s.size
      · have hi0 : (i : Int) < (s.size : Int) := by omega
        have hby := s[i].toNat_lt
        have hwd := isWd_at hlt
        have hlow := wbI_low (n := (s[i].toNat : Int)) (by omega)
        rw [← hwd] at hlow
        have hlo2 : 0 ≤ lowI (s[i].toNat : Int) ∧ lowI (s[i].toNat : Int) ≤ 255 := by unfold lowI; split <;> omega
        clear hwd
        cases hq : isWd s i with
        | false =>
          rw [hq] at hlow
          have HM : Hid (R = O ++ wordsFrom s (i + 1) O.length) := by show _ = _; rw [hm.out, wordsFrom_skip hq hlt]
          have HOl : Hid (O.length ≤ i + 1) := by have := hOl.out; show _ ≤ _; omega
          clear hq hm hOl
          go_wp2_with fail
          refine (lower_any (s[i].toNat : Int) (by omega) (by omega) _).mono ?_
          rintro e w2 ⟨rfl, rfl⟩
          generalize lowI (s[i].toNat : Int) = l at hlow hlo2 ⊢
          go_wp2_with fail
          refine (wordByte_any l hlo2.1 hlo2.2 _).mono ?_
          rintro e w2 ⟨rfl, rfl⟩
          rw [hlow]
          go_wp2
          go_roundw
          case rel => exact ⟨i + 1, by omega, by go_num, g, co, O, rfl, HM, HOl, own, hB⟩
          case measure => simp [intOf] <;> omega
        | true =>
          rw [hq] at hlow
          have HQ := Lib.hid hq
          clear hq
          go_wp2_with fail
          refine (lower_any (s[i].toNat : Int) (by omega) (by omega) _).mono ?_
          rintro e w2 ⟨rfl, rfl⟩
          generalize lowI (s[i].toNat : Int) = l at hlow hlo2 ⊢
          have hb1 : Below wo.heap.size wo ((wo.alloc (.cells #[.string ⟨#[]⟩, .int .i64 (O.length : Int), .int .i64 (i : Int), .int .i64 0] 132)).alloc (.cells #[] 5)) := by (repeat' (first | exact Below.refl _ _ | apply Below.alloc | apply Below.setCell | apply Below.drew | apply below_draws)) <;> (first | omega | (simp <;> omega))
          have own1 := ownE_made (enc := encU) (F := 1) 5 (wo.alloc (.cells #[.string ⟨#[]⟩, .int .i64 (O.length : Int), .int .i64 (i : Int), .int .i64 0] 132)) (wo.heap.size + 1) (by simp)
          have x0 : ((wo.alloc (.cells #[.string ⟨#[]⟩, .int .i64 (O.length : Int), .int .i64 (i : Int), .int .i64 0] 132)).alloc (.cells #[] 5)).cell? ⟨wo.heap.size, 0, none⟩ = some (.string ⟨#[]⟩) := by simp [go_sem]
          have x1 : ((wo.alloc (.cells #[.string ⟨#[]⟩, .int .i64 (O.length : Int), .int .i64 (i : Int), .int .i64 0] 132)).alloc (.cells #[] 5)).cell? ⟨wo.heap.size, 1, none⟩ = some (.int .i64 (O.length : Int)) := by simp [go_sem]
          have x2 : ((wo.alloc (.cells #[.string ⟨#[]⟩, .int .i64 (O.length : Int), .int .i64 (i : Int), .int .i64 0] 132)).alloc (.cells #[] 5)).cell? ⟨wo.heap.size, 2, none⟩ = some (.int .i64 (i : Int)) := by simp [go_sem]
          have x3 : ((wo.alloc (.cells #[.string ⟨#[]⟩, .int .i64 (O.length : Int), .int .i64 (i : Int), .int .i64 0] 132)).alloc (.cells #[] 5)).cell? ⟨wo.heap.size, 3, none⟩ = some (.int .i64 0) := by simp [go_sem]
          have z0 : ∀ j, ((wo.alloc (.cells #[.string ⟨#[]⟩, .int .i64 (O.length : Int), .int .i64 (i : Int), .int .i64 0] 132)).alloc (.cells #[] 5)).frozen? ⟨wo.heap.size, j, none⟩ = false := fun j => by simp [go_sem]
          have hsz : ((wo.alloc (.cells #[.string ⟨#[]⟩, .int .i64 (O.length : Int), .int .i64 (i : Int), .int .i64 0] 132)).alloc (.cells #[] 5)).heap.size = wo.heap.size + 2 := by simp
          rw [show (wo.alloc (.cells #[.string ⟨#[]⟩, .int .i64 (O.length : Int), .int .i64 (i : Int), .int .i64 0] 132)).heap.size = wo.heap.size + 1 by simp] at own1
          go_wp2_with fail
          refine (wordByte_any l hlo2.1 hlo2.2 _).mono ?_
          rintro e w2 ⟨rfl, rfl⟩
          rw [hlow]
          clear hlow hlo2
          go_wp2_with fail
          generalize ((wo.alloc (.cells #[.string ⟨#[]⟩, .int .i64 (O.length : Int), .int .i64 (i : Int), .int .i64 0] 132)).alloc (.cells #[] 5)) = w1 at hb1 own1 x0 x1 x2 x3 z0 hsz ⊢
          go_loopw [4, 6] (fun iv tv wv => ∃ m : Nat, i ≤ m ∧ m ≤ s.size ∧ iv = .int .i64 m ∧ ∃ (g2 c2 : Nat) (T : List UInt8), tv = .slice (some ⟨g2, 0, none⟩) T.length c2 ∧ Hid (T = (txA s i (m - i)).take 12) ∧ Hid (∀ j, i ≤ j → j < m → isWd s j = true) ∧ OwnU wv (wo.heap.size + 1) g2 c2 T ∧ Below (wo.heap.size + 1) w1 wv) (fun iv _ _ => s.size - (intOf iv).toNat)
          case atStart => exact ⟨i, Nat.le_refl _, by omega, rfl, _, _, [], rfl, by show _ = _; rw [Nat.sub_self]; rfl, fun j h1 h2 => absurd h1 (by omega), own1, Below.refl _ _⟩
          case round =>
            clear own1
            obtain ⟨wv, hwv⟩ : ∃ wv, wv = wr := ⟨_, rfl⟩
            subst hwv
            obtain ⟨m, him, hms, rfl, g2, c2, T, rfl, hT, hW, ownT, hbT⟩ := hrel
            have hbTs := hbT.size
            have HTL : Hid (T.length ≤ 12) := by show _ ≤ _; rw [hT.out, List.length_take]; omega
            have htl := HTL.out
            by_cases hlm : m < s.size
            · have hm0 : (m : Int) < (s.size : Int) := by omega
              have hby := s[m].toNat_lt
              obtain ⟨b, hfb⟩ := fold_byte (s[m].toNat : Int) (by omega) (by omega)
              have hwd := isWd_at hlm
              have hlow := wbI_low (n := (s[m].toNat : Int)) (by omega)
              have hlo2 : 0 ≤ lowI (s[m].toNat : Int) ∧ lowI (s[m].toNat : Int) ≤ 255 := by unfold lowI; split <;> omega
              have hlf := lowI_fold (n := (s[m].toNat : Int))
              have HN : Hid (txA s i (m + 1 - i) = txA s i (m - i) ++ [b]) := txA_next him hlm hfb
              rw [hfb] at hwd hlow hlf
              by_cases hb0 : (b.toNat : Int) = 0
              · have HS : Hid (isWd s m = false) := by show _ = _; rw [hwd, decide_eq_false (by omega)]
                rw [decide_eq_false (by omega)] at hlow
                clear hwd HN hlf
                go_wp2_with fail
                refine (lower_any (s[m].toNat : Int) (by omega) (by omega) _).mono ?_
                rintro e w2 ⟨rfl, rfl⟩
                generalize lowI (s[m].toNat : Int) = l at hlow hlo2 ⊢
                go_wp2_with fail
                refine (wordByte_any l hlo2.1 hlo2.2 _).mono ?_
                rintro e w2 ⟨rfl, rfl⟩
                rw [hlow]
                clear hlow hlo2 hfb
                have hlt2 : i < m := by
                  rcases Nat.lt_or_ge i m with h | h
                  · exact h
                  · have h1 := HQ.out; rw [show i = m by omega, HS.out] at h1; cases h1
                have HM : Hid (R = O ++ [⟨⟨T.toArray⟩, O.length, i, m⟩] ++ wordsFrom s m (O.length + 1)) := by
                  show _ = _
                  rw [hm.out, wordsFrom_word hlt2 hW.out HS.out, ← hT.out, List.append_assoc]; rfl
                have hOl2 : O.length ≤ i := hOl.out
                have hw1s : wo.heap.size < w1.heap.size := by omega
                have y0 := (belowL hbT (show wo.heap.size < wo.heap.size + 1 by omega)).trans x0
                have y1 := (belowL hbT (show wo.heap.size < wo.heap.size + 1 by omega)).trans x1
                have y2 := (belowL hbT (show wo.heap.size < wo.heap.size + 1 by omega)).trans x2
                have y3 := (belowL hbT (show wo.heap.size < wo.heap.size + 1 by omega)).trans x3
                have yz0 := (belowZ hbT (show wo.heap.size < wo.heap.size + 1 by omega)).trans (z0 0)
                have yz3 := (belowZ hbT (show wo.heap.size < wo.heap.size + 1 by omega)).trans (z0 3)
                have hb9 : Below wo.heap.size wo wv := hb1.trans (hbT.mono (Nat.le_succ _))
                have kc := fun c' => conv_all ownT c'
                generalize htx : (⟨T.toArray⟩ : ByteArray) = tx at kc HM
                have HO : Hid (∀ u0 u3, OwnE encW 132 4 ((wv.setCell ⟨wo.heap.size, 0, none⟩ u0).setCell ⟨wo.heap.size, 3, none⟩ u3) w.heap.size g co O ∧ Below w.heap.size w ((wv.setCell ⟨wo.heap.size, 0, none⟩ u0).setCell ⟨wo.heap.size, 3, none⟩ u3)) := fun u0 u3 => by
                  have h9 : Below wo.heap.size wo ((wv.setCell ⟨wo.heap.size, 0, none⟩ u0).setCell ⟨wo.heap.size, 3, none⟩ u3) := (hb9.setCell (p := ⟨wo.heap.size, 0, none⟩) (Nat.le_refl _) _).setCell (p := ⟨wo.heap.size, 3, none⟩) (Nat.le_refl _) _
                  exact ⟨own_belowZ own h9, hB.trans (h9.mono hBs)⟩
                clear htx hm hT hW HTL own hB hOl
                have hwvs : wo.heap.size + 2 ≤ wv.heap.size := by omega
                go_wp2_with (at_builtin; refine append_rec rowTWrd encW_ok (by decide) rfl _ _ rfl w.heap.size _ _ O rfl ((HO.out _ _).1.alloc _) _ _ _ [⟨tx, O.length, i, m⟩] rfl rfl ?_ (by simp; omega) (by omega) (by simp <;> omega) ?_; exact srcE_litAt encW_ok #[.string tx, .int .i64 (O.length : Int), .int .i64 (i : Int), .int .i64 (m : Int)] [⟨tx, O.length, i, m⟩] rfl (by rfl) (by first | rfl | (simp; done)))
                intro N hN g7 c7 w7 own7 hg7 hat7 hb7
                have hB7 : Below w.heap.size w w7 := (HO.out (.string tx) (.int .i64 (m : Int))).2.trans (Below.trans (by (repeat' (first | exact Below.refl _ _ | apply Below.alloc | apply Below.setCell | apply Below.drew | apply below_draws)) <;> (first | omega | (simp <;> omega))) hb7)
                have HNL : Hid (N.length = O.length + 1) := by show _ = _; rw [hN.out, List.length_append]; rfl
                have HN : Hid (R = N ++ wordsFrom s m N.length) := by show _ = _; rw [HNL.out, hN.out, HM.out]
                have HOl3 : Hid (N.length ≤ m) := by show _ ≤ _; rw [HNL.out]; omega
                clear hN hg7 hat7 hb7 HO HM kc HNL
                go_wp2
                go_roundw
                case rel => exact ⟨m, hms, rfl, g7, c7, N, rfl, HN, HOl3, own7, hB7⟩
                case measure => simp [intOf] <;> omega
              · have HW : Hid (∀ j, i ≤ j → j < m + 1 → isWd s j = true) := fun j h1 h2 => by
                  rcases Nat.lt_or_ge j m with h3 | h3
                  · exact hW.out j h1 h3
                  · obtain rfl : j = m := by omega
                    rw [hwd]; exact decide_eq_true hb0
                rw [decide_eq_true hb0] at hlow
                have hlb := hlf hb0
                clear hwd hlf hm hW hfb
                go_wp2_with fail
                refine (lower_any (s[m].toNat : Int) (by omega) (by omega) _).mono ?_
                rintro e w2 ⟨rfl, rfl⟩
                rw [hlb] at hlow hlo2 ⊢
                go_wp2_with fail
                refine (wordByte_any (b.toNat : Int) hlo2.1 hlo2.2 _).mono ?_
                rintro e w2 ⟨rfl, rfl⟩
                rw [hlow]
                clear hlow
                by_cases h12 : T.length < 12
                · have HT2 : Hid (T ++ [b] = (txA s i (m + 1 - i)).take 12) := by
                    show _ = _
                    have hl := txA_len s i (m - i)
                    have h13 : (txA s i (m - i)).length < 12 := by
                      rw [hT.out, List.length_take] at h12; omega
                    rw [HN.out, hT.out, List.take_of_length_le (by omega), List.take_of_length_le (by simp; omega)]
                  clear hT HN
                  go_wp2_with fail
                  refine (lower_any (s[m].toNat : Int) (by omega) (by omega) _).mono ?_
                  rintro e w2 ⟨rfl, rfl⟩
                  rw [hlb]
                  clear hlb
                  go_wp2_with (at_builtin; refine append_rec rowTU encU_ok (by decide) rfl _ _ rfl (wo.heap.size + 1) _ _ T rfl (ownT.alloc _) _ _ _ [b] rfl rfl ?_ (by simp; omega) (by omega) (by simp <;> omega) ?_; exact srcE_litAt encU_ok #[.int .u8 (b.toNat : Int)] [b] rfl (by rfl) (by first | rfl | (simp; done)))
                  intro N hN g7 c7 w7 own7 hg7 hat7 hb7
                  have hb8 : Below (wo.heap.size + 1) w1 w7 := hbT.trans (Below.trans (by (repeat' (first | exact Below.refl _ _ | apply Below.alloc | apply Below.setCell | apply Below.drew | apply below_draws)) <;> (first | omega | (simp <;> omega))) hb7)
                  have HN2 : Hid (N = (txA s i (m + 1 - i)).take 12) := by show _ = _; rw [← HT2.out]; exact hN.out
                  clear hN hg7 hat7 hb7 ownT HT2 hbT
                  go_wp2
                  go_roundw
                  case rel => exact ⟨m + 1, by omega, by omega, by go_num, g7, c7, N, rfl, HN2, HW, own7, hb8⟩
                  case measure => simp [intOf] <;> omega
                · have HT2 : Hid (T = (txA s i (m + 1 - i)).take 12) := by
                    show _ = _
                    have hl := txA_len s i (m - i)
                    have h13 : 12 ≤ (txA s i (m - i)).length := by
                      rw [hT.out, List.length_take] at h12; omega
                    rw [HN.out, List.take_append_of_le_length h13]; exact hT.out
                  clear hT HN hlb
                  go_wp2
                  go_roundw
                  case rel => exact ⟨m + 1, by omega, by omega, by go_num, g2, c2, T, rfl, HT2, HW, ownT, hbT⟩
                  case measure => simp [intOf] <;> omega
            · have hm0 : ¬ (m : Int) < (s.size : Int) := by omega
              have HS : Hid (isWd s m = false) := isWd_out (by omega)
              have hlt2 : i < m := by
                rcases Nat.lt_or_ge i m with h | h
                · exact h
                · have h1 := HQ.out; rw [show i = m by omega, HS.out] at h1; cases h1
              have HM : Hid (R = O ++ [⟨⟨T.toArray⟩, O.length, i, m⟩] ++ wordsFrom s m (O.length + 1)) := by
                show _ = _
                rw [hm.out, wordsFrom_word hlt2 hW.out HS.out, ← hT.out, List.append_assoc]; rfl
              have hOl2 : O.length ≤ i := hOl.out
              have hw1s : wo.heap.size < w1.heap.size := by omega
              have y0 := (belowL hbT (show wo.heap.size < wo.heap.size + 1 by omega)).trans x0
              have y1 := (belowL hbT (show wo.heap.size < wo.heap.size + 1 by omega)).trans x1
              have y2 := (belowL hbT (show wo.heap.size < wo.heap.size + 1 by omega)).trans x2
              have y3 := (belowL hbT (show wo.heap.size < wo.heap.size + 1 by omega)).trans x3
              have yz0 := (belowZ hbT (show wo.heap.size < wo.heap.size + 1 by omega)).trans (z0 0)
              have yz3 := (belowZ hbT (show wo.heap.size < wo.heap.size + 1 by omega)).trans (z0 3)
              have hb9 : Below wo.heap.size wo wv := hb1.trans (hbT.mono (Nat.le_succ _))
              have kc := fun c' => conv_all ownT c'
              generalize htx : (⟨T.toArray⟩ : ByteArray) = tx at kc HM
              have HO : Hid (∀ u0 u3, OwnE encW 132 4 ((wv.setCell ⟨wo.heap.size, 0, none⟩ u0).setCell ⟨wo.heap.size, 3, none⟩ u3) w.heap.size g co O ∧ Below w.heap.size w ((wv.setCell ⟨wo.heap.size, 0, none⟩ u0).setCell ⟨wo.heap.size, 3, none⟩ u3)) := fun u0 u3 => by
                have h9 : Below wo.heap.size wo ((wv.setCell ⟨wo.heap.size, 0, none⟩ u0).setCell ⟨wo.heap.size, 3, none⟩ u3) := (hb9.setCell (p := ⟨wo.heap.size, 0, none⟩) (Nat.le_refl _) _).setCell (p := ⟨wo.heap.size, 3, none⟩) (Nat.le_refl _) _
                exact ⟨own_belowZ own h9, hB.trans (h9.mono hBs)⟩
              clear htx hm hT hW HTL own hB hOl
              have hwvs : wo.heap.size + 2 ≤ wv.heap.size := by omega
              go_wp2_with (at_builtin; refine append_rec rowTWrd encW_ok (by decide) rfl _ _ rfl w.heap.size _ _ O rfl ((HO.out _ _).1.alloc _) _ _ _ [⟨tx, O.length, i, m⟩] rfl rfl ?_ (by simp; omega) (by omega) (by simp <;> omega) ?_; exact srcE_litAt encW_ok #[.string tx, .int .i64 (O.length : Int), .int .i64 (i : Int), .int .i64 (m : Int)] [⟨tx, O.length, i, m⟩] rfl (by rfl) (by first | rfl | (simp; done)))
              intro N hN g7 c7 w7 own7 hg7 hat7 hb7
              have hB7 : Below w.heap.size w w7 := (HO.out (.string tx) (.int .i64 (m : Int))).2.trans (Below.trans (by (repeat' (first | exact Below.refl _ _ | apply Below.alloc | apply Below.setCell | apply Below.drew | apply below_draws)) <;> (first | omega | (simp <;> omega))) hb7)
              have HNL : Hid (N.length = O.length + 1) := by show _ = _; rw [hN.out, List.length_append]; rfl
              have HN : Hid (R = N ++ wordsFrom s m N.length) := by show _ = _; rw [HNL.out, hN.out, HM.out]
              have HOl3 : Hid (N.length ≤ m) := by show _ ≤ _; rw [HNL.out]; omega
              clear hN hg7 hat7 hb7 HO HM kc HNL
              go_wp2
              go_roundw
              case rel => exact ⟨m, hms, rfl, g7, c7, N, rfl, HN, HOl3, own7, hB7⟩
              case measure => simp [intOf] <;> omega
      · have hend : ¬ i < s.size := hlt
        have HE : Hid (O = R) := by show _ = _; rw [hm.out, wordsFrom_end hend, List.append_nil]
        clear hm
        have := HE.out
        subst this
        go_wp2
        go_ret
        exact ⟨g, co, ⟨rfl, own⟩, hB⟩
end Go.Proofs.YtaobgliimbmemaaDoor
