/-
  What SnipTerms answers: the plain laws, the contracts, in one text.
-/
import Derived.Test.YtaobgliimbmemaaDoorPutS
import Derived.Sort.Walk0
import Derived.Deep.RegionHeld3
import Derived.Test.YtaobgliimbmemaaDoorSpecTm
import Derived.Test.YtaobgliimbmemaaDoorTermsOf
import Derived.Maps.OwnOps
import Derived.Maps.OwnSet
import Derived.Maps.Views
import Derived.StringKeys
import Derived.Maps.RangeWalk
import Derived.Carry
import Derived.Test.YtaobgliimbmemaaDoorNodeOk2
import Derived.Sort.OwnSorted
import Derived.Test.YtaobgliimbmemaaDoorShelf
import Derived.Test.YtaobgliimbmemaaDoorSpecQ2
set_option linter.unusedVariables false
set_option linter.unusedSimpArgs false
namespace Go.Proofs.YtaobgliimbmemaaDoor
open Go.RowKit Go.Sort

theorem ltS_lt (a b : ByteArray) : ltS a b = decide (a.data.toList < b.data.toList) := by
  unfold ltS
  rw [bytesLess_eq, Lib.toList_data, Lib.toList_data]
theorem ltS_true {a b : ByteArray} : ltS a b = true ↔ a.data.toList < b.data.toList := by rw [ltS_lt, decide_eq_true_eq]
theorem tx_trans {a b c : Tx} (h : a < b) (h2 : b < c) : a < c := List.lt_trans h h2
theorem tx_irr (a : Tx) : ¬ a < a := List.lt_irrefl a
theorem tx_tri {a b : Tx} (h : ¬ a < b) : a = b ∨ b < a := by
  have := less_total a b
  rw [bytesLess_eq, bytesLess_eq, decide_eq_false h, Bool.not_false, Bool.or_eq_true, decide_eq_true_eq, beq_iff_eq] at this
  rcases this with h | h
  · exact .inr h
  · exact .inl h.symm
theorem ba_eq {a b : ByteArray} (h : a.data.toList = b.data.toList) : a = b := ByteArray.ext (Array.toList_inj.1 h)
theorem ltS_irr (a : ByteArray) : ltS a a = false := by rw [ltS_lt]; exact decide_eq_false (tx_irr _)
theorem ltS_trans {a b c : ByteArray} (h : ltS a b = true) (h2 : ltS b c = true) : ltS a c = true := by rw [ltS_true] at *; exact tx_trans h h2
theorem ltS_tri {a b : ByteArray} (h : ltS a b = false) (hne : a ≠ b) : ltS b a = true := by
  rw [ltS_lt] at h
  rcases tx_tri (of_decide_eq_false h) with h2 | h2
  · exact absurd (ba_eq h2) hne
  · exact ltS_true.2 h2
theorem ltS_asym {a b : ByteArray} (h : ltS a b = true) : ltS b a = false := by
  cases h2 : ltS b a with
  | false => rfl
  | true => have := ltS_trans h h2; rw [ltS_irr] at this; cases this
/-- one text among others, in order, each once. -/
def putT (s : ByteArray) : List ByteArray → List ByteArray
  | [] => [s]
  | x :: r => if ltS x s = true then x :: putT s r else if x = s then x :: r else s :: x :: r
def AscT (L : List ByteArray) : Prop := L.Pairwise (fun a b => ltS a b = true)
theorem putT_old : ∀ {L : List ByteArray} {k : Nat} {s : ByteArray}, (∀ j, (hj : j < L.length) → j < k → ltS L[j] s = true) → (hk : k < L.length) → L[k] = s → putT s L = L
  | x :: r, 0, s, _, _, h2 => by
    obtain rfl : x = s := h2
    rw [putT, ltS_irr, if_neg (by simp), if_pos rfl]
  | x :: r, k + 1, s, h1, hk, h2 => by
    have hx : ltS x s = true := h1 0 (by simp) (by omega)
    rw [putT, if_pos hx, putT_old (k := k) (fun j hj hjk => h1 (j + 1) (by simpa using hj) (by omega)) (by simpa using hk) h2]
theorem putT_new : ∀ {L : List ByteArray} {k : Nat} {s : ByteArray}, (∀ j, (hj : j < L.length) → j < k → ltS L[j] s = true) → k ≤ L.length → (∀ hk : k < L.length, ltS L[k] s = false ∧ L[k] ≠ s) → putT s L = L.take k ++ [s] ++ L.drop k
  | [], k, s, _, hk, _ => by simp at hk; subst hk; rfl
  | x :: r, 0, s, _, _, h2 => by
    have hx := h2 (by simp)
    simp only [List.getElem_cons_zero] at hx
    rw [putT, if_neg (by rw [hx.1]; simp), if_neg hx.2]
    rfl
  | x :: r, k + 1, s, h1, hk, h2 => by
    have hx : ltS x s = true := h1 0 (by simp) (by omega)
    rw [putT, if_pos hx, putT_new (k := k) (fun j hj hjk => h1 (j + 1) (by simpa using hj) (by omega)) (by simpa using hk) (fun hk' => h2 (by simpa using hk'))]
    simp
theorem mem_putT (s x : ByteArray) : ∀ L : List ByteArray, x ∈ putT s L ↔ x = s ∨ x ∈ L
  | [] => by simp [putT]
  | y :: r => by
    rw [putT]
    split
    · rw [List.mem_cons, mem_putT s x r, List.mem_cons]
      constructor
      · rintro (h | h | h)
        · exact .inr (.inl h)
        · exact .inl h
        · exact .inr (.inr h)
      · rintro (h | h | h)
        · exact .inr (.inl h)
        · exact .inl h
        · exact .inr (.inr h)
    · split
      · rename_i _ h
        subst h
        simp
      · simp
theorem putT_asc (s : ByteArray) : ∀ L : List ByteArray, AscT L → AscT (putT s L)
  | [], _ => List.pairwise_singleton _ _
  | y :: r, h => by
    have hp := List.pairwise_cons.1 h
    rw [putT]
    split
    · rename_i hy
      refine List.pairwise_cons.2 ⟨fun x hx => ?_, putT_asc s r hp.2⟩
      rcases (mem_putT s x r).1 hx with rfl | hx
      · exact hy
      · exact hp.1 x hx
    · split
      · exact h
      · rename_i hy hne
        have hsy := ltS_tri (Bool.eq_false_iff.2 hy) hne
        refine List.pairwise_cons.2 ⟨fun x hx => ?_, h⟩
        rcases List.mem_cons.1 hx with rfl | hx
        · exact hsy
        · exact ltS_trans hsy (hp.1 x hx)
theorem putT_len (s : ByteArray) : ∀ L : List ByteArray, (putT s L).length ≤ L.length + 1
  | [] => by simp [putT]
  | y :: r => by
    have := putT_len s r
    rw [putT]
    split
    · simp only [List.length_cons]; omega
    · split <;> simp
/-- all put, one by one. -/
def putsT (O M : List ByteArray) : List ByteArray := M.foldl (fun o s => putT s o) O
theorem putsT_snoc (O M : List ByteArray) (s : ByteArray) : putsT O (M ++ [s]) = putT s (putsT O M) := by unfold putsT; rw [List.foldl_append]; rfl
theorem mem_putsT (x : ByteArray) : ∀ (M O : List ByteArray), x ∈ putsT O M ↔ x ∈ M ∨ x ∈ O
  | [], O => by simp [putsT]
  | s :: M, O => by
    have := mem_putsT x M (putT s O)
    unfold putsT at this ⊢
    rw [List.foldl_cons, this, mem_putT, List.mem_cons]
    constructor
    · rintro (h | h | h)
      · exact .inl (.inr h)
      · exact .inl (.inl h)
      · exact .inr h
    · rintro ((h | h) | h)
      · exact .inr (.inl h)
      · exact .inl h
      · exact .inr (.inr h)
theorem putsT_asc : ∀ (M O : List ByteArray), AscT O → AscT (putsT O M)
  | [], O, h => h
  | s :: M, O, h => putsT_asc M (putT s O) (putT_asc s O h)
theorem putsT_len : ∀ (M O : List ByteArray), (putsT O M).length ≤ O.length + M.length
  | [], O => by simp [putsT]
  | s :: M, O => by
    have h1 := putsT_len M (putT s O)
    have h2 := putT_len s O
    have h3 : putsT O (s :: M) = putsT (putT s O) M := rfl
    rw [h3, List.length_cons]
    omega
/-- two lists that ascend and hold the same are one. -/
theorem asc_one : ∀ {A B : List ByteArray}, AscT A → AscT B → (∀ x, x ∈ A ↔ x ∈ B) → A = B
  | [], [], _, _, _ => rfl
  | [], y :: s, _, _, h => absurd ((h y).2 (by simp)) (by simp)
  | x :: r, [], _, _, h => absurd ((h x).1 (by simp)) (by simp)
  | x :: r, y :: s, ha, hb, h => by
    have hp := List.pairwise_cons.1 ha
    have hq := List.pairwise_cons.1 hb
    have hxy : x = y := by
      rcases List.mem_cons.1 ((h x).1 (by simp)) with e | h1
      · exact e
      · rcases List.mem_cons.1 ((h y).2 (by simp)) with e | h2
        · exact e.symm
        · have h3 := hq.1 x h1
          have h4 := hp.1 y h2
          rw [ltS_asym h3] at h4
          cases h4
    subst hxy
    congr 1
    refine asc_one hp.2 hq.2 (fun z => ⟨fun hz => ?_, fun hz => ?_⟩)
    · rcases List.mem_cons.1 ((h z).1 (List.mem_cons_of_mem _ hz)) with rfl | h1
      · have := hp.1 z hz; rw [ltS_irr] at this; cases this
      · exact h1
    · rcases List.mem_cons.1 ((h z).2 (List.mem_cons_of_mem _ hz)) with rfl | h1
      · have := hq.1 z hz; rw [ltS_irr] at this; cases this
      · exact h1
/-- sorted: the kit's order on the bytes. -/
def sortT (K : List ByteArray) : List ByteArray := ((K.map (·.data.toList)).mergeSort fun x y => decide (x ≤ y)).map tb
theorem tb_data (s : ByteArray) : tb s.data.toList = s := by apply ByteArray.ext; simp [tb]
theorem sortT_perm (K : List ByteArray) : (sortT K).Perm K := by
  unfold sortT
  have h := (List.mergeSort_perm (K.map (·.data.toList)) (fun x y => decide (x ≤ y))).map tb
  rw [List.map_map] at h
  have e : K.map (tb ∘ fun x => x.data.toList) = K := by
    conv => rhs; rw [← List.map_id K]
    exact List.map_congr_left (fun s _ => tb_data s)
  rw [e] at h
  exact h
theorem sortT_asc {K : List ByteArray} (hn : K.Nodup) : AscT (sortT K) := by
  have hs : ((K.map (·.data.toList)).mergeSort fun x y => decide (x ≤ y)).Pairwise (fun a b => decide (a ≤ b) = true) := by
    refine List.pairwise_mergeSort (fun a b c h1 h2 => ?_) (fun a b => ?_) _
    · rw [decide_eq_true_eq] at *; exact List.le_trans h1 h2
    · rw [Bool.or_eq_true, decide_eq_true_eq, decide_eq_true_eq]; exact List.le_total a b
  have hd : (sortT K).Nodup := (sortT_perm K).nodup_iff.2 hn
  unfold sortT at hd ⊢
  unfold AscT
  have h1 : ((((K.map (·.data.toList)).mergeSort fun x y => decide (x ≤ y)).map tb).Pairwise (fun a b => decide (a.data.toList ≤ b.data.toList) = true)) := by
    rw [List.pairwise_map]
    refine hs.imp ?_
    intro a b h
    rw [tb_list, tb_list]
    exact h
  refine (hd.and h1).imp ?_
  intro a b ⟨hne, hle⟩
  rw [decide_eq_true_eq] at hle
  refine ltS_true.2 ?_
  refine Classical.byContradiction fun h => ?_
  rcases tx_tri h with e | h2
  · exact hne (ba_eq e)
  · exact hle h2
theorem sortT_one {K M : List ByteArray} (hn : K.Nodup) (hM : AscT M) (h : ∀ x, x ∈ K ↔ x ∈ M) : sortT K = M :=
  asc_one (sortT_asc hn) hM (fun x => ((sortT_perm K).mem_iff).trans (h x))
end Go.Proofs.YtaobgliimbmemaaDoor
namespace Go.Proofs.YtaobgliimbmemaaDoor
open Go.RowKit Go.Sort

/-- texts that can be read, and handed on. -/
def PutR (M : List ByteArray) (w : World) (e : Ending) (w' : World) : Prop := ∃ A c, (e = .returned (.slice A M.length c) ∧ SrcQ w' A c M) ∧ Below w.heap.size w w'
theorem PutR.mk {M L : List ByteArray} {w w' : World} {A : Option Addr} {c : Nat} {e : Ending} (hb : Below w.heap.size w w') (he : e = .returned (.slice A L.length c)) (h : SrcQ w' A c L) (hM : M = L) : PutR M w e w' := by
  subst hM; exact ⟨A, c, ⟨he, h⟩, hb⟩
theorem str_ne {a b : ByteArray} (h : a ≠ b) : (a.toList == b.toList) = false := by
  rw [beq_eq_false_iff_ne]; exact fun e => h (bytes_ext e)
theorem srcE_someT (w : World) (ad : Addr) (c : Nat) : SrcT w (some ad) c [] := ⟨⟨by simp, fun h => by simp at h⟩, .inr ⟨_, rfl⟩⟩
set_option maxHeartbeats 1600000 in
theorem l7Put_any (A : Option Addr) (c : Nat) (L : List ByteArray) (s : ByteArray) (w : World) (h : SrcQ w A c L) (hn : L.length ≤ 1048576) :
    Calls Tryd.prog 91 #[.slice A L.length c, .string s] w (PutR (putT s L) w) := by
  obtain ⟨R, hR⟩ : ∃ R, R = putT s L := ⟨_, rfl⟩
  rw [← hR]
  have HR := Lib.hid hR
  clear hR
  have hcap := h.2.1
  have hcm : c ≤ 9223372036854775807 := h.2.2
  go_enter Tryd.func91, Tryd.ntmps91
  go_wp2_with fail
  go_loopw [5] (fun iv wr => ∃ k : Nat, k ≤ L.length ∧ iv = .int .i64 k ∧ Hid (∀ j, (hj : j < L.length) → j < k → ltS L[j] s = true) ∧ Below w.heap.size w wr) (fun iv _ => L.length - (intOf iv).toNat)
  case atStart => exact ⟨0, Nat.zero_le _, rfl, fun j hj hk => by omega, Below.refl _ _⟩
  case round =>
    obtain ⟨k, hk, rfl, hlo, hB⟩ := hrel
    have hBs := hB.size
    have hr := h.below hB
    by_cases hlt : k < L.length
    · obtain ⟨b, off, rfl, hb, x0⟩ := hr.1.atT hlt
      have hi0 : (k : Int) < (L.length : Int) := by omega
      have hkc : k ≤ c := by omega
      cases hls : ltS L[k] s with
      | true =>
        have HLO : Hid (∀ j, (hj : j < L.length) → j < k + 1 → ltS L[j] s = true) := fun j hj hjk => by
          rcases Nat.lt_or_eq_of_le (Nat.le_of_lt_succ hjk) with h2 | rfl
          · exact hlo.out j hj h2
          · exact hls
        have hlw : Op.bytesLess L[k].toList s.toList = true := hls
        clear hlo hls
        generalize L[k] = x at x0 hlw
        go_wp2
        go_roundw
        case rel => exact ⟨k + 1, by omega, by go_num, HLO, hB⟩
        case measure => simp [intOf]; omega
      | false =>
        have hlw : Op.bytesLess L[k].toList s.toList = false := hls
        by_cases he : L[k] = s
        · have HQ := Lib.hid (putT_old hlo.out hlt he)
          clear hlo hls
          rw [he] at x0 hlw
          clear he
          go_wp2
          go_ret
          exact PutR.mk hB rfl hr (by rw [HR.out, HQ.out])
        · have hne := str_ne he
          have HQ : Hid (putT s L = L.take k ++ [s] ++ L.drop k) := putT_new hlo.out hk (fun _ => ⟨hls, he⟩)
          clear hlo hls he
          have hT : SrcT wr (some ⟨b, off, none⟩) c (L.take k) := hr.1.take encT_ok hk
          have hD : SrcT wr (some ⟨b, off + k, none⟩) (c - k) (L.drop k) := hr.1.drop encT_ok (Nat.mul_one k).symm
          have hXl : Hid (k = (L.take k).length) := by show _ = _; rw [List.length_take, Nat.min_eq_left hk]
          have hYl : Hid (L.length - k = (L.drop k).length) := by show _ = _; rw [List.length_drop]
          generalize L[k] = x at x0 hlw hne
          generalize L.take k = X at hT hXl HQ
          generalize L.drop k = Y at hD hYl HQ
          rcases Nat.eq_zero_or_pos k with rfl | hk0
          all_goals
            try simp only [Nat.add_zero, Nat.sub_zero] at x0 hD
            have own0 := ownE_made (enc := encT) (F := 1) 9 wr wr.heap.size (Nat.le_refl _)
            go_wp2_with (at_builtin; refine append_rec rowTStr encT_ok (by decide) rfl _ _ rfl wr.heap.size _ _ [] rfl own0 _ _ _ X hXl.out rfl (hT.below (by (repeat' (first | exact Below.refl _ _ | apply Below.alloc | apply Below.setCell | apply Below.drew | apply below_draws)) <;> (first | omega | (simp <;> omega)))) (by simp; have := hXl.out; omega) (by omega) (by simp <;> omega) ?_)
            intro L1 hL1 g1 c1 w1 own1 hg1 hat1 hb1
            obtain rfl : L1 = X := hL1.out
            have hB1 : Below wr.heap.size wr w1 := Below.trans (by (repeat' (first | exact Below.refl _ _ | apply Below.alloc | apply Below.setCell | apply Below.drew | apply below_draws)) <;> (first | omega | (simp <;> omega))) hb1
            clear hb1 hL1 hg1 hat1
            have hs1 := hB1.size
            go_wp2_with (at_builtin; refine append_rec rowTStr encT_ok (by decide) rfl _ _ rfl wr.heap.size _ _ L1 rfl (own1.alloc _) _ _ _ [s] rfl rfl (SrcE.lit encT_ok _ _ #[.string s] [s] rfl 1) (by simp; have := hXl.out; omega) (by omega) (by simp <;> omega) ?_)
            intro L2 hL2 g2 c2 w2 own2 hg2 hat2 hb2
            have hB2 : Below wr.heap.size wr w2 := hB1.trans (Below.trans (by (repeat' (first | exact Below.refl _ _ | apply Below.alloc | apply Below.setCell | apply Below.drew | apply below_draws)) <;> (first | omega | (simp <;> omega))) hb2)
            clear hb2 hg2 hat2
            have hs2 := hB2.size
            have hl2 : Hid (L2.length = L1.length + 1) := by show _ = _; rw [hL2.out]; simp
            go_wp2_with (at_builtin; refine append_rec rowTStr encT_ok (by decide) rfl _ _ rfl wr.heap.size _ _ L2 rfl own2 _ _ _ Y hYl.out rfl (hD.below hB2) (by have := hXl.out; have := hl2.out; have := hYl.out; omega) (by omega) (by omega) ?_)
            intro N hN g3 c3 w3 own3 hg3 hat3 hb3
            have HN : R = N := by have e1 := hN.out; have e2 := hL2.out; have e3 := HQ.out; rw [HR.out, e3, e1, e2]; try simp
            have hB3 : Below wr.heap.size wr w3 := hB2.trans hb3
            have hc3 := own3.capOk
            have hsrc : SrcQ w3 (some ⟨g3, 0, none⟩) c3 N := ⟨own3.src, hc3.1, hc3.2.1⟩
            clear hb3 hg3 hat3 hN hL2 own3 hc3
            go_wp2
            go_ret
            exact PutR.mk (hB.trans (hB3.mono hBs)) rfl hsrc HN
    · obtain rfl : k = L.length := by omega
      have HQ0 : putT s L = L.take L.length ++ [s] ++ L.drop L.length := putT_new hlo.out hk (fun h => by omega)
      rw [List.take_length, List.drop_length] at HQ0
      have hi0 : ¬ (L.length : Int) < (L.length : Int) := by omega
      clear hlo
      obtain ⟨X, hX⟩ : ∃ X, X = L := ⟨_, rfl⟩
      have hT : SrcT wr A c X := by rw [hX]; exact hr.1
      have hXl : Hid (L.length = X.length) := by show _ = _; rw [hX]
      have HQ : Hid (putT s L = X ++ [s] ++ []) := by show _ = _; rw [HQ0, hX]
      clear HQ0 hX
      by_cases hL0 : L.length = 0
      · obtain rfl : L = [] := List.length_eq_zero_iff.1 hL0
        clear hL0
        simp only [List.length_nil] at *
        rcases hr.1.2 with ⟨rfl, rfl⟩ | ⟨ad, rfl⟩
        all_goals
          have own0 := ownE_made (enc := encT) (F := 1) 9 wr wr.heap.size (Nat.le_refl _)
          go_wp2_with (at_builtin; refine append_rec rowTStr encT_ok (by decide) rfl _ _ rfl wr.heap.size _ _ [] rfl own0 _ _ _ X hXl.out rfl (hT.below (by (repeat' (first | exact Below.refl _ _ | apply Below.alloc | apply Below.setCell | apply Below.drew | apply below_draws)) <;> (first | omega | (simp <;> omega)))) (by simp; have := hXl.out; omega) (by omega) (by simp <;> omega) ?_)
          intro L1 hL1 g1 c1 w1 own1 hg1 hat1 hb1
          obtain rfl : L1 = X := hL1.out
          have hB1 : Below wr.heap.size wr w1 := Below.trans (by (repeat' (first | exact Below.refl _ _ | apply Below.alloc | apply Below.setCell | apply Below.drew | apply below_draws)) <;> (first | omega | (simp <;> omega))) hb1
          clear hb1 hL1 hg1 hat1
          have hs1 := hB1.size
          go_wp2_with (at_builtin; refine append_rec rowTStr encT_ok (by decide) rfl _ _ rfl wr.heap.size _ _ L1 rfl (own1.alloc _) _ _ _ [s] rfl rfl (SrcE.lit encT_ok _ _ #[.string s] [s] rfl 1) (by simp; have := hXl.out; omega) (by omega) (by simp <;> omega) ?_)
          intro L2 hL2 g2 c2 w2 own2 hg2 hat2 hb2
          have hB2 : Below wr.heap.size wr w2 := hB1.trans (Below.trans (by (repeat' (first | exact Below.refl _ _ | apply Below.alloc | apply Below.setCell | apply Below.drew | apply below_draws)) <;> (first | omega | (simp <;> omega))) hb2)
          clear hb2 hg2 hat2
          have hs2 := hB2.size
          have hl2 : Hid (L2.length = L1.length + 1) := by show _ = _; rw [hL2.out]; simp
          go_wp2_with (at_builtin; refine append_rec rowTStr encT_ok (by decide) rfl _ _ rfl wr.heap.size _ _ L2 rfl own2 _ _ _ [] (by simp) rfl (by first | exact SrcE.nil_ _ 0 | exact srcE_someT _ _ _) (by have := hXl.out; have := hl2.out; simp; omega) (by omega) (by omega) ?_)
          intro N hN g3 c3 w3 own3 hg3 hat3 hb3
          have HN : R = N := by have e1 := hN.out; have e2 := hL2.out; have e3 := HQ.out; rw [HR.out, e3, e1, e2]; try simp
          have hB3 : Below wr.heap.size wr w3 := hB2.trans hb3
          have hc3 := own3.capOk
          have hsrc : SrcQ w3 (some ⟨g3, 0, none⟩) c3 N := ⟨own3.src, hc3.1, hc3.2.1⟩
          clear hb3 hg3 hat3 hN hL2 own3 hc3
          go_wp2
          go_ret
          exact PutR.mk (hB.trans (hB3.mono hBs)) rfl hsrc HN
      · obtain ⟨b, off, rfl, _⟩ := hr.1.1.2 (by omega)
        by_cases hcc : c = L.length
        · subst hcc
          have own0 := ownE_made (enc := encT) (F := 1) 9 wr wr.heap.size (Nat.le_refl _)
          go_wp2_with (at_builtin; refine append_rec rowTStr encT_ok (by decide) rfl _ _ rfl wr.heap.size _ _ [] rfl own0 _ _ _ X hXl.out rfl (hT.below (by (repeat' (first | exact Below.refl _ _ | apply Below.alloc | apply Below.setCell | apply Below.drew | apply below_draws)) <;> (first | omega | (simp <;> omega)))) (by simp; have := hXl.out; omega) (by omega) (by simp <;> omega) ?_)
          intro L1 hL1 g1 c1 w1 own1 hg1 hat1 hb1
          obtain rfl : L1 = X := hL1.out
          have hB1 : Below wr.heap.size wr w1 := Below.trans (by (repeat' (first | exact Below.refl _ _ | apply Below.alloc | apply Below.setCell | apply Below.drew | apply below_draws)) <;> (first | omega | (simp <;> omega))) hb1
          clear hb1 hL1 hg1 hat1
          have hs1 := hB1.size
          go_wp2_with (at_builtin; refine append_rec rowTStr encT_ok (by decide) rfl _ _ rfl wr.heap.size _ _ L1 rfl (own1.alloc _) _ _ _ [s] rfl rfl (SrcE.lit encT_ok _ _ #[.string s] [s] rfl 1) (by simp; have := hXl.out; omega) (by omega) (by simp <;> omega) ?_)
          intro L2 hL2 g2 c2 w2 own2 hg2 hat2 hb2
          have hB2 : Below wr.heap.size wr w2 := hB1.trans (Below.trans (by (repeat' (first | exact Below.refl _ _ | apply Below.alloc | apply Below.setCell | apply Below.drew | apply below_draws)) <;> (first | omega | (simp <;> omega))) hb2)
          clear hb2 hg2 hat2
          have hs2 := hB2.size
          have hl2 : Hid (L2.length = L1.length + 1) := by show _ = _; rw [hL2.out]; simp
          go_wp2_with (at_builtin; refine append_rec rowTStr encT_ok (by decide) rfl _ _ rfl wr.heap.size _ _ L2 rfl own2 _ _ _ [] (by simp) rfl (srcE_someT _ _ _) (by have := hXl.out; have := hl2.out; simp; omega) (by omega) (by omega) ?_)
          intro N hN g3 c3 w3 own3 hg3 hat3 hb3
          have HN : R = N := by have e1 := hN.out; have e2 := hL2.out; have e3 := HQ.out; rw [HR.out, e3, e1, e2]; try simp
          have hB3 : Below wr.heap.size wr w3 := hB2.trans hb3
          have hc3 := own3.capOk
          have hsrc : SrcQ w3 (some ⟨g3, 0, none⟩) c3 N := ⟨own3.src, hc3.1, hc3.2.1⟩
          clear hb3 hg3 hat3 hN hL2 own3 hc3
          go_wp2
          go_ret
          exact PutR.mk (hB.trans (hB3.mono hBs)) rfl hsrc HN
        · skip
          have own0 := ownE_made (enc := encT) (F := 1) 9 wr wr.heap.size (Nat.le_refl _)
          go_wp2_with (at_builtin; refine append_rec rowTStr encT_ok (by decide) rfl _ _ rfl wr.heap.size _ _ [] rfl own0 _ _ _ X hXl.out rfl (hT.below (by (repeat' (first | exact Below.refl _ _ | apply Below.alloc | apply Below.setCell | apply Below.drew | apply below_draws)) <;> (first | omega | (simp <;> omega)))) (by simp; have := hXl.out; omega) (by omega) (by simp <;> omega) ?_)
          intro L1 hL1 g1 c1 w1 own1 hg1 hat1 hb1
          obtain rfl : L1 = X := hL1.out
          have hB1 : Below wr.heap.size wr w1 := Below.trans (by (repeat' (first | exact Below.refl _ _ | apply Below.alloc | apply Below.setCell | apply Below.drew | apply below_draws)) <;> (first | omega | (simp <;> omega))) hb1
          clear hb1 hL1 hg1 hat1
          have hs1 := hB1.size
          go_wp2_with (at_builtin; refine append_rec rowTStr encT_ok (by decide) rfl _ _ rfl wr.heap.size _ _ L1 rfl (own1.alloc _) _ _ _ [s] rfl rfl (SrcE.lit encT_ok _ _ #[.string s] [s] rfl 1) (by simp; have := hXl.out; omega) (by omega) (by simp <;> omega) ?_)
          intro L2 hL2 g2 c2 w2 own2 hg2 hat2 hb2
          have hB2 : Below wr.heap.size wr w2 := hB1.trans (Below.trans (by (repeat' (first | exact Below.refl _ _ | apply Below.alloc | apply Below.setCell | apply Below.drew | apply below_draws)) <;> (first | omega | (simp <;> omega))) hb2)
          clear hb2 hg2 hat2
          have hs2 := hB2.size
          have hl2 : Hid (L2.length = L1.length + 1) := by show _ = _; rw [hL2.out]; simp
          go_wp2_with (at_builtin; refine append_rec rowTStr encT_ok (by decide) rfl _ _ rfl wr.heap.size _ _ L2 rfl own2 _ _ _ [] (by simp) rfl (srcE_someT _ _ _) (by have := hXl.out; have := hl2.out; simp; omega) (by omega) (by omega) ?_)
          intro N hN g3 c3 w3 own3 hg3 hat3 hb3
          have HN : R = N := by have e1 := hN.out; have e2 := hL2.out; have e3 := HQ.out; rw [HR.out, e3, e1, e2]; try simp
          have hB3 : Below wr.heap.size wr w3 := hB2.trans hb3
          have hc3 := own3.capOk
          have hsrc : SrcQ w3 (some ⟨g3, 0, none⟩) c3 N := ⟨own3.src, hc3.1, hc3.2.1⟩
          clear hb3 hg3 hat3 hN hL2 own3 hc3
          go_wp2
          go_ret
          exact PutR.mk (hB.trans (hB3.mono hBs)) rfl hsrc HN
end Go.Proofs.YtaobgliimbmemaaDoor
namespace Go.Proofs.YtaobgliimbmemaaDoor
open Go.RowKit Go.Sort

/-- the terms of a node's own words. -/
def termTx (d : ConfD) (q : QD) : List ByteArray := (termsB d (tb (joinT [32] q.ws))).map (·.1)
def askW (q : QD) : Bool := decide (q.kd = 2) || decide (q.kd = 3)
def kidsG (q : QD) : List QD := if q.kd = 9 then q.ks.take 1 else q.ks
/-- as the rule puts them. -/
def spec17 (d : ConfD) : Nat → QD → List ByteArray
  | 0, _ => []
  | m + 1, q => if askW q = true then putsT [] (termTx d q) else (kidsG q).foldl (fun o k => putsT o (spec17 d m k)) []
/-- as the program gathers them. -/
def gathL (d : ConfD) : Nat → QD → List ByteArray
  | 0, _ => []
  | m + 1, q => (if askW q = true then termTx d q else []) ++ (kidsG q).flatMap (gathL d m)
theorem foldP_mem (f : QD → List ByteArray) (x : ByteArray) : ∀ (ks : List QD) (O : List ByteArray), x ∈ ks.foldl (fun o k => putsT o (f k)) O ↔ (∃ k ∈ ks, x ∈ f k) ∨ x ∈ O
  | [], O => by simp
  | k :: r, O => by
    rw [List.foldl_cons, foldP_mem f x r, mem_putsT]
    constructor
    · rintro (⟨y, hy, h⟩ | h | h)
      · exact .inl ⟨y, List.mem_cons_of_mem _ hy, h⟩
      · exact .inl ⟨k, by simp, h⟩
      · exact .inr h
    · rintro (⟨y, hy, h⟩ | h)
      · rcases List.mem_cons.1 hy with rfl | hy
        · exact .inr (.inl h)
        · exact .inl ⟨y, hy, h⟩
      · exact .inr (.inr h)
theorem foldP_asc (f : QD → List ByteArray) : ∀ (ks : List QD) (O : List ByteArray), AscT O → AscT (ks.foldl (fun o k => putsT o (f k)) O)
  | [], O, h => h
  | k :: r, O, h => foldP_asc f r _ (putsT_asc _ _ h)
theorem foldP_len (f : QD → List ByteArray) (M : Nat) : ∀ (ks : List QD) (O : List ByteArray), (∀ k ∈ ks, (f k).length ≤ M) → (ks.foldl (fun o k => putsT o (f k)) O).length ≤ O.length + M * ks.length
  | [], O, _ => by simp
  | k :: r, O, h => by
    have h1 := foldP_len f M r (putsT O (f k)) (fun y hy => h y (List.mem_cons_of_mem _ hy))
    have h2 := putsT_len (f k) O
    have h3 := h k (by simp)
    rw [List.foldl_cons, List.length_cons, Nat.mul_add]
    omega
theorem kidsG_sub {q k : QD} (h : k ∈ kidsG q) : k ∈ q.ks := by
  unfold kidsG at h
  split at h
  · exact List.mem_of_mem_take h
  · exact h
theorem spec17_asc (d : ConfD) : ∀ (m : Nat) (q : QD), AscT (spec17 d m q)
  | 0, _ => List.Pairwise.nil
  | m + 1, q => by
    rw [spec17]
    split
    · exact putsT_asc _ _ List.Pairwise.nil
    · exact foldP_asc _ _ _ List.Pairwise.nil
/-- a node of words has no kids. -/
theorem ask_bare {q : QD} (h : oneB q = true) (ha : askW q = true) : q.ks = [] ∧ (∀ w ∈ q.ws, wordB w = true) ∧ 1 ≤ q.ws.length ∧ q.ws.length ≤ 4 := by
  unfold askW at ha
  rw [Bool.or_eq_true, decide_eq_true_eq, decide_eq_true_eq] at ha
  unfold oneB at h
  have hk : q.kd = 2 ∨ q.kd = 3 := ha
  rcases hk with hk | hk
  · rw [if_neg (by omega), if_pos hk, Bool.and_eq_true, Bool.and_eq_true] at h
    have h1 := h.1
    have h2 := h.2.2
    unfold bareB at h1
    unfold wsB at h2
    simp only [Bool.and_eq_true, Bool.or_eq_true, decide_eq_true_eq, Bool.true_or, true_and, Bool.false_or, List.all_eq_true, wi_true] at h1 h2
    exact ⟨List.length_eq_zero_iff.1 (h1.2), h2.1, by omega, by omega⟩
  · rw [if_neg (by omega), if_neg (by omega), if_pos hk, Bool.and_eq_true, Bool.and_eq_true, Bool.and_eq_true] at h
    have h1 := h.1
    have h2 := h.2.2.1
    unfold bareB at h1
    unfold wsB at h2
    simp only [Bool.and_eq_true, Bool.or_eq_true, decide_eq_true_eq, Bool.true_or, true_and, Bool.false_or, List.all_eq_true, wi_true] at h1 h2
    exact ⟨List.length_eq_zero_iff.1 (h1), h2.1, by omega, by omega⟩
theorem joinW_len : ∀ ws : List ByteArray, (∀ w ∈ ws, wordB w = true) → (joinT [32] ws).length ≤ 13 * ws.length
  | [], _ => by simp [joinT, Lib.join]
  | [x], h => by rw [joinT_one]; have := word_len (h x (by simp)); simp only [List.length_singleton]; omega
  | x :: y :: r, h => by
    have h1 := word_len (h x (by simp))
    have ih := joinW_len (y :: r) (fun w hw => h w (List.mem_cons_of_mem _ hw))
    unfold joinT Lib.join at ih ⊢
    simp only [List.map_cons] at ih ⊢
    rw [List.intercalate_cons_cons]
    simp only [List.length_cons, List.length_append] at ih ⊢
    simp only [List.length_nil] at ih ⊢
    omega
theorem termTx_len {d : ConfD} {q : QD} (h : oneB q = true) (ha : askW q = true) : (tb (joinT [32] q.ws)).size ≤ 100 ∧ (termTx d q).length ≤ 100 := by
  obtain ⟨_, h1, _, h2⟩ := ask_bare h ha
  have h3 := joinW_len q.ws h1
  have h4 : (tb (joinT [32] q.ws)).size ≤ 100 := by rw [tb_size]; omega
  refine ⟨h4, ?_⟩
  unfold termTx
  rw [List.length_map]
  exact Nat.le_trans (termsB_len _ _) (Nat.le_trans (wordsB_len _) h4)
theorem mem_spec17 (d : ConfD) (x : ByteArray) : ∀ (m : Nat) (q : QD), okQ m q = true → (x ∈ spec17 d m q ↔ x ∈ gathL d m q)
  | 0, q, h => by cases h
  | m + 1, q, h => by
    obtain ⟨h1, h2⟩ := ok_parts h
    rw [spec17, gathL]
    by_cases ha : askW q = true
    · obtain ⟨hk, _⟩ := ask_bare h1 ha
      have hg : kidsG q = [] := by unfold kidsG; rw [hk]; simp
      rw [if_pos ha, if_pos ha, hg, mem_putsT]
      simp
    · rw [if_neg ha, if_neg ha, foldP_mem, List.nil_append, List.mem_flatMap]
      constructor
      · rintro (⟨k, hk, hx⟩ | hx)
        · exact ⟨k, hk, (mem_spec17 d x m k (h2 k (kidsG_sub hk))).1 hx⟩
        · cases hx
      · rintro ⟨k, hk, hx⟩
        exact .inl ⟨k, hk, (mem_spec17 d x m k (h2 k (kidsG_sub hk))).2 hx⟩
theorem node_kids4 {q : QD} (h : oneB q = true) : q.ks.length ≤ 4 := by
  rcases one_cases h with h1 | ⟨kd, fr, ks, _, _, _, h4, rfl⟩
  · cases h1 <;> simp
  · exact h4
theorem kidsG_len {q : QD} (h : oneB q = true) : (kidsG q).length ≤ 4 := by
  have := node_kids4 h
  unfold kidsG
  split
  · rw [List.length_take]; omega
  · exact this
theorem spec17_len (d : ConfD) : ∀ (m : Nat) (q : QD), okQ m q = true → (spec17 d m q).length ≤ 100 * 4 ^ m
  | 0, q, h => by cases h
  | m + 1, q, h => by
    obtain ⟨h1, h2⟩ := ok_parts h
    rw [spec17]
    split
    · rename_i ha
      have := (termTx_len (d := d) h1 ha).2
      have h3 := putsT_len (termTx d q) []
      have h4 : 1 ≤ 4 ^ (m + 1) := Nat.pow_pos (by decide)
      simp only [List.length_nil] at h3
      omega
    · have h3 := foldP_len (spec17 d m) (100 * 4 ^ m) (kidsG q) [] (fun k hk => spec17_len d m k (h2 k (kidsG_sub hk)))
      have h4 := kidsG_len h1
      have h5 : 100 * 4 ^ m * (kidsG q).length ≤ 100 * 4 ^ m * 4 := Nat.mul_le_mul_left _ h4
      rw [Nat.pow_succ]
      simp only [List.length_nil] at h3
      omega
theorem gathL_len (d : ConfD) : ∀ (m : Nat) (q : QD), okQ m q = true → (gathL d m q).length ≤ 100 * 4 ^ m
  | 0, q, h => by cases h
  | m + 1, q, h => by
    obtain ⟨h1, h2⟩ := ok_parts h
    rw [gathL, List.length_append]
    have h4 : 1 ≤ 4 ^ (m + 1) := Nat.pow_pos (by decide)
    split
    · rename_i ha
      obtain ⟨hk, _⟩ := ask_bare h1 ha
      have hg : kidsG q = [] := by unfold kidsG; rw [hk]; simp
      have := (termTx_len (d := d) h1 ha).2
      rw [hg]
      simp
      omega
    · rw [List.length_nil, List.length_flatMap]
      have h3 : ((kidsG q).map (fun k => (gathL d m k).length)).sum ≤ (kidsG q).length * (100 * 4 ^ m) := by
        have : ∀ ks : List QD, (∀ k ∈ ks, (gathL d m k).length ≤ 100 * 4 ^ m) → (ks.map (fun k => (gathL d m k).length)).sum ≤ ks.length * (100 * 4 ^ m) := fun ks => by
          induction ks with
          | nil => intro _; simp
          | cons k r ih =>
            intro hh
            have a := hh k (by simp)
            have b := ih (fun y hy => hh y (List.mem_cons_of_mem _ hy))
            rw [List.map_cons, List.sum_cons, List.length_cons, Nat.add_mul]
            omega
        exact this _ (fun k hk => gathL_len d m k (h2 k (kidsG_sub hk)))
      have h5 := kidsG_len h1
      have h6 : (kidsG q).length * (100 * 4 ^ m) ≤ 4 * (100 * 4 ^ m) := Nat.mul_le_mul_right _ h5
      rw [Nat.pow_succ]
      omega
/-- what the program answers: gathered without two alike, sorted. -/
theorem snip_one {d : ConfD} {m : Nat} {q : QD} {K : List ByteArray} (h : okQ m q = true) (hn : K.Nodup) (hK : ∀ x, x ∈ K ↔ x ∈ gathL d m q) : sortT K = spec17 d m q :=
  sortT_one hn (spec17_asc d m q) (fun x => (hK x).trans (mem_spec17 d x m q h).symm)
end Go.Proofs.YtaobgliimbmemaaDoor
namespace Go.Proofs.YtaobgliimbmemaaDoor
open Go.RowKit Go.Sort

theorem putsT_take {O M : List ByteArray} {k : Nat} (hk : k < M.length) : putsT O (M.take (k + 1)) = putT M[k] (putsT O (M.take k)) := by
  rw [← List.take_append_getElem hk, putsT_snoc]
set_option maxRecDepth 20000 in
set_option maxHeartbeats 1600000 in
theorem l17_ask (dd : ConfD) (A1 A2 : Option Addr) (c1 c2 : Nat) (kd fr tq : Int) (fd : ByteArray) (ws : List ByteArray) (ks : List QD) (A : Option Addr) (c : Nat) (B : Option Addr) (d : Nat) (w : World) (hk : kd = 2 ∨ kd = 3)
    (hC : HasC w dd A1 c1 A2) (hs : SmC dd) (hcb : confB dd = true) (hS : SrcT w A c ws) (hwl : ws.length ≤ 4) (hj : (tb (joinT [32] ws)).size ≤ 100) :
    Calls Tryd.prog 56 #[.agg #[.slice A1 dd.st.length c1, .slice A2 dd.sy.length c2], .agg #[.int .i64 kd, .string fd, .slice A ws.length c, .int .i64 fr, .int .i64 tq, .slice B ks.length d]] w
      (PutR (putsT [] ((termsB dd (tb (joinT [32] ws))).map (·.1))) w) := by
  obtain ⟨T, hT⟩ : ∃ T, T = termsB dd (tb (joinT [32] ws)) := ⟨_, rfl⟩
  have hTl : T.length ≤ 100 := by rw [hT]; exact Nat.le_trans (termsB_len _ _) (Nat.le_trans (wordsB_len _) hj)
  have HJ := Lib.hid (fun V (h : SrcT V A c ws) => l11Join_any A c ws ⟨#[32]⟩ V h (by omega) (by rw [tb_size] at hj; show (joinT [32] ws).length ≤ _; omega))
  have HT := Lib.hid (fun V (h : HasC V dd A1 c1 A2) => l2Terms_any dd A1 A2 c1 c2 (tb (joinT [32] ws)) V h hs hcb (by omega))
  rw [show (⟨#[32]⟩ : ByteArray).data.toList = [32] from rfl] at HJ
  rw [← hT] at HT ⊢
  generalize tb (joinT [32] ws) = s at HJ HT hj
  clear hT
  have hHC := Lib.hid hC
  have hHS := Lib.hid hS
  clear hC hS
  have hB0 : Below w.heap.size w (((w.alloc (.cells #[.slice A1 dd.st.length c1, .slice A2 dd.sy.length c2] 44)).alloc (.cells #[.int .i64 kd, .string fd, .slice A ws.length c, .int .i64 fr, .int .i64 tq, .slice B ks.length d] 26)).alloc (.cells #[] 9)) := by (repeat' (first | exact Below.refl _ _ | apply Below.alloc | apply Below.setCell | apply Below.drew | apply below_draws)) <;> (first | omega | (simp <;> omega))
  have x0 : (((w.alloc (.cells #[.slice A1 dd.st.length c1, .slice A2 dd.sy.length c2] 44)).alloc (.cells #[.int .i64 kd, .string fd, .slice A ws.length c, .int .i64 fr, .int .i64 tq, .slice B ks.length d] 26)).alloc (.cells #[] 9)).cell? ⟨w.heap.size, 0, none⟩ = some (.slice A1 dd.st.length c1) := by simp [go_sem]
  have x1 : (((w.alloc (.cells #[.slice A1 dd.st.length c1, .slice A2 dd.sy.length c2] 44)).alloc (.cells #[.int .i64 kd, .string fd, .slice A ws.length c, .int .i64 fr, .int .i64 tq, .slice B ks.length d] 26)).alloc (.cells #[] 9)).cell? ⟨w.heap.size, 1, none⟩ = some (.slice A2 dd.sy.length c2) := by simp [go_sem]
  have y2 : (((w.alloc (.cells #[.slice A1 dd.st.length c1, .slice A2 dd.sy.length c2] 44)).alloc (.cells #[.int .i64 kd, .string fd, .slice A ws.length c, .int .i64 fr, .int .i64 tq, .slice B ks.length d] 26)).alloc (.cells #[] 9)).cell? ⟨w.heap.size + 1, 2, none⟩ = some (.slice A ws.length c) := by simp [go_sem]
  have sz : w.heap.size + 2 < (((w.alloc (.cells #[.slice A1 dd.st.length c1, .slice A2 dd.sy.length c2] 44)).alloc (.cells #[.int .i64 kd, .string fd, .slice A ws.length c, .int .i64 fr, .int .i64 tq, .slice B ks.length d] 26)).alloc (.cells #[] 9)).heap.size := by simp
  have hE : SrcQ (((w.alloc (.cells #[.slice A1 dd.st.length c1, .slice A2 dd.sy.length c2] 44)).alloc (.cells #[.int .i64 kd, .string fd, .slice A ws.length c, .int .i64 fr, .int .i64 tq, .slice B ks.length d] 26)).alloc (.cells #[] 9)) (some ⟨w.heap.size + 2, 0, none⟩) 0 [] := ⟨srcE_someT _ _ _, Nat.le_refl _, by decide⟩
  obtain rfl | rfl := hk
  all_goals
    go_enter Tryd.func56, Tryd.ntmps56
    go_wp2_with fail
    generalize hW : (World.alloc (World.alloc (World.alloc w _) _) _) = W0 at hB0 x0 x1 y2 sz hE ⊢
    clear hW
    have k0 : ∀ V, Below W0.heap.size W0 V → V.cell? ⟨w.heap.size, 0, none⟩ = some (.slice A1 dd.st.length c1) := fun V hV => (belowL hV (by omega)).trans x0
    have k1 : ∀ V, Below W0.heap.size W0 V → V.cell? ⟨w.heap.size, 1, none⟩ = some (.slice A2 dd.sy.length c2) := fun V hV => (belowL hV (by omega)).trans x1
    have k2 : ∀ V, Below W0.heap.size W0 V → V.cell? ⟨w.heap.size + 1, 2, none⟩ = some (.slice A ws.length c) := fun V hV => (belowL hV (by omega)).trans y2
    have HA := Lib.hid (fun V (hV : Below W0.heap.size W0 V) => hHC.out.below (hB0.trans (hV.mono hB0.size)))
    have HS := Lib.hid (fun V (hV : Below W0.heap.size W0 V) => SrcE.below hHS.out (hB0.trans (hV.mono hB0.size)))
    clear x0 x1 y2
    go_region_held3 (fun V => Below W0.heap.size W0 V)
      ((repeat' (first | exact Below.refl _ _ | assumption | apply Below.alloc | apply Below.setCell | apply Below.drew | (refine Below.trans ?_ (Below.mono (by assumption) ?_)))) <;> (first | exact Below.size (by assumption) | omega | (simp; done) | (simp; omega) | (refine Nat.le_trans ?_ (Below.size (by assumption)); (first | omega | (simp <;> omega)))))
      (first
      | (go_at_call 74; refine (HJ.out _ (HS.out _ (by assumption))).mono ?_; rintro e w1 ⟨rfl, hb1⟩)
      | (go_at_call 90; refine (HT.out _ (HA.out _ (by assumption))).mono ?_; rintro e w2 ⟨g, cg, ⟨rfl, own2⟩, hb2⟩; have HO := Lib.hid (OwnE.src own2); clear own2))
    rename_i hH
    generalize hgl : T.map (·.1) = TX
    have HMX := Lib.hid hgl
    have htl : TX.length = T.length := by rw [← hgl, List.length_map]
    have HG : Hid (∀ k (hk : k < T.length), putsT [] (TX.take (k + 1)) = putT T[k].1 (putsT [] (TX.take k))) := fun k hk => by
      subst hgl
      rw [putsT_take (by rw [List.length_map]; exact hk), List.getElem_map]
    have HL : Hid (∀ k, (putsT [] (TX.take k)).length ≤ k) := fun k => by
      have := putsT_len (TX.take k) []
      rw [List.length_take, List.length_nil] at this
      omega
    have HTX : Hid (TX = TX.take T.length) := by show _ = _; rw [← htl, List.take_length]
    clear htl hgl HT HJ hHC hHS HA HS k0 k1 k2
    have hE2 := SrcQ.below hE hH
    have HB2 := hB0.trans (hH.mono hB0.size)
    clear hE hB0
    go_wp2_with fail
    go_loopw [5, 7] (fun ov iv wr => ∃ (k : Nat) (Q : List ByteArray) (A' : Option Addr) (c' : Nat), k ≤ T.length ∧ iv = .int .i64 k ∧ ov = .slice A' Q.length c' ∧ Hid (Q = putsT [] (TX.take k)) ∧ SrcQ wr A' c' Q ∧ Below w2.heap.size w2 wr) (fun _ iv _ => T.length - (intOf iv).toNat)
    case atStart => exact ⟨0, [], _, _, Nat.zero_le _, rfl, rfl, rfl, hE2, Below.refl _ _⟩
    case round =>
      obtain ⟨k, Q, A', c', hk, rfl, rfl, hQ, hq, hB⟩ := hrel
      have hBs := hB.size
      have hQl : Q.length ≤ k := by rw [hQ.out]; exact HL.out k
      by_cases hlt : k < T.length
      · obtain ⟨b, off, e, hbb, t0, _⟩ := SrcE.atTm (SrcE.below HO.out hB) hlt
        obtain ⟨rfl, rfl⟩ : g = b ∧ 0 = off := by simpa using e
        have hi0 : (k : Int) < (T.length : Int) := by omega
        have HN := Lib.hid (HG.out k hlt)
        rw [← hQ.out] at HN
        simp only [Nat.zero_add] at t0
        generalize T[k].1 = x at t0 HN
        go_wp2_with fail
        refine (l7Put_any A' c' Q x wr hq (by omega)).mono ?_
        rintro e w5 ⟨A5, c5, ⟨rfl, hq5⟩, hb5⟩
        have hB5 := hB.trans (hb5.mono hBs)
        clear e
        go_wp2
        go_roundw
        case rel => exact ⟨k + 1, _, A5, c5, by omega, by go_num, rfl, HN.out.symm, hq5, hB5⟩
        case measure => simp [intOf]; omega
      · obtain rfl : k = T.length := by omega
        have hi0 : ¬ (T.length : Int) < (T.length : Int) := by omega
        rw [← HTX.out] at hQ
        go_wp2
        go_ret
        exact PutR.mk (HB2.trans (hB.mono HB2.size)) rfl hq (by rw [HMX.out]; exact hQ.out.symm)
def S17C (n : Nat) : Prop := ∀ (dd : ConfD) (A1 A2 : Option Addr) (c1 c2 : Nat) (q : QD) (A : Option Addr) (c : Nat) (B : Option Addr) (d : Nat) (m : Nat) (w : World),
  HasC w dd A1 c1 A2 → SmC dd → confB dd = true → HasQ n w q A c B → okQ m q = true → m ≤ 4 →
  Calls Tryd.prog 56 #[.agg #[.slice A1 dd.st.length c1, .slice A2 dd.sy.length c2], .agg #[.int .i64 q.kd, .string q.fd, .slice A q.ws.length c, .int .i64 q.fr, .int .i64 q.tgt, .slice B q.ks.length d]] w (PutR (spec17 dd m q) w)
theorem foldP_take (f : QD → List ByteArray) {ks : List QD} {k : Nat} (hk : k < ks.length) : (ks.take (k + 1)).foldl (fun o k => putsT o (f k)) [] = putsT ((ks.take k).foldl (fun o k => putsT o (f k)) []) (f ks[k]) := by
  rw [← List.take_append_getElem hk, List.foldl_append]; rfl
set_option maxRecDepth 20000 in
set_option maxHeartbeats 3200000 in
theorem l17_step (n : Nat) (IH : Hid (S17C n)) : S17C (n + 1) := fun dd A1 A2 c1 c2 q A c B d m w hC hs hcb h hok hm => by
  obtain ⟨p, rfl⟩ : ∃ p, m = p + 1 := by
    cases m with
    | zero => cases hok
    | succ p => exact ⟨p, rfl⟩
  obtain ⟨h1, h2⟩ := ok_parts hok
  by_cases ha : askW q = true
  · obtain ⟨_, _, _, h4⟩ := ask_bare h1 ha
    have h5 := (termTx_len (d := dd) h1 ha).1
    rw [spec17, if_pos ha]
    exact l17_ask dd A1 A2 c1 c2 q.kd q.fr q.tgt q.fd q.ws q.ks A c B d w (by unfold askW at ha; rw [Bool.or_eq_true, decide_eq_true_eq, decide_eq_true_eq] at ha; exact ha) hC hs hcb h.1.1 h4 h5
  · rw [spec17, if_neg ha]
    have hk4 := node_kids4 h1
    have hLen := Lib.hid (fun k (hk : k ∈ kidsG q) => spec17_len dd p k (h2 k (kidsG_sub hk)))
    have hNk : Hid (kidsG q = if q.kd = 9 then q.ks.take 1 else q.ks) := rfl
    have hkd : ¬ q.kd = 2 ∧ ¬ q.kd = 3 := by
      unfold askW at ha; rw [Bool.or_eq_true, decide_eq_true_eq, decide_eq_true_eq] at ha; exact ⟨fun e => ha (.inl e), fun e => ha (.inr e)⟩
    obtain ⟨K, hK⟩ : ∃ K, K = kidsG q := ⟨_, rfl⟩
    rw [← hK] at hLen hNk ⊢
    clear hK ha hok h1
    have HK := Lib.hid h.2
    have HOK := Lib.hid h2
    have hHC := Lib.hid hC
    have hpl : 100 * 4 ^ p ≤ 25600 := by
      have : 4 ^ p ≤ 4 ^ 4 := Nat.pow_le_pow_right (by decide) (by omega)
      omega
    clear h h2 hC
    obtain ⟨kd, fd, ws, fr, tq, ks⟩ := q
    simp only at hk4 hNk hkd HK HOK ⊢
    obtain ⟨hn2, hn3⟩ := hkd
    generalize hF : spec17 dd p = F at hLen ⊢
    have HF := Lib.hid hF
    clear hF
    have hd2 : (kd == 2) = false := beq_eq_false_iff_ne.2 hn2
    have hd3 : (kd == 3) = false := beq_eq_false_iff_ne.2 hn3
    have hB0 : Below w.heap.size w (((w.alloc (.cells #[.slice A1 dd.st.length c1, .slice A2 dd.sy.length c2] 44)).alloc (.cells #[.int .i64 kd, .string fd, .slice A ws.length c, .int .i64 fr, .int .i64 tq, .slice B ks.length d] 26)).alloc (.cells #[] 9)) := by (repeat' (first | exact Below.refl _ _ | apply Below.alloc | apply Below.setCell | apply Below.drew | apply below_draws)) <;> (first | omega | (simp <;> omega))
    have x0 : (((w.alloc (.cells #[.slice A1 dd.st.length c1, .slice A2 dd.sy.length c2] 44)).alloc (.cells #[.int .i64 kd, .string fd, .slice A ws.length c, .int .i64 fr, .int .i64 tq, .slice B ks.length d] 26)).alloc (.cells #[] 9)).cell? ⟨w.heap.size, 0, none⟩ = some (.slice A1 dd.st.length c1) := by simp [go_sem]
    have x1 : (((w.alloc (.cells #[.slice A1 dd.st.length c1, .slice A2 dd.sy.length c2] 44)).alloc (.cells #[.int .i64 kd, .string fd, .slice A ws.length c, .int .i64 fr, .int .i64 tq, .slice B ks.length d] 26)).alloc (.cells #[] 9)).cell? ⟨w.heap.size, 1, none⟩ = some (.slice A2 dd.sy.length c2) := by simp [go_sem]
    have y0 : (((w.alloc (.cells #[.slice A1 dd.st.length c1, .slice A2 dd.sy.length c2] 44)).alloc (.cells #[.int .i64 kd, .string fd, .slice A ws.length c, .int .i64 fr, .int .i64 tq, .slice B ks.length d] 26)).alloc (.cells #[] 9)).cell? ⟨w.heap.size + 1, 0, none⟩ = some (.int .i64 kd) := by simp [go_sem]
    have y5 : (((w.alloc (.cells #[.slice A1 dd.st.length c1, .slice A2 dd.sy.length c2] 44)).alloc (.cells #[.int .i64 kd, .string fd, .slice A ws.length c, .int .i64 fr, .int .i64 tq, .slice B ks.length d] 26)).alloc (.cells #[] 9)).cell? ⟨w.heap.size + 1, 5, none⟩ = some (.slice B ks.length d) := by simp [go_sem]
    have sz : w.heap.size + 2 < (((w.alloc (.cells #[.slice A1 dd.st.length c1, .slice A2 dd.sy.length c2] 44)).alloc (.cells #[.int .i64 kd, .string fd, .slice A ws.length c, .int .i64 fr, .int .i64 tq, .slice B ks.length d] 26)).alloc (.cells #[] 9)).heap.size := by simp
    have hE : SrcQ (((w.alloc (.cells #[.slice A1 dd.st.length c1, .slice A2 dd.sy.length c2] 44)).alloc (.cells #[.int .i64 kd, .string fd, .slice A ws.length c, .int .i64 fr, .int .i64 tq, .slice B ks.length d] 26)).alloc (.cells #[] 9)) (some ⟨w.heap.size + 2, 0, none⟩) 0 [] := ⟨srcE_someT _ _ _, Nat.le_refl _, by decide⟩
    go_enter Tryd.func56, Tryd.ntmps56
    go_wp2_with fail
    generalize hW : (World.alloc (World.alloc (World.alloc w _) _) _) = W0 at hB0 x0 x1 y0 y5 sz hE ⊢
    clear hW
    have K0 := Lib.hid (fun V (hV : Below W0.heap.size W0 V) => (belowL hV (show w.heap.size < _ by omega)).trans x0)
    have K1 := Lib.hid (fun V (hV : Below W0.heap.size W0 V) => (belowL hV (show w.heap.size < _ by omega)).trans x1)
    have K2 := Lib.hid (fun V (hV : Below W0.heap.size W0 V) => (belowL hV (show w.heap.size + 1 < _ by omega)).trans y0)
    have K3 := Lib.hid (fun V (hV : Below W0.heap.size W0 V) => (belowL hV (show w.heap.size + 1 < _ by omega)).trans y5)
    have HA := Lib.hid (fun V (hV : Below W0.heap.size W0 V) => hHC.out.below (hB0.trans (hV.mono hB0.size)))
    have HK0 := Lib.hid (fun V (hV : Below W0.heap.size W0 V) => rdQ_below HK.out (hB0.trans (hV.mono hB0.size)))
    clear x0 x1 y0 y5 hHC HK
    go_loopw [5, 8, 9, 10] (fun ov iv _ _ wr => ∃ (k : Nat) (Q : List ByteArray) (A' : Option Addr) (c' : Nat), k ≤ ks.length ∧ iv = .int .i64 k ∧ ov = .slice A' Q.length c' ∧ Hid (Q = (K.take k).foldl (fun o k => putsT o (F k)) []) ∧ Q.length ≤ k * 25600 ∧ SrcQ wr A' c' Q ∧ Below W0.heap.size W0 wr) (fun _ iv _ _ _ => ks.length - (intOf iv).toNat)
    case atStart => exact ⟨0, [], _, _, Nat.zero_le _, rfl, rfl, rfl, by simp, hE, Below.refl _ _⟩
    case round =>
      obtain ⟨k, Q, A', c', hk, rfl, rfl, hQ, hQl, hq, hB⟩ := hrel
      obtain ⟨wl, hwl⟩ : ∃ wl, wl = wr := ⟨_, rfl⟩
      subst hwl
      have hBs := hB.size
      have x0 := K2.out _ hB
      have x1 := K3.out _ hB
      by_cases hlt : k < ks.length
      · have hi0 : (k : Int) < (ks.length : Int) := by omega
        obtain ⟨b, off, A3, c3, B3, d3, rfl, hbb, z0, z1, z2, z3, z4, z5, hh⟩ := (HK0.out _ hB).cells hlt
        have hoky := HOK.out ks[k] (List.getElem_mem hlt)
        by_cases hbr : kd = 9 ∧ 0 < k
        · obtain ⟨rfl, hk0⟩ := hbr
          have hi9 : (0 : Int) < (k : Int) := by omega
          have hi8 : decide ((0 : Int) < (k : Int)) = true := decide_eq_true hi9
          have HR : Hid (K.foldl (fun o k => putsT o (F k)) [] = Q) := by
            show _ = _
            rw [hQ.out]
            have : K.take k = K := by
              have h3 := hNk.out
              rw [if_pos rfl] at h3
              exact List.take_of_length_le (by rw [h3, List.length_take]; omega)
            rw [this]
          clear hQ z0 z1 z2 z3 z4 z5 hh
          go_wp2
          go_ret
          exact PutR.mk (hB0.trans (hB.mono hB0.size)) rfl hq HR.out
        · obtain ⟨hkK, hyK⟩ : ∃ h : k < K.length, K[k] = ks[k] := by
            have h3 := hNk.out
            by_cases h9 : kd = 9
            · have hk0 : k = 0 := by omega
              subst hk0
              rw [if_pos h9] at h3
              subst h3
              exact ⟨by rw [List.length_take]; omega, by simp⟩
            · rw [if_neg h9] at h3
              subst h3
              exact ⟨hlt, rfl⟩
          have HN : Hid (putsT Q (F ks[k]) = (K.take (k + 1)).foldl (fun o k => putsT o (F k)) []) := by
            show _ = _
            rw [foldP_take F hkK, ← hQ.out, hyK]
          have hMl : (F ks[k]).length ≤ 25600 := by
            rw [← hyK]
            exact Nat.le_trans (hLen.out _ (List.getElem_mem hkK)) hpl
          have hgc : (kd == 9) = false ∨ ((kd == 9) = true ∧ decide ((0 : Int) < (k : Int)) = false ∧ ¬ 0 < k) := by
            by_cases h9 : kd = 9
            · exact .inr ⟨beq_iff_eq.2 h9, decide_eq_false (by omega), by omega⟩
            · exact .inl (beq_eq_false_iff_ne.2 h9)
          clear hQ hyK hkK
          generalize ks[k] = y at z0 z1 z2 z3 z4 z5 hh hoky HN hMl
          have k2 := x0
          clear hbr
          rcases hgc with hb9 | ⟨hb9, hi8, hi7⟩
          all_goals
            have k0 : ∀ V, Below wl.heap.size wl V → V.cell? ⟨w.heap.size, 0, none⟩ = some (.slice A1 dd.st.length c1) := fun V hV => K0.out V (hB.trans (hV.mono hBs))
            have k1 : ∀ V, Below wl.heap.size wl V → V.cell? ⟨w.heap.size, 1, none⟩ = some (.slice A2 dd.sy.length c2) := fun V hV => K1.out V (hB.trans (hV.mono hBs))
            have k3 : ∀ V, Below wl.heap.size wl V → V.cell? ⟨w.heap.size + 1, 5, none⟩ = some (.slice (some ⟨b, off, none⟩) ks.length d) := fun V hV => K3.out V (hB.trans (hV.mono hBs))
            have j0 : ∀ V, Below wl.heap.size wl V → V.cell? ⟨b, off + k * 6, none⟩ = some (.int .i64 y.kd) := fun V hV => (belowL hV hbb).trans z0
            have j1 : ∀ V, Below wl.heap.size wl V → V.cell? ⟨b, off + k * 6 + 1, none⟩ = some (.string y.fd) := fun V hV => (belowL hV hbb).trans z1
            have j2 : ∀ V, Below wl.heap.size wl V → V.cell? ⟨b, off + k * 6 + 2, none⟩ = some (.slice A3 y.ws.length c3) := fun V hV => (belowL hV hbb).trans z2
            have j3 : ∀ V, Below wl.heap.size wl V → V.cell? ⟨b, off + k * 6 + 3, none⟩ = some (.int .i64 y.fr) := fun V hV => (belowL hV hbb).trans z3
            have j4 : ∀ V, Below wl.heap.size wl V → V.cell? ⟨b, off + k * 6 + 4, none⟩ = some (.int .i64 y.tgt) := fun V hV => (belowL hV hbb).trans z4
            have j5 : ∀ V, Below wl.heap.size wl V → V.cell? ⟨b, off + k * 6 + 5, none⟩ = some (.slice B3 y.ks.length d3) := fun V hV => (belowL hV hbb).trans z5
            have HC := Lib.hid (fun V (hV : Below wl.heap.size wl V) => IH.out dd A1 A2 c1 c2 y A3 c3 B3 d3 p V (HA.out V (hB.trans (hV.mono hBs))) hs hcb (HasQ.below hh hV) hoky (by omega))
            rw [HF.out] at HC
            clear z0 z1 z2 z3 z4 z5 hh k2
            go_wp2_with fail
            go_region_held3 (fun V => Below wl.heap.size wl V)
              ((repeat' (first | exact Below.refl _ _ | assumption | apply Below.alloc | apply Below.setCell | apply Below.drew | (refine Below.trans ?_ (Below.mono (by assumption) ?_)))) <;> (first | exact Below.size (by assumption) | omega | (simp; done) | (simp; omega) | (refine Nat.le_trans ?_ (Below.size (by assumption)); (first | omega | (simp <;> omega)))))
              (first
              | (go_at_call 56; refine (HC.out _ (by assumption)).mono ?_; rintro e w2 ⟨A5, c5, ⟨rfl, hq5⟩, hb2⟩))
            rename_i hH
            clear k0 k1 k3 j0 j1 j2 j3 j4 j5 HC
            have hqH := SrcQ.below hq hH
            have hBH := hB.trans (hH.mono hBs)
            clear hq hB
            generalize F y = M at hMl HN hq5
            have HPT : Hid (∀ j (hj : j < M.length), putsT Q (M.take (j + 1)) = putT M[j] (putsT Q (M.take j))) := fun j hj => putsT_take hj
            have HPL : Hid (∀ j, (putsT Q (M.take j)).length ≤ Q.length + j) := fun j => by
              have := putsT_len (M.take j) Q
              rw [List.length_take] at this
              omega
            have HMX : Hid (M = M.take M.length) := by show _ = _; rw [List.take_length]
            have HQ0 : Hid (Q = putsT Q (M.take 0)) := rfl
            go_wp2_with fail
            go_loopw [5, 10] (fun ov iv wr => ∃ (j : Nat) (Z : List ByteArray) (A' : Option Addr) (c' : Nat), j ≤ M.length ∧ iv = .int .i64 j ∧ ov = .slice A' Z.length c' ∧ Hid (Z = putsT Q (M.take j)) ∧ SrcQ wr A' c' Z ∧ Below w2.heap.size w2 wr) (fun _ iv _ => M.length - (intOf iv).toNat)
            case atStart => exact ⟨0, Q, _, _, Nat.zero_le _, rfl, rfl, HQ0, hqH, Below.refl _ _⟩
            case round =>
              obtain ⟨j, Z, A', c', hj, rfl, rfl, hZ, hz, hBz⟩ := hrel
              have hBzs := hBz.size
              have hZl : Z.length ≤ Q.length + j := by rw [hZ.out]; exact HPL.out j
              by_cases hjl : j < M.length
              · obtain ⟨bm, om, rfl, hbm, t0⟩ := (SrcQ.below hq5 hBz).1.atT hjl
                have hi1 : (j : Int) < (M.length : Int) := by omega
                have HNZ := Lib.hid (HPT.out j hjl)
                rw [← hZ.out] at HNZ
                generalize M[j] = x at t0 HNZ
                go_wp2_with fail
                refine (l7Put_any A' c' Z x wr hz (by omega)).mono ?_
                rintro e w5 ⟨A6, c6, ⟨rfl, hq6⟩, hb6⟩
                have hB6 := hBz.trans (hb6.mono hBzs)
                go_wp2
                go_roundw
                case rel => exact ⟨j + 1, _, A6, c6, by omega, by go_num, rfl, HNZ.out.symm, hq6, hB6⟩
                case measure => simp [intOf]; omega
              · obtain rfl : j = M.length := by omega
                have hi1 : ¬ (M.length : Int) < (M.length : Int) := by omega
                rw [← HMX.out] at hZ
                have hZl2 : Z.length ≤ (k + 1) * 25600 := by omega
                have HBZ := hBH.trans (hBz.mono hBH.size)
                go_wp2
                go_roundw
                case rel => exact ⟨k + 1, Z, A', c', by omega, by go_num, rfl, hZ.out.trans HN.out, hZl2, hz, HBZ⟩
                case measure => simp [intOf]; omega
      · obtain rfl : k = ks.length := by omega
        have hi0 : ¬ (ks.length : Int) < (ks.length : Int) := by omega
        have HR : Hid (K.foldl (fun o k => putsT o (F k)) [] = Q) := by
          show _ = _
          rw [hQ.out]
          have : K.take ks.length = K := by
            have h3 := hNk.out
            refine List.take_of_length_le ?_
            rw [h3]
            split
            · rw [List.length_take]; omega
            · exact Nat.le_refl _
          rw [this]
        clear hQ
        go_wp2
        go_ret
        exact PutR.mk (hB0.trans (hB.mono hB0.size)) rfl hq HR.out
theorem l17Terms_any : ∀ n, S17C n
  | 0 => fun dd A1 A2 c1 c2 q A c B d m w hC hs hcb h => h.elim
  | n + 1 => l17_step n (Lib.hid (l17Terms_any n))
def snipR (dd : ConfD) (q : QD) : List ByteArray := if (confB dd && okQ 4 q) = true then spec17 dd 4 q else []
set_option maxRecDepth 8000 in
theorem specSnipTerms_any (n : Nat) (dd : ConfD) (A1 A2 : Option Addr) (c1 c2 : Nat) (q : QD) (A : Option Addr) (c : Nat) (B : Option Addr) (d : Nat) (w : World)
    (hC : HasC w dd A1 c1 A2) (hs : SmC dd) (h : HasQ n w q A c B) (hl : LmQ 1048576 n q) :
    Calls Tryd.prog 27 #[.agg #[.slice A1 dd.st.length c1, .slice A2 dd.sy.length c2], .agg #[.int .i64 q.kd, .string q.fd, .slice A q.ws.length c, .int .i64 q.fr, .int .i64 q.tgt, .slice B q.ks.length d]] w (PutR (snipR dd q) w) := by
  have CO := Lib.hid (fun V (h : HasC V dd A1 c1 A2) => l2Ok_any dd A1 A2 c1 c2 V h hs)
  have CQ := Lib.hid (fun V (h : HasQ n V q A c B) => l11Ok_any n q A c B d V h hl)
  have CT := Lib.hid (fun V (h : HasC V dd A1 c1 A2) (hcb : confB dd = true) (h2 : HasQ n V q A c B) (hok : okQ 4 q = true) => l17Terms_any n dd A1 A2 c1 c2 q A c B d 4 V h hs hcb h2 hok (Nat.le_refl _))
  have HC := Lib.hid hC
  have HH := Lib.hid h
  have hR : Hid (snipR dd q = if (confB dd && okQ 4 q) = true then spec17 dd 4 q else []) := rfl
  generalize snipR dd q = R at hR ⊢
  obtain ⟨kd, fd, ws, fr, tq, ks⟩ := q
  simp only at CQ CT HH hR ⊢
  generalize okQ 4 (⟨kd, fd, ws, fr, tq, ks⟩ : QD) = rq at CQ CT hR
  generalize spec17 dd 4 (⟨kd, fd, ws, fr, tq, ks⟩ : QD) = L at CT hR
  generalize confB dd = rc at CO CT hR
  clear hC h hl
  have hB0 : Below w.heap.size w ((w.alloc (.cells #[.slice A1 dd.st.length c1, .slice A2 dd.sy.length c2] 44)).alloc (.cells #[.int .i64 kd, .string fd, .slice A ws.length c, .int .i64 fr, .int .i64 tq, .slice B ks.length d] 26)) := by (repeat' (first | exact Below.refl _ _ | apply Below.alloc | apply Below.setCell | apply Below.drew | apply below_draws)) <;> (first | omega | (simp <;> omega))
  have x0 : ((w.alloc (.cells #[.slice A1 dd.st.length c1, .slice A2 dd.sy.length c2] 44)).alloc (.cells #[.int .i64 kd, .string fd, .slice A ws.length c, .int .i64 fr, .int .i64 tq, .slice B ks.length d] 26)).cell? ⟨w.heap.size, 0, none⟩ = some (.slice A1 dd.st.length c1) := by simp [go_sem]
  have x1 : ((w.alloc (.cells #[.slice A1 dd.st.length c1, .slice A2 dd.sy.length c2] 44)).alloc (.cells #[.int .i64 kd, .string fd, .slice A ws.length c, .int .i64 fr, .int .i64 tq, .slice B ks.length d] 26)).cell? ⟨w.heap.size, 1, none⟩ = some (.slice A2 dd.sy.length c2) := by simp [go_sem]
  have y0 : ((w.alloc (.cells #[.slice A1 dd.st.length c1, .slice A2 dd.sy.length c2] 44)).alloc (.cells #[.int .i64 kd, .string fd, .slice A ws.length c, .int .i64 fr, .int .i64 tq, .slice B ks.length d] 26)).cell? ⟨w.heap.size + 1, 0, none⟩ = some (.int .i64 kd) := by simp [go_sem]
  have y1 : ((w.alloc (.cells #[.slice A1 dd.st.length c1, .slice A2 dd.sy.length c2] 44)).alloc (.cells #[.int .i64 kd, .string fd, .slice A ws.length c, .int .i64 fr, .int .i64 tq, .slice B ks.length d] 26)).cell? ⟨w.heap.size + 1, 1, none⟩ = some (.string fd) := by simp [go_sem]
  have y2 : ((w.alloc (.cells #[.slice A1 dd.st.length c1, .slice A2 dd.sy.length c2] 44)).alloc (.cells #[.int .i64 kd, .string fd, .slice A ws.length c, .int .i64 fr, .int .i64 tq, .slice B ks.length d] 26)).cell? ⟨w.heap.size + 1, 2, none⟩ = some (.slice A ws.length c) := by simp [go_sem]
  have y3 : ((w.alloc (.cells #[.slice A1 dd.st.length c1, .slice A2 dd.sy.length c2] 44)).alloc (.cells #[.int .i64 kd, .string fd, .slice A ws.length c, .int .i64 fr, .int .i64 tq, .slice B ks.length d] 26)).cell? ⟨w.heap.size + 1, 3, none⟩ = some (.int .i64 fr) := by simp [go_sem]
  have y4 : ((w.alloc (.cells #[.slice A1 dd.st.length c1, .slice A2 dd.sy.length c2] 44)).alloc (.cells #[.int .i64 kd, .string fd, .slice A ws.length c, .int .i64 fr, .int .i64 tq, .slice B ks.length d] 26)).cell? ⟨w.heap.size + 1, 4, none⟩ = some (.int .i64 tq) := by simp [go_sem]
  have y5 : ((w.alloc (.cells #[.slice A1 dd.st.length c1, .slice A2 dd.sy.length c2] 44)).alloc (.cells #[.int .i64 kd, .string fd, .slice A ws.length c, .int .i64 fr, .int .i64 tq, .slice B ks.length d] 26)).cell? ⟨w.heap.size + 1, 5, none⟩ = some (.slice B ks.length d) := by simp [go_sem]
  have sz : w.heap.size + 1 < ((w.alloc (.cells #[.slice A1 dd.st.length c1, .slice A2 dd.sy.length c2] 44)).alloc (.cells #[.int .i64 kd, .string fd, .slice A ws.length c, .int .i64 fr, .int .i64 tq, .slice B ks.length d] 26)).heap.size := by simp
  go_enter Tryd.func27, Tryd.ntmps27
  go_wp2_with fail
  generalize hW : (World.alloc (World.alloc w _) _) = W0 at hB0 x0 x1 y0 y1 y2 y3 y4 y5 sz ⊢
  clear hW
  refine (CO.out _ (HC.out.below hB0)).mono ?_
  rintro e w1 ⟨rfl, hb1⟩
  have hB1 := hB0.trans (hb1.mono hB0.size)
  have s1 := hb1.size
  replace x0 := (belowL hb1 (show w.heap.size < _ by omega)).trans x0
  replace x1 := (belowL hb1 (show w.heap.size < _ by omega)).trans x1
  replace y0 := (belowL hb1 (show w.heap.size + 1 < _ by omega)).trans y0
  replace y1 := (belowL hb1 (show w.heap.size + 1 < _ by omega)).trans y1
  replace y2 := (belowL hb1 (show w.heap.size + 1 < _ by omega)).trans y2
  replace y3 := (belowL hb1 (show w.heap.size + 1 < _ by omega)).trans y3
  replace y4 := (belowL hb1 (show w.heap.size + 1 < _ by omega)).trans y4
  replace y5 := (belowL hb1 (show w.heap.size + 1 < _ by omega)).trans y5
  cases rc with
  | false =>
    go_wp2
    go_ret
    exact PutR.mk hB1 rfl (L := []) ⟨SrcE.nil_ _ 0, Nat.le_refl _, by decide⟩ hR.out
  | true =>
    go_wp2_with fail
    refine (CQ.out _ (HH.out.below hB1)).mono ?_
    rintro e w2 ⟨rfl, hb2⟩
    have hB2 := hB1.trans (hb2.mono hB1.size)
    have s2 := hb2.size
    replace x0 := (belowL hb2 (show w.heap.size < _ by omega)).trans x0
    replace x1 := (belowL hb2 (show w.heap.size < _ by omega)).trans x1
    replace y0 := (belowL hb2 (show w.heap.size + 1 < _ by omega)).trans y0
    replace y1 := (belowL hb2 (show w.heap.size + 1 < _ by omega)).trans y1
    replace y2 := (belowL hb2 (show w.heap.size + 1 < _ by omega)).trans y2
    replace y3 := (belowL hb2 (show w.heap.size + 1 < _ by omega)).trans y3
    replace y4 := (belowL hb2 (show w.heap.size + 1 < _ by omega)).trans y4
    replace y5 := (belowL hb2 (show w.heap.size + 1 < _ by omega)).trans y5
    cases rq with
    | false =>
      go_wp2
      go_ret
      exact PutR.mk hB2 rfl (L := []) ⟨SrcE.nil_ _ 0, Nat.le_refl _, by decide⟩ hR.out
    | true =>
      go_wp2_with fail
      refine (CT.out _ (HC.out.below hB2) (by first | exact rfl | trivial) (HH.out.below hB2) (by first | exact rfl | trivial)).mono ?_
      rintro e w3 ⟨A3, c3, ⟨rfl, h3⟩, hb3⟩
      go_wp2
      go_ret
      exact PutR.mk (hB2.trans (hb3.mono hB2.size)) rfl h3 hR.out
end Go.Proofs.YtaobgliimbmemaaDoor
namespace Go.Proofs.YtaobgliimbmemaaDoor
open Go.RowKit Go.Sort Go.Maps

def keyG (s : ByteArray) : Lit := .string s.data.toList
theorem keyG_inj {a b : ByteArray} (h : keyG a = keyG b) : a = b := by
  unfold keyG at h
  injection h with h
  exact ba_eq h
theorem keyedG : Keyed Tryd.prog 9 := string_keyed Tryd.underlying9
theorem keyOfG {x : ByteArray} (h : x.size ≤ maxLen) : keyOf Tryd.prog 9 (.string x) = some (keyG x) := WideMaps.keyOf_string_mk Tryd.underlying9 h
theorem sameG (y x : ByteArray) : (keyG y).sameKey (keyG x) = decide (y = x) := by
  rw [Bool.eq_iff_iff, decide_eq_true_eq]
  constructor
  · intro h
    exact keyG_inj (WideAt.sameKey_eq h)
  · rintro rfl
    exact WideAt.sameKey_self trivial
/-- block b is a map that holds the texts seen. -/
def SetG (w : World) (b n : Nat) (xs : List ByteArray) : Prop :=
  ∃ D : DataW Unit, w.ownsMap Tryd.prog 9 (plainElem Tryd.prog 4) b n D ∧ ∀ x : ByteArray, has D (keyG x) = hasB xs x
theorem SetG.put {w : World} {b n : Nat} {xs : List ByteArray} (h : SetG w b n xs) {x : ByteArray} (hx : x.size ≤ maxLen) (hn : n < maxLen) :
    ∃ w', (Instr.mapUpdate 77 (.map (some b)) (.string x) (.bool true)).run Tryd.prog w = .ok () w' ∧ SetG w' b (n + 1) (xs ++ [x]) ∧ w.grownBy w' (some b) := by
  obtain ⟨D, hown, hat⟩ := h
  obtain ⟨w', hrun, ho, hg⟩ := hown.update keyedG Tryd.underlying77 hn (keyOfG hx) (plainElem_bool Tryd.underlying4 true)
  refine ⟨w', hrun, ⟨_, ho, fun y => ?_⟩, hg⟩
  by_cases e : y = x
  · subst e
    rw [has_put_same hown.isMap (show WideAt.IsKeyLit (keyG y) from trivial)]
    exact (hasB_iff.2 (by simp)).symm
  · rw [has_put_other (fun h => e (keyG_inj h)), hat y, Bool.eq_iff_iff, hasB_iff, hasB_iff]
    simp [e]
theorem SetG.made (w : World) : SetG (w.alloc (.map #[] 0)) w.heap.size 0 [] := ⟨_, World.ownsMap_made w _ _ _, fun x => by first | rfl | simp [has, hasB]⟩
theorem SetG.kept {w w' : World} {b n : Nat} {xs : List ByteArray} {row : Option Nat} (h : SetG w b n xs) (hg : w.grownBy w' row) (hne : some b ≠ row) : SetG w' b n xs := by
  obtain ⟨D, hown, hat⟩ := h
  exact ⟨D, hown.kept hg hne, hat⟩
theorem SetG.below {w w' : World} {b n : Nat} {xs : List ByteArray} (h : SetG w b n xs) (hb : Below w.heap.size w w') : SetG w' b n xs :=
  h.kept (row := none) ⟨hb.os, hb.tape, hb.output, hb.size, fun k hk _ => hb.block k hk⟩ (by simp)
theorem SetG.lt {w : World} {b n : Nat} {xs : List ByteArray} (h : SetG w b n xs) : b < w.heap.size := by obtain ⟨D, hown, _⟩ := h; exact hown.lt
/-- nothing below B but block g has turned. -/
def OutG (B g : Nat) (w w' : World) : Prop :=
  (w'.os = w.os ∧ w'.tape = w.tape ∧ w'.output = w.output) ∧ w.heap.size ≤ w'.heap.size ∧ ∀ k, k < B → k ≠ g → w'.heap[k]? = w.heap[k]?
theorem OutG.refl (B g : Nat) (w : World) : OutG B g w w := ⟨⟨rfl, rfl, rfl⟩, Nat.le_refl _, fun _ _ _ => rfl⟩
theorem OutG.trans {B g : Nat} {a b c : World} (h : OutG B g a b) (k : OutG B g b c) : OutG B g a c :=
  ⟨⟨k.1.1.trans h.1.1, k.1.2.1.trans h.1.2.1, k.1.2.2.trans h.1.2.2⟩, Nat.le_trans h.2.1 k.2.1, fun i hi hn => (k.2.2 i hi hn).trans (h.2.2 i hi hn)⟩
theorem OutG.mono {B B' g : Nat} {a b : World} (h : OutG B g a b) (hB : B' ≤ B) : OutG B' g a b := ⟨h.1, h.2.1, fun k hk hn => h.2.2 k (Nat.lt_of_lt_of_le hk hB) hn⟩
theorem OutG.of {B g : Nat} {a b : World} (h : Below B a b) : OutG B g a b := ⟨⟨h.os, h.tape, h.output⟩, h.size, fun k hk _ => h.block k hk⟩
theorem OutG.grown {g : Nat} {a b : World} (h : a.grownBy b (some g)) : OutG a.heap.size g a b := ⟨⟨h.os, h.tape, h.output⟩, h.size, fun k hk hn => h.block k hk (by simpa using hn)⟩
theorem OutG.under {B g : Nat} {a b : World} (h : OutG B g a b) {B' : Nat} (hB : B' ≤ B) (hg : B' ≤ g) : Below B' a b :=
  ⟨h.1.1, h.1.2.1, h.1.2.2, h.2.1, fun k hk => h.2.2 k (Nat.lt_of_lt_of_le hk hB) (by omega)⟩
theorem OutG.cell {B g : Nat} {a b : World} (h : OutG B g a b) {i : Nat} (hi : i < B) (hn : i ≠ g) (o : Nat) : b.cell? ⟨i, o, none⟩ = a.cell? ⟨i, o, none⟩ := by
  simp only [World.cell?, h.2.2 i hi hn]
/-- what is walked over: each once. -/
def RanG (K xs : List ByteArray) (left : Lit → Bool) : Prop :=
  (∀ y : ByteArray, left (keyG y) = (hasB xs y && !hasB K y)) ∧ (∀ p ∈ K, p ∈ xs) ∧ K.Nodup
theorem RanG.step {K xs : List ByteArray} {left : Lit → Bool} (h : RanG K xs left) {x : ByteArray} (hl : left (keyG x) = true) : RanG (K ++ [x]) xs (fun z => left z && !z.sameKey (keyG x)) := by
  obtain ⟨h1, h2, h3⟩ := h
  have h4 := h1 x
  rw [hl] at h4
  have h4' := h4.symm
  rw [Bool.and_eq_true, hasB_iff, Bool.not_eq_true', ← Bool.not_eq_true, hasB_iff] at h4'
  refine ⟨fun y => ?_, fun p hp => ?_, ?_⟩
  · show (left (keyG y) && !(keyG y).sameKey (keyG x)) = _
    have e1 : hasB (K ++ [x]) y = (hasB K y || decide (y = x)) := by
      rw [Bool.eq_iff_iff, hasB_iff, Bool.or_eq_true, hasB_iff, decide_eq_true_eq, List.mem_append, List.mem_singleton]
    rw [h1 y, sameG, e1]
    cases hasB xs y <;> cases hasB K y <;> simp
  · rcases List.mem_append.1 hp with hp | hp
    · exact h2 p hp
    · rw [List.mem_singleton.1 hp]; exact h4'.1
  · rw [List.nodup_append]
    refine ⟨h3, by simp, fun a ha b hb e => ?_⟩
    rw [List.mem_singleton.1 hb] at e
    exact h4'.2 (e ▸ ha)
theorem RanG.done {K xs : List ByteArray} {left : Lit → Bool} (h : RanG K xs left) (hl : ∀ kl, left kl = false) : K.Nodup ∧ ∀ x, x ∈ K ↔ x ∈ xs := by
  refine ⟨h.2.2, fun x => ⟨h.2.1 x, fun hx => ?_⟩⟩
  have h1 := h.1 x
  rw [hl, hasB_iff.2 hx, Bool.true_and] at h1
  have h2 := h1.symm
  rw [Bool.not_eq_false', hasB_iff] at h2
  exact h2
theorem rangesG_ne {H : Type} {w : World} {P : Program} {k : TypeId} {R : Value → Option (DataW H × List MemPlace)} {b r n : Nat} {D : DataW H} {left : Lit → Bool} {cnt : Nat} (h : w.ranges P k R b r n D left cnt) {base e size m g c : Nat} {xs : List Value} (ho : w.ownsRow base e size (.slice (some ⟨g, 0, none⟩) m c) m xs) : r ≠ g ∧ b ≠ g := by
  obtain ⟨es, clock, since, seen, c0, hb, _, _, _, hr, _⟩ := h
  rcases ho.2 with ⟨hbad, _⟩ | ⟨g', cap, cur, hv, _, hh, _⟩
  · simp at hbad
  · simp only [Value.slice.injEq, Option.some.injEq, Addr.mk.injEq, and_true, true_and] at hv
    obtain ⟨rfl, _⟩ := hv
    constructor
    · intro e; subst e; rw [hr] at hh; cases hh
    · intro e; subst e; rw [hb] at hh; cases hh
end Go.Proofs.YtaobgliimbmemaaDoor
namespace Go.Proofs.YtaobgliimbmemaaDoor
open Go.RowKit Go.Sort
theorem flatI (L : List ByteArray) : L.flatMap encT = L.map Value.string := by induction L with | nil => rfl | cons x r ih => rw [List.flatMap_cons, ih]; rfl
theorem join_any (A : Option Addr) (c : Nat) (ws : List ByteArray) (sg : ByteArray) (w : World) (h : SrcQ w A c ws) (hn : 1 ≤ ws.length) (hN : ws.length ≤ 1048576) (hl : (joinT sg.data.toList ws).length ≤ 1048576) :
    Calls Tryd.prog 70 #[.slice A ws.length c, .string sg] w fun e w' => e = .returned (.string (tb (joinT sg.data.toList ws))) ∧ Below w.heap.size w w' := by
  obtain ⟨b, off, rfl, hb, hc⟩ := h.1.1.2 (by omega)
  refine Tryd.strings_Join b off c ws sg w (fun j x hx => ?_) hb ?_ h.2.1 (Nat.le_trans hl (by omega))
  · refine hc j _ ?_
    rw [flatI, List.getElem?_map, hx]
    rfl
  · omega
end Go.Proofs.YtaobgliimbmemaaDoor
namespace Go.Proofs.YtaobgliimbmemaaDoor
open Go.RowKit Go.Sort Go.Maps

theorem SrcE.outG {α : Type} {enc : α → List Value} {F : Nat} {w w' : World} {g off c b : Nat} {L : List α} (h : SrcE enc F w (some ⟨g, off, none⟩) c L) (ho : OutG w.heap.size b w w') (hne : g ≠ b) : SrcE enc F w' (some ⟨g, off, none⟩) c L :=
  ⟨⟨h.1.1, fun hl => by
    obtain ⟨b', off', e, hb, hc⟩ := h.1.2 hl
    cases e
    exact ⟨_, _, rfl, Nat.lt_of_lt_of_le hb ho.2.1, fun j u hu => (ho.cell hb hne _).trans (hc j u hu)⟩⟩, h.2⟩
theorem joinW_all (f : UInt8 → Bool) (h32 : f 32 = true) : ∀ ws : List ByteArray, (∀ w ∈ ws, w.data.toList.all f = true) → (joinT [32] ws).all f = true
  | [], _ => rfl
  | [x], h => by rw [joinT_one]; exact h x (by simp)
  | x :: y :: r, h => by
    have h1 := h x (by simp)
    have ih := joinW_all f h32 (y :: r) (fun w hw => h w (List.mem_cons_of_mem _ hw))
    unfold joinT Lib.join at ih ⊢
    simp only [List.map_cons] at ih ⊢
    rw [List.intercalate_cons_cons]
    simp only [List.all_append, List.all_cons, List.all_nil, h1, h32, Bool.and_true, Bool.true_and] at ih ⊢
    exact ih
theorem joinW_text {ws : List ByteArray} (h : ∀ w ∈ ws, wordB w = true) (hl : ws.length ≤ 4) : textB (tb (joinT [32] ws)) = true := by
  have h1 := joinW_len ws h
  unfold textB
  rw [Bool.and_eq_true, decide_eq_true_eq, tb_size, tb_list]
  refine ⟨joinW_all _ (by decide) ws (fun w hw => ?_), by omega⟩
  have h2 := h w hw
  unfold wordB at h2
  rw [Bool.and_eq_true] at h2
  refine List.all_eq_true.2 fun b hb => ?_
  have h3 := wbI_true.1 (List.all_eq_true.1 h2.1 b hb)
  show decide _ = true
  rw [decide_eq_true_eq]
  omega
theorem stemF_size : ∀ (n : Nat) (s : ByteArray), (stemF n s).size ≤ s.size
  | 0, s => Nat.le_refl _
  | n + 1, s => by
    unfold stemF
    split
    · exact Nat.le_refl _
    · rename_i hc
      have := once_lt hc
      have := stemF_size n (once s)
      omega
theorem termsL_tx (sy : List SynD) (L : List TmD) : ∀ t ∈ termsL sy L, (∃ u ∈ L, t.1 = u.1) ∨ ∃ k, k < sy.length ∧ t.1 = toAt sy k := by
  fun_induction termsL sy L with
  | case1 => intro t h; cases h
  | case2 t r h ih =>
    intro x hx
    rcases List.mem_cons.1 hx with rfl | hx
    · exact .inl ⟨_, by simp, rfl⟩
    · rcases ih x hx with ⟨u, hu, e⟩ | h
      · exact .inl ⟨u, List.mem_cons_of_mem _ hu, e⟩
      · exact .inr h
  | case3 t r k h ih =>
    intro x hx
    rcases List.mem_cons.1 hx with rfl | hx
    · exact .inr ⟨k, ruleS_lt _ _ _ _ h, rfl⟩
    · rcases ih x hx with ⟨u, hu, e⟩ | h
      · exact .inl ⟨u, List.mem_cons_of_mem _ (List.mem_of_mem_drop hu), e⟩
      · exact .inr h
theorem termsB_sz {dd : ConfD} (hs : SmC dd) (s : ByteArray) : ∀ t ∈ termsB dd s, t.1.size ≤ maxLen := fun t ht => by
  rcases termsL_tx _ _ t ht with ⟨u, hu, e⟩ | ⟨k, hk, e⟩
  · obtain ⟨d, hd, rfl⟩ := plainL_mem hu
    have h1 := (wordsFrom_ok s 0 0 d hd).1
    have h2 := word_len h1
    rw [bytes_len] at h2
    have h3 : (stemB d.tx).size ≤ d.tx.size := stemF_size _ _
    rw [e]
    show (stemB d.tx).size ≤ _
    unfold maxLen
    omega
  · rw [e, toAt_get hk]
    have := (hs.2.2 _ (List.getElem_mem hk)).2
    unfold maxLen
    omega
/-- what a call that gathers leaves. -/
def GatR (M xs : List ByteArray) (b n k : Nat) (w : World) (e : Ending) (w' : World) : Prop := e = .returned (.tuple #[]) ∧ ∃ n', n' ≤ n + k ∧ SetG w' b n' (xs ++ M) ∧ OutG w.heap.size b w w'
set_option maxRecDepth 20000 in
set_option maxHeartbeats 1600000 in
theorem gather_ask (dd : ConfD) (A1 A2 : Option Addr) (c1 c2 : Nat) (kd fr tq : Int) (fd : ByteArray) (ws : List ByteArray) (A : Option Addr) (c : Nat) (B : Option Addr) (d : Nat) (W w : World) (b n : Nat) (xs : List ByteArray) (hk : kd = 2 ∨ kd = 3)
    (hC : HasC W dd A1 c1 A2) (hs : SmC dd) (hcb : confB dd = true) (hS : SrcQ W A c ws) (hw1 : 1 ≤ ws.length) (hwl : ws.length ≤ 4) (hj : (tb (joinT [32] ws)).size ≤ 100) (htb : textB (tb (joinT [32] ws)) = true)
    (hBW : Below W.heap.size W w) (hb : W.heap.size ≤ b) (hset : SetG w b n xs) (hn : n ≤ 1000000) :
    Calls Tryd.prog 53 #[.agg #[.slice A1 dd.st.length c1, .slice A2 dd.sy.length c2], .agg #[.int .i64 kd, .string fd, .slice A ws.length c, .int .i64 fr, .int .i64 tq, .slice B 0 d], .map (some b)] w
      (GatR ((termsB dd (tb (joinT [32] ws))).map (·.1)) xs b n 100 w) := by
  obtain ⟨T, hT⟩ : ∃ T, T = termsB dd (tb (joinT [32] ws)) := ⟨_, rfl⟩
  have hTl : T.length ≤ 100 := by rw [hT]; exact Nat.le_trans (termsB_len _ _) (Nat.le_trans (wordsB_len _) hj)
  have hTz : Hid (∀ t ∈ T, t.1.size ≤ maxLen) := by rw [hT]; exact termsB_sz hs _
  have HJ := Lib.hid (fun V (h : SrcQ V A c ws) => join_any A c ws ⟨#[32]⟩ V h hw1 (by omega) (by rw [tb_size] at hj; show (joinT [32] ws).length ≤ _; omega))
  have HT := Lib.hid (fun V (h : HasC V dd A1 c1 A2) => termsOf_any dd A1 A2 c1 c2 (tb (joinT [32] ws)) V h hs (by omega))
  have e9 : termsT dd (tb (joinT [32] ws)) = T := by unfold termsT; rw [hcb, htb, hT]; rfl
  rw [show (⟨#[32]⟩ : ByteArray).data.toList = [32] from rfl] at HJ
  rw [e9] at HT
  rw [← hT]
  generalize tb (joinT [32] ws) = s at HJ HT hj
  clear hT e9 htb
  have hHC := Lib.hid hC
  have hHS := Lib.hid hS
  have hbl := hset.lt
  clear hC hS
  have hB0 : Below w.heap.size w (((w.alloc (.cells #[.slice A1 dd.st.length c1, .slice A2 dd.sy.length c2] 44)).alloc (.cells #[.int .i64 kd, .string fd, .slice A ws.length c, .int .i64 fr, .int .i64 tq, .slice B 0 d] 26))) := by (repeat' (first | exact Below.refl _ _ | apply Below.alloc | apply Below.setCell | apply Below.drew | apply below_draws)) <;> (first | omega | (simp <;> omega))
  have x0 : (((w.alloc (.cells #[.slice A1 dd.st.length c1, .slice A2 dd.sy.length c2] 44)).alloc (.cells #[.int .i64 kd, .string fd, .slice A ws.length c, .int .i64 fr, .int .i64 tq, .slice B 0 d] 26))).cell? ⟨w.heap.size, 0, none⟩ = some (.slice A1 dd.st.length c1) := by simp [go_sem]
  have x1 : (((w.alloc (.cells #[.slice A1 dd.st.length c1, .slice A2 dd.sy.length c2] 44)).alloc (.cells #[.int .i64 kd, .string fd, .slice A ws.length c, .int .i64 fr, .int .i64 tq, .slice B 0 d] 26))).cell? ⟨w.heap.size, 1, none⟩ = some (.slice A2 dd.sy.length c2) := by simp [go_sem]
  have y2 : (((w.alloc (.cells #[.slice A1 dd.st.length c1, .slice A2 dd.sy.length c2] 44)).alloc (.cells #[.int .i64 kd, .string fd, .slice A ws.length c, .int .i64 fr, .int .i64 tq, .slice B 0 d] 26))).cell? ⟨w.heap.size + 1, 2, none⟩ = some (.slice A ws.length c) := by simp [go_sem]
  have y5 : (((w.alloc (.cells #[.slice A1 dd.st.length c1, .slice A2 dd.sy.length c2] 44)).alloc (.cells #[.int .i64 kd, .string fd, .slice A ws.length c, .int .i64 fr, .int .i64 tq, .slice B 0 d] 26))).cell? ⟨w.heap.size + 1, 5, none⟩ = some (.slice B 0 d) := by simp [go_sem]
  have sz : w.heap.size + 1 < (((w.alloc (.cells #[.slice A1 dd.st.length c1, .slice A2 dd.sy.length c2] 44)).alloc (.cells #[.int .i64 kd, .string fd, .slice A ws.length c, .int .i64 fr, .int .i64 tq, .slice B 0 d] 26))).heap.size := by simp
  have hset0 := hset.below hB0
  obtain rfl | rfl := hk
  all_goals
    go_enter Tryd.func53, Tryd.ntmps53
    go_wp2_with fail
    generalize hW : (World.alloc (World.alloc w _) _) = W0 at hB0 x0 x1 y2 y5 sz hset0 ⊢
    clear hW hset
    have hBW0 := hBW.trans (hB0.mono hBW.size)
    have k0 : ∀ V, Below W0.heap.size W0 V → V.cell? ⟨w.heap.size, 0, none⟩ = some (.slice A1 dd.st.length c1) := fun V hV => (belowL hV (by omega)).trans x0
    have k1 : ∀ V, Below W0.heap.size W0 V → V.cell? ⟨w.heap.size, 1, none⟩ = some (.slice A2 dd.sy.length c2) := fun V hV => (belowL hV (by omega)).trans x1
    have k2 : ∀ V, Below W0.heap.size W0 V → V.cell? ⟨w.heap.size + 1, 2, none⟩ = some (.slice A ws.length c) := fun V hV => (belowL hV (by omega)).trans y2
    have HA := Lib.hid (fun V (hV : Below W0.heap.size W0 V) => hHC.out.below (hBW0.trans (hV.mono hBW0.size)))
    have HS := Lib.hid (fun V (hV : Below W0.heap.size W0 V) => SrcQ.below hHS.out (hBW0.trans (hV.mono hBW0.size)))
    clear x0 x1 y2
    go_region_held3 (fun V => Below W0.heap.size W0 V)
      ((repeat' (first | exact Below.refl _ _ | assumption | apply Below.alloc | apply Below.setCell | apply Below.drew | (refine Below.trans ?_ (Below.mono (by assumption) ?_)))) <;> (first | exact Below.size (by assumption) | omega | (simp; done) | (simp; omega) | (refine Nat.le_trans ?_ (Below.size (by assumption)); (first | omega | (simp <;> omega)))))
      (first
      | (go_at_call 70; refine (HJ.out _ (HS.out _ (by assumption))).mono ?_; rintro e w1 ⟨rfl, hb1⟩)
      | (go_at_call 84; refine (HT.out _ (HA.out _ (by assumption))).mono ?_; rintro e w2 ⟨g, cg, ⟨rfl, own2⟩, hb2⟩; have hgb := own2.capOk.2.2.1; have HO := Lib.hid (OwnE.src own2); have hgs := own2.capOk.2.2.2; have hb1s := Below.size hb2; have hj1 := Below.size (by assumption : Below W0.heap.size W0 w1); clear own2))
    rename_i hH
    generalize hgl : T.map (·.1) = TX
    have HMX := Lib.hid hgl
    have htl : TX.length = T.length := by rw [← hgl, List.length_map]
    have HG : Hid (∀ k (hk : k < T.length), xs ++ TX.take (k + 1) = (xs ++ TX.take k) ++ [T[k].1]) := fun k hk => by
      subst hgl
      rw [← List.take_append_getElem (by rw [List.length_map]; exact hk), List.getElem_map, List.append_assoc]
    have HTX : Hid (TX.take T.length = TX) := by show _ = _; rw [← htl, List.take_length]
    clear htl hgl HT HJ hHC hHS HA HS k0 k1 k2
    have hsz2 := hH.size
    have hset2 := hset0.below hH
    have y52 := (belowL hH (show w.heap.size + 1 < _ by omega)).trans y5
    have hB2 := hB0.trans (hH.mono hB0.size)
    have hne : b ≠ w.heap.size + 1 := by omega
    have hgb2 : g ≠ b := by omega
    clear hset0 y5
    go_wp2_with fail
    go_loopw [24] (fun iv wr => ∃ k : Nat, k ≤ T.length ∧ iv = .int .i64 k ∧ SetG wr b (n + k) (xs ++ TX.take k) ∧ OutG w2.heap.size b w2 wr) (fun iv _ => T.length - (intOf iv).toNat)
    case atStart => exact ⟨0, Nat.zero_le _, rfl, by simpa using hset2, OutG.refl _ _ _⟩
    case round =>
      obtain ⟨k, hk, rfl, hset, hO⟩ := hrel
      have hOs := hO.2.1
      by_cases hlt : k < T.length
      · obtain ⟨b', off, e, hbb, t0, t1⟩ := SrcE.atTm (SrcE.outG HO.out hO hgb2) hlt
        obtain ⟨rfl, rfl⟩ : g = b' ∧ 0 = off := by simpa using e
        have hi0 : (k : Int) < (T.length : Int) := by omega
        have HN := Lib.hid (HG.out k hlt)
        have hxz := hTz.out _ (List.getElem_mem hlt)
        simp only [Nat.zero_add] at t0 t1
        generalize T[k].1 = x at t0 HN hxz
        generalize T[k].2 = pp at t1
        have hBa : Below wr.heap.size wr (wr.alloc (.cells #[.string x, .int .i64 (pp : Int)] 108)) := (Below.refl _ _).alloc (Nat.le_refl _) _
        obtain ⟨w8, hput, hset8, hg8⟩ := (hset.below hBa).put hxz (by unfold maxLen; omega)
        rw [← HN.out] at hset8
        have hbr := hset.lt
        have hO8 : OutG w2.heap.size b w2 w8 := hO.trans (((OutG.of hBa).trans ((OutG.grown hg8).mono hBa.size)).mono hOs)
        clear hset e
        go_wp2
        go_roundw
        case rel => exact ⟨k + 1, by omega, by go_num, hset8, hO8⟩
        case measure => simp [intOf]; omega
      · obtain rfl : k = T.length := by omega
        have hi0 : ¬ (T.length : Int) < (T.length : Int) := by omega
        rw [HTX.out] at hset
        have y5r := (hO.cell (show w.heap.size + 1 < w2.heap.size by omega) (fun e => hne e.symm) 5).trans y52
        have hOF : OutG w.heap.size b w wr := (OutG.of hB2).trans (hO.mono (by omega))
        have hset3 : SetG wr b (n + T.length) (xs ++ List.map (·.1) T) := by rw [HMX.out]; exact hset
        generalize wr = w3 at y5r hOF hset3 ⊢
        go_wp2_with fail
        go_loopw [35] (fun iv wr => iv = .int .i64 0 ∧ wr = w3) (fun _ _ => 0)
        case atStart => exact ⟨rfl, rfl⟩
        case round =>
          obtain ⟨rfl, rfl⟩ := hrel
          go_wp2
          (first | go_end0 | (refine bodyPost_ret (results_none rfl _ _ _) rfl ?_) | (refine bodyPost_end (results_none rfl _ _ _) rfl ?_))
          exact ⟨rfl, n + T.length, by omega, hset3, hOF⟩
def GC (n : Nat) : Prop := ∀ (dd : ConfD) (A1 A2 : Option Addr) (c1 c2 : Nat) (q : QD) (A : Option Addr) (c : Nat) (B : Option Addr) (d : Nat) (m : Nat) (W w : World) (b n0 : Nat) (xs : List ByteArray),
  HasC W dd A1 c1 A2 → SmC dd → confB dd = true → HasQ n W q A c B → okQ m q = true → m ≤ 4 → Below W.heap.size W w → W.heap.size ≤ b → SetG w b n0 xs → n0 + 100 * 4 ^ m ≤ 1000000 →
  Calls Tryd.prog 53 #[.agg #[.slice A1 dd.st.length c1, .slice A2 dd.sy.length c2], .agg #[.int .i64 q.kd, .string q.fd, .slice A q.ws.length c, .int .i64 q.fr, .int .i64 q.tgt, .slice B q.ks.length d], .map (some b)] w (GatR (gathL dd m q) xs b n0 (100 * 4 ^ m) w)
theorem flatK_take (f : QD → List ByteArray) (xs : List ByteArray) {ks : List QD} {k : Nat} (hk : k < ks.length) : xs ++ (ks.take (k + 1)).flatMap f = (xs ++ (ks.take k).flatMap f) ++ f ks[k] := by
  rw [← List.take_append_getElem hk, List.flatMap_append]; simp
theorem GatR.up {M xs : List ByteArray} {b n k k' : Nat} {w : World} {e : Ending} {w' : World} (h : GatR M xs b n k w e w') (hk : k ≤ k') : GatR M xs b n k' w e w' := by
  obtain ⟨h1, n', h2, h3⟩ := h; exact ⟨h1, n', by omega, h3⟩
set_option maxRecDepth 20000 in
set_option maxHeartbeats 3200000 in
theorem gather_step (n : Nat) (IH : Hid (GC n)) : GC (n + 1) := fun dd A1 A2 c1 c2 q A c B d m W w b n0 xs hC hs hcb h hok hm hBW hb hset hn0 => by
  obtain ⟨p, rfl⟩ : ∃ p, m = p + 1 := by
    cases m with
    | zero => cases hok
    | succ p => exact ⟨p, rfl⟩
  obtain ⟨h1, h2⟩ := ok_parts hok
  have hpp : 1 ≤ 4 ^ p := Nat.pow_pos (by decide)
  have hps : 4 ^ (p + 1) = 4 ^ p * 4 := Nat.pow_succ 4 p
  by_cases ha : askW q = true
  · obtain ⟨h3, h4, h5, h6⟩ := ask_bare h1 ha
    have h7 := (termTx_len (d := dd) h1 ha).1
    have h8 := joinW_text h4 h6
    have e : gathL dd (p + 1) q = (termsB dd (tb (joinT [32] q.ws))).map (·.1) := by
      rw [gathL, if_pos ha]
      have hg : kidsG q = [] := by unfold kidsG; rw [h3]; simp
      rw [hg]
      simp [termTx]
    rw [e, show q.ks.length = 0 by rw [h3]; rfl]
    exact (gather_ask dd A1 A2 c1 c2 q.kd q.fr q.tgt q.fd q.ws A c B d W w b n0 xs (by unfold askW at ha; rw [Bool.or_eq_true, decide_eq_true_eq, decide_eq_true_eq] at ha; exact ha) hC hs hcb h.1 h5 h6 h7 h8 hBW hb hset (by omega)).mono fun _ _ h => h.up (by omega)
  · rw [gathL, if_neg ha, List.nil_append]
    have hk4 := node_kids4 h1
    have hNk : Hid (kidsG q = if q.kd = 9 then q.ks.take 1 else q.ks) := rfl
    have hkd : ¬ q.kd = 2 ∧ ¬ q.kd = 3 := by
      unfold askW at ha; rw [Bool.or_eq_true, decide_eq_true_eq, decide_eq_true_eq] at ha; exact ⟨fun e => ha (.inl e), fun e => ha (.inr e)⟩
    obtain ⟨K, hK⟩ : ∃ K, K = kidsG q := ⟨_, rfl⟩
    rw [← hK] at hNk ⊢
    clear hK ha hok h1
    have HK := Lib.hid h.2
    have HOK := Lib.hid h2
    have hHC := Lib.hid hC
    have hMM : 100 * 4 ^ (p + 1) = (100 * 4 ^ p) * 4 := by omega
    rw [hMM] at hn0 ⊢
    have HPM := Lib.hid (rfl : 100 * 4 ^ p = 100 * 4 ^ p)
    have HIH := Lib.hid (fun (y : QD) (A : Option Addr) (c : Nat) (B : Option Addr) (d : Nat) (w : World) (b n0 : Nat) (xs : List ByteArray) (h1 : HasQ n W y A c B) (h2 : okQ p y = true) (h3 : Below W.heap.size W w) (h4 : W.heap.size ≤ b) (h5 : SetG w b n0 xs) (h6 : n0 + 100 * 4 ^ p ≤ 1000000) => IH.out dd A1 A2 c1 c2 y A c B d p W w b n0 xs hC hs hcb h1 h2 (by omega) h3 h4 h5 h6)
    clear hMM hps hpp HPM h h2 hC
    generalize 100 * 4 ^ p = M at HIH hn0 ⊢
    obtain ⟨kd, fd, ws, fr, tq, ks⟩ := q
    simp only at hk4 hNk hkd HK HOK ⊢
    obtain ⟨hn2, hn3⟩ := hkd
    generalize gathL dd p = F at HIH ⊢
    have hd2 : (kd == 2) = false := beq_eq_false_iff_ne.2 hn2
    have hd3 : (kd == 3) = false := beq_eq_false_iff_ne.2 hn3
    have hbl := hset.lt
    have hB0 : Below w.heap.size w (((w.alloc (.cells #[.slice A1 dd.st.length c1, .slice A2 dd.sy.length c2] 44)).alloc (.cells #[.int .i64 kd, .string fd, .slice A ws.length c, .int .i64 fr, .int .i64 tq, .slice B ks.length d] 26))) := by (repeat' (first | exact Below.refl _ _ | apply Below.alloc | apply Below.setCell | apply Below.drew | apply below_draws)) <;> (first | omega | (simp <;> omega))
    have x0 : (((w.alloc (.cells #[.slice A1 dd.st.length c1, .slice A2 dd.sy.length c2] 44)).alloc (.cells #[.int .i64 kd, .string fd, .slice A ws.length c, .int .i64 fr, .int .i64 tq, .slice B ks.length d] 26))).cell? ⟨w.heap.size, 0, none⟩ = some (.slice A1 dd.st.length c1) := by simp [go_sem]
    have x1 : (((w.alloc (.cells #[.slice A1 dd.st.length c1, .slice A2 dd.sy.length c2] 44)).alloc (.cells #[.int .i64 kd, .string fd, .slice A ws.length c, .int .i64 fr, .int .i64 tq, .slice B ks.length d] 26))).cell? ⟨w.heap.size, 1, none⟩ = some (.slice A2 dd.sy.length c2) := by simp [go_sem]
    have y0 : (((w.alloc (.cells #[.slice A1 dd.st.length c1, .slice A2 dd.sy.length c2] 44)).alloc (.cells #[.int .i64 kd, .string fd, .slice A ws.length c, .int .i64 fr, .int .i64 tq, .slice B ks.length d] 26))).cell? ⟨w.heap.size + 1, 0, none⟩ = some (.int .i64 kd) := by simp [go_sem]
    have y5 : (((w.alloc (.cells #[.slice A1 dd.st.length c1, .slice A2 dd.sy.length c2] 44)).alloc (.cells #[.int .i64 kd, .string fd, .slice A ws.length c, .int .i64 fr, .int .i64 tq, .slice B ks.length d] 26))).cell? ⟨w.heap.size + 1, 5, none⟩ = some (.slice B ks.length d) := by simp [go_sem]
    have sz : w.heap.size + 1 < (((w.alloc (.cells #[.slice A1 dd.st.length c1, .slice A2 dd.sy.length c2] 44)).alloc (.cells #[.int .i64 kd, .string fd, .slice A ws.length c, .int .i64 fr, .int .i64 tq, .slice B ks.length d] 26))).heap.size := by simp
    have hset0 := hset.below hB0
    go_enter Tryd.func53, Tryd.ntmps53
    go_wp2_with fail
    generalize hW : (World.alloc (World.alloc w _) _) = W0 at hB0 x0 x1 y0 y5 sz hset0 ⊢
    clear hW hset
    have hBW0 := hBW.trans (hB0.mono hBW.size)
    have n1 : w.heap.size ≠ b := by omega
    have n2 : w.heap.size + 1 ≠ b := by omega
    have K0 := Lib.hid (fun V (hV : OutG W0.heap.size b W0 V) => (hV.cell (show w.heap.size < _ by omega) n1 0).trans x0)
    have K1 := Lib.hid (fun V (hV : OutG W0.heap.size b W0 V) => (hV.cell (show w.heap.size < _ by omega) n1 1).trans x1)
    have K2 := Lib.hid (fun V (hV : OutG W0.heap.size b W0 V) => (hV.cell (show w.heap.size + 1 < _ by omega) n2 0).trans y0)
    have hWW0 := hBW0.size
    clear x0 x1 y0
    go_loopw [35] (fun iv wr => ∃ k m' : Nat, k ≤ ks.length ∧ iv = .int .i64 k ∧ m' ≤ n0 + k * M ∧ SetG wr b m' (xs ++ (K.take k).flatMap F) ∧ OutG W0.heap.size b W0 wr) (fun iv _ => ks.length - (intOf iv).toNat)
    case atStart => exact ⟨0, n0, Nat.zero_le _, rfl, by omega, by simpa using hset0, OutG.refl _ _ _⟩
    case round =>
      obtain ⟨k, m', hk, rfl, hm', hset, hO⟩ := hrel
      have hOs := hO.2.1
      by_cases hlt : k < ks.length
      · have hi0 : (k : Int) < (ks.length : Int) := by omega
        have hBWr : Below W.heap.size W wr := hBW0.trans (hO.under hWW0 hb)
        obtain ⟨bq, off, A3, c3, B3, d3, rfl, hbb, z0, z1, z2, z3, z4, z5, hh⟩ := HK.out.cells hlt
        have hoky := HOK.out ks[k] (List.getElem_mem hlt)
        have hkM : (k + 1) * M ≤ 4 * M := Nat.mul_le_mul_right _ (by omega)
        rw [Nat.add_mul, Nat.one_mul] at hkM
        have hm2 : m' + M ≤ n0 + (k + 1) * M := by rw [Nat.add_mul, Nat.one_mul]; omega
        have hm3 : m' + M ≤ 1000000 := by omega
        have hm4 : m' ≤ n0 + (k + 1) * M := by omega
        replace z0 := (belowL hBWr hbb).trans z0
        replace z1 := (belowL hBWr hbb).trans z1
        replace z2 := (belowL hBWr hbb).trans z2
        replace z3 := (belowL hBWr hbb).trans z3
        replace z4 := (belowL hBWr hbb).trans z4
        replace z5 := (belowL hBWr hbb).trans z5
        have hcase : ((kd == 9) = true ∧ ¬ k = 0 ∧ (K.take (k + 1)).flatMap F = (K.take k).flatMap F) ∨ (((kd == 9) = false ∨ (kd == 9) = true ∧ k = 0) ∧ xs ++ (K.take (k + 1)).flatMap F = (xs ++ (K.take k).flatMap F) ++ F ks[k]) := by
          have h3 := hNk.out
          by_cases h9 : kd = 9
          · rw [if_pos h9] at h3
            by_cases hk0 : k = 0
            · refine .inr ⟨.inr ⟨beq_iff_eq.2 h9, hk0⟩, ?_⟩
              subst hk0
              have hkl : 0 < K.length := by rw [h3, List.length_take]; omega
              rw [flatK_take F xs hkl]
              congr 2
              subst h3
              simp
            · refine .inl ⟨beq_iff_eq.2 h9, hk0, ?_⟩
              have : K.length ≤ 1 := by rw [h3, List.length_take]; omega
              rw [List.take_of_length_le (by omega), List.take_of_length_le (by omega)]
          · rw [if_neg h9] at h3
            subst h3
            exact .inr ⟨.inl (beq_eq_false_iff_ne.2 h9), flatK_take F xs hlt⟩
        generalize ks[k] = y at z0 z1 z2 z3 z4 z5 hh hoky hcase
        have hBa : Below wr.heap.size wr (wr.alloc (.cells #[.int .i64 y.kd, .string y.fd, .slice A3 y.ws.length c3, .int .i64 y.fr, .int .i64 y.tgt, .slice B3 y.ks.length d3] 26)) := (Below.refl _ _).alloc (Nat.le_refl _) _
        have hOa := hO.trans ((OutG.of hBa).mono hOs)
        have hseta := hset.below hBa
        have hBWa : Below W.heap.size W _ := hBWr.trans (hBa.mono hBWr.size)
        have k0 := K0.out _ hOa
        have k1 := K1.out _ hOa
        have k2 := K2.out _ hOa
        rcases hcase with ⟨hb9, hk0, HN⟩ | ⟨hb9, HN⟩
        · have hb8 : (kd != 9) = false := by unfold bne; rw [hb9]; rfl
          have hk1 : ((k : Int) == 0) = false := beq_eq_false_iff_ne.2 (by omega)
          rw [← HN] at hseta
          clear HN hset hO hh
          go_wp2
          go_roundw
          case rel => exact ⟨k + 1, m', by omega, by go_num, hm4, hseta, hOa⟩
          case measure => simp [intOf]; omega
        · have hC1 := HIH.out y A3 c3 B3 d3 _ b m' _ hh hoky hBWa hb hseta (by omega)
          have hb8 : (kd == 9) = false ∧ (kd != 9) = true ∨ (kd == 9) = true ∧ (kd != 9) = false ∧ k = 0 := by
            rcases hb9 with h | ⟨h, h'⟩
            · exact .inl ⟨h, by unfold bne; rw [h]; rfl⟩
            · exact .inr ⟨h, by unfold bne; rw [h]; rfl, h'⟩
          clear hb9
          have HN := Lib.hid HN
          have HOA := Lib.hid hOa
          have HZ := Lib.hid (show (wr.alloc (.cells #[.int .i64 y.kd, .string y.fd, .slice A3 y.ws.length c3, .int .i64 y.fr, .int .i64 y.tgt, .slice B3 y.ks.length d3] 26)).heap.size = wr.heap.size + 1 by simp)
          clear hset hO hh hseta hOa hBWa hBa
          rcases hb8 with ⟨hb9, hb8⟩ | ⟨hb9, hb8, rfl⟩
          all_goals
            try simp only [Nat.zero_mul, Nat.add_zero] at z0 z1 z2 z3 z4 z5
            go_wp2_with fail
            refine hC1.mono ?_
            rintro e w5 ⟨rfl, n', hn', hset', hO'⟩
            have hO5 := HOA.out.trans (hO'.mono (by rw [HZ.out]; omega))
            rw [← HN.out] at hset'
            go_wp2
            go_roundw
            case rel => exact ⟨_ + 1, n', by omega, by go_num, by omega, hset', hO5⟩
            case measure => simp [intOf]; omega
      · obtain rfl : k = ks.length := by omega
        have hi0 : ¬ (ks.length : Int) < (ks.length : Int) := by omega
        have e : K.take ks.length = K := by
          refine List.take_of_length_le ?_
          rw [hNk.out]
          split
          · rw [List.length_take]; omega
          · exact Nat.le_refl _
        rw [e] at hset
        have hkM : ks.length * M ≤ 4 * M := Nat.mul_le_mul_right _ hk4
        have hOF : OutG w.heap.size b w wr := (OutG.of hB0).trans (hO.mono hB0.size)
        have hmF : m' ≤ n0 + M * 4 := by omega
        clear e
        go_wp2
        (first | go_end0 | (refine bodyPost_ret (results_none rfl _ _ _) rfl ?_) | (refine bodyPost_end (results_none rfl _ _ _) rfl ?_))
        exact ⟨rfl, m', hmF, hset, hOF⟩
end Go.Proofs.YtaobgliimbmemaaDoor
namespace Go.Proofs.YtaobgliimbmemaaDoor
open Go.RowKit Go.Sort Go.Maps

theorem encL_T (L : List ByteArray) : (L.map (·.data.toList)).map encStr = L.flatMap encT := by
  induction L with
  | nil => rfl
  | cons x r ih => rw [List.map_cons, List.map_cons, ih, List.flatMap_cons]; simp [encStr, encT]
theorem encS_T (L : List (List UInt8)) : L.map encStr = (L.map tb).flatMap encT := by
  induction L with
  | nil => rfl
  | cons x r ih => rw [List.map_cons, List.map_cons, ih, List.flatMap_cons]; simp [encStr, encT, tb]
theorem sort_ownT (g c base : Nat) (L : List ByteArray) (w : World) (h : OwnE encT 9 1 w base g c L) (hn : L.length ≤ 16777216) :
    Calls Tryd.prog 85 #[.slice (some ⟨g, 0, none⟩) L.length c] w fun e w' => e = .returned (.tuple #[]) ∧ OwnE encT 9 1 w' base g c (sortT L) ∧ w.grownBy w' (some g) ∧ Below base w w' := by
  have hcap := h.capOk
  rcases h.2 with ⟨h', _⟩ | ⟨g', cap, cur, hv, hb, hh, hnc, hcm, hcs, htake⟩
  · simp at h'
  · simp only [Value.slice.injEq, Option.some.injEq, Addr.mk.injEq, and_true, true_and] at hv
    obtain ⟨rfl, rfl⟩ := hv
    rw [Nat.mul_one] at htake
    have hl : (L.map (·.data.toList)).length = L.length := List.length_map ..
    have hts : ((L.map (·.data.toList)).mergeSort fun x y => decide (x ≤ y)).length = (L.map (·.data.toList)).length := List.length_mergeSort _
    have hc := Tryd.slices_Sort_string g 0 c (L.map (·.data.toList)) w (holds_of_block hh (by rw [hl, htake, encL_T])) hcap.2.2.2 (by rw [hl]; omega)
    rw [hl] at hc
    refine hc.mono ?_
    rintro e w' ⟨rfl, n, os, rfl⟩
    refine ⟨rfl, ?_, grownBy_sorted _, (Below.refl _ _).grown (grownBy_sorted _) (by omega) (fun k hk => by cases hk; exact hb)⟩
    have := ownsRow_sorted (n := n) (os := os) hts hb hh (by rw [hl]; exact hnc) hcm hcs
    rw [hl, encS_T] at this
    have hsl : (sortT L).length = L.length := by unfold sortT; rw [List.length_map, hts, hl]
    unfold OwnE
    rw [hsl]
    exact this
theorem gather_any : ∀ n, GC n
  | 0 => fun dd A1 A2 c1 c2 q A c B d m W w b n0 xs hC hs hcb h => h.elim
  | n + 1 => gather_step n (Lib.hid (gather_any n))
/-- what sortedKeys hands back. -/
def KeysR (xs : List ByteArray) (w : World) (e : Ending) (w' : World) : Prop :=
  ∃ (g c : Nat) (L : List ByteArray), (e = .returned (.slice (some ⟨g, 0, none⟩) L.length c) ∧ OwnE encT 9 1 w' w.heap.size g c L ∧ AscT L ∧ ∀ x, x ∈ L ↔ x ∈ xs) ∧ Below w.heap.size w w'
theorem ranG_len {K xs : List ByteArray} {left : Lit → Bool} (h : RanG K xs left) : K.length ≤ xs.length :=
  (List.Nodup.length_le_of_subset h.2.2 (fun x hx => h.2.1 x hx))
theorem grownT_none {w w' : World} {base e size n : Nat} {v : Value} {xs : List Value} (h : w.ownsRow base e size v n xs) (hg : w.grownBy w' none) : w'.ownsRow base e size v n xs := h.kept hg (Classical.em _)
theorem plainB_inv {H : Type} {P : Program} {e : TypeId} (he : P.underlying e = some .bool) {v : Value} {z : DataW H × List MemPlace} (h : plainElem P e v = some z) : ∃ x, v = .bool x := by
  unfold plainElem at h
  rw [he] at h
  cases v <;> simp at h
  exact ⟨_, rfl⟩
theorem keyOfG_inv {key : Value} {kl : Lit} (h : keyOf Tryd.prog 9 key = some kl) : ∃ x, key = .string x := by
  obtain ⟨s, hs, _⟩ := WideMaps.string_of_keyOf Tryd.underlying9 h
  exact ⟨s, hs⟩
set_option maxRecDepth 8000 in
set_option maxHeartbeats 1600000 in
theorem sortedKeys_any (b n : Nat) (xs : List ByteArray) (w : World) (h : SetG w b n xs) (hx : xs.length ≤ 1000000) :
    Calls Tryd.prog 54 #[.map (some b)] w (KeysR xs w) := by
  obtain ⟨D, hmo, hhas⟩ := h
  have HHAS := Lib.hid hhas
  clear hhas
  have hbl := hmo.lt
  have hB0 : Below w.heap.size w (w.alloc (.cells #[] 9)) := by (repeat' (first | exact Below.refl _ _ | apply Below.alloc | apply Below.setCell | apply Below.drew | apply below_draws)) <;> (first | omega | (simp <;> omega))
  have own0 := ownE_made (enc := encT) (F := 1) 9 w w.heap.size (Nat.le_refl _)
  have hmo0 := World.ownsMap.kept hmo (World.grownBy_alloc w (.cells #[] 9) none) (by simp)
  go_enter Tryd.func54, Tryd.ntmps54
  go_wp2_with (first
    | (at_range; refine wpList_range_own _ rfl _ 77 rfl 9 4 keyedG Tryd.underlying77 _ b n _ rfl hmo0 ?_; intro w6 hrg0 hg0 hs0)
    | go_in)
  go_frame
  have own6 : OwnE encT 9 1 w6 w.heap.size w.heap.size 0 [] := grownT_none own0 hg0
  have hB6 : Below w.heap.size w w6 := hB0.grown hg0 hB0.size (fun k hk => by cases hk)
  have hrb : w.heap.size ≤ (w.alloc (.cells #[] 9)).heap.size := hB0.size
  generalize (w.alloc (.cells #[] 9)).heap.size = rb at hrg0 hrb ⊢
  have hran0 : RanG [] xs (has D) := ⟨fun y => by rw [HHAS.out, show hasB [] y = false from rfl]; simp, fun p hp => by simp at hp, List.nodup_nil⟩
  clear own0 hB0 hg0 hs0 hmo0 hmo HHAS
  go_loopw [3, 4] (fun ov _ wq => ∃ (left : Lit → Bool) (cnt g c : Nat) (L : List ByteArray), ov = .slice (some ⟨g, 0, none⟩) L.length c ∧ wq.ranges Tryd.prog 9 (plainElem Tryd.prog 4) b rb n D left cnt ∧ Hid (RanG L xs left) ∧ OwnE encT 9 1 wq w.heap.size g c L ∧ Below w.heap.size w wq) (fun _ _ wq => wq.rangeLeft b rb)
  case atStart => exact ⟨_, _, _, _, [], rfl, hrg0, hran0, own6, hB6⟩
  case round =>
    obtain ⟨left, cnt, g, c9, L, rfl, hrg, hran, hown, hB⟩ := hrel
    have hLl := ranG_len hran.out
    have hBs := hB.size
    go_wp2_with (first
      | (at_next; refine wpList_next_ranges _ rfl _ rfl 9 keyedG _ Value.string (fun v : Value => v) (fun key kl hk => keyOfG_inv hk) (fun v y hv => ⟨v, rfl⟩) b rb n _ _ _ rfl hrg ?_ ?_)
      | go_in)
    · intro _ hl0
      have hfin := hran.out.done hl0
      go_wp2_with fail
      refine (sort_ownT g c9 w.heap.size L _ hown (by omega)).mono ?_
      rintro e w7 ⟨rfl, ownN, hgN, hbN⟩
      have hB7 : Below w.heap.size w w7 := hB.trans hbN
      have hsl : (sortT L).length = L.length := (sortT_perm L).length_eq
      have hS1 := sortT_asc hfin.1
      have hS2 : ∀ x, x ∈ sortT L ↔ x ∈ xs := fun x => ((sortT_perm L).mem_iff).trans (hfin.2 x)
      have HS := Lib.hid (And.intro hS1 hS2)
      have HSL := Lib.hid hsl
      clear hfin hran hS1 hS2 hsl
      go_wp2
      go_ret
      exact ⟨g, c9, sortT L, ⟨by rw [HSL.out]; rfl, ownN, HS.out.1, HS.out.2⟩, hB7⟩
    · intro x cc kl y y2 w1 cnt1 hkey hlx hv hat hrg1 hltc hg1 hs1 hen
      obtain ⟨s, hs, rfl, hss⟩ := WideMaps.string_of_keyOf Tryd.underlying9 hkey
      cases hs
      have hran2 : Hid (RanG (L ++ [x]) xs (fun z => left z && !z.sameKey (keyG x))) := hran.out.step hlx
      obtain ⟨hn1, hn2⟩ := rangesG_ne hrg hown
      have own1 : OwnE encT 9 1 w1 w.heap.size g c9 L := own_other hown hg1 (fun e => hn1 e.symm)
      have hB1 : Below w.heap.size w w1 := hB.grown hg1 hBs (fun k hk => by cases hk; exact hrb)
      have hB1s := hB1.size
      clear hran hlx hat hv hkey hss hown hB hg1 hs1
      go_wp2_with (first
        | (at_builtin; refine append_rec rowTStr encT_ok (by decide) rfl _ _ rfl w.heap.size _ _ L rfl (own1.alloc _) _ _ _ [x] rfl rfl (SrcE.lit encT_ok _ _ #[.string x] [x] rfl 1) (by simp; omega) (by omega) (by simp <;> omega) ?_)
        | go_in)
      intro N hN g6 c6 w7 own7 hg7 hat7 hb7
      obtain rfl : N = L ++ [x] := hN.out
      have hrg2 := hrg1.alloc (.cells #[.string x] 9)
      obtain ⟨hn3, hn4⟩ := rangesG_ne hrg2 (own1.alloc (.cells #[.string x] 9))
      have hrg7 := hrg2.kept hg7 (by simpa using hn4) (by simpa using hn3)
      have hB7 : Below w.heap.size w w7 := (hB1.alloc hB1s _).trans hb7
      have hm1 := hrg7.left_eq
      have hm0 := hrg.left_eq
      clear hN hg7 hat7 hb7 own1 hB1 hrg2 hn3 hn4 hn1 hn2 hen hrg1
      go_wp2
      go_roundw
      case rel => exact ⟨_, cnt1, g6, c6, L ++ [x], rfl, hrg7, hran2, own7, hB7⟩
      case measure => rw [hm1, hm0]; exact hltc
def TermsR (M : List ByteArray) (w : World) (e : Ending) (w' : World) : Prop := ∃ g c : Nat, (e = .returned (.slice (some ⟨g, 0, none⟩) M.length c) ∧ OwnE encT 9 1 w' w.heap.size g c M) ∧ Below w.heap.size w w'
theorem TermsR.mk {M L : List ByteArray} {w w3 w' : World} {v : Value} {g c : Nat} (hv : v = .slice (some ⟨g, 0, none⟩) L.length c) (hM : M = L) (hown : OwnE encT 9 1 w' w3.heap.size g c L) (hB : Below w.heap.size w w3) (hb : Below w3.heap.size w3 w') : TermsR M w (.returned v) w' := by
  subst hM hv
  exact ⟨g, c, ⟨rfl, own_monoZ hown hB.size⟩, hB.trans (hb.mono hB.size)⟩
set_option maxRecDepth 8000 in
theorem snipTerms_any (bm n : Nat) (dd : ConfD) (A1 A2 : Option Addr) (c1 c2 : Nat) (q : QD) (A : Option Addr) (c : Nat) (B : Option Addr) (d : Nat) (w : World)
    (hl : LaidSh bm w) (hC : HasC w dd A1 c1 A2) (hs : SmC dd) (h : HasQ n w q A c B) (hlq : LmQ 1048576 n q) (hwq : Hid (WfQ n q)) :
    Calls Tryd.prog 25 #[.agg #[.slice A1 dd.st.length c1, .slice A2 dd.sy.length c2], .agg #[.int .i64 q.kd, .string q.fd, .slice A q.ws.length c, .int .i64 q.fr, .int .i64 q.tgt, .slice B q.ks.length d]] w (TermsR (snipR dd q) w) := by
  have CO := Lib.hid (fun V (h : HasC V dd A1 c1 A2) => confOk_any dd A1 A2 c1 c2 V h hs)
  have CQ := Lib.hid (fun V (hl : LaidSh bm V) (h : HasQ n V q A c B) => queryOk_any bm n q A c B d V hl h hlq hwq)
  have CT := Lib.hid (fun V b (hcb : confB dd = true) (hok : okQ 4 q = true) (hB : Below w.heap.size w V) (hb : w.heap.size ≤ b) (hset : SetG V b 0 []) => gather_any n dd A1 A2 c1 c2 q A c B d 4 w V b 0 [] hC hs hcb h hok (Nat.le_refl _) hB hb hset (by omega))
  have HC := Lib.hid hC
  have HH := Lib.hid h
  have HLD := Lib.hid hl
  have hR1 : Hid (confB dd = true → okQ 4 q = true → ∀ L, AscT L → (∀ x, x ∈ L ↔ x ∈ [] ++ gathL dd 4 q) → snipR dd q = L) := fun h1 h2 L hA hx => by
    unfold snipR
    rw [h1, h2]
    exact (asc_one hA (spec17_asc dd 4 q) (fun x => (hx x).trans (by rw [List.nil_append]; exact (mem_spec17 dd x 4 q h2).symm))).symm
  have hR0 : Hid ((confB dd = false ∨ okQ 4 q = false) → ∀ L, AscT L → (∀ x, x ∈ L ↔ x ∈ ([] : List ByteArray)) → snipR dd q = L) := fun h1 L hA hx => by
    have e : L = [] := asc_one hA List.Pairwise.nil hx
    rw [e]
    unfold snipR
    rcases h1 with h1 | h1
    · rw [h1]; rfl
    · rw [h1, Bool.and_false]; rfl
  have hGL : okQ 4 q = true → (gathL dd 4 q).length ≤ 25600 := fun h => gathL_len dd 4 q h
  generalize snipR dd q = R at hR1 hR0 ⊢
  obtain ⟨kd, fd, ws, fr, tq, ks⟩ := q
  simp only at CQ CT HH hR1 hR0 hGL ⊢
  generalize okQ 4 (⟨kd, fd, ws, fr, tq, ks⟩ : QD) = rq at CQ CT hR1 hR0 hGL
  generalize gathL dd 4 (⟨kd, fd, ws, fr, tq, ks⟩ : QD) = L at CT hR1 hGL
  generalize confB dd = rc at CO CT hR1 hR0
  have HGL := Lib.hid hGL
  clear hC h hGL hl
  have hB0 : Below w.heap.size w (((w.alloc (.cells #[.slice A1 dd.st.length c1, .slice A2 dd.sy.length c2] 44)).alloc (.cells #[.int .i64 kd, .string fd, .slice A ws.length c, .int .i64 fr, .int .i64 tq, .slice B ks.length d] 26)).alloc (.map #[] 0)) := by (repeat' (first | exact Below.refl _ _ | apply Below.alloc | apply Below.setCell | apply Below.drew | apply below_draws)) <;> (first | omega | (simp <;> omega))
  have x0 : (((w.alloc (.cells #[.slice A1 dd.st.length c1, .slice A2 dd.sy.length c2] 44)).alloc (.cells #[.int .i64 kd, .string fd, .slice A ws.length c, .int .i64 fr, .int .i64 tq, .slice B ks.length d] 26)).alloc (.map #[] 0)).cell? ⟨w.heap.size, 0, none⟩ = some (.slice A1 dd.st.length c1) := by simp [go_sem]
  have x1 : (((w.alloc (.cells #[.slice A1 dd.st.length c1, .slice A2 dd.sy.length c2] 44)).alloc (.cells #[.int .i64 kd, .string fd, .slice A ws.length c, .int .i64 fr, .int .i64 tq, .slice B ks.length d] 26)).alloc (.map #[] 0)).cell? ⟨w.heap.size, 1, none⟩ = some (.slice A2 dd.sy.length c2) := by simp [go_sem]
  have y0 : (((w.alloc (.cells #[.slice A1 dd.st.length c1, .slice A2 dd.sy.length c2] 44)).alloc (.cells #[.int .i64 kd, .string fd, .slice A ws.length c, .int .i64 fr, .int .i64 tq, .slice B ks.length d] 26)).alloc (.map #[] 0)).cell? ⟨w.heap.size + 1, 0, none⟩ = some (.int .i64 kd) := by simp [go_sem]
  have y1 : (((w.alloc (.cells #[.slice A1 dd.st.length c1, .slice A2 dd.sy.length c2] 44)).alloc (.cells #[.int .i64 kd, .string fd, .slice A ws.length c, .int .i64 fr, .int .i64 tq, .slice B ks.length d] 26)).alloc (.map #[] 0)).cell? ⟨w.heap.size + 1, 1, none⟩ = some (.string fd) := by simp [go_sem]
  have y2 : (((w.alloc (.cells #[.slice A1 dd.st.length c1, .slice A2 dd.sy.length c2] 44)).alloc (.cells #[.int .i64 kd, .string fd, .slice A ws.length c, .int .i64 fr, .int .i64 tq, .slice B ks.length d] 26)).alloc (.map #[] 0)).cell? ⟨w.heap.size + 1, 2, none⟩ = some (.slice A ws.length c) := by simp [go_sem]
  have y3 : (((w.alloc (.cells #[.slice A1 dd.st.length c1, .slice A2 dd.sy.length c2] 44)).alloc (.cells #[.int .i64 kd, .string fd, .slice A ws.length c, .int .i64 fr, .int .i64 tq, .slice B ks.length d] 26)).alloc (.map #[] 0)).cell? ⟨w.heap.size + 1, 3, none⟩ = some (.int .i64 fr) := by simp [go_sem]
  have y4 : (((w.alloc (.cells #[.slice A1 dd.st.length c1, .slice A2 dd.sy.length c2] 44)).alloc (.cells #[.int .i64 kd, .string fd, .slice A ws.length c, .int .i64 fr, .int .i64 tq, .slice B ks.length d] 26)).alloc (.map #[] 0)).cell? ⟨w.heap.size + 1, 4, none⟩ = some (.int .i64 tq) := by simp [go_sem]
  have y5 : (((w.alloc (.cells #[.slice A1 dd.st.length c1, .slice A2 dd.sy.length c2] 44)).alloc (.cells #[.int .i64 kd, .string fd, .slice A ws.length c, .int .i64 fr, .int .i64 tq, .slice B ks.length d] 26)).alloc (.map #[] 0)).cell? ⟨w.heap.size + 1, 5, none⟩ = some (.slice B ks.length d) := by simp [go_sem]
  have sz : w.heap.size + 2 < (((w.alloc (.cells #[.slice A1 dd.st.length c1, .slice A2 dd.sy.length c2] 44)).alloc (.cells #[.int .i64 kd, .string fd, .slice A ws.length c, .int .i64 fr, .int .i64 tq, .slice B ks.length d] 26)).alloc (.map #[] 0)).heap.size := by simp
  have hset : SetG (((w.alloc (.cells #[.slice A1 dd.st.length c1, .slice A2 dd.sy.length c2] 44)).alloc (.cells #[.int .i64 kd, .string fd, .slice A ws.length c, .int .i64 fr, .int .i64 tq, .slice B ks.length d] 26)).alloc (.map #[] 0)) (w.heap.size + 2) 0 [] := by
    have := SetG.made ((w.alloc (.cells #[.slice A1 dd.st.length c1, .slice A2 dd.sy.length c2] 44)).alloc (.cells #[.int .i64 kd, .string fd, .slice A ws.length c, .int .i64 fr, .int .i64 tq, .slice B ks.length d] 26))
    simpa using this
  have hbb : w.heap.size ≤ w.heap.size + 2 := by omega
  have hmm := @run_makeMap Tryd.prog
  go_enter Tryd.func25, Tryd.ntmps25
  go_wp2_with fail
  generalize hW : (World.alloc (World.alloc (World.alloc w _) _) _) = W0 at hB0 x0 x1 y0 y1 y2 y3 y4 y5 sz hset ⊢
  clear hW
  refine (CO.out _ (HC.out.below hB0)).mono ?_
  rintro e w1 ⟨rfl, hb1⟩
  have hB1 := hB0.trans (hb1.mono hB0.size)
  have s1 := hb1.size
  replace hset := hset.below hb1
  replace x0 := (belowL hb1 (show w.heap.size < _ by omega)).trans x0
  replace x1 := (belowL hb1 (show w.heap.size < _ by omega)).trans x1
  replace y0 := (belowL hb1 (show w.heap.size + 1 < _ by omega)).trans y0
  replace y1 := (belowL hb1 (show w.heap.size + 1 < _ by omega)).trans y1
  replace y2 := (belowL hb1 (show w.heap.size + 1 < _ by omega)).trans y2
  replace y3 := (belowL hb1 (show w.heap.size + 1 < _ by omega)).trans y3
  replace y4 := (belowL hb1 (show w.heap.size + 1 < _ by omega)).trans y4
  replace y5 := (belowL hb1 (show w.heap.size + 1 < _ by omega)).trans y5
  cases rc with
  | false =>
    go_wp2_with fail
    refine (sortedKeys_any (w.heap.size + 2) 0 [] _ hset (by simp)).mono ?_
    rintro e w2 ⟨g, cg, K, ⟨rfl, hown, hA, hx⟩, hb2⟩
    have HR := Lib.hid (hR0.out (by first | exact .inl rfl | exact .inl trivial | trivial | simp) K hA hx)
    go_wp2
    go_ret
    exact TermsR.mk rfl HR.out hown hB1 hb2
  | true =>
    go_wp2_with fail
    refine (CQ.out _ (HLD.out.below hB1) (HH.out.below hB1)).mono ?_
    rintro e w2 ⟨rfl, hb2⟩
    have hB2 := hB1.trans (hb2.mono hB1.size)
    have s2 := hb2.size
    replace hset := hset.below hb2
    replace x0 := (belowL hb2 (show w.heap.size < _ by omega)).trans x0
    replace x1 := (belowL hb2 (show w.heap.size < _ by omega)).trans x1
    replace y0 := (belowL hb2 (show w.heap.size + 1 < _ by omega)).trans y0
    replace y1 := (belowL hb2 (show w.heap.size + 1 < _ by omega)).trans y1
    replace y2 := (belowL hb2 (show w.heap.size + 1 < _ by omega)).trans y2
    replace y3 := (belowL hb2 (show w.heap.size + 1 < _ by omega)).trans y3
    replace y4 := (belowL hb2 (show w.heap.size + 1 < _ by omega)).trans y4
    replace y5 := (belowL hb2 (show w.heap.size + 1 < _ by omega)).trans y5
    cases rq with
    | false =>
      go_wp2_with fail
      refine (sortedKeys_any (w.heap.size + 2) 0 [] _ hset (by simp)).mono ?_
      rintro e w3 ⟨g, cg, K, ⟨rfl, hown, hA, hx⟩, hb3⟩
      have HR := Lib.hid (hR0.out (by first | exact .inr rfl | exact .inr trivial | trivial | simp) K hA hx)
      go_wp2
      go_ret
      exact TermsR.mk rfl HR.out hown hB2 hb3
    | true =>
      go_wp2_with fail
      refine (CT.out _ (w.heap.size + 2) (by first | exact rfl | trivial) (by first | exact rfl | trivial) hB2 hbb hset).mono ?_
      rintro e w3 ⟨rfl, n', hn', hset', hO'⟩
      have hB3 := hB2.trans (hO'.under hB2.size hbb)
      have hgl := HGL.out (by first | exact rfl | trivial)
      go_wp2_with fail
      refine (sortedKeys_any (w.heap.size + 2) n' _ _ hset' (by simp; omega)).mono ?_
      rintro e w4 ⟨g, cg, K, ⟨rfl, hown, hA, hx⟩, hb4⟩
      have HR := Lib.hid (hR1.out (by first | exact rfl | trivial) (by first | exact rfl | trivial) K hA hx)
      go_wp2
      go_ret
      exact TermsR.mk rfl HR.out hown hB3 hb4
end Go.Proofs.YtaobgliimbmemaaDoor
