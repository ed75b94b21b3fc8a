/-
  spec's reader: l1Cut, l1Num.
-/
import Derived.Test.YtaobgliimbmemaaGreatDoorReadT
namespace Go.Proofs.YtaobgliimbmemaaGreatDoor
open Go.RowKit Go.Sort
set_option linter.unusedVariables false
set_option linter.unusedSimpArgs false

/-- what a call that makes a row of texts hands back. -/
def MakesT (L : List ByteArray) (w : World) (e : Ending) (w' : World) : Prop := ∃ g c : Nat, (e = .returned (.slice (some ⟨g, 0, none⟩) L.length c) ∧ OwnT w' w.heap.size g c L) ∧ Below w.heap.size w w'
theorem rest_zero (s : ByteArray) : rest s 0 = s.data.toList := rfl
theorem rest_take {s : ByteArray} {f i : Nat} (h1 : f ≤ i) (h2 : i < s.size) : (rest s f).take (i + 1 - f) = (rest s f).take (i - f) ++ [s[i]] := by
  have h3 : i - f < (rest s f).length := by rw [rest_len]; omega
  rw [show i + 1 - f = (i - f) + 1 by omega, ← List.take_append_getElem h3]
  congr 2
  have h6 : i < s.data.toList.length := by rw [bytes_len]; exact h2
  show (s.data.toList.drop f)[i - f] = _
  rw [List.getElem_drop]
  simp only [show f + (i - f) = i by omega]
  rfl
theorem rest_split {s : ByteArray} {f i : Nat} (h1 : f ≤ i) (h2 : i < s.size) : rest s f = (rest s f).take (i - f) ++ s[i] :: rest s (i + 1) := by
  conv => lhs; rw [← List.take_append_drop (i - f) (rest s f)]
  congr 1
  unfold rest
  rw [List.drop_drop, show f + (i - f) = i by omega]
  exact rest_cons h2
theorem litT {V V' : World} {x : ByteArray} {b c : Nat} (h2 : V'.heap = (V.alloc (.cells #[.string x] 9)).heap) (h0 : b = V.heap.size) : SrcT V' (some ⟨b, 0, none⟩) c [x] := by
  subst h0
  exact SrcE.blk (cs := #[.string x]) (E := 9) encT_ok (by rw [h2]; exact heap_alloc_new _ _) rfl
set_option maxHeartbeats 3200000 in
theorem l1Cut_any (s : ByteArray) (b : UInt8) (y : Int) (hy : y = (b.toNat : Int)) (m : Nat) (z : Int) (hz : z = (m : Int)) (w : World) (hs : s.size ≤ 1000) (hm : m ≤ 5) :
    Calls Tryz.prog 43 #[.string s, .int .u8 y, .int .i64 z] w (MakesT ((cutS b m s.data.toList).map tb) w) := by
  obtain ⟨R, hR⟩ : ∃ R, R = (cutS b m s.data.toList).map tb := ⟨_, rfl⟩
  rw [← hR]
  have HR : Hid (R = [] ++ (cutS b (m - 0) (rest s 0)).map tb) := by show _ = _; rw [hR]; rfl
  clear hR
  subst hy hz
  have own0 := ownE_made (enc := encT) (F := 1) 9 w w.heap.size (Nat.le_refl _)
  have hB0 : Below w.heap.size w (w.alloc (.cells #[] 9)) := (Below.refl _ _).alloc (Nat.le_refl _) _
  go_enter Tryz.func43, Tryz.ntmps43
  go_wp2_with fail
  generalize (w.alloc (.cells #[] 9)) = w0 at hB0 own0 ⊢
  go_loopw [7, 8, 9] (fun ov fv iv wr => ∃ i f : Nat, f ≤ i ∧ i ≤ s.size ∧ iv = .int .i64 i ∧ fv = .int .i64 f ∧ ∃ (g c : Nat) (O : List ByteArray), ov = .slice (some ⟨g, 0, none⟩) O.length c ∧ O.length ≤ m ∧ Hid (R = O ++ (cutS b (m - O.length) (rest s f)).map tb) ∧ Hid (b ∉ (rest s f).take (i - f)) ∧ OwnT wr w.heap.size g c O ∧ Below w.heap.size w wr) (fun _ _ iv _ => s.size - (intOf iv).toNat)
  case atStart => exact ⟨0, 0, Nat.le_refl _, Nat.zero_le _, rfl, rfl, _, _, [], rfl, Nat.zero_le _, HR, by show _ ∉ _; simp, own0, hB0⟩
  case round =>
    clear own0 hB0 HR
    obtain ⟨wo, hwo⟩ : ∃ wo, wo = wr := ⟨_, rfl⟩
    subst hwo
    obtain ⟨i, f, hfi, hi, rfl, rfl, g, co, O, rfl, hOm, hR, hno, own, hB⟩ := hrel
    have hBs := hB.size
    by_cases hlt : i < s.size
    · have hi0 : (i : Int) < (s.size : Int) := by omega
      by_cases hOl : O.length < m
      · have hOl0 : (O.length : Int) < (m : Int) := by omega
        by_cases hb : s[i] = b
        · have hbv : ((s[i].toNat : Int) == (b.toNat : Int)) = true := by rw [hb]; simp
          have HE := Lib.hid (ext_tb s f i)
          have HN : Hid (R = O ++ [tb ((rest s f).take (i - f))] ++ (cutS b (m - (O.length + 1)) (rest s (i + 1))).map tb) := by
            show _ = _
            rw [hR.out]
            conv => lhs; rw [show m - O.length = (m - (O.length + 1)) + 1 by omega, rest_split hfi hlt, hb, cutS_at hno.out]
            rw [List.map_cons, List.append_assoc]; rfl
          have hfz : (f : Int) ≤ (i : Int) := by omega
          generalize tb ((rest s f).take (i - f)) = t at HE HN
          clear hR hno hb
          go_wp2_with (at_builtin; refine append_rec rowTStr encT_ok (by decide) rfl _ _ rfl w.heap.size _ _ O rfl (own.alloc _) _ _ _ [s.extract f i] rfl rfl (SrcE.lit encT_ok _ _ #[.string (s.extract f i)] [s.extract f i] rfl 1) (by simp; omega) (by omega) (by simp <;> omega) ?_)
          intro N hN g2 c2 w2 own2 hg2 hat2 hb2
          have hB2 : Below w.heap.size w w2 := hB.trans (Below.trans ((Below.refl _ _).alloc hBs _) hb2)
          have hNl : N.length = O.length + 1 := by rw [hN.out]; simp
          have HN2 : Hid (R = N ++ (cutS b (m - N.length) (rest s (i + 1))).map tb) := by show _ = _; rw [HN.out, hNl, hN.out, HE.out]
          have HX : Hid (b ∉ (rest s (i + 1)).take (i + 1 - (i + 1))) := by show _ ∉ _; simp
          have hNm : N.length ≤ m := by omega
          clear hN HN HE own hg2 hat2 hb2 hbv hNl hB
          go_wp2
          go_roundw
          case rel => exact ⟨i + 1, i + 1, Nat.le_refl _, by omega, by go_num, by go_num, g2, c2, N, rfl, hNm, HN2, HX, own2, hB2⟩
          case measure => simp [intOf]; omega
        · have hbv : ((s[i].toNat : Int) == (b.toNat : Int)) = false := by
            rw [beq_eq_false_iff_ne]
            exact fun e => hb (UInt8.toNat_inj.1 (by omega))
          have HX : Hid (b ∉ (rest s f).take (i + 1 - f)) := by
            show _ ∉ _
            rw [rest_take hfi hlt, List.mem_append]
            rintro (h | h)
            · exact hno.out h
            · exact hb (List.mem_singleton.1 h).symm
          clear hno hb
          go_wp2
          go_roundw
          case rel => exact ⟨i + 1, f, by omega, by omega, by go_num, rfl, g, co, O, rfl, hOm, hR, HX, own, hB⟩
          case measure => simp [intOf]; omega
      · have hOl0 : ¬ (O.length : Int) < (m : Int) := by omega
        have HN : Hid (R = O ++ [s.extract f s.size]) := by
          show _ = _
          rw [hR.out, show m - O.length = 0 by omega, cutS, ext_tb, List.take_of_length_le (by rw [rest_len]; omega)]; rfl
        have hfz : (f : Int) ≤ (s.size : Int) := by omega
        clear hR hno
        go_wp2_with (at_builtin; refine append_rec rowTStr encT_ok (by decide) rfl _ _ rfl w.heap.size _ _ O rfl (own.alloc _) _ _ _ [s.extract f s.size] rfl rfl (SrcE.lit encT_ok _ _ #[.string (s.extract f s.size)] [s.extract f s.size] rfl 1) (by simp; omega) (by omega) (by simp <;> omega) ?_)
        intro N hN g2 c2 w2 own2 hg2 hat2 hb2
        have hB2 : Below w.heap.size w w2 := hB.trans (Below.trans ((Below.refl _ _).alloc hBs _) hb2)
        obtain rfl : N = R := by rw [hN.out, HN.out]
        clear hN HN own hg2 hat2 hb2 hB
        go_wp2
        go_ret
        exact ⟨g2, c2, ⟨rfl, own2⟩, hB2⟩
    · have hi0 : ¬ (i : Int) < (s.size : Int) := by omega
      obtain rfl : i = s.size := by omega
      have HN : Hid (R = O ++ [s.extract f s.size]) := by
        show _ = _
        rw [hR.out, cutS_none (by have := hno.out; rwa [List.take_of_length_le (by rw [rest_len]; omega)] at this), ext_tb, List.take_of_length_le (by rw [rest_len]; omega)]; rfl
      have hfz : (f : Int) ≤ (s.size : Int) := by omega
      clear hR hno
      go_wp2_with (at_builtin; refine append_rec rowTStr encT_ok (by decide) rfl _ _ rfl w.heap.size _ _ O rfl (own.alloc _) _ _ _ [s.extract f s.size] rfl rfl (SrcE.lit encT_ok _ _ #[.string (s.extract f s.size)] [s.extract f s.size] rfl 1) (by simp; omega) (by omega) (by simp <;> omega) ?_)
      intro N hN g2 c2 w2 own2 hg2 hat2 hb2
      have hB2 : Below w.heap.size w w2 := hB.trans (Below.trans ((Below.refl _ _).alloc hBs _) hb2)
      obtain rfl : N = R := by rw [hN.out, HN.out]
      clear hN HN own hg2 hat2 hb2 hB
      go_wp2
      go_ret
      exact ⟨g2, c2, ⟨rfl, own2⟩, hB2⟩
/-! numbers -/
theorem valL_snoc (l : Tx) (b : UInt8) : valL 0 (l ++ [b]) = valL 0 l * 10 + (b.toNat - 48) := by unfold valL; rw [List.foldl_append]; rfl
theorem valL_lt : ∀ (l : Tx), (∀ b ∈ l, digB b = true) → ∀ acc : Nat, valL acc l < (acc + 1) * 10 ^ l.length
  | [], _, acc => by show acc < _; simp
  | b :: r, h, acc => by
    have h1 := valL_lt r (fun x hx => h x (List.mem_cons_of_mem _ hx)) (acc * 10 + (b.toNat - 48))
    have h2 : b.toNat ≤ 57 := (of_decide_eq_true (h b (by simp))).2
    show valL (acc * 10 + (b.toNat - 48)) r < _
    rw [List.length_cons, Nat.pow_succ]
    refine Nat.lt_of_lt_of_le h1 ?_
    rw [Nat.mul_comm (10 ^ r.length) 10, ← Nat.mul_assoc]
    exact Nat.mul_le_mul_right _ (by omega)
theorem numS_all {l : Tx} (h : ∀ b ∈ l, digB b = true) (h9 : l.length ≤ 9) : numS l = if l = [] ∨ (l.length > 1 ∧ l.head? = some 48) then (-1 : Int) else ((valL 0 l : Nat) : Int) := by
  unfold numS
  by_cases h1 : l = [] ∨ (l.length > 1 ∧ l.head? = some 48)
  · rw [if_pos h1, if_neg]
    rintro ⟨_, _, h4, h5⟩
    exact h1.elim h4 h5
  · rw [if_neg h1, if_pos ⟨List.all_eq_true.2 h, h9, fun e => h1 (.inl e), fun e => h1 (.inr e)⟩]
theorem numS_bad {l : Tx} {b : UInt8} (hb : b ∈ l) (h : digB b = false) : numS l = -1 := by
  unfold numS
  rw [if_neg]
  rintro ⟨h1, _⟩
  rw [List.all_eq_true.1 h1 b hb] at h
  cases h
theorem numS_long {l : Tx} (h : 9 < l.length) : numS l = -1 := by
  unfold numS
  rw [if_neg (fun e => by have := e.2.1; omega)]
set_option maxRecDepth 8000 in
set_option maxHeartbeats 3200000 in
theorem l1Num_any (s : ByteArray) (w : World) (hs : s.size ≤ 1000) :
    Calls Tryz.prog 30 #[.string s] w fun e w' => e = .returned (.int .i64 (numS s.data.toList)) ∧ w = w' := by
  obtain ⟨R, hR⟩ : ∃ R, R = numS s.data.toList := ⟨_, rfl⟩
  rw [← hR]
  have HR := Lib.hid hR
  clear hR
  go_enter Tryz.func30, Tryz.ntmps30
  go_wp2_with fail
  go_loop [3, 4] (fun nv iv => ∃ (i n : Nat), i ≤ s.size ∧ i ≤ 9 ∧ iv = .int .i64 i ∧ nv = .int .i64 n ∧ n ≤ 999999999 ∧ Hid (n = valL 0 (s.data.toList.take i)) ∧ Hid (∀ b ∈ s.data.toList.take i, digB b = true)) (fun _ iv => s.size - (intOf iv).toNat)
  case atStart => exact ⟨0, 0, Nat.zero_le _, by omega, rfl, rfl, by omega, rfl, by show ∀ b ∈ _, _; simp⟩
  case round =>
    obtain ⟨i, n, hi, hi9, rfl, rfl, hn, hv, hd⟩ := hrel
    by_cases hlt : i < s.size
    · have hi0 : (i : Int) < (s.size : Int) := by omega
      have hmem : Hid (s[i] ∈ s.data.toList) := by show _ ∈ _; exact List.mem_iff_getElem.2 ⟨i, by rw [bytes_len]; exact hlt, rfl⟩
      have hb := s[i].toNat_lt
      by_cases h1 : (s[i].toNat : Int) < 48
      · have HN : Hid (R = -1) := by show _ = _; rw [HR.out]; exact numS_bad hmem.out (decide_eq_false (by omega))
        have d1 : decide ((s[i].toNat : Int) < 48) = true := decide_eq_true h1
        clear hv hd hmem
        go_wp2
        go_ret
        exact ⟨ret_int HN.out.symm, rfl⟩
      · have d1 : decide ((s[i].toNat : Int) < 48) = false := decide_eq_false h1
        by_cases h2 : 57 < (s[i].toNat : Int)
        · have HN : Hid (R = -1) := by show _ = _; rw [HR.out]; exact numS_bad hmem.out (decide_eq_false (by omega))
          have d2 : decide (57 < (s[i].toNat : Int)) = true := decide_eq_true h2
          clear hv hd hmem
          go_wp2
          go_ret
          exact ⟨ret_int HN.out.symm, rfl⟩
        · have d2 : decide (57 < (s[i].toNat : Int)) = false := decide_eq_false h2
          by_cases h3 : 9 ≤ i
          · have HN : Hid (R = -1) := by show _ = _; rw [HR.out]; exact numS_long (by rw [bytes_len]; omega)
            have h30 : 9 ≤ (i : Int) := by omega
            have d3 : decide (9 ≤ (i : Int)) = true := decide_eq_true h30
            clear hv hd hmem
            go_wp2
            go_ret
            exact ⟨ret_int HN.out.symm, rfl⟩
          · have h30 : ¬ 9 ≤ (i : Int) := by omega
            have d3 : decide (9 ≤ (i : Int)) = false := decide_eq_false h30
            obtain ⟨n2, hn2⟩ : ∃ n2, n2 = n * 10 + (s[i].toNat - 48) := ⟨_, rfl⟩
            have hdig : digB s[i] = true := decide_eq_true (by omega)
            have HD : Hid (∀ b ∈ s.data.toList.take (i + 1), digB b = true) := by
              show ∀ b ∈ _, _
              rw [take_next s i hlt]
              intro x hx
              rcases List.mem_append.1 hx with hx | hx
              · exact hd.out x hx
              · rw [List.mem_singleton] at hx; rw [hx]; exact hdig
            have HV : Hid (n2 = valL 0 (s.data.toList.take (i + 1))) := by show _ = _; rw [take_next s i hlt, valL_snoc, ← hv.out, hn2]
            have hn3 : n2 ≤ 999999999 := by
              have h4 := valL_lt _ HD.out 0
              rw [← HV.out, List.length_take, Nat.min_eq_left (by rw [bytes_len]; omega)] at h4
              have h5 : 10 ^ (i + 1) ≤ 10 ^ 9 := Nat.pow_le_pow_right (by omega) (by omega)
              omega
            have e1 : IntKind.i64.wrap ((n : Int) * 10) = (n : Int) * 10 := by rw [IntKind.wrap_i64] <;> omega
            have e2 : IntKind.u8.wrap ((s[i].toNat : Int) - 48) = (s[i].toNat : Int) - 48 := by rw [IntKind.wrap_u8] <;> omega
            have e3 : IntKind.i64.wrap ((s[i].toNat : Int) - 48) = (s[i].toNat : Int) - 48 := by rw [IntKind.wrap_i64] <;> omega
            have e4 : IntKind.i64.wrap ((n : Int) * 10 + ((s[i].toNat : Int) - 48)) = (n2 : Int) := by rw [IntKind.wrap_i64] <;> omega
            have hi1 : i + 1 ≤ 9 := by omega
            clear hv hd hmem hn2 hdig
            go_wp2
            go_round
            case rel => exact ⟨i + 1, n2, by omega, hi1, by go_num, by first | rfl | go_num, hn3, HV, HD⟩
            case measure => simp [intOf]; omega
    · obtain rfl : i = s.size := by omega
      have hall : ∀ b ∈ s.data.toList, digB b = true := by have := hd.out; rwa [List.take_of_length_le (by rw [bytes_len]; omega)] at this
      have hval : n = valL 0 s.data.toList := by have := hv.out; rwa [List.take_of_length_le (by rw [bytes_len]; omega)] at this
      have hns := numS_all hall (by rw [bytes_len]; exact hi9)
      rw [← hval, ← HR.out] at hns
      clear hv hd hall hval
      by_cases h0 : s.size = 0
      · have HN : Hid (R = -1) := by show _ = _; rw [hns, if_pos (.inl (List.length_eq_zero_iff.1 (by rw [bytes_len]; exact h0)))]
        have e0 : ((s.size : Int) == 0) = true := by rw [h0]; rfl
        clear hns
        go_wp2
        go_ret
        exact ⟨ret_int HN.out.symm, rfl⟩
      · have e0 : ((s.size : Int) == 0) = false := by rw [beq_eq_false_iff_ne]; omega
        have hne : s.data.toList ≠ [] := fun e => h0 (by rw [← bytes_len, e]; rfl)
        have hp : 0 < s.size := by omega
        have hp0 : (0 : Int) < (s.size : Int) := by omega
        have hhd : s.data.toList.head? = some s[0] := by rw [List.head?_eq_getElem?, List.getElem?_eq_getElem (by rw [bytes_len]; exact hp)]; rfl
        rw [hhd, bytes_len] at hns
        by_cases h1 : 1 < s.size
        · have h10 : (1 : Int) < (s.size : Int) := by omega
          have d1 : decide ((1 : Int) < (s.size : Int)) = true := decide_eq_true h10
          by_cases h48 : s[0] = 48
          · have e1 : ((s[0].toNat : Int) == 48) = true := by rw [h48]; rfl
            have HN : Hid (R = -1) := by show _ = _; rw [hns, if_pos (.inr ⟨h1, by rw [h48]⟩)]
            clear hns hhd h48
            go_wp2
            go_ret
            exact ⟨ret_int HN.out.symm, rfl⟩
          · have e1 : ((s[0].toNat : Int) == 48) = false := by rw [beq_eq_false_iff_ne]; exact fun e => h48 (UInt8.toNat_inj.1 (by show s[0].toNat = 48; omega))
            have HN : Hid (R = (n : Int)) := by show _ = _; rw [hns, if_neg (fun e => e.elim hne (fun e => h48 (Option.some.inj e.2)))]
            clear hns hhd h48
            go_wp2
            go_ret
            exact ⟨ret_int HN.out.symm, rfl⟩
        · have h10 : ¬ (1 : Int) < (s.size : Int) := by omega
          have d1 : decide ((1 : Int) < (s.size : Int)) = false := decide_eq_false h10
          have HN : Hid (R = (n : Int)) := by show _ = _; rw [hns, if_neg (fun e => e.elim hne (fun e => h1 e.1))]
          clear hns hhd
          go_wp2
          go_ret
          exact ⟨ret_int HN.out.symm, rfl⟩
/-! where a piece ends -/
set_option maxRecDepth 8000 in
set_option maxHeartbeats 3200000 in
theorem l11End_any (s : ByteArray) (w : World) (hs : s.size ≤ 1000) :
    Calls Tryz.prog 29 #[.string s] w fun e w' => e = .returned (.int .i64 ((endL 0 s.data.toList : Nat) : Int)) ∧ w = w' := by
  obtain ⟨R, hR⟩ : ∃ R, R = endL 0 s.data.toList := ⟨_, rfl⟩
  rw [← hR]
  have HR : Hid (R = 0 + endL 0 (rest s 0)) := by show _ = _; rw [hR, Nat.zero_add]; rfl
  clear hR
  go_enter Tryz.func29, Tryz.ntmps29
  go_wp2_with fail
  go_loop [3, 4] (fun ov iv => ∃ (i o : Nat), i ≤ s.size ∧ o ≤ i ∧ iv = .int .i64 i ∧ ov = .int .i64 o ∧ Hid (R = i + endL o (rest s i))) (fun _ iv => s.size - (intOf iv).toNat)
  case atStart => exact ⟨0, 0, Nat.zero_le _, Nat.le_refl _, rfl, rfl, HR⟩
  case round =>
    clear HR
    obtain ⟨i, o, hi, hoi, rfl, rfl, hR⟩ := hrel
    by_cases hlt : i < s.size
    · have hi0 : (i : Int) < (s.size : Int) := by omega
      have hst : endL o (rest s i) = if s[i] = 40 then endL (o + 1) (rest s (i + 1)) + 1 else if (s[i] = 41 ∨ s[i] = 32) ∧ o = 0 then 0 else if s[i] = 41 then endL (o - 1) (rest s (i + 1)) + 1 else endL o (rest s (i + 1)) + 1 := by rw [rest_cons hlt, endL]
      have hc : ∀ k : UInt8, ((s[i].toNat : Int) == (k.toNat : Int)) = decide (s[i] = k) := fun k => by
        rw [Bool.eq_iff_iff, beq_iff_eq, decide_eq_true_iff]
        exact ⟨fun e => UInt8.toNat_inj.1 (by omega), fun e => by rw [e]⟩
      have c40 : ((s[i].toNat : Int) == 40) = decide (s[i] = 40) := hc 40
      have c41 : ((s[i].toNat : Int) == 41) = decide (s[i] = 41) := hc 41
      have c32 : ((s[i].toNat : Int) == 32) = decide (s[i] = 32) := hc 32
      clear hc
      by_cases h40 : s[i] = 40
      · rw [decide_eq_true h40] at c40
        have HN : Hid (R = i + 1 + endL (o + 1) (rest s (i + 1))) := by show _ = _; rw [hR.out, hst, if_pos h40]; omega
        clear hst hR c41 c32 h40
        go_wp2
        go_round
        case rel => exact ⟨i + 1, o + 1, by omega, by omega, by go_num, by go_num, HN⟩
        case measure => simp [intOf]; omega
      · rw [decide_eq_false h40] at c40
        rw [if_neg h40] at hst
        by_cases h41 : s[i] = 41
        · rw [decide_eq_true h41] at c41
          by_cases ho : o = 0
          · subst ho
            have HN : Hid (R = i) := by show _ = _; rw [hR.out, hst, if_pos ⟨.inl h41, rfl⟩]; omega
            clear hst hR c32 h40 h41
            go_wp2
            go_ret
            exact ⟨by rw [HN.out]; rfl, rfl⟩
          · have eo : ((o : Int) == 0) = false := by rw [beq_eq_false_iff_ne]; omega
            have h32 : ¬ s[i] = 32 := fun e => by rw [h41] at e; revert e; decide
            rw [decide_eq_false h32] at c32
            have HN : Hid (R = i + 1 + endL (o - 1) (rest s (i + 1))) := by show _ = _; rw [hR.out, hst, if_neg (fun e => ho e.2), if_pos h41]; omega
            have e1 : IntKind.i64.wrap ((o : Int) - 1) = ((o - 1 : Nat) : Int) := by rw [IntKind.wrap_i64] <;> omega
            obtain ⟨o2, ho2⟩ : ∃ o2, o2 = o - 1 := ⟨_, rfl⟩
            rw [← ho2] at HN e1
            have ho3 : o2 ≤ i + 1 := by omega
            clear hst hR h40 h41 h32 ho2
            go_wp2
            go_round
            case rel => exact ⟨i + 1, o2, by omega, ho3, by go_num, by first | rfl | go_num, HN⟩
            case measure => simp [intOf]; omega
        · rw [decide_eq_false h41] at c41
          by_cases h32 : s[i] = 32
          · rw [decide_eq_true h32] at c32
            by_cases ho : o = 0
            · subst ho
              have HN : Hid (R = i) := by show _ = _; rw [hR.out, hst, if_pos ⟨.inr h32, rfl⟩]; omega
              clear hst hR h32 h40 h41
              go_wp2
              go_ret
              exact ⟨by rw [HN.out]; rfl, rfl⟩
            · have eo : ((o : Int) == 0) = false := by rw [beq_eq_false_iff_ne]; omega
              have HN : Hid (R = i + 1 + endL o (rest s (i + 1))) := by show _ = _; rw [hR.out, hst, if_neg (fun e => ho e.2), if_neg h41]; omega
              have ho3 : o ≤ i + 1 := by omega
              clear hst hR h40 h41 h32
              go_wp2
              go_round
              case rel => exact ⟨i + 1, o, by omega, ho3, by go_num, rfl, HN⟩
              case measure => simp [intOf]; omega
          · rw [decide_eq_false h32] at c32
            have HN : Hid (R = i + 1 + endL o (rest s (i + 1))) := by show _ = _; rw [hR.out, hst, if_neg (fun e => e.1.elim h41 h32), if_neg h41]; omega
            have ho3 : o ≤ i + 1 := by omega
            clear hst hR h40 h41 h32
            go_wp2
            go_round
            case rel => exact ⟨i + 1, o, by omega, ho3, by go_num, rfl, HN⟩
            case measure => simp [intOf]; omega
    · obtain rfl : i = s.size := by omega
      have HN : Hid (R = s.size) := by show _ = _; rw [hR.out, rest_end (Nat.le_refl _), endL]; omega
      clear hR
      go_wp2
      go_ret
      exact ⟨by rw [HN.out]; rfl, rfl⟩
end Go.Proofs.YtaobgliimbmemaaGreatDoor
