/-
  spec.l1Dec, l11Join, l11Put, QueryPut: what is written is putL.
-/
import Derived.Test.YtaobgliimbmemaaGreatDoorQLaw
import Derived.Lib.Join
import Derived.Laws.Concat
import Derived.Deep.RegionWith
namespace Go.Proofs.YtaobgliimbmemaaGreatDoor
open Go.RowKit Go.Sort
set_option linter.unusedVariables false
set_option linter.unusedSimpArgs false

theorem tb_app (a b : Tx) : tb a ++ tb b = tb (a ++ b) := by
  apply ByteArray.ext
  simp [tb]
theorem ret_t {a b : ByteArray} (h : a = b) : Ending.returned (.string a) = .returned (.string b) := by rw [h]
theorem decL_lt {n : Nat} (h : n < 10) : decL (n : Int) = [UInt8.ofNat (48 + n)] := by unfold decL; rw [Int.toNat_natCast, Lib.decDigits, dif_pos h]
theorem decL_ge {n : Nat} (h : ¬ n < 10) : decL (n : Int) = decL ((n / 10 : Nat) : Int) ++ [UInt8.ofNat (48 + n % 10)] := by
  unfold decL; rw [Int.toNat_natCast, Int.toNat_natCast]; conv => lhs; rw [Lib.decDigits, dif_neg h]
theorem decL_len {n : Nat} (h : n ≤ 999999999) : (decL (n : Int)).length ≤ 9 := decD_len _ (by rw [Int.toNat_natCast]; omega)
/-- a text of one byte out of a slice that was built of it. -/
theorem conv_blk (V : World) (b : Nat) (n : Int) (dg : UInt8) (h0 : 0 ≤ n) (h1 : n ≤ 255) (hd : Hid (dg = UInt8.ofNat n.toNat)) (hb : V.heap[b]? = some (.cells #[.int .u8 n] 5 (0, 0))) :
    (convert 22 9 (.slice (some ⟨b, 0, none⟩) 1 1)).run Tryz.prog V = .ok (.string (tb [dg])) V := by
  have hn : ((dg.toNat : Nat) : Int) = n := by
    rw [hd.out, UInt8.toNat_ofNat']; omega
  exact run_convert_bytes_back (P := Tryz.prog) _ 22 9 5 ⟨b, 0, none⟩ 1 [dg] Tryz.underlying22 Tryz.underlying5 Tryz.underlying9 (fun j hj => by
    rcases j with _ | j
    · simp only [List.getElem_cons_zero, hn]
      exact cell_of_row _ _ 0 _ _ (0, 0) hb
    · simp at hj)
set_option maxRecDepth 8000 in
theorem l1Dec_any (n : Nat) : n ≤ 999999999 → ∀ w : World, Calls Tryz.prog 32 #[.int .i64 (n : Int)] w fun e w' => e = .returned (.string (tb (decL n))) ∧ Below w.heap.size w w' := by
  induction n using Nat.strongRecOn with
  | _ n ih =>
  intro hn w
  have hd1 : ¬ ((n : Int) < -9223372036854775807) := by omega
  have hd0 : ¬ ((n : Int) < 0) := by omega
  by_cases h10 : n < 10
  · have hlt : (n : Int) < 10 := by omega
    have hB1 : Below w.heap.size w (w.alloc (.cells #[.int .u8 (48 + (n : Int))] 5)) := by (repeat' (first | exact Below.refl _ _ | apply Below.alloc | apply Below.setCell | apply Below.drew | apply below_draws)) <;> (first | omega | (simp <;> omega))
    obtain ⟨dg, hdg⟩ : ∃ dg, dg = UInt8.ofNat (48 + (n : Int)).toNat := ⟨_, rfl⟩
    have HG := Lib.hid hdg
    have hc := conv_blk _ _ (48 + (n : Int)) dg (by omega) (by omega) HG (alloc_new w (.cells #[.int .u8 (48 + (n : Int))] 5))
    have HD : Hid (tb (decL n) = tb [dg]) := by show _ = _; rw [decL_lt h10, hdg]; congr 3
    clear ih hdg
    go_enter Tryz.func32, Tryz.ntmps32
    go_wp2
    go_ret
    exact ⟨ret_t HD.out.symm, hB1⟩
  · have hge : ¬ ((n : Int) < 10) := by omega
    obtain ⟨k, hk⟩ : ∃ k : Nat, k = n / 10 := ⟨_, rfl⟩
    have hq : (n : Int).tdiv 10 = (k : Int) := by rw [hk, Int.tdiv_eq_ediv_of_nonneg (by omega)]; omega
    have hqw : IntKind.i64.wrap ((n : Int).tdiv 10) = (k : Int) := by rw [hq, IntKind.wrap_i64] <;> omega
    have hqw2 : IntKind.i64.wrap (k : Int) = (k : Int) := by rw [IntKind.wrap_i64] <;> omega
    obtain ⟨m, hm⟩ : ∃ m : Int, m = ((n % 10 : Nat) : Int) := ⟨_, rfl⟩
    have hr : (n : Int).tmod 10 = m := by rw [hm, Int.tmod_eq_emod_of_nonneg (by omega)]; omega
    have hm0 : 0 ≤ m := by omega
    have hm9 : m ≤ 9 := by omega
    obtain ⟨x, hx⟩ : ∃ x : Int, x = 48 + m := ⟨_, rfl⟩
    have hx0 : 0 ≤ x := by omega
    have hx1 : x ≤ 255 := by omega
    have hxw : IntKind.i64.wrap (48 + m) = x := by rw [hx, IntKind.wrap_i64] <;> omega
    have hxu : IntKind.u8.wrap x = x := by rw [IntKind.wrap_u8] <;> omega
    obtain ⟨dg, hdg⟩ : ∃ dg, dg = UInt8.ofNat x.toNat := ⟨_, rfl⟩
    have HG := Lib.hid hdg
    have HD : Hid (∀ z, z = tb (decL (k : Int)) ++ tb [dg] → z = tb (decL n)) := fun z hz => by
      rw [hz, decL_ge h10, hk, ← tb_app, hdg, hx, hm]; congr 5
    have hl : ¬ 9223372036854775807 < (tb (decL (k : Int))).size + (tb [dg]).size := by
      have := decL_len (n := k) (by omega)
      have h1 : (tb (decL (k : Int))).size = (decL (k : Int)).length := tb_size _
      have h2 : (tb [dg]).size = 1 := tb_size _
      omega
    have hc0 := conv_blk _ _ x dg hx0 hx1 HG (alloc_new w (.cells #[.int .u8 x] 5))
    have hd0' := conv_blk (w.alloc (.cells #[.int .u8 x] 5)).drew w.heap.size x dg hx0 hx1 HG (alloc_new w (.cells #[.int .u8 x] 5))
    have IH := Lib.hid (fun V => ih k (by omega) (by omega) V)
    have HB0 : Hid (∀ x, Below w.heap.size w (w.alloc x)) := fun x => (Below.refl _ w).alloc (Nat.le_refl _) x
    have HBn : Hid (∀ V x, Below V.heap.size V (V.alloc x)) := fun V x => (Below.refl _ V).alloc (Nat.le_refl _) x
    generalize tb (decL (k : Int)) = q at IH HD hl
    generalize hdt : tb [dg] = dt at hc0 hd0' HD hl
    have HT := Lib.hid hdt
    clear ih hdg hm h10 hn hk hdt hx
    go_enter Tryz.func32, Tryz.ntmps32
    go_wp2_with fail
    go_region_with (go_at_call 32; refine (IH.out _).mono ?_; rintro e w4 ⟨rfl, hb4⟩; have hc4 := conv_blk (w4.alloc (.cells #[.int .u8 x] 5)) w4.heap.size x dg hx0 hx1 HG (alloc_new w4 _); rw [HT.out] at hc4; have hc6 := conv_blk (w4.alloc (.cells #[.int .u8 x] 5)).drew w4.heap.size x dg hx0 hx1 HG (alloc_new w4 _); rw [HT.out] at hc6; try (have hc5 := conv_blk w4 w.heap.size x dg hx0 hx1 HG ((hb4.block w.heap.size (by simp)).trans (alloc_new w _)); rw [HT.out] at hc5))
    all_goals
      go_wp2
      go_ret
      refine ⟨ret_t (HD.out _ rfl), ?_⟩
      ((repeat' (first | exact Below.refl _ _ | apply Below.alloc | apply Below.drew | (refine Below.trans ?_ (Below.mono hb4 ?_)))) <;> (first | (simp; done) | (simp; omega) | omega | (have := hb4.size; simp at this ⊢; omega)))
/-- texts with a sign between. -/
def joinT (sg : Tx) (L : List ByteArray) : Tx := Lib.join (L.map (·.data.toList)) sg
theorem interQ_snoc (sep : List UInt8) : ∀ (xs : List (List UInt8)) (x : List UInt8), sep.intercalate (xs ++ [x]) = if xs = [] then x else sep.intercalate xs ++ sep ++ x
  | [], x => by simp [List.intercalate]
  | [y], x => by simp [List.intercalate]
  | y :: z :: r, x => by
    have h := interQ_snoc sep (z :: r) x
    rw [if_neg (by simp)] at h ⊢
    rw [List.cons_append, List.cons_append, List.intercalate_cons_cons, ← List.cons_append, h, List.intercalate_cons_cons]
    simp [List.append_assoc]
theorem joinT_snoc (sg : Tx) (L : List ByteArray) (x : ByteArray) (h : L ≠ []) : joinT sg (L ++ [x]) = joinT sg L ++ sg ++ x.data.toList := by
  unfold joinT Lib.join
  rw [List.map_append, List.map_singleton, interQ_snoc, if_neg (by simpa using h)]
theorem joinT_one (sg : Tx) (x : ByteArray) : joinT sg [x] = x.data.toList := Lib.join_one _ _
theorem joinT_plus : ∀ ws : List ByteArray, joinT [43] ws = joinP ws
  | [] => rfl
  | [x] => joinT_one _ _
  | x :: y :: r => by
    have ih := joinT_plus (y :: r)
    unfold joinT Lib.join at ih ⊢
    rw [joinP, ← ih]
    simp only [List.map_cons]
    rw [List.intercalate_cons_cons]
    simp
theorem joinT_mono (sg : Tx) : ∀ (L M : List ByteArray), (joinT sg L).length ≤ (joinT sg (L ++ M)).length
  | L, [] => by rw [List.append_nil]; exact Nat.le_refl _
  | L, x :: M => by
    have ih := joinT_mono sg (L ++ [x]) M
    rw [List.append_assoc] at ih
    refine Nat.le_trans ?_ ih
    cases L with
    | nil => exact Nat.zero_le _
    | cons y r => rw [joinT_snoc _ _ _ (by simp)]; simp
set_option maxRecDepth 8000 in
theorem l11Join_any (A : Option Addr) (c : Nat) (L : List ByteArray) (sg : ByteArray) (w : World) (h : SrcT w A c L) (hn : L.length ≤ 1048576) (hl : (joinT sg.data.toList L).length ≤ 1048576) :
    Calls Tryz.prog 33 #[.slice A L.length c, .string sg] w fun e w' => e = .returned (.string (tb (joinT sg.data.toList L))) ∧ Below w.heap.size w w' := by
  have HL := Lib.hid hl
  have HH := Lib.hid h
  clear h hl
  go_enter Tryz.func33, Tryz.ntmps33
  go_wp2
  go_loopw [5, 6] (fun ov iv wr => ∃ (k : Nat) (o : ByteArray), k ≤ L.length ∧ iv = .int .i64 k ∧ ov = .string o ∧ Hid (o = tb (joinT sg.data.toList (L.take k))) ∧ Below w.heap.size w wr) (fun _ iv _ => L.length - (intOf iv).toNat)
  case atStart => exact ⟨0, ⟨#[]⟩, Nat.zero_le _, rfl, rfl, rfl, Below.refl _ _⟩
  case round =>
    obtain ⟨k, o, hk, rfl, rfl, ho, hB⟩ := hrel
    by_cases hlt : k < L.length
    · obtain ⟨b, off, rfl, hbb, x0⟩ := (HH.out.below hB).atT hlt
      have hi0 : (k : Int) < (L.length : Int) := by omega
      have h1 : (joinT sg.data.toList (L.take (k + 1))).length ≤ 1048576 := by
        have := joinT_mono sg.data.toList (L.take (k + 1)) (L.drop (k + 1))
        rw [List.take_append_drop] at this
        exact Nat.le_trans this HL.out
      rw [← List.take_append_getElem hlt] at h1
      rcases Nat.eq_zero_or_pos k with rfl | hk0
      · have HO : Hid (∀ z : ByteArray, z = o ++ L[0] → z = tb (joinT sg.data.toList (L.take (0 + 1)))) := fun z hz => by
          rw [hz, ho.out, ← List.take_append_getElem hlt, List.take_zero, List.nil_append, joinT_one]
          apply ByteArray.ext; simp [tb, joinT, Lib.join, List.intercalate]
        rw [List.take_zero, List.nil_append, joinT_one, bytes_len] at h1
        have ho0 : o.size = 0 := by rw [ho.out]; rfl
        have x1 : wr.cell? ⟨b, off, none⟩ = some (.string L[0]) := x0
        have hz : ¬ 9223372036854775807 < o.size + L[0].size := by omega
        generalize L[0] = y at x0 x1 hz HO h1
        clear ho
        go_wp2
        go_roundw
        case rel => exact ⟨1, _, by omega, by go_num, rfl, HO.out _ rfl, hB⟩
        case measure => simp [intOf]; omega
      · have hne : L.take k ≠ [] := by intro e; have := congrArg List.length e; rw [List.length_take, List.length_nil] at this; omega
        have hgt : (0 : Int) < (k : Int) := by omega
        rw [joinT_snoc _ _ _ hne, List.length_append, List.length_append, bytes_len, bytes_len] at h1
        have hos : o.size = (joinT sg.data.toList (L.take k)).length := by rw [ho.out, tb_size]
        have hz : ¬ 9223372036854775807 < o.size + sg.size := by omega
        have hz2 : ¬ 9223372036854775807 < (o ++ sg).size + L[k].size := by rw [ByteArray.size_append]; omega
        have hz3 : ¬ 9223372036854775807 < o.size + sg.size + L[k].size := by omega
        have HO : Hid (∀ z : ByteArray, z = o ++ sg ++ L[k] → z = tb (joinT sg.data.toList (L.take (k + 1)))) := fun z hz => by
          rw [hz, ho.out, ← List.take_append_getElem hlt, joinT_snoc _ _ _ hne, ← tb_app, ← tb_app, list_tb, list_tb]
        clear h1 hos ho
        generalize L[k] = y at x0 hz2 hz3 HO
        go_wp2
        go_roundw
        case rel => exact ⟨k + 1, _, by omega, by go_num, rfl, HO.out _ rfl, hB⟩
        case measure => simp [intOf]; omega
    · have HO : Hid (o = tb (joinT sg.data.toList L)) := by
        have := ho.out
        rwa [List.take_of_length_le (by omega)] at this
      clear ho
      go_wp2
      go_ret
      exact ⟨ret_t HO.out, hB⟩
end Go.Proofs.YtaobgliimbmemaaGreatDoor
