/-
  spec.l11Put joined; spec.QueryPut.
-/
import Derived.Test.YtaobgliimbmemaaGreatDoorPutS2
namespace Go.Proofs.YtaobgliimbmemaaGreatDoor
open Go.RowKit Go.Sort
set_option linter.unusedVariables false
set_option linter.unusedSimpArgs false

/-- what stands ahead of the kids. -/
def headQ (kn f : Nat) : Tx := nameL (kn : Int) ++ (if (kn : Int) = 10 then 32 :: decL (f : Int) else [])
def partQ (kn f : Nat) (g : QD → Tx) (L : List QD) : Tx := 40 :: (headQ kn f ++ L.flatMap (kidP g))
theorem partQ_snoc (kn f : Nat) (g : QD → Tx) (L : List QD) (y : QD) : partQ kn f g (L ++ [y]) = partQ kn f g L ++ 32 :: g y := by
  unfold partQ; rw [List.flatMap_append]; simp [kidP]
theorem partQ_end (p kn f : Nat) (hk : 7 ≤ kn ∧ kn ≤ 10) (ks : List QD) : putL (p + 1) ⟨(kn : Int), ⟨#[]⟩, [], (f : Int), 0, ks⟩ = partQ kn f (putL p) ks ++ [41] := by
  rw [put_node p (by omega)]
  unfold partQ headQ
  simp
theorem headQ_len {kn f : Nat} (hf : f ≤ 999999999) : (headQ kn f).length ≤ 15 := by
  have a := name_len (kn : Int)
  have b := decL_len hf
  unfold headQ
  rw [List.length_append]
  split
  · rw [List.length_cons]; omega
  · rw [List.length_nil]; omega
theorem partQ_len {p kn f : Nat} (hf : f ≤ 999999999) {L : List QD} (hl : L.length ≤ 4) (hp : p ≤ 3) (ho : ∀ y ∈ L, okQ p y = true) : (partQ kn f (putL p) L).length ≤ 60000 := by
  have a := headQ_len (kn := kn) hf
  have h5 : 5 ^ p ≤ 5 ^ 3 := Nat.pow_le_pow_right (by decide) hp
  have b := kids_len (putL p) (100 * 5 ^ 3) L (fun y hy => Nat.le_trans (put_len p y (ho y hy)) (Nat.mul_le_mul_left _ h5))
  have c : (100 * 5 ^ 3 + 1) * L.length ≤ (100 * 5 ^ 3 + 1) * 4 := Nat.mul_le_mul_left _ hl
  unfold partQ
  rw [List.length_cons, List.length_append]
  omega
def PutSC (n : Nat) : Prop := ∀ (m : Nat) (q : QD) (A : Option Addr) (c : Nat) (B : Option Addr) (d : Nat) (w : World), HasQ n w q A c B → LmQ 1048576 n q → okQ m q = true → m ≤ 4 →
  Calls Tryz.prog 17 #[.agg #[.int .i64 q.kd, .string q.fd, .slice A q.ws.length c, .int .i64 q.fr, .int .i64 q.tgt, .slice B q.ks.length d]] w fun e w' => e = .returned (.string (tb (putL m q))) ∧ Below w.heap.size w w'
set_option maxRecDepth 8000 in
theorem putSN (n p : Nat) (IH : Hid (PutSC n)) (kn f : Nat) (ks : List QD) (A : Option Addr) (c : Nat) (B : Option Addr) (d : Nat) (w : World) (hkn : 7 ≤ kn ∧ kn ≤ 10) (hfr : f ≤ 999999999) (hk4 : ks.length ≤ 4)
    (HK : Hid (RdK (HasQ n) w B ks)) (HS : Hid (∀ y ∈ ks, LmQ 1048576 n y)) (HO : Hid (∀ y ∈ ks, okQ p y = true)) (hp : p ≤ 3) :
    Calls Tryz.prog 17 #[.agg #[.int .i64 (kn : Int), .string ⟨#[]⟩, .slice A 0 c, .int .i64 (f : Int), .int .i64 0, .slice B ks.length d]] w fun e w' => e = .returned (.string (tb (putL (p + 1) ⟨(kn : Int), ⟨#[]⟩, [], (f : Int), 0, ks⟩))) ∧ Below w.heap.size w w' := by
  rw [partQ_end p kn f hkn]
  have hlen : ∀ k, (partQ kn f (putL p) (ks.take k)).length ≤ 60000 := fun k => partQ_len hfr (by rw [List.length_take]; omega) hp (fun y hy => HO.out y (List.mem_of_mem_take hy))
  have HLEN := Lib.hid hlen
  clear hlen
  have k1 : ((kn : Int) == 1) = false := by rw [beq_eq_false_iff_ne]; omega
  have k2 : ((kn : Int) == 2) = false := by rw [beq_eq_false_iff_ne]; omega
  have k3 : ((kn : Int) == 3) = false := by rw [beq_eq_false_iff_ne]; omega
  have k4 : ((kn : Int) == 4) = false := by rw [beq_eq_false_iff_ne]; omega
  have k5 : ((kn : Int) == 5) = false := by rw [beq_eq_false_iff_ne]; omega
  have k6 : ((kn : Int) == 6) = false := by rw [beq_eq_false_iff_ne]; omega
  have i0 : 0 ≤ (kn : Int) := by omega
  have i1 : (kn : Int) < 11 := by omega
  have i2 : kn < 11 := by omega
  have cb := alloc_new w (.cells #[.int .i64 (kn : Int), .string ⟨#[]⟩, .slice A 0 c, .int .i64 (f : Int), .int .i64 0, .slice B ks.length d] 27)
  have hB : Below w.heap.size w (w.alloc (.cells #[.int .i64 (kn : Int), .string ⟨#[]⟩, .slice A 0 c, .int .i64 (f : Int), .int .i64 0, .slice B ks.length d] 27)) := by (repeat' (first | exact Below.refl _ _ | apply Below.alloc | apply Below.setCell | apply Below.drew | apply below_draws)) <;> (first | omega | (simp <;> omega))
  have sz : w.heap.size < (w.alloc (.cells #[.int .i64 (kn : Int), .string ⟨#[]⟩, .slice A 0 c, .int .i64 (f : Int), .int .i64 0, .slice B ks.length d] 27)).heap.size := by simp
  go_enter Tryz.func17, Tryz.ntmps17
  obtain ⟨_, _, _, x3, _, _⟩ := blk6 cb
  go_wp2_with fail
  generalize (w.alloc (.cells #[.int .i64 (kn : Int), .string ⟨#[]⟩, .slice A 0 c, .int .i64 (f : Int), .int .i64 0, .slice B ks.length d] 27)) = W0 at cb hB sz x3 ⊢
  refine (l1Dec_any f hfr _).mono ?_
  rintro e w1 ⟨rfl, hb⟩
  obtain ⟨th, hth⟩ : ∃ th, th = tb (decL (f : Int)) := ⟨_, rfl⟩
  rw [← hth]
  have hz6 : ¬ 9223372036854775807 < (⟨#[116, 105, 109, 101, 115, 32]⟩ : ByteArray).size + th.size := by
    have := tb_size (decL (f : Int))
    rw [← hth] at this
    have := decL_len hfr
    show ¬ _ < 6 + _
    omega
  replace cb := (hb.block _ sz).trans cb
  replace hB := hB.trans (hb.mono hB.size)
  have szw : w.heap.size < w1.heap.size := Nat.lt_of_lt_of_le sz hb.size
  have cb2 := alloc_elder (o' := .cells #[.string ⟨#[]⟩, .string ⟨#[]⟩, .string ⟨#[]⟩, .string ⟨#[]⟩, .string ⟨#[]⟩, .string ⟨#[]⟩, .string ⟨#[]⟩, .string ⟨#[97, 110, 100]⟩, .string ⟨#[111, 114]⟩, .string ⟨#[108, 101, 115, 115]⟩, .string (⟨#[116, 105, 109, 101, 115, 32]⟩ ++ th)] 9) cb
  have hn2 := alloc_new w1 (.cells #[.string ⟨#[]⟩, .string ⟨#[]⟩, .string ⟨#[]⟩, .string ⟨#[]⟩, .string ⟨#[]⟩, .string ⟨#[]⟩, .string ⟨#[]⟩, .string ⟨#[97, 110, 100]⟩, .string ⟨#[111, 114]⟩, .string ⟨#[108, 101, 115, 115]⟩, .string (⟨#[116, 105, 109, 101, 115, 32]⟩ ++ th)] 9)
  replace hB := hB.alloc (Nat.le_of_lt szw) (.cells #[.string ⟨#[]⟩, .string ⟨#[]⟩, .string ⟨#[]⟩, .string ⟨#[]⟩, .string ⟨#[]⟩, .string ⟨#[]⟩, .string ⟨#[]⟩, .string ⟨#[97, 110, 100]⟩, .string ⟨#[111, 114]⟩, .string ⟨#[108, 101, 115, 115]⟩, .string (⟨#[116, 105, 109, 101, 115, 32]⟩ ++ th)] 9)
  have sz2 : w.heap.size < (w1.alloc (.cells #[.string ⟨#[]⟩, .string ⟨#[]⟩, .string ⟨#[]⟩, .string ⟨#[]⟩, .string ⟨#[]⟩, .string ⟨#[]⟩, .string ⟨#[]⟩, .string ⟨#[97, 110, 100]⟩, .string ⟨#[111, 114]⟩, .string ⟨#[108, 101, 115, 115]⟩, .string (⟨#[116, 105, 109, 101, 115, 32]⟩ ++ th)] 9)).heap.size := by simp; omega
  obtain ⟨nm, hnm, hnc⟩ : ∃ nm, Hid (nm = tb (headQ kn f)) ∧ (w1.alloc (.cells #[.string ⟨#[]⟩, .string ⟨#[]⟩, .string ⟨#[]⟩, .string ⟨#[]⟩, .string ⟨#[]⟩, .string ⟨#[]⟩, .string ⟨#[]⟩, .string ⟨#[97, 110, 100]⟩, .string ⟨#[111, 114]⟩, .string ⟨#[108, 101, 115, 115]⟩, .string (⟨#[116, 105, 109, 101, 115, 32]⟩ ++ th)] 9)).cell? ⟨w1.heap.size, kn, none⟩ = some (.string nm) := by
    have hc : kn = 7 ∨ kn = 8 ∨ kn = 9 ∨ kn = 10 := by omega
    rcases hc with rfl | rfl | rfl | rfl
    · exact ⟨_, rfl, cells_blk hn2 rfl⟩
    · exact ⟨_, rfl, cells_blk hn2 rfl⟩
    · exact ⟨_, rfl, cells_blk hn2 rfl⟩
    · exact ⟨_, tb_eq (by rw [hth]; simp [headQ, nameL, tb]), cells_blk hn2 rfl⟩
  clear hth cb x3 sz hb hn2
  obtain ⟨x0, x1, x2, x3, x4, x5⟩ := blk6 cb2
  have hz1 : ¬ 9223372036854775807 < (⟨#[40]⟩ : ByteArray).size + nm.size := by
    rw [hnm.out, tb_size]
    have := headQ_len (kn := kn) hfr
    show ¬ _ < 1 + _
    omega
  go_wp2_with fail
  generalize hW : (w1.alloc (.cells #[.string ⟨#[]⟩, .string ⟨#[]⟩, .string ⟨#[]⟩, .string ⟨#[]⟩, .string ⟨#[]⟩, .string ⟨#[]⟩, .string ⟨#[]⟩, .string ⟨#[97, 110, 100]⟩, .string ⟨#[111, 114]⟩, .string ⟨#[108, 101, 115, 115]⟩, .string (⟨#[116, 105, 109, 101, 115, 32]⟩ ++ th)] 9)) = W1 at cb2 hB sz2 hnc x0 x1 x2 x3 x4 x5 ⊢
  have CB : Hid (∀ V, Below W1.heap.size W1 V → V.cell? ⟨w.heap.size, 5, none⟩ = some (.slice B ks.length d)) := fun V hV => (belowL hV sz2).trans x5
  clear hW x0 x1 x2 x3 x4 x5 cb2 hnc k1 k2 k3 k4 k5 k6
  go_loopw [4, 5] (fun ov iv wr => ∃ (k : Nat) (o : ByteArray), k ≤ ks.length ∧ iv = .int .i64 k ∧ ov = .string o ∧ Hid (o = tb (partQ kn f (putL p) (ks.take k))) ∧ Below W1.heap.size W1 wr) (fun _ iv _ => ks.length - (intOf iv).toNat)
  case atStart =>
    refine ⟨0, _, Nat.zero_le _, rfl, rfl, ?_, Below.refl _ _⟩
    show _ = tb (40 :: (headQ kn f ++ []))
    rw [hnm.out, List.append_nil]
    exact tb_app [40] (headQ kn f)
  case round =>
    obtain ⟨k, o, hk, rfl, rfl, ho, hBk⟩ := hrel
    have hBw := hB.trans (hBk.mono hB.size)
    have y5 := CB.out _ hBk
    have hol : o.size ≤ 60000 := by rw [ho.out, tb_size]; exact HLEN.out k
    by_cases hlt : k < ks.length
    · obtain ⟨b, off, A1, c1, B1, d1, rfl, hbb, z0, z1, z2, z3, z4, z5, hh⟩ := (rdQ_below HK.out hBw).cells hlt
      have hi0 : (k : Int) < (ks.length : Int) := by omega
      have hsm := Lib.hid (HS.out _ (List.getElem_mem hlt))
      have hok := Lib.hid (HO.out _ (List.getElem_mem hlt))
      have hh := Lib.hid hh
      have HN : Hid (∀ z, z = o ++ ⟨#[32]⟩ ++ tb (putL p ks[k]) → z = tb (partQ kn f (putL p) (ks.take (k + 1)))) := fun z hz => by
        rw [hz, ho.out, ← List.take_append_getElem hlt, partQ_snoc, show (⟨#[32]⟩ : ByteArray) = tb [32] from rfl, tb_app, tb_app, List.append_assoc]
        rfl
      have hyl : (tb (putL p ks[k])).size ≤ 12500 := by
        rw [tb_size]
        exact Nat.le_trans (put_len p _ hok.out) (by have : 5 ^ p ≤ 5 ^ 3 := Nat.pow_le_pow_right (by decide) hp; omega)
      clear ho
      generalize ks[k] = y at z0 z1 z2 z3 z4 z5 hh hsm hok HN hyl
      have hz2 : ¬ 9223372036854775807 < o.size + (⟨#[32]⟩ : ByteArray).size := by show ¬ _ < _ + 1; omega
      have hz3 : ¬ 9223372036854775807 < (o ++ ⟨#[32]⟩).size + (tb (putL p y)).size := by rw [ByteArray.size_append]; show ¬ _ < _ + 1 + _; omega
      generalize hty : tb (putL p y) = ty at hz3 HN hyl
      have HTY := Lib.hid hty
      clear hty
      have q1 : ¬ 9223372036854775807 < o.size + 1 := by omega
      have q2 : ¬ 9223372036854775807 ≤ o.size := by omega
      have q3 : ¬ 9223372036854775807 < o.size + 1 + ty.size := by omega
      go_wp2_with fail
      refine (IH.out p y A1 c1 B1 d1 _ hh.out hsm.out hok.out (by omega)).mono ?_
      rintro e w2 ⟨he, hb2⟩
      rw [HTY.out] at he
      subst he
      have hB2 := hBk.trans (hb2.mono hBk.size)
      go_wp2
      go_roundw
      case rel => exact ⟨k + 1, _, by omega, by go_num, rfl, HN.out _ rfl, hB2⟩
      case measure => simp [intOf]; omega
    · have HE : Hid (∀ z, z = o ++ ⟨#[41]⟩ → z = tb (partQ kn f (putL p) ks ++ [41])) := fun z hz => by
        have := ho.out
        rw [List.take_of_length_le (by omega)] at this
        rw [hz, this, show (⟨#[41]⟩ : ByteArray) = tb [41] from rfl, tb_app]
      have hz2 : ¬ 9223372036854775807 < o.size + (⟨#[41]⟩ : ByteArray).size := by show ¬ _ < _ + 1; omega
      have q1 : ¬ 9223372036854775807 < o.size + 1 := by omega
      have q2 : ¬ 9223372036854775807 ≤ o.size := by omega
      clear ho
      go_wp2
      go_ret
      exact ⟨ret_t (HE.out _ rfl), hBw⟩
theorem word_sz {s : ByteArray} (h : wordB s = true) : s.size ≤ 12 := by have := word_len h; rw [bytes_len] at this; omega
theorem glob_sz {s : ByteArray} (h : globB s = true) : s.size ≤ 12 := by have := glob_len h; rw [bytes_len] at this; omega
theorem l11Put_any (n : Nat) : PutSC n := by
  induction n with
  | zero => exact fun m q A c B d w h _ _ _ => h.elim
  | succ n ih =>
    intro m q A c B d w h hs ho hm
    cases m with
    | zero => cases ho
    | succ p =>
      obtain ⟨h1, h2⟩ := ok_parts ho
      rcases one_cases h1 with hl | ⟨kd, fr, ks, hk, hf, hk1, hk2, rfl⟩
      · rw [put_leaf p hl]
        cases hl with
        | all => exact putS1 A c B d w
        | term fd x g1 g2 => exact putS2 fd x (word_sz g1) (word_sz g2) A c B d w h.1.1
        | phrase fd ws fr g1 g2 g3 g4 g5 g6 =>
          obtain ⟨f, rfl⟩ := Int.eq_ofNat_of_zero_le g5
          exact putS3 fd ws f (word_sz g1) (by omega) g4 (by omega) (by have := joinP_len ws g2; omega) A c B d w h.1
        | near fd x fr g1 g2 g3 g4 =>
          obtain ⟨f, rfl⟩ := Int.eq_ofNat_of_zero_le (show 0 ≤ fr by omega)
          exact putS4 fd x f (word_sz g1) (word_sz g2) (by omega) A c B d w h.1.1
        | glob fd x g1 g2 g3 => exact putS5 fd x (word_sz g1) (glob_sz g2) A c B d w h.1.1
        | range fd fr tq g1 g2 g3 g4 =>
          obtain ⟨f, rfl⟩ := Int.eq_ofNat_of_zero_le g2
          obtain ⟨t, rfl⟩ := Int.eq_ofNat_of_zero_le (show 0 ≤ tq by omega)
          exact putS6 fd f t (word_sz g1) (by omega) (by omega) A c B d w
      · obtain ⟨kn, rfl⟩ := Int.eq_ofNat_of_zero_le (show 0 ≤ kd by omega)
        obtain ⟨f, rfl⟩ := Int.eq_ofNat_of_zero_le (show 0 ≤ fr by omega)
        exact putSN n p ih kn f ks A c B d w (by omega) (by omega) hk2 h.2 hs.2.2.2.2 h2 (by omega)
/-- what QueryPut answers. -/
def putR (q : QD) : ByteArray := if okQ 4 q = true then tb (putL 4 q) else ⟨#[]⟩
theorem specQueryPut_any (n : Nat) (q : QD) (A : Option Addr) (c : Nat) (B : Option Addr) (d : Nat) (w : World) (h : HasQ n w q A c B) (hs : LmQ 1048576 n q) :
    Calls Tryz.prog 12 #[.agg #[.int .i64 q.kd, .string q.fd, .slice A q.ws.length c, .int .i64 q.fr, .int .i64 q.tgt, .slice B q.ks.length d]] w fun e w' => e = .returned (.string (putR q)) ∧ Below w.heap.size w w' := by
  have HH := Lib.hid h
  have HS := Lib.hid hs
  clear h hs
  have cb := alloc_new w (.cells #[.int .i64 q.kd, .string q.fd, .slice A q.ws.length c, .int .i64 q.fr, .int .i64 q.tgt, .slice B q.ks.length d] 27)
  have hB : Below w.heap.size w (w.alloc (.cells #[.int .i64 q.kd, .string q.fd, .slice A q.ws.length c, .int .i64 q.fr, .int .i64 q.tgt, .slice B q.ks.length d] 27)) := by (repeat' (first | exact Below.refl _ _ | apply Below.alloc | apply Below.setCell | apply Below.drew | apply below_draws)) <;> (first | omega | (simp <;> omega))
  have sz : w.heap.size < (w.alloc (.cells #[.int .i64 q.kd, .string q.fd, .slice A q.ws.length c, .int .i64 q.fr, .int .i64 q.tgt, .slice B q.ks.length d] 27)).heap.size := by simp
  obtain ⟨x0, x1, x2, x3, x4, x5⟩ := blk6 cb
  go_enter Tryz.func12, Tryz.ntmps12
  go_wp2_with fail
  generalize (w.alloc (.cells #[.int .i64 q.kd, .string q.fd, .slice A q.ws.length c, .int .i64 q.fr, .int .i64 q.tgt, .slice B q.ks.length d] 27)) = W0 at cb hB sz x0 x1 x2 x3 x4 x5 ⊢
  refine (l11Ok_any n q A c B d _ (HH.out.below hB) HS.out).mono ?_
  rintro e w1 ⟨rfl, hb⟩
  replace cb := (hb.block _ sz).trans cb
  replace hB := hB.trans (hb.mono hB.size)
  clear x0 x1 x2 x3 x4 x5
  obtain ⟨x0, x1, x2, x3, x4, x5⟩ := blk6 cb
  cases ho : okQ 4 q with
  | false =>
    have HV : Hid (putR q = ⟨#[]⟩) := by show _ = _; unfold putR; rw [ho, if_neg (by decide)]
    clear ho
    go_wp2
    go_ret
    exact ⟨ret_t HV.out.symm, hB⟩
  | true =>
    have HV : Hid (putR q = tb (putL 4 q)) := by show _ = _; unfold putR; rw [ho, if_pos rfl]
    have HO := Lib.hid ho
    clear ho
    go_wp2_with fail
    refine (l11Put_any n 4 q A c B d _ (HH.out.below hB) HS.out HO.out (Nat.le_refl _)).mono ?_
    rintro e w2 ⟨rfl, hb2⟩
    have hB2 := hB.trans (hb2.mono hB.size)
    rw [← HV.out]
    go_wp2
    go_ret
    exact ⟨rfl, hB2⟩
end Go.Proofs.YtaobgliimbmemaaGreatDoor
