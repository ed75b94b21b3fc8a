/-
  impl's text joined; impl.QueryPut: printed by mk_puti2.py.
-/
import Derived.Test.YtaobgliimbmemaaGreatDoorPutI
import Derived.Test.YtaobgliimbmemaaGreatDoorNodeOk2
namespace Go.Proofs.YtaobgliimbmemaaGreatDoor
open Go.RowKit Go.Sort
set_option linter.unusedVariables false
set_option linter.unusedSimpArgs false

def PutIC (bo n : Nat) : Prop := ∀ (m : Nat) (q : QD) (A : Option Addr) (c : Nat) (B : Option Addr) (d : Nat) (w : World), LaidOp bo w → PowT w → HasQ n w q A c B → LmQ 1048576 n q → okQ m q = true → m ≤ 4 →
  Calls Tryz.prog 19 #[.agg #[.int .i64 q.kd, .string q.fd, .slice A q.ws.length c, .int .i64 q.fr, .int .i64 q.tgt, .slice B q.ks.length d]] w fun e w' => e = .returned (.string (tb (putL m q))) ∧ Below w.heap.size w w'
set_option maxRecDepth 8000 in
theorem putIN (bo n p : Nat) (IH : Hid (PutIC bo n)) (kn f : Nat) (ks : List QD) (A : Option Addr) (c : Nat) (B : Option Addr) (d : Nat) (w : World) (hkn : 7 ≤ kn ∧ kn ≤ 10) (hfr : f ≤ 999999999) (hk4 : ks.length ≤ 4)
    (HL : Hid (LaidOp bo w)) (HT : Hid (PowT w)) (HK : Hid (RdK (HasQ n) w B ks)) (HS : Hid (∀ y ∈ ks, LmQ 1048576 n y)) (HO : Hid (∀ y ∈ ks, okQ p y = true)) (hp : p ≤ 3) :
    Calls Tryz.prog 19 #[.agg #[.int .i64 (kn : Int), .string ⟨#[]⟩, .slice A 0 c, .int .i64 (f : Int), .int .i64 0, .slice B ks.length d]] w fun e w' => e = .returned (.string (tb (putL (p + 1) ⟨(kn : Int), ⟨#[]⟩, [], (f : Int), 0, ks⟩))) ∧ Below w.heap.size w w' := by
  rw [partQ_end p kn f hkn]
  have hlen : ∀ k, (partQ kn f (putL p) (ks.take k)).length ≤ 60000 := fun k => partQ_len hfr (by rw [List.length_take]; omega) hp (fun y hy => HO.out y (List.mem_of_mem_take hy))
  have HLEN := Lib.hid hlen
  clear hlen
  have k1 : ((kn : Int) == 1) = false := by rw [beq_eq_false_iff_ne]; omega
  have k2 : ((kn : Int) == 2) = false := by rw [beq_eq_false_iff_ne]; omega
  have k3 : ((kn : Int) == 3) = false := by rw [beq_eq_false_iff_ne]; omega
  have k4 : ((kn : Int) == 4) = false := by rw [beq_eq_false_iff_ne]; omega
  have k5 : ((kn : Int) == 5) = false := by rw [beq_eq_false_iff_ne]; omega
  have k6 : ((kn : Int) == 6) = false := by rw [beq_eq_false_iff_ne]; omega
  have cb := alloc_new w (.cells #[.int .i64 (kn : Int), .string ⟨#[]⟩, .slice A 0 c, .int .i64 (f : Int), .int .i64 0, .slice B ks.length d] 27)
  have hB : Below w.heap.size w (w.alloc (.cells #[.int .i64 (kn : Int), .string ⟨#[]⟩, .slice A 0 c, .int .i64 (f : Int), .int .i64 0, .slice B ks.length d] 27)) := by (repeat' (first | exact Below.refl _ _ | apply Below.alloc | apply Below.setCell | apply Below.drew | apply below_draws)) <;> (first | omega | (simp <;> omega))
  have sz : w.heap.size < (w.alloc (.cells #[.int .i64 (kn : Int), .string ⟨#[]⟩, .slice A 0 c, .int .i64 (f : Int), .int .i64 0, .slice B ks.length d] 27)).heap.size := by simp
  obtain ⟨x0, x1, x2, x3, x4, x5⟩ := blk6 cb
  have hlk := (HL.out.below hB).look hkn
  have hgc := (HL.out.below hB).cell
  obtain ⟨nm, hnm⟩ : ∃ nm, nm = tb (nameL (kn : Int)) := ⟨_, rfl⟩
  rw [← hnm] at hlk
  have hns : nm.size ≤ 5 := by rw [hnm, tb_size]; exact name_len _
  have HNM := Lib.hid hnm
  clear hnm
  have z1 : ¬ 9223372036854775807 < (⟨#[40]⟩ : ByteArray).size + nm.size := by show ¬ _ < 1 + _; omega
  have z2 : ¬ 9223372036854775807 < 1 + nm.size := by omega
  by_cases h10 : kn = 10
  · have e10 : ((kn : Int) == 10) = true := by rw [beq_iff_eq]; omega
    have H10 := Lib.hid h10
    clear h10
    have HTW : Hid (PowT (w.alloc (.cells #[.int .i64 (kn : Int), .string ⟨#[]⟩, .slice A 0 c, .int .i64 (f : Int), .int .i64 0, .slice B ks.length d] 27))) := tab_below HT.out hB
    go_enter Tryz.func19, Tryz.ntmps19
    go_wp2_with fail
    generalize (w.alloc (.cells #[.int .i64 (kn : Int), .string ⟨#[]⟩, .slice A 0 c, .int .i64 (f : Int), .int .i64 0, .slice B ks.length d] 27)) = W0 at cb hB sz hlk hgc x0 x1 x2 x3 x4 x5 HTW ⊢
    refine (itoa_any f hfr _ HTW.out).mono ?_
    rintro e W1 ⟨rfl, hb⟩
    obtain ⟨th, hth⟩ : ∃ th, th = tb (decL (f : Int)) := ⟨_, rfl⟩
    rw [← hth]
    have hts : th.size ≤ 9 := by rw [hth, tb_size]; exact decL_len hfr
    have HST : Hid (∀ z, z = ⟨#[40]⟩ ++ nm ++ (⟨#[32]⟩ ++ th) → z = tb (partQ kn f (putL p) (ks.take 0))) := fun z hz => tb_eq (by
      rw [hz, HNM.out, hth]
      simp [partQ, headQ, tb, H10.out])
    have z3 : ¬ 9223372036854775807 < (⟨#[32]⟩ : ByteArray).size + th.size := by show ¬ _ < 1 + _; omega
    have z4 : ¬ 9223372036854775807 < (⟨#[40]⟩ ++ nm : ByteArray).size + (⟨#[32]⟩ ++ th).size := by rw [ByteArray.size_append, ByteArray.size_append]; show ¬ _ < 1 + _ + (1 + _); omega
    have z5 : ¬ 9223372036854775807 < 1 + th.size := by omega
    have z6 : ¬ 9223372036854775807 < 1 + nm.size + (1 + th.size) := by omega
    clear hth
    replace cb := (hb.block _ sz).trans cb
    replace hB := hB.trans (hb.mono hB.size)
    replace sz : w.heap.size < W1.heap.size := Nat.lt_of_lt_of_le sz hb.size
    clear x0 x1 x2 x3 x4 x5 hb
    obtain ⟨x0, x1, x2, x3, x4, x5⟩ := blk6 cb
    go_wp2_with fail
    have CB : Hid (∀ V, Below W1.heap.size W1 V → V.cell? ⟨w.heap.size, 5, none⟩ = some (.slice B ks.length d)) := fun V hV => (belowL hV sz).trans x5
    clear x0 x1 x2 x3 x4 x5 cb hlk hgc k1 k2 k3 k4 k5 k6
    go_loopw [3, 5, 81] (fun ov _ iv wr => ∃ (k : Nat) (o : ByteArray), k ≤ ks.length ∧ iv = .int .i64 k ∧ ov = .string o ∧ Hid (o = tb (partQ kn f (putL p) (ks.take k))) ∧ Below W1.heap.size W1 wr) (fun _ _ iv _ => ks.length - (intOf iv).toNat)
    case atStart => exact ⟨0, _, Nat.zero_le _, rfl, rfl, HST.out _ rfl, Below.refl _ _⟩
    case round =>
      obtain ⟨k, o, hk, rfl, rfl, ho, hBk⟩ := hrel
      have hBw := hB.trans (hBk.mono hB.size)
      have hol : o.size ≤ 60000 := by rw [ho.out, tb_size]; exact HLEN.out k
      by_cases hlt : k < ks.length
      · obtain ⟨b, off, A1, c1, B1, d1, rfl, hbb, z0, z1, z2, z3, z4, z5, hh⟩ := (rdQ_below HK.out hBw).cells hlt
        have hi0 : (k : Int) < (ks.length : Int) := by omega
        have hsm := Lib.hid (HS.out _ (List.getElem_mem hlt))
        have hok := Lib.hid (HO.out _ (List.getElem_mem hlt))
        have hh := Lib.hid hh
        have HN : Hid (∀ z, z = o ++ (⟨#[32]⟩ ++ tb (putL p ks[k])) → z = tb (partQ kn f (putL p) (ks.take (k + 1)))) := fun z hz => by
          rw [hz, ho.out, ← List.take_append_getElem hlt, partQ_snoc, show (⟨#[32]⟩ : ByteArray) = tb [32] from rfl, tb_app, tb_app]
          rfl
        have hyl : (tb (putL p ks[k])).size ≤ 12500 := by
          rw [tb_size]
          exact Nat.le_trans (put_len p _ hok.out) (by have : 5 ^ p ≤ 5 ^ 3 := Nat.pow_le_pow_right (by decide) hp; omega)
        clear ho
        generalize ks[k] = y at z0 z1 z2 z3 z4 z5 hh hsm hok HN hyl
        generalize hty : tb (putL p y) = ty at HN hyl
        have HTY := Lib.hid hty
        clear hty
        have hBa : Below wr.heap.size wr (wr.alloc (.cells #[.int .i64 y.kd, .string y.fd, .slice A1 y.ws.length c1, .int .i64 y.fr, .int .i64 y.tgt, .slice B1 y.ks.length d1] 27)) := (Below.refl _ _).alloc (Nat.le_refl _) _
        have HA := Lib.hid hBa
        clear hBa
        have hz2 : ¬ 9223372036854775807 < (⟨#[32]⟩ : ByteArray).size + ty.size := by show ¬ _ < 1 + _; omega
        have hz3 : ¬ 9223372036854775807 < o.size + (⟨#[32]⟩ ++ ty).size := by rw [ByteArray.size_append]; show ¬ _ < _ + (1 + _); omega
        have q1 : ¬ 9223372036854775807 < 1 + ty.size := by omega
        have q3 : ¬ 9223372036854775807 < o.size + (1 + ty.size) := by omega
        go_wp2_with fail
        refine (IH.out p y A1 c1 B1 d1 _ (HL.out.below (hBw.trans (HA.out.mono hBw.size))) (tab_below HT.out (hBw.trans (HA.out.mono hBw.size))) (hh.out.below HA.out) hsm.out hok.out (by omega)).mono ?_
        rintro e w2 ⟨he, hb2⟩
        rw [HTY.out] at he
        subst he
        have hB2 := hBk.trans ((HA.out.trans (hb2.mono HA.out.size)).mono hBk.size)
        go_wp2
        go_roundw
        case rel => exact ⟨k + 1, _, by omega, by go_num, rfl, HN.out _ rfl, hB2⟩
        case measure => simp [intOf]; omega
      · have HE : Hid (∀ z, z = o ++ ⟨#[41]⟩ → z = tb (partQ kn f (putL p) ks ++ [41])) := fun z hz => by
          have := ho.out
          rw [List.take_of_length_le (by omega)] at this
          rw [hz, this, show (⟨#[41]⟩ : ByteArray) = tb [41] from rfl, tb_app]
        have hz2 : ¬ 9223372036854775807 < o.size + (⟨#[41]⟩ : ByteArray).size := by show ¬ _ < _ + 1; omega
        have q1 : ¬ 9223372036854775807 < o.size + 1 := by omega
        have q2 : ¬ 9223372036854775807 ≤ o.size := by omega
        clear ho
        go_wp2
        go_ret
        exact ⟨ret_t (HE.out _ rfl), hBw⟩
  · have e10 : ((kn : Int) == 10) = false := by rw [beq_eq_false_iff_ne]; omega
    have H10 := Lib.hid h10
    clear h10
    have HST : Hid (∀ z, z = ⟨#[40]⟩ ++ nm → z = tb (partQ kn f (putL p) (ks.take 0))) := fun z hz => tb_eq (by
      have h' : ¬ (kn : Int) = 10 := by have := H10.out; omega
      rw [hz, HNM.out]
      simp [partQ, headQ, tb, h'])
    go_enter Tryz.func19, Tryz.ntmps19
    go_wp2_with fail
    generalize (w.alloc (.cells #[.int .i64 (kn : Int), .string ⟨#[]⟩, .slice A 0 c, .int .i64 (f : Int), .int .i64 0, .slice B ks.length d] 27)) = W1 at cb hB sz hlk hgc x0 x1 x2 x3 x4 x5 ⊢
    have CB : Hid (∀ V, Below W1.heap.size W1 V → V.cell? ⟨w.heap.size, 5, none⟩ = some (.slice B ks.length d)) := fun V hV => (belowL hV sz).trans x5
    clear x0 x1 x2 x3 x4 x5 cb hlk hgc k1 k2 k3 k4 k5 k6
    go_loopw [3, 5, 81] (fun ov _ iv wr => ∃ (k : Nat) (o : ByteArray), k ≤ ks.length ∧ iv = .int .i64 k ∧ ov = .string o ∧ Hid (o = tb (partQ kn f (putL p) (ks.take k))) ∧ Below W1.heap.size W1 wr) (fun _ _ iv _ => ks.length - (intOf iv).toNat)
    case atStart => exact ⟨0, _, Nat.zero_le _, rfl, rfl, HST.out _ rfl, Below.refl _ _⟩
    case round =>
      obtain ⟨k, o, hk, rfl, rfl, ho, hBk⟩ := hrel
      have hBw := hB.trans (hBk.mono hB.size)
      have hol : o.size ≤ 60000 := by rw [ho.out, tb_size]; exact HLEN.out k
      by_cases hlt : k < ks.length
      · obtain ⟨b, off, A1, c1, B1, d1, rfl, hbb, z0, z1, z2, z3, z4, z5, hh⟩ := (rdQ_below HK.out hBw).cells hlt
        have hi0 : (k : Int) < (ks.length : Int) := by omega
        have hsm := Lib.hid (HS.out _ (List.getElem_mem hlt))
        have hok := Lib.hid (HO.out _ (List.getElem_mem hlt))
        have hh := Lib.hid hh
        have HN : Hid (∀ z, z = o ++ (⟨#[32]⟩ ++ tb (putL p ks[k])) → z = tb (partQ kn f (putL p) (ks.take (k + 1)))) := fun z hz => by
          rw [hz, ho.out, ← List.take_append_getElem hlt, partQ_snoc, show (⟨#[32]⟩ : ByteArray) = tb [32] from rfl, tb_app, tb_app]
          rfl
        have hyl : (tb (putL p ks[k])).size ≤ 12500 := by
          rw [tb_size]
          exact Nat.le_trans (put_len p _ hok.out) (by have : 5 ^ p ≤ 5 ^ 3 := Nat.pow_le_pow_right (by decide) hp; omega)
        clear ho
        generalize ks[k] = y at z0 z1 z2 z3 z4 z5 hh hsm hok HN hyl
        generalize hty : tb (putL p y) = ty at HN hyl
        have HTY := Lib.hid hty
        clear hty
        have hBa : Below wr.heap.size wr (wr.alloc (.cells #[.int .i64 y.kd, .string y.fd, .slice A1 y.ws.length c1, .int .i64 y.fr, .int .i64 y.tgt, .slice B1 y.ks.length d1] 27)) := (Below.refl _ _).alloc (Nat.le_refl _) _
        have HA := Lib.hid hBa
        clear hBa
        have hz2 : ¬ 9223372036854775807 < (⟨#[32]⟩ : ByteArray).size + ty.size := by show ¬ _ < 1 + _; omega
        have hz3 : ¬ 9223372036854775807 < o.size + (⟨#[32]⟩ ++ ty).size := by rw [ByteArray.size_append]; show ¬ _ < _ + (1 + _); omega
        have q1 : ¬ 9223372036854775807 < 1 + ty.size := by omega
        have q3 : ¬ 9223372036854775807 < o.size + (1 + ty.size) := by omega
        go_wp2_with fail
        refine (IH.out p y A1 c1 B1 d1 _ (HL.out.below (hBw.trans (HA.out.mono hBw.size))) (tab_below HT.out (hBw.trans (HA.out.mono hBw.size))) (hh.out.below HA.out) hsm.out hok.out (by omega)).mono ?_
        rintro e w2 ⟨he, hb2⟩
        rw [HTY.out] at he
        subst he
        have hB2 := hBk.trans ((HA.out.trans (hb2.mono HA.out.size)).mono hBk.size)
        go_wp2
        go_roundw
        case rel => exact ⟨k + 1, _, by omega, by go_num, rfl, HN.out _ rfl, hB2⟩
        case measure => simp [intOf]; omega
      · have HE : Hid (∀ z, z = o ++ ⟨#[41]⟩ → z = tb (partQ kn f (putL p) ks ++ [41])) := fun z hz => by
          have := ho.out
          rw [List.take_of_length_le (by omega)] at this
          rw [hz, this, show (⟨#[41]⟩ : ByteArray) = tb [41] from rfl, tb_app]
        have hz2 : ¬ 9223372036854775807 < o.size + (⟨#[41]⟩ : ByteArray).size := by show ¬ _ < _ + 1; omega
        have q1 : ¬ 9223372036854775807 < o.size + 1 := by omega
        have q2 : ¬ 9223372036854775807 ≤ o.size := by omega
        clear ho
        go_wp2
        go_ret
        exact ⟨ret_t (HE.out _ rfl), hBw⟩
theorem text_any (bo n : Nat) : PutIC bo n := by
  induction n with
  | zero => exact fun m q A c B d w _ _ h _ _ _ => h.elim
  | succ n ih =>
    intro m q A c B d w hl ht h hs ho hm
    cases m with
    | zero => cases ho
    | succ p =>
      obtain ⟨h1, h2⟩ := ok_parts ho
      rcases one_cases h1 with hl2 | ⟨kd, fr, ks, hk, hf, hk1, hk2, rfl⟩
      · rw [put_leaf p hl2]
        cases hl2 with
        | all => exact putI1 A c B d w ht
        | term fd x g1 g2 => exact putI2 fd x (word_sz g1) (word_sz g2) A c B d w h.1.1 ht
        | phrase fd ws fr g1 g2 g3 g4 g5 g6 =>
          obtain ⟨f, rfl⟩ := Int.eq_ofNat_of_zero_le g5
          exact putI3 fd ws f (word_sz g1) (by omega) g4 (by omega) (by have := joinP_len ws g2; omega) A c B d w h.1 ht
        | near fd x fr g1 g2 g3 g4 =>
          obtain ⟨f, rfl⟩ := Int.eq_ofNat_of_zero_le (show 0 ≤ fr by omega)
          exact putI4 fd x f (word_sz g1) (word_sz g2) (by omega) A c B d w h.1.1 ht
        | glob fd x g1 g2 g3 => exact putI5 fd x (word_sz g1) (glob_sz g2) A c B d w h.1.1 ht
        | range fd fr tq g1 g2 g3 g4 =>
          obtain ⟨f, rfl⟩ := Int.eq_ofNat_of_zero_le g2
          obtain ⟨t, rfl⟩ := Int.eq_ofNat_of_zero_le (show 0 ≤ tq by omega)
          exact putI6 fd f t (word_sz g1) (by omega) (by omega) A c B d w ht
      · obtain ⟨kn, rfl⟩ := Int.eq_ofNat_of_zero_le (show 0 ≤ kd by omega)
        obtain ⟨f, rfl⟩ := Int.eq_ofNat_of_zero_le (show 0 ≤ fr by omega)
        exact putIN bo n p ih kn f ks A c B d w (by omega) (by omega) hk2 hl ht h.2 hs.2.2.2.2 h2 (by omega)
theorem queryPut_any (bm bo n : Nat) (q : QD) (A : Option Addr) (c : Nat) (B : Option Addr) (d : Nat) (w : World) (hl : LaidSh bm w) (hlo : LaidOp bo w) (ht : PowT w) (h : HasQ n w q A c B) (hs : LmQ 1048576 n q) (hwq : Hid (WfQ n q)) :
    Calls Tryz.prog 8 #[.agg #[.int .i64 q.kd, .string q.fd, .slice A q.ws.length c, .int .i64 q.fr, .int .i64 q.tgt, .slice B q.ks.length d]] w fun e w' => e = .returned (.string (putR q)) ∧ Below w.heap.size w w' := by
  have HH := Lib.hid h
  have HS := Lib.hid hs
  have HL := Lib.hid hl
  have HO := Lib.hid hlo
  have HT := Lib.hid ht
  clear h hs hl hlo ht
  have cb := alloc_new w (.cells #[.int .i64 q.kd, .string q.fd, .slice A q.ws.length c, .int .i64 q.fr, .int .i64 q.tgt, .slice B q.ks.length d] 27)
  have hB : Below w.heap.size w (w.alloc (.cells #[.int .i64 q.kd, .string q.fd, .slice A q.ws.length c, .int .i64 q.fr, .int .i64 q.tgt, .slice B q.ks.length d] 27)) := by (repeat' (first | exact Below.refl _ _ | apply Below.alloc | apply Below.setCell | apply Below.drew | apply below_draws)) <;> (first | omega | (simp <;> omega))
  have sz : w.heap.size < (w.alloc (.cells #[.int .i64 q.kd, .string q.fd, .slice A q.ws.length c, .int .i64 q.fr, .int .i64 q.tgt, .slice B q.ks.length d] 27)).heap.size := by simp
  obtain ⟨x0, x1, x2, x3, x4, x5⟩ := blk6 cb
  go_enter Tryz.func8, Tryz.ntmps8
  go_wp2_with fail
  generalize (w.alloc (.cells #[.int .i64 q.kd, .string q.fd, .slice A q.ws.length c, .int .i64 q.fr, .int .i64 q.tgt, .slice B q.ks.length d] 27)) = W0 at cb hB sz x0 x1 x2 x3 x4 x5 ⊢
  refine (queryOk_any bm n q A c B d _ (HL.out.below hB) (HH.out.below hB) HS.out hwq).mono ?_
  rintro e w1 ⟨rfl, hb⟩
  replace cb := (hb.block _ sz).trans cb
  replace hB := hB.trans (hb.mono hB.size)
  clear x0 x1 x2 x3 x4 x5
  obtain ⟨x0, x1, x2, x3, x4, x5⟩ := blk6 cb
  cases ho : okQ 4 q with
  | false =>
    have HV : Hid (putR q = ⟨#[]⟩) := by show _ = _; unfold putR; rw [ho, if_neg (by decide)]
    clear ho
    go_wp2
    go_ret
    exact ⟨ret_t HV.out.symm, hB⟩
  | true =>
    have HV : Hid (putR q = tb (putL 4 q)) := by show _ = _; unfold putR; rw [ho, if_pos rfl]
    have HOK := Lib.hid ho
    clear ho
    go_wp2_with fail
    refine (text_any bo n 4 q A c B d _ (HO.out.below hB) (tab_below HT.out hB) (HH.out.below hB) HS.out HOK.out (Nat.le_refl _)).mono ?_
    rintro e w2 ⟨rfl, hb2⟩
    have hB2 := hB.trans (hb2.mono hB.size)
    rw [← HV.out]
    go_wp2
    go_ret
    exact ⟨rfl, hB2⟩
end Go.Proofs.YtaobgliimbmemaaGreatDoor
