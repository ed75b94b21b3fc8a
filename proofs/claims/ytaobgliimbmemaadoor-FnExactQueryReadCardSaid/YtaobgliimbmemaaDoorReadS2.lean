/-
  spec.QueryRead; what is read is small.
-/
import Derived.Test.YtaobgliimbmemaaDoorReadS
import Derived.Test.YtaobgliimbmemaaDoorReadI
namespace Go.Proofs.YtaobgliimbmemaaDoor
open Go.RowKit Go.Sort
set_option linter.unusedVariables false
set_option linter.unusedSimpArgs false

theorem l11Read_all (m : Nat) : RdC m := by
  induction m with
  | zero =>
    intro n x z w hz hs hn hm
    obtain ⟨n, rfl⟩ : ∃ k, n = k + 1 := ⟨n - 1, by omega⟩
    exact read_leaf n 0 x z w hz hs (.inl rfl)
  | succ m ih =>
    intro n x z w hz hs hn hm
    obtain ⟨n, rfl⟩ : ∃ k, n = k + 1 := ⟨n - 1, by omega⟩
    by_cases hc : x.data.toList.length < 2 ∨ x.data.toList.head? ≠ some 40 ∨ x.data.toList.getLast? ≠ some 41
    · rw [readS_leaf m hc]
      refine read_leaf n (m + 1) x z w hz hs ?_
      rcases hc with h | h | h
      · exact .inr (.inl (by rwa [bytes_len] at h))
      · exact .inr (.inr (.inl h))
      · exact .inr (.inr (.inr h))
    · rw [readS_node m hc]
      have h2 : 2 ≤ x.size := by rw [← bytes_len]; exact Nat.le_of_not_lt (fun h => hc (.inl h))
      exact read_node n m (Lib.hid ih) x z w hz hs (by omega) (by omega) h2 (Classical.not_not.1 fun h => hc (.inr (.inl h))) (Classical.not_not.1 fun h => hc (.inr (.inr h)))
theorem readD_spec (s : ByteArray) : readD s = if s.size ≤ 200 then readR (readS 4 s.data.toList) s.data.toList else none := by
  unfold readD
  split
  · rw [read_same 200 (by omega)]
  · rfl
/-- a question that can be read, and whether it was. -/
def RdSp (n : Nat) (r : Option QD) (w : World) (e : Ending) (w' : World) : Prop := ∃ (A : Option Addr) (c : Nat) (B : Option Addr) (d : Nat),
  (e = .returned (.tuple #[.agg #[.int .i64 (r.getD qd0).kd, .string (r.getD qd0).fd, .slice A (r.getD qd0).ws.length c, .int .i64 (r.getD qd0).fr, .int .i64 (r.getD qd0).tgt, .slice B (r.getD qd0).ks.length d], .bool r.isSome]) ∧ HasQ n w' (r.getD qd0) A c B) ∧ Below w.heap.size w w'
theorem RdSp.no {n : Nat} {r : Option QD} {w w' : World} (hr : r = none) (hb : Below w.heap.size w w') :
    RdSp (n + 1) r w (.returned (.tuple #[.agg #[.int .i64 0, .string ⟨#[]⟩, .slice none 0 0, .int .i64 0, .int .i64 0, .slice none 0 0], .bool false])) w' := by
  subst hr
  exact ⟨none, 0, none, 0, ⟨rfl, srcS_nil _, rdKS_nil⟩, hb⟩
theorem RdSp.yes {n : Nat} {r : Option QD} {q : QD} {w W0 w2 w5 W : World} {A : Option Addr} {c : Nat} {B : Option Addr} {d : Nat} (hr : r = some q) (hk : KeptQ n W0 w2 q A c B) (h25 : Below w2.heap.size w2 w5) (h0 : w.heap.size < W0.heap.size) (hb : Below w.heap.size w w5) (h6 : OnlyS (fun k => k = w.heap.size) w5 W) :
    RdSp n r w (.returned (.tuple #[.agg #[.int .i64 q.kd, .string q.fd, .slice A q.ws.length c, .int .i64 q.fr, .int .i64 q.tgt, .slice B q.ks.length d], .bool true])) W := by
  subst hr
  have h1 := h25.size
  exact ⟨A, c, B, d, ⟨rfl, hk W ⟨Nat.le_trans h1 h6.2.1, fun k h2 h3 => (h6.2.2 k (by omega) (by omega)).trans (h25.block k h3)⟩⟩, hb.trans (h6.base (fun k hk => by omega) hb.size)⟩
theorem readS_no {s : ByteArray} {q : QD} (hs : s.size ≤ 200) (hq : readS 4 s.data.toList = q) (h : okQ 4 q = false ∨ tb (putL 4 q) ≠ s) : readD s = none := by
  rw [readD_spec, if_pos hs, hq]
  unfold readR
  rw [if_neg]
  rintro ⟨h1, h2⟩
  rcases h with h | h
  · rw [h1] at h; cases h
  · apply h
    rw [h2, list_tb]
theorem readS_yes {s : ByteArray} {q : QD} (hs : s.size ≤ 200) (hq : readS 4 s.data.toList = q) (h1 : okQ 4 q = true) (h2 : tb (putL 4 q) = s) : readD s = some q := by
  rw [readD_spec, if_pos hs, hq]
  unfold readR
  rw [if_pos ⟨h1, by rw [← h2, tb_list]⟩]
set_option maxRecDepth 8000 in
set_option maxHeartbeats 6400000 in
theorem specQueryRead_any (s : ByteArray) (w : World) (hsz : s.size ≤ 9223372036854775000) :
    Calls Tryd.prog 17 #[.string s] w (RdSp 201 (readD s) w) := by
  have hB0 : Below w.heap.size w (w.alloc (.cells #[.int .i64 0, .string ⟨#[]⟩, .slice none 0 0, .int .i64 0, .int .i64 0, .slice none 0 0] 26)) := (Below.refl _ _).alloc (Nat.le_refl _) _
  have r0 := alloc_new w (.cells #[.int .i64 0, .string ⟨#[]⟩, .slice none 0 0, .int .i64 0, .int .i64 0, .slice none 0 0] 26)
  have z0 : w.heap.size < (w.alloc (.cells #[.int .i64 0, .string ⟨#[]⟩, .slice none 0 0, .int .i64 0, .int .i64 0, .slice none 0 0] 26)).heap.size := by simp
  by_cases hbig : 200 < s.size
  · have hR : Hid (readD s = none) := if_neg (by omega)
    have hi0 : (200 : Int) < (s.size : Int) := by omega
    obtain ⟨s0, s1, s2, s3, s4, s5⟩ := blk6 r0
    have fz0 := frozen_blk r0 0
    have fz1 := frozen_blk r0 1
    have fz2 := frozen_blk r0 2
    have fz3 := frozen_blk r0 3
    have fz4 := frozen_blk r0 4
    have fz5 := frozen_blk r0 5
    go_enter Tryd.func17, Tryd.ntmps17
    go_wp2_with fail
    exact bodyPost_ret (v := .tuple #[.agg #[.int .i64 0, .string ⟨#[]⟩, .slice none 0 0, .int .i64 0, .int .i64 0, .slice none 0 0], .bool false]) (by simp [results, Tryd.results17, go_sem, *]) rfl (RdSp.no hR.out ((Below.refl _ _).alloc (Nat.le_refl _) _))
  have hs2 : s.size ≤ 200 := by omega
  have CQ := Lib.hid (fun V => l11Read_all 4 201 s 4 V rfl (by omega) (by omega) (by omega))
  have hlm := readS_lm 4 s.data.toList (by rw [bytes_len]; omega) 201
  have HNO := Lib.hid (fun q (hq : readS 4 s.data.toList = q) => readS_no hs2 hq)
  have HYES := Lib.hid (fun q (hq : readS 4 s.data.toList = q) => readS_yes hs2 hq)
  generalize readD s = r at HNO HYES ⊢
  generalize readS 4 s.data.toList = q at CQ hlm HNO HYES
  obtain ⟨hlm, hwf⟩ := hlm
  have HLM := Lib.hid hlm
  clear hlm hwf
  go_enter Tryd.func17, Tryd.ntmps17
  go_wp2_with fail
  generalize (w.alloc (.cells #[.int .i64 0, .string ⟨#[]⟩, .slice none 0 0, .int .i64 0, .int .i64 0, .slice none 0 0] 26)) = W0 at hB0 r0 z0 ⊢
  refine (CQ.out W0).mono ?_
  rintro e w2 ⟨A, c, B, d, ⟨rfl, hk⟩, hb2⟩
  have HK := Lib.hid hk
  have z2 := hb2.size
  have r2 := (hb2.block w.heap.size z0).trans r0
  have hB2 := hB0.trans (hb2.mono hB0.size)
  have fW : Below w2.heap.size w2 (w2.alloc (.cells #[.int .i64 q.kd, .string q.fd, .slice A q.ws.length c, .int .i64 q.fr, .int .i64 q.tgt, .slice B q.ks.length d] 26)) := (Below.refl _ _).alloc (Nat.le_refl _) _
  have v3 := alloc_new w2 (.cells #[.int .i64 q.kd, .string q.fd, .slice A q.ws.length c, .int .i64 q.fr, .int .i64 q.tgt, .slice B q.ks.length d] 26)
  have zz3 : w2.heap.size < (w2.alloc (.cells #[.int .i64 q.kd, .string q.fd, .slice A q.ws.length c, .int .i64 q.fr, .int .i64 q.tgt, .slice B q.ks.length d] 26)).heap.size := by simp
  have r3 := (fW.block w.heap.size (by omega)).trans r2
  have hB3 := hB2.trans (fW.mono hB2.size)
  obtain ⟨y0, y1, y2, y3, y4, y5⟩ := blk6 v3
  clear hk hb2 r0 r2 hB0
  go_wp2_with fail
  generalize (w2.alloc (.cells #[.int .i64 q.kd, .string q.fd, .slice A q.ws.length c, .int .i64 q.fr, .int .i64 q.tgt, .slice B q.ks.length d] 26)) = W3 at fW v3 zz3 r3 hB3 y0 y1 y2 y3 y4 y5 ⊢
  have HH3 : Hid (HasQ 201 W3 q A c B) := HK.out W3 ⟨fW.size, fun k h1 h2 => fW.block k h2⟩
  generalize hp5 : w2.heap.size = p5 at v3 zz3 y0 y1 y2 y3 y4 y5 ⊢
  have HP5 := Lib.hid hp5
  have hp5w : w.heap.size < p5 := by omega
  clear hp5
  refine (l11Ok_any 201 q A c B d W3 HH3.out HLM.out).mono ?_
  rintro e w4 ⟨rfl, hb4⟩
  have r4 := (hb4.block w.heap.size (by omega)).trans r3
  have v4 := (hb4.block p5 zz3).trans v3
  have hB4 := hB3.trans (hb4.mono hB3.size)
  have f4 := fW.trans (hb4.mono fW.size)
  have z4 := hb4.size
  have HH4 := Lib.hid (HH3.out.below hb4)
  clear y0 y1 y2 y3 y4 y5 r3 v3 hB3 fW hb4 HH3
  obtain ⟨y0, y1, y2, y3, y4, y5⟩ := blk6 v4
  cases ho : okQ 4 q with
  | false =>
    have HF := Lib.hid (fun W (h6 : OnlyS (fun k => k = w.heap.size) w4 W) => RdSp.no (n := 200) (r := r) (HNO.out q rfl (.inl ho)) (hB4.trans (h6.base (fun k hk => by omega) hB4.size)))
    obtain ⟨s0, s1, s2, s3, s4, s5⟩ := blk6 r4
    have fz0 := frozen_blk r4 0
    have fz1 := frozen_blk r4 1
    have fz2 := frozen_blk r4 2
    have fz3 := frozen_blk r4 3
    have fz4 := frozen_blk r4 4
    have fz5 := frozen_blk r4 5
    clear r4 v4 hB4 HNO HYES HH4 f4 ho
    go_wp2
    exact bodyPost_ret (v := .tuple #[.agg #[.int .i64 0, .string ⟨#[]⟩, .slice none 0 0, .int .i64 0, .int .i64 0, .slice none 0 0], .bool false]) (by simp [results, Tryd.results17, go_sem, *]) rfl (HF.out _ (OnlyS.sixS _ _ _ _ _ _ _ _))
  | true =>
    go_wp2_with fail
    refine (l11Put_any 201 4 q A c B d w4 HH4.out HLM.out ho (Nat.le_refl _)).mono ?_
    rintro e w5 ⟨rfl, hb5⟩
    have r5 := (hb5.block w.heap.size (by omega)).trans r4
    have v5 := (hb5.block p5 (by omega)).trans v4
    have hB5 := hB4.trans (hb5.mono hB4.size)
    have f5 := f4.trans (hb5.mono f4.size)
    clear y0 y1 y2 y3 y4 y5 r4 v4 hB4 f4 hb5 HH4
    obtain ⟨y0, y1, y2, y3, y4, y5⟩ := blk6 v5
    by_cases hp : tb (putL 4 q) = s
    · have hc : ((tb (putL 4 q)).toList == s.toList) = true := by rw [bytes_eq]; exact decide_eq_true hp
      have hc2 : ((tb (putL 4 q)).toList != s.toList) = false := by unfold bne; rw [hc]; rfl
      have HF := Lib.hid (fun W (h6 : OnlyS (fun k => k = w.heap.size) w5 W) => RdSp.yes (r := r) (d := d) (HYES.out q rfl ho hp) HK.out f5 z0 hB5 h6)
      obtain ⟨s0, s1, s2, s3, s4, s5⟩ := blk6 r5
      have fz0 := frozen_blk r5 0
      have fz1 := frozen_blk r5 1
      have fz2 := frozen_blk r5 2
      have fz3 := frozen_blk r5 3
      have fz4 := frozen_blk r5 4
      have fz5 := frozen_blk r5 5
      clear r5 v5 hB5 HNO HYES HK f5 ho hp
      go_wp2
      exact bodyPost_ret (v := .tuple #[.agg #[.int .i64 q.kd, .string q.fd, .slice A q.ws.length c, .int .i64 q.fr, .int .i64 q.tgt, .slice B q.ks.length d], .bool true]) (by simp [results, Tryd.results17, go_sem, *]) rfl (HF.out _ (OnlyS.sixS _ _ _ _ _ _ _ _))
    · have hc : ((tb (putL 4 q)).toList == s.toList) = false := by rw [bytes_eq]; exact decide_eq_false hp
      have hc2 : ((tb (putL 4 q)).toList != s.toList) = true := by unfold bne; rw [hc]; rfl
      have HF := Lib.hid (fun W (h6 : OnlyS (fun k => k = w.heap.size) w5 W) => RdSp.no (n := 200) (r := r) (HNO.out q rfl (.inr hp)) (hB5.trans (h6.base (fun k hk => by omega) hB5.size)))
      obtain ⟨s0, s1, s2, s3, s4, s5⟩ := blk6 r5
      have fz0 := frozen_blk r5 0
      have fz1 := frozen_blk r5 1
      have fz2 := frozen_blk r5 2
      have fz3 := frozen_blk r5 3
      have fz4 := frozen_blk r5 4
      have fz5 := frozen_blk r5 5
      clear r5 v5 hB5 HNO HYES HK f5 ho hp
      go_wp2
      exact bodyPost_ret (v := .tuple #[.agg #[.int .i64 0, .string ⟨#[]⟩, .slice none 0 0, .int .i64 0, .int .i64 0, .slice none 0 0], .bool false]) (by simp [results, Tryd.results17, go_sem, *]) rfl (HF.out _ (OnlyS.sixS _ _ _ _ _ _ _ _))
/-! what is read is small -/
theorem mkN_ok : ∀ (m n : Nat) (q : QD), okQ m q = true → mkN n q ≤ 20 * 5 ^ m
  | _, 0, _, _ => Nat.zero_le _
  | 0, n + 1, q, h => by cases h
  | m + 1, n + 1, q, h => by
    obtain ⟨h1, h2⟩ := ok_parts h
    have h5 : 1 ≤ 5 ^ m := Nat.one_le_pow _ _ (by decide)
    rw [mkN_eq, Nat.pow_succ]
    rcases one_cases h1 with hl | ⟨kd, fr, ks, hk, hf, hk1, hk2, rfl⟩
    · have h3 : q.ws.length ≤ 4 ∧ q.ks = [] := by cases hl <;> simp_all
      rw [h3.2]
      show q.ws.length + 0 ≤ _
      omega
    · have h3 : ∀ L : List QD, (∀ k ∈ L, okQ m k = true) → sumN n L ≤ L.length * (4 + 20 * 5 ^ m) := fun L => by
        induction L with
        | nil => intro _; exact Nat.zero_le _
        | cons y r ih =>
          intro hL
          have h4 := mkN_ok m n y (hL y (by simp))
          have h6 := ih (fun k hk => hL k (List.mem_cons_of_mem _ hk))
          unfold sumN at h6 ⊢
          simp only [List.map_cons, List.sum_cons, List.length_cons]
          rw [Nat.add_mul]
          omega
      have h4 := h3 ks h2
      have h6 : ks.length * (4 + 20 * 5 ^ m) ≤ 4 * (4 + 20 * 5 ^ m) := Nat.mul_le_mul_right _ hk2
      show 0 + sumN n ks ≤ _
      omega
theorem readD_sm (s : ByteArray) (k : Nat) : LmQ 1048576 k ((readD s).getD qd0) ∧ WfQ k ((readD s).getD qd0) ∧ mkN k ((readD s).getD qd0) ≤ 12500 := by
  have h0 : LmQ 1048576 k qd0 ∧ WfQ k qd0 ∧ mkN k qd0 ≤ 12500 := by
    cases k with
    | zero => exact ⟨trivial, trivial, Nat.zero_le _⟩
    | succ k => exact ⟨⟨by show (0 : Nat) ≤ _; omega, by show (0 : Nat) ≤ _; omega, fun s hs => by simp [qd0] at hs, by show (0 : Nat) ≤ _; omega, fun y hy => by simp [qd0] at hy⟩, ⟨rfl, fun y hy => by simp [qd0] at hy⟩, by show 0 + 0 ≤ 12500; omega⟩
  unfold readD
  split
  · rename_i hs
    unfold readR
    split
    · rename_i h
      have h1 := queryI_lm 200 s.data.toList (by rw [bytes_len]; omega) k
      have h2 := mkN_ok 4 k _ h.1
      exact ⟨h1.1, h1.2, by simpa using h2⟩
    · exact h0
  · exact h0
end Go.Proofs.YtaobgliimbmemaaDoor
