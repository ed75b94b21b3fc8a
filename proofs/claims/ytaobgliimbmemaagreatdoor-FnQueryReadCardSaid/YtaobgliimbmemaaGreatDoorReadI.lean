/-
  impl.QueryRead.
-/
import Derived.Test.YtaobgliimbmemaaGreatDoorQueryI
import Derived.Test.YtaobgliimbmemaaGreatDoorPutI2
namespace Go.Proofs.YtaobgliimbmemaaGreatDoor
open Go.RowKit Go.Sort
set_option linter.unusedVariables false
set_option linter.unusedSimpArgs false

def qd0 : QD := ⟨0, ⟨#[]⟩, [], 0, 0, []⟩
/-- what both readers answer. -/
def readD (s : ByteArray) : Option QD := if s.size ≤ 200 then readR (queryI 200 s.data.toList).1 s.data.toList else none
/-- a question of the call's own, and whether it was read. -/
def RdI (n : Nat) (r : Option QD) (w : World) (e : Ending) (w' : World) : Prop := ∃ (A : Option Addr) (c : Nat) (B : Option Addr) (d : Nat),
  (e = .returned (.tuple #[.agg #[.int .i64 (r.getD qd0).kd, .string (r.getD qd0).fd, .slice A (r.getD qd0).ws.length c, .int .i64 (r.getD qd0).fr, .int .i64 (r.getD qd0).tgt, .slice B (r.getD qd0).ks.length d], .bool r.isSome]) ∧ OwnQ n (fun k => w.heap.size ≤ k ∧ k < w'.heap.size) w' ⟨r.getD qd0, A, c, B, d⟩) ∧ Below w.heap.size w w'
theorem RdI.no {n : Nat} {r : Option QD} {w w' : World} (hr : r = none) (hb : Below w.heap.size w w') :
    RdI (n + 1) r w (.returned (.tuple #[.agg #[.int .i64 0, .string ⟨#[]⟩, .slice none 0 0, .int .i64 0, .int .i64 0, .slice none 0 0], .bool false])) w' := by
  subst hr
  exact ⟨none, 0, none, 0, ⟨rfl, fun _ => False, fun _ => False, fun _ h => h.elim, fun _ h => h.elim, fun _ _ h => h, .inl ⟨rfl, rfl, rfl⟩, .inl ⟨rfl, rfl, rfl⟩⟩, hb⟩
theorem RdI.yes {n : Nat} {r : Option QD} {q : QD} {w w3 W : World} {A : Option Addr} {c : Nat} {B : Option Addr} {d : Nat} {S : PS} (hr : r = some q) (ho : OwnQ n S w3 ⟨q, A, c, B, d⟩) (hS : ∀ k, S k → w.heap.size < k ∧ k < w3.heap.size) (hb : Below w.heap.size w w3) (h6 : OnlyS (fun k => k = w.heap.size) w3 W) :
    RdI n r w (.returned (.tuple #[.agg #[.int .i64 q.kd, .string q.fd, .slice A q.ws.length c, .int .i64 q.fr, .int .i64 q.tgt, .slice B q.ks.length d], .bool true])) W := by
  subst hr
  exact ⟨A, c, B, d, ⟨rfl, (OwnQ.same _ _ _ _ ho (SameS.only h6 (fun k hk e => by have := (hS k hk).1; omega))).sup (fun k hk => by have := hS k hk; have := h6.2.1; exact ⟨by omega, by omega⟩)⟩, hb.trans (h6.base (fun k hk => by omega) hb.size)⟩
theorem boxesR (w : World) (o1 o2 : Obj) : ∀ W : World, W = (w.alloc o1).alloc o2 → W.heap[w.heap.size]? = some o1 ∧ W.heap[w.heap.size + 1]? = some o2 ∧ Below w.heap.size w W ∧ w.heap.size + 1 < W.heap.size := by
  rintro W rfl
  have e1 : (w.alloc o1).heap.size = w.heap.size + 1 := by simp
  refine ⟨alloc_elder (alloc_new w o1), ?_, (((Below.refl _ w).alloc (Nat.le_refl _) o1).alloc (by omega) o2), by simp⟩
  have := alloc_new (w.alloc o1) o2; rw [e1] at this; exact this
theorem readD_no {s : ByteArray} {q : QD} (hs : s.size ≤ 200) (hq : (queryI 200 s.data.toList).1 = q) (h : s.data.toList = [] ∨ putR q ≠ s) : readD s = none := by
  unfold readD
  rw [if_pos hs, hq]
  unfold readR
  rw [if_neg]
  rintro ⟨h1, h2⟩
  rcases h with h | h
  · rw [h] at h2; exact put_ne h1 h2
  · apply h
    unfold putR
    rw [if_pos h1, h2, list_tb]
theorem readD_yes {s : ByteArray} {q : QD} (hs : s.size ≤ 200) (hq : (queryI 200 s.data.toList).1 = q) (h1 : s.data.toList ≠ []) (h2 : putR q = s) : readD s = some q := by
  unfold readD
  rw [if_pos hs, hq]
  unfold readR
  unfold putR at h2
  split at h2
  · rename_i h3
    rw [if_pos ⟨h3, by rw [← h2, tb_list]⟩]
  · exact absurd (by rw [← h2]) h1
set_option maxRecDepth 8000 in
set_option maxHeartbeats 6400000 in
theorem queryRead_any (bm bo : Nat) (s : ByteArray) (w : World) (hl : LaidSh bm w) (hlo : LaidOp bo w) (ht : PowT w) (hL : LaidR w) (hsz : s.size ≤ 9223372036854775000) :
    Calls Tryz.prog 5 #[.string s] w (RdI 201 (readD s) w) := by
  have hB0 : Below w.heap.size w (w.alloc (.cells #[.int .i64 0, .string ⟨#[]⟩, .slice none 0 0, .int .i64 0, .int .i64 0, .slice none 0 0] 27)) := (Below.refl _ _).alloc (Nat.le_refl _) _
  by_cases hbig : 200 < s.size
  · have hR : Hid (readD s = none) := if_neg (by omega)
    have hi0 : (200 : Int) < (s.size : Int) := by omega
    obtain ⟨s0, s1, s2, s3, s4, s5⟩ := blk6 (alloc_new w (.cells #[.int .i64 0, .string ⟨#[]⟩, .slice none 0 0, .int .i64 0, .int .i64 0, .slice none 0 0] 27))
    go_enter Tryz.func5, Tryz.ntmps5
    go_wp2_with fail
    exact bodyPost_ret (v := .tuple #[.agg #[.int .i64 0, .string ⟨#[]⟩, .slice none 0 0, .int .i64 0, .int .i64 0, .slice none 0 0], .bool false]) (by simp [results, Tryz.results5, go_sem, *]) rfl (RdI.no hR.out ((Below.refl _ _).alloc (Nat.le_refl _) _))
  have hs2 : s.size ≤ 200 := by omega
  have HL := Lib.hid hL
  have HS := Lib.hid hl
  have HO := Lib.hid hlo
  have HT := Lib.hid ht
  clear hL hl hlo ht
  obtain ⟨hr0, hg0, hB1, hz1⟩ := boxesR w (.cells #[.int .i64 0, .string ⟨#[]⟩, .slice none 0 0, .int .i64 0, .int .i64 0, .slice none 0 0] 27) (.cells #[.string s, .int .i64 0] 40) _ rfl
  have HNO := Lib.hid (fun q (hq : (queryI 200 s.data.toList).1 = q) => readD_no hs2 hq)
  have HYES := Lib.hid (fun q (hq : (queryI 200 s.data.toList).1 = q) => readD_yes hs2 hq)
  generalize readD s = r at HNO HYES ⊢
  go_enter Tryz.func5, Tryz.ntmps5
  go_wp2_with fail
  generalize ((w.alloc (.cells #[.int .i64 0, .string ⟨#[]⟩, .slice none 0 0, .int .i64 0, .int .i64 0, .slice none 0 0] 27)).alloc (.cells #[.string s, .int .i64 0] 40)) = W1 at hr0 hg0 hB1 hz1 ⊢
  have CQ := query_all w HL 200 (w.heap.size + 1) 0 s W1 hg0 (Nat.zero_le _) (by omega) (by omega) (by omega) hB1
  rw [show rest s 0 = s.data.toList from rfl] at CQ
  have hlm := queryI_lm 200 s.data.toList (by rw [bytes_len]; omega) 201
  generalize (queryI 200 s.data.toList).2 = l2 at CQ
  generalize hq : (queryI 200 s.data.toList).1 = q at CQ hlm HNO HYES
  have HQ := Lib.hid hq
  obtain ⟨hlm, hwf⟩ := hlm
  have HLM := Lib.hid hlm
  have HWF := Lib.hid hwf
  clear hlm hwf hq
  refine CQ.mono ?_
  rintro e w2 ⟨A, c, B, d, p', ⟨rfl, ho, _, _, _⟩, o2⟩
  have z2 := o2.2.1
  have hb2 : Below w.heap.size w w2 := hB1.trans (o2.base (fun k hk => by omega) hB1.size)
  have r2 := (o2.2.2 w.heap.size (by omega) (by omega)).trans hr0
  have fW : Below w2.heap.size w2 (w2.alloc (.cells #[.int .i64 q.kd, .string q.fd, .slice A q.ws.length c, .int .i64 q.fr, .int .i64 q.tgt, .slice B q.ks.length d] 27)) := (Below.refl _ _).alloc (Nat.le_refl _) _
  have v3 := alloc_new w2 (.cells #[.int .i64 q.kd, .string q.fd, .slice A q.ws.length c, .int .i64 q.fr, .int .i64 q.tgt, .slice B q.ks.length d] 27)
  have zz3 : w2.heap.size < (w2.alloc (.cells #[.int .i64 q.kd, .string q.fd, .slice A q.ws.length c, .int .i64 q.fr, .int .i64 q.tgt, .slice B q.ks.length d] 27)).heap.size := by simp
  have r3 := (fW.block w.heap.size (by omega)).trans r2
  have hB3 := hb2.trans (fW.mono hb2.size)
  have HO3 := Lib.hid (OwnQ.same _ _ _ _ ho (SameS.below fW))
  obtain ⟨y0, y1, y2, y3, y4, y5⟩ := blk6 v3
  have hq2 : w.heap.size < w2.heap.size := by omega
  clear fW r2 ho o2 hg0 hr0 hb2 CQ
  go_upto_region 5 with (fail)
  generalize (w2.alloc (.cells #[.int .i64 q.kd, .string q.fd, .slice A q.ws.length c, .int .i64 q.fr, .int .i64 q.tgt, .slice B q.ks.length d] 27)) = W3 at v3 zz3 r3 hB3 HO3 y0 y1 y2 y3 y4 y5 ⊢
  generalize w2.heap.size = p5 at v3 zz3 HO3 y0 y1 y2 y3 y4 y5 z2 hq2 ⊢
  by_cases hs0 : s.data.toList = []
  · have he1 : (s.toList == []) = true := by rw [Lib.toList_data, hs0]; rfl
    have he2 : s.toList.isEmpty = true := by rw [Lib.toList_data, hs0]; rfl
    have HF := Lib.hid (fun W (h6 : OnlyS (fun k => k = w.heap.size) W3 W) => RdI.no (n := 200) (r := r) (HNO.out q rfl (.inl hs0)) (hB3.trans (h6.base (fun k hk => by omega) hB3.size)))
    obtain ⟨s0, s1, s2, s3, s4, s5⟩ := blk6 r3
    have t0 := frozen_blk r3 0
    have t1 := frozen_blk r3 1
    have t2 := frozen_blk r3 2
    have t3 := frozen_blk r3 3
    have t4 := frozen_blk r3 4
    have t5 := frozen_blk r3 5
    clear r3 v3 hB3 HNO HYES HO3 hs0
    go_wp2
    exact bodyPost_ret (v := .tuple #[.agg #[.int .i64 0, .string ⟨#[]⟩, .slice none 0 0, .int .i64 0, .int .i64 0, .slice none 0 0], .bool false]) (by simp [results, Tryz.results5, go_sem, *]) rfl (HF.out _ (OnlyS.six _ _ _ _ _ _ _ _))
  have he1 : (s.toList == []) = false := by rw [Lib.toList_data, beq_eq_false_iff_ne]; exact hs0
  have he2 : s.toList.isEmpty = false := by rw [Lib.toList_data]; cases h : s.data.toList with | nil => exact absurd h hs0 | cons a b => rfl
  go_wp2_with fail
  refine (queryPut_any bm bo 201 q A c B d W3 (HS.out.below hB3) (HO.out.below hB3) (tab_below HT.out hB3) HO3.out.has HLM.out HWF).mono ?_
  rintro e w4 ⟨rfl, hb4⟩
  have r4 := (hb4.block w.heap.size (by omega)).trans r3
  have v4 := (hb4.block p5 zz3).trans v3
  have hB4 := hB3.trans (hb4.mono hB3.size)
  have z4 := hb4.size
  have HO4 := Lib.hid (OwnQ.same _ _ _ _ HO3.out (SameS.below hb4))
  clear y0 y1 y2 y3 y4 y5 r3 v3 hB3 HO3 hb4
  by_cases hp : putR q = s
  · have hc : ((putR q).toList == s.toList) = true := by rw [bytes_eq]; exact decide_eq_true hp
    have hc2 : ((putR q).toList != s.toList) = false := by unfold bne; rw [hc]; rfl
    have HF := Lib.hid (fun W (h6 : OnlyS (fun k => k = w.heap.size) w4 W) => RdI.yes (r := r) (HYES.out q rfl hs0 hp) HO4.out (fun k hk => ⟨by have := hk.1; omega, by have := hk.2; omega⟩) hB4 h6)
    obtain ⟨s0, s1, s2, s3, s4, s5⟩ := blk6 r4
    have t0 := frozen_blk r4 0
    have t1 := frozen_blk r4 1
    have t2 := frozen_blk r4 2
    have t3 := frozen_blk r4 3
    have t4 := frozen_blk r4 4
    have t5 := frozen_blk r4 5
    obtain ⟨y0, y1, y2, y3, y4, y5⟩ := blk6 v4
    clear r4 v4 hB4 HNO HYES HO4 hs0 hp
    go_wp2
    exact bodyPost_ret (v := .tuple #[.agg #[.int .i64 q.kd, .string q.fd, .slice A q.ws.length c, .int .i64 q.fr, .int .i64 q.tgt, .slice B q.ks.length d], .bool true]) (by simp [results, Tryz.results5, go_sem, *]) rfl (HF.out _ (OnlyS.six _ _ _ _ _ _ _ _))
  · have hc : ((putR q).toList == s.toList) = false := by rw [bytes_eq]; exact decide_eq_false hp
    have hc2 : ((putR q).toList != s.toList) = true := by unfold bne; rw [hc]; rfl
    have HF := Lib.hid (fun W (h6 : OnlyS (fun k => k = w.heap.size) w4 W) => RdI.no (n := 200) (r := r) (HNO.out q rfl (.inr hp)) (hB4.trans (h6.base (fun k hk => by omega) hB4.size)))
    obtain ⟨s0, s1, s2, s3, s4, s5⟩ := blk6 r4
    have t0 := frozen_blk r4 0
    have t1 := frozen_blk r4 1
    have t2 := frozen_blk r4 2
    have t3 := frozen_blk r4 3
    have t4 := frozen_blk r4 4
    have t5 := frozen_blk r4 5
    obtain ⟨y0, y1, y2, y3, y4, y5⟩ := blk6 v4
    clear r4 v4 hB4 HNO HYES HO4 hs0 hp
    go_wp2
    exact bodyPost_ret (v := .tuple #[.agg #[.int .i64 0, .string ⟨#[]⟩, .slice none 0 0, .int .i64 0, .int .i64 0, .slice none 0 0], .bool false]) (by simp [results, Tryz.results5, go_sem, *]) rfl (HF.out _ (OnlyS.six _ _ _ _ _ _ _ _))
end Go.Proofs.YtaobgliimbmemaaGreatDoor
