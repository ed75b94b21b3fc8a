/-
  heldQuery: it finds the marks that markQuery has set; both of a question itself.
-/
import Derived.Test.YtaobgliimbmemaaDoorMarkQ
namespace Go.Proofs.YtaobgliimbmemaaDoor
open Go.RowKit Go.Sort
set_option linter.unusedVariables false
set_option linter.unusedSimpArgs false

def HeldC (n : Nat) : Prop := ∀ (B : Option Addr) (d : Nat) (L : List QD) (N k r : Nat) (x : Int) (w : World), x = (k : Int) → Hid (N = L.length) → Hid (r = k + sumN n L) → Hid (RdK (HasQ n) w B (mkKs n k L)) → N ≤ 1048576 → Hid (∀ y ∈ L, LmQ 1048576 n y) → 1 ≤ k → r ≤ 1000000000000000 →
  Calls Tryd.prog 47 #[.slice B N d, .int .i64 x] w fun e w' => e = .returned (.int .i64 (r : Int)) ∧ Below w.heap.size w w'
theorem heldStringS_x (A : Option Addr) (c : Nat) (k n r : Nat) (x : Int) (hx : x = (k : Int)) (hr : Hid (r = k + n)) (w : World) (h : SrcT w A c (mkL k n)) (hn : n ≤ 1048576) (h0 : 1 ≤ k) (h1 : k ≤ 2305843009213693952) :
    Calls Tryd.prog 36 #[.slice A n c, .int .i64 x] w fun e w' => e = .returned (.int .i64 (r : Int)) ∧ Below w.heap.size w w' := by
  have e := hr.out
  subst hx e
  exact heldStringS_any A c k n w h hn h0 h1
theorem heldS_zero (B : Option Addr) (d : Nat) (k : Nat) (w : World) (hk : k ≤ 1000000000000000) :
    Calls Tryd.prog 47 #[.slice B 0 d, .int .i64 (k : Int)] w fun e w' => e = .returned (.int .i64 (k : Int)) ∧ Below w.heap.size w w' := by
  go_enter Tryd.func47, Tryd.ntmps47
  go_wp2_with fail
  go_loopw [1, 5] (fun m i wr => m = .int .i64 (k : Int) ∧ i = .int .i64 0 ∧ wr = w) (fun _ _ _ => 0)
  case atStart => exact ⟨rfl, rfl, rfl⟩
  case round =>
    obtain ⟨rfl, rfl, rfl⟩ := hrel
    go_wp2
    go_ret
    exact ⟨rfl, Below.refl _ _⟩
theorem HeldC_zero : HeldC 0 := fun B d L N k r x w hx hN hr h hN1 hL h0 hk => by
  have e1 := hN.out
  have e2 := hr.out
  have e : L = [] := by
    cases L with
    | nil => rfl
    | cons y r => obtain ⟨b, off, A1, c1, B1, d1, _, _, _, h1⟩ := h.out 0 (by show 0 < (y :: r).length; simp); exact h1.elim
  subst e hx e1
  obtain rfl : k = r := e2.symm
  exact heldS_zero B d k w hk
set_option maxRecDepth 8000 in
set_option maxHeartbeats 3200000 in
theorem HeldC_step (n : Nat) (IH : Hid (HeldC n)) : HeldC (n + 1) := fun B d L N k r x w hx hN hr h hN1 hL h0 hk => by
  have hbd : Hid (∀ j, (hj : j < L.length) → k + sumN (n + 1) (L.take j) + (4 + mkN (n + 1) L[j]) ≤ r) := fun j hj => by
    have h1 := sumN_succ (n + 1) hj
    have h2 := sumN_le (n + 1) L (j + 1)
    rw [hr.out]
    omega
  subst hx
  go_enter Tryd.func47, Tryd.ntmps47
  go_wp2_with fail
  go_loopw [1, 5] (fun m i wr => ∃ (j q : Nat), j ≤ N ∧ i = .int .i64 j ∧ m = .int .i64 (q : Int) ∧ Hid (q = k + sumN (n + 1) (L.take j)) ∧ Hid (Below w.heap.size w wr)) (fun _ i _ => N - (intOf i).toNat)
  case atStart => exact ⟨0, k, Nat.zero_le _, rfl, rfl, by show _ = _; simp [sumN], Below.refl _ _⟩
  case round =>
    obtain ⟨j, q, hj, rfl, rfl, hq, hB0⟩ := hrel
    by_cases hlt : j < N
    · have hjL : j < L.length := by have := hN.out; omega
      have hi0 : (j : Int) < (N : Int) := by omega
      have hqb := hbd.out j hjL
      rw [← hq.out] at hqb
      have HQX : Hid (k + sumN (n + 1) (L.take (j + 1)) = q + (4 + mkN (n + 1) L[j])) := by
        show _ = _
        rw [sumN_succ (n + 1) hjL, hq.out]; omega
      have hlm := hL.out L[j] (List.getElem_mem hjL)
      have hjm : j < (mkKs (n + 1) k L).length := by rw [mkKs_len]; exact hjL
      have hB := hB0.out
      obtain ⟨b, off, A1, c1, B1, d1, rfl, hb, y0, y1, y2, y3, y4, y5, hh⟩ := (rdQ_below h.out hB).cells hjm
      have hg2 : (mkKs (n + 1) k L)[j] = mkY (mkKs n) q L[j] := by
        have h1 := mkZ_get (n + 1) (mkKs n) L k j hjL
        rw [← hq.out] at h1
        exact Option.some.inj ((List.getElem?_eq_getElem hjm).symm.trans h1)
      rw [hg2] at y0 y1 y2 y3 y4 y5 hh
      clear hg2 hjm hq
      generalize L[j] = m at y0 y1 y2 y3 y4 y5 hh HQX hqb hlm
      obtain ⟨mkd, mfd, mws, mfr, mto, mks⟩ := m
      obtain ⟨nm, hnm⟩ : ∃ nm, nm = mws.length := ⟨_, rfl⟩
      obtain ⟨nk, hnk⟩ : ∃ nk, nk = mks.length := ⟨_, rfl⟩
      obtain ⟨r1, hr1⟩ : ∃ r1, r1 = q + 2 + nm := ⟨_, rfl⟩
      obtain ⟨r2, hr2⟩ : ∃ r2, r2 = r1 + 2 + sumN n mks := ⟨_, rfl⟩
      have hmN : mkN (n + 1) ⟨mkd, mfd, mws, mfr, mto, mks⟩ = mws.length + sumN n mks := rfl
      rw [hmN, ← hnm] at hqb
      have x0 : wr.cell? ⟨b, off + j * 6, none⟩ = some (.int .i64 (q : Int)) := y0
      have x1 : wr.cell? ⟨b, off + j * 6 + 1, none⟩ = some (.string (mtx (q + 1))) := y1
      have x2 : wr.cell? ⟨b, off + j * 6 + 2, none⟩ = some (.slice A1 nm c1) := by rw [hnm, ← mkL_len (q + 2) mws.length]; exact y2
      have x3 : wr.cell? ⟨b, off + j * 6 + 3, none⟩ = some (.int .i64 (r1 : Int)) := by rw [hr1, hnm]; exact y3
      have x4 : wr.cell? ⟨b, off + j * 6 + 4, none⟩ = some (.int .i64 ((r1 : Int) + 1)) := by rw [show (r1 : Int) + 1 = ((q + 3 + mws.length : Nat) : Int) by omega]; exact y4
      have x5 : wr.cell? ⟨b, off + j * 6 + 5, none⟩ = some (.slice B1 nk d1) := by rw [hnk, ← mkKs_len n (q + 4 + mws.length) mks]; exact y5
      have hS : Hid (SrcT wr A1 c1 (mkL (q + 2) nm)) := by rw [hnm]; exact hh.1.1
      have hK : Hid (RdK (HasQ n) wr B1 (mkKs n (r1 + 2) mks)) := by rw [show r1 + 2 = q + 4 + mws.length by omega]; exact hh.2
      have hq2 : r2 ≤ 1000000000000000 := by omega
      have hq1 : r1 + 2 ≤ 1000000000000000 := by omega
      have hq0 : q + 2 ≤ 1000000000000000 := by omega
      have HQY : Hid (r2 = k + sumN (n + 1) (L.take (j + 1))) := by show _ = _; rw [HQX.out, hmN, ← hnm]; omega
      have hlw : nm ≤ 1048576 := by rw [hnm]; exact hlm.2.1
      have hlk : nk ≤ 1048576 := by rw [hnk]; exact hlm.2.2.2.1
      have HLM := Lib.hid hlm.2.2.2.2
      have HNK := Lib.hid hnk
      have HR1 := Lib.hid hr1
      have HR2 := Lib.hid hr2
      have hr1q : q + 2 ≤ r1 := by omega
      clear y0 y1 y2 y3 y4 y5 hh hnm hnk hr1 hr2 hqb hlm HQX hmN
      have k1 := cell_regrown x1
      have hxq : (q : Int) + 1 = ((q + 1 : Nat) : Int) := by omega
      have hkj1 : 1 ≤ q + 1 := by omega
      have hkj2 : q + 1 ≤ 4611686018427387904 := by omega
      have HX := Lib.hid hxq
      clear hxq
      go_wp2_with fail
      refine region_qw (by kernel_rfl) (by kernel_rfl) ?_
      repeat (
        refine qw_step (fun K hK => ?_)
        go_simp
        first
          | (refine hK _ ?_; clear hK K)
          | (apply Exists.intro
             refine ⟨fun _ => ?_, hK _ ?_⟩
             (first | (go_at_call 66; exact cMarkText_x (q + 1) _ HX.out hkj1 hkj2 _ _ _))
             clear hK K))
      refine qw_nil ?_
      intro _ hw'
      obtain ⟨⟨dq, osq⟩, hw''⟩ := hw'
      subst hw''
      have hbw := below_regrown wr dq osq
      dsimp only
      generalize grow (redrawn wr dq) osq = Wq at hbw ⊢
      have hBq := Lib.hid (hB.trans (hbw.mono hB.size))
      have w2 := (hbw.cell (p := ⟨b, off + j * 6 + 2, none⟩) hb).trans x2
      have w3 := (hbw.cell (p := ⟨b, off + j * 6 + 3, none⟩) hb).trans x3
      have w4 := (hbw.cell (p := ⟨b, off + j * 6 + 4, none⟩) hb).trans x4
      have w5 := (hbw.cell (p := ⟨b, off + j * 6 + 5, none⟩) hb).trans x5
      have hSq := Lib.hid (SrcE.below hS.out hbw)
      have hKq := Lib.hid (rdQ_below hK.out hbw)
      have hbq := blt hbw b hb
      clear x0 x1 x2 x3 x4 x5 k1 hbw hS hK hB hB0 hb
      go_wp2_with fail
      refine (heldStringS_x A1 c1 (q + 2) nm r1 _ (by omega) HR1 _ hSq.out hlw (by omega) (by omega)).mono ?_
      rintro e W2 ⟨rfl, hb2⟩
      have hB2 := Lib.hid (hBq.out.trans (hb2.mono hBq.out.size))
      have v3 := (hb2.cell (p := ⟨b, off + j * 6 + 3, none⟩) hbq).trans w3
      have v4 := (hb2.cell (p := ⟨b, off + j * 6 + 4, none⟩) hbq).trans w4
      have v5 := (hb2.cell (p := ⟨b, off + j * 6 + 5, none⟩) hbq).trans w5
      have hKr := Lib.hid (rdQ_below hKq.out hb2)
      have hd : decide ((r1 : Int) < 0) = false := decide_eq_false (by omega)
      clear w2 w3 w4 w5 hSq hKq hb2 hBq hbq
      go_wp2_with fail
      refine (IH.out B1 d1 mks nk (r1 + 2) r2 _ _ (by omega) HNK HR2 hKr hlk HLM (by omega) (by omega)).mono ?_
      rintro e W3 ⟨rfl, hb3⟩
      have hB3 := Lib.hid (hB2.out.trans (hb3.mono hB2.out.size))
      have hd2 : decide ((r2 : Int) < 0) = false := decide_eq_false (by omega)
      clear v3 v4 v5 hKr hb3 hB2
      go_wp2
      go_roundw
      case rel => exact ⟨j + 1, r2, by omega, by go_num, rfl, HQY, hB3⟩
      case measure => simp [intOf]; omega
    · have hq2 : Hid (q = r) := by show _ = _; rw [hq.out, hr.out, List.take_of_length_le (by have := hN.out; omega)]
      clear hq
      go_wp2
      go_ret
      exact ⟨by rw [hq2.out]; rfl, hB0.out⟩
theorem heldQueryS_any (n : Nat) : HeldC n := by
  induction n with
  | zero => exact HeldC_zero
  | succ n ih => exact HeldC_step n ih
/-- a question with its marks. -/
def mkT (n k : Nat) (q : QD) : QD := ⟨q.kd, q.fd, mkL k q.ws.length, q.fr, q.tgt, mkKs n (k + q.ws.length) q.ks⟩
theorem markQuery_any (n : Nat) (S : PS) (h : HdR) (k r : Nat) (w : World) (hr : Hid (r = k + mkN (n + 1) h.q)) (ho : Hid (OwnQ (n + 1) S w h)) (hL : Hid (LmQ 1048576 (n + 1) h.q)) (h0 : 1 ≤ k) (hk : r ≤ 1000000000000000) :
    Calls Tryd.prog 19 #[.agg #[.int .i64 h.q.kd, .string h.q.fd, .slice h.A h.q.ws.length h.c, .int .i64 h.q.fr, .int .i64 h.q.tgt, .slice h.B h.q.ks.length h.d], .int .i64 (k : Int)] w fun e w' => (e = .returned (.int .i64 (r : Int)) ∧ OwnQ (n + 1) S w' ⟨mkT n k h.q, h.A, h.c, h.B, h.d⟩) ∧ OnlyS S w w' := by
  obtain ⟨⟨qkd, qfd, qws, qfr, qto, qks⟩, A, c, B, d⟩ := h
  dsimp only at hr ho hL ⊢
  obtain ⟨S1, S2, s1, s2, hd, hW, hK⟩ := ho.out
  dsimp only at hW hK
  have ⟨hl1, hl2, hl3, hl4, hl5⟩ := hL.out
  dsimp only at hl2 hl4
  obtain ⟨nm, hnm⟩ : ∃ nm, nm = qws.length := ⟨_, rfl⟩
  obtain ⟨nk, hnk⟩ : ∃ nk, nk = qks.length := ⟨_, rfl⟩
  obtain ⟨r1, hr1⟩ : ∃ r1, r1 = k + nm := ⟨_, rfl⟩
  have hr2 : Hid (r = r1 + sumN n qks) := by show _ = _; rw [hr.out, mkN_eq]; dsimp only; omega
  have hr3 : r1 ≤ r := by have := hr2.out; omega
  have hk1 : k ≤ r1 := by omega
  rw [← hnm] at hl2 ⊢
  rw [← hnk] at hl4 ⊢
  have HNM := Lib.hid hnm
  have HNK := Lib.hid hnk
  have HR1 := Lib.hid hr1
  have HS1 := Lib.hid s1
  have HS2 := Lib.hid s2
  have HD := Lib.hid hd
  have HLM := Lib.hid hl5
  have hB : Below w.heap.size w (w.alloc (.cells #[.int .i64 qkd, .string qfd, .slice A nm c, .int .i64 qfr, .int .i64 qto, .slice B nk d] 26)) := (Below.refl _ _).alloc (Nat.le_refl _) _
  have f5 : (w.alloc (.cells #[.int .i64 qkd, .string qfd, .slice A nm c, .int .i64 qfr, .int .i64 qto, .slice B nk d] 26)).cell? ⟨w.heap.size, 5, none⟩ = some (.slice B nk d) := by simp [go_sem]
  have hsz : w.heap.size < (w.alloc (.cells #[.int .i64 qkd, .string qfd, .slice A nm c, .int .i64 qfr, .int .i64 qto, .slice B nk d] 26)).heap.size := by simp
  have HW0 : Hid (OwnW (fun b => S1 b ∧ b < w.heap.size) (w.alloc (.cells #[.int .i64 qkd, .string qfd, .slice A nm c, .int .i64 qfr, .int .i64 qto, .slice B nk d] 26)) A c qws) := by
    refine OwnW.same ?_ (SameS.below hB)
    rcases hW with h | ⟨a, h1, h2, h3⟩
    · exact .inl h
    · exact .inr ⟨a, h1, ⟨h2, (OwnE.capOk h3).2.2.2⟩, h3⟩
  have HK0 : Hid (OwnKs (OwnQ n) S2 (w.alloc (.cells #[.int .i64 qkd, .string qfd, .slice A nm c, .int .i64 qfr, .int .i64 qto, .slice B nk d] 26)) B d qks) := hK.same OwnQ.same (SameS.below hB)
  clear hnm hnk hr1 s1 s2 hd hl1 hl3 hl5 hW hK ho hL hr
  go_enter Tryd.func19, Tryd.ntmps19
  go_wp2_with fail
  generalize (w.alloc (.cells #[.int .i64 qkd, .string qfd, .slice A nm c, .int .i64 qfr, .int .i64 qto, .slice B nk d] 26)) = W0 at hB f5 hsz HW0 HK0 ⊢
  refine (markW_any _ A c qws nm k r1 _ rfl HNM HR1 _ HW0 hl2 h0 (by omega)).mono ?_
  rintro e w1 ⟨⟨rfl, hw1⟩, o1⟩
  have g5 : w1.cell? ⟨w.heap.size, 5, none⟩ = some (.slice B nk d) := (World.cell?_of_block (w := W0) (a := ⟨w.heap.size, 5, none⟩) (o1.2.2 _ hsz (fun e => absurd e.2 (Nat.lt_irrefl _)))).trans f5
  have HW1 := Lib.hid hw1
  have HK1 : Hid (OwnKs (OwnQ n) S2 w1 B d qks) := HK0.out.same OwnQ.same (SameS.only o1 (fun k hk e => HD.out k e.1 hk))
  have O1 : Hid (OnlyS S w w1) := (OnlyS.of hB).trans (o1.up (fun k hk => HS1.out k hk.1))
  clear hw1 o1 HK0 HW0 f5 hsz hB
  go_wp2_with fail
  refine (markQueryS_any n S2 B d qks nk r1 r _ _ rfl HNK hr2 HK1 hl4 HLM (by omega) hk).mono ?_
  rintro e w2 ⟨⟨rfl, hk2⟩, o2⟩
  have O2 : Hid (OnlyS S w w2) := O1.out.trans (o2.up HS2.out)
  have HQ2 : Hid (OwnQ (n + 1) S w2 ⟨mkT n k ⟨qkd, qfd, qws, qfr, qto, qks⟩, A, c, B, d⟩) := by
    refine ⟨S1, S2, HS1.out, HS2.out, HD.out, ?_, ?_⟩
    · show OwnW S1 w2 A c (mkL k qws.length)
      rw [← HNM.out]
      exact (HW1.out.same (SameS.only o2 (fun k hk e => HD.out k hk.1 e))).sup (fun k hk => hk.1)
    · show OwnKs (OwnQ n) S2 w2 B d (mkKs n (k + qws.length) qks)
      rw [← HNM.out, ← HR1.out]
      exact hk2
  clear hk2 o2 HK1 HW1 O1 g5
  go_wp2
  go_ret
  exact ⟨⟨rfl, HQ2.out⟩, O2.out⟩
theorem heldQuery_any (n : Nat) (q : QD) (A : Option Addr) (c : Nat) (B : Option Addr) (d : Nat) (k r : Nat) (w : World) (hr : Hid (r = k + mkN (n + 1) q)) (h : Hid (HasQ (n + 1) w (mkT n k q) A c B)) (hL : Hid (LmQ 1048576 (n + 1) q)) (h0 : 1 ≤ k) (hk : r ≤ 1000000000000000) :
    Calls Tryd.prog 20 #[.agg #[.int .i64 q.kd, .string q.fd, .slice A q.ws.length c, .int .i64 q.fr, .int .i64 q.tgt, .slice B q.ks.length d], .int .i64 (k : Int)] w fun e w' => e = .returned (.int .i64 (r : Int)) ∧ Below w.heap.size w w' := by
  obtain ⟨qkd, qfd, qws, qfr, qto, qks⟩ := q
  dsimp only at hr h hL ⊢
  obtain ⟨hW, hK⟩ := h.out
  have ⟨hl1, hl2, hl3, hl4, hl5⟩ := hL.out
  dsimp only at hl2 hl4
  obtain ⟨nm, hnm⟩ : ∃ nm, nm = qws.length := ⟨_, rfl⟩
  obtain ⟨nk, hnk⟩ : ∃ nk, nk = qks.length := ⟨_, rfl⟩
  obtain ⟨r1, hr1⟩ : ∃ r1, r1 = k + nm := ⟨_, rfl⟩
  have hr2 : Hid (r = r1 + sumN n qks) := by show _ = _; rw [hr.out, mkN_eq]; dsimp only; omega
  have hr3 : r1 ≤ r := by have := hr2.out; omega
  have hk1 : k ≤ r1 := by omega
  have HW : Hid (SrcT w A c (mkL k nm)) := by rw [hnm]; exact hW.1
  have HK : Hid (RdK (HasQ n) w B (mkKs n r1 qks)) := by rw [hr1, hnm]; exact hK
  rw [← hnm] at hl2 ⊢
  rw [← hnk] at hl4 ⊢
  have HNK := Lib.hid hnk
  have HR1 := Lib.hid hr1
  have HLM := Lib.hid hl5
  have hB : Below w.heap.size w (w.alloc (.cells #[.int .i64 qkd, .string qfd, .slice A nm c, .int .i64 qfr, .int .i64 qto, .slice B nk d] 26)) := (Below.refl _ _).alloc (Nat.le_refl _) _
  have f5 : (w.alloc (.cells #[.int .i64 qkd, .string qfd, .slice A nm c, .int .i64 qfr, .int .i64 qto, .slice B nk d] 26)).cell? ⟨w.heap.size, 5, none⟩ = some (.slice B nk d) := by simp [go_sem]
  have hsz : w.heap.size < (w.alloc (.cells #[.int .i64 qkd, .string qfd, .slice A nm c, .int .i64 qfr, .int .i64 qto, .slice B nk d] 26)).heap.size := by simp
  clear hnm hnk hr1 hl1 hl3 hl5 hW hK h hL hr
  go_enter Tryd.func20, Tryd.ntmps20
  go_wp2_with fail
  generalize (w.alloc (.cells #[.int .i64 qkd, .string qfd, .slice A nm c, .int .i64 qfr, .int .i64 qto, .slice B nk d] 26)) = W0 at hB f5 hsz ⊢
  refine (heldStringS_x A c k nm r1 _ rfl HR1 _ (SrcE.below HW.out hB) hl2 h0 (by omega)).mono ?_
  rintro e w1 ⟨rfl, hb1⟩
  have g5 := (hb1.cell (p := ⟨w.heap.size, 5, none⟩) hsz).trans f5
  have hB1 := hB.trans (hb1.mono hB.size)
  have hd : decide ((r1 : Int) < 0) = false := decide_eq_false (by omega)
  have HK1 := Lib.hid (rdQ_below HK.out hB1)
  clear HK HW f5 hsz hb1 hB
  go_wp2_with fail
  refine (heldQueryS_any n B d qks nk r1 r _ _ rfl HNK hr2 HK1 hl4 HLM (by omega) hk).mono ?_
  rintro e w2 ⟨rfl, hb2⟩
  have hB2 := hB1.trans (hb2.mono hB1.size)
  have hd2 : decide ((r : Int) < 0) = false := decide_eq_false (by omega)
  clear HK1 hb2 hB1 g5
  go_wp2
  go_ret
  exact ⟨rfl, hB2⟩
end Go.Proofs.YtaobgliimbmemaaDoor
