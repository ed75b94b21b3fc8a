/-
  The walk of FnQueryPut.
-/
import Derived.Test.YtaobgliimbmemaaDoorReadLaw
import Derived.Test.YtaobgliimbmemaaDoorReadI
import Derived.Test.YtaobgliimbmemaaDoorFoQ
import Derived.Test.YtaobgliimbmemaaDoorLaidR
import Derived.Test.YtaobgliimbmemaaDoorDrawQOk
namespace Go.Proofs.YtaobgliimbmemaaDoor
open Go.RowKit Go.Sort
set_option linter.unusedVariables false
set_option linter.unusedSimpArgs false

theorem RdK.imp {H H' : HQ} (hH : ∀ {w : World} {q : QD} {A : Option Addr} {c : Nat} {B : Option Addr}, H w q A c B → H' w q A c B) {w : World} {B : Option Addr} {L : List QD} (h : RdK H w B L) : RdK H' w B L := fun k hk => by
  obtain ⟨b, off, A1, c1, B1, d1, e, hlt, hc, h2⟩ := h k hk
  exact ⟨b, off, A1, c1, B1, d1, e, hlt, hc, hH h2⟩
theorem HasQ.upTo : ∀ {n m : Nat} {w : World} {q : QD} {A : Option Addr} {c : Nat} {B : Option Addr}, n ≤ m → HasQ n w q A c B → HasQ m w q A c B
  | 0, _, _, _, _, _, _, _, h => h.elim
  | n + 1, 0, _, _, _, _, _, hm, _ => absurd hm (by omega)
  | n + 1, m + 1, _, _, _, _, _, hm, h => ⟨h.1, RdK.imp (H := HasQ n) (H' := HasQ m) (fun h => HasQ.upTo (Nat.le_of_succ_le_succ hm) h) h.2⟩
theorem SmA.lmP {q : QD} (h : SmA q) (k : Nat) : LmQ 1048576 k q := (h k).1.le (by omega)
theorem SmA.wfP {q : QD} (h : SmA q) (k : Nat) : WfQ k q := (h k).2
theorem readD_put {q : QD} (ho : okQ 4 q = true) (h : (tb (putL 4 q)).size ≤ 200) : readD (tb (putL 4 q)) = some q := by
  unfold readD
  rw [if_pos h, tb_list]
  exact readR_put 200 (by omega) ho
theorem cSpPut (n : Nat) (q : QD) (A : Option Addr) (c : Nat) (B : Option Addr) (d : Nat) (S : ByteArray) (hS : Hid (putR q = S)) {W : World} (h : Hid (HasQ n W q A c B)) (hs : Hid (SmA q)) (dw : Nat) (os : Array Obj) :
    Calls Tryd.prog 12 #[.agg #[.int .i64 q.kd, .string q.fd, .slice A q.ws.length c, .int .i64 q.fr, .int .i64 q.tgt, .slice B q.ks.length d]] (grow (redrawn W dw) os) fun e w'' => e = .returned (.string S) ∧ ∃ p : Regrown, w'' = grow (redrawn W p.d) p.os := by
  rw [← hS.out]
  exact Calls.regrown_of (specQueryPut_any n q A c B d _ (h.out.below (below_regrown W dw os)) (hs.out.lmP n))
theorem cSpOk (n : Nat) (q : QD) (A : Option Addr) (c : Nat) (B : Option Addr) (d : Nat) (R : Bool) (hR : Hid (okQ 4 q = R)) {W : World} (h : Hid (HasQ n W q A c B)) (hs : Hid (SmA q)) (dw : Nat) (os : Array Obj) :
    Calls Tryd.prog 14 #[.agg #[.int .i64 q.kd, .string q.fd, .slice A q.ws.length c, .int .i64 q.fr, .int .i64 q.tgt, .slice B q.ks.length d]] (grow (redrawn W dw) os) fun e w'' => e = .returned (.bool R) ∧ ∃ p : Regrown, w'' = grow (redrawn W p.d) p.os := by
  rw [← hR.out]
  exact Calls.regrown_of (specQueryOk_any n q A c B d _ (h.out.below (below_regrown W dw os)) (hs.out.lmP n))
theorem cImOk (bm n : Nat) (q : QD) (A : Option Addr) (c : Nat) (B : Option Addr) (d : Nat) (R : Bool) (hR : Hid (okQ 4 q = R)) {W : World} (hl : Hid (LaidSh bm W)) (h : Hid (HasQ n W q A c B)) (hs : Hid (SmA q)) (dw : Nat) (os : Array Obj) :
    Calls Tryd.prog 13 #[.agg #[.int .i64 q.kd, .string q.fd, .slice A q.ws.length c, .int .i64 q.fr, .int .i64 q.tgt, .slice B q.ks.length d]] (grow (redrawn W dw) os) fun e w'' => e = .returned (.bool R) ∧ ∃ p : Regrown, w'' = grow (redrawn W p.d) p.os := by
  rw [← hR.out]
  exact Calls.regrown_of (queryOk_any bm n q A c B d _ (hl.out.below (below_regrown W dw os)) (h.out.below (below_regrown W dw os)) (hs.out.lmP n) (hs.out.wfP n))
set_option maxRecDepth 8000 in
set_option maxHeartbeats 6400000 in
theorem walk_FnQueryPut (a0 : Option Addr) (len cap : Nat) (zs : List Int) (w : World) (h : IsRow .u8 w a0 len cap zs) (hl : ∃ bm, LaidSh bm w) (hlo : ∃ bo, LaidOp bo w) (ht : PowT w) (h2 : ∃ te pe, w.cell? ⟨4, 0, none⟩ = some (.iface te pe)) (h3 : ∃ te pe, w.cell? ⟨5, 0, none⟩ = some (.iface te pe)) (h4 : ∃ m, w.cell? ⟨2, 0, none⟩ = some (.int .i64 m)) :
    Calls Tryd.prog 3 #[.slice a0 len cap] w fun e w' => e = .returned (.bool true) ∧ Below w.heap.size w w' := by
  obtain ⟨bm, hl⟩ := hl
  have hLR := laidR_mk hlo h2 h3 h4
  obtain ⟨bo, hlo⟩ := hlo
  by_cases hbig : 1048576 < len
  · have hb2 : (1048576 : Int) < (len : Int) := by omega
    go_enter Tryd.func3, Tryd.ntmps3
    go_wp2
    go_ret
    exact ⟨rfl, Below.refl _ _⟩
  have hb2 : ¬ (1048576 : Int) < (len : Int) := by omega
  have HL := Lib.hid hl
  have HO := Lib.hid hlo
  have HT := Lib.hid ht
  have HLR := Lib.hid hLR
  clear hl hlo ht hLR h2 h3 h4
  go_enter Tryd.func3, Tryd.ntmps3
  go_wp2_with fail
  refine (drawQueryPut_any a0 len cap zs w h).mono ?_
  rintro e w1 ⟨q, A, c, B, d, ⟨rfl, hsm, hk⟩, hb1⟩
  have hQ1 : HasQ 4 w1 q A c B := hk w1 ⟨Nat.le_refl _, fun _ _ _ => rfl⟩
  have cb := alloc_new w1 (.cells #[.int .i64 q.kd, .string q.fd, .slice A q.ws.length c, .int .i64 q.fr, .int .i64 q.tgt, .slice B q.ks.length d] 26)
  have bw : Below w1.heap.size w1 (w1.alloc (.cells #[.int .i64 q.kd, .string q.fd, .slice A q.ws.length c, .int .i64 q.fr, .int .i64 q.tgt, .slice B q.ks.length d] 26)) := (Below.refl _ _).alloc (Nat.le_refl _) _
  have sz : w1.heap.size < (w1.alloc (.cells #[.int .i64 q.kd, .string q.fd, .slice A q.ws.length c, .int .i64 q.fr, .int .i64 q.tgt, .slice B q.ks.length d] 26)).heap.size := by simp
  have hB2 := hb1.trans (bw.mono hb1.size)
  have HSM := Lib.hid hsm
  have HQ := Lib.hid (hQ1.below bw)
  have wfq := Lib.hid (hsm.wfP 4)
  clear hk hQ1 hsm hb1 bw h
  obtain ⟨x0, x1, x2, x3, x4, x5⟩ := blk6 cb
  go_wp2_with fail
  generalize (w1.alloc (.cells #[.int .i64 q.kd, .string q.fd, .slice A q.ws.length c, .int .i64 q.fr, .int .i64 q.tgt, .slice B q.ks.length d] 26)) = W2 at cb sz hB2 HQ x0 x1 x2 x3 x4 x5 ⊢
  generalize w1.heap.size = qb at cb sz x0 x1 x2 x3 x4 x5 ⊢
  refine (queryPut_any bm bo 4 q A c B d W2 (HL.out.below hB2) (HO.out.below hB2) (tab_below HT.out hB2) HQ.out (HSM.out.lmP 4) wfq).mono ?_
  rintro e w3 ⟨rfl, hb3⟩
  have hB3 := hB2.trans (hb3.mono hB2.size)
  have cb3 := (hb3.block qb sz).trans cb
  have sz3 : qb < w3.heap.size := by have := hb3.size; omega
  have HQ3 := Lib.hid (HQ.out.below hb3)
  have HL3 := Lib.hid (HL.out.below hB3)
  obtain ⟨S, hS⟩ : ∃ S, putR q = S := ⟨_, rfl⟩
  have HS := Lib.hid hS
  rw [hS]
  clear x0 x1 x2 x3 x4 x5 cb HQ hb3 hB2 sz
  obtain ⟨x0, x1, x2, x3, x4, x5⟩ := blk6 cb3
  have k0 := cell_regrown x0
  have k1 := cell_regrown x1
  have k2 := cell_regrown x2
  have k3 := cell_regrown x3
  have k4 := cell_regrown x4
  have k5 := cell_regrown x5
  have hss : (S.toList != S.toList) = false := by simp
  have hss2 : (S.toList == S.toList) = true := by simp
  cases ho : okQ 4 q with
  | false =>
    have HOK := Lib.hid ho
    have hSe : S = ⟨#[]⟩ := by rw [← hS]; unfold putR; rw [ho]; rfl
    have he1 : (S.toList == []) = true := by rw [hSe, Lib.toList_data]; rfl
    have he2 : S.toList.isEmpty = true := by rw [hSe, Lib.toList_data]; rfl
    have he3 : (S.toList != []) = false := by unfold bne; rw [he1]; rfl
    clear hSe hS ho x0 x1 x2 x3 x4 x5
    go_wp2_with fail
    refine region_qw (by kernel_rfl) (by kernel_rfl) ?_
    repeat (
      refine qw_step (fun K hK => ?_)
      go_simp
      first
        | (refine hK _ ?_; clear hK K)
        | (apply Exists.intro
           refine ⟨fun _ => ?_, hK _ ?_⟩
           (first | ((go_at_call 12; exact cSpPut 4 q A c B d S HS HQ3 HSM _ _)) | ((go_at_call 13; exact cImOk bm 4 q A c B d false HOK HL3 HQ3 HSM _ _)) | ((go_at_call 14; exact cSpOk 4 q A c B d false HOK HQ3 HSM _ _)))
           clear hK K)
        | fail)
    refine qw_nil ?_
    intro _ hw'
    obtain ⟨⟨dq, osq⟩, hw''⟩ := hw'
    subst hw''
    have hBq := hB3.trans ((below_regrown w3 dq osq).mono (by have := hB3.size; omega))
    have hb5 := below_regrown w3 dq osq
    dsimp only
    generalize grow (redrawn w3 dq) osq = W5 at hBq hb5 ⊢
    have hB5 := hBq
    clear hBq
    have cb5 := (hb5.block qb sz3).trans cb3
    have HQ5 := Lib.hid (HQ3.out.below hb5)
    have HL5 := Lib.hid (HL3.out.below hb5)
    clear k0 k1 k2 k3 k4 k5 HQ3 HL3 cb3 hb5 sz3
    obtain ⟨x0, x1, x2, x3, x4, x5⟩ := blk6 cb5
    have k0 := cell_regrown x0
    have k1 := cell_regrown x1
    have k2 := cell_regrown x2
    have k3 := cell_regrown x3
    have k4 := cell_regrown x4
    have k5 := cell_regrown x5
    clear x0 x1 x2 x3 x4 x5
    go_wp2_with fail
    refine region_qw (by kernel_rfl) (by kernel_rfl) ?_
    repeat (
      refine qw_step (fun K hK => ?_)
      go_simp
      first
        | (refine hK _ ?_; clear hK K)
        | (apply Exists.intro
           refine ⟨fun _ => ?_, hK _ ?_⟩
           (first | ((go_at_call 12; exact cSpPut 4 q A c B d S HS HQ5 HSM _ _)) | ((go_at_call 13; exact cImOk bm 4 q A c B d false HOK HL5 HQ5 HSM _ _)) | ((go_at_call 14; exact cSpOk 4 q A c B d false HOK HQ5 HSM _ _)))
           clear hK K)
        | fail)
    refine qw_nil ?_
    intro _ hw'
    obtain ⟨⟨dq, osq⟩, hw''⟩ := hw'
    subst hw''
    have hBq := hB5.trans ((below_regrown W5 dq osq).mono (by have := hB5.size; omega))
    dsimp only
    generalize grow (redrawn W5 dq) osq = Wq at hBq ⊢
    clear k0 k1 k2 k3 k4 k5 HQ5 HL5 cb5
    go_wp2
    go_ret
    exact ⟨rfl, hBq⟩
  | true =>
    have HOK := Lib.hid ho
    have hSe : S = tb (putL 4 q) := by rw [← hS]; unfold putR; rw [if_pos ho]
    have hSn : S.toList ≠ [] := by rw [hSe, Lib.toList_data, tb_list]; exact put_ne ho
    have he1 : (S.toList == []) = false := by rw [beq_eq_false_iff_ne]; exact hSn
    have he2 : S.toList.isEmpty = false := by rw [List.isEmpty_eq_false_iff]; exact hSn
    have he3 : (S.toList != []) = true := by unfold bne; rw [he1]; rfl
    have HSE := Lib.hid hSe
    clear hSe hSn hS x0 x1 x2 x3 x4 x5
    by_cases hsz : S.size ≤ 200
    · have hi0 : ¬ (200 : Int) < (S.size : Int) := by omega
      have hi1 : decide ((200 : Int) < (S.size : Int)) = false := decide_eq_false hi0
      have hi2 : decide ((S.size : Int) > 200) = false := decide_eq_false hi0
      have HSZ := Lib.hid hsz
      have HOO := Lib.hid ho
      clear ho hsz
      go_wp2_with fail
      refine region_qw (by kernel_rfl) (by kernel_rfl) ?_
      repeat (
        refine qw_step (fun K hK => ?_)
        go_simp
        first
          | (refine hK _ ?_; clear hK K)
          | (apply Exists.intro
             refine ⟨fun _ => ?_, hK _ ?_⟩
             (first | ((go_at_call 12; exact cSpPut 4 q A c B d S HS HQ3 HSM _ _)) | ((go_at_call 13; exact cImOk bm 4 q A c B d true HOK HL3 HQ3 HSM _ _)) | ((go_at_call 14; exact cSpOk 4 q A c B d true HOK HQ3 HSM _ _)))
             clear hK K)
          | fail)
      refine qw_nil ?_
      intro _ hw'
      obtain ⟨⟨dq, osq⟩, hw''⟩ := hw'
      subst hw''
      have hBq := hB3.trans ((below_regrown w3 dq osq).mono (by have := hB3.size; omega))
      have hb5 := below_regrown w3 dq osq
      dsimp only
      generalize grow (redrawn w3 dq) osq = W5 at hBq hb5 ⊢
      have hB5 := hBq
      have cb5 := (hb5.block qb sz3).trans cb3
      have sz5 : qb < W5.heap.size := by have := hb5.size; omega
      have HQ5 := Lib.hid (HQ3.out.below hb5)
      clear k0 k1 k2 k3 k4 k5 HQ3 HL3 cb3 hb5 sz3 hBq
      have HR := Lib.hid (fun V (hV : Below w.heap.size w V) => queryRead_any bm bo S V (HL.out.below hV) (HO.out.below hV) (tab_below HT.out hV) (HLR.out.below hV) (by have := HSZ.out; omega))
      have hrd : readD S = some q := by rw [HSE.out]; exact readD_put HOO.out (by rw [← HSE.out]; exact HSZ.out)
      have hE1 : (readD S).isSome = true := by rw [hrd]; rfl
      have hE2 : (readD S).getD qd0 = q := by rw [hrd]; rfl
      unfold RdI at HR
      rw [hE1, hE2] at HR
      clear hrd hE1 hE2
      go_wp2_with fail
      refine (HR.out W5 hB5).mono ?_
      rintro e w6 ⟨A1, c1, B1, d1, ⟨rfl, h1⟩, hb6⟩
      have s6 := hb6.size
      have fW : Below w6.heap.size w6 (w6.alloc (.cells #[.int .i64 q.kd, .string q.fd, .slice A1 q.ws.length c1, .int .i64 q.fr, .int .i64 q.tgt, .slice B1 q.ks.length d1] 26)) := (Below.refl _ _).alloc (Nat.le_refl _) _
      have v7 := alloc_new w6 (.cells #[.int .i64 q.kd, .string q.fd, .slice A1 q.ws.length c1, .int .i64 q.fr, .int .i64 q.tgt, .slice B1 q.ks.length d1] 26)
      have M7 := hb6.trans (fW.mono s6)
      have hh7 := Lib.hid ((OwnQ.has h1).below fW)
      have v7a := (M7.block qb sz5).trans cb5
      have hg7 := Lib.hid (HQ5.out.below M7)
      have H7 := hB5.trans (M7.mono hB5.size)
      obtain ⟨y0, y1, y2, y3, y4, y5⟩ := blk6 v7
      obtain ⟨x0, x1, x2, x3, x4, x5⟩ := blk6 v7a
      clear fW hb6 h1 cb5 HQ5 M7 hB5
      go_wp2_with fail
      generalize (w6.alloc (.cells #[.int .i64 q.kd, .string q.fd, .slice A1 q.ws.length c1, .int .i64 q.fr, .int .i64 q.tgt, .slice B1 q.ks.length d1] 26)) = W7 at v7 hh7 v7a hg7 H7 y0 y1 y2 y3 y4 y5 x0 x1 x2 x3 x4 x5 ⊢
      refine (foQuery_same 201 q A1 c1 B1 d1 A c B d W7 hh7.out (HasQ.upTo (by omega) hg7.out) (HSM.out.lmP 201)).mono ?_
      rintro e w8 ⟨rfl, hb8⟩
      have H8 := H7.trans (hb8.mono H7.size)
      clear y0 y1 y2 y3 y4 y5 x0 x1 x2 x3 x4 x5 v7 v7a hh7 hg7 hb8
      go_wp2
      go_ret
      exact ⟨rfl, H8⟩
    · have hi0 : (200 : Int) < (S.size : Int) := by omega
      have hi1 : decide ((200 : Int) < (S.size : Int)) = true := decide_eq_true hi0
      have hi2 : decide ((S.size : Int) > 200) = true := decide_eq_true hi0
      clear ho hsz
      go_wp2_with fail
      refine region_qw (by kernel_rfl) (by kernel_rfl) ?_
      repeat (
        refine qw_step (fun K hK => ?_)
        go_simp
        first
          | (refine hK _ ?_; clear hK K)
          | (apply Exists.intro
             refine ⟨fun _ => ?_, hK _ ?_⟩
             (first | ((go_at_call 12; exact cSpPut 4 q A c B d S HS HQ3 HSM _ _)) | ((go_at_call 13; exact cImOk bm 4 q A c B d true HOK HL3 HQ3 HSM _ _)) | ((go_at_call 14; exact cSpOk 4 q A c B d true HOK HQ3 HSM _ _)))
             clear hK K)
          | fail)
      refine qw_nil ?_
      intro _ hw'
      obtain ⟨⟨dq, osq⟩, hw''⟩ := hw'
      subst hw''
      have hBq := hB3.trans ((below_regrown w3 dq osq).mono (by have := hB3.size; omega))
      have hb5 := below_regrown w3 dq osq
      dsimp only
      generalize grow (redrawn w3 dq) osq = W5 at hBq hb5 ⊢
      have hB5 := hBq
      have cb5 := (hb5.block qb sz3).trans cb3
      have HQ5 := Lib.hid (HQ3.out.below hb5)
      have HL5 := Lib.hid (HL3.out.below hb5)
      clear k0 k1 k2 k3 k4 k5 HQ3 HL3 cb3 hb5 sz3 hBq
      obtain ⟨x0, x1, x2, x3, x4, x5⟩ := blk6 cb5
      have k0 := cell_regrown x0
      have k1 := cell_regrown x1
      have k2 := cell_regrown x2
      have k3 := cell_regrown x3
      have k4 := cell_regrown x4
      have k5 := cell_regrown x5
      clear x0 x1 x2 x3 x4 x5
      go_wp2_with fail
      refine region_qw (by kernel_rfl) (by kernel_rfl) ?_
      repeat (
        refine qw_step (fun K hK => ?_)
        go_simp
        first
          | (refine hK _ ?_; clear hK K)
          | (apply Exists.intro
             refine ⟨fun _ => ?_, hK _ ?_⟩
             (first | ((go_at_call 12; exact cSpPut 4 q A c B d S HS HQ5 HSM _ _)) | ((go_at_call 13; exact cImOk bm 4 q A c B d true HOK HL5 HQ5 HSM _ _)) | ((go_at_call 14; exact cSpOk 4 q A c B d true HOK HQ5 HSM _ _)))
             clear hK K)
          | fail)
      refine qw_nil ?_
      intro _ hw'
      obtain ⟨⟨dq, osq⟩, hw''⟩ := hw'
      subst hw''
      have hBq := hB5.trans ((below_regrown W5 dq osq).mono (by have := hB5.size; omega))
      dsimp only
      generalize grow (redrawn W5 dq) osq = Wq at hBq ⊢
      clear k0 k1 k2 k3 k4 k5 HQ5 HL5 cb5
      go_wp2
      go_ret
      exact ⟨rfl, hBq⟩
end Go.Proofs.YtaobgliimbmemaaDoor
