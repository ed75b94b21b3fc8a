/-
  Contract of spec.GroupOf.
-/
import Derived.Test.YteomiaffdbbpoaaGroup
namespace Go.Proofs.Yteomiaffdbbpoaa
open Go.RowKit Go.Sort
set_option linter.unusedVariables false

set_option maxRecDepth 4000 in
set_option maxHeartbeats 1600000 in
theorem specGroup_any (A Ah : Option Addr) (c ch : Nat) (Ds : List DocD) (hits : HitL) (name : ByteArray) (w : World) (h : RdD w A Ds) (hs : SmDs Ds) (hh : SrcE enc2 2 w Ah ch hits) (hhl : hits.length ≤ 1048576) (hcap : hits.length ≤ ch) (hcm : ch ≤ 9223372036854775807) :
    Calls Try.prog 29 #[.slice A Ds.length c, .slice Ah hits.length ch, .string name] w (ReadsH (groupF Ds hits name) w) := by
  obtain ⟨R, hR⟩ : ∃ R, R = groupF Ds hits name := ⟨_, rfl⟩
  rw [← hR]
  have HR := Lib.hid hR
  clear hR
  have hDl := hs.1
  have hB0 : Below w.heap.size w ((w.alloc (.cells #[] 49)).alloc (.cells #[] 3)) := ((Below.refl _ _).alloc (Nat.le_refl _) _).alloc (by simp) _
  have own0 : OwnE enc2 49 2 ((w.alloc (.cells #[] 49)).alloc (.cells #[] 3)) w.heap.size w.heap.size 0 ([] : HitL) := own_below (ownE_made (enc := enc2) (F := 2) 49 w w.heap.size (Nat.le_refl _)) ((Below.refl _ _).alloc (Nat.le_refl _) _)
  have ownI0 : OwnE encI 3 1 ((w.alloc (.cells #[] 49)).alloc (.cells #[] 3)) w.heap.size (w.heap.size + 1) 0 ([] : List Int) := by
    have := ownE_made (enc := encI) (F := 1) 3 (w.alloc (.cells #[] 49)) w.heap.size (by simp)
    simpa using this
  go_enter Try.func29, Try.ntmps29
  go_wp2_with fail
  generalize ((w.alloc (.cells #[] 49)).alloc (.cells #[] 3)) = w0 at hB0 own0 ownI0 ⊢
  refine (l6Docs_any A c Ds _ (h.below hB0) hs).mono ?_
  rintro e w1 ⟨rfl, hb1⟩
  replace own0 : OwnE enc2 49 2 w1 w.heap.size w.heap.size 0 ([] : HitL) := own_below own0 hb1
  replace ownI0 : OwnE encI 3 1 w1 w.heap.size (w.heap.size + 1) 0 ([] : List Int) := own_below ownI0 hb1
  have hB1 := hB0.trans (hb1.mono hB0.size)
  cases hd : docsB Ds with
  | false =>
    obtain rfl : R = [] := by rw [HR.out]; unfold groupF; rw [if_neg (by rw [hd]; simp)]
    go_wp2
    go_ret
    exact ⟨none, 0, ⟨rfl, SrcE.nil_ _ 0⟩, hB1⟩
  | true =>
    go_wp2_with fail
    refine (l13Ok_any Ah ch hits _ (hh.1.below hB1) hhl).mono ?_
    rintro e w2 ⟨rfl, hb2⟩
    replace own0 : OwnE enc2 49 2 w2 w.heap.size w.heap.size 0 ([] : HitL) := own_below own0 hb2
    replace ownI0 : OwnE encI 3 1 w2 w.heap.size (w.heap.size + 1) 0 ([] : List Int) := own_below ownI0 hb2
    have hB2 := hB1.trans (hb2.mono hB1.size)
    clear hB0 hB1 hb1 hb2
    cases hu : hitsB hits with
    | false =>
      obtain rfl : R = [] := by rw [HR.out]; unfold groupF; rw [if_neg (by rw [hu]; simp)]
      go_wp2
      go_ret
      exact ⟨none, 0, ⟨rfl, SrcE.nil_ _ 0⟩, hB2⟩
    | true =>
      have HR2 : Hid (R = (foldG Ds name hits).2) := by show _ = _; rw [HR.out]; unfold groupF; rw [if_pos ⟨hd, hu⟩]
      have HDB := Lib.hid (docsB_doc hd)
      have HSM := Lib.hid hs.2
      clear HR hd hu
      go_wp2_with fail
      go_loopw [7, 8, 9, 10, 11] (fun ov sv iv _ _ wr => ∃ k : Nat, k ≤ hits.length ∧ iv = .int .i64 k ∧ ∃ (g c g2 c2 : Nat) (st : List Int × HitL), ov = .slice (some ⟨g, 0, none⟩) st.2.length c ∧ sv = .slice (some ⟨g2, 0, none⟩) st.1.length c2 ∧ Hid (st = foldG Ds name (hits.take k)) ∧ OwnE enc2 49 2 wr w.heap.size g c st.2 ∧ OwnE encI 3 1 wr w.heap.size g2 c2 st.1 ∧ Below w.heap.size w wr) (fun _ _ iv _ _ _ => hits.length - (intOf iv).toNat)
      case atStart => exact ⟨0, Nat.zero_le _, rfl, w.heap.size, 0, w.heap.size + 1, 0, ([], []), rfl, rfl, rfl, own0, ownI0, hB2⟩
      case round =>
        obtain ⟨k, hk, rfl, g, c0, g2, c2, st, rfl, rfl, hst, hown, hownI, hB⟩ := hrel
        by_cases hlt : k < hits.length
        · have hi0 : (k : Int) < (hits.length : Int) := by omega
          obtain ⟨b, off, hAe, _, _, _⟩ := (hh.1.below hB).at2 hlt
          subst hAe
          have hsuc := foldG_succ (Ds := Ds) (name := name) hlt
          have hstl := foldG_len Ds name hits k hk
          rw [← hst.out] at hsuc hstl
          have e3 : hits[k] = (hits[k].1, hits[k].2) := rfl
          rw [e3] at hsuc
          have HSUC := Lib.hid hsuc
          have HCELL : Hid (∀ w', Below w.heap.size w w' → b < w'.heap.size ∧ w'.cell? ⟨b, off + k * 2, none⟩ = some (.int .i64 hits[k].1) ∧ w'.cell? ⟨b, off + k * 2 + 1, none⟩ = some (.int .i64 hits[k].2)) := fun w' hw => Rds.all2 (hh.1.below hw) hlt
          clear hsuc e3 hst
          generalize hits[k].1 = hd at HCELL HSUC
          generalize hits[k].2 = hp at HCELL HSUC
          go_wp2_with fail
          go_loopw [10, 11] (fun nv iv wr => ∃ j : Nat, j ≤ Ds.length ∧ iv = .int .i64 j ∧ ∃ n : Int, nv = .int .i64 n ∧ Hid (n = numF name hd (Ds.take j)) ∧ OwnE enc2 49 2 wr w.heap.size g c0 st.2 ∧ OwnE encI 3 1 wr w.heap.size g2 c2 st.1 ∧ Below w.heap.size w wr) (fun _ iv _ => Ds.length - (intOf iv).toNat)
          case atStart => exact ⟨0, Nat.zero_le _, rfl, -1, rfl, rfl, hown, hownI, hB⟩
          case round =>
            obtain ⟨j, hj, rfl, n, rfl, hn, own5, ownI5, hB5⟩ := hrel
            obtain ⟨hbb, x0, x1⟩ := HCELL.out wr hB5
            by_cases hltj : j < Ds.length
            · obtain ⟨b2, off2, A1, d1, A2, d2, hAe, hb2, y0, y1, y2, hdd⟩ := (h.below hB5) j hltj
              subst hAe
              have hj0 : (j : Int) < (Ds.length : Int) := by omega
              have hsm := HSM.out _ (List.getElem_mem hltj)
              have hnf := numF_succ (name := name) (doc := hd) hltj
              rw [docNum_ok (HDB.out j hltj) name] at hnf
              have HNF := Lib.hid hnf
              clear hnf
              generalize Ds[j] = d at y0 y1 y2 hdd hsm HNF
              obtain ⟨id, fs, ns⟩ := d
              dsimp only at y0 y1 y2 HNF
              have k0 := cell_regrown x0
              have k1 := cell_regrown y0
              by_cases hid : id = hd
              · have HS : Hid (numR name ns = numF name hd (Ds.take (j + 1))) := by show _ = _; rw [HNF.out, if_pos hid]
                subst hid
                have hq : (id == id) = true := by simp
                go_wp2_with fail
                refine region_qw (by kernel_rfl) (by kernel_rfl) ?_
                repeat (
                  refine qw_step (fun K hK => ?_)
                  go_simp
                  first
                    | (refine hK _ ?_; clear hK K))
                refine qw_nil ?_
                intro _ hw'
                obtain ⟨⟨dq, osq⟩, hw''⟩ := hw'
                subst hw''
                have hbq : Below wr.heap.size wr (grow (redrawn wr dq) osq) := below_regrown wr dq osq
                have own6 : OwnE enc2 49 2 (grow (redrawn wr dq) osq) w.heap.size g c0 st.2 := own_below own5 hbq
                have ownI6 : OwnE encI 3 1 (grow (redrawn wr dq) osq) w.heap.size g2 c2 st.1 := own_below ownI5 hbq
                have hB6 := hB5.trans (hbq.mono hB5.size)
                have z0 := (hbq.cell (p := ⟨_, _, none⟩) hb2).trans y0
                have z1 := (hbq.cell (p := ⟨_, _, none⟩) hb2).trans y1
                have z2 := (hbq.cell (p := ⟨_, _, none⟩) hb2).trans y2
                have hdd6 := hdd.below hbq
                generalize grow (redrawn wr dq) osq = w6 at own6 ownI6 hB6 z0 z1 z2 hdd6 ⊢
                clear own5 ownI5 hB5 hbq y0 y1 y2 x0 x1 k0 k1 hdd HNF hn hb2 hbb
                go_wp2_with fail
                refine (l6Num_any ⟨id, fs, ns⟩ A1 A2 d1 d2 name _ hdd6 hsm).mono ?_
                rintro e w7 ⟨rfl, hb7⟩
                have own7 : OwnE enc2 49 2 w7 w.heap.size g c0 st.2 := own_below own6 hb7
                have ownI7 : OwnE encI 3 1 w7 w.heap.size g2 c2 st.1 := own_below ownI6 hb7
                have hB7 := hB6.trans (hb7.mono hB6.size)
                clear own6 ownI6 hB6 hb7 z0 z1 z2 hdd6 hsm
                dsimp only
                generalize numR name ns = m at HS ⊢
                go_wp2
                go_roundw
                case rel => exact ⟨j + 1, by omega, by go_num, m, rfl, HS, own7, ownI7, hB7⟩
                case measure => simp [intOf]; omega
              · have HS : Hid (n = numF name hd (Ds.take (j + 1))) := by show _ = _; rw [HNF.out, if_neg hid]; exact hn.out
                have hq : (id == hd) = false := by simpa using hid
                go_wp2_with fail
                refine region_qw (by kernel_rfl) (by kernel_rfl) ?_
                repeat (
                  refine qw_step (fun K hK => ?_)
                  go_simp
                  first
                    | (refine hK _ ?_; clear hK K))
                refine qw_nil ?_
                intro _ hw'
                obtain ⟨⟨dq, osq⟩, hw''⟩ := hw'
                subst hw''
                have hbq : Below wr.heap.size wr (grow (redrawn wr dq) osq) := below_regrown wr dq osq
                have own6 : OwnE enc2 49 2 (grow (redrawn wr dq) osq) w.heap.size g c0 st.2 := own_below own5 hbq
                have ownI6 : OwnE encI 3 1 (grow (redrawn wr dq) osq) w.heap.size g2 c2 st.1 := own_below ownI5 hbq
                have hB6 := hB5.trans (hbq.mono hB5.size)
                generalize grow (redrawn wr dq) osq = w6 at own6 ownI6 hB6 ⊢
                clear own5 ownI5 hB5 hbq HNF hn
                go_wp2
                go_roundw
                case rel => exact ⟨j + 1, by omega, by go_num, n, rfl, HS, own6, ownI6, hB6⟩
                case measure => simp [intOf]; omega
            · obtain rfl : j = Ds.length := by omega
              have hn2 : n = numF name hd Ds := by have := hn.out; rwa [List.take_length] at this
              have HSUC2 : Hid (foldG Ds name (hits.take (k + 1)) = stepG st (hd, hp) n) := by show _ = _; rw [HSUC.out, hn2]
              have hB5s := hB5.size
              clear hn hn2 HSUC
              by_cases hn0 : 0 ≤ n
              · go_wp2_with fail
                refine (l8Has_any _ c2 st.1 n _ (ownI5.ownI.rds) (by omega)).mono ?_
                rintro e w6 ⟨rfl, rfl⟩
                cases hin : inB st.1 n with
                | true =>
                  have HS : Hid (st = foldG Ds name (hits.take (k + 1))) := by show _ = _; rw [HSUC2.out]; unfold stepG; rw [if_neg (by rw [hin]; simp)]
                  clear HSUC2
                  go_wp2
                  go_roundw
                  case rel => exact ⟨k + 1, by omega, by go_num, g, c0, g2, c2, st, rfl, rfl, HS, own5, ownI5, hB5⟩
                  case measure => simp [intOf]; omega
                | false =>
                  have HS : Hid ((st.1 ++ [n], st.2 ++ [(hd, hp)]) = foldG Ds name (hits.take (k + 1))) := by show _ = _; rw [HSUC2.out]; unfold stepG; rw [if_pos ⟨hn0, hin⟩]
                  have hgg := own_ne own5 ownI5 (by decide) _ _ rfl rfl
                  clear HSUC2
                  go_wp2_with (at_builtin; refine append_rec rowTI encI_ok (by decide) rfl _ _ rfl w.heap.size _ _ st.1 rfl (ownI5.alloc _) _ _ _ [n] rfl rfl (SrcE.lit encI_ok _ _ #[.int .i64 n] [n] rfl 1) (by simp; omega) (by omega) (by simp <;> omega) ?_)
                  intro N hN g6 c6 w7 own7 hg7 hat7 hb7
                  obtain rfl : N = st.1 ++ [n] := hN.out
                  have own7b : OwnE enc2 49 2 w7 w.heap.size g c0 st.2 := own_other (own5.alloc _) hg7 hgg
                  have hB7 : Below w.heap.size w w7 := (hB5.alloc hB5s _).trans hb7
                  have hB7s := hB7.size
                  obtain ⟨hbb7, z0, z1⟩ := HCELL.out w7 hB7
                  have hgg7 := own_ne own7b own7 (by decide) _ _ rfl rfl
                  clear hN hg7 hat7 hb7 own5 ownI5 hB5 x0 x1 hbb
                  go_wp2_with (at_builtin; refine append_rec rowTHit encHit (by decide) rfl _ _ rfl w.heap.size _ _ st.2 rfl (own7b.alloc _) _ _ _ [(hd, hp)] rfl rfl (SrcE.lit encHit _ _ #[.int .i64 hd, .int .i64 hp] [(hd, hp)] rfl 1) (by simp; omega) (by omega) (by simp <;> omega) ?_)
                  intro N hN g8 c8 w8 own8 hg8 hat8 hb8
                  obtain rfl : N = st.2 ++ [(hd, hp)] := hN.out
                  have ownI8 : OwnE encI 3 1 w8 w.heap.size g6 c6 (st.1 ++ [n]) := own_other (own7.alloc _) hg8 (fun e => hgg7 e.symm)
                  have hB8 : Below w.heap.size w w8 := (hB7.alloc hB7s _).trans hb8
                  clear hN hg8 hat8 hb8 own7 own7b hB7
                  go_wp2
                  go_roundw
                  case rel => exact ⟨k + 1, by omega, by go_num, g8, c8, g6, c6, (st.1 ++ [n], st.2 ++ [(hd, hp)]), by simp, by simp, HS, own8, ownI8, hB8⟩
                  case measure => simp [intOf]; omega
              · have HS : Hid (st = foldG Ds name (hits.take (k + 1))) := by show _ = _; rw [HSUC2.out]; unfold stepG; rw [if_neg (by omega)]
                clear HSUC2
                go_wp2
                go_roundw
                case rel => exact ⟨k + 1, by omega, by go_num, g, c0, g2, c2, st, rfl, rfl, HS, own5, ownI5, hB5⟩
                case measure => simp [intOf]; omega
        · obtain rfl : k = hits.length := by omega
          have HS : Hid (R = st.2) := by show _ = _; rw [HR2.out, hst.out, List.take_length]
          obtain rfl : R = st.2 := HS.out
          clear hst HR2 HS
          go_wp2
          go_ret
          exact ⟨_, _, ⟨rfl, hown.src⟩, hB⟩
end Go.Proofs.Yteomiaffdbbpoaa
