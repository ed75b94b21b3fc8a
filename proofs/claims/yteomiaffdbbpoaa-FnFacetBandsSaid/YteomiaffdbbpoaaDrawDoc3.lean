/-
  Contract of l30AnyDoc.
-/
import Derived.Test.YteomiaffdbbpoaaDrawDoc2
import Derived.Deep.CutBlock
namespace Go.Proofs.Yteomiaffdbbpoaa
open Go.RowKit
set_option linter.unusedVariables false

set_option maxHeartbeats 3200000 in
set_option maxRecDepth 20000 in
theorem l30AnyDoc_gen (g p : Nat) (w : World) (hr : Rd w g p) (hp : p + 150 < 1000000) :
    Calls Try.prog 94 #[.pointer (some ⟨g, 0, none⟩)] w fun e w' => ∃ (d : DocD) (A1 : Option Addr) (c1 : Nat) (A2 : Option Addr) (c2 : Nat), (e = .returned (.agg #[.int .i64 d.id, .slice A1 d.fs.length c1, .slice A2 d.ns.length c2]) ∧ OwnD w' w.heap.size d A1 c1 A2 c2 ∧ SmF d.fs 3 ∧ SmA d.ns 3) ∧ Gen w w' g p 110 := by
  have hg := hr.lt
  go_enter Try.func94, Try.ntmps94
  go_wp2_with fail
  have hB0 : Below w.heap.size w (w.alloc (.cells #[.int .i64 0, .slice none 0 0, .slice none 0 0] 42)) := by (repeat' (first | exact Below.refl _ _ | apply Below.alloc | apply Below.setCell | apply Below.drew | apply below_draws)) <;> (first | omega | (simp <;> omega))
  have hs0 : (w.alloc (.cells #[.int .i64 0, .slice none 0 0, .slice none 0 0] 42)).heap.size = w.heap.size + 1 := by simp
  refine (pick_gen g p _ (by omega) (by omega) _ (hr.below (hB0.mono hg)) (by omega)).mono ?_
  rintro e w1 ⟨v1, ⟨rfl, h3, h4⟩, p1, hp1, r1, O1⟩
  have hsz1 := O1.2.1
  go_wp2_with fail
  refine (l30Doc_gen g p1 _ _ r1 (by omega)).mono ?_
  rintro e w2 ⟨d2, A1, c1, A2, c2, ⟨rfl, hid, hO2, hsf, hsa⟩, p2, hp2, r2, O2⟩
  have hsz2 := O2.2.1
  obtain ⟨hcc, hcf⟩ := (O1.trans (O2.mono hsz1)).cells
  have hz0 : ∀ j, w2.cell? ⟨w.heap.size, j, none⟩ = (w.alloc (.cells #[.int .i64 0, .slice none 0 0, .slice none 0 0] 42)).cell? ⟨w.heap.size, j, none⟩ := fun j => hcc _ _ (by omega) (by omega)
  have hf0 : ∀ j, w2.frozen? ⟨w.heap.size, j, none⟩ = (w.alloc (.cells #[.int .i64 0, .slice none 0 0, .slice none 0 0] 42)).frozen? ⟨w.heap.size, j, none⟩ := fun j => hcf _ _ (by omega) (by omega)
  obtain ⟨id0, fs0, ns0⟩ := d2
  simp only at hid hO2 hsf hsa
  have hRlt : w.heap.size < w2.heap.size := by omega
  have hP : DocP w (w2.alloc (.cells #[.int .i64 (1 + v1), .slice A1 fs0.length c1, .slice A2 ns0.length c2] 42)) g p2 w.heap.size w2.heap.size (1 + v1) (.slice A1 fs0.length c1) (.slice A2 ns0.length c2) fs0 ns0 := by
    have hb : Below w2.heap.size w2 (w2.alloc (.cells #[.int .i64 (1 + v1), .slice A1 fs0.length c1, .slice A2 ns0.length c2] 42)) := by (repeat' (first | exact Below.refl _ _ | apply Below.alloc | apply Below.setCell | apply Below.drew | apply below_draws)) <;> (first | omega | (simp <;> omega))
    refine ⟨r2.below (hb.mono r2.lt), ((Outer.of hB0).trans ((O1.mono (by omega)).trans (O2.mono (by omega)))).trans ((Outer.of hb).mono (by omega)), hg, rfl, hRlt, by simp, typAt_new _ _ _ rfl, by simp [go_sem], by simp [go_sem], by simp [go_sem], fun j => by simp [go_sem], ?_, ?_, ?_, fun j => ?_, ?_, ?_⟩
    · exact (hb.cell (p := ⟨w.heap.size, 0, none⟩) hRlt).trans ((hz0 0).trans (by simp [go_sem]))
    · exact (hb.cell (p := ⟨w.heap.size, 1, none⟩) hRlt).trans ((hz0 1).trans (by simp [go_sem]))
    · exact (hb.cell (p := ⟨w.heap.size, 2, none⟩) hRlt).trans ((hz0 2).trans (by simp [go_sem]))
    · exact (hb.frozen (p := ⟨w.heap.size, j, none⟩) hRlt).trans ((hf0 j).trans (by simp [go_sem]))
    · exact own_belowZ (own_monoZ hO2.1 (by omega)) hb
    · exact own_belowZ (own_monoZ hO2.2 (by omega)) hb
  have hq2 : p2 ≤ p + 81 := by omega
  clear hcc hcf hz0 hf0 hO2 O1 O2 r1 r2 hr hB0 hs0 hsz1 hsz2 hRlt hid
  go_wp2_with fail
  generalize (w2.alloc (.cells #[.int .i64 (1 + v1), .slice A1 fs0.length c1, .slice A2 ns0.length c2] 42)) = W0 at hP ⊢
  generalize hRb : w.heap.size = Rb at hP ⊢
  generalize w2.heap.size = D at hP ⊢
  go_wp2_with fail
  refine (pick_gen g p2 _ (by omega) (by omega) _ hP.rd (by omega)).mono ?_
  rintro e w1 ⟨v, ⟨rfl, h3, h4⟩, q1, hq1, r1, O1⟩
  have hd1 := hP.gen r1 O1
  clear hP O1 r1
  go_upto_block 0 with (fail)
  go_cut [10] (fun s10 wx => ∃ id', DocF w wx g (p + 101) Rb D id' 3 3)
  case first =>
    have hrd := hd1.rd
    have k1 := hd1.hD
    have k2 := hd1.hDs
    have hgl := hd1.gl
    have hsl := hsf.1
    have hsl2 := hsa.1
    have b0 := hd1.c0
    have b1 := hd1.c1
    have b2 := hd1.c2
    have z0 := hd1.z 0
    have z1 := hd1.z 1
    have z2 := hd1.z 2
    by_cases hv0 : v = 0
    · go_wp2_with fail
      have hdA := hd1.below ((Below.refl _ w1).alloc (Nat.le_refl _) (.cells #[.int .i64 0, .int .i64 10000, .int .i64 9999] 3))
      refine (one_any g q1 w1.heap.size 3 [0, 10000, 9999] _ hdA.rd (by omega) rfl (by omega) (by omega) (by omega) (fun i hi => ?_)).mono ?_
      · rcases i with _ | _ | _ | i
        all_goals first | omega | simp [go_sem]
      rintro e w4 ⟨t4, ⟨rfl, ht4⟩, q4, hq4, r4, O4⟩
      have hd4 := hdA.gen r4 O4
      have c4 := hd4.c0
      have z4 := hd4.z 0
      go_wp2
      go_meet
      exact ⟨t4, q4, _, _, fs0, ns0, by omega, hd4.setI t4, hsf.up (by omega), hsa.up (by omega)⟩
    · by_cases hv1 : v = 1
      · go_wp2_with (at_builtin; refine append_v rowTFld encF_ok (by decide) rfl (.tmp 20) (.tmp 22) rfl (w.heap.size + 1) (.slice A1 fs0.length c1) fs0 (by simp [Act.eval]) (own_belowZ hd1.o1 ((Below.refl _ w1).alloc (Nat.le_refl _) (.cells #[.string ⟨#[98, 111, 100, 121]⟩, .string ⟨#[97, 103, 97, 105, 110]⟩] 117))) ⟨w1.heap.size, 0, none⟩ 1 1 [(⟨#[98, 111, 100, 121]⟩, ⟨#[97, 103, 97, 105, 110]⟩)] rfl (by simp [Act.eval]) (SrcE.lit encF_ok w1 117 #[.string ⟨#[98, 111, 100, 121]⟩, .string ⟨#[97, 103, 97, 105, 110]⟩] [(⟨#[98, 111, 100, 121]⟩, ⟨#[97, 103, 97, 105, 110]⟩)] rfl 1) (by show _ + 1 ≤ _; omega) (by omega) (by simp; omega) ?_)
        intro N hNe v7 w7 o7 g7 b7
        obtain ⟨y7, z7⟩ := (hd1.below ((Below.refl _ w1).alloc (Nat.le_refl _) (.cells #[.string ⟨#[98, 111, 100, 121]⟩, .string ⟨#[97, 103, 97, 105, 110]⟩] 117))).appF g7
        rw [← hRb] at o7
        have hN := (hd1.below ((Below.refl _ w1).alloc (Nat.le_refl _) (.cells #[.string ⟨#[98, 111, 100, 121]⟩, .string ⟨#[97, 103, 97, 105, 110]⟩] 117))).setF (fs' := N) g7 o7
        have hsN : SmF N 3 := by rw [hNe.out]; exact hsf.snoc (by show ByteArray.size ⟨#[98, 111, 100, 121]⟩ ≤ 5000; decide) (by show ByteArray.size ⟨#[97, 103, 97, 105, 110]⟩ ≤ 5000; decide)
        obtain ⟨A7, c7, rfl⟩ := own_form o7
        clear o7 g7 b7 hNe
        go_wp2
        go_meet
        exact ⟨_, q1, _, _, N, ns0, by omega, hN, hsN, hsa.up (by omega)⟩
      · by_cases hv2 : v = 2
        · have hdA := hd1.below ((Below.refl _ w1).alloc (Nat.le_refl _) (.cells #[.int .i64 (-1), .int .i64 1000000000] 3))
          have cA := hdA.c2
          have rA := hdA.rd
          have zA : ∀ i, i < 2 → (w1.alloc (.cells #[.int .i64 (-1), .int .i64 1000000000] 3)).cell? ⟨w1.heap.size, i, none⟩ = some (.int .i64 (([-1, 1000000000] : List Int).getD i 0)) := by intro i hi; (rcases i with _ | _ | i); all_goals first | omega | simp [go_sem]
          go_wp2_with fail
          go_region_law (first | (refine step_append_v rowTAtt encA_ok (by decide) rfl (.tmp 28) (.tmp 33) rfl (w.heap.size + 1) (.slice A2 ns0.length c2) ns0 (by simp [Act.eval]) (own_belowZ hd4.o2 ((Below.refl _ w4).alloc (Nat.le_refl _) (.cells #[.string ⟨#[122, 122]⟩, .int .i64 t4] 88))) ⟨w4.heap.size, 0, none⟩ 1 1 [(⟨#[122, 122]⟩, t4)] rfl (by simp [Act.eval]) (SrcE.lit encA_ok w4 88 #[.string ⟨#[122, 122]⟩, .int .i64 t4] [(⟨#[122, 122]⟩, t4)] rfl 1) (by show _ + 1 ≤ _; omega) (by omega) (by simp; omega) ?_; intro v7 w7 o7 g7 b7; obtain ⟨y7, z7⟩ := (hd4.below ((Below.refl _ w4).alloc (Nat.le_refl _) (.cells #[.string ⟨#[122, 122]⟩, .int .i64 t4] 88))).appA g7; obtain ⟨A7, c7, rfl⟩ := own_form o7) | (go_simp; go_at_call 88; refine (one_any g q1 w1.heap.size 2 [-1, 1000000000] _ (by exact rA) (by omega) rfl (by omega) (by omega) (by omega) (by exact zA)).mono ?_; rintro e w4 ⟨t4, ⟨rfl, ht4⟩, q4, hq4, r4, O4⟩; have O4b : Outer (w1.alloc (.cells #[.int .i64 (-1), .int .i64 1000000000] 3)).heap.size g (w1.alloc (.cells #[.int .i64 (-1), .int .i64 1000000000] 3)) w4 := O4; have hd4 := hdA.gen r4 O4b; have c4 := hd4.c2; have hz4 := hd4.sz; have z4 := hd4.z 2; have c5 := (hd4.below ((Below.refl _ w4).alloc (Nat.le_refl _) (.cells #[.string ⟨#[122, 122]⟩, .int .i64 t4] 88))).c2))
          all_goals (go_wp2_with fail; go_meet)
          all_goals (have hA := hd4.below ((Below.refl _ w4).alloc (Nat.le_refl _) (.cells #[.string ⟨#[122, 122]⟩, .int .i64 t4] 88)); have hN := hA.setA (ns' := ns0 ++ [(⟨#[122, 122]⟩, t4)]) g7 o7; rw [List.length_append] at hN)
          all_goals exact ⟨_, q4, _, _, fs0, ns0 ++ [(⟨#[122, 122]⟩, t4)], by omega, hN, hsf.up (by omega), hsa.snoc (by show ByteArray.size ⟨#[122, 122]⟩ ≤ 5000; decide)⟩
        · by_cases hv3 : v = 3
          · go_wp2_with fail
            go_region_law (first | (refine step_append_v rowTFld encF_ok (by decide) rfl (.tmp 39) (.tmp 43) rfl (w.heap.size + 1) (.slice A1 fs0.length c1) fs0 (by simp [Act.eval]) (own_belowZ hd4.o1 ((Below.refl _ w4).alloc (Nat.le_refl _) (.cells #[.string ⟨#[122, 101, 100]⟩, .string s4] 117))) ⟨w4.heap.size, 0, none⟩ 1 1 [(⟨#[122, 101, 100]⟩, s4)] rfl (by simp [Act.eval]) (SrcE.lit encF_ok w4 117 #[.string ⟨#[122, 101, 100]⟩, .string s4] [(⟨#[122, 101, 100]⟩, s4)] rfl 1) (by show _ + 1 ≤ _; omega) (by omega) (by simp; omega) ?_; intro v7 w7 o7 g7 b7; obtain ⟨y7, z7⟩ := (hd4.below ((Below.refl _ w4).alloc (Nat.le_refl _) (.cells #[.string ⟨#[122, 101, 100]⟩, .string s4] 117))).appF g7; obtain ⟨A7, c7, rfl⟩ := own_form o7) | (go_simp; go_at_call 115; refine (l30AnyText_gen g q1 _ (by exact hrd) (by omega)).mono ?_; rintro e w4 ⟨s4, ⟨rfl, hs4⟩, q4, hq4, r4, O4⟩; have O4b : Outer w1.heap.size g w1 w4 := O4; have hd4 := hd1.gen r4 O4b; have c4 := hd4.c1; have hz4 := hd4.sz; have z4 := hd4.z 1; have c5 := (hd4.below ((Below.refl _ w4).alloc (Nat.le_refl _) (.cells #[.string ⟨#[122, 101, 100]⟩, .string s4] 117))).c1))
            all_goals (go_wp2_with fail; go_meet)
            all_goals (have hA := hd4.below ((Below.refl _ w4).alloc (Nat.le_refl _) (.cells #[.string ⟨#[122, 101, 100]⟩, .string s4] 117)); have hN := hA.setF (fs' := fs0 ++ [(⟨#[122, 101, 100]⟩, s4)]) g7 o7; rw [List.length_append] at hN)
            all_goals exact ⟨_, q4, _, _, fs0 ++ [(⟨#[122, 101, 100]⟩, s4)], ns0, by omega, hN, hsf.snoc (by show ByteArray.size ⟨#[122, 101, 100]⟩ ≤ 5000; decide) (by show s4.size ≤ 5000; omega), hsa.up (by omega)⟩
          · go_wp2_with fail
            go_meet
            exact ⟨_, q1, _, _, fs0, ns0, by omega, hd1, hsf.up (by omega), hsa.up (by omega)⟩
  case rest =>
    obtain ⟨id, q, v1, v2, fs, ns, hq, hd, hsf, hsa⟩ := hcut
    clear hd1
    have e0 := hd.c0
    have e1 := hd.c1
    have e2 := hd.c2
    have f0 := hd.r0
    have f1 := hd.r1
    have f2 := hd.r2
    have g0 := hd.zr 0
    have g1 := hd.zr 1
    have g2 := hd.zr 2
    have hsz := hd.sz
    have k1 : Rb < D := hd.hD
    have k2 := hd.hDs
    obtain ⟨B1, d1, B2, d2, rfl, rfl, hO, hrd, hout⟩ := hd.last
    clear hd hRb
    go_wp2
    exact bodyPost_ret (v := .agg #[.int .i64 id, .slice B1 fs.length d1, .slice B2 ns.length d2]) (by simp [results, Try.results94, go_sem, *]) rfl ⟨⟨id, fs, ns⟩, B1, d1, B2, d2, ⟨rfl, hO, hsf, hsa⟩, q, by omega, hrd, hout⟩
end Go.Proofs.Yteomiaffdbbpoaa
