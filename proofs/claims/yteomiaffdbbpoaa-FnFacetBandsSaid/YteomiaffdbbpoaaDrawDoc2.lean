/-
  Contract of l30Doc.
-/
import Derived.Test.YteomiaffdbbpoaaDrawDoc
import Derived.Deep.DeepCutAuto
namespace Go.Proofs.Yteomiaffdbbpoaa
open Go.RowKit
set_option linter.unusedVariables false

theorem rowTFld : RowT Try.prog 39 117 2 32 := rowTField
theorem rowTAtt : RowT Try.prog 40 88 2 24 := rowTAttr
set_option maxHeartbeats 3200000 in
set_option maxRecDepth 20000 in
theorem l30Doc_gen (g p : Nat) (id : Int) (w : World) (hr : Rd w g p) (hp : p + 100 < 1000000) :
    Calls Try.prog 114 #[.pointer (some ⟨g, 0, none⟩), .int .i64 id] w fun e w' => ∃ (d : DocD) (A1 : Option Addr) (c1 : Nat) (A2 : Option Addr) (c2 : Nat), (e = .returned (.agg #[.int .i64 id, .slice A1 d.fs.length c1, .slice A2 d.ns.length c2]) ∧ d.id = id ∧ OwnD w' w.heap.size d A1 c1 A2 c2 ∧ SmF d.fs 2 ∧ SmA d.ns 2) ∧ Gen w w' g p 80 := by
  have hg := hr.lt
  go_enter Try.func114, Try.ntmps114
  go_wp2_with fail
  have hB0 : Below w.heap.size w ((w.alloc (.cells #[.int .i64 0, .slice none 0 0, .slice none 0 0] 42)).alloc (.cells #[.int .i64 id, .slice none 0 0, .slice none 0 0] 42)) := by (repeat' (first | exact Below.refl _ _ | apply Below.alloc | apply Below.setCell | apply Below.drew | apply below_draws)) <;> (first | omega | (simp <;> omega))
  have h0 : DocP w ((w.alloc (.cells #[.int .i64 0, .slice none 0 0, .slice none 0 0] 42)).alloc (.cells #[.int .i64 id, .slice none 0 0, .slice none 0 0] 42)) g p w.heap.size (w.heap.size + 1) id (.slice none 0 0) (.slice none 0 0) [] [] :=
    ⟨hr.below (hB0.mono hg), Outer.of hB0, hg, rfl, by omega, by simp, typAt_new _ _ _ (by simp), by simp [go_sem], by simp [go_sem], by simp [go_sem], fun j => by simp [go_sem], by simp [go_sem], by simp [go_sem], by simp [go_sem], fun j => by simp [go_sem], World.ownsRow_nil _ _ _ _, World.ownsRow_nil _ _ _ _⟩
  generalize ((w.alloc (.cells #[.int .i64 0, .slice none 0 0, .slice none 0 0] 42)).alloc (.cells #[.int .i64 id, .slice none 0 0, .slice none 0 0] 42)) = W0 at h0 ⊢
  have hF0 : DocF w W0 g p w.heap.size (w.heap.size + 1) id 0 0 := ⟨p, _, _, [], [], Nat.le_refl _, h0, ⟨Nat.zero_le _, fun f hf => by simp at hf⟩, ⟨Nat.zero_le _, fun f hf => by simp at hf⟩⟩
  clear h0 hB0 hr
  generalize hRb : w.heap.size = Rb at hF0 ⊢
  generalize hDb : Rb + 1 = D at hF0 ⊢
  obtain ⟨q, v1, v2, fs, ns, hq, hd, hsf, hsa⟩ := hF0
  refine (pick_gen g q _ (by omega) (by omega) _ hd.rd (by omega)).mono ?_
  rintro e w1 ⟨v, ⟨rfl, h3, h4⟩, q1, hq1, r1, O1⟩
  have hd1 := hd.gen r1 O1
  clear hd O1 r1
  go_upto_if 10 with (fail)
  go_cut [] (fun wx => DocF w wx g (p + 20) Rb D id 1 0)
  case first =>
    by_cases hv : 0 < v
    · have c1 := hd1.c1
      have hrd := hd1.rd
      have z1 := hd1.z 1
      have hsl := hsf.1
      go_wp2_with fail
      go_region_law (first | (refine step_append_v rowTFld encF_ok (by decide) rfl (.tmp 12) (.tmp 16) rfl (w.heap.size + 1) v1 fs (by simp [Act.eval]) (own_belowZ hd4.o1 ((Below.refl _ w4).alloc (Nat.le_refl _) (.cells #[.string ⟨#[98, 111, 100, 121]⟩, .string s4] 117))) ⟨w4.heap.size, 0, none⟩ 1 1 [(⟨#[98, 111, 100, 121]⟩, s4)] rfl (by simp [Act.eval]) (SrcE.lit encF_ok w4 117 #[.string ⟨#[98, 111, 100, 121]⟩, .string s4] [(⟨#[98, 111, 100, 121]⟩, s4)] rfl 1) (by show _ + 1 ≤ _; omega) (by omega) (by simp; omega) ?_; intro v7 w7 o7 g7 b7; obtain ⟨y7, z7⟩ := (hd4.below ((Below.refl _ w4).alloc (Nat.le_refl _) (.cells #[.string ⟨#[98, 111, 100, 121]⟩, .string s4] 117))).appF g7; obtain ⟨A7, c7, rfl⟩ := own_form o7) | (go_simp; go_at_call 134; refine (l30Text_gen g q1 _ (by exact hrd) (by omega)).mono ?_; rintro e w4 ⟨s4, ⟨rfl, hs4⟩, q4, hq4, r4, O4⟩; have O4b : Outer w1.heap.size g w1 w4 := O4; have hd4 := hd1.gen r4 O4b; have c4 := hd4.c1; have hz4 := hd4.sz; have z4 := hd4.z 1; have c5 := (hd4.below ((Below.refl _ w4).alloc (Nat.le_refl _) (.cells #[.string ⟨#[98, 111, 100, 121]⟩, .string s4] 117))).c1))
      all_goals (go_wp2_with fail; go_meet)
      all_goals (have hA := hd4.below ((Below.refl _ w4).alloc (Nat.le_refl _) (.cells #[.string ⟨#[98, 111, 100, 121]⟩, .string s4] 117)); have hN := hA.setF (fs' := fs ++ [(⟨#[98, 111, 100, 121]⟩, s4)]) g7 o7; rw [List.length_append] at hN)
      all_goals exact ⟨q4, _, v2, fs ++ [(⟨#[98, 111, 100, 121]⟩, s4)], ns, by omega, hN, hsf.snoc (by show ByteArray.size ⟨#[98, 111, 100, 121]⟩ ≤ 5000; decide) (by show s4.size ≤ 5000; omega), hsa⟩
    · go_wp2_with fail
      go_meet
      exact ⟨q1, v1, v2, fs, ns, by omega, hd1, hsf.up (by omega), hsa.up (by omega)⟩
  case rest =>
    obtain ⟨q, v1, v2, fs, ns, hq, hd, hsf, hsa⟩ := hcut
    clear hd1
    go_wp2_with fail
    refine (pick_gen g q _ (by omega) (by omega) _ hd.rd (by omega)).mono ?_
    rintro e w1 ⟨v, ⟨rfl, h3, h4⟩, q1, hq1, r1, O1⟩
    have hd1 := hd.gen r1 O1
    clear hd O1 r1
    go_upto_if 21 with (fail)
    go_cut [] (fun wx => DocF w wx g (p + 40) Rb D id 2 0)
    case first =>
      by_cases hv : v = 0
      · have c1 := hd1.c1
        have hrd := hd1.rd
        have z1 := hd1.z 1
        have hsl := hsf.1
        go_wp2_with fail
        go_region_law (first | (refine step_append_v rowTFld encF_ok (by decide) rfl (.tmp 23) (.tmp 27) rfl (w.heap.size + 1) v1 fs (by simp [Act.eval]) (own_belowZ hd4.o1 ((Below.refl _ w4).alloc (Nat.le_refl _) (.cells #[.string ⟨#[116, 105, 116, 108, 101]⟩, .string s4] 117))) ⟨w4.heap.size, 0, none⟩ 1 1 [(⟨#[116, 105, 116, 108, 101]⟩, s4)] rfl (by simp [Act.eval]) (SrcE.lit encF_ok w4 117 #[.string ⟨#[116, 105, 116, 108, 101]⟩, .string s4] [(⟨#[116, 105, 116, 108, 101]⟩, s4)] rfl 1) (by show _ + 1 ≤ _; omega) (by omega) (by simp; omega) ?_; intro v7 w7 o7 g7 b7; obtain ⟨y7, z7⟩ := (hd4.below ((Below.refl _ w4).alloc (Nat.le_refl _) (.cells #[.string ⟨#[116, 105, 116, 108, 101]⟩, .string s4] 117))).appF g7; obtain ⟨A7, c7, rfl⟩ := own_form o7) | (go_simp; go_at_call 134; refine (l30Text_gen g q1 _ (by exact hrd) (by omega)).mono ?_; rintro e w4 ⟨s4, ⟨rfl, hs4⟩, q4, hq4, r4, O4⟩; have O4b : Outer w1.heap.size g w1 w4 := O4; have hd4 := hd1.gen r4 O4b; have c4 := hd4.c1; have hz4 := hd4.sz; have z4 := hd4.z 1; have c5 := (hd4.below ((Below.refl _ w4).alloc (Nat.le_refl _) (.cells #[.string ⟨#[116, 105, 116, 108, 101]⟩, .string s4] 117))).c1))
        all_goals (go_wp2_with fail; go_meet)
        all_goals (have hA := hd4.below ((Below.refl _ w4).alloc (Nat.le_refl _) (.cells #[.string ⟨#[116, 105, 116, 108, 101]⟩, .string s4] 117)); have hN := hA.setF (fs' := fs ++ [(⟨#[116, 105, 116, 108, 101]⟩, s4)]) g7 o7; rw [List.length_append] at hN)
        all_goals exact ⟨q4, _, v2, fs ++ [(⟨#[116, 105, 116, 108, 101]⟩, s4)], ns, by omega, hN, hsf.snoc (by show ByteArray.size ⟨#[116, 105, 116, 108, 101]⟩ ≤ 5000; decide) (by show s4.size ≤ 5000; omega), hsa⟩
      · go_wp2_with fail
        go_meet
        exact ⟨q1, v1, v2, fs, ns, by omega, hd1, hsf.up (by omega), hsa.up (by omega)⟩
    case rest =>
      obtain ⟨q, v1, v2, fs, ns, hq, hd, hsf, hsa⟩ := hcut
      clear hd1
      go_wp2_with fail
      refine (pick_gen g q _ (by omega) (by omega) _ hd.rd (by omega)).mono ?_
      rintro e w1 ⟨v, ⟨rfl, h3, h4⟩, q1, hq1, r1, O1⟩
      have hd1 := hd.gen r1 O1
      clear hd O1 r1
      go_upto_if 32 with (fail)
      go_cut [] (fun wx => DocF w wx g (p + 43) Rb D id 2 1)
      case first =>
        by_cases hv : 0 < v
        · have c1 := hd1.c2
          have hrd := hd1.rd
          have z1 := hd1.z 2
          have hsl := hsa.1
          go_wp2_with fail
          go_region_law (first | (refine step_append_v rowTAtt encA_ok (by decide) rfl (.tmp 34) (.tmp 38) rfl (w.heap.size + 1) v2 ns (by simp [Act.eval]) (own_belowZ hd4.o2 ((Below.refl _ w4).alloc (Nat.le_refl _) (.cells #[.string ⟨#[114, 97, 116, 101]⟩, .int .i64 (t4)] 88))) ⟨w4.heap.size, 0, none⟩ 1 1 [(⟨#[114, 97, 116, 101]⟩, t4)] rfl (by simp [Act.eval]) (SrcE.lit encA_ok w4 88 #[.string ⟨#[114, 97, 116, 101]⟩, .int .i64 (t4)] [(⟨#[114, 97, 116, 101]⟩, t4)] rfl 1) (by show _ + 1 ≤ _; omega) (by omega) (by simp; omega) ?_; intro v7 w7 o7 g7 b7; obtain ⟨y7, z7⟩ := (hd4.below ((Below.refl _ w4).alloc (Nat.le_refl _) (.cells #[.string ⟨#[114, 97, 116, 101]⟩, .int .i64 (t4)] 88))).appA g7; obtain ⟨A7, c7, rfl⟩ := own_form o7) | (go_simp; go_at_call 76; refine (pick_gen g q1 _ (by omega) (by omega) _ (by exact hrd) (by omega)).mono ?_; rintro e w4 ⟨t4, ⟨rfl, ht4, ht5⟩, q4, hq4, r4, O4⟩; have O4b : Outer w1.heap.size g w1 w4 := O4; have hd4 := hd1.gen r4 O4b; have c4 := hd4.c2; have hz4 := hd4.sz; have z4 := hd4.z 2; have c5 := (hd4.below ((Below.refl _ w4).alloc (Nat.le_refl _) (.cells #[.string ⟨#[114, 97, 116, 101]⟩, .int .i64 (t4)] 88))).c2))
          all_goals (go_wp2_with fail; go_meet)
          all_goals (have hA := hd4.below ((Below.refl _ w4).alloc (Nat.le_refl _) (.cells #[.string ⟨#[114, 97, 116, 101]⟩, .int .i64 (t4)] 88)); have hN := hA.setA (ns' := ns ++ [(⟨#[114, 97, 116, 101]⟩, t4)]) g7 o7; rw [List.length_append] at hN)
          all_goals exact ⟨q4, v1, _, fs, ns ++ [(⟨#[114, 97, 116, 101]⟩, t4)], by omega, hN, hsf, hsa.snoc (by show ByteArray.size ⟨#[114, 97, 116, 101]⟩ ≤ 5000; decide)⟩
        · go_wp2_with fail
          go_meet
          exact ⟨q1, v1, v2, fs, ns, by omega, hd1, hsf.up (by omega), hsa.up (by omega)⟩
      case rest =>
        obtain ⟨q, v1, v2, fs, ns, hq, hd, hsf, hsa⟩ := hcut
        clear hd1
        go_wp2_with fail
        refine (pick_gen g q _ (by omega) (by omega) _ hd.rd (by omega)).mono ?_
        rintro e w1 ⟨v, ⟨rfl, h3, h4⟩, q1, hq1, r1, O1⟩
        have hd1 := hd.gen r1 O1
        clear hd O1 r1
        go_upto_if 43 with (fail)
        go_cut [] (fun wx => DocF w wx g (p + 46) Rb D id 2 2)
        case first =>
          by_cases hv : v = 0
          · have c1 := hd1.c2
            have hrd := hd1.rd
            have z1 := hd1.z 2
            have hsl := hsa.1
            go_wp2_with fail
            go_region_law (first | (refine step_append_v rowTAtt encA_ok (by decide) rfl (.tmp 45) (.tmp 50) rfl (w.heap.size + 1) v2 ns (by simp [Act.eval]) (own_belowZ hd4.o2 ((Below.refl _ w4).alloc (Nat.le_refl _) (.cells #[.string ⟨#[121, 101, 97, 114]⟩, .int .i64 (IntKind.i64.wrap (2000 + t4))] 88))) ⟨w4.heap.size, 0, none⟩ 1 1 [(⟨#[121, 101, 97, 114]⟩, IntKind.i64.wrap (2000 + t4))] rfl (by simp [Act.eval]) (SrcE.lit encA_ok w4 88 #[.string ⟨#[121, 101, 97, 114]⟩, .int .i64 (IntKind.i64.wrap (2000 + t4))] [(⟨#[121, 101, 97, 114]⟩, IntKind.i64.wrap (2000 + t4))] rfl 1) (by show _ + 1 ≤ _; omega) (by omega) (by simp; omega) ?_; intro v7 w7 o7 g7 b7; obtain ⟨y7, z7⟩ := (hd4.below ((Below.refl _ w4).alloc (Nat.le_refl _) (.cells #[.string ⟨#[121, 101, 97, 114]⟩, .int .i64 (IntKind.i64.wrap (2000 + t4))] 88))).appA g7; obtain ⟨A7, c7, rfl⟩ := own_form o7) | (go_simp; go_at_call 76; refine (pick_gen g q1 _ (by omega) (by omega) _ (by exact hrd) (by omega)).mono ?_; rintro e w4 ⟨t4, ⟨rfl, ht4, ht5⟩, q4, hq4, r4, O4⟩; have O4b : Outer w1.heap.size g w1 w4 := O4; have hd4 := hd1.gen r4 O4b; have c4 := hd4.c2; have hz4 := hd4.sz; have z4 := hd4.z 2; have c5 := (hd4.below ((Below.refl _ w4).alloc (Nat.le_refl _) (.cells #[.string ⟨#[121, 101, 97, 114]⟩, .int .i64 (IntKind.i64.wrap (2000 + t4))] 88))).c2))
            all_goals (go_wp2_with fail; go_meet)
            all_goals (have hA := hd4.below ((Below.refl _ w4).alloc (Nat.le_refl _) (.cells #[.string ⟨#[121, 101, 97, 114]⟩, .int .i64 (IntKind.i64.wrap (2000 + t4))] 88)); have hN := hA.setA (ns' := ns ++ [(⟨#[121, 101, 97, 114]⟩, IntKind.i64.wrap (2000 + t4))]) g7 o7; rw [List.length_append] at hN)
            all_goals exact ⟨q4, v1, _, fs, ns ++ [(⟨#[121, 101, 97, 114]⟩, IntKind.i64.wrap (2000 + t4))], by omega, hN, hsf, hsa.snoc (by show ByteArray.size ⟨#[121, 101, 97, 114]⟩ ≤ 5000; decide)⟩
          · go_wp2_with fail
            go_meet
            exact ⟨q1, v1, v2, fs, ns, by omega, hd1, hsf.up (by omega), hsa.up (by omega)⟩
        case rest =>
          obtain ⟨q, v1, v2, fs, ns, hq, hd, hsf, hsa⟩ := hcut
          clear hd1
          have e0 := hd.c0
          have e1 := hd.c1
          have e2 := hd.c2
          have f0 := hd.r0
          have f1 := hd.r1
          have f2 := hd.r2
          have g0 := hd.zr 0
          have g1 := hd.zr 1
          have g2 := hd.zr 2
          have hsz := hd.sz
          have k1 : Rb < D := hd.hD
          have k2 := hd.hDs
          obtain ⟨A1, c1, A2, c2, rfl, rfl, hO, hrd, hout⟩ := hd.last
          clear hd hRb hDb
          go_wp2
          exact bodyPost_ret (v := .agg #[.int .i64 id, .slice A1 fs.length c1, .slice A2 ns.length c2]) (by simp [results, Try.results114, go_sem, *]) rfl ⟨⟨id, fs, ns⟩, A1, c1, A2, c2, ⟨rfl, rfl, hO, hsf, hsa⟩, q, by omega, hrd, hout⟩
end Go.Proofs.Yteomiaffdbbpoaa
