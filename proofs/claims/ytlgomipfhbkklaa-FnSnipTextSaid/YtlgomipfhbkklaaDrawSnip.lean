/-
  Contract of DrawSnipOf.
-/
import Derived.Test.YtlgomipfhbkklaaDrawConf2
import Derived.Deep.RegionWith
namespace Go.Proofs.Ytlgomipfhbkklaa
open Go.RowKit Go.Sort
set_option linter.unusedVariables false

theorem outer_grown {B g : Nat} {w w' : World} (h : Outer B g w w') (hB : B = w.heap.size) : w.grownBy w' (some g) := by
  subst hB
  exact ⟨h.1.1, h.1.2.1, h.1.2.2, h.2.1, fun k hk hne => h.2.2 k hk (fun e => hne (by rw [e]))⟩
theorem own_genT {w w' : World} {base e size n g : Nat} {v : Value} {xs : List Value} (h : w.ownsRow base e size v n xs) (hb : g < base) (ho : Outer w.heap.size g w w') : w'.ownsRow base e size v n xs := by
  refine h.kept (row := some g) (outer_grown ho rfl) ?_
  cases hv : v.ownBlock with
  | none => exact .inl rfl
  | some k => exact .inr (by have := (h.lt k hv).1; intro e; injection e; omega)
def DrawnS (w : World) (e : Ending) (w' : World) : Prop := ∃ (d : ConfD) (A1 : Option Addr) (c1 : Nat) (A2 : Option Addr) (c2 : Nat) (s : ByteArray) (gt ct : Nat) (ts : List ByteArray) (wd : Int),
  (e = .returned (.tuple #[.agg #[.slice A1 d.st.length c1, .slice A2 d.sy.length c2], .string s, .slice (some ⟨gt, 0, none⟩) ts.length ct, .int .i64 wd]) ∧ SmW d ∧ s.size ≤ 5000 ∧ ts.length ≤ 3 ∧ (∀ t ∈ ts, t.size ≤ 200) ∧ KeptC w w' d A1 c1 A2 ∧ OwnT w' w.heap.size gt ct ts ∧ 0 ≤ wd ∧ wd ≤ 13) ∧ Below w.heap.size w w'
set_option maxRecDepth 4000 in
set_option maxHeartbeats 6400000 in
theorem drawSnipOf_any (a0 : Option Addr) (len cap : Nat) (zs : List Int) (w : World) (h : IsRow .u8 w a0 len cap zs) :
    Calls Try.prog 8 #[.slice a0 len cap] w (DrawnS w) := by
  have b0 : Below w.heap.size w (w.alloc (.cells #[.slice none 0 0, .slice none 0 0] 26)) := by (repeat' (first | exact Below.refl _ _ | apply Below.alloc | apply Below.setCell | apply Below.drew | apply below_draws)) <;> (first | omega | (simp <;> omega))
  have ra := alloc_at w (.cells #[.slice none 0 0, .slice none 0 0] 26)
  have s0 : w.heap.size + 1 ≤ (w.alloc (.cells #[.slice none 0 0, .slice none 0 0] 26)).heap.size := by simp
  go_enter Try.func8, Try.ntmps8
  go_wp2_with fail
  generalize (w.alloc (.cells #[.slice none 0 0, .slice none 0 0] 26)) = W0 at b0 ra s0 ⊢
  refine (open_any a0 len cap zs W0 (h.below b0)).mono ?_
  rintro e w1 ⟨⟨rfl, r1⟩, hb1⟩
  have ra1 := (hb1.block w.heap.size (by omega)).trans ra
  have hB1 := b0.trans (hb1.mono (by omega))
  obtain ⟨g, hg⟩ : ∃ g, g = W0.heap.size := ⟨_, rfl⟩
  have hgw : w.heap.size < g := by omega
  rw [← hg] at r1 ⊢
  have hlt1 := r1.lt
  clear hg hb1 h ra b0
  go_wp2_with fail
  refine (l30AnyConf_gen g 0 w1 r1 (by omega)).mono ?_
  rintro e w2 ⟨d, A1, c1, A2, c2, ⟨rfl, hsm, hk⟩, p2, hp2, r2, o2⟩
  have o2s := o2.2.1
  have O2 : Outer w.heap.size g w w2 := (Outer.of hB1).trans (o2.mono hB1.size)
  have ra2 := (o2.2.2 w.heap.size (by omega) (by omega)).trans ra1
  have cb := alloc_at w2 (.cells #[.slice A1 d.st.length c1, .slice A2 d.sy.length c2] 26)
  have b3 : Below w2.heap.size w2 (w2.alloc (.cells #[.slice A1 d.st.length c1, .slice A2 d.sy.length c2] 26)) := by (repeat' (first | exact Below.refl _ _ | apply Below.alloc | apply Below.setCell | apply Below.drew | apply below_draws)) <;> (first | omega | (simp <;> omega))
  have s3 : w2.heap.size < (w2.alloc (.cells #[.slice A1 d.st.length c1, .slice A2 d.sy.length c2] 26)).heap.size := by simp
  have r3 : Rd (w2.alloc (.cells #[.slice A1 d.st.length c1, .slice A2 d.sy.length c2] 26)) g p2 := r2.below (b3.mono (by have := r2.lt; omega))
  go_wp2_with fail
  generalize (w2.alloc (.cells #[.slice A1 d.st.length c1, .slice A2 d.sy.length c2] 26)) = W3 at cb b3 s3 r3 ⊢
  generalize hq : w2.heap.size = q at cb s3 ⊢
  refine (l30AnyText_gen g p2 W3 r3 (by omega)).mono ?_
  rintro e w4 ⟨s, ⟨rfl, hs⟩, p4, hp4, r4, o4⟩
  have o4s := o4.2.1
  have hqg : q ≠ g := by omega
  have cb4 := (o4.2.2 q (by omega) hqg).trans cb
  have O4 : Outer w.heap.size g w w4 := (O2.trans (Outer.of (b3.mono (by omega)))).trans (o4.mono (by omega))
  have S4 : Outer w2.heap.size g w2 w4 := (Outer.of b3).trans (o4.mono (by omega))
  have ra4 := (S4.2.2 w.heap.size (by omega) (by omega)).trans ra2
  have s4 : q < w4.heap.size := by omega
  clear cb b3 r3 o4 r2 O2 r1 ra1 ra2
  have b5 : Below w4.heap.size w4 (w4.alloc (.cells #[] 9)) := by (repeat' (first | exact Below.refl _ _ | apply Below.alloc | apply Below.setCell | apply Below.drew | apply below_draws)) <;> (first | omega | (simp <;> omega))
  have own5 := ownE_made (enc := encT) (F := 1) 9 w4 w4.heap.size (Nat.le_refl _)
  have r5 : Rd (w4.alloc (.cells #[] 9)) g p4 := r4.below (b5.mono (by have := r4.lt; omega))
  have hgw4 := r4.lt
  go_wp2_with fail
  generalize (w4.alloc (.cells #[] 9)) = W5 at b5 own5 r5 ⊢
  refine (pick_gen g p4 4 (by omega) (by omega) _ r5 (by omega)).mono ?_
  rintro e w6 ⟨n0, ⟨rfl, h3, h4⟩, p6, hp6, r6, o6⟩
  obtain ⟨n, rfl⟩ := Int.eq_ofNat_of_zero_le h3
  have own6 := own_genT own5 hgw4 o6
  have O6 : Outer w4.heap.size g w4 w6 := (Outer.of b5).trans (o6.mono b5.size)
  have hn3 : n ≤ 3 := by omega
  clear r5 o6 own5 b5 r4 h3 h4
  go_wp2_with fail
  go_loopw [9, 10, 11] (fun tv nv _ wr => ∃ (m qq gt ct : Nat) (ts : List ByteArray), nv = .int .i64 (m : Int) ∧ tv = .slice (some ⟨gt, 0, none⟩) ts.length ct ∧ m ≤ 3 ∧ ts.length + m ≤ 3 ∧ Hid (∀ t ∈ ts, t.size ≤ 200) ∧ qq ≤ 100 ∧ qq + m ≤ 100 ∧ OwnT wr w4.heap.size gt ct ts ∧ Rd wr g qq ∧ Outer w4.heap.size g w4 wr) (fun _ nv _ _ => (intOf nv).toNat)
  case atStart => exact ⟨n, p6, _, _, [], rfl, rfl, hn3, by simpa using hn3, fun t ht => by simp at ht, by omega, by omega, own6, r6, O6⟩
  case round =>
    clear own6 r6 O6
    obtain ⟨m, qq, gt, ct, ts, rfl, rfl, hm, htm, hts, hqq, hqm, own, r, hO⟩ := hrel
    obtain ⟨wo, hwo⟩ : ∃ wo, wo = wr := ⟨_, rfl⟩
    subst hwo
    have hOs := hO.2.1
    have hgo := r.lt
    rcases Nat.eq_zero_or_pos m with rfl | hm0
    · have x0 : wo.cell? ⟨q, 0, none⟩ = some (.slice A1 d.st.length c1) := (hO.cells.1 q 0 s4 hqg).trans (by simp [World.cell?, cb4])
      have x1 : wo.cell? ⟨q, 1, none⟩ = some (.slice A2 d.sy.length c2) := (hO.cells.1 q 1 s4 hqg).trans (by simp [World.cell?, cb4])
      have hqR : ¬ q = w.heap.size := by omega
      have hRq : ¬ w.heap.size = q := by omega
      have raw := (hO.2.2 w.heap.size (by omega) (by omega)).trans ra4
      go_wp2_with fail
      go_region_held3 (fun V => V.cell? ⟨q, 0, none⟩ = some (.slice A1 d.st.length c1) ∧ V.cell? ⟨q, 1, none⟩ = some (.slice A2 d.sy.length c2))
        (first
          | go_keep
          | (go_split_ands
             refine ⟨?_, ?_⟩
             · (rw [o8.cells.1 q 0 (by simp; omega) hqg]; assumption)
             · (rw [o8.cells.1 q 1 (by simp; omega) hqg]; assumption)))
        (first | (go_at_call 37; refine (one_any g qq _ 7 [1, 2, 3, 5, 12, 0, 13] _ (r.below (by (repeat' (first | exact Below.refl _ _ | apply Below.alloc | apply Below.setCell | apply Below.drew | apply below_draws)) <;> (first | omega | (simp <;> omega)))) (by omega) rfl (by omega) (by omega) (by simp; omega) (fun i hi => by rcases i with _ | _ | _ | _ | _ | _ | _ | i <;> first | omega | simp [go_sem])).mono ?_; rintro e w8 ⟨v, ⟨rfl, hv⟩, p8, hp8, r8, o8⟩; have rb8 : w8.heap[w.heap.size]? = some (.cells #[.slice none 0 0, .slice none 0 0] 26 (0, 0)) := (o8.2.2 w.heap.size (by simp; omega) (by omega)).trans (alloc_old raw); have y0 : w8.cell? ⟨w.heap.size, 0, none⟩ = some (.slice none 0 0) := (by simp [World.cell?, rb8]); have y1 : w8.cell? ⟨w.heap.size, 1, none⟩ = some (.slice none 0 0) := (by simp [World.cell?, rb8]); have yz0 : w8.frozen? ⟨w.heap.size, 0, none⟩ = false := (by simp [World.frozen?, rb8]); have yz1 : w8.frozen? ⟨w.heap.size, 1, none⟩ = false := (by simp [World.frozen?, rb8])))
      rename_i hHeld
      clear hHeld
      have ob : Outer wo.heap.size g wo w8 := (Outer.of (B := wo.heap.size) (by (repeat' (first | exact Below.refl _ _ | apply Below.alloc | apply Below.setCell | apply Below.drew | apply below_draws)) <;> (first | omega | (simp <;> omega)))).trans (o8.mono (by simp))
      have own8 := own_genT own hgw4 ob
      have hvb : 0 ≤ v ∧ v ≤ 13 := by simp at hv; omega
      have S8 : Outer w2.heap.size g w2 w8 := S4.trans ((hO.mono (by omega)).trans (ob.mono (by omega)))
      have O8 : Outer w.heap.size g w w8 := O4.trans ((hO.mono (by have := O4.2.1; omega)).trans (ob.mono (by have := O4.2.1; omega)))
      have h1s := hB1.size
      have hWs : w.heap.size < w1.heap.size := by omega
      have HF : Hid (KeptC w ((w8.setCell ⟨w.heap.size, 0, none⟩ (.slice A1 d.st.length c1)).setCell ⟨w.heap.size, 1, none⟩ (.slice A2 d.sy.length c2)) d A1 c1 A2 ∧ OwnT ((w8.setCell ⟨w.heap.size, 0, none⟩ (.slice A1 d.st.length c1)).setCell ⟨w.heap.size, 1, none⟩ (.slice A2 d.sy.length c2)) w.heap.size gt ct ts ∧ Below w.heap.size w ((w8.setCell ⟨w.heap.size, 0, none⟩ (.slice A1 d.st.length c1)).setCell ⟨w.heap.size, 1, none⟩ (.slice A2 d.sy.length c2))) := by
        refine ⟨fun w'' hq => hk _ ?_, ?_, ?_⟩
        · have h8 := Same.outer (lo := w1.heap.size) S8 hlt1
          have h9 := (h8.trans (Same.set (lo := w1.heap.size) (b := w.heap.size) (j := 0) w8 (.slice A1 d.st.length c1) hWs S8.2.1) (Nat.le_refl _)).trans (Same.set (lo := w1.heap.size) (b := w.heap.size) (j := 1) (w8.setCell ⟨w.heap.size, 0, none⟩ (.slice A1 d.st.length c1)) (.slice A2 d.sy.length c2) hWs (by simpa using S8.2.1)) (Nat.le_refl _)
          exact h9.trans (hq.lo (by omega)) (by simpa using S8.2.1)
        · have hz : ZoneR w.heap.size (w.heap.size + 1) w8 ((w8.setCell ⟨w.heap.size, 0, none⟩ (.slice A1 d.st.length c1)).setCell ⟨w.heap.size, 1, none⟩ (.slice A2 d.sy.length c2)) :=
            (ZoneR.setCell w8 _ (by omega) (by omega)).trans (ZoneR.setCell _ _ (by omega) (by omega))
          have hgt := (own8.lt gt rfl).1
          exact own_monoZ (own_zoneR own8 hz (fun k hk => by simp [Value.ownBlock] at hk; subst hk; right; omega)) (by omega)
        · exact ((O8.under (Nat.le_refl _) (by omega)).setCell (p := ⟨w.heap.size, 0, none⟩) (Nat.le_refl _) _).setCell (p := ⟨w.heap.size, 1, none⟩) (Nat.le_refl _) _
      have HSM := Lib.hid hsm
      clear own own8 ob S8 O8 o8 hO S4 O4 hk hsm o2
      go_wp2
      exact bodyPost_ret (v := .tuple #[.agg #[.slice A1 d.st.length c1, .slice A2 d.sy.length c2], .string s, .slice (some ⟨gt, 0, none⟩) ts.length ct, .int .i64 v]) (by simp [results, Try.results8, go_sem, *]) rfl ⟨d, A1, c1, A2, c2, s, gt, ct, ts, v, ⟨rfl, HSM.out, hs, by omega, hts.out, HF.out.1, HF.out.2.1, hvb.1, hvb.2⟩, HF.out.2.2⟩
    · obtain ⟨m, rfl⟩ : ∃ k, m = k + 1 := ⟨m - 1, by omega⟩
      go_wp2_with fail
      refine (of_gen g qq wo.heap.size 7 _ (r.below (by (repeat' (first | exact Below.refl _ _ | apply Below.alloc | apply Below.setCell | apply Below.drew | apply below_draws)) <;> (first | omega | (simp <;> omega)))) (by omega) (by omega) (by omega) (by omega) (by refine strs_of _ _ _ _ ?_ ?_; (rfl); (kernel_rfl))).mono ?_
      rintro e w7 ⟨t, ⟨rfl, ht⟩, p7, hp7, r7, o7⟩
      have ob : Outer wo.heap.size g wo w7 := (Outer.of (B := wo.heap.size) (by (repeat' (first | exact Below.refl _ _ | apply Below.alloc | apply Below.setCell | apply Below.drew | apply below_draws)) <;> (first | omega | (simp <;> omega)))).trans (o7.mono (by simp))
      have own7 := own_genT own hgw4 ob
      have hO7 := hO.trans (ob.mono hOs)
      have hO7s := hO7.2.1
      have hg7 := r7.lt
      clear own r hO o7 ob
      go_wp2_with fail
      refine (l2Has_any _ _ ts t _ (OwnE.src own7) (by omega)).mono ?_
      rintro e w8 ⟨rfl, hb8⟩
      have own8 := own_belowZ own7 hb8
      have r8 := r7.below (hb8.mono (by omega))
      have hO8 := hO7.trans (Outer.of (hb8.mono hO7s))
      have hO8s := hO8.2.1
      have hg8 := r8.lt
      clear own7 r7 hb8 hO7
      cases hh : hasB ts t with
      | true =>
        go_wp2
        go_roundw
        case rel => exact ⟨m, p7, gt, ct, ts, by go_num, rfl, by omega, by omega, hts, by omega, by omega, own8, r8, hO8⟩
        case measure => simp [intOf]
      | false =>
        go_wp2_with (at_builtin; refine append_rec rowTStr encT_ok (by decide) rfl _ _ rfl w4.heap.size _ _ ts rfl (own8.alloc _) _ _ _ [t] rfl rfl ?_ (by simp only [List.length_cons, List.length_nil]; omega) (by omega) (by simp <;> omega) ?_; exact srcE_litAt encT_ok #[.string t] [t] rfl (by rfl) (by first | rfl | (simp; done)))
        intro N hN g9 c9 w9 own9 hg9 hat9 hb9
        have hb89 : Below (g + 1) w8 w9 := Below.trans (by (repeat' (first | exact Below.refl _ _ | apply Below.alloc | apply Below.setCell | apply Below.drew | apply below_draws)) <;> (first | omega | (simp <;> omega))) (hb9.mono (by omega))
        have hO9 := hO8.trans (Outer.of (Below.trans (by (repeat' (first | exact Below.refl _ _ | apply Below.alloc | apply Below.setCell | apply Below.drew | apply below_draws)) <;> (first | omega | (simp <;> omega))) hb9))
        have r9 := r8.below hb89
        have HNL : Hid (N.length = ts.length + 1) := by show _ = _; rw [hN.out, List.length_append]; rfl
        have hnl := HNL.out
        have HN : Hid (∀ x ∈ N, x.size ≤ 200) := fun x hx => by
          rw [hN.out] at hx
          rcases List.mem_append.1 hx with h9 | h9
          · exact hts.out x h9
          · simp at h9; subst h9; exact ht
        have hnm : N.length + m ≤ 3 := by omega
        clear hN hg9 hat9 hb9 own8 r8 hO8 hb89 HNL hnl
        go_wp2
        go_roundw
        case rel => exact ⟨m, p7, g9, c9, N, by go_num, rfl, by omega, hnm, HN, by omega, by omega, own9, r9, hO9⟩
        case measure => simp [intOf]
end Go.Proofs.Ytlgomipfhbkklaa
