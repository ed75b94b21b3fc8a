/-
  What is drawn of slices of documents: contracts of l30Docs, l30AnyDocs.
-/
import Derived.Test.YteomiaffdbbpoaaDrawDoc3
namespace Go.Proofs.Yteomiaffdbbpoaa
open Go.RowKit
set_option linter.unusedVariables false

theorem OwnE.gen {α : Type} {enc : α → List Value} {E F : Nat} {w w' : World} {base g g2 c : Nat} {L : List α} (h : OwnE enc E F w base g2 c L) (hb : g < base) (ho : Outer w.heap.size g w w') : OwnE enc E F w' base g2 c L := own_gen h hb ho
abbrev DHd := Int × (Option Addr × Nat × Nat) × (Option Addr × Nat × Nat)
def encDH (x : DHd) : List Value := [.int .i64 x.1, .slice x.2.1.1 x.2.1.2.1 x.2.1.2.2, .slice x.2.2.1 x.2.2.2.1 x.2.2.2.2]
theorem encDH_ok : Enc encDH 3 := ⟨fun _ => rfl, fun a u hu => by simp [encDH] at hu; rcases hu with rfl | rfl | rfl <;> rfl⟩
theorem infoDocD : (Try.prog.info? 42).map (fun i => (i.zero, i.size, i.bytes)) = some (some (.agg #[.int .i64 0, .slice none 0 0, .slice none 0 0]), 3, 56) := by kernel_rfl
theorem rowTDocD : RowT Try.prog 30 42 3 56 := rowT_of Try.underlying30 infoDocD rfl
theorem OwnD.kept {w w' : World} {base b2 n : Nat} {d : DocD} {A1 A2 : Option Addr} {c1 c2 : Nat} {v : Value} {xs : List Value} (h : OwnD w base d A1 c1 A2 c2) (ho : w.ownsRow b2 42 3 v n xs) (hg : w.grownBy w' v.ownBlock) : OwnD w' base d A1 c1 A2 c2 :=
  ⟨own_kept h.1 hg (own_ne h.1 ho (by decide)), own_kept h.2 hg (own_ne h.2 ho (by decide))⟩
theorem OwnD.below {w w' : World} {base : Nat} {d : DocD} {A1 A2 : Option Addr} {c1 c2 : Nat} (h : OwnD w base d A1 c1 A2 c2) (hb : Below w.heap.size w w') : OwnD w' base d A1 c1 A2 c2 := ⟨own_belowZ h.1 hb, own_belowZ h.2 hb⟩
theorem OwnD.gen {w w' : World} {base g : Nat} {d : DocD} {A1 A2 : Option Addr} {c1 c2 : Nat} (h : OwnD w base d A1 c1 A2 c2) (hb : g < base) (ho : Outer w.heap.size g w w') : OwnD w' base d A1 c1 A2 c2 := ⟨own_gen h.1 hb ho, own_gen h.2 hb ho⟩
theorem OwnD.mono {w : World} {base b2 : Nat} {d : DocD} {A1 A2 : Option Addr} {c1 c2 : Nat} (h : OwnD w base d A1 c1 A2 c2) (hb : b2 ≤ base) : OwnD w b2 d A1 c1 A2 c2 := ⟨own_monoZ h.1 hb, own_monoZ h.2 hb⟩
/-- the headers hs of documents of the call's own. -/
def HdG (w : World) (base : Nat) (hs : List DHd) (Ds : List DocD) : Prop :=
  hs.length = Ds.length ∧ ∀ i, (hi : i < Ds.length) → ∃ A1 c1 A2 c2, hs[i]? = some (Ds[i].id, (A1, Ds[i].fs.length, c1), (A2, Ds[i].ns.length, c2)) ∧ OwnD w base Ds[i] A1 c1 A2 c2
theorem HdG.nil_ (w : World) (base : Nat) : HdG w base [] [] := ⟨rfl, fun i hi => by simp at hi⟩
theorem HdG.below {w w' : World} {base : Nat} {hs : List DHd} {Ds : List DocD} (h : HdG w base hs Ds) (hb : Below w.heap.size w w') : HdG w' base hs Ds :=
  ⟨h.1, fun i hi => by obtain ⟨A1, c1, A2, c2, h1, h2⟩ := h.2 i hi; exact ⟨A1, c1, A2, c2, h1, h2.below hb⟩⟩
theorem HdG.gen {w w' : World} {base g : Nat} {hs : List DHd} {Ds : List DocD} (h : HdG w base hs Ds) (hb : g < base) (ho : Outer w.heap.size g w w') : HdG w' base hs Ds :=
  ⟨h.1, fun i hi => by obtain ⟨A1, c1, A2, c2, h1, h2⟩ := h.2 i hi; exact ⟨A1, c1, A2, c2, h1, h2.gen hb ho⟩⟩
theorem HdG.kept {w w' : World} {base b2 g c : Nat} {hs hs2 : List DHd} {Ds : List DocD} (h : HdG w base hs Ds) (ho : OwnE encDH 42 3 w b2 g c hs2) (hg : w.grownBy w' (some g)) : HdG w' base hs Ds :=
  ⟨h.1, fun i hi => by
    obtain ⟨A1, c1, A2, c2, h1, h2⟩ := h.2 i hi
    exact ⟨A1, c1, A2, c2, h1, OwnD.kept (v := .slice (some ⟨g, 0, none⟩) hs2.length c) h2 ho hg⟩⟩
theorem HdG.snoc {w : World} {base : Nat} {hs : List DHd} {Ds : List DocD} {A1 A2 : Option Addr} {c1 c2 : Nat} {d : DocD} (h : HdG w base hs Ds) (h2 : OwnD w base d A1 c1 A2 c2) : HdG w base (hs ++ [(d.id, (A1, d.fs.length, c1), (A2, d.ns.length, c2))]) (Ds ++ [d]) := by
  refine ⟨by simp [h.1], fun i hi => ?_⟩
  by_cases hlt : i < Ds.length
  · obtain ⟨B1, e1, B2, e2, h3, h4⟩ := h.2 i hlt
    have e : (Ds ++ [d])[i] = Ds[i] := List.getElem_append_left hlt
    refine ⟨B1, e1, B2, e2, ?_, ?_⟩
    · rw [List.getElem?_append_left (by rw [h.1]; exact hlt), e]; exact h3
    · rw [e]; exact h4
  · have hi2 : i = Ds.length := by simp at hi; omega
    subst hi2
    have e : (Ds ++ [d])[Ds.length] = d := by simp
    refine ⟨A1, c1, A2, c2, ?_, ?_⟩
    · rw [List.getElem?_append_right (by rw [h.1]; omega), h.1, Nat.sub_self, e]; rfl
    · rw [e]; exact h2
theorem HdG.rd {w : World} {base b2 g c : Nat} {hs : List DHd} {Ds : List DocD} (h : HdG w base hs Ds) (ho : OwnE encDH 42 3 w b2 g c hs) : RdD w (some ⟨g, 0, none⟩) Ds := fun k hk => by
  obtain ⟨A1, c1, A2, c2, h1, h2⟩ := h.2 k hk
  have hlt := (ho.lt g rfl).2
  have hkh : k < hs.length := by rw [h.1]; exact hk
  have hc : ∀ j, j < 3 → w.cell? ⟨g, k * 3 + j, none⟩ = (encDH (Ds[k].id, (A1, Ds[k].fs.length, c1), (A2, Ds[k].ns.length, c2)))[j]? := fun j hj => by
    rw [ho.cellAt (k * 3 + j) (by omega)]
    exact flat_get encDH_ok.len h1 hj
  exact ⟨g, 0, A1, c1, A2, c2, rfl, hlt, by rw [Nat.zero_add]; exact hc 0 (by omega), by rw [Nat.zero_add]; exact hc 1 (by omega), by rw [Nat.zero_add]; exact hc 2 (by omega), Rds.own h2.1, Rds.own h2.2⟩
/-- a drawn slice of documents. -/
def DrawnG (most : Nat) (w w' : World) (base gO c : Nat) (Ds : List DocD) : Prop :=
  ∃ hs, OwnE encDH 42 3 w' base gO c hs ∧ HdG w' base hs Ds ∧ Ds.length ≤ most ∧ ∀ d ∈ Ds, SmF d.fs 3 ∧ SmA d.ns 3
section
variable {w : World} {ops : Array Oper} {rest : List Oper} {o : Oper} {a : Act} {Q : Exit → Act → World → Prop}
/-- an append of one document to a slice of documents of the call's own. -/
theorem append_doc (hgd : o.guard = none) (s x : Operand) (ho : o.op = .call { callee := .builtin .append, args := #[s, x], argTypes := #[30, 30] })
    (base : Nat) (g c0 : Nat) (hs : List DHd) (Ds : List DocD) (A1 : Option Addr) (c1 : Nat) (A2 : Option Addr) (c2 : Nat) (d : DocD) (blk : Nat) (hblk : blk = w.heap.size) (hs0 : a.eval s = .slice (some ⟨g, 0, none⟩) Ds.length c0) (hx : a.eval x = .slice (some ⟨blk, 0, none⟩) 1 1)
    (own : OwnE encDH 42 3 w base g c0 hs) (hd : HdG w base hs Ds) (hL : OwnD w base d A1 c1 A2 c2) (hn : Ds.length ≤ 1000) (hbase : base ≤ w.heap.size)
    (h : ∀ N g' c' w' Ds2, Hid (Ds2 = Ds ++ [d]) → OwnE encDH 42 3 w' base g' c' N → HdG w' base N Ds2 → Below base w w' → wpList Try.prog ops Q rest (a.put o.dst (.slice (some ⟨g', 0, none⟩) Ds2.length c')) w') :
    wpList Try.prog ops Q (o :: rest) a (w.alloc (.cells #[.int .i64 d.id, .slice A1 d.fs.length c1, .slice A2 d.ns.length c2] 42)) := by
  subst hblk
  have hlh := hd.1
  have own2 : OwnE encDH 42 3 (w.alloc (.cells #[.int .i64 d.id, .slice A1 d.fs.length c1, .slice A2 d.ns.length c2] 42)) base g c0 hs := own.alloc _
  have hd2 := hd.below (w' := w.alloc (.cells #[.int .i64 d.id, .slice A1 d.fs.length c1, .slice A2 d.ns.length c2] 42)) (by (repeat' (first | exact Below.refl _ _ | apply Below.alloc | apply Below.setCell | apply Below.drew | apply below_draws)) <;> (first | omega | (simp <;> omega)))
  have hL2 : OwnD (w.alloc (.cells #[.int .i64 d.id, .slice A1 d.fs.length c1, .slice A2 d.ns.length c2] 42)) base d A1 c1 A2 c2 := hL.below (by (repeat' (first | exact Below.refl _ _ | apply Below.alloc | apply Below.setCell | apply Below.drew | apply below_draws)) <;> (first | omega | (simp <;> omega)))
  refine append_rec rowTDocD encDH_ok (by decide) hgd s x ho base g _ hs (by rw [hlh]; exact hs0) own2 _ _ _ [(d.id, (A1, d.fs.length, c1), (A2, d.ns.length, c2))] rfl hx (SrcE.lit encDH_ok w 42 _ [(d.id, (A1, d.fs.length, c1), (A2, d.ns.length, c2))] rfl 1) (by simp; omega) (by omega) (by simp; omega) ?_
  intro N hN g' c' w' h1 h2 h3 h4
  have h5 := (hd2.snoc hL2)
  rw [← hN.out] at h5
  have hl5 := h5.1
  rw [hl5]
  refine h N g' c' w' _ rfl h1 ?_ (Below.trans (by (repeat' (first | exact Below.refl _ _ | apply Below.alloc | apply Below.setCell | apply Below.drew | apply below_draws)) <;> (first | omega | (simp <;> omega))) h4)
  have h6 := hd2.kept own2 h2
  have hL6 : OwnD w' base d A1 c1 A2 c2 := OwnD.kept (v := .slice (some ⟨g, 0, none⟩) hs.length c0) hL2 own2 h2
  have := h6.snoc hL6
  rwa [← hN.out] at this
end
theorem allD_snoc {Ds : List DocD} {d : DocD} {n m : Nat} (h : Hid (∀ d ∈ Ds, SmF d.fs n ∧ SmA d.ns m)) (h1 : SmF d.fs n) (h2 : SmA d.ns m) : Hid (∀ x ∈ Ds ++ [d], SmF x.fs n ∧ SmA x.ns m) := fun M hM => by
  rcases List.mem_append.1 hM with hM | hM
  · exact h.out M hM
  · rw [List.mem_singleton] at hM; subst hM; exact ⟨h1, h2⟩
theorem l30Docs_gen (g p : Nat) (w : World) (hr : Rd w g p) (hp : p + 700 < 1000000) :
    Calls Try.prog 93 #[.pointer (some ⟨g, 0, none⟩)] w fun e w' => ∃ (gO c : Nat) (Ds : List DocD), (e = .returned (.slice (some ⟨gO, 0, none⟩) Ds.length c) ∧ DrawnG 5 w w' w.heap.size gO c Ds) ∧ Gen w w' g p 410 := by
  have hg := hr.lt
  go_enter Try.func93, Try.ntmps93
  go_wp2_with fail
  have r0 : Rd (w.alloc (.cells #[] 42)) g p := hr.below (by (repeat' (first | exact Below.refl _ _ | apply Below.alloc | apply Below.setCell | apply Below.drew | apply below_draws)) <;> (first | omega | (simp <;> omega)))
  have own0 := ownE_made (enc := encDH) (F := 3) 42 w w.heap.size (Nat.le_refl _)
  have hs0 : w.heap.size + 1 ≤ (w.alloc (.cells #[] 42)).heap.size := by simp
  have hO0 : Outer w.heap.size g w (w.alloc (.cells #[] 42)) := Outer.of (by (repeat' (first | exact Below.refl _ _ | apply Below.alloc | apply Below.setCell | apply Below.drew | apply below_draws)) <;> (first | omega | (simp <;> omega)))
  generalize (w.alloc (.cells #[] 42)) = W0 at r0 own0 hs0 hO0 ⊢
  refine (pick_gen g p _ (by omega) (by omega) _ r0 (by omega)).mono ?_
  rintro e w1 ⟨v1, ⟨rfl, h1, h2⟩, p1, hp1, r1, o1⟩
  obtain ⟨n, rfl⟩ := Int.eq_ofNat_of_zero_le h1
  have own1 := own0.gen hg o1
  have hsz1 := o1.2.1
  have O1 := hO0.trans (o1.mono hO0.2.1)
  clear own0 o1 r0 hr hO0
  go_wp2_with fail
  go_loopw [3, 4, 5] (fun v x k wr => ∃ (m q gO c : Nat) (y : Int) (hs : List DHd) (Ds : List DocD), k = .int .i64 (m : Int) ∧ x = .int .i64 y ∧ v = .slice (some ⟨gO, 0, none⟩) Ds.length c ∧ Ds.length + m ≤ 5 ∧ 0 ≤ y ∧ y ≤ 10 * Ds.length ∧ q ≤ p + 1 + 81 * Ds.length ∧ Hid (∀ d ∈ Ds, SmF d.fs 3 ∧ SmA d.ns 3) ∧ OwnE encDH 42 3 wr w.heap.size gO c hs ∧ HdG wr w.heap.size hs Ds ∧ Rd wr g q ∧ w.heap.size + 1 ≤ wr.heap.size ∧ Outer w.heap.size g w wr) (fun _ _ k _ => (intOf k).toNat)
  case atStart => exact ⟨n, p1, _, _, 0, [], [], rfl, rfl, rfl, by show 0 + n ≤ 5; omega, by omega, by show (0 : Int) ≤ 10 * ((0 : Nat) : Int); omega, by show p1 ≤ p + 1 + 81 * 0; omega, fun d hd => by simp at hd, own1, HdG.nil_ _ _, r1, by omega, O1⟩
  case round =>
    obtain ⟨m, q, gO, c, y, hs, Ds, rfl, rfl, rfl, hlm, hy0, hy1, hq, hDs, own, hd, r, hsz, hO⟩ := hrel
    have hrl := r.lt
    rcases Nat.eq_zero_or_pos m with rfl | hm0
    · go_wp2
      go_ret
      exact ⟨gO, c, Ds, ⟨rfl, hs, own, hd, by omega, hDs.out⟩, q, by omega, r, hO⟩
    · obtain ⟨m, rfl⟩ : ∃ k, m = k + 1 := ⟨m - 1, by omega⟩
      go_wp2_with fail
      refine (pick_gen g q _ (by omega) (by omega) _ r (by omega)).mono ?_
      rintro e w3 ⟨v3, ⟨rfl, h3, h4⟩, p3, hp3, r3, o3⟩
      replace own := own.gen hg o3
      replace hd := hd.gen hg o3
      replace hO := hO.trans (o3.mono (by omega))
      have hsz3 := o3.2.1
      clear o3 r
      go_wp2_with fail
      refine (l30Doc_gen g p3 _ _ r3 (by omega)).mono ?_
      rintro e w4 ⟨d, A1, c1, A2, c2, ⟨rfl, hid, hO4, hsf, hsa⟩, p4, hp4, r4, o4⟩
      rw [← hid]
      have hid1 : 0 ≤ d.id := by omega
      have hid2 : d.id ≤ y + 1 + v3 := by omega
      clear hid
      replace own := own.gen hg o4
      replace hd := hd.gen hg o4
      replace hO := hO.trans (o4.mono (by omega))
      have hsz4 := o4.2.1
      replace hO4 := hO4.mono (b2 := w.heap.size) (by omega)
      clear o4 r3
      go_wp2_with (at_builtin; refine append_doc rfl _ _ rfl w.heap.size gO c hs Ds A1 c1 A2 c2 d _ rfl rfl rfl own hd hO4 (by omega) (by omega) ?_)
      intro N g7 c7 w7 Ds2 hE own7 hd7 hb7
      have hO7 := hO.trans (Outer.of hb7)
      have r7 := r4.below (hb7.mono hg)
      have hsz7 := hb7.size
      have hDs7 := allD_snoc hDs (hsf.up (show 2 ≤ 3 by omega)) (hsa.up (show 2 ≤ 3 by omega))
      rw [← hE.out] at hDs7
      have hLl : Ds2.length = Ds.length + 1 := by rw [hE.out]; simp
      have hLe : Ds2.length + m ≤ 5 := by omega
      have hLq : p4 ≤ p + 1 + 81 * Ds2.length := by omega
      have hLy : d.id ≤ 10 * Ds2.length := by omega
      clear hE hd own hO hb7 r4 hO4 hDs hsf hsa hLl
      go_wp2
      go_roundw
      case rel => exact ⟨m, p4, g7, c7, d.id, N, Ds2, by go_num, rfl, rfl, hLe, hid1, hLy, hLq, hDs7, own7, hd7, r7, by omega, hO7⟩
      case measure => simp [intOf]
theorem l30AnyDocs_gen (g p : Nat) (w : World) (hr : Rd w g p) (hp : p + 1000 < 1000000) :
    Calls Try.prog 65 #[.pointer (some ⟨g, 0, none⟩)] w fun e w' => ∃ (gO c : Nat) (Ds : List DocD), (e = .returned (.slice (some ⟨gO, 0, none⟩) Ds.length c) ∧ DrawnG 6 w w' w.heap.size gO c Ds) ∧ Gen w w' g p 600 := by
  have hg := hr.lt
  go_enter Try.func65, Try.ntmps65
  go_wp2_with fail
  refine (l30Docs_gen g p _ hr (by omega)).mono ?_
  rintro e w1 ⟨gO, c, Ds, ⟨rfl, hs, own, hd, hl, hDs⟩, p1, hp1, r1, o1⟩
  replace hDs : Hid (∀ d ∈ Ds, SmF d.fs 3 ∧ SmA d.ns 3) := hDs
  have hsz1 := o1.2.1
  go_wp2_with fail
  refine (pick_gen g p1 _ (by omega) (by omega) _ r1 (by omega)).mono ?_
  rintro e w2 ⟨v2, ⟨rfl, h1, h2⟩, p2, hp2, r2, o2⟩
  replace own := own.gen hg o2
  replace hd := hd.gen hg o2
  have hO := o1.trans (o2.mono hsz1)
  have hsz2 := o2.2.1
  clear o1 o2 r1 hr
  by_cases hv0 : v2 = 0
  · subst hv0
    go_wp2_with fail
    refine (l30AnyDoc_gen g p2 _ r2 (by omega)).mono ?_
    rintro e w4 ⟨d, A1, c1, A2, c2, ⟨rfl, hO4, hsf, hsa⟩, p4, hp4, r4, o4⟩
    replace own := own.gen hg o4
    replace hd := hd.gen hg o4
    replace hO := hO.trans (o4.mono (by omega))
    have hsz4 := o4.2.1
    replace hO4 := hO4.mono (b2 := w.heap.size) (by omega)
    clear o4 r2
    go_wp2_with (at_builtin; refine append_doc rfl _ _ rfl w.heap.size gO c hs Ds A1 c1 A2 c2 d _ rfl rfl rfl own hd hO4 (by omega) (by omega) ?_)
    intro N g7 c7 w7 Ds2 hE own7 hd7 hb7
    have hO7 := hO.trans (Outer.of hb7)
    have r7 := r4.below (hb7.mono hg)
    have hDs7 := allD_snoc hDs hsf hsa
    rw [← hE.out] at hDs7
    have hLl : Ds2.length ≤ 6 := by rw [hE.out]; simp; omega
    clear hE hd own hO hb7 r4 hO4 hDs hsf hsa
    go_wp2
    go_ret
    exact ⟨g7, c7, Ds2, ⟨rfl, N, own7, hd7, hLl, hDs7.out⟩, p4, by omega, r7, hO7⟩
  · go_wp2
    go_ret
    exact ⟨gO, c, Ds, ⟨rfl, hs, own, hd, by omega, hDs.out⟩, p2, by omega, r2, hO⟩
end Go.Proofs.Yteomiaffdbbpoaa
