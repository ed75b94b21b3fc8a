/-
  What is drawn of slices of slices of integers: contracts of l30Places, DrawSetSome, DrawPhraseOf, DrawNearAll, DrawNearWidth.
-/
import Derived.Test.YtoifknepebplnaaDrawInts
import Derived.Test.YtoifknepebplnaaExactSS
import Derived.Test.YtoifknepebplnaaAt
namespace Go.Proofs.Ytoifknepebplnaa
open Go.RowKit
set_option linter.unusedVariables false

abbrev Hdr := Option Addr × Nat × Nat
def encH (x : Hdr) : List Value := [.slice x.1 x.2.1 x.2.2]
theorem encH_ok : Enc encH 1 := ⟨fun _ => rfl, fun a u hu => by simp [encH] at hu; subst hu; rfl⟩
theorem rowTH : RowT Try.prog 33 22 1 24 := rowT_of Try.underlying33 infoInts rfl
/-- the headers hs of rows of the call's own that hold the lists Ls. -/
def HdO (w : World) (base : Nat) (hs : List Hdr) (Ls : List (List Int)) : Prop :=
  hs.length = Ls.length ∧ ∀ i, (hi : i < Ls.length) → ∃ A c, hs[i]? = some (A, Ls[i].length, c) ∧ OwnI w base (.slice A Ls[i].length c) Ls[i]
theorem HdO.nil_ (w : World) (base : Nat) : HdO w base [] [] := ⟨rfl, fun i hi => by simp at hi⟩
theorem HdO.below {w w' : World} {base : Nat} {hs : List Hdr} {Ls : List (List Int)} (h : HdO w base hs Ls) (hb : Below w.heap.size w w') : HdO w' base hs Ls :=
  ⟨h.1, fun i hi => by obtain ⟨A, c, h1, h2⟩ := h.2 i hi; exact ⟨A, c, h1, own_below h2 hb⟩⟩
theorem HdO.gen {w w' : World} {base g : Nat} {hs : List Hdr} {Ls : List (List Int)} (h : HdO w base hs Ls) (hb : g < base) (ho : Outer w.heap.size g w w') : HdO w' base hs Ls :=
  ⟨h.1, fun i hi => by obtain ⟨A, c, h1, h2⟩ := h.2 i hi; exact ⟨A, c, h1, own_gen h2 hb ho⟩⟩
theorem HdO.kept {w w' : World} {base b2 g c : Nat} {hs hs2 : List Hdr} {Ls : List (List Int)} (h : HdO w base hs Ls) (ho : OwnE encH 22 1 w b2 g c hs2) (hg : w.grownBy w' (some g)) : HdO w' base hs Ls :=
  ⟨h.1, fun i hi => by
    obtain ⟨A, c', h1, h2⟩ := h.2 i hi
    exact ⟨A, c', h1, own_kept (v2 := .slice (some ⟨g, 0, none⟩) hs2.length c) h2 hg (own_ne h2 ho (by decide))⟩⟩
theorem HdO.snoc {w : World} {base : Nat} {hs : List Hdr} {Ls : List (List Int)} {A : Option Addr} {c : Nat} {L : List Int} (h : HdO w base hs Ls) (h2 : OwnI w base (.slice A L.length c) L) : HdO w base (hs ++ [(A, L.length, c)]) (Ls ++ [L]) := by
  refine ⟨by simp [h.1], fun i hi => ?_⟩
  by_cases hlt : i < Ls.length
  · obtain ⟨A', c', h3, h4⟩ := h.2 i hlt
    have e : (Ls ++ [L])[i] = Ls[i] := List.getElem_append_left hlt
    refine ⟨A', c', ?_, ?_⟩
    · rw [List.getElem?_append_left (by rw [h.1]; exact hlt), e]; exact h3
    · rw [e]; exact h4
  · have hi2 : i = Ls.length := by simp at hi; omega
    subst hi2
    have e : (Ls ++ [L])[Ls.length] = L := by simp
    refine ⟨A, c, ?_, ?_⟩
    · rw [List.getElem?_append_right (by rw [h.1]; omega), h.1, Nat.sub_self, e]; rfl
    · rw [e]; exact h2
theorem HdO.rd {w : World} {base b2 g c : Nat} {hs : List Hdr} {Ls : List (List Int)} (h : HdO w base hs Ls) (ho : OwnE encH 22 1 w b2 g c hs) : RdSS w (some ⟨g, 0, none⟩) Ls := fun k hk => by
  obtain ⟨A, c', h1, h2⟩ := h.2 k hk
  have hlt := (ho.lt g rfl).2
  refine ⟨g, 0, A, c', rfl, hlt, ?_, h2.src⟩
  rw [Nat.zero_add, ho.cellAt k (by rw [h.1]; omega)]
  have hkh : k < hs.length := by rw [h.1]; exact hk
  have := flat_get encH_ok.len h1 (show 0 < 1 by omega)
  rw [Nat.mul_one, Nat.add_zero] at this
  rw [this]; rfl
theorem HdO.cap {w : World} {base b2 g c : Nat} {hs : List Hdr} {Ls : List (List Int)} (h : HdO w base hs Ls) (ho : OwnE encH 22 1 w b2 g c hs) : Ls.length ≤ c ∧ c ≤ 9223372036854775807 := by
  have h1 := ho.capOk
  have h2 := h.1
  unfold maxLen at h1
  omega
theorem HdO.len {w : World} {base : Nat} {hs : List Hdr} {Ls : List (List Int)} (h : HdO w base hs Ls) : hs.length = Ls.length := h.1
theorem OwnE.gen {α : Type} {enc : α → List Value} {E F : Nat} {w w' : World} {base g g2 c : Nat} {L : List α} (h : OwnE enc E F w base g2 c L) (hb : g < base) (ho : Outer w.heap.size g w w') : OwnE enc E F w' base g2 c L := own_gen h hb ho

section
variable {w : World} {ops : Array Oper} {rest : List Oper} {o : Oper} {a : Act} {Q : Exit → Act → World → Prop}
/-- an append of one list to a slice of lists of the call's own. -/
theorem append_hdr (hgd : o.guard = none) (s x : Operand) (ho : o.op = .call { callee := .builtin .append, args := #[s, x], argTypes := #[33, 33] })
    (base : Nat) (g c0 : Nat) (hs : List Hdr) (Ls : List (List Int)) (B : Option Addr) (d : Nat) (L : List Int) (blk : Nat) (hblk : blk = w.heap.size) (hs0 : a.eval s = .slice (some ⟨g, 0, none⟩) Ls.length c0) (hx : a.eval x = .slice (some ⟨blk, 0, none⟩) 1 1)
    (own : OwnE encH 22 1 w base g c0 hs) (hd : HdO w base hs Ls) (hL : OwnI w base (.slice B L.length d) L) (hn : Ls.length ≤ 1000) (hbase : base ≤ w.heap.size)
    (h : ∀ N g' c' w' Ls2, Hid (Ls2 = Ls ++ [L]) → OwnE encH 22 1 w' base g' c' N → HdO w' base N Ls2 → Below base w w' → wpList Try.prog ops Q rest (a.put o.dst (.slice (some ⟨g', 0, none⟩) Ls2.length c')) w') :
    wpList Try.prog ops Q (o :: rest) a (w.alloc (.cells #[.slice B L.length d] 22)) := by
  subst hblk
  have hlh := hd.len
  have own2 : OwnE encH 22 1 (w.alloc (.cells #[.slice B L.length d] 22)) base g c0 hs := own.alloc _
  have hd2 := hd.below (w' := w.alloc (.cells #[.slice B L.length d] 22)) (by (repeat' (first | exact Below.refl _ _ | apply Below.alloc | apply Below.setCell | apply Below.drew | apply below_draws)) <;> (first | omega | (simp <;> omega)))
  have hL2 : OwnI (w.alloc (.cells #[.slice B L.length d] 22)) base (.slice B L.length d) L := hL.alloc _
  refine append_rec rowTH encH_ok (by decide) hgd s x ho base g _ hs (by rw [hlh]; exact hs0) own2 _ _ _ [(B, L.length, d)] rfl hx (SrcE.lit encH_ok w 22 _ [(B, L.length, d)] rfl 1) (by simp; omega) (by omega) (by simp; omega) ?_
  intro N hN g' c' w' h1 h2 h3 h4
  have h5 := (hd2.snoc hL2)
  rw [← hN.out] at h5
  have hl5 := h5.len
  rw [hl5]
  refine h N g' c' w' _ rfl h1 ?_ (Below.trans (by (repeat' (first | exact Below.refl _ _ | apply Below.alloc | apply Below.setCell | apply Below.drew | apply below_draws)) <;> (first | omega | (simp <;> omega))) h4)
  have h6 := hd2.kept own2 h2
  have hL6 : OwnI w' base (.slice B L.length d) L := own_kept (v2 := .slice (some ⟨g, 0, none⟩) hs.length c0) hL2 h2 (own_ne hL2 own2 (by decide))
  have := h6.snoc hL6
  rwa [← hN.out] at this
end
/-- a drawn slice of lists, and a number. -/
def DrawnSS (few most : Nat) (lo hi : Int) (w : World) (e : Ending) (w' : World) : Prop :=
  ∃ (B d : Nat) (Ls : List (List Int)) (many : Int), (e = .returned (.tuple #[.slice (some ⟨B, 0, none⟩) Ls.length d, .int .i64 many]) ∧ few ≤ Ls.length ∧ Ls.length ≤ 5 ∧ (∀ L ∈ Ls, L.length ≤ most) ∧ lo ≤ many ∧ many ≤ hi ∧ RdSS w' (some ⟨B, 0, none⟩) Ls ∧ (Ls.length ≤ d ∧ d ≤ 9223372036854775807)) ∧ Below w.heap.size w w'
theorem all_snoc {Ls : List (List Int)} {L : List Int} {n : Nat} (h : Hid (∀ L ∈ Ls, L.length ≤ n)) (hL : L.length ≤ n) : Hid (∀ M ∈ Ls ++ [L], M.length ≤ n) := fun M hM => by
  rcases List.mem_append.1 hM with hM | hM
  · exact h.out M hM
  · rw [List.mem_singleton] at hM; subst hM; exact hL
theorem drawSetSome_any (a0 : Option Addr) (len cap : Nat) (zs : List Int) (w : World) (h : IsRow .u8 w a0 len cap zs) :
    Calls Try.prog 50 #[.slice a0 len cap] w (DrawnSS 0 61 0 4 w) := by
  go_enter Try.func50, Try.ntmps50
  go_wp2_with fail
  refine (open_any a0 len cap zs _ h).mono ?_
  rintro e w1 ⟨⟨rfl, r1⟩, hb1⟩
  obtain ⟨g, hg⟩ : ∃ g, g = w.heap.size := ⟨_, rfl⟩
  have hgw : w.heap.size ≤ g := by omega
  rw [← hg] at r1 ⊢
  have O1 : Outer w.heap.size g w w1 := Outer.of hb1
  have hlt1 := r1.lt
  have hs1 := hb1.size
  clear hg hb1 h
  go_wp2_with fail
  obtain ⟨W2, hW2⟩ : ∃ W2, W2 = w1.alloc (.cells #[] 22) := ⟨_, rfl⟩
  have r2 : Rd W2 g 0 := by rw [hW2]; exact r1.below (by (repeat' (first | exact Below.refl _ _ | apply Below.alloc | apply Below.setCell | apply Below.drew | apply below_draws)) <;> (first | omega | (simp <;> omega)))
  have O2 : Outer w.heap.size g w W2 := by rw [hW2]; exact O1.trans (Outer.of (by (repeat' (first | exact Below.refl _ _ | apply Below.alloc | apply Below.setCell | apply Below.drew | apply below_draws)) <;> (first | omega | (simp <;> omega))))
  have hsz2 : W2.heap.size = w1.heap.size + 1 := by rw [hW2]; simp
  have own2 : OwnE encH 22 1 W2 w1.heap.size w1.heap.size 0 [] := by rw [hW2]; exact ownE_made _ w1 _ (Nat.le_refl _)
  have hd2 : HdO W2 w1.heap.size [] [] := HdO.nil_ _ _
  rw [← hW2]
  have hle2 : w1.heap.size + 1 ≤ W2.heap.size := by omega
  clear hW2 hsz2 r1 O1
  refine (pick_gen g 0 _ (by omega) (by omega) _ r2 (by omega)).mono ?_
  rintro e w3 ⟨n0, ⟨rfl, h1, h2⟩, p3, hp3, r3, o3⟩
  obtain ⟨n, rfl⟩ := Int.eq_ofNat_of_zero_le h1
  have own3 := own2.gen hlt1 o3
  have hd3 := hd2.gen hlt1 o3
  have O3 := O2.trans (o3.mono O2.2.1)
  have hle3 := o3.2.1
  clear own2 hd2 O2 o3 r2
  go_wp2_with fail
  go_loopw [5, 6] (fun v k wr => ∃ (m q : Nat) (hs : List Hdr) (Ls : List (List Int)) (gO c : Nat), k = .int .i64 (m : Int) ∧ v = .slice (some ⟨gO, 0, none⟩) Ls.length c ∧ Ls.length + m ≤ 4 ∧ q ≤ 1 + 10 * Ls.length ∧ Hid (∀ L ∈ Ls, L.length ≤ 61) ∧ OwnE encH 22 1 wr w1.heap.size gO c hs ∧ HdO wr w1.heap.size hs Ls ∧ Rd wr g q ∧ w1.heap.size < wr.heap.size ∧ Outer w.heap.size g w wr) (fun _ k _ => (intOf k).toNat)
  case atStart => exact ⟨n, p3, [], [], _, _, rfl, rfl, by simp; omega, by simp; omega, fun L hL => by simp at hL, own3, hd3, r3, by omega, O3⟩
  case round =>
    obtain ⟨m, q, hs, Ls, gO, c, rfl, rfl, hlm, hq, hLs, own, hd, r, hle, hO⟩ := hrel
    have hgr := r.lt
    rcases Nat.eq_zero_or_pos m with rfl | hm0
    · go_wp2_with fail
      refine (pick_gen g q _ (by omega) (by omega) _ r (by omega)).mono ?_
      rintro e w5 ⟨v5, ⟨rfl, h5, h6⟩, p5, hp5, r5, o5⟩
      replace own := own.gen hlt1 o5
      replace hd := hd.gen hlt1 o5
      replace hO := hO.trans (o5.mono hO.2.1)
      have hle5 := o5.2.1
      clear o5 r
      by_cases hv0 : v5 = 0
      · subst hv0
        go_wp2_with fail
        refine (l30AnyUp_any g p5 _ r5 (by omega)).mono ?_
        rintro e w6 ⟨B, d, L, ⟨rfl, hL, own6⟩, p6, hp6, r6, o6⟩
        replace own := own.gen hlt1 o6
        replace hd := hd.gen hlt1 o6
        replace hO := hO.trans (o6.mono hO.2.1)
        have hle6 := o6.2.1
        have hlt6 := r6.lt
        replace own6 := own_mono own6 (base' := w1.heap.size) (by omega)
        clear o6 r5
        go_wp2_with (at_builtin; refine append_hdr rfl _ _ rfl w1.heap.size gO c hs Ls B d L _ rfl rfl rfl own hd own6 (by omega) (by omega) ?_)
        intro N g7 c7 w7 Ls2 hE own7 hd7 hb7
        have hO7 := hO.trans ((Outer.of hb7).mono hs1)
        have r7 := r6.below (hb7.mono hlt1)
        have hle7 := hb7.size
        have hLs7 := all_snoc hLs hL
        rw [← hE.out] at hLs7
        have hLl : Ls2.length ≤ 5 := by rw [hE.out]; simp; omega
        clear hE hd own hO hb7 r6 own6 hLs
        go_wp2_with fail
        refine (pick_gen g p6 _ (by omega) (by omega) _ r7 (by omega)).mono ?_
        rintro e w8 ⟨v8, ⟨rfl, h7, h8⟩, p8, hp8, r8, o8⟩
        replace own7 := own7.gen hlt1 o8
        replace hd7 := hd7.gen hlt1 o8
        replace hO7 := hO7.trans (o8.mono hO7.2.1)
        go_wp2
        go_ret2
        exact ⟨_, _, Ls2, v8, ⟨rfl, Nat.zero_le _, hLl, hLs7.out, h7, by omega, hd7.rd own7, hd7.cap own7⟩, hO7.under (Nat.le_refl _) hgw⟩
      · go_wp2_with fail
        refine (pick_gen g p5 _ (by omega) (by omega) _ r5 (by omega)).mono ?_
        rintro e w8 ⟨v8, ⟨rfl, h7, h8⟩, p8, hp8, r8, o8⟩
        replace own := own.gen hlt1 o8
        replace hd := hd.gen hlt1 o8
        replace hO := hO.trans (o8.mono hO.2.1)
        go_wp2
        go_ret2
        exact ⟨_, _, Ls, v8, ⟨rfl, Nat.zero_le _, by omega, hLs.out, h7, by omega, hd.rd own, hd.cap own⟩, hO.under (Nat.le_refl _) hgw⟩
    · obtain ⟨m, rfl⟩ : ∃ k, m = k + 1 := ⟨m - 1, by omega⟩
      go_wp2_with fail
      refine (l30Up_any g q 6 _ r (by omega) (by omega)).mono ?_
      rintro e w6 ⟨B, d, L, ⟨rfl, hL, own6⟩, p6, hp6, r6, o6⟩
      replace own := own.gen hlt1 o6
      replace hd := hd.gen hlt1 o6
      replace hO := hO.trans (o6.mono hO.2.1)
      have hle6 := o6.2.1
      have hlt6 := r6.lt
      replace own6 := own_mono own6 (base' := w1.heap.size) (by omega)
      clear o6 r
      go_wp2_with (at_builtin; refine append_hdr rfl _ _ rfl w1.heap.size gO c hs Ls B d L _ rfl rfl rfl own hd own6 (by omega) (by omega) ?_)
      intro N g7 c7 w7 Ls2 hE own7 hd7 hb7
      have hO7 := hO.trans ((Outer.of hb7).mono hs1)
      have r7 := r6.below (hb7.mono hlt1)
      have hle7 := hb7.size
      have hLs7 := all_snoc hLs (show L.length ≤ 61 by omega)
      rw [← hE.out] at hLs7
      have hLl : Ls2.length = Ls.length + 1 := by rw [hE.out]; simp
      have hLe : Ls2.length + m ≤ 4 := by omega
      have hLq : p6 ≤ 1 + 10 * Ls2.length := by omega
      clear hE hd own hO hb7 r6 own6 hLs hLl
      go_wp2
      go_roundw
      case rel => exact ⟨m, p6, N, Ls2, g7, c7, by go_num, rfl, hLe, hLq, hLs7, own7, hd7, r7, by omega, hO7⟩
      case measure => simp [intOf]
end Go.Proofs.Ytoifknepebplnaa
