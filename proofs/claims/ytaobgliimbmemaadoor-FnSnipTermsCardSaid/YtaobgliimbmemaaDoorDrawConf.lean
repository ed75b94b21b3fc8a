/-
  What is drawn of how words are read: contracts of l30Conf, l30AnyConf.
-/
import Derived.Test.YtaobgliimbmemaaDoorConfEx
import Derived.Test.YtaobgliimbmemaaDoorWords
import Derived.Test.YtaobgliimbmemaaDoorDrawText
namespace Go.Proofs.YtaobgliimbmemaaDoor
open Go.RowKit Go.Sort
set_option linter.unusedVariables false

/-- the blocks from lo up tgt hi are the same. -/
def Same (lo hi : Nat) (w w' : World) : Prop := hi ≤ w'.heap.size ∧ ∀ k, lo ≤ k → k < hi → w'.heap[k]? = w.heap[k]?
theorem Same.trans {lo hi hi' : Nat} {a b c : World} (h : Same lo hi a b) (k : Same lo hi' b c) (hh : hi ≤ hi') : Same lo hi a c := ⟨Nat.le_trans hh k.1, fun i h1 h2 => (k.2 i h1 (by omega)).trans (h.2 i h1 h2)⟩
theorem Same.of {lo : Nat} {w w' : World} (h : Below w.heap.size w w') : Same lo w.heap.size w w' := ⟨h.size, fun k _ hk => h.block k hk⟩
theorem Same.outer {lo g : Nat} {w w' : World} (h : Outer w.heap.size g w w') (hg : g < lo) : Same lo w.heap.size w w' := ⟨h.2.1, fun k h1 h2 => h.2.2 k h2 (by omega)⟩
theorem Same.lo {lo lo' hi : Nat} {w w' : World} (h : Same lo hi w w') (hl : lo ≤ lo') : Same lo' hi w w' := ⟨h.1, fun k h1 h2 => h.2 k (by omega) h2⟩
theorem Same.hi {lo hi hi' : Nat} {w w' : World} (h : Same lo hi w w') (hl : hi' ≤ hi) : Same lo hi' w w' := ⟨by have := h.1; omega, fun k h1 h2 => h.2 k h1 (by omega)⟩
theorem Same.setHi {lo b j hi : Nat} (w : World) (u : Value) (hb : hi ≤ b) (hh : hi ≤ w.heap.size) : Same lo hi w (w.setCell ⟨b, j, none⟩ u) := ⟨by simpa using hh, fun k h1 h2 => heap_setCell_other w ⟨b, j, none⟩ k u (by simp; omega)⟩
theorem Same.set {lo b j hi : Nat} (w : World) (u : Value) (hb : b < lo) (hh : hi ≤ w.heap.size) : Same lo hi w (w.setCell ⟨b, j, none⟩ u) := ⟨by simpa using hh, fun k h1 h2 => heap_setCell_other w ⟨b, j, none⟩ k u (by simp; omega)⟩
/-- a Conf that is being made: its variable in block b + 1, the result's in block b. -/
structure CS (w : World) (g : Nat) (wi : World) (p : Nat) (d : ConfD) (A1 : Option Addr) (c1 : Nat) (A2 : Option Addr) (c2 : Nat) : Prop where
  r : Rd wi g p
  o : Outer w.heap.size g w wi
  g0 : g < w.heap.size
  sz : w.heap.size + 2 ≤ wi.heap.size
  rb : wi.heap[w.heap.size]? = some (.cells #[.slice none 0 0, .slice none 0 0] 44 (0, 0))
  cb : wi.heap[w.heap.size + 1]? = some (.cells #[.slice A1 d.st.length c1, .slice A2 d.sy.length c2] 44 (0, 0))
  k : ∀ w', Same (w.heap.size + 2) wi.heap.size wi w' → HasC w' d A1 c1 A2
theorem CS.gen {w wi wj : World} {g p p' : Nat} {d : ConfD} {A1 A2 : Option Addr} {c1 c2 : Nat} (h : CS w g wi p d A1 c1 A2 c2) (r : Rd wj g p') (o : Outer wi.heap.size g wi wj) : CS w g wj p' d A1 c1 A2 c2 :=
  ⟨r, h.o.trans (o.mono (by have := h.sz; omega)), h.g0, Nat.le_trans h.sz o.2.1, (o.2.2 _ (by have := h.sz; omega) (by have := h.g0; omega)).trans h.rb, (o.2.2 _ (by have := h.sz; omega) (by have := h.g0; omega)).trans h.cb,
   fun w' hs => h.k w' (Same.trans (Same.outer o (by have := h.g0; omega)) hs o.2.1)⟩
/-- new blocks. -/
theorem CS.grow {w wi wj : World} {g p : Nat} {d : ConfD} {A1 A2 : Option Addr} {c1 c2 : Nat} (h : CS w g wi p d A1 c1 A2 c2) (o : Below wi.heap.size wi wj) : CS w g wj p d A1 c1 A2 c2 :=
  h.gen (h.r.below (o.mono (by have := h.r.lt; omega))) (Outer.of o)
theorem rd_set {w : World} {g p b j : Nat} (h : Rd w g p) (hb : g < b) (u : Value) : Rd (w.setCell ⟨b, j, none⟩ u) g p := h.below ((Below.refl (g + 1) w).setCell (p := ⟨b, j, none⟩) (show g + 1 ≤ b by omega) u)
/-- stops are stored. -/
theorem CS.setSt {w wi : World} {g p : Nat} {d : ConfD} {A1 A2 : Option Addr} {c1 c2 : Nat} (h : CS w g wi p d A1 c1 A2 c2) (L : List ByteArray) (A : Option Addr) (c : Nat) (hk : ∀ w', Same (w.heap.size + 2) wi.heap.size wi w' → SrcT w' A c L) :
    CS w g (wi.setCell ⟨w.heap.size + 1, 0, none⟩ (.slice A L.length c)) p ⟨L, d.sy⟩ A c A2 c2 := by
  have hg := h.g0
  have hsz := h.sz
  refine ⟨rd_set h.r (by omega) _, h.o.trans (Outer.of ((Below.refl _ wi).setCell (p := ⟨w.heap.size + 1, 0, none⟩) (by show _ ≤ _ + 1; omega) _)), hg, by simpa using hsz, ?_, ?_, fun w' hs => ?_⟩
  · exact (heap_setCell_other wi ⟨w.heap.size + 1, 0, none⟩ w.heap.size _ (by simp)).trans h.rb
  · have := heap_setCell_same wi (w.heap.size + 1) 0 _ _ (.slice A L.length c) h.cb
    exact this
  · have hs2 : Same (w.heap.size + 2) wi.heap.size wi w' := Same.trans (Same.set (lo := w.heap.size + 2) (b := w.heap.size + 1) wi _ (by omega) (Nat.le_refl _)) (hi' := wi.heap.size) (by simpa using hs) (Nat.le_refl _)
    exact ⟨hk w' hs2, (h.k w' hs2).sy⟩
/-- rules are stored. -/
theorem CS.setSy {w wi : World} {g p : Nat} {d : ConfD} {A1 A2 : Option Addr} {c1 c2 : Nat} (h : CS w g wi p d A1 c1 A2 c2) (Y : List SynD) (A : Option Addr) (c : Nat) (hk : ∀ w', Same (w.heap.size + 2) wi.heap.size wi w' → RdY w' A Y) :
    CS w g (wi.setCell ⟨w.heap.size + 1, 1, none⟩ (.slice A Y.length c)) p ⟨d.st, Y⟩ A1 c1 A c := by
  have hg := h.g0
  have hsz := h.sz
  refine ⟨rd_set h.r (by omega) _, h.o.trans (Outer.of ((Below.refl _ wi).setCell (p := ⟨w.heap.size + 1, 1, none⟩) (by show _ ≤ _ + 1; omega) _)), hg, by simpa using hsz, ?_, ?_, fun w' hs => ?_⟩
  · exact (heap_setCell_other wi ⟨w.heap.size + 1, 1, none⟩ w.heap.size _ (by simp)).trans h.rb
  · have := heap_setCell_same wi (w.heap.size + 1) 1 _ _ (.slice A Y.length c) h.cb
    exact this
  · have hs2 : Same (w.heap.size + 2) wi.heap.size wi w' := Same.trans (Same.set (lo := w.heap.size + 2) (b := w.heap.size + 1) wi _ (by omega) (Nat.le_refl _)) (hi' := wi.heap.size) (by simpa using hs) (Nat.le_refl _)
    exact ⟨(h.k w' hs2).st, hk w' hs2⟩
/-- a row of texts in a block. -/
theorem srcT_blk {w : World} {b : Nat} {cs : Array Value} {L : List ByteArray} (c : Nat) (h : w.heap[b]? = some (.cells cs 9 (0, 0))) (hc : cs.toList = L.flatMap encT) : SrcT w (some ⟨b, 0, none⟩) c L := SrcE.blk (E := 9) encT_ok h hc
theorem Same.blk {lo hi b : Nat} {w w' : World} {o : Obj} (h : Same lo hi w w') (h1 : lo ≤ b) (h2 : b < hi) (hb : w.heap[b]? = some o) : w'.heap[b]? = some o := (h.2 b h1 h2).trans hb
theorem alloc_at (w : World) (o : Obj) : (w.alloc o).heap[w.heap.size]? = some o := heap_alloc_new w o
theorem alloc_old {w : World} {b : Nat} {o o' : Obj} (h : w.heap[b]? = some o) : (w.alloc o').heap[b]? = some o := by
  have hb : b < w.heap.size := by
    rcases Nat.lt_or_ge b w.heap.size with hl | hl
    · exact hl
    · rw [Array.getElem?_eq_none hl] at h; cases h
  exact (((Below.refl _ w).alloc (Nat.le_refl _) o').block b hb).trans h
def syN : SynD := ⟨[⟨#[110, 101, 119]⟩, ⟨#[121, 111, 114, 107]⟩], ⟨#[110, 121]⟩⟩
def syB : SynD := ⟨[⟨#[98, 105, 103]⟩], ⟨#[108, 97, 114, 103]⟩⟩
def syF : SynD := ⟨[⟨#[98, 105, 103]⟩, ⟨#[114, 101, 100]⟩, ⟨#[102, 111, 120]⟩], ⟨#[102, 111, 120]⟩⟩

/-- what is drawn of how words are read. -/
def KeptC (w w' : World) (d : ConfD) (A1 : Option Addr) (c1 : Nat) (A2 : Option Addr) : Prop := ∀ w'', Same w.heap.size w'.heap.size w' w'' → HasC w'' d A1 c1 A2
def SmW (d : ConfD) : Prop := d.st.length ≤ 2 ∧ (∀ s ∈ d.st, s.size ≤ 12) ∧ d.sy.length ≤ 4 ∧ ∀ y ∈ d.sy, (y.fr.length ≤ 3 ∧ ∀ s ∈ y.fr, s.size ≤ 12) ∧ y.tgt.size ≤ 12
theorem CS.fin {w wi : World} {g p : Nat} {d : ConfD} {A1 A2 : Option Addr} {c1 c2 : Nat} (h : CS w g wi p d A1 c1 A2 c2) :
    KeptC w ((wi.setCell ⟨w.heap.size, 0, none⟩ (.slice A1 d.st.length c1)).setCell ⟨w.heap.size, 1, none⟩ (.slice A2 d.sy.length c2)) d A1 c1 A2 ∧ Rd ((wi.setCell ⟨w.heap.size, 0, none⟩ (.slice A1 d.st.length c1)).setCell ⟨w.heap.size, 1, none⟩ (.slice A2 d.sy.length c2)) g p ∧ Outer w.heap.size g w ((wi.setCell ⟨w.heap.size, 0, none⟩ (.slice A1 d.st.length c1)).setCell ⟨w.heap.size, 1, none⟩ (.slice A2 d.sy.length c2)) := by
  have hg := h.g0
  have hsz := h.sz
  refine ⟨fun w'' ho => h.k w'' ?_, rd_set (rd_set h.r hg _) hg _, h.o.trans (Outer.of (((Below.refl _ wi).setCell (p := ⟨w.heap.size, 0, none⟩) (Nat.le_refl _) _).setCell (p := ⟨w.heap.size, 1, none⟩) (Nat.le_refl _) _))⟩
  have h1 : Same (w.heap.size + 2) wi.heap.size wi ((wi.setCell ⟨w.heap.size, 0, none⟩ (.slice A1 d.st.length c1)).setCell ⟨w.heap.size, 1, none⟩ (.slice A2 d.sy.length c2)) :=
    Same.trans (Same.set (lo := w.heap.size + 2) (b := w.heap.size) wi _ (by omega) (Nat.le_refl _)) (hi' := wi.heap.size) (Same.set (lo := w.heap.size + 2) (b := w.heap.size) _ _ (by omega) (by simp)) (Nat.le_refl _)
  have h2 : Same (w.heap.size + 2) _ _ w'' := ho.lo (by omega)
  exact Same.trans h1 h2 (by simp)
theorem CS.start (w : World) (g p : Nat) (r : Rd w g p) : CS w g ((w.alloc (.cells #[.slice none 0 0, .slice none 0 0] 44)).alloc (.cells #[.slice none 0 0, .slice none 0 0] 44)) p ⟨[], []⟩ none 0 none 0 := by
  have hg := r.lt
  refine ⟨r.below (by (repeat' (first | exact Below.refl _ _ | apply Below.alloc | apply Below.setCell | apply Below.drew | apply below_draws)) <;> (first | omega | (simp <;> omega))), Outer.of (by (repeat' (first | exact Below.refl _ _ | apply Below.alloc | apply Below.setCell | apply Below.drew | apply below_draws)) <;> (first | omega | (simp <;> omega))), hg, by simp, alloc_old (alloc_at w _), ?_, fun w' _ => ⟨⟨⟨rfl, fun h => absurd h (by simp)⟩, .inl ⟨rfl, rfl⟩⟩, fun k hk => absurd hk (by simp)⟩⟩
  have := alloc_at (w.alloc (.cells #[.slice none 0 0, .slice none 0 0] 44)) (.cells #[.slice none 0 0, .slice none 0 0] 44)
  rwa [show (w.alloc (.cells #[.slice none 0 0, .slice none 0 0] 44)).heap.size = w.heap.size + 1 by simp] at this
/-- the cells of a Conf that is being made. -/
theorem CS.cells {w wi : World} {g p : Nat} {d : ConfD} {A1 A2 : Option Addr} {c1 c2 : Nat} (h : CS w g wi p d A1 c1 A2 c2) :
    wi.cell? ⟨w.heap.size + 1, 0, none⟩ = some (.slice A1 d.st.length c1) ∧ wi.cell? ⟨w.heap.size + 1, 1, none⟩ = some (.slice A2 d.sy.length c2) ∧ (∀ j, wi.frozen? ⟨w.heap.size + 1, j, none⟩ = false) ∧
    wi.cell? ⟨w.heap.size, 0, none⟩ = some (.slice none 0 0) ∧ wi.cell? ⟨w.heap.size, 1, none⟩ = some (.slice none 0 0) ∧ (∀ j, wi.frozen? ⟨w.heap.size, j, none⟩ = false) := by
  have hc := h.cb
  have hr := h.rb
  exact ⟨by simp [World.cell?, hc], by simp [World.cell?, hc], fun j => by simp [World.frozen?, hc], by simp [World.cell?, hr], by simp [World.cell?, hr], fun j => by simp [World.frozen?, hr]⟩
/-- what a call that draws a Conf hands back. -/
def ConfG (w : World) (g p k : Nat) (e : Ending) (w' : World) : Prop := ∃ (d : ConfD) (A1 : Option Addr) (c1 : Nat) (A2 : Option Addr) (c2 : Nat), (e = .returned (.agg #[.slice A1 d.st.length c1, .slice A2 d.sy.length c2]) ∧ SmW d ∧ (d.sy.length ≤ 3 ∧ c2 = d.sy.length ∧ (d.sy = [] → A2 = none) ∧ ∀ b off, A2 = some ⟨b, off, none⟩ → w.heap.size ≤ b ∧ b < w'.heap.size) ∧ KeptC w w' d A1 c1 A2) ∧ Gen w w' g p k
theorem confG_mk {w w' : World} {g p p' k : Nat} (d : ConfD) (A1 : Option Addr) (c1 : Nat) (A2 : Option Addr) (c2 : Nat) (hs : SmW d) (hx : d.sy.length ≤ 3 ∧ c2 = d.sy.length ∧ (d.sy = [] → A2 = none) ∧ ∀ b off, A2 = some ⟨b, off, none⟩ → w.heap.size ≤ b ∧ b < w'.heap.size) (hf : KeptC w w' d A1 c1 A2 ∧ Rd w' g p' ∧ Outer w.heap.size g w w') (hp : p' ≤ p + k) :
    ConfG w g p k (.returned (.agg #[.slice A1 d.st.length c1, .slice A2 d.sy.length c2])) w' := ⟨d, A1, c1, A2, c2, ⟨rfl, hs, hx, hf.1⟩, p', hp, hf.2.1, hf.2.2⟩
def smWB (d : ConfD) : Bool := decide (d.st.length ≤ 2) && d.st.all (fun s => decide (s.size ≤ 12)) && decide (d.sy.length ≤ 4) && d.sy.all (fun y => decide (y.fr.length ≤ 3) && y.fr.all (fun s => decide (s.size ≤ 12)) && decide (y.tgt.size ≤ 12))
theorem smW_of {d : ConfD} (h : smWB d = true) : SmW d := by
  unfold smWB at h
  simp only [Bool.and_eq_true, List.all_eq_true, decide_eq_true_eq] at h
  exact ⟨h.1.1.1, h.1.1.2, h.1.2, fun y hy => ⟨⟨(h.2 y hy).1.1, (h.2 y hy).1.2⟩, (h.2 y hy).2⟩⟩
set_option maxHeartbeats 3200000 in
theorem l30Conf_gen (g p : Nat) (w : World) (hr : Rd w g p) (hp : p + 10 < 1000000) :
    Calls Tryd.prog 83 #[.pointer (some ⟨g, 0, none⟩)] w (ConfG w g p 3) := by
  have S0 := CS.start w g p hr
  go_enter Tryd.func83, Tryd.ntmps83
  go_wp2_with fail
  generalize ((w.alloc (.cells #[.slice none 0 0, .slice none 0 0] 44)).alloc (.cells #[.slice none 0 0, .slice none 0 0] 44)) = w0 at S0 ⊢
  refine (pick_gen g p 3 (by omega) (by omega) _ S0.r (by omega)).mono ?_
  rintro e w1 ⟨v1, ⟨rfl, h1, h2⟩, p1, hp1, r1, o1⟩
  have S1 := S0.gen r1 o1
  clear S0 o1 r1
  by_cases hv1 : 0 < v1
  · skip
    have G1 := S1.grow (wj := (w1.alloc (.cells #[.string ⟨#[116, 104, 101]⟩] 9))) (by (repeat' (first | exact Below.refl _ _ | apply Below.alloc | apply Below.setCell | apply Below.drew | apply below_draws)) <;> (first | omega | (simp <;> omega)))
    have T1 := G1.setSt [⟨#[116, 104, 101]⟩] (some ⟨w1.heap.size, 0, none⟩) 1 (fun w' hs => srcT_blk _ (hs.blk (by have := S1.sz; omega) (by simp) (alloc_at _ _)) rfl)
    obtain ⟨x0, x1, xz, y0, y1, yz⟩ := G1.cells
    have xz0 := xz 0
    have xz1 := xz 1
    have yz0 := yz 0
    have yz1 := yz 1
    clear xz yz
    go_wp2_with fail
    generalize ((w1.alloc (.cells #[.string ⟨#[116, 104, 101]⟩] 9)).setCell ⟨w.heap.size + 1, 0, none⟩ (.slice (some ⟨w1.heap.size, 0, none⟩) 1 1)) = u1 at T1 ⊢
    clear x0 x1 xz0 xz1 y0 y1 yz0 yz1 G1 S1
    go_wp2_with fail
    refine (pick_gen g p1 4 (by omega) (by omega) _ T1.r (by omega)).mono ?_
    rintro e w2 ⟨v2, ⟨rfl, h3, h4⟩, p2, hp2, r2, o2⟩
    have S2 := T1.gen r2 o2
    clear o2 r2 T1
    by_cases hv2 : v2 = 0
    · subst hv2
      have G1 := S2.grow (wj := (w2.alloc (.cells #[.string ⟨#[100, 111, 103]⟩, .string ⟨#[116, 104, 101]⟩] 9))) (by (repeat' (first | exact Below.refl _ _ | apply Below.alloc | apply Below.setCell | apply Below.drew | apply below_draws)) <;> (first | omega | (simp <;> omega)))
      have T2 := G1.setSt [⟨#[100, 111, 103]⟩, ⟨#[116, 104, 101]⟩] (some ⟨w2.heap.size, 0, none⟩) 2 (fun w' hs => srcT_blk _ (hs.blk (by have := S2.sz; omega) (by simp) (alloc_at _ _)) rfl)
      obtain ⟨x0, x1, xz, y0, y1, yz⟩ := G1.cells
      have xz0 := xz 0
      have xz1 := xz 1
      have yz0 := yz 0
      have yz1 := yz 1
      clear xz yz
      go_wp2_with fail
      generalize ((w2.alloc (.cells #[.string ⟨#[100, 111, 103]⟩, .string ⟨#[116, 104, 101]⟩] 9)).setCell ⟨w.heap.size + 1, 0, none⟩ (.slice (some ⟨w2.heap.size, 0, none⟩) 2 2)) = u2 at T2 ⊢
      clear x0 x1 xz0 xz1 y0 y1 yz0 yz1 G1 S2
      go_wp2_with fail
      refine (pick_gen g p2 4 (by omega) (by omega) _ T2.r (by omega)).mono ?_
      rintro e w3 ⟨v3, ⟨rfl, h5, h6⟩, p3, hp3, r3, o3⟩
      have S3 := T2.gen r3 o3
      clear o3 r3 T2
      by_cases hv3 : v3 = 0
      · subst hv3
        have G2 := S3.grow (wj := ((w3.alloc (.cells #[.string ⟨#[110, 101, 119]⟩, .string ⟨#[121, 111, 114, 107]⟩] 9)).alloc (.cells #[.slice (some ⟨w3.heap.size, 0, none⟩) 2 2, .string ⟨#[110, 121]⟩] 82))) (by (repeat' (first | exact Below.refl _ _ | apply Below.alloc | apply Below.setCell | apply Below.drew | apply below_draws)) <;> (first | omega | (simp <;> omega)))
        have S4 := G2.setSy [syN] (some ⟨w3.heap.size + 1, 0, none⟩) 1 (fun w' hs => by
          have hq := S3.sz
          have b0 : (w3.alloc (.cells #[.string ⟨#[110, 101, 119]⟩, .string ⟨#[121, 111, 114, 107]⟩] 9)).heap[w3.heap.size]? = some (.cells #[.string ⟨#[110, 101, 119]⟩, .string ⟨#[121, 111, 114, 107]⟩] 9 (0, 0)) := by have := alloc_at w3 (.cells #[.string ⟨#[110, 101, 119]⟩, .string ⟨#[121, 111, 114, 107]⟩] 9); simpa using this
          have q0 := srcT_blk (L := syN.fr) 2 (hs.blk (by omega) (by simp <;> omega) (alloc_old b0)) rfl
          have bb : ((w3.alloc (.cells #[.string ⟨#[110, 101, 119]⟩, .string ⟨#[121, 111, 114, 107]⟩] 9)).alloc (.cells #[.slice (some ⟨w3.heap.size, 0, none⟩) 2 2, .string ⟨#[110, 121]⟩] 82)).heap[w3.heap.size + 1]? = some (.cells #[.slice (some ⟨w3.heap.size, 0, none⟩) 2 2, .string ⟨#[110, 121]⟩] 82 (0, 0)) := by have := alloc_at (w3.alloc (.cells #[.string ⟨#[110, 101, 119]⟩, .string ⟨#[121, 111, 114, 107]⟩] 9)) (.cells #[.slice (some ⟨w3.heap.size, 0, none⟩) 2 2, .string ⟨#[110, 121]⟩] 82); simpa using this
          have qb := hs.blk (by omega) (by simp <;> omega) bb
          have qs : w'.heap.size > w3.heap.size + 1 := by have := hs.1; simp at this; omega
          intro k hk
          rcases k with _ | k
          · exact ⟨_, 0, _, _, rfl, by omega, by simp [World.cell?, qb]; rfl, by simp [World.cell?, qb]; rfl, q0⟩
          · exfalso; simp at hk; try omega)
        
        obtain ⟨x0, x1, xz, y0, y1, yz⟩ := G2.cells
        have xz0 := xz 0
        have xz1 := xz 1
        have yz0 := yz 0
        have yz1 := yz 1
        clear xz yz
        go_wp2_with fail
        have hz4 : ∀ b, ∀ {off : Nat}, some (⟨w3.heap.size + 1, 0, none⟩ : Addr) = some ⟨b, off, none⟩ → w.heap.size ≤ b ∧ b < (((((w3.alloc (.cells #[.string ⟨#[110, 101, 119]⟩, .string ⟨#[121, 111, 114, 107]⟩] 9)).alloc (.cells #[.slice (some ⟨w3.heap.size, 0, none⟩) 2 2, .string ⟨#[110, 121]⟩] 82)).setCell ⟨w.heap.size + 1, 1, none⟩ (.slice (some ⟨w3.heap.size + 1, 0, none⟩) 1 1)).setCell ⟨w.heap.size, 0, none⟩ (.slice (some ⟨w2.heap.size, 0, none⟩) 2 2)).setCell ⟨w.heap.size, 1, none⟩ (.slice (some ⟨w3.heap.size + 1, 0, none⟩) 1 1)).heap.size := fun b off e => by
          simp only [Option.some.injEq, Addr.mk.injEq] at e
          have := S3.sz
          have e1 := e.1
          refine ⟨by omega, ?_⟩
          rw [← e1]
          simp <;> omega
        generalize (((w3.alloc (.cells #[.string ⟨#[110, 101, 119]⟩, .string ⟨#[121, 111, 114, 107]⟩] 9)).alloc (.cells #[.slice (some ⟨w3.heap.size, 0, none⟩) 2 2, .string ⟨#[110, 121]⟩] 82)).setCell ⟨w.heap.size + 1, 1, none⟩ (.slice (some ⟨w3.heap.size + 1, 0, none⟩) 1 1)) = w4 at S4 hz4 ⊢
        clear x0 x1 xz0 xz1 y0 y1 yz0 yz1 G2
        obtain ⟨x0, x1, xz, y0, y1, yz⟩ := S4.cells
        have xz0 := xz 0
        have xz1 := xz 1
        have yz0 := yz 0
        have yz1 := yz 1
        clear xz yz
        have HF := Lib.hid S4.fin
        go_wp2
        exact bodyPost_ret (v := .agg #[.slice (some ⟨w2.heap.size, 0, none⟩) 2 2, .slice (some ⟨w3.heap.size + 1, 0, none⟩) 1 1]) (by simp [results, Tryd.results83, go_sem, *]) rfl (confG_mk ⟨[⟨#[100, 111, 103]⟩, ⟨#[116, 104, 101]⟩], [syN]⟩ _ _ _ _ (smW_of (by decide)) ⟨by decide, rfl, fun h => (by first | rfl | (cases h)), fun b off e => hz4 b e⟩ HF.out (by omega))
      · by_cases hv4 : v3 = 1
        · subst hv4
          have G2 := S3.grow (wj := ((((w3.alloc (.cells #[.string ⟨#[98, 105, 103]⟩] 9)).alloc (.cells #[.string ⟨#[98, 105, 103]⟩, .string ⟨#[114, 101, 100]⟩, .string ⟨#[102, 111, 120]⟩] 9)).alloc (.cells #[.string ⟨#[110, 101, 119]⟩, .string ⟨#[121, 111, 114, 107]⟩] 9)).alloc (.cells #[.slice (some ⟨w3.heap.size, 0, none⟩) 1 1, .string ⟨#[108, 97, 114, 103]⟩, .slice (some ⟨w3.heap.size + 1, 0, none⟩) 3 3, .string ⟨#[102, 111, 120]⟩, .slice (some ⟨w3.heap.size + 1 + 1, 0, none⟩) 2 2, .string ⟨#[110, 121]⟩] 82))) (by (repeat' (first | exact Below.refl _ _ | apply Below.alloc | apply Below.setCell | apply Below.drew | apply below_draws)) <;> (first | omega | (simp <;> omega)))
          have S4 := G2.setSy [syB, syF, syN] (some ⟨w3.heap.size + 1 + 1 + 1, 0, none⟩) 3 (fun w' hs => by
            have hq := S3.sz
            have b0 : (w3.alloc (.cells #[.string ⟨#[98, 105, 103]⟩] 9)).heap[w3.heap.size]? = some (.cells #[.string ⟨#[98, 105, 103]⟩] 9 (0, 0)) := by have := alloc_at w3 (.cells #[.string ⟨#[98, 105, 103]⟩] 9); simpa using this
            have q0 := srcT_blk (L := syB.fr) 1 (hs.blk (by omega) (by simp <;> omega) (alloc_old (alloc_old (alloc_old b0)))) rfl
            have b1 : ((w3.alloc (.cells #[.string ⟨#[98, 105, 103]⟩] 9)).alloc (.cells #[.string ⟨#[98, 105, 103]⟩, .string ⟨#[114, 101, 100]⟩, .string ⟨#[102, 111, 120]⟩] 9)).heap[w3.heap.size + 1]? = some (.cells #[.string ⟨#[98, 105, 103]⟩, .string ⟨#[114, 101, 100]⟩, .string ⟨#[102, 111, 120]⟩] 9 (0, 0)) := by have := alloc_at (w3.alloc (.cells #[.string ⟨#[98, 105, 103]⟩] 9)) (.cells #[.string ⟨#[98, 105, 103]⟩, .string ⟨#[114, 101, 100]⟩, .string ⟨#[102, 111, 120]⟩] 9); simpa using this
            have q1 := srcT_blk (L := syF.fr) 3 (hs.blk (by omega) (by simp <;> omega) (alloc_old (alloc_old b1))) rfl
            have b2 : (((w3.alloc (.cells #[.string ⟨#[98, 105, 103]⟩] 9)).alloc (.cells #[.string ⟨#[98, 105, 103]⟩, .string ⟨#[114, 101, 100]⟩, .string ⟨#[102, 111, 120]⟩] 9)).alloc (.cells #[.string ⟨#[110, 101, 119]⟩, .string ⟨#[121, 111, 114, 107]⟩] 9)).heap[w3.heap.size + 1 + 1]? = some (.cells #[.string ⟨#[110, 101, 119]⟩, .string ⟨#[121, 111, 114, 107]⟩] 9 (0, 0)) := by have := alloc_at ((w3.alloc (.cells #[.string ⟨#[98, 105, 103]⟩] 9)).alloc (.cells #[.string ⟨#[98, 105, 103]⟩, .string ⟨#[114, 101, 100]⟩, .string ⟨#[102, 111, 120]⟩] 9)) (.cells #[.string ⟨#[110, 101, 119]⟩, .string ⟨#[121, 111, 114, 107]⟩] 9); simpa using this
            have q2 := srcT_blk (L := syN.fr) 2 (hs.blk (by omega) (by simp <;> omega) (alloc_old b2)) rfl
            have bb : ((((w3.alloc (.cells #[.string ⟨#[98, 105, 103]⟩] 9)).alloc (.cells #[.string ⟨#[98, 105, 103]⟩, .string ⟨#[114, 101, 100]⟩, .string ⟨#[102, 111, 120]⟩] 9)).alloc (.cells #[.string ⟨#[110, 101, 119]⟩, .string ⟨#[121, 111, 114, 107]⟩] 9)).alloc (.cells #[.slice (some ⟨w3.heap.size, 0, none⟩) 1 1, .string ⟨#[108, 97, 114, 103]⟩, .slice (some ⟨w3.heap.size + 1, 0, none⟩) 3 3, .string ⟨#[102, 111, 120]⟩, .slice (some ⟨w3.heap.size + 1 + 1, 0, none⟩) 2 2, .string ⟨#[110, 121]⟩] 82)).heap[w3.heap.size + 1 + 1 + 1]? = some (.cells #[.slice (some ⟨w3.heap.size, 0, none⟩) 1 1, .string ⟨#[108, 97, 114, 103]⟩, .slice (some ⟨w3.heap.size + 1, 0, none⟩) 3 3, .string ⟨#[102, 111, 120]⟩, .slice (some ⟨w3.heap.size + 1 + 1, 0, none⟩) 2 2, .string ⟨#[110, 121]⟩] 82 (0, 0)) := by have := alloc_at (((w3.alloc (.cells #[.string ⟨#[98, 105, 103]⟩] 9)).alloc (.cells #[.string ⟨#[98, 105, 103]⟩, .string ⟨#[114, 101, 100]⟩, .string ⟨#[102, 111, 120]⟩] 9)).alloc (.cells #[.string ⟨#[110, 101, 119]⟩, .string ⟨#[121, 111, 114, 107]⟩] 9)) (.cells #[.slice (some ⟨w3.heap.size, 0, none⟩) 1 1, .string ⟨#[108, 97, 114, 103]⟩, .slice (some ⟨w3.heap.size + 1, 0, none⟩) 3 3, .string ⟨#[102, 111, 120]⟩, .slice (some ⟨w3.heap.size + 1 + 1, 0, none⟩) 2 2, .string ⟨#[110, 121]⟩] 82); simpa using this
            have qb := hs.blk (by omega) (by simp <;> omega) bb
            have qs : w'.heap.size > w3.heap.size + 1 + 1 + 1 := by have := hs.1; simp at this; omega
            intro k hk
            rcases k with _ | _ | _ | k
            · exact ⟨_, 0, _, _, rfl, by omega, by simp [World.cell?, qb]; rfl, by simp [World.cell?, qb]; rfl, q0⟩
            · exact ⟨_, 0, _, _, rfl, by omega, by simp [World.cell?, qb]; rfl, by simp [World.cell?, qb]; rfl, q1⟩
            · exact ⟨_, 0, _, _, rfl, by omega, by simp [World.cell?, qb]; rfl, by simp [World.cell?, qb]; rfl, q2⟩
            · exfalso; simp at hk; try omega)
          
          obtain ⟨x0, x1, xz, y0, y1, yz⟩ := G2.cells
          have xz0 := xz 0
          have xz1 := xz 1
          have yz0 := yz 0
          have yz1 := yz 1
          clear xz yz
          go_wp2_with fail
          have hz4 : ∀ b, ∀ {off : Nat}, some (⟨w3.heap.size + 1 + 1 + 1, 0, none⟩ : Addr) = some ⟨b, off, none⟩ → w.heap.size ≤ b ∧ b < (((((((w3.alloc (.cells #[.string ⟨#[98, 105, 103]⟩] 9)).alloc (.cells #[.string ⟨#[98, 105, 103]⟩, .string ⟨#[114, 101, 100]⟩, .string ⟨#[102, 111, 120]⟩] 9)).alloc (.cells #[.string ⟨#[110, 101, 119]⟩, .string ⟨#[121, 111, 114, 107]⟩] 9)).alloc (.cells #[.slice (some ⟨w3.heap.size, 0, none⟩) 1 1, .string ⟨#[108, 97, 114, 103]⟩, .slice (some ⟨w3.heap.size + 1, 0, none⟩) 3 3, .string ⟨#[102, 111, 120]⟩, .slice (some ⟨w3.heap.size + 1 + 1, 0, none⟩) 2 2, .string ⟨#[110, 121]⟩] 82)).setCell ⟨w.heap.size + 1, 1, none⟩ (.slice (some ⟨w3.heap.size + 1 + 1 + 1, 0, none⟩) 3 3)).setCell ⟨w.heap.size, 0, none⟩ (.slice (some ⟨w2.heap.size, 0, none⟩) 2 2)).setCell ⟨w.heap.size, 1, none⟩ (.slice (some ⟨w3.heap.size + 1 + 1 + 1, 0, none⟩) 3 3)).heap.size := fun b off e => by
            simp only [Option.some.injEq, Addr.mk.injEq] at e
            have := S3.sz
            have e1 := e.1
            refine ⟨by omega, ?_⟩
            rw [← e1]
            simp <;> omega
          generalize (((((w3.alloc (.cells #[.string ⟨#[98, 105, 103]⟩] 9)).alloc (.cells #[.string ⟨#[98, 105, 103]⟩, .string ⟨#[114, 101, 100]⟩, .string ⟨#[102, 111, 120]⟩] 9)).alloc (.cells #[.string ⟨#[110, 101, 119]⟩, .string ⟨#[121, 111, 114, 107]⟩] 9)).alloc (.cells #[.slice (some ⟨w3.heap.size, 0, none⟩) 1 1, .string ⟨#[108, 97, 114, 103]⟩, .slice (some ⟨w3.heap.size + 1, 0, none⟩) 3 3, .string ⟨#[102, 111, 120]⟩, .slice (some ⟨w3.heap.size + 1 + 1, 0, none⟩) 2 2, .string ⟨#[110, 121]⟩] 82)).setCell ⟨w.heap.size + 1, 1, none⟩ (.slice (some ⟨w3.heap.size + 1 + 1 + 1, 0, none⟩) 3 3)) = w4 at S4 hz4 ⊢
          clear x0 x1 xz0 xz1 y0 y1 yz0 yz1 G2
          obtain ⟨x0, x1, xz, y0, y1, yz⟩ := S4.cells
          have xz0 := xz 0
          have xz1 := xz 1
          have yz0 := yz 0
          have yz1 := yz 1
          clear xz yz
          have HF := Lib.hid S4.fin
          go_wp2
          exact bodyPost_ret (v := .agg #[.slice (some ⟨w2.heap.size, 0, none⟩) 2 2, .slice (some ⟨w3.heap.size + 1 + 1 + 1, 0, none⟩) 3 3]) (by simp [results, Tryd.results83, go_sem, *]) rfl (confG_mk ⟨[⟨#[100, 111, 103]⟩, ⟨#[116, 104, 101]⟩], [syB, syF, syN]⟩ _ _ _ _ (smW_of (by decide)) ⟨by decide, rfl, fun h => (by first | rfl | (cases h)), fun b off e => hz4 b e⟩ HF.out (by omega))
        · skip
          have n3 : (v3 == 0) = false := by rw [beq_eq_false_iff_ne]; exact hv3
          have n4 : (v3 == 1) = false := by rw [beq_eq_false_iff_ne]; exact hv4
          obtain ⟨x0, x1, xz, y0, y1, yz⟩ := S3.cells
          have xz0 := xz 0
          have xz1 := xz 1
          have yz0 := yz 0
          have yz1 := yz 1
          clear xz yz
          have HF := Lib.hid S3.fin
          go_wp2
          exact bodyPost_ret (v := .agg #[.slice (some ⟨w2.heap.size, 0, none⟩) 2 2, .slice none 0 0]) (by simp [results, Tryd.results83, go_sem, *]) rfl (confG_mk ⟨[⟨#[100, 111, 103]⟩, ⟨#[116, 104, 101]⟩], []⟩ _ _ _ _ (smW_of (by decide)) ⟨by decide, rfl, fun h => (by first | rfl | (cases h)), fun b off e => by cases e⟩ HF.out (by omega))
    · have n2 : (v2 == 0) = false := by rw [beq_eq_false_iff_ne]; exact hv2
      go_wp2_with fail
      refine (pick_gen g p2 4 (by omega) (by omega) _ S2.r (by omega)).mono ?_
      rintro e w3 ⟨v3, ⟨rfl, h5, h6⟩, p3, hp3, r3, o3⟩
      have S3 := S2.gen r3 o3
      clear o3 r3 S2
      by_cases hv3 : v3 = 0
      · subst hv3
        have G2 := S3.grow (wj := ((w3.alloc (.cells #[.string ⟨#[110, 101, 119]⟩, .string ⟨#[121, 111, 114, 107]⟩] 9)).alloc (.cells #[.slice (some ⟨w3.heap.size, 0, none⟩) 2 2, .string ⟨#[110, 121]⟩] 82))) (by (repeat' (first | exact Below.refl _ _ | apply Below.alloc | apply Below.setCell | apply Below.drew | apply below_draws)) <;> (first | omega | (simp <;> omega)))
        have S4 := G2.setSy [syN] (some ⟨w3.heap.size + 1, 0, none⟩) 1 (fun w' hs => by
          have hq := S3.sz
          have b0 : (w3.alloc (.cells #[.string ⟨#[110, 101, 119]⟩, .string ⟨#[121, 111, 114, 107]⟩] 9)).heap[w3.heap.size]? = some (.cells #[.string ⟨#[110, 101, 119]⟩, .string ⟨#[121, 111, 114, 107]⟩] 9 (0, 0)) := by have := alloc_at w3 (.cells #[.string ⟨#[110, 101, 119]⟩, .string ⟨#[121, 111, 114, 107]⟩] 9); simpa using this
          have q0 := srcT_blk (L := syN.fr) 2 (hs.blk (by omega) (by simp <;> omega) (alloc_old b0)) rfl
          have bb : ((w3.alloc (.cells #[.string ⟨#[110, 101, 119]⟩, .string ⟨#[121, 111, 114, 107]⟩] 9)).alloc (.cells #[.slice (some ⟨w3.heap.size, 0, none⟩) 2 2, .string ⟨#[110, 121]⟩] 82)).heap[w3.heap.size + 1]? = some (.cells #[.slice (some ⟨w3.heap.size, 0, none⟩) 2 2, .string ⟨#[110, 121]⟩] 82 (0, 0)) := by have := alloc_at (w3.alloc (.cells #[.string ⟨#[110, 101, 119]⟩, .string ⟨#[121, 111, 114, 107]⟩] 9)) (.cells #[.slice (some ⟨w3.heap.size, 0, none⟩) 2 2, .string ⟨#[110, 121]⟩] 82); simpa using this
          have qb := hs.blk (by omega) (by simp <;> omega) bb
          have qs : w'.heap.size > w3.heap.size + 1 := by have := hs.1; simp at this; omega
          intro k hk
          rcases k with _ | k
          · exact ⟨_, 0, _, _, rfl, by omega, by simp [World.cell?, qb]; rfl, by simp [World.cell?, qb]; rfl, q0⟩
          · exfalso; simp at hk; try omega)
        
        obtain ⟨x0, x1, xz, y0, y1, yz⟩ := G2.cells
        have xz0 := xz 0
        have xz1 := xz 1
        have yz0 := yz 0
        have yz1 := yz 1
        clear xz yz
        go_wp2_with fail
        have hz4 : ∀ b, ∀ {off : Nat}, some (⟨w3.heap.size + 1, 0, none⟩ : Addr) = some ⟨b, off, none⟩ → w.heap.size ≤ b ∧ b < (((((w3.alloc (.cells #[.string ⟨#[110, 101, 119]⟩, .string ⟨#[121, 111, 114, 107]⟩] 9)).alloc (.cells #[.slice (some ⟨w3.heap.size, 0, none⟩) 2 2, .string ⟨#[110, 121]⟩] 82)).setCell ⟨w.heap.size + 1, 1, none⟩ (.slice (some ⟨w3.heap.size + 1, 0, none⟩) 1 1)).setCell ⟨w.heap.size, 0, none⟩ (.slice (some ⟨w1.heap.size, 0, none⟩) 1 1)).setCell ⟨w.heap.size, 1, none⟩ (.slice (some ⟨w3.heap.size + 1, 0, none⟩) 1 1)).heap.size := fun b off e => by
          simp only [Option.some.injEq, Addr.mk.injEq] at e
          have := S3.sz
          have e1 := e.1
          refine ⟨by omega, ?_⟩
          rw [← e1]
          simp <;> omega
        generalize (((w3.alloc (.cells #[.string ⟨#[110, 101, 119]⟩, .string ⟨#[121, 111, 114, 107]⟩] 9)).alloc (.cells #[.slice (some ⟨w3.heap.size, 0, none⟩) 2 2, .string ⟨#[110, 121]⟩] 82)).setCell ⟨w.heap.size + 1, 1, none⟩ (.slice (some ⟨w3.heap.size + 1, 0, none⟩) 1 1)) = w4 at S4 hz4 ⊢
        clear x0 x1 xz0 xz1 y0 y1 yz0 yz1 G2
        obtain ⟨x0, x1, xz, y0, y1, yz⟩ := S4.cells
        have xz0 := xz 0
        have xz1 := xz 1
        have yz0 := yz 0
        have yz1 := yz 1
        clear xz yz
        have HF := Lib.hid S4.fin
        go_wp2
        exact bodyPost_ret (v := .agg #[.slice (some ⟨w1.heap.size, 0, none⟩) 1 1, .slice (some ⟨w3.heap.size + 1, 0, none⟩) 1 1]) (by simp [results, Tryd.results83, go_sem, *]) rfl (confG_mk ⟨[⟨#[116, 104, 101]⟩], [syN]⟩ _ _ _ _ (smW_of (by decide)) ⟨by decide, rfl, fun h => (by first | rfl | (cases h)), fun b off e => hz4 b e⟩ HF.out (by omega))
      · by_cases hv4 : v3 = 1
        · subst hv4
          have G2 := S3.grow (wj := ((((w3.alloc (.cells #[.string ⟨#[98, 105, 103]⟩] 9)).alloc (.cells #[.string ⟨#[98, 105, 103]⟩, .string ⟨#[114, 101, 100]⟩, .string ⟨#[102, 111, 120]⟩] 9)).alloc (.cells #[.string ⟨#[110, 101, 119]⟩, .string ⟨#[121, 111, 114, 107]⟩] 9)).alloc (.cells #[.slice (some ⟨w3.heap.size, 0, none⟩) 1 1, .string ⟨#[108, 97, 114, 103]⟩, .slice (some ⟨w3.heap.size + 1, 0, none⟩) 3 3, .string ⟨#[102, 111, 120]⟩, .slice (some ⟨w3.heap.size + 1 + 1, 0, none⟩) 2 2, .string ⟨#[110, 121]⟩] 82))) (by (repeat' (first | exact Below.refl _ _ | apply Below.alloc | apply Below.setCell | apply Below.drew | apply below_draws)) <;> (first | omega | (simp <;> omega)))
          have S4 := G2.setSy [syB, syF, syN] (some ⟨w3.heap.size + 1 + 1 + 1, 0, none⟩) 3 (fun w' hs => by
            have hq := S3.sz
            have b0 : (w3.alloc (.cells #[.string ⟨#[98, 105, 103]⟩] 9)).heap[w3.heap.size]? = some (.cells #[.string ⟨#[98, 105, 103]⟩] 9 (0, 0)) := by have := alloc_at w3 (.cells #[.string ⟨#[98, 105, 103]⟩] 9); simpa using this
            have q0 := srcT_blk (L := syB.fr) 1 (hs.blk (by omega) (by simp <;> omega) (alloc_old (alloc_old (alloc_old b0)))) rfl
            have b1 : ((w3.alloc (.cells #[.string ⟨#[98, 105, 103]⟩] 9)).alloc (.cells #[.string ⟨#[98, 105, 103]⟩, .string ⟨#[114, 101, 100]⟩, .string ⟨#[102, 111, 120]⟩] 9)).heap[w3.heap.size + 1]? = some (.cells #[.string ⟨#[98, 105, 103]⟩, .string ⟨#[114, 101, 100]⟩, .string ⟨#[102, 111, 120]⟩] 9 (0, 0)) := by have := alloc_at (w3.alloc (.cells #[.string ⟨#[98, 105, 103]⟩] 9)) (.cells #[.string ⟨#[98, 105, 103]⟩, .string ⟨#[114, 101, 100]⟩, .string ⟨#[102, 111, 120]⟩] 9); simpa using this
            have q1 := srcT_blk (L := syF.fr) 3 (hs.blk (by omega) (by simp <;> omega) (alloc_old (alloc_old b1))) rfl
            have b2 : (((w3.alloc (.cells #[.string ⟨#[98, 105, 103]⟩] 9)).alloc (.cells #[.string ⟨#[98, 105, 103]⟩, .string ⟨#[114, 101, 100]⟩, .string ⟨#[102, 111, 120]⟩] 9)).alloc (.cells #[.string ⟨#[110, 101, 119]⟩, .string ⟨#[121, 111, 114, 107]⟩] 9)).heap[w3.heap.size + 1 + 1]? = some (.cells #[.string ⟨#[110, 101, 119]⟩, .string ⟨#[121, 111, 114, 107]⟩] 9 (0, 0)) := by have := alloc_at ((w3.alloc (.cells #[.string ⟨#[98, 105, 103]⟩] 9)).alloc (.cells #[.string ⟨#[98, 105, 103]⟩, .string ⟨#[114, 101, 100]⟩, .string ⟨#[102, 111, 120]⟩] 9)) (.cells #[.string ⟨#[110, 101, 119]⟩, .string ⟨#[121, 111, 114, 107]⟩] 9); simpa using this
            have q2 := srcT_blk (L := syN.fr) 2 (hs.blk (by omega) (by simp <;> omega) (alloc_old b2)) rfl
            have bb : ((((w3.alloc (.cells #[.string ⟨#[98, 105, 103]⟩] 9)).alloc (.cells #[.string ⟨#[98, 105, 103]⟩, .string ⟨#[114, 101, 100]⟩, .string ⟨#[102, 111, 120]⟩] 9)).alloc (.cells #[.string ⟨#[110, 101, 119]⟩, .string ⟨#[121, 111, 114, 107]⟩] 9)).alloc (.cells #[.slice (some ⟨w3.heap.size, 0, none⟩) 1 1, .string ⟨#[108, 97, 114, 103]⟩, .slice (some ⟨w3.heap.size + 1, 0, none⟩) 3 3, .string ⟨#[102, 111, 120]⟩, .slice (some ⟨w3.heap.size + 1 + 1, 0, none⟩) 2 2, .string ⟨#[110, 121]⟩] 82)).heap[w3.heap.size + 1 + 1 + 1]? = some (.cells #[.slice (some ⟨w3.heap.size, 0, none⟩) 1 1, .string ⟨#[108, 97, 114, 103]⟩, .slice (some ⟨w3.heap.size + 1, 0, none⟩) 3 3, .string ⟨#[102, 111, 120]⟩, .slice (some ⟨w3.heap.size + 1 + 1, 0, none⟩) 2 2, .string ⟨#[110, 121]⟩] 82 (0, 0)) := by have := alloc_at (((w3.alloc (.cells #[.string ⟨#[98, 105, 103]⟩] 9)).alloc (.cells #[.string ⟨#[98, 105, 103]⟩, .string ⟨#[114, 101, 100]⟩, .string ⟨#[102, 111, 120]⟩] 9)).alloc (.cells #[.string ⟨#[110, 101, 119]⟩, .string ⟨#[121, 111, 114, 107]⟩] 9)) (.cells #[.slice (some ⟨w3.heap.size, 0, none⟩) 1 1, .string ⟨#[108, 97, 114, 103]⟩, .slice (some ⟨w3.heap.size + 1, 0, none⟩) 3 3, .string ⟨#[102, 111, 120]⟩, .slice (some ⟨w3.heap.size + 1 + 1, 0, none⟩) 2 2, .string ⟨#[110, 121]⟩] 82); simpa using this
            have qb := hs.blk (by omega) (by simp <;> omega) bb
            have qs : w'.heap.size > w3.heap.size + 1 + 1 + 1 := by have := hs.1; simp at this; omega
            intro k hk
            rcases k with _ | _ | _ | k
            · exact ⟨_, 0, _, _, rfl, by omega, by simp [World.cell?, qb]; rfl, by simp [World.cell?, qb]; rfl, q0⟩
            · exact ⟨_, 0, _, _, rfl, by omega, by simp [World.cell?, qb]; rfl, by simp [World.cell?, qb]; rfl, q1⟩
            · exact ⟨_, 0, _, _, rfl, by omega, by simp [World.cell?, qb]; rfl, by simp [World.cell?, qb]; rfl, q2⟩
            · exfalso; simp at hk; try omega)
          
          obtain ⟨x0, x1, xz, y0, y1, yz⟩ := G2.cells
          have xz0 := xz 0
          have xz1 := xz 1
          have yz0 := yz 0
          have yz1 := yz 1
          clear xz yz
          go_wp2_with fail
          have hz4 : ∀ b, ∀ {off : Nat}, some (⟨w3.heap.size + 1 + 1 + 1, 0, none⟩ : Addr) = some ⟨b, off, none⟩ → w.heap.size ≤ b ∧ b < (((((((w3.alloc (.cells #[.string ⟨#[98, 105, 103]⟩] 9)).alloc (.cells #[.string ⟨#[98, 105, 103]⟩, .string ⟨#[114, 101, 100]⟩, .string ⟨#[102, 111, 120]⟩] 9)).alloc (.cells #[.string ⟨#[110, 101, 119]⟩, .string ⟨#[121, 111, 114, 107]⟩] 9)).alloc (.cells #[.slice (some ⟨w3.heap.size, 0, none⟩) 1 1, .string ⟨#[108, 97, 114, 103]⟩, .slice (some ⟨w3.heap.size + 1, 0, none⟩) 3 3, .string ⟨#[102, 111, 120]⟩, .slice (some ⟨w3.heap.size + 1 + 1, 0, none⟩) 2 2, .string ⟨#[110, 121]⟩] 82)).setCell ⟨w.heap.size + 1, 1, none⟩ (.slice (some ⟨w3.heap.size + 1 + 1 + 1, 0, none⟩) 3 3)).setCell ⟨w.heap.size, 0, none⟩ (.slice (some ⟨w1.heap.size, 0, none⟩) 1 1)).setCell ⟨w.heap.size, 1, none⟩ (.slice (some ⟨w3.heap.size + 1 + 1 + 1, 0, none⟩) 3 3)).heap.size := fun b off e => by
            simp only [Option.some.injEq, Addr.mk.injEq] at e
            have := S3.sz
            have e1 := e.1
            refine ⟨by omega, ?_⟩
            rw [← e1]
            simp <;> omega
          generalize (((((w3.alloc (.cells #[.string ⟨#[98, 105, 103]⟩] 9)).alloc (.cells #[.string ⟨#[98, 105, 103]⟩, .string ⟨#[114, 101, 100]⟩, .string ⟨#[102, 111, 120]⟩] 9)).alloc (.cells #[.string ⟨#[110, 101, 119]⟩, .string ⟨#[121, 111, 114, 107]⟩] 9)).alloc (.cells #[.slice (some ⟨w3.heap.size, 0, none⟩) 1 1, .string ⟨#[108, 97, 114, 103]⟩, .slice (some ⟨w3.heap.size + 1, 0, none⟩) 3 3, .string ⟨#[102, 111, 120]⟩, .slice (some ⟨w3.heap.size + 1 + 1, 0, none⟩) 2 2, .string ⟨#[110, 121]⟩] 82)).setCell ⟨w.heap.size + 1, 1, none⟩ (.slice (some ⟨w3.heap.size + 1 + 1 + 1, 0, none⟩) 3 3)) = w4 at S4 hz4 ⊢
          clear x0 x1 xz0 xz1 y0 y1 yz0 yz1 G2
          obtain ⟨x0, x1, xz, y0, y1, yz⟩ := S4.cells
          have xz0 := xz 0
          have xz1 := xz 1
          have yz0 := yz 0
          have yz1 := yz 1
          clear xz yz
          have HF := Lib.hid S4.fin
          go_wp2
          exact bodyPost_ret (v := .agg #[.slice (some ⟨w1.heap.size, 0, none⟩) 1 1, .slice (some ⟨w3.heap.size + 1 + 1 + 1, 0, none⟩) 3 3]) (by simp [results, Tryd.results83, go_sem, *]) rfl (confG_mk ⟨[⟨#[116, 104, 101]⟩], [syB, syF, syN]⟩ _ _ _ _ (smW_of (by decide)) ⟨by decide, rfl, fun h => (by first | rfl | (cases h)), fun b off e => hz4 b e⟩ HF.out (by omega))
        · skip
          have n3 : (v3 == 0) = false := by rw [beq_eq_false_iff_ne]; exact hv3
          have n4 : (v3 == 1) = false := by rw [beq_eq_false_iff_ne]; exact hv4
          obtain ⟨x0, x1, xz, y0, y1, yz⟩ := S3.cells
          have xz0 := xz 0
          have xz1 := xz 1
          have yz0 := yz 0
          have yz1 := yz 1
          clear xz yz
          have HF := Lib.hid S3.fin
          go_wp2
          exact bodyPost_ret (v := .agg #[.slice (some ⟨w1.heap.size, 0, none⟩) 1 1, .slice none 0 0]) (by simp [results, Tryd.results83, go_sem, *]) rfl (confG_mk ⟨[⟨#[116, 104, 101]⟩], []⟩ _ _ _ _ (smW_of (by decide)) ⟨by decide, rfl, fun h => (by first | rfl | (cases h)), fun b off e => by cases e⟩ HF.out (by omega))
  · skip
    go_wp2_with fail
    refine (pick_gen g p1 4 (by omega) (by omega) _ S1.r (by omega)).mono ?_
    rintro e w2 ⟨v2, ⟨rfl, h3, h4⟩, p2, hp2, r2, o2⟩
    have S2 := S1.gen r2 o2
    clear o2 r2 S1
    by_cases hv2 : v2 = 0
    · subst hv2
      have G1 := S2.grow (wj := (w2.alloc (.cells #[.string ⟨#[100, 111, 103]⟩, .string ⟨#[116, 104, 101]⟩] 9))) (by (repeat' (first | exact Below.refl _ _ | apply Below.alloc | apply Below.setCell | apply Below.drew | apply below_draws)) <;> (first | omega | (simp <;> omega)))
      have T2 := G1.setSt [⟨#[100, 111, 103]⟩, ⟨#[116, 104, 101]⟩] (some ⟨w2.heap.size, 0, none⟩) 2 (fun w' hs => srcT_blk _ (hs.blk (by have := S2.sz; omega) (by simp) (alloc_at _ _)) rfl)
      obtain ⟨x0, x1, xz, y0, y1, yz⟩ := G1.cells
      have xz0 := xz 0
      have xz1 := xz 1
      have yz0 := yz 0
      have yz1 := yz 1
      clear xz yz
      go_wp2_with fail
      generalize ((w2.alloc (.cells #[.string ⟨#[100, 111, 103]⟩, .string ⟨#[116, 104, 101]⟩] 9)).setCell ⟨w.heap.size + 1, 0, none⟩ (.slice (some ⟨w2.heap.size, 0, none⟩) 2 2)) = u2 at T2 ⊢
      clear x0 x1 xz0 xz1 y0 y1 yz0 yz1 G1 S2
      go_wp2_with fail
      refine (pick_gen g p2 4 (by omega) (by omega) _ T2.r (by omega)).mono ?_
      rintro e w3 ⟨v3, ⟨rfl, h5, h6⟩, p3, hp3, r3, o3⟩
      have S3 := T2.gen r3 o3
      clear o3 r3 T2
      by_cases hv3 : v3 = 0
      · subst hv3
        have G2 := S3.grow (wj := ((w3.alloc (.cells #[.string ⟨#[110, 101, 119]⟩, .string ⟨#[121, 111, 114, 107]⟩] 9)).alloc (.cells #[.slice (some ⟨w3.heap.size, 0, none⟩) 2 2, .string ⟨#[110, 121]⟩] 82))) (by (repeat' (first | exact Below.refl _ _ | apply Below.alloc | apply Below.setCell | apply Below.drew | apply below_draws)) <;> (first | omega | (simp <;> omega)))
        have S4 := G2.setSy [syN] (some ⟨w3.heap.size + 1, 0, none⟩) 1 (fun w' hs => by
          have hq := S3.sz
          have b0 : (w3.alloc (.cells #[.string ⟨#[110, 101, 119]⟩, .string ⟨#[121, 111, 114, 107]⟩] 9)).heap[w3.heap.size]? = some (.cells #[.string ⟨#[110, 101, 119]⟩, .string ⟨#[121, 111, 114, 107]⟩] 9 (0, 0)) := by have := alloc_at w3 (.cells #[.string ⟨#[110, 101, 119]⟩, .string ⟨#[121, 111, 114, 107]⟩] 9); simpa using this
          have q0 := srcT_blk (L := syN.fr) 2 (hs.blk (by omega) (by simp <;> omega) (alloc_old b0)) rfl
          have bb : ((w3.alloc (.cells #[.string ⟨#[110, 101, 119]⟩, .string ⟨#[121, 111, 114, 107]⟩] 9)).alloc (.cells #[.slice (some ⟨w3.heap.size, 0, none⟩) 2 2, .string ⟨#[110, 121]⟩] 82)).heap[w3.heap.size + 1]? = some (.cells #[.slice (some ⟨w3.heap.size, 0, none⟩) 2 2, .string ⟨#[110, 121]⟩] 82 (0, 0)) := by have := alloc_at (w3.alloc (.cells #[.string ⟨#[110, 101, 119]⟩, .string ⟨#[121, 111, 114, 107]⟩] 9)) (.cells #[.slice (some ⟨w3.heap.size, 0, none⟩) 2 2, .string ⟨#[110, 121]⟩] 82); simpa using this
          have qb := hs.blk (by omega) (by simp <;> omega) bb
          have qs : w'.heap.size > w3.heap.size + 1 := by have := hs.1; simp at this; omega
          intro k hk
          rcases k with _ | k
          · exact ⟨_, 0, _, _, rfl, by omega, by simp [World.cell?, qb]; rfl, by simp [World.cell?, qb]; rfl, q0⟩
          · exfalso; simp at hk; try omega)
        
        obtain ⟨x0, x1, xz, y0, y1, yz⟩ := G2.cells
        have xz0 := xz 0
        have xz1 := xz 1
        have yz0 := yz 0
        have yz1 := yz 1
        clear xz yz
        go_wp2_with fail
        have hz4 : ∀ b, ∀ {off : Nat}, some (⟨w3.heap.size + 1, 0, none⟩ : Addr) = some ⟨b, off, none⟩ → w.heap.size ≤ b ∧ b < (((((w3.alloc (.cells #[.string ⟨#[110, 101, 119]⟩, .string ⟨#[121, 111, 114, 107]⟩] 9)).alloc (.cells #[.slice (some ⟨w3.heap.size, 0, none⟩) 2 2, .string ⟨#[110, 121]⟩] 82)).setCell ⟨w.heap.size + 1, 1, none⟩ (.slice (some ⟨w3.heap.size + 1, 0, none⟩) 1 1)).setCell ⟨w.heap.size, 0, none⟩ (.slice (some ⟨w2.heap.size, 0, none⟩) 2 2)).setCell ⟨w.heap.size, 1, none⟩ (.slice (some ⟨w3.heap.size + 1, 0, none⟩) 1 1)).heap.size := fun b off e => by
          simp only [Option.some.injEq, Addr.mk.injEq] at e
          have := S3.sz
          have e1 := e.1
          refine ⟨by omega, ?_⟩
          rw [← e1]
          simp <;> omega
        generalize (((w3.alloc (.cells #[.string ⟨#[110, 101, 119]⟩, .string ⟨#[121, 111, 114, 107]⟩] 9)).alloc (.cells #[.slice (some ⟨w3.heap.size, 0, none⟩) 2 2, .string ⟨#[110, 121]⟩] 82)).setCell ⟨w.heap.size + 1, 1, none⟩ (.slice (some ⟨w3.heap.size + 1, 0, none⟩) 1 1)) = w4 at S4 hz4 ⊢
        clear x0 x1 xz0 xz1 y0 y1 yz0 yz1 G2
        obtain ⟨x0, x1, xz, y0, y1, yz⟩ := S4.cells
        have xz0 := xz 0
        have xz1 := xz 1
        have yz0 := yz 0
        have yz1 := yz 1
        clear xz yz
        have HF := Lib.hid S4.fin
        go_wp2
        exact bodyPost_ret (v := .agg #[.slice (some ⟨w2.heap.size, 0, none⟩) 2 2, .slice (some ⟨w3.heap.size + 1, 0, none⟩) 1 1]) (by simp [results, Tryd.results83, go_sem, *]) rfl (confG_mk ⟨[⟨#[100, 111, 103]⟩, ⟨#[116, 104, 101]⟩], [syN]⟩ _ _ _ _ (smW_of (by decide)) ⟨by decide, rfl, fun h => (by first | rfl | (cases h)), fun b off e => hz4 b e⟩ HF.out (by omega))
      · by_cases hv4 : v3 = 1
        · subst hv4
          have G2 := S3.grow (wj := ((((w3.alloc (.cells #[.string ⟨#[98, 105, 103]⟩] 9)).alloc (.cells #[.string ⟨#[98, 105, 103]⟩, .string ⟨#[114, 101, 100]⟩, .string ⟨#[102, 111, 120]⟩] 9)).alloc (.cells #[.string ⟨#[110, 101, 119]⟩, .string ⟨#[121, 111, 114, 107]⟩] 9)).alloc (.cells #[.slice (some ⟨w3.heap.size, 0, none⟩) 1 1, .string ⟨#[108, 97, 114, 103]⟩, .slice (some ⟨w3.heap.size + 1, 0, none⟩) 3 3, .string ⟨#[102, 111, 120]⟩, .slice (some ⟨w3.heap.size + 1 + 1, 0, none⟩) 2 2, .string ⟨#[110, 121]⟩] 82))) (by (repeat' (first | exact Below.refl _ _ | apply Below.alloc | apply Below.setCell | apply Below.drew | apply below_draws)) <;> (first | omega | (simp <;> omega)))
          have S4 := G2.setSy [syB, syF, syN] (some ⟨w3.heap.size + 1 + 1 + 1, 0, none⟩) 3 (fun w' hs => by
            have hq := S3.sz
            have b0 : (w3.alloc (.cells #[.string ⟨#[98, 105, 103]⟩] 9)).heap[w3.heap.size]? = some (.cells #[.string ⟨#[98, 105, 103]⟩] 9 (0, 0)) := by have := alloc_at w3 (.cells #[.string ⟨#[98, 105, 103]⟩] 9); simpa using this
            have q0 := srcT_blk (L := syB.fr) 1 (hs.blk (by omega) (by simp <;> omega) (alloc_old (alloc_old (alloc_old b0)))) rfl
            have b1 : ((w3.alloc (.cells #[.string ⟨#[98, 105, 103]⟩] 9)).alloc (.cells #[.string ⟨#[98, 105, 103]⟩, .string ⟨#[114, 101, 100]⟩, .string ⟨#[102, 111, 120]⟩] 9)).heap[w3.heap.size + 1]? = some (.cells #[.string ⟨#[98, 105, 103]⟩, .string ⟨#[114, 101, 100]⟩, .string ⟨#[102, 111, 120]⟩] 9 (0, 0)) := by have := alloc_at (w3.alloc (.cells #[.string ⟨#[98, 105, 103]⟩] 9)) (.cells #[.string ⟨#[98, 105, 103]⟩, .string ⟨#[114, 101, 100]⟩, .string ⟨#[102, 111, 120]⟩] 9); simpa using this
            have q1 := srcT_blk (L := syF.fr) 3 (hs.blk (by omega) (by simp <;> omega) (alloc_old (alloc_old b1))) rfl
            have b2 : (((w3.alloc (.cells #[.string ⟨#[98, 105, 103]⟩] 9)).alloc (.cells #[.string ⟨#[98, 105, 103]⟩, .string ⟨#[114, 101, 100]⟩, .string ⟨#[102, 111, 120]⟩] 9)).alloc (.cells #[.string ⟨#[110, 101, 119]⟩, .string ⟨#[121, 111, 114, 107]⟩] 9)).heap[w3.heap.size + 1 + 1]? = some (.cells #[.string ⟨#[110, 101, 119]⟩, .string ⟨#[121, 111, 114, 107]⟩] 9 (0, 0)) := by have := alloc_at ((w3.alloc (.cells #[.string ⟨#[98, 105, 103]⟩] 9)).alloc (.cells #[.string ⟨#[98, 105, 103]⟩, .string ⟨#[114, 101, 100]⟩, .string ⟨#[102, 111, 120]⟩] 9)) (.cells #[.string ⟨#[110, 101, 119]⟩, .string ⟨#[121, 111, 114, 107]⟩] 9); simpa using this
            have q2 := srcT_blk (L := syN.fr) 2 (hs.blk (by omega) (by simp <;> omega) (alloc_old b2)) rfl
            have bb : ((((w3.alloc (.cells #[.string ⟨#[98, 105, 103]⟩] 9)).alloc (.cells #[.string ⟨#[98, 105, 103]⟩, .string ⟨#[114, 101, 100]⟩, .string ⟨#[102, 111, 120]⟩] 9)).alloc (.cells #[.string ⟨#[110, 101, 119]⟩, .string ⟨#[121, 111, 114, 107]⟩] 9)).alloc (.cells #[.slice (some ⟨w3.heap.size, 0, none⟩) 1 1, .string ⟨#[108, 97, 114, 103]⟩, .slice (some ⟨w3.heap.size + 1, 0, none⟩) 3 3, .string ⟨#[102, 111, 120]⟩, .slice (some ⟨w3.heap.size + 1 + 1, 0, none⟩) 2 2, .string ⟨#[110, 121]⟩] 82)).heap[w3.heap.size + 1 + 1 + 1]? = some (.cells #[.slice (some ⟨w3.heap.size, 0, none⟩) 1 1, .string ⟨#[108, 97, 114, 103]⟩, .slice (some ⟨w3.heap.size + 1, 0, none⟩) 3 3, .string ⟨#[102, 111, 120]⟩, .slice (some ⟨w3.heap.size + 1 + 1, 0, none⟩) 2 2, .string ⟨#[110, 121]⟩] 82 (0, 0)) := by have := alloc_at (((w3.alloc (.cells #[.string ⟨#[98, 105, 103]⟩] 9)).alloc (.cells #[.string ⟨#[98, 105, 103]⟩, .string ⟨#[114, 101, 100]⟩, .string ⟨#[102, 111, 120]⟩] 9)).alloc (.cells #[.string ⟨#[110, 101, 119]⟩, .string ⟨#[121, 111, 114, 107]⟩] 9)) (.cells #[.slice (some ⟨w3.heap.size, 0, none⟩) 1 1, .string ⟨#[108, 97, 114, 103]⟩, .slice (some ⟨w3.heap.size + 1, 0, none⟩) 3 3, .string ⟨#[102, 111, 120]⟩, .slice (some ⟨w3.heap.size + 1 + 1, 0, none⟩) 2 2, .string ⟨#[110, 121]⟩] 82); simpa using this
            have qb := hs.blk (by omega) (by simp <;> omega) bb
            have qs : w'.heap.size > w3.heap.size + 1 + 1 + 1 := by have := hs.1; simp at this; omega
            intro k hk
            rcases k with _ | _ | _ | k
            · exact ⟨_, 0, _, _, rfl, by omega, by simp [World.cell?, qb]; rfl, by simp [World.cell?, qb]; rfl, q0⟩
            · exact ⟨_, 0, _, _, rfl, by omega, by simp [World.cell?, qb]; rfl, by simp [World.cell?, qb]; rfl, q1⟩
            · exact ⟨_, 0, _, _, rfl, by omega, by simp [World.cell?, qb]; rfl, by simp [World.cell?, qb]; rfl, q2⟩
            · exfalso; simp at hk; try omega)
          
          obtain ⟨x0, x1, xz, y0, y1, yz⟩ := G2.cells
          have xz0 := xz 0
          have xz1 := xz 1
          have yz0 := yz 0
          have yz1 := yz 1
          clear xz yz
          go_wp2_with fail
          have hz4 : ∀ b, ∀ {off : Nat}, some (⟨w3.heap.size + 1 + 1 + 1, 0, none⟩ : Addr) = some ⟨b, off, none⟩ → w.heap.size ≤ b ∧ b < (((((((w3.alloc (.cells #[.string ⟨#[98, 105, 103]⟩] 9)).alloc (.cells #[.string ⟨#[98, 105, 103]⟩, .string ⟨#[114, 101, 100]⟩, .string ⟨#[102, 111, 120]⟩] 9)).alloc (.cells #[.string ⟨#[110, 101, 119]⟩, .string ⟨#[121, 111, 114, 107]⟩] 9)).alloc (.cells #[.slice (some ⟨w3.heap.size, 0, none⟩) 1 1, .string ⟨#[108, 97, 114, 103]⟩, .slice (some ⟨w3.heap.size + 1, 0, none⟩) 3 3, .string ⟨#[102, 111, 120]⟩, .slice (some ⟨w3.heap.size + 1 + 1, 0, none⟩) 2 2, .string ⟨#[110, 121]⟩] 82)).setCell ⟨w.heap.size + 1, 1, none⟩ (.slice (some ⟨w3.heap.size + 1 + 1 + 1, 0, none⟩) 3 3)).setCell ⟨w.heap.size, 0, none⟩ (.slice (some ⟨w2.heap.size, 0, none⟩) 2 2)).setCell ⟨w.heap.size, 1, none⟩ (.slice (some ⟨w3.heap.size + 1 + 1 + 1, 0, none⟩) 3 3)).heap.size := fun b off e => by
            simp only [Option.some.injEq, Addr.mk.injEq] at e
            have := S3.sz
            have e1 := e.1
            refine ⟨by omega, ?_⟩
            rw [← e1]
            simp <;> omega
          generalize (((((w3.alloc (.cells #[.string ⟨#[98, 105, 103]⟩] 9)).alloc (.cells #[.string ⟨#[98, 105, 103]⟩, .string ⟨#[114, 101, 100]⟩, .string ⟨#[102, 111, 120]⟩] 9)).alloc (.cells #[.string ⟨#[110, 101, 119]⟩, .string ⟨#[121, 111, 114, 107]⟩] 9)).alloc (.cells #[.slice (some ⟨w3.heap.size, 0, none⟩) 1 1, .string ⟨#[108, 97, 114, 103]⟩, .slice (some ⟨w3.heap.size + 1, 0, none⟩) 3 3, .string ⟨#[102, 111, 120]⟩, .slice (some ⟨w3.heap.size + 1 + 1, 0, none⟩) 2 2, .string ⟨#[110, 121]⟩] 82)).setCell ⟨w.heap.size + 1, 1, none⟩ (.slice (some ⟨w3.heap.size + 1 + 1 + 1, 0, none⟩) 3 3)) = w4 at S4 hz4 ⊢
          clear x0 x1 xz0 xz1 y0 y1 yz0 yz1 G2
          obtain ⟨x0, x1, xz, y0, y1, yz⟩ := S4.cells
          have xz0 := xz 0
          have xz1 := xz 1
          have yz0 := yz 0
          have yz1 := yz 1
          clear xz yz
          have HF := Lib.hid S4.fin
          go_wp2
          exact bodyPost_ret (v := .agg #[.slice (some ⟨w2.heap.size, 0, none⟩) 2 2, .slice (some ⟨w3.heap.size + 1 + 1 + 1, 0, none⟩) 3 3]) (by simp [results, Tryd.results83, go_sem, *]) rfl (confG_mk ⟨[⟨#[100, 111, 103]⟩, ⟨#[116, 104, 101]⟩], [syB, syF, syN]⟩ _ _ _ _ (smW_of (by decide)) ⟨by decide, rfl, fun h => (by first | rfl | (cases h)), fun b off e => hz4 b e⟩ HF.out (by omega))
        · skip
          have n3 : (v3 == 0) = false := by rw [beq_eq_false_iff_ne]; exact hv3
          have n4 : (v3 == 1) = false := by rw [beq_eq_false_iff_ne]; exact hv4
          obtain ⟨x0, x1, xz, y0, y1, yz⟩ := S3.cells
          have xz0 := xz 0
          have xz1 := xz 1
          have yz0 := yz 0
          have yz1 := yz 1
          clear xz yz
          have HF := Lib.hid S3.fin
          go_wp2
          exact bodyPost_ret (v := .agg #[.slice (some ⟨w2.heap.size, 0, none⟩) 2 2, .slice none 0 0]) (by simp [results, Tryd.results83, go_sem, *]) rfl (confG_mk ⟨[⟨#[100, 111, 103]⟩, ⟨#[116, 104, 101]⟩], []⟩ _ _ _ _ (smW_of (by decide)) ⟨by decide, rfl, fun h => (by first | rfl | (cases h)), fun b off e => by cases e⟩ HF.out (by omega))
    · have n2 : (v2 == 0) = false := by rw [beq_eq_false_iff_ne]; exact hv2
      go_wp2_with fail
      refine (pick_gen g p2 4 (by omega) (by omega) _ S2.r (by omega)).mono ?_
      rintro e w3 ⟨v3, ⟨rfl, h5, h6⟩, p3, hp3, r3, o3⟩
      have S3 := S2.gen r3 o3
      clear o3 r3 S2
      by_cases hv3 : v3 = 0
      · subst hv3
        have G2 := S3.grow (wj := ((w3.alloc (.cells #[.string ⟨#[110, 101, 119]⟩, .string ⟨#[121, 111, 114, 107]⟩] 9)).alloc (.cells #[.slice (some ⟨w3.heap.size, 0, none⟩) 2 2, .string ⟨#[110, 121]⟩] 82))) (by (repeat' (first | exact Below.refl _ _ | apply Below.alloc | apply Below.setCell | apply Below.drew | apply below_draws)) <;> (first | omega | (simp <;> omega)))
        have S4 := G2.setSy [syN] (some ⟨w3.heap.size + 1, 0, none⟩) 1 (fun w' hs => by
          have hq := S3.sz
          have b0 : (w3.alloc (.cells #[.string ⟨#[110, 101, 119]⟩, .string ⟨#[121, 111, 114, 107]⟩] 9)).heap[w3.heap.size]? = some (.cells #[.string ⟨#[110, 101, 119]⟩, .string ⟨#[121, 111, 114, 107]⟩] 9 (0, 0)) := by have := alloc_at w3 (.cells #[.string ⟨#[110, 101, 119]⟩, .string ⟨#[121, 111, 114, 107]⟩] 9); simpa using this
          have q0 := srcT_blk (L := syN.fr) 2 (hs.blk (by omega) (by simp <;> omega) (alloc_old b0)) rfl
          have bb : ((w3.alloc (.cells #[.string ⟨#[110, 101, 119]⟩, .string ⟨#[121, 111, 114, 107]⟩] 9)).alloc (.cells #[.slice (some ⟨w3.heap.size, 0, none⟩) 2 2, .string ⟨#[110, 121]⟩] 82)).heap[w3.heap.size + 1]? = some (.cells #[.slice (some ⟨w3.heap.size, 0, none⟩) 2 2, .string ⟨#[110, 121]⟩] 82 (0, 0)) := by have := alloc_at (w3.alloc (.cells #[.string ⟨#[110, 101, 119]⟩, .string ⟨#[121, 111, 114, 107]⟩] 9)) (.cells #[.slice (some ⟨w3.heap.size, 0, none⟩) 2 2, .string ⟨#[110, 121]⟩] 82); simpa using this
          have qb := hs.blk (by omega) (by simp <;> omega) bb
          have qs : w'.heap.size > w3.heap.size + 1 := by have := hs.1; simp at this; omega
          intro k hk
          rcases k with _ | k
          · exact ⟨_, 0, _, _, rfl, by omega, by simp [World.cell?, qb]; rfl, by simp [World.cell?, qb]; rfl, q0⟩
          · exfalso; simp at hk; try omega)
        
        obtain ⟨x0, x1, xz, y0, y1, yz⟩ := G2.cells
        have xz0 := xz 0
        have xz1 := xz 1
        have yz0 := yz 0
        have yz1 := yz 1
        clear xz yz
        go_wp2_with fail
        have hz4 : ∀ b, ∀ {off : Nat}, some (⟨w3.heap.size + 1, 0, none⟩ : Addr) = some ⟨b, off, none⟩ → w.heap.size ≤ b ∧ b < (((((w3.alloc (.cells #[.string ⟨#[110, 101, 119]⟩, .string ⟨#[121, 111, 114, 107]⟩] 9)).alloc (.cells #[.slice (some ⟨w3.heap.size, 0, none⟩) 2 2, .string ⟨#[110, 121]⟩] 82)).setCell ⟨w.heap.size + 1, 1, none⟩ (.slice (some ⟨w3.heap.size + 1, 0, none⟩) 1 1)).setCell ⟨w.heap.size, 0, none⟩ (.slice none 0 0)).setCell ⟨w.heap.size, 1, none⟩ (.slice (some ⟨w3.heap.size + 1, 0, none⟩) 1 1)).heap.size := fun b off e => by
          simp only [Option.some.injEq, Addr.mk.injEq] at e
          have := S3.sz
          have e1 := e.1
          refine ⟨by omega, ?_⟩
          rw [← e1]
          simp <;> omega
        generalize (((w3.alloc (.cells #[.string ⟨#[110, 101, 119]⟩, .string ⟨#[121, 111, 114, 107]⟩] 9)).alloc (.cells #[.slice (some ⟨w3.heap.size, 0, none⟩) 2 2, .string ⟨#[110, 121]⟩] 82)).setCell ⟨w.heap.size + 1, 1, none⟩ (.slice (some ⟨w3.heap.size + 1, 0, none⟩) 1 1)) = w4 at S4 hz4 ⊢
        clear x0 x1 xz0 xz1 y0 y1 yz0 yz1 G2
        obtain ⟨x0, x1, xz, y0, y1, yz⟩ := S4.cells
        have xz0 := xz 0
        have xz1 := xz 1
        have yz0 := yz 0
        have yz1 := yz 1
        clear xz yz
        have HF := Lib.hid S4.fin
        go_wp2
        exact bodyPost_ret (v := .agg #[.slice none 0 0, .slice (some ⟨w3.heap.size + 1, 0, none⟩) 1 1]) (by simp [results, Tryd.results83, go_sem, *]) rfl (confG_mk ⟨[], [syN]⟩ _ _ _ _ (smW_of (by decide)) ⟨by decide, rfl, fun h => (by first | rfl | (cases h)), fun b off e => hz4 b e⟩ HF.out (by omega))
      · by_cases hv4 : v3 = 1
        · subst hv4
          have G2 := S3.grow (wj := ((((w3.alloc (.cells #[.string ⟨#[98, 105, 103]⟩] 9)).alloc (.cells #[.string ⟨#[98, 105, 103]⟩, .string ⟨#[114, 101, 100]⟩, .string ⟨#[102, 111, 120]⟩] 9)).alloc (.cells #[.string ⟨#[110, 101, 119]⟩, .string ⟨#[121, 111, 114, 107]⟩] 9)).alloc (.cells #[.slice (some ⟨w3.heap.size, 0, none⟩) 1 1, .string ⟨#[108, 97, 114, 103]⟩, .slice (some ⟨w3.heap.size + 1, 0, none⟩) 3 3, .string ⟨#[102, 111, 120]⟩, .slice (some ⟨w3.heap.size + 1 + 1, 0, none⟩) 2 2, .string ⟨#[110, 121]⟩] 82))) (by (repeat' (first | exact Below.refl _ _ | apply Below.alloc | apply Below.setCell | apply Below.drew | apply below_draws)) <;> (first | omega | (simp <;> omega)))
          have S4 := G2.setSy [syB, syF, syN] (some ⟨w3.heap.size + 1 + 1 + 1, 0, none⟩) 3 (fun w' hs => by
            have hq := S3.sz
            have b0 : (w3.alloc (.cells #[.string ⟨#[98, 105, 103]⟩] 9)).heap[w3.heap.size]? = some (.cells #[.string ⟨#[98, 105, 103]⟩] 9 (0, 0)) := by have := alloc_at w3 (.cells #[.string ⟨#[98, 105, 103]⟩] 9); simpa using this
            have q0 := srcT_blk (L := syB.fr) 1 (hs.blk (by omega) (by simp <;> omega) (alloc_old (alloc_old (alloc_old b0)))) rfl
            have b1 : ((w3.alloc (.cells #[.string ⟨#[98, 105, 103]⟩] 9)).alloc (.cells #[.string ⟨#[98, 105, 103]⟩, .string ⟨#[114, 101, 100]⟩, .string ⟨#[102, 111, 120]⟩] 9)).heap[w3.heap.size + 1]? = some (.cells #[.string ⟨#[98, 105, 103]⟩, .string ⟨#[114, 101, 100]⟩, .string ⟨#[102, 111, 120]⟩] 9 (0, 0)) := by have := alloc_at (w3.alloc (.cells #[.string ⟨#[98, 105, 103]⟩] 9)) (.cells #[.string ⟨#[98, 105, 103]⟩, .string ⟨#[114, 101, 100]⟩, .string ⟨#[102, 111, 120]⟩] 9); simpa using this
            have q1 := srcT_blk (L := syF.fr) 3 (hs.blk (by omega) (by simp <;> omega) (alloc_old (alloc_old b1))) rfl
            have b2 : (((w3.alloc (.cells #[.string ⟨#[98, 105, 103]⟩] 9)).alloc (.cells #[.string ⟨#[98, 105, 103]⟩, .string ⟨#[114, 101, 100]⟩, .string ⟨#[102, 111, 120]⟩] 9)).alloc (.cells #[.string ⟨#[110, 101, 119]⟩, .string ⟨#[121, 111, 114, 107]⟩] 9)).heap[w3.heap.size + 1 + 1]? = some (.cells #[.string ⟨#[110, 101, 119]⟩, .string ⟨#[121, 111, 114, 107]⟩] 9 (0, 0)) := by have := alloc_at ((w3.alloc (.cells #[.string ⟨#[98, 105, 103]⟩] 9)).alloc (.cells #[.string ⟨#[98, 105, 103]⟩, .string ⟨#[114, 101, 100]⟩, .string ⟨#[102, 111, 120]⟩] 9)) (.cells #[.string ⟨#[110, 101, 119]⟩, .string ⟨#[121, 111, 114, 107]⟩] 9); simpa using this
            have q2 := srcT_blk (L := syN.fr) 2 (hs.blk (by omega) (by simp <;> omega) (alloc_old b2)) rfl
            have bb : ((((w3.alloc (.cells #[.string ⟨#[98, 105, 103]⟩] 9)).alloc (.cells #[.string ⟨#[98, 105, 103]⟩, .string ⟨#[114, 101, 100]⟩, .string ⟨#[102, 111, 120]⟩] 9)).alloc (.cells #[.string ⟨#[110, 101, 119]⟩, .string ⟨#[121, 111, 114, 107]⟩] 9)).alloc (.cells #[.slice (some ⟨w3.heap.size, 0, none⟩) 1 1, .string ⟨#[108, 97, 114, 103]⟩, .slice (some ⟨w3.heap.size + 1, 0, none⟩) 3 3, .string ⟨#[102, 111, 120]⟩, .slice (some ⟨w3.heap.size + 1 + 1, 0, none⟩) 2 2, .string ⟨#[110, 121]⟩] 82)).heap[w3.heap.size + 1 + 1 + 1]? = some (.cells #[.slice (some ⟨w3.heap.size, 0, none⟩) 1 1, .string ⟨#[108, 97, 114, 103]⟩, .slice (some ⟨w3.heap.size + 1, 0, none⟩) 3 3, .string ⟨#[102, 111, 120]⟩, .slice (some ⟨w3.heap.size + 1 + 1, 0, none⟩) 2 2, .string ⟨#[110, 121]⟩] 82 (0, 0)) := by have := alloc_at (((w3.alloc (.cells #[.string ⟨#[98, 105, 103]⟩] 9)).alloc (.cells #[.string ⟨#[98, 105, 103]⟩, .string ⟨#[114, 101, 100]⟩, .string ⟨#[102, 111, 120]⟩] 9)).alloc (.cells #[.string ⟨#[110, 101, 119]⟩, .string ⟨#[121, 111, 114, 107]⟩] 9)) (.cells #[.slice (some ⟨w3.heap.size, 0, none⟩) 1 1, .string ⟨#[108, 97, 114, 103]⟩, .slice (some ⟨w3.heap.size + 1, 0, none⟩) 3 3, .string ⟨#[102, 111, 120]⟩, .slice (some ⟨w3.heap.size + 1 + 1, 0, none⟩) 2 2, .string ⟨#[110, 121]⟩] 82); simpa using this
            have qb := hs.blk (by omega) (by simp <;> omega) bb
            have qs : w'.heap.size > w3.heap.size + 1 + 1 + 1 := by have := hs.1; simp at this; omega
            intro k hk
            rcases k with _ | _ | _ | k
            · exact ⟨_, 0, _, _, rfl, by omega, by simp [World.cell?, qb]; rfl, by simp [World.cell?, qb]; rfl, q0⟩
            · exact ⟨_, 0, _, _, rfl, by omega, by simp [World.cell?, qb]; rfl, by simp [World.cell?, qb]; rfl, q1⟩
            · exact ⟨_, 0, _, _, rfl, by omega, by simp [World.cell?, qb]; rfl, by simp [World.cell?, qb]; rfl, q2⟩
            · exfalso; simp at hk; try omega)
          
          obtain ⟨x0, x1, xz, y0, y1, yz⟩ := G2.cells
          have xz0 := xz 0
          have xz1 := xz 1
          have yz0 := yz 0
          have yz1 := yz 1
          clear xz yz
          go_wp2_with fail
          have hz4 : ∀ b, ∀ {off : Nat}, some (⟨w3.heap.size + 1 + 1 + 1, 0, none⟩ : Addr) = some ⟨b, off, none⟩ → w.heap.size ≤ b ∧ b < (((((((w3.alloc (.cells #[.string ⟨#[98, 105, 103]⟩] 9)).alloc (.cells #[.string ⟨#[98, 105, 103]⟩, .string ⟨#[114, 101, 100]⟩, .string ⟨#[102, 111, 120]⟩] 9)).alloc (.cells #[.string ⟨#[110, 101, 119]⟩, .string ⟨#[121, 111, 114, 107]⟩] 9)).alloc (.cells #[.slice (some ⟨w3.heap.size, 0, none⟩) 1 1, .string ⟨#[108, 97, 114, 103]⟩, .slice (some ⟨w3.heap.size + 1, 0, none⟩) 3 3, .string ⟨#[102, 111, 120]⟩, .slice (some ⟨w3.heap.size + 1 + 1, 0, none⟩) 2 2, .string ⟨#[110, 121]⟩] 82)).setCell ⟨w.heap.size + 1, 1, none⟩ (.slice (some ⟨w3.heap.size + 1 + 1 + 1, 0, none⟩) 3 3)).setCell ⟨w.heap.size, 0, none⟩ (.slice none 0 0)).setCell ⟨w.heap.size, 1, none⟩ (.slice (some ⟨w3.heap.size + 1 + 1 + 1, 0, none⟩) 3 3)).heap.size := fun b off e => by
            simp only [Option.some.injEq, Addr.mk.injEq] at e
            have := S3.sz
            have e1 := e.1
            refine ⟨by omega, ?_⟩
            rw [← e1]
            simp <;> omega
          generalize (((((w3.alloc (.cells #[.string ⟨#[98, 105, 103]⟩] 9)).alloc (.cells #[.string ⟨#[98, 105, 103]⟩, .string ⟨#[114, 101, 100]⟩, .string ⟨#[102, 111, 120]⟩] 9)).alloc (.cells #[.string ⟨#[110, 101, 119]⟩, .string ⟨#[121, 111, 114, 107]⟩] 9)).alloc (.cells #[.slice (some ⟨w3.heap.size, 0, none⟩) 1 1, .string ⟨#[108, 97, 114, 103]⟩, .slice (some ⟨w3.heap.size + 1, 0, none⟩) 3 3, .string ⟨#[102, 111, 120]⟩, .slice (some ⟨w3.heap.size + 1 + 1, 0, none⟩) 2 2, .string ⟨#[110, 121]⟩] 82)).setCell ⟨w.heap.size + 1, 1, none⟩ (.slice (some ⟨w3.heap.size + 1 + 1 + 1, 0, none⟩) 3 3)) = w4 at S4 hz4 ⊢
          clear x0 x1 xz0 xz1 y0 y1 yz0 yz1 G2
          obtain ⟨x0, x1, xz, y0, y1, yz⟩ := S4.cells
          have xz0 := xz 0
          have xz1 := xz 1
          have yz0 := yz 0
          have yz1 := yz 1
          clear xz yz
          have HF := Lib.hid S4.fin
          go_wp2
          exact bodyPost_ret (v := .agg #[.slice none 0 0, .slice (some ⟨w3.heap.size + 1 + 1 + 1, 0, none⟩) 3 3]) (by simp [results, Tryd.results83, go_sem, *]) rfl (confG_mk ⟨[], [syB, syF, syN]⟩ _ _ _ _ (smW_of (by decide)) ⟨by decide, rfl, fun h => (by first | rfl | (cases h)), fun b off e => hz4 b e⟩ HF.out (by omega))
        · skip
          have n3 : (v3 == 0) = false := by rw [beq_eq_false_iff_ne]; exact hv3
          have n4 : (v3 == 1) = false := by rw [beq_eq_false_iff_ne]; exact hv4
          obtain ⟨x0, x1, xz, y0, y1, yz⟩ := S3.cells
          have xz0 := xz 0
          have xz1 := xz 1
          have yz0 := yz 0
          have yz1 := yz 1
          clear xz yz
          have HF := Lib.hid S3.fin
          go_wp2
          exact bodyPost_ret (v := .agg #[.slice none 0 0, .slice none 0 0]) (by simp [results, Tryd.results83, go_sem, *]) rfl (confG_mk ⟨[], []⟩ _ _ _ _ (smW_of (by decide)) ⟨by decide, rfl, fun h => (by first | rfl | (cases h)), fun b off e => by cases e⟩ HF.out (by omega))
end Go.Proofs.YtaobgliimbmemaaDoor
