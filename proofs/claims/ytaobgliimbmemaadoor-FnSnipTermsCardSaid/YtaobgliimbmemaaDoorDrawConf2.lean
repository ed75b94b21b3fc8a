/-
  What is drawn of how words are read: contract of l30AnyConf.
-/
import Derived.Test.YtaobgliimbmemaaDoorDrawConf
import Derived.Test.YtaobgliimbmemaaDoorSpecTerms
import Derived.ArgAppend
namespace Go.Proofs.YtaobgliimbmemaaDoor
open Go.RowKit Go.Sort
set_option linter.unusedVariables false

/-- the header of a rule. -/
structure HdZ where
  A : Option Addr
  c : Nat
  y : SynD
def encZ (h : HdZ) : List Value := [.slice h.A h.y.fr.length h.c, .string h.y.tgt]
theorem encZ_ok : Enc encZ 2 := ⟨fun _ => rfl, fun a u hu => by simp [encZ] at hu; rcases hu with rfl | rfl <;> rfl⟩
theorem rdY_list {w : World} {b off : Nat} {Ys : List SynD} (h : RdY w (some ⟨b, off, none⟩) Ys) : ∃ hz : List HdZ, hz.map (·.y) = Ys ∧ ∀ k (hk : k < hz.length), w.cell? ⟨b, off + k * 2, none⟩ = some (.slice hz[k].A hz[k].y.fr.length hz[k].c) ∧ w.cell? ⟨b, off + k * 2 + 1, none⟩ = some (.string hz[k].y.tgt) := by
  suffices hs : ∀ n, n ≤ Ys.length → ∃ hz : List HdZ, hz.map (·.y) = Ys.take n ∧ ∀ k (hk : k < hz.length), w.cell? ⟨b, off + k * 2, none⟩ = some (.slice hz[k].A hz[k].y.fr.length hz[k].c) ∧ w.cell? ⟨b, off + k * 2 + 1, none⟩ = some (.string hz[k].y.tgt) by
    obtain ⟨hz, h1, h2⟩ := hs Ys.length (Nat.le_refl _)
    exact ⟨hz, by rw [h1, List.take_length], h2⟩
  intro n
  induction n with
  | zero => intro _; exact ⟨[], rfl, fun k hk => by simp at hk⟩
  | succ n ih =>
    intro hn
    obtain ⟨hz, h1, h2⟩ := ih (by omega)
    have hl : hz.length = n := by have := congrArg List.length h1; rw [List.length_map, List.length_take] at this; omega
    obtain ⟨A1, c1, _, x0, x1, _⟩ := h.all (show n < Ys.length by omega)
    refine ⟨hz ++ [⟨A1, c1, Ys[n]⟩], ?_, fun k hk => ?_⟩
    · rw [List.map_append, h1, ← List.take_append_getElem (show n < Ys.length by omega)]; rfl
    · rcases Nat.lt_or_ge k hz.length with h3 | h3
      · rw [List.getElem_append_left h3]; exact h2 k h3
      · have h4 : k = n := by simp at hk; omega
        subst h4
        have e : (hz ++ [⟨A1, c1, Ys[k]⟩])[k]'hk = ⟨A1, c1, Ys[k]⟩ := by simp [← hl]
        rw [e]; exact ⟨x0, x1⟩
/-- a rule put behind the others. -/
theorem rdY_own {w : World} {base g c n : Nat} {hz : List HdZ} (hn : n = hz.length) (h : w.ownsRow base 82 2 (.slice (some ⟨g, 0, none⟩) n c) n (hz.flatMap encZ)) (hf : ∀ m ∈ hz, SrcT w m.A m.c m.y.fr) : RdY w (some ⟨g, 0, none⟩) (hz.map (·.y)) := fun k hk => by
  subst hn
  have hk' : k < hz.length := by simpa using hk
  obtain ⟨b, off, e, hb, hc⟩ := (Rds.own h).2 (by omega)
  simp only [Option.some.injEq, Addr.mk.injEq, and_true] at e
  obtain ⟨rfl, rfl⟩ := e
  have hg := List.getElem?_eq_getElem hk'
  refine ⟨g, 0, hz[k].A, hz[k].c, rfl, hb, ?_, ?_, ?_⟩
  · have := hc (k * 2 + 0) _ (by rw [flat_get (enc := encZ) (F := 2) (fun _ => rfl) hg (by omega)]; rfl)
    rw [List.getElem_map]; simpa using this
  · have := hc (k * 2 + 1) _ (by rw [flat_get (enc := encZ) (F := 2) (fun _ => rfl) hg (by omega)]; rfl)
    rw [List.getElem_map]; simpa using this
  · rw [List.getElem_map]; exact hf hz[k] (List.getElem_mem _)


/-- the blocks from lo up tgt hi, but for q, are the same. -/
def SameX (lo q hi : Nat) (w w' : World) : Prop := hi ≤ w'.heap.size ∧ ∀ k, lo ≤ k → k < hi → k ≠ q → w'.heap[k]? = w.heap[k]?
theorem SameX.trans {lo q hi hi' : Nat} {a b c : World} (h : SameX lo q hi a b) (k : SameX lo q hi' b c) (hh : hi ≤ hi') : SameX lo q hi a c := ⟨Nat.le_trans hh k.1, fun i h1 h2 h3 => (k.2 i h1 (by omega) h3).trans (h.2 i h1 h2 h3)⟩
theorem SameX.outer {lo q g : Nat} {w w' : World} (h : Outer w.heap.size g w w') (hg : g < lo) : SameX lo q w.heap.size w w' := ⟨h.2.1, fun k h1 h2 _ => h.2.2 k h2 (by omega)⟩
theorem SameX.setQ {lo q j : Nat} (w : World) (u : Value) : SameX lo q w.heap.size w (w.setCell ⟨q, j, none⟩ u) := ⟨by simp, fun k h1 h2 h3 => heap_setCell_other w ⟨q, j, none⟩ k u (by simp; omega)⟩
theorem SameX.setR {lo q b j : Nat} (w : World) (u : Value) (hb : b < lo) : SameX lo q w.heap.size w (w.setCell ⟨b, j, none⟩ u) := ⟨by simp, fun k h1 h2 h3 => heap_setCell_other w ⟨b, j, none⟩ k u (by simp; omega)⟩
theorem SameX.same {lo q hi : Nat} {w w' : World} (h : SameX lo q hi w w') (hq : q < lo ∨ hi ≤ q) : Same lo hi w w' := ⟨h.1, fun k h1 h2 => h.2 k h1 h2 (by omega)⟩
theorem SameX.of {lo q hi : Nat} {w w' : World} (h : Same lo hi w w') : SameX lo q hi w w' := ⟨h.1, fun k h1 h2 _ => h.2 k h1 h2⟩
theorem SameX.sub {lo q hi lo' hi' : Nat} {w w' : World} (h : SameX lo q hi w w') (h1 : lo ≤ lo') (h2 : hi' ≤ hi) : SameX lo' q hi' w w' := ⟨by have := h.1; omega, fun k k1 k2 k3 => h.2 k (by omega) (by omega) k3⟩
theorem SameX.blk {lo q hi b : Nat} {w w' : World} {o : Obj} (h : SameX lo q hi w w') (h1 : lo ≤ b) (h2 : b < hi) (h3 : b ≠ q) (hb : w.heap[b]? = some o) : w'.heap[b]? = some o := (h.2 b h1 h2 h3).trans hb
/-- a Conf that is being made: its variable in block q, the result's in block b. -/
structure CT (w : World) (g : Nat) (wi : World) (p q : Nat) (d : ConfD) (A1 : Option Addr) (c1 : Nat) (A2 : Option Addr) (c2 : Nat) : Prop where
  r : Rd wi g p
  o : Outer w.heap.size g w wi
  g0 : g < w.heap.size
  q0 : w.heap.size < q
  sz : q < wi.heap.size
  rb : wi.heap[w.heap.size]? = some (.cells #[.slice none 0 0, .slice none 0 0] 44 (0, 0))
  cb : wi.heap[q]? = some (.cells #[.slice A1 d.st.length c1, .slice A2 d.sy.length c2] 44 (0, 0))
  k : ∀ w', SameX (w.heap.size + 1) q wi.heap.size wi w' → HasC w' d A1 c1 A2
section
variable {w wi wj : World} {g p p' q : Nat} {d : ConfD} {A1 A2 : Option Addr} {c1 c2 : Nat}
theorem CT.gen (h : CT w g wi p q d A1 c1 A2 c2) (r : Rd wj g p') (o : Outer wi.heap.size g wi wj) : CT w g wj p' q d A1 c1 A2 c2 :=
  ⟨r, h.o.trans (o.mono (by have := h.sz; have := h.q0; omega)), h.g0, h.q0, Nat.lt_of_lt_of_le h.sz o.2.1, (o.2.2 _ (by have := h.sz; have := h.q0; omega) (by have := h.g0; omega)).trans h.rb, (o.2.2 _ h.sz (by have := h.g0; have := h.q0; omega)).trans h.cb,
   fun w' hs => h.k w' (SameX.trans (SameX.outer o (by have := h.g0; omega)) hs o.2.1)⟩
theorem CT.grow (h : CT w g wi p q d A1 c1 A2 c2) (o : Below wi.heap.size wi wj) : CT w g wj p q d A1 c1 A2 c2 :=
  h.gen (h.r.below (o.mono (by have := h.r.lt; omega))) (Outer.of o)
theorem CT.setSt (h : CT w g wi p q d A1 c1 A2 c2) (L : List ByteArray) (A : Option Addr) (c : Nat) (hk : ∀ w', SameX (w.heap.size + 1) q wi.heap.size wi w' → SrcT w' A c L) :
    CT w g (wi.setCell ⟨q, 0, none⟩ (.slice A L.length c)) p q ⟨L, d.sy⟩ A c A2 c2 := by
  have hg := h.g0
  have hsz := h.sz
  have hq := h.q0
  refine ⟨rd_set h.r (by omega) _, h.o.trans (Outer.of ((Below.refl _ wi).setCell (p := ⟨q, 0, none⟩) (by show _ ≤ q; omega) _)), hg, hq, by simpa using hsz, ?_, ?_, fun w' hs => ?_⟩
  · exact (heap_setCell_other wi ⟨q, 0, none⟩ w.heap.size _ (by simp; omega)).trans h.rb
  · exact heap_setCell_same wi q 0 _ _ (.slice A L.length c) h.cb
  · have hs2 : SameX (w.heap.size + 1) q wi.heap.size wi w' := SameX.trans (SameX.setQ wi _) (hi' := wi.heap.size) (by simpa using hs) (Nat.le_refl _)
    exact ⟨hk w' hs2, (h.k w' hs2).sy⟩
theorem CT.setSy (h : CT w g wi p q d A1 c1 A2 c2) (Y : List SynD) (A : Option Addr) (c : Nat) (hk : ∀ w', SameX (w.heap.size + 1) q wi.heap.size wi w' → RdY w' A Y) :
    CT w g (wi.setCell ⟨q, 1, none⟩ (.slice A Y.length c)) p q ⟨d.st, Y⟩ A1 c1 A c := by
  have hg := h.g0
  have hsz := h.sz
  have hq := h.q0
  refine ⟨rd_set h.r (by omega) _, h.o.trans (Outer.of ((Below.refl _ wi).setCell (p := ⟨q, 1, none⟩) (by show _ ≤ q; omega) _)), hg, hq, by simpa using hsz, ?_, ?_, fun w' hs => ?_⟩
  · exact (heap_setCell_other wi ⟨q, 1, none⟩ w.heap.size _ (by simp; omega)).trans h.rb
  · exact heap_setCell_same wi q 1 _ _ (.slice A Y.length c) h.cb
  · have hs2 : SameX (w.heap.size + 1) q wi.heap.size wi w' := SameX.trans (SameX.setQ wi _) (hi' := wi.heap.size) (by simpa using hs) (Nat.le_refl _)
    exact ⟨(h.k w' hs2).st, hk w' hs2⟩
theorem CT.fin (h : CT w g wi p q d A1 c1 A2 c2) :
    KeptC w ((wi.setCell ⟨w.heap.size, 0, none⟩ (.slice A1 d.st.length c1)).setCell ⟨w.heap.size, 1, none⟩ (.slice A2 d.sy.length c2)) d A1 c1 A2 ∧ Rd ((wi.setCell ⟨w.heap.size, 0, none⟩ (.slice A1 d.st.length c1)).setCell ⟨w.heap.size, 1, none⟩ (.slice A2 d.sy.length c2)) g p ∧ Outer w.heap.size g w ((wi.setCell ⟨w.heap.size, 0, none⟩ (.slice A1 d.st.length c1)).setCell ⟨w.heap.size, 1, none⟩ (.slice A2 d.sy.length c2)) := by
  have hg := h.g0
  have hsz := h.sz
  have hq := h.q0
  refine ⟨fun w'' ho => h.k w'' ?_, rd_set (rd_set h.r hg _) hg _, h.o.trans (Outer.of (((Below.refl _ wi).setCell (p := ⟨w.heap.size, 0, none⟩) (Nat.le_refl _) _).setCell (p := ⟨w.heap.size, 1, none⟩) (Nat.le_refl _) _))⟩
  have h1 : SameX (w.heap.size + 1) q wi.heap.size wi ((wi.setCell ⟨w.heap.size, 0, none⟩ (.slice A1 d.st.length c1)).setCell ⟨w.heap.size, 1, none⟩ (.slice A2 d.sy.length c2)) :=
    SameX.trans (SameX.setR (lo := w.heap.size + 1) (q := q) (b := w.heap.size) (j := 0) wi (.slice A1 d.st.length c1) (by omega)) (hi' := wi.heap.size) (by have := SameX.setR (lo := w.heap.size + 1) (q := q) (b := w.heap.size) (j := 1) (wi.setCell ⟨w.heap.size, 0, none⟩ (.slice A1 d.st.length c1)) (.slice A2 d.sy.length c2) (by omega); simpa using this) (Nat.le_refl _)
  exact SameX.trans h1 (SameX.of (ho.lo (by omega))) (by simp)
theorem CT.cells (h : CT w g wi p q d A1 c1 A2 c2) :
    wi.cell? ⟨q, 0, none⟩ = some (.slice A1 d.st.length c1) ∧ wi.cell? ⟨q, 1, none⟩ = some (.slice A2 d.sy.length c2) ∧ (∀ j, wi.frozen? ⟨q, j, none⟩ = false) ∧
    wi.cell? ⟨w.heap.size, 0, none⟩ = some (.slice none 0 0) ∧ wi.cell? ⟨w.heap.size, 1, none⟩ = some (.slice none 0 0) ∧ (∀ j, wi.frozen? ⟨w.heap.size, j, none⟩ = false) := by
  have hc := h.cb
  have hr := h.rb
  exact ⟨by simp [World.cell?, hc], by simp [World.cell?, hc], fun j => by simp [World.frozen?, hc], by simp [World.cell?, hr], by simp [World.cell?, hr], fun j => by simp [World.frozen?, hr]⟩
/-- a rule is put behind the others. -/
theorem CT.heads (h : CT w g wi p q d A1 c1 A2 c2) (hn : d.sy = [] → A2 = none) (hb : ∀ b off, A2 = some ⟨b, off, none⟩ → w.heap.size + 1 ≤ b ∧ b < wi.heap.size ∧ b ≠ q) : ∃ hz : List HdZ, hz.map (·.y) = d.sy ∧ (∀ b, A2 = some b → ∀ j u, (hz.flatMap encZ)[j]? = some u → wi.cell? (b.add j) = some u) ∧ ∀ w', SameX (w.heap.size + 1) q wi.heap.size wi w' → ∀ m ∈ hz, SrcT w' m.A m.c m.y.fr := by
  have h0 := (h.k wi ⟨Nat.le_refl _, fun _ _ _ _ => rfl⟩).sy
  cases hsy : d.sy with
  | nil => exact ⟨[], rfl, fun b _ j u hu => by simp at hu, fun w' _ m hm => by simp at hm⟩
  | cons y0 r =>
    have hl : 0 < d.sy.length := by rw [hsy]; simp
    obtain ⟨b, off, _, _, rfl, hbb, _⟩ := h0 0 hl
    obtain ⟨hb1, hb2, hb3⟩ := hb b off rfl
    obtain ⟨hz, h1, h2⟩ := rdY_list h0
    rw [← hsy]
    have hlz : hz.length = d.sy.length := by rw [← h1, List.length_map]
    refine ⟨hz, h1, fun b' e j u hu => ?_, fun w' hs m hm => ?_⟩
    · simp only [Option.some.injEq] at e
      subst e
      rw [addr_add]
      have hj : j < (hz.flatMap encZ).length := (List.getElem?_eq_some_iff.1 hu).1
      rw [encZ_ok.flat] at hj
      have hk : j / 2 < hz.length := by omega
      have hg := flat_get (enc := encZ) (F := 2) (fun _ => rfl) (List.getElem?_eq_getElem hk) (show j % 2 < 2 by omega)
      rw [show j / 2 * 2 + j % 2 = j by omega, hu] at hg
      obtain ⟨x0, x1⟩ := h2 (j / 2) hk
      rcases (show j % 2 = 0 ∨ j % 2 = 1 by omega) with hm | hm
      · rw [hm] at hg
        have e2 : u = .slice hz[j / 2].A hz[j / 2].y.fr.length hz[j / 2].c := by simpa [encZ] using hg
        rw [e2, ← x0]; congr 2; omega
      · rw [hm] at hg
        have e2 : u = .string hz[j / 2].y.tgt := by simpa [encZ] using hg
        rw [e2, ← x1]; congr 2; omega
    · obtain ⟨k, hk, rfl⟩ := List.mem_iff_getElem.1 hm
      obtain ⟨x0, _⟩ := h2 k hk
      obtain ⟨A1', c1', _, y0', _, ys⟩ := (h.k w' hs).sy.all (show k < d.sy.length by omega)
      have hc : w'.cell? ⟨b, off + k * 2, none⟩ = wi.cell? ⟨b, off + k * 2, none⟩ := World.cell?_of_block (w := wi) (a := ⟨b, off + k * 2, none⟩) (hs.2 b hb1 hb2 hb3)
      rw [hc, x0] at y0'
      simp only [Option.some.injEq, Value.slice.injEq] at y0'
      have ey : hz[k].y = d.sy[k]'(by omega) := by
        have h5 : (hz.map (·.y))[k]? = d.sy[k]? := by rw [h1]
        rw [List.getElem?_map, List.getElem?_eq_getElem hk, List.getElem?_eq_getElem (by omega)] at h5
        exact Option.some.inj h5
      rw [y0'.1, y0'.2.2, ey]
      exact ys
end
theorem own_at {w w' : World} {base e size n g c : Nat} {xs : List Value} (h : w.ownsRow base e size (.slice (some ⟨g, 0, none⟩) n c) n xs) (hb : w'.heap[g]? = w.heap[g]?) : w'.ownsRow base e size (.slice (some ⟨g, 0, none⟩) n c) n xs := by
  rcases h.2 with ⟨h', h0⟩ | ⟨g', cap, cur, hv, hg, hh, hnc, hcm, hcs, htake⟩
  · exact ⟨h.1, .inl ⟨h', h0⟩⟩
  · simp only [Value.slice.injEq, Option.some.injEq, Addr.mk.injEq, and_true, true_and] at hv
    obtain ⟨rfl, rfl⟩ := hv
    exact ⟨h.1, .inr ⟨g, c, cur, rfl, hg, hb.trans hh, hnc, hcm, hcs, htake⟩⟩
theorem smW_add {d : ConfD} {y : SynD} (h : SmW d) (hl : d.sy.length ≤ 3) (hy : smWB ⟨[], [y]⟩ = true) : SmW ⟨d.st, d.sy ++ [y]⟩ := by
  have h2 := (smW_of hy).2.2.2
  refine ⟨h.1, h.2.1, by simp; omega, fun z hz => ?_⟩
  rcases List.mem_append.1 hz with h3 | h3
  · exact h.2.2.2 z h3
  · exact h2 z h3
/-- what l30AnyConf hands back. -/
def ConfA (w : World) (g p k : Nat) (e : Ending) (w' : World) : Prop := ∃ (d : ConfD) (A1 : Option Addr) (c1 : Nat) (A2 : Option Addr) (c2 : Nat), (e = .returned (.agg #[.slice A1 d.st.length c1, .slice A2 d.sy.length c2]) ∧ SmW d ∧ KeptC w w' d A1 c1 A2) ∧ Gen w w' g p k
theorem confA_mk {w w' : World} {g p p' k : Nat} (d : ConfD) (A1 : Option Addr) (c1 : Nat) (A2 : Option Addr) (c2 : Nat) (hs : SmW d) (hf : KeptC w w' d A1 c1 A2 ∧ Rd w' g p' ∧ Outer w.heap.size g w w') (hp : p' ≤ p + k) :
    ConfA w g p k (.returned (.agg #[.slice A1 d.st.length c1, .slice A2 d.sy.length c2])) w' := ⟨d, A1, c1, A2, c2, ⟨rfl, hs, hf.1⟩, p', hp, hf.2.1, hf.2.2⟩

theorem confA_mk2 {w w' : World} {g p p' k : Nat} (d : ConfD) (A1 : Option Addr) (c1 : Nat) (A2 : Option Addr) (c2 : Nat) (n : Nat) (hn : n = d.sy.length) (hs : SmW d) (hf : KeptC w w' d A1 c1 A2 ∧ Rd w' g p' ∧ Outer w.heap.size g w w') (hp : p' ≤ p + k) :
    ConfA w g p k (.returned (.agg #[.slice A1 d.st.length c1, .slice A2 n c2])) w' := by subst hn; exact ⟨d, A1, c1, A2, c2, ⟨rfl, hs, hf.1⟩, p', hp, hf.2.1, hf.2.2⟩
set_option maxRecDepth 4000 in
set_option maxHeartbeats 3200000 in
theorem l30AnyConf_gen (g p : Nat) (w : World) (hr : Rd w g p) (hp : p + 20 < 1000000) :
    Calls Tryd.prog 52 #[.pointer (some ⟨g, 0, none⟩)] w (ConfA w g p 4) := by
  obtain ⟨i0, hi, hz0, hz1, hz2⟩ := info_partsZ infoSyn
  have hg := hr.lt
  have r0 : Rd (w.alloc (.cells #[.slice none 0 0, .slice none 0 0] 44)) g p := hr.below (by (repeat' (first | exact Below.refl _ _ | apply Below.alloc | apply Below.setCell | apply Below.drew | apply below_draws)) <;> (first | omega | (simp <;> omega)))
  have b0 : Below w.heap.size w (w.alloc (.cells #[.slice none 0 0, .slice none 0 0] 44)) := by (repeat' (first | exact Below.refl _ _ | apply Below.alloc | apply Below.setCell | apply Below.drew | apply below_draws)) <;> (first | omega | (simp <;> omega))
  have a0 := alloc_at w (.cells #[.slice none 0 0, .slice none 0 0] 44)
  have s0 : Hid ((w.alloc (.cells #[.slice none 0 0, .slice none 0 0] 44)).heap.size = w.heap.size + 1) := by show _ = _; simp
  go_enter Tryd.func52, Tryd.ntmps52
  go_wp2_with fail
  generalize (w.alloc (.cells #[.slice none 0 0, .slice none 0 0] 44)) = W0 at r0 b0 a0 s0 ⊢
  refine (l30Conf_gen g p W0 r0 (by omega)).mono ?_
  rintro e w1 ⟨d, A1, c1, A2, c2, ⟨rfl, hsm, ⟨hx1, rfl, hx3, hx4⟩, hk⟩, p1, hp1, r1, o1⟩
  have hs0 : W0.heap.size ≤ w.heap.size + 1 ∧ w.heap.size + 1 ≤ W0.heap.size := by have := s0.out; omega
  have o1s := o1.2.1
  have W2b : Below w1.heap.size w1 (w1.alloc (.cells #[.slice A1 d.st.length c1, .slice A2 d.sy.length d.sy.length] 44)) := by (repeat' (first | exact Below.refl _ _ | apply Below.alloc | apply Below.setCell | apply Below.drew | apply below_draws)) <;> (first | omega | (simp <;> omega))
  have hT : CT w g (w1.alloc (.cells #[.slice A1 d.st.length c1, .slice A2 d.sy.length d.sy.length] 44)) p1 w1.heap.size d A1 c1 A2 d.sy.length := by
    refine ⟨r1.below (by (repeat' (first | exact Below.refl _ _ | apply Below.alloc | apply Below.setCell | apply Below.drew | apply below_draws)) <;> (first | omega | (simp <;> omega))), (Outer.of b0).trans ((o1.mono (by omega)).trans (Outer.of (W2b.mono (by omega)))), hg, by omega, by simp, alloc_old ((o1.2.2 _ (by omega) (by omega)).trans a0), alloc_at _ _, fun w' hs => hk w' ?_⟩
    have h1 : Same W0.heap.size w1.heap.size w1 (w1.alloc (.cells #[.slice A1 d.st.length c1, .slice A2 d.sy.length d.sy.length] 44)) := Same.of W2b
    have h2 := (hs.sub (lo' := W0.heap.size) (hi' := w1.heap.size) (by omega) (by simp)).same (.inr (Nat.le_refl _))
    exact h1.trans h2 (Nat.le_refl _)
  have hX : ∀ b off, A2 = some ⟨b, off, none⟩ → w.heap.size + 1 ≤ b ∧ b < w1.heap.size := fun b off e => by have := hx4 b off e; omega
  clear hk o1 r1 hx4 a0 r0 b0 s0
  go_wp2_with fail
  generalize (w1.alloc (.cells #[.slice A1 d.st.length c1, .slice A2 d.sy.length d.sy.length] 44)) = W2 at hT W2b ⊢
  refine (pick_gen g p1 14 (by omega) (by omega) _ hT.r (by omega)).mono ?_
  rintro e w3 ⟨v, ⟨rfl, h1, h2⟩, p2, hp2, r2, o2⟩
  have hT3 := hT.gen r2 o2
  have hXs : ∀ b off, A2 = some ⟨b, off, none⟩ → w.heap.size + 1 ≤ b ∧ b < w3.heap.size ∧ b ≠ w1.heap.size := fun b off e => by have := hX b off e; have := hT3.sz; omega
  obtain ⟨hz, hzy, hzc, hzs⟩ := hT3.heads hx3 hXs
  have hzl : Hid (hz.length = d.sy.length) := by show _ = _; rw [← hzy, List.length_map]
  have HZS := Lib.hid hzs
  have HZY := Lib.hid hzy
  clear hT o2 r2 W2b hX hXs hzs hzy
  generalize hq : w1.heap.size = q at hT3 HZS ⊢
  clear hq
  have hq0 := hT3.q0
  have hqs := hT3.sz
  have HSM := Lib.hid hsm
  clear hsm
  by_cases hv0 : v = 0
  · subst hv0
    have G1 := hT3.grow (wj := (w3.alloc (.cells #[.string ⟨#[116, 104, 101]⟩, .string ⟨#[97]⟩] 9))) (by (repeat' (first | exact Below.refl _ _ | apply Below.alloc | apply Below.setCell | apply Below.drew | apply below_draws)) <;> (first | omega | (simp <;> omega)))
    have T1 := G1.setSt [⟨#[116, 104, 101]⟩, ⟨#[97]⟩] (some ⟨w3.heap.size, 0, none⟩) 2 (fun w' hs => srcT_blk _ (hs.blk (by omega) (by simp) (by omega) (alloc_at _ _)) rfl)
    obtain ⟨x0, x1, xz, y0, y1, yz⟩ := G1.cells
    have xz0 := xz 0
    have xz1 := xz 1
    have yz0 := yz 0
    have yz1 := yz 1
    clear xz yz
    obtain ⟨x0t, x1t, xzt, y0t, y1t, yzt⟩ := T1.cells
    have xz0t := xzt 0
    have xz1t := xzt 1
    have yz0t := yzt 0
    have yz1t := yzt 1
    clear xzt yzt
    have HF := Lib.hid T1.fin
    clear T1 G1 hqs
    go_wp2
    exact bodyPost_ret (v := .agg #[.slice (some ⟨w3.heap.size, 0, none⟩) 2 2, .slice A2 d.sy.length d.sy.length]) (by simp [results, Tryd.results52, go_sem, *]) rfl (confA_mk ⟨[⟨#[116, 104, 101]⟩, ⟨#[97]⟩], d.sy⟩ _ _ _ _ (⟨by show 2 ≤ 2; omega, fun s hs => by simp at hs; rcases hs with rfl | rfl <;> decide, HSM.out.2.2.1, HSM.out.2.2.2⟩) HF.out (by omega))
  · have HNN : Hid (A2 = none → d.sy.length = 0 ∧ d.sy.length = 0) := fun e => by
      rcases Nat.eq_zero_or_pos d.sy.length with h | h
      · exact ⟨h, h⟩
      · obtain ⟨_, _, _, _, e2, _⟩ := (hT3.k w3 ⟨Nat.le_refl _, fun _ _ _ _ => rfl⟩).sy 0 h
        rw [e] at e2; cases e2
    have n0 : (v == 0) = false := by rw [beq_eq_false_iff_ne]; exact hv0
    by_cases hv1 : v = 1
    · subst hv1
      have G1 := hT3.grow (wj := ((w3.alloc (.cells #[.string ⟨#[99, 97, 116, 115]⟩] 9)).alloc (.cells #[.slice (some ⟨w3.heap.size, 0, none⟩) 1 1, .string ⟨#[99, 97, 116]⟩] 82))) (by (repeat' (first | exact Below.refl _ _ | apply Below.alloc | apply Below.setCell | apply Below.drew | apply below_draws)) <;> (first | omega | (simp <;> omega)))
      have hol : (hz.flatMap encZ).length = d.sy.length * 2 := by rw [encZ_ok.flat, hzl.out]
      have hbl : Below w3.heap.size w3 ((w3.alloc (.cells #[.string ⟨#[99, 97, 116, 115]⟩] 9)).alloc (.cells #[.slice (some ⟨w3.heap.size, 0, none⟩) 1 1, .string ⟨#[99, 97, 116]⟩] 82)) := by (repeat' (first | exact Below.refl _ _ | apply Below.alloc | apply Below.setCell | apply Below.drew | apply below_draws)) <;> (first | omega | (simp <;> omega))
      have hzb : Hid (w3.heap.size ≤ ((w3.alloc (.cells #[.string ⟨#[99, 97, 116, 115]⟩] 9)).alloc (.cells #[.slice (some ⟨w3.heap.size, 0, none⟩) 1 1, .string ⟨#[99, 97, 116]⟩] 82)).heap.size) := by show _ ≤ _; simp <;> omega
      have hF1 : ((w3.alloc (.cells #[.string ⟨#[99, 97, 116, 115]⟩] 9)).alloc (.cells #[.slice (some ⟨w3.heap.size, 0, none⟩) 1 1, .string ⟨#[99, 97, 116]⟩] 82)).heap[w3.heap.size]? = some (.cells #[.string ⟨#[99, 97, 116, 115]⟩] 9 (0, 0)) := alloc_old (alloc_at _ _)
      have HF1 := Lib.hid hF1
      have hzc1 : Hid (w3.heap.size < ((w3.alloc (.cells #[.string ⟨#[99, 97, 116, 115]⟩] 9)).alloc (.cells #[.slice (some ⟨w3.heap.size, 0, none⟩) 1 1, .string ⟨#[99, 97, 116]⟩] 82)).heap.size) := by show _ < _; simp <;> omega
      clear hF1
      have HCO : Hid (∀ b, A2 = some b → ∀ j u, (hz.flatMap encZ)[j]? = some u → ((w3.alloc (.cells #[.string ⟨#[99, 97, 116, 115]⟩] 9)).alloc (.cells #[.slice (some ⟨w3.heap.size, 0, none⟩) 1 1, .string ⟨#[99, 97, 116]⟩] 82)).cell? (b.add j) = some u) := fun b e j u hu => by
        have h9 := hzc b e j u hu
        exact (hbl.cell (World.block_lt_of_cell? w3 _ h9)).trans h9
      have HNW : Hid (∀ j u, (encZ (⟨some ⟨w3.heap.size, 0, none⟩, 1, ⟨[⟨#[99, 97, 116, 115]⟩], ⟨#[99, 97, 116]⟩⟩⟩ : HdZ))[j]? = some u → ((w3.alloc (.cells #[.string ⟨#[99, 97, 116, 115]⟩] 9)).alloc (.cells #[.slice (some ⟨w3.heap.size, 0, none⟩) 1 1, .string ⟨#[99, 97, 116]⟩] 82)).cell? ((⟨w3.heap.size + 1, 0, none⟩ : Addr).add j) = some u) := fun j u hu => by
        rw [addr_add, Nat.zero_add]
        have hb := alloc_at (w3.alloc (.cells #[.string ⟨#[99, 97, 116, 115]⟩] 9)) (.cells #[.slice (some ⟨w3.heap.size, 0, none⟩) 1 1, .string ⟨#[99, 97, 116]⟩] 82)
        rw [show (w3.alloc (.cells #[.string ⟨#[99, 97, 116, 115]⟩] 9)).heap.size = w3.heap.size + 1 by simp] at hb
        rw [cell_of_row _ _ j _ _ (0, 0) hb, ← Array.getElem?_toList]
        exact hu
      obtain ⟨_, x1z, _, _, _, _⟩ := hT3.cells
      clear G1 hqs
      go_wp2_with (at_builtin; refine wpList_append_grows _ rfl _ _ 42 rfl 82 i0 _ 2 40 Tryd.underlying42 hi hz0 hz1 hz2 rfl (by decide) A2 d.sy.length d.sy.length (hz.flatMap encZ) rfl HNN.out hol HCO.out _ 1 _ (encZ (⟨some ⟨w3.heap.size, 0, none⟩, 1, ⟨[⟨#[99, 97, 116, 115]⟩], ⟨#[99, 97, 116]⟩⟩⟩ : HdZ)) rfl rfl HNW.out (encZ_ok.one _) (by omega) (by unfold maxLen; omega) (by omega) ?_)
      intro v' w5 hv' hg'
      obtain ⟨g5, c5, rfl⟩ : ∃ g5 c5, v' = .slice (some ⟨g5, 0, none⟩) (d.sy.length + 1) c5 := by
        rcases hv'.2 with ⟨_, h0⟩ | ⟨g', cap, cur, h', _⟩
        · omega
        · exact ⟨_, _, h'⟩
      have hbw := (Below.refl ((w3.alloc (.cells #[.string ⟨#[99, 97, 116, 115]⟩] 9)).alloc (.cells #[.slice (some ⟨w3.heap.size, 0, none⟩) 1 1, .string ⟨#[99, 97, 116]⟩] 82)).heap.size ((w3.alloc (.cells #[.string ⟨#[99, 97, 116, 115]⟩] 9)).alloc (.cells #[.slice (some ⟨w3.heap.size, 0, none⟩) 1 1, .string ⟨#[99, 97, 116]⟩] 82))).grown hg' (Nat.le_refl _) (fun k hk => by cases hk)
      have hb35 := hbl.trans (hbw.mono hzb.out)
      have G5 := hT3.grow hb35
      have hg5 := (hv'.lt g5 rfl)
      have hqw : q < w3.heap.size := hT3.sz
      have e9 : (d.sy ++ [(⟨[⟨#[99, 97, 116, 115]⟩], ⟨#[99, 97, 116]⟩⟩ : SynD)]).length = d.sy.length + 1 := by simp
      have T5 := G5.setSy (d.sy ++ [(⟨[⟨#[99, 97, 116, 115]⟩], ⟨#[99, 97, 116]⟩⟩ : SynD)]) (some ⟨g5, 0, none⟩) c5 (fun w' hs => by
        have hz9 := hzb.out
        have hown : w'.ownsRow ((w3.alloc (.cells #[.string ⟨#[99, 97, 116, 115]⟩] 9)).alloc (.cells #[.slice (some ⟨w3.heap.size, 0, none⟩) 1 1, .string ⟨#[99, 97, 116]⟩] 82)).heap.size 82 2 (.slice (some ⟨g5, 0, none⟩) (d.sy.length + 1) c5) (d.sy.length + 1) ((hz ++ [(⟨some ⟨w3.heap.size, 0, none⟩, 1, ⟨[⟨#[99, 97, 116, 115]⟩], ⟨#[99, 97, 116]⟩⟩⟩ : HdZ)]).flatMap encZ) := by
          rw [List.flatMap_append]
          exact own_at (by simpa using hv') (hs.2 g5 (by omega) hg5.2 (by omega))
        have hold := HZS.out w' (SameX.trans (SameX.of (Same.of hb35)) hs hb35.size)
        have hF5 := (hbw.block w3.heap.size hzc1.out).trans HF1.out
        have hnew : SrcT w' (some ⟨w3.heap.size, 0, none⟩) 1 [⟨#[99, 97, 116, 115]⟩] := srcT_blk _ (hs.blk (by omega) (by have := hbw.size; have := hzc1.out; omega) (by omega) hF5) rfl
        have hr := rdY_own (hz := hz ++ [(⟨some ⟨w3.heap.size, 0, none⟩, 1, ⟨[⟨#[99, 97, 116, 115]⟩], ⟨#[99, 97, 116]⟩⟩⟩ : HdZ)]) (by rw [List.length_append, hzl.out] <;> rfl) hown (fun m hm => by
          rcases List.mem_append.1 hm with h | h
          · exact hold m h
          · simp at h; subst h; exact hnew)
        rw [List.map_append, HZY.out] at hr
        exact hr)
      try dsimp only at T5
      rw [e9] at T5
      obtain ⟨x0, x1, xz, y0, y1, yz⟩ := G5.cells
      have xz0 := xz 0
      have xz1 := xz 1
      have yz0 := yz 0
      have yz1 := yz 1
      clear xz yz
      obtain ⟨x0t, x1t, xzt, y0t, y1t, yzt⟩ := T5.cells
      have xz0t := xzt 0
      have xz1t := xzt 1
      have yz0t := yzt 0
      have yz1t := yzt 1
      clear xzt yzt
      have hF := T5.fin
      try dsimp only at hF x0t x1t
      rw [e9] at hF x1t
      have HF := Lib.hid hF
      have HE9 := Lib.hid e9
      clear hF T5 G5 hv' hg' hbw hb35 hg5 hqw hT3 hbl e9
      go_wp2
      exact bodyPost_ret (v := .agg #[.slice A1 d.st.length c1, .slice (some ⟨g5, 0, none⟩) (d.sy.length + 1) c5]) (by simp [results, Tryd.results52, go_sem, *]) rfl (confA_mk2 ⟨d.st, d.sy ++ [(⟨[⟨#[99, 97, 116, 115]⟩], ⟨#[99, 97, 116]⟩⟩ : SynD)]⟩ _ _ _ _ _ HE9.out.symm (smW_add HSM.out hx1 (by decide)) HF.out (by omega))
    · have n1 : (v == 1) = false := by rw [beq_eq_false_iff_ne]; exact hv1
      by_cases hv2 : v = 2
      · subst hv2
        have G1 := hT3.grow (wj := (w3.alloc (.cells #[.slice none 0 0, .string ⟨#[99, 97, 116]⟩] 82))) (by (repeat' (first | exact Below.refl _ _ | apply Below.alloc | apply Below.setCell | apply Below.drew | apply below_draws)) <;> (first | omega | (simp <;> omega)))
        have hol : (hz.flatMap encZ).length = d.sy.length * 2 := by rw [encZ_ok.flat, hzl.out]
        have hbl : Below w3.heap.size w3 (w3.alloc (.cells #[.slice none 0 0, .string ⟨#[99, 97, 116]⟩] 82)) := by (repeat' (first | exact Below.refl _ _ | apply Below.alloc | apply Below.setCell | apply Below.drew | apply below_draws)) <;> (first | omega | (simp <;> omega))
        have hzb : Hid (w3.heap.size ≤ (w3.alloc (.cells #[.slice none 0 0, .string ⟨#[99, 97, 116]⟩] 82)).heap.size) := by show _ ≤ _; simp <;> omega
        have HCO : Hid (∀ b, A2 = some b → ∀ j u, (hz.flatMap encZ)[j]? = some u → (w3.alloc (.cells #[.slice none 0 0, .string ⟨#[99, 97, 116]⟩] 82)).cell? (b.add j) = some u) := fun b e j u hu => by
          have h9 := hzc b e j u hu
          exact (hbl.cell (World.block_lt_of_cell? w3 _ h9)).trans h9
        have HNW : Hid (∀ j u, (encZ (⟨none, 0, ⟨[], ⟨#[99, 97, 116]⟩⟩⟩ : HdZ))[j]? = some u → (w3.alloc (.cells #[.slice none 0 0, .string ⟨#[99, 97, 116]⟩] 82)).cell? ((⟨w3.heap.size, 0, none⟩ : Addr).add j) = some u) := fun j u hu => by
          rw [addr_add, Nat.zero_add]
          have hb := alloc_at w3 (.cells #[.slice none 0 0, .string ⟨#[99, 97, 116]⟩] 82)
          
          rw [cell_of_row _ _ j _ _ (0, 0) hb, ← Array.getElem?_toList]
          exact hu
        obtain ⟨_, x1z, _, _, _, _⟩ := hT3.cells
        clear G1 hqs
        go_wp2_with (at_builtin; refine wpList_append_grows _ rfl _ _ 42 rfl 82 i0 _ 2 40 Tryd.underlying42 hi hz0 hz1 hz2 rfl (by decide) A2 d.sy.length d.sy.length (hz.flatMap encZ) rfl HNN.out hol HCO.out _ 1 _ (encZ (⟨none, 0, ⟨[], ⟨#[99, 97, 116]⟩⟩⟩ : HdZ)) rfl rfl HNW.out (encZ_ok.one _) (by omega) (by unfold maxLen; omega) (by omega) ?_)
        intro v' w5 hv' hg'
        obtain ⟨g5, c5, rfl⟩ : ∃ g5 c5, v' = .slice (some ⟨g5, 0, none⟩) (d.sy.length + 1) c5 := by
          rcases hv'.2 with ⟨_, h0⟩ | ⟨g', cap, cur, h', _⟩
          · omega
          · exact ⟨_, _, h'⟩
        have hbw := (Below.refl (w3.alloc (.cells #[.slice none 0 0, .string ⟨#[99, 97, 116]⟩] 82)).heap.size (w3.alloc (.cells #[.slice none 0 0, .string ⟨#[99, 97, 116]⟩] 82))).grown hg' (Nat.le_refl _) (fun k hk => by cases hk)
        have hb35 := hbl.trans (hbw.mono hzb.out)
        have G5 := hT3.grow hb35
        have hg5 := (hv'.lt g5 rfl)
        have hqw : q < w3.heap.size := hT3.sz
        have e9 : (d.sy ++ [(⟨[], ⟨#[99, 97, 116]⟩⟩ : SynD)]).length = d.sy.length + 1 := by simp
        have T5 := G5.setSy (d.sy ++ [(⟨[], ⟨#[99, 97, 116]⟩⟩ : SynD)]) (some ⟨g5, 0, none⟩) c5 (fun w' hs => by
          have hz9 := hzb.out
          have hown : w'.ownsRow (w3.alloc (.cells #[.slice none 0 0, .string ⟨#[99, 97, 116]⟩] 82)).heap.size 82 2 (.slice (some ⟨g5, 0, none⟩) (d.sy.length + 1) c5) (d.sy.length + 1) ((hz ++ [(⟨none, 0, ⟨[], ⟨#[99, 97, 116]⟩⟩⟩ : HdZ)]).flatMap encZ) := by
            rw [List.flatMap_append]
            exact own_at (by simpa using hv') (hs.2 g5 (by omega) hg5.2 (by omega))
          have hold := HZS.out w' (SameX.trans (SameX.of (Same.of hb35)) hs hb35.size)
          have hnew : SrcT w' none 0 ([] : List ByteArray) := ⟨⟨rfl, fun h => absurd h (by simp)⟩, .inl ⟨rfl, rfl⟩⟩
          have hr := rdY_own (hz := hz ++ [(⟨none, 0, ⟨[], ⟨#[99, 97, 116]⟩⟩⟩ : HdZ)]) (by rw [List.length_append, hzl.out] <;> rfl) hown (fun m hm => by
            rcases List.mem_append.1 hm with h | h
            · exact hold m h
            · simp at h; subst h; exact hnew)
          rw [List.map_append, HZY.out] at hr
          exact hr)
        try dsimp only at T5
        rw [e9] at T5
        obtain ⟨x0, x1, xz, y0, y1, yz⟩ := G5.cells
        have xz0 := xz 0
        have xz1 := xz 1
        have yz0 := yz 0
        have yz1 := yz 1
        clear xz yz
        obtain ⟨x0t, x1t, xzt, y0t, y1t, yzt⟩ := T5.cells
        have xz0t := xzt 0
        have xz1t := xzt 1
        have yz0t := yzt 0
        have yz1t := yzt 1
        clear xzt yzt
        have hF := T5.fin
        try dsimp only at hF x0t x1t
        rw [e9] at hF x1t
        have HF := Lib.hid hF
        have HE9 := Lib.hid e9
        clear hF T5 G5 hv' hg' hbw hb35 hg5 hqw hT3 hbl e9
        go_wp2
        exact bodyPost_ret (v := .agg #[.slice A1 d.st.length c1, .slice (some ⟨g5, 0, none⟩) (d.sy.length + 1) c5]) (by simp [results, Tryd.results52, go_sem, *]) rfl (confA_mk2 ⟨d.st, d.sy ++ [(⟨[], ⟨#[99, 97, 116]⟩⟩ : SynD)]⟩ _ _ _ _ _ HE9.out.symm (smW_add HSM.out hx1 (by decide)) HF.out (by omega))
      · have n2 : (v == 2) = false := by rw [beq_eq_false_iff_ne]; exact hv2
        by_cases hv3 : v = 3
        · subst hv3
          have G1 := hT3.grow (wj := ((w3.alloc (.cells #[.string ⟨#[116, 104, 101]⟩, .string ⟨#[99, 97, 116]⟩] 9)).alloc (.cells #[.slice (some ⟨w3.heap.size, 0, none⟩) 2 2, .string ⟨#[99, 97, 116]⟩] 82))) (by (repeat' (first | exact Below.refl _ _ | apply Below.alloc | apply Below.setCell | apply Below.drew | apply below_draws)) <;> (first | omega | (simp <;> omega)))
          have hol : (hz.flatMap encZ).length = d.sy.length * 2 := by rw [encZ_ok.flat, hzl.out]
          have hbl : Below w3.heap.size w3 ((w3.alloc (.cells #[.string ⟨#[116, 104, 101]⟩, .string ⟨#[99, 97, 116]⟩] 9)).alloc (.cells #[.slice (some ⟨w3.heap.size, 0, none⟩) 2 2, .string ⟨#[99, 97, 116]⟩] 82)) := by (repeat' (first | exact Below.refl _ _ | apply Below.alloc | apply Below.setCell | apply Below.drew | apply below_draws)) <;> (first | omega | (simp <;> omega))
          have hzb : Hid (w3.heap.size ≤ ((w3.alloc (.cells #[.string ⟨#[116, 104, 101]⟩, .string ⟨#[99, 97, 116]⟩] 9)).alloc (.cells #[.slice (some ⟨w3.heap.size, 0, none⟩) 2 2, .string ⟨#[99, 97, 116]⟩] 82)).heap.size) := by show _ ≤ _; simp <;> omega
          have hF1 : ((w3.alloc (.cells #[.string ⟨#[116, 104, 101]⟩, .string ⟨#[99, 97, 116]⟩] 9)).alloc (.cells #[.slice (some ⟨w3.heap.size, 0, none⟩) 2 2, .string ⟨#[99, 97, 116]⟩] 82)).heap[w3.heap.size]? = some (.cells #[.string ⟨#[116, 104, 101]⟩, .string ⟨#[99, 97, 116]⟩] 9 (0, 0)) := alloc_old (alloc_at _ _)
          have HF1 := Lib.hid hF1
          have hzc1 : Hid (w3.heap.size < ((w3.alloc (.cells #[.string ⟨#[116, 104, 101]⟩, .string ⟨#[99, 97, 116]⟩] 9)).alloc (.cells #[.slice (some ⟨w3.heap.size, 0, none⟩) 2 2, .string ⟨#[99, 97, 116]⟩] 82)).heap.size) := by show _ < _; simp <;> omega
          clear hF1
          have HCO : Hid (∀ b, A2 = some b → ∀ j u, (hz.flatMap encZ)[j]? = some u → ((w3.alloc (.cells #[.string ⟨#[116, 104, 101]⟩, .string ⟨#[99, 97, 116]⟩] 9)).alloc (.cells #[.slice (some ⟨w3.heap.size, 0, none⟩) 2 2, .string ⟨#[99, 97, 116]⟩] 82)).cell? (b.add j) = some u) := fun b e j u hu => by
            have h9 := hzc b e j u hu
            exact (hbl.cell (World.block_lt_of_cell? w3 _ h9)).trans h9
          have HNW : Hid (∀ j u, (encZ (⟨some ⟨w3.heap.size, 0, none⟩, 2, ⟨[⟨#[116, 104, 101]⟩, ⟨#[99, 97, 116]⟩], ⟨#[99, 97, 116]⟩⟩⟩ : HdZ))[j]? = some u → ((w3.alloc (.cells #[.string ⟨#[116, 104, 101]⟩, .string ⟨#[99, 97, 116]⟩] 9)).alloc (.cells #[.slice (some ⟨w3.heap.size, 0, none⟩) 2 2, .string ⟨#[99, 97, 116]⟩] 82)).cell? ((⟨w3.heap.size + 1, 0, none⟩ : Addr).add j) = some u) := fun j u hu => by
            rw [addr_add, Nat.zero_add]
            have hb := alloc_at (w3.alloc (.cells #[.string ⟨#[116, 104, 101]⟩, .string ⟨#[99, 97, 116]⟩] 9)) (.cells #[.slice (some ⟨w3.heap.size, 0, none⟩) 2 2, .string ⟨#[99, 97, 116]⟩] 82)
            rw [show (w3.alloc (.cells #[.string ⟨#[116, 104, 101]⟩, .string ⟨#[99, 97, 116]⟩] 9)).heap.size = w3.heap.size + 1 by simp] at hb
            rw [cell_of_row _ _ j _ _ (0, 0) hb, ← Array.getElem?_toList]
            exact hu
          obtain ⟨_, x1z, _, _, _, _⟩ := hT3.cells
          clear G1 hqs
          go_wp2_with (at_builtin; refine wpList_append_grows _ rfl _ _ 42 rfl 82 i0 _ 2 40 Tryd.underlying42 hi hz0 hz1 hz2 rfl (by decide) A2 d.sy.length d.sy.length (hz.flatMap encZ) rfl HNN.out hol HCO.out _ 1 _ (encZ (⟨some ⟨w3.heap.size, 0, none⟩, 2, ⟨[⟨#[116, 104, 101]⟩, ⟨#[99, 97, 116]⟩], ⟨#[99, 97, 116]⟩⟩⟩ : HdZ)) rfl rfl HNW.out (encZ_ok.one _) (by omega) (by unfold maxLen; omega) (by omega) ?_)
          intro v' w5 hv' hg'
          obtain ⟨g5, c5, rfl⟩ : ∃ g5 c5, v' = .slice (some ⟨g5, 0, none⟩) (d.sy.length + 1) c5 := by
            rcases hv'.2 with ⟨_, h0⟩ | ⟨g', cap, cur, h', _⟩
            · omega
            · exact ⟨_, _, h'⟩
          have hbw := (Below.refl ((w3.alloc (.cells #[.string ⟨#[116, 104, 101]⟩, .string ⟨#[99, 97, 116]⟩] 9)).alloc (.cells #[.slice (some ⟨w3.heap.size, 0, none⟩) 2 2, .string ⟨#[99, 97, 116]⟩] 82)).heap.size ((w3.alloc (.cells #[.string ⟨#[116, 104, 101]⟩, .string ⟨#[99, 97, 116]⟩] 9)).alloc (.cells #[.slice (some ⟨w3.heap.size, 0, none⟩) 2 2, .string ⟨#[99, 97, 116]⟩] 82))).grown hg' (Nat.le_refl _) (fun k hk => by cases hk)
          have hb35 := hbl.trans (hbw.mono hzb.out)
          have G5 := hT3.grow hb35
          have hg5 := (hv'.lt g5 rfl)
          have hqw : q < w3.heap.size := hT3.sz
          have e9 : (d.sy ++ [(⟨[⟨#[116, 104, 101]⟩, ⟨#[99, 97, 116]⟩], ⟨#[99, 97, 116]⟩⟩ : SynD)]).length = d.sy.length + 1 := by simp
          have T5 := G5.setSy (d.sy ++ [(⟨[⟨#[116, 104, 101]⟩, ⟨#[99, 97, 116]⟩], ⟨#[99, 97, 116]⟩⟩ : SynD)]) (some ⟨g5, 0, none⟩) c5 (fun w' hs => by
            have hz9 := hzb.out
            have hown : w'.ownsRow ((w3.alloc (.cells #[.string ⟨#[116, 104, 101]⟩, .string ⟨#[99, 97, 116]⟩] 9)).alloc (.cells #[.slice (some ⟨w3.heap.size, 0, none⟩) 2 2, .string ⟨#[99, 97, 116]⟩] 82)).heap.size 82 2 (.slice (some ⟨g5, 0, none⟩) (d.sy.length + 1) c5) (d.sy.length + 1) ((hz ++ [(⟨some ⟨w3.heap.size, 0, none⟩, 2, ⟨[⟨#[116, 104, 101]⟩, ⟨#[99, 97, 116]⟩], ⟨#[99, 97, 116]⟩⟩⟩ : HdZ)]).flatMap encZ) := by
              rw [List.flatMap_append]
              exact own_at (by simpa using hv') (hs.2 g5 (by omega) hg5.2 (by omega))
            have hold := HZS.out w' (SameX.trans (SameX.of (Same.of hb35)) hs hb35.size)
            have hF5 := (hbw.block w3.heap.size hzc1.out).trans HF1.out
            have hnew : SrcT w' (some ⟨w3.heap.size, 0, none⟩) 2 [⟨#[116, 104, 101]⟩, ⟨#[99, 97, 116]⟩] := srcT_blk _ (hs.blk (by omega) (by have := hbw.size; have := hzc1.out; omega) (by omega) hF5) rfl
            have hr := rdY_own (hz := hz ++ [(⟨some ⟨w3.heap.size, 0, none⟩, 2, ⟨[⟨#[116, 104, 101]⟩, ⟨#[99, 97, 116]⟩], ⟨#[99, 97, 116]⟩⟩⟩ : HdZ)]) (by rw [List.length_append, hzl.out] <;> rfl) hown (fun m hm => by
              rcases List.mem_append.1 hm with h | h
              · exact hold m h
              · simp at h; subst h; exact hnew)
            rw [List.map_append, HZY.out] at hr
            exact hr)
          try dsimp only at T5
          rw [e9] at T5
          obtain ⟨x0, x1, xz, y0, y1, yz⟩ := G5.cells
          have xz0 := xz 0
          have xz1 := xz 1
          have yz0 := yz 0
          have yz1 := yz 1
          clear xz yz
          obtain ⟨x0t, x1t, xzt, y0t, y1t, yzt⟩ := T5.cells
          have xz0t := xzt 0
          have xz1t := xzt 1
          have yz0t := yzt 0
          have yz1t := yzt 1
          clear xzt yzt
          have hF := T5.fin
          try dsimp only at hF x0t x1t
          rw [e9] at hF x1t
          have HF := Lib.hid hF
          have HE9 := Lib.hid e9
          clear hF T5 G5 hv' hg' hbw hb35 hg5 hqw hT3 hbl e9
          go_wp2
          exact bodyPost_ret (v := .agg #[.slice A1 d.st.length c1, .slice (some ⟨g5, 0, none⟩) (d.sy.length + 1) c5]) (by simp [results, Tryd.results52, go_sem, *]) rfl (confA_mk2 ⟨d.st, d.sy ++ [(⟨[⟨#[116, 104, 101]⟩, ⟨#[99, 97, 116]⟩], ⟨#[99, 97, 116]⟩⟩ : SynD)]⟩ _ _ _ _ _ HE9.out.symm (smW_add HSM.out hx1 (by decide)) HF.out (by omega))
        · have n3 : (v == 3) = false := by rw [beq_eq_false_iff_ne]; exact hv3
          obtain ⟨x0t, x1t, xzt, y0t, y1t, yzt⟩ := hT3.cells
          have xz0t := xzt 0
          have xz1t := xzt 1
          have yz0t := yzt 0
          have yz1t := yzt 1
          clear xzt yzt
          have HF := Lib.hid hT3.fin
          clear hT3 hqs
          go_wp2
          exact bodyPost_ret (v := .agg #[.slice A1 d.st.length c1, .slice A2 d.sy.length d.sy.length]) (by simp [results, Tryd.results52, go_sem, *]) rfl (confA_mk d _ _ _ _ (HSM.out) HF.out (by omega))
end Go.Proofs.YtaobgliimbmemaaDoor
