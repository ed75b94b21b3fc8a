/-
  A question as data, and in memory; szQuery.
-/
import Derived.Test.YtaobgliimbmemaaDoorTxt
namespace Go.Proofs.YtaobgliimbmemaaDoor
open Go.RowKit Go.Sort
set_option linter.unusedVariables false

structure QD where
  kd : Int
  fd : ByteArray
  ws : List ByteArray
  fr : Int
  tgt : Int
  ks : List QD
/-- the cells of a question. -/
def encQ (q : QD) (A : Option Addr) (c : Nat) (B : Option Addr) (d : Nat) : List Value :=
  [.int .i64 q.kd, .string q.fd, .slice A q.ws.length c, .int .i64 q.fr, .int .i64 q.tgt, .slice B q.ks.length d]
abbrev HQ := World → QD → Option Addr → Nat → Option Addr → Prop
def RdK (H : HQ) (w : World) (B : Option Addr) (L : List QD) : Prop :=
  ∀ k, (hk : k < L.length) → ∃ b off A1 c1 B1 d1, B = some ⟨b, off, none⟩ ∧ b < w.heap.size ∧ (∀ j u, (encQ L[k] A1 c1 B1 d1)[j]? = some u → w.cell? ⟨b, off + k * 6 + j, none⟩ = some u) ∧ H w L[k] A1 c1 B1
/-- words that can be read, and handed on. -/
def SrcQ (w : World) (A : Option Addr) (c : Nat) (L : List ByteArray) : Prop := SrcT w A c L ∧ L.length ≤ c ∧ c ≤ maxLen
theorem SrcQ.below {w w' : World} {A : Option Addr} {c : Nat} {L : List ByteArray} (h : SrcQ w A c L) (hb : Below w.heap.size w w') : SrcQ w' A c L := ⟨SrcE.below h.1 hb, h.2⟩
def HasQ : Nat → HQ
  | 0 => fun _ _ _ _ _ => False
  | n + 1 => fun w q A c B => SrcQ w A c q.ws ∧ RdK (HasQ n) w B q.ks
theorem RdK.below {H : HQ} (hH : ∀ {w w' : World} {q : QD} {A : Option Addr} {c : Nat} {B : Option Addr}, H w q A c B → Below w.heap.size w w' → H w' q A c B) {w w' : World} {B : Option Addr} {L : List QD} (h : RdK H w B L) (hb : Below w.heap.size w w') : RdK H w' B L := fun k hk => by
  obtain ⟨b, off, A1, c1, B1, d1, e, hlt, hc, h2⟩ := h k hk
  exact ⟨b, off, A1, c1, B1, d1, e, Nat.lt_of_lt_of_le hlt hb.size, fun j u hu => (hb.cell (p := ⟨b, off + k * 6 + j, none⟩) hlt).trans (hc j u hu), hH h2 hb⟩
theorem HasQ.below : ∀ {n : Nat} {w w' : World} {q : QD} {A : Option Addr} {c : Nat} {B : Option Addr}, HasQ n w q A c B → Below w.heap.size w w' → HasQ n w' q A c B
  | 0, _, _, _, _, _, _, h, _ => h.elim
  | n + 1, _, _, _, _, _, _, h, hb => ⟨h.1.below hb, RdK.below (H := HasQ n) (fun h1 h2 => HasQ.below h1 h2) h.2 hb⟩
theorem rdQ_below {n : Nat} {w w' : World} {B : Option Addr} {L : List QD} (h : RdK (HasQ n) w B L) (hb : Below w.heap.size w w') : RdK (HasQ n) w' B L := RdK.below (H := HasQ n) (fun h1 h2 => HasQ.below h1 h2) h hb
/-- each length is at most M. -/
def LmQ (M : Nat) : Nat → QD → Prop
  | 0 => fun _ => True
  | n + 1 => fun q => q.fd.size ≤ M ∧ q.ws.length ≤ M ∧ (∀ s ∈ q.ws, s.size ≤ M) ∧ q.ks.length ≤ M ∧ ∀ k ∈ q.ks, LmQ M n k
/-- the kinds are numbers of 64 bits. -/
def WfQ : Nat → QD → Prop
  | 0 => fun _ => True
  | n + 1 => fun q => (Lit.int .i64 q.kd).wf = true ∧ ∀ k ∈ q.ks, WfQ n k
/-- the contract of a function of a question, for all questions of so much fuel. -/
def SzC (n : Nat) : Prop := ∀ (q : QD) (A : Option Addr) (c : Nat) (B : Option Addr) (d : Nat) (left : Int) (w : World), HasQ n w q A c B → LmQ 9223372036854775807 n q → 0 ≤ left → left ≤ 1048576 →
  Calls Tryd.prog 22 #[.agg #[.int .i64 q.kd, .string q.fd, .slice A q.ws.length c, .int .i64 q.fr, .int .i64 q.tgt, .slice B q.ks.length d], .int .i64 left] w (SzE left (LmQ 1048576 n q) w)
theorem RdK.cells {H : HQ} {w : World} {B : Option Addr} {L : List QD} (h : RdK H w B L) {k : Nat} (hk : k < L.length) :
    ∃ b off A1 c1 B1 d1, B = some ⟨b, off, none⟩ ∧ b < w.heap.size ∧ w.cell? ⟨b, off + k * 6, none⟩ = some (.int .i64 L[k].kd) ∧ w.cell? ⟨b, off + k * 6 + 1, none⟩ = some (.string L[k].fd) ∧
      w.cell? ⟨b, off + k * 6 + 2, none⟩ = some (.slice A1 L[k].ws.length c1) ∧ w.cell? ⟨b, off + k * 6 + 3, none⟩ = some (.int .i64 L[k].fr) ∧ w.cell? ⟨b, off + k * 6 + 4, none⟩ = some (.int .i64 L[k].tgt) ∧
      w.cell? ⟨b, off + k * 6 + 5, none⟩ = some (.slice B1 L[k].ks.length d1) ∧ H w L[k] A1 c1 B1 := by
  obtain ⟨b, off, A1, c1, B1, d1, e, hb, hc, h2⟩ := h k hk
  exact ⟨b, off, A1, c1, B1, d1, e, hb, hc 0 _ rfl, hc 1 _ rfl, hc 2 _ rfl, hc 3 _ rfl, hc 4 _ rfl, hc 5 _ rfl, h2⟩
theorem szQueryS_of (n : Nat) (IH : SzC n) (B : Option Addr) (d : Nat) (Ks : List QD) (left : Int) (w : World) (h : RdK (HasQ n) w B Ks) (hl : Ks.length ≤ 9223372036854775807) (hb : ∀ y ∈ Ks, LmQ 9223372036854775807 n y) (h0 : 0 ≤ left) (h1 : left ≤ 1048576) :
    Calls Tryd.prog 49 #[.slice B Ks.length d, .int .i64 left] w (SzE left (Ks.length ≤ 1048576 ∧ ∀ y ∈ Ks, LmQ 1048576 n y) w) := by
  by_cases h2 : left - (Ks.length : Int) < 0
  · go_enter Tryd.func49, Tryd.ntmps49
    go_wp2
    go_ret
    exact ⟨-1, ⟨rfl, by omega, .inl (by omega)⟩, Below.refl _ _⟩
  · have HL := Lib.hid hb
    have HI := Lib.hid IH
    clear hb IH
    have hl6 : Ks.length ≤ 1048576 := by omega
    go_enter Tryd.func49, Tryd.ntmps49
    go_wp2_with fail
    go_loopw [1, 5] (fun m i wr => ∃ k : Nat, k ≤ Ks.length ∧ i = .int .i64 k ∧ ∃ r : Int, m = .int .i64 r ∧ 0 ≤ r ∧ r ≤ left ∧ Hid (∀ d ∈ Ks.take k, LmQ 1048576 n d) ∧ Below w.heap.size w wr) (fun _ i _ => Ks.length - (intOf i).toNat)
    case atStart => exact ⟨0, Nat.zero_le _, rfl, _, rfl, by omega, by omega, fun f hf => by simp at hf, Below.refl _ _⟩
    case round =>
      obtain ⟨k, hk, rfl, r, rfl, hr0, hrl, hr, hB⟩ := hrel
      have hr1 : r ≤ 1048576 := by omega
      by_cases hlt : k < Ks.length
      · obtain ⟨b, off, A1, c1, B1, d1, rfl, hbb, x0, x1, x2, x3, x4, x5, hh⟩ := (rdQ_below h hB).cells hlt
        have hi0 : (k : Int) < (Ks.length : Int) := by omega
        have hb1 := Lib.hid (HL.out Ks[k] (List.getElem_mem _))
        have hh := Lib.hid hh
        go_wp2_with fail
        refine (HI.out Ks[k] A1 c1 B1 d1 r _ hh.out hb1.out hr0 hr1).mono ?_
        rintro e w1 ⟨r2, ⟨rfl, h3, h4⟩, hb2⟩
        have hB2 := hB.trans (hb2.mono hB.size)
        by_cases hneg : r2 < 0
        · go_wp2
          go_ret
          exact ⟨-1, ⟨rfl, by omega, .inl (by omega)⟩, hB2⟩
        · have h5 := h4.resolve_left (by omega)
          have hr2 : Hid (∀ d ∈ Ks.take (k + 1), LmQ 1048576 n d) := fun f hf => by
            rw [← List.take_append_getElem hlt, List.mem_append] at hf
            rcases hf with hf | hf
            · exact hr.out f hf
            · simp at hf; rw [hf]; exact h5
          clear hr h4 h5
          go_wp2
          go_roundw
          case rel => exact ⟨k + 1, by omega, by go_num, _, rfl, by omega, by omega, hr2, hB2⟩
          case measure => simp [intOf]; omega
      · have hr2 : Hid (∀ d ∈ Ks, LmQ 1048576 n d) := fun f hf => hr.out f (by rw [List.take_of_length_le (by omega)]; exact hf)
        clear hr
        go_wp2
        go_ret
        exact ⟨_, ⟨rfl, by omega, .inr ⟨hl6, hr2.out⟩⟩, hB⟩
theorem szQuery_any : ∀ n, SzC n
  | 0 => fun q A c B d left w h _ _ _ => h.elim
  | n + 1 => fun q A c B d left w h hb h0 h1 => by
    have IH := Lib.hid (szQuery_any n)
    have ⟨hf1, hw1, hw2, hk1, hk2⟩ := hb
    have ⟨hS, hK⟩ := h
    have HK := Lib.hid hK
    have HW := Lib.hid hw2
    have HK2 := Lib.hid hk2
    have hB0 : Below w.heap.size w (w.alloc (.cells #[.int .i64 q.kd, .string q.fd, .slice A q.ws.length c, .int .i64 q.fr, .int .i64 q.tgt, .slice B q.ks.length d] 38)) := (Below.refl _ _).alloc (Nat.le_refl _) _
    have f2 : (w.alloc (.cells #[.int .i64 q.kd, .string q.fd, .slice A q.ws.length c, .int .i64 q.fr, .int .i64 q.tgt, .slice B q.ks.length d] 38)).cell? ⟨w.heap.size, 2, none⟩ = some (.slice A q.ws.length c) := by simp [go_sem]
    have f1 : (w.alloc (.cells #[.int .i64 q.kd, .string q.fd, .slice A q.ws.length c, .int .i64 q.fr, .int .i64 q.tgt, .slice B q.ks.length d] 38)).cell? ⟨w.heap.size, 1, none⟩ = some (.string q.fd) := by simp [go_sem]
    have f5 : (w.alloc (.cells #[.int .i64 q.kd, .string q.fd, .slice A q.ws.length c, .int .i64 q.fr, .int .i64 q.tgt, .slice B q.ks.length d] 38)).cell? ⟨w.heap.size, 5, none⟩ = some (.slice B q.ks.length d) := by simp [go_sem]
    have hs0 : w.heap.size < (w.alloc (.cells #[.int .i64 q.kd, .string q.fd, .slice A q.ws.length c, .int .i64 q.fr, .int .i64 q.tgt, .slice B q.ks.length d] 38)).heap.size := by simp
    clear h hb hK hw2 hk2
    go_enter Tryd.func22, Tryd.ntmps22
    by_cases hn0 : left - (q.fd.size : Int) < 0
    · go_wp2
      go_ret
      exact ⟨-1, ⟨rfl, by omega, .inl (by omega)⟩, hB0⟩
    · go_wp2_with fail
      generalize (w.alloc (.cells #[.int .i64 q.kd, .string q.fd, .slice A q.ws.length c, .int .i64 q.fr, .int .i64 q.tgt, .slice B q.ks.length d] 38)) = W0 at hB0 f1 f2 f5 hs0 ⊢
      refine (szStringS_any A c q.ws (left - (q.fd.size : Int)) _ (hS.below hB0).1 hw1 HW.out (by omega) (by omega)).mono ?_
      rintro e w1 ⟨r, ⟨rfl, hr1, hr2⟩, hb1⟩
      have hB1 := hB0.trans (hb1.mono hB0.size)
      by_cases hn : r < 0
      · go_wp2
        go_ret
        exact ⟨-1, ⟨rfl, by omega, .inl (by omega)⟩, hB1⟩
      · have g5 := (hb1.cell (p := ⟨w.heap.size, 5, none⟩) hs0).trans f5
        have h5 := Lib.hid (hr2.resolve_left (by omega))
        clear hr2
        go_wp2_with fail
        refine (szQueryS_of n IH.out B d q.ks r _ (rdQ_below HK.out hB1) hk1 HK2.out (by omega) (by omega)).mono ?_
        rintro e w2 ⟨r2, ⟨rfl, hr3, hr4⟩, hb2⟩
        have hB2 := hB1.trans (hb2.mono hB1.size)
        by_cases hn2 : r2 < 0
        · go_wp2
          go_ret
          exact ⟨-1, ⟨rfl, by omega, .inl (by omega)⟩, hB2⟩
        · have h6 := hr4.resolve_left (by omega)
          have hsm : Hid (LmQ 1048576 (n + 1) q) := ⟨by omega, h5.out.1, h5.out.2, h6.1, h6.2⟩
          clear h6 hr4 h5
          go_wp2
          go_ret
          exact ⟨_, ⟨rfl, by omega, .inr hsm.out⟩, hB2⟩
end Go.Proofs.YtaobgliimbmemaaDoor
