/-
  A question as data, and in memory; szQuery.
-/
import Derived.Test.YtaobgliimbmemaaGreatDoorTxt
namespace Go.Proofs.YtaobgliimbmemaaGreatDoor
open Go.RowKit Go.Sort
set_option linter.unusedVariables false

structure QD where
  kd : Int
  fd : ByteArray
  ws : List ByteArray
  fr : Int
  tgt : Int
  ks : List QD
/-- the cells of a question. -/
def encQ (q : QD) (A : Option Addr) (c : Nat) (B : Option Addr) (d : Nat) : List Value :=
  [.int .i64 q.kd, .string q.fd, .slice A q.ws.length c, .int .i64 q.fr, .int .i64 q.tgt, .slice B q.ks.length d]
abbrev HQ := World → QD → Option Addr → Nat → Option Addr → Prop
def RdK (H : HQ) (w : World) (B : Option Addr) (L : List QD) : Prop :=
  ∀ k, (hk : k < L.length) → ∃ b off A1 c1 B1 d1, B = some ⟨b, off, none⟩ ∧ b < w.heap.size ∧ (∀ j u, (encQ L[k] A1 c1 B1 d1)[j]? = some u → w.cell? ⟨b, off + k * 6 + j, none⟩ = some u) ∧ H w L[k] A1 c1 B1
/-- words that can be read, and handed on. -/
def SrcQ (w : World) (A : Option Addr) (c : Nat) (L : List ByteArray) : Prop := SrcT w A c L ∧ L.length ≤ c ∧ c ≤ maxLen
theorem SrcQ.below {w w' : World} {A : Option Addr} {c : Nat} {L : List ByteArray} (h : SrcQ w A c L) (hb : Below w.heap.size w w') : SrcQ w' A c L := ⟨SrcE.below h.1 hb, h.2⟩
def HasQ : Nat → HQ
  | 0 => fun _ _ _ _ _ => False
  | n + 1 => fun w q A c B => SrcQ w A c q.ws ∧ RdK (HasQ n) w B q.ks
theorem RdK.below {H : HQ} (hH : ∀ {w w' : World} {q : QD} {A : Option Addr} {c : Nat} {B : Option Addr}, H w q A c B → Below w.heap.size w w' → H w' q A c B) {w w' : World} {B : Option Addr} {L : List QD} (h : RdK H w B L) (hb : Below w.heap.size w w') : RdK H w' B L := fun k hk => by
  obtain ⟨b, off, A1, c1, B1, d1, e, hlt, hc, h2⟩ := h k hk
  exact ⟨b, off, A1, c1, B1, d1, e, Nat.lt_of_lt_of_le hlt hb.size, fun j u hu => (hb.cell (p := ⟨b, off + k * 6 + j, none⟩) hlt).trans (hc j u hu), hH h2 hb⟩
theorem HasQ.below : ∀ {n : Nat} {w w' : World} {q : QD} {A : Option Addr} {c : Nat} {B : Option Addr}, HasQ n w q A c B → Below w.heap.size w w' → HasQ n w' q A c B
  | 0, _, _, _, _, _, _, h, _ => h.elim
  | n + 1, _, _, _, _, _, _, h, hb => ⟨h.1.below hb, RdK.below (H := HasQ n) (fun h1 h2 => HasQ.below h1 h2) h.2 hb⟩
theorem rdQ_below {n : Nat} {w w' : World} {B : Option Addr} {L : List QD} (h : RdK (HasQ n) w B L) (hb : Below w.heap.size w w') : RdK (HasQ n) w' B L := RdK.below (H := HasQ n) (fun h1 h2 => HasQ.below h1 h2) h hb
/-- each length is at most M. -/
def LmQ (M : Nat) : Nat → QD → Prop
  | 0 => fun _ => True
  | n + 1 => fun q => q.fd.size ≤ M ∧ q.ws.length ≤ M ∧ (∀ s ∈ q.ws, s.size ≤ M) ∧ q.ks.length ≤ M ∧ ∀ k ∈ q.ks, LmQ M n k
/-- the kinds are numbers of 64 bits. -/
def WfQ : Nat → QD → Prop
  | 0 => fun _ => True
  | n + 1 => fun q => (Lit.int .i64 q.kd).wf = true ∧ ∀ k ∈ q.ks, WfQ n k
theorem RdK.cells {H : HQ} {w : World} {B : Option Addr} {L : List QD} (h : RdK H w B L) {k : Nat} (hk : k < L.length) :
    ∃ b off A1 c1 B1 d1, B = some ⟨b, off, none⟩ ∧ b < w.heap.size ∧ w.cell? ⟨b, off + k * 6, none⟩ = some (.int .i64 L[k].kd) ∧ w.cell? ⟨b, off + k * 6 + 1, none⟩ = some (.string L[k].fd) ∧
      w.cell? ⟨b, off + k * 6 + 2, none⟩ = some (.slice A1 L[k].ws.length c1) ∧ w.cell? ⟨b, off + k * 6 + 3, none⟩ = some (.int .i64 L[k].fr) ∧ w.cell? ⟨b, off + k * 6 + 4, none⟩ = some (.int .i64 L[k].tgt) ∧
      w.cell? ⟨b, off + k * 6 + 5, none⟩ = some (.slice B1 L[k].ks.length d1) ∧ H w L[k] A1 c1 B1 := by
  obtain ⟨b, off, A1, c1, B1, d1, e, hb, hc, h2⟩ := h k hk
  exact ⟨b, off, A1, c1, B1, d1, e, hb, hc 0 _ rfl, hc 1 _ rfl, hc 2 _ rfl, hc 3 _ rfl, hc 4 _ rfl, hc 5 _ rfl, h2⟩
end Go.Proofs.YtaobgliimbmemaaGreatDoor
