/-
  Documents in memory; when a document, and documents, are ok: plain.
-/
import Derived.Test.YtaobgliimbmemaaGreatDoorStrs
import Derived.Test.YtaobgliimbmemaaGreatDoorRec
namespace Go.Proofs.YtaobgliimbmemaaGreatDoor
open Go.RowKit
set_option linter.unusedVariables false

structure DocD where
  id : Int
  fs : List (ByteArray × ByteArray)
  ns : List (ByteArray × Int)
def encF (f : ByteArray × ByteArray) : List Value := [.string f.1, .string f.2]
def encA (a : ByteArray × Int) : List Value := [.string a.1, .int .i64 a.2]
theorem encF_ok : Enc encF 2 := ⟨fun _ => rfl, fun a u hu => by simp [encF] at hu; rcases hu with rfl | rfl <;> rfl⟩
theorem encA_ok : Enc encA 2 := ⟨fun _ => rfl, fun a u hu => by simp [encA] at hu; rcases hu with rfl | rfl <;> rfl⟩
abbrev RdF (w : World) (A : Option Addr) (L : List (ByteArray × ByteArray)) : Prop := Rds w 2 A L.length (L.flatMap encF)
abbrev RdA (w : World) (A : Option Addr) (L : List (ByteArray × Int)) : Prop := Rds w 2 A L.length (L.flatMap encA)
theorem Rds.atF {w : World} {A : Option Addr} {L : List (ByteArray × ByteArray)} (h : RdF w A L) {k : Nat} (hk : k < L.length) :
    ∃ b off, A = some ⟨b, off, none⟩ ∧ b < w.heap.size ∧ w.cell? ⟨b, off + k * 2, none⟩ = some (.string L[k].1) ∧ w.cell? ⟨b, off + k * 2 + 1, none⟩ = some (.string L[k].2) := by
  obtain ⟨b, off, e, hlt, hc⟩ := h.2 (by omega)
  have hz : L[k]? = some L[k] := List.getElem?_eq_getElem hk
  refine ⟨b, off, e, hlt, ?_, ?_⟩
  · have := hc (k * 2 + 0) _ (by rw [flat_get encF_ok.len hz (by omega)]; rfl)
    simpa using this
  · have := hc (k * 2 + 1) _ (by rw [flat_get encF_ok.len hz (by omega)]; rfl)
    rwa [← Nat.add_assoc] at this
theorem Rds.allF {w : World} {b off : Nat} {L : List (ByteArray × ByteArray)} (h : RdF w (some ⟨b, off, none⟩) L) {k : Nat} (hk : k < L.length) :
    b < w.heap.size ∧ w.cell? ⟨b, off + k * 2, none⟩ = some (.string L[k].1) ∧ w.cell? ⟨b, off + k * 2 + 1, none⟩ = some (.string L[k].2) := by
  obtain ⟨b', off', e, h1, h2, h3⟩ := h.atF hk
  simp only [Option.some.injEq, Addr.mk.injEq, and_true] at e
  obtain ⟨rfl, rfl⟩ := e
  exact ⟨h1, h2, h3⟩
theorem Rds.atA {w : World} {A : Option Addr} {L : List (ByteArray × Int)} (h : RdA w A L) {k : Nat} (hk : k < L.length) :
    ∃ b off, A = some ⟨b, off, none⟩ ∧ b < w.heap.size ∧ w.cell? ⟨b, off + k * 2, none⟩ = some (.string L[k].1) ∧ w.cell? ⟨b, off + k * 2 + 1, none⟩ = some (.int .i64 L[k].2) := by
  obtain ⟨b, off, e, hlt, hc⟩ := h.2 (by omega)
  have hz : L[k]? = some L[k] := List.getElem?_eq_getElem hk
  refine ⟨b, off, e, hlt, ?_, ?_⟩
  · have := hc (k * 2 + 0) _ (by rw [flat_get encA_ok.len hz (by omega)]; rfl)
    simpa using this
  · have := hc (k * 2 + 1) _ (by rw [flat_get encA_ok.len hz (by omega)]; rfl)
    rwa [← Nat.add_assoc] at this
theorem Rds.allA {w : World} {b off : Nat} {L : List (ByteArray × Int)} (h : RdA w (some ⟨b, off, none⟩) L) {k : Nat} (hk : k < L.length) :
    b < w.heap.size ∧ w.cell? ⟨b, off + k * 2, none⟩ = some (.string L[k].1) ∧ w.cell? ⟨b, off + k * 2 + 1, none⟩ = some (.int .i64 L[k].2) := by
  obtain ⟨b', off', e, h1, h2, h3⟩ := h.atA hk
  simp only [Option.some.injEq, Addr.mk.injEq, and_true] at e
  obtain ⟨rfl, rfl⟩ := e
  exact ⟨h1, h2, h3⟩
/-- a document by its parts: the rows of its fields and its numbers. -/
def HasD (w : World) (d : DocD) (A1 A2 : Option Addr) : Prop := RdF w A1 d.fs ∧ RdA w A2 d.ns
theorem HasD.below {w w' : World} {d : DocD} {A1 A2 : Option Addr} (h : HasD w d A1 A2) (hb : Below w.heap.size w w') : HasD w' d A1 A2 := ⟨h.1.below hb, h.2.below hb⟩
/-- the slice at A reads as the documents Ds. -/
def RdD (w : World) (A : Option Addr) (Ds : List DocD) : Prop :=
  ∀ k, (hk : k < Ds.length) → ∃ b off A1 c1 A2 c2, A = some ⟨b, off, none⟩ ∧ b < w.heap.size ∧ w.cell? ⟨b, off + k * 3, none⟩ = some (.int .i64 Ds[k].id) ∧ w.cell? ⟨b, off + k * 3 + 1, none⟩ = some (.slice A1 Ds[k].fs.length c1) ∧ w.cell? ⟨b, off + k * 3 + 2, none⟩ = some (.slice A2 Ds[k].ns.length c2) ∧ HasD w Ds[k] A1 A2
theorem RdD.below {w w' : World} {A : Option Addr} {Ds : List DocD} (h : RdD w A Ds) (hb : Below w.heap.size w w') : RdD w' A Ds := fun k hk => by
  obtain ⟨b, off, A1, c1, A2, c2, e, hlt, h1, h2, h3, hs⟩ := h k hk
  exact ⟨b, off, A1, c1, A2, c2, e, Nat.lt_of_lt_of_le hlt hb.size, (hb.cell (p := ⟨_, _, none⟩) hlt).trans h1, (hb.cell (p := ⟨_, _, none⟩) hlt).trans h2, (hb.cell (p := ⟨_, _, none⟩) hlt).trans h3, hs.below hb⟩
theorem RdD.drawn {w : World} {A : Option Addr} {Ds : List DocD} (h : RdD w A Ds) (q : Nat) : RdD (w.drewN q) A Ds := h
theorem RdD.nil_ (w : World) (A : Option Addr) : RdD w A [] := fun k hk => by simp at hk
/-- .. no larger than what is read. -/
structure SmD (d : DocD) : Prop where
  fl : d.fs.length ≤ 1048576
  nl : d.ns.length ≤ 1048576
  f1 : ∀ f ∈ d.fs, f.1.size ≤ 1048576
  f2 : ∀ f ∈ d.fs, f.2.size ≤ 1048576
  n1 : ∀ a ∈ d.ns, a.1.size ≤ 1048576
def SmDs (Ds : List DocD) : Prop := Ds.length ≤ 1048576 ∧ ∀ d ∈ Ds, SmD d

/-- the bytes of a text are less than those of another. -/
def ltS (a b : ByteArray) : Bool := Op.bytesLess a.toList b.toList
theorem less_total : ∀ (a b : List UInt8), (Op.bytesLess b a || b == a) = !(Op.bytesLess a b)
  | [], [] => rfl
  | [], y :: s => by simp [Op.bytesLess]
  | x :: r, [] => by simp [Op.bytesLess]
  | x :: r, y :: s => by
    have ih := less_total r s
    unfold Op.bytesLess
    rcases Nat.lt_trichotomy x.toNat y.toNat with h | h | h
    · have h1 : x < y := UInt8.lt_iff_toNat_lt.2 h
      have h2 : ¬ y < x := fun h3 => by have := UInt8.lt_iff_toNat_lt.1 h3; omega
      have h3 : ¬ y = x := fun h3 => by rw [h3] at h; omega
      simp [h1, h2, h3]
    · obtain rfl : x = y := UInt8.toNat_inj.1 h
      have h1 : ¬ x < x := fun h3 => by have := UInt8.lt_iff_toNat_lt.1 h3; omega
      simp only [h1, decide_false, Bool.false_or, BEq.rfl, Bool.true_and]
      rw [← ih]
      simp
    · have h1 : ¬ x < y := fun h3 => by have := UInt8.lt_iff_toNat_lt.1 h3; omega
      have h2 : y < x := UInt8.lt_iff_toNat_lt.2 h
      have h3 : ¬ x = y := fun h3 => by rw [h3] at h; omega
      simp [h1, h2, h3]
theorem leqS (a b : ByteArray) : (Op.bytesLess b.toList a.toList || b.toList == a.toList) = !(ltS a b) := less_total _ _
abbrev FldD := ByteArray × ByteArray
abbrev AttD := ByteArray × Int
def d0F : FldD := (.empty, .empty)
def d0A : AttD := (.empty, 0)
def okF (L : List FldD) (k : Nat) : Bool := wordB (L.getD k d0F).1 && textB (L.getD k d0F).2 && (decide (k = 0) || ltS (L.getD (k - 1) d0F).1 (L.getD k d0F).1)
def okA (L : List AttD) (k : Nat) : Bool := wordB (L.getD k d0A).1 && wi (L.getD k d0A).2 0 999999999 && (decide (k = 0) || ltS (L.getD (k - 1) d0A).1 (L.getD k d0A).1)
def toF (L : List FldD) (k : Nat) : Bool := (List.range k).all (okF L)
def toA (L : List AttD) (k : Nat) : Bool := (List.range k).all (okA L)
theorem toF_succ (L : List FldD) (k : Nat) : toF L (k + 1) = (toF L k && okF L k) := by unfold toF; rw [List.range_succ, List.all_append]; simp
theorem toA_succ (L : List AttD) (k : Nat) : toA L (k + 1) = (toA L k && okA L k) := by unfold toA; rw [List.range_succ, List.all_append]; simp
theorem range_stop {f : Nat → Bool} {n k : Nat} (hk : k < n) (h : f k = false) : (List.range n).all f = false := by
  rw [← Bool.not_eq_true, List.all_eq_true]
  intro hh
  have := hh k (List.mem_range.2 hk)
  rw [h] at this; cases this
theorem toF_false {L : List FldD} {k : Nat} (hk : k < L.length) (h : okF L k = false) : toF L L.length = false := range_stop hk h
theorem toA_false {L : List AttD} {k : Nat} (hk : k < L.length) (h : okA L k = false) : toA L L.length = false := range_stop hk h
theorem getF {L : List FldD} {k : Nat} (h : k < L.length) : L.getD k d0F = L[k] := by rw [List.getD_eq_getElem?_getD, List.getElem?_eq_getElem h]; rfl
theorem getA {L : List AttD} {k : Nat} (h : k < L.length) : L.getD k d0A = L[k] := by rw [List.getD_eq_getElem?_getD, List.getElem?_eq_getElem h]; rfl
theorem okF_at {L : List FldD} {k : Nat} (hk : k < L.length) : okF L k = (wordB L[k].1 && textB L[k].2 && (decide (k = 0) || ltS (L.getD (k - 1) d0F).1 L[k].1)) := by unfold okF; rw [getF hk]
theorem okA_at {L : List AttD} {k : Nat} (hk : k < L.length) : okA L k = (wordB L[k].1 && wi L[k].2 0 999999999 && (decide (k = 0) || ltS (L.getD (k - 1) d0A).1 L[k].1)) := by unfold okA; rw [getA hk]
/-- a document is ok. -/
def docB (d : DocD) : Bool := wi d.id 1 9999 && decide (d.fs.length ≤ 3) && decide (d.ns.length ≤ 3) && toF d.fs d.fs.length && toA d.ns d.ns.length
/-- the number by a name. -/
def numR (name : ByteArray) : List AttD → Int
  | [] => -1
  | a :: r => if (a.1.toList == name.toList) = true then a.2 else numR name r
theorem numR_drop {name : ByteArray} {L : List AttD} {k : Nat} (hk : k < L.length) : numR name (L.drop k) = if (L[k].1.toList == name.toList) = true then L[k].2 else numR name (L.drop (k + 1)) := by
  rw [List.drop_eq_getElem_cons hk]; rfl
def docNum (d : DocD) (name : ByteArray) : Int := if docB d = true then numR name d.ns else -1
/-- documents are ok. -/
def d0D : DocD := ⟨0, [], []⟩
def okD (L : List DocD) (k : Nat) : Bool := docB (L.getD k d0D) && (decide (k = 0) || decide ((L.getD (k - 1) d0D).id < (L.getD k d0D).id))
def toD (L : List DocD) (k : Nat) : Bool := (List.range k).all (okD L)
theorem toD_succ (L : List DocD) (k : Nat) : toD L (k + 1) = (toD L k && okD L k) := by unfold toD; rw [List.range_succ, List.all_append]; simp
def docsB (L : List DocD) : Bool := toD L L.length && decide (L.length ≤ 16)
theorem toD_false {L : List DocD} {k : Nat} (hk : k < L.length) (h : okD L k = false) : docsB L = false := by
  unfold docsB
  have : toD L L.length = false := range_stop hk h
  rw [this]; rfl
theorem getDD {L : List DocD} {k : Nat} (h : k < L.length) : L.getD k d0D = L[k] := by rw [List.getD_eq_getElem?_getD, List.getElem?_eq_getElem h]; rfl
theorem okD_at {L : List DocD} {k : Nat} (hk : k < L.length) : okD L k = (docB L[k] && (decide (k = 0) || decide ((L.getD (k - 1) d0D).id < L[k].id))) := by unfold okD; rw [getDD hk]
end Go.Proofs.YtaobgliimbmemaaGreatDoor
