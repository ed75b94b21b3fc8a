/-
  Points and knots, as cells.
-/
import Derived.Test.YtbmbejomodkabaaRecsN
namespace Go.Proofs.Ytbmbejomodkabaa
open Go.RowKit
set_option linter.unusedVariables false

structure Pt where
  i : Int
  x : Int
  y : Int
def flPt (p : Pt) : List Int := [p.i, p.x, p.y]
def valPt (p : Pt) : Value := .agg #[.int .i64 (p.i), .int .i64 (p.x), .int .i64 (p.y)]
def encPt (p : Pt) : List Value := ints (flPt p)
theorem flPt_len (p : Pt) : (flPt p).length = 3 := rfl
theorem encPt_len (p : Pt) : (encPt p).length = 3 := rfl
theorem encPt_ok : Enc encPt 3 := enc_ints flPt_len
theorem encPt_flat (L : List Pt) : L.flatMap encPt = ints (L.flatMap flPt) := ints_flat _ L
theorem Rds.atPt {w : World} {A : Option Addr} {L : List Pt} (h : Rds w 3 A L.length (L.flatMap encPt)) {k : Nat} (hk : k < L.length) :
    ∃ b off, A = some ⟨b, off, none⟩ ∧ b < w.heap.size ∧ w.cell? ⟨b, off + k * 3, none⟩ = some (.int .i64 L[k].i) ∧ w.cell? ⟨b, off + k * 3 + 1, none⟩ = some (.int .i64 L[k].x) ∧ w.cell? ⟨b, off + k * 3 + 2, none⟩ = some (.int .i64 L[k].y) := by
  rw [encPt_flat] at h
  obtain ⟨b, off, e, hb, hc⟩ := h.atZ (by omega)
  refine ⟨b, off, e, hb, ?_, ?_, ?_⟩
  · have := hc (k * 3 + 0) _ (by rw [fl_get flPt_len hk (by omega)]; rfl)
    simpa [Nat.add_assoc] using this
  · have := hc (k * 3 + 1) _ (by rw [fl_get flPt_len hk (by omega)]; rfl)
    simpa [Nat.add_assoc] using this
  · have := hc (k * 3 + 2) _ (by rw [fl_get flPt_len hk (by omega)]; rfl)
    simpa [Nat.add_assoc] using this
theorem infoPoint' : (Try.prog.info? 29).map (fun i => (i.zero, i.size, i.bytes)) = some (some (.agg #[.int .i64 0, .int .i64 0, .int .i64 0]), 3, 24) := by kernel_rfl
theorem rowTPoint : RowT Try.prog 23 29 3 24 := rowT_of Try.underlying23 infoPoint' rfl
structure Kn where
  i : Int
  x : Int
  y : Int
  l : Int
  a : Int
  b : Int
  c : Int
  d : Int
def flKn (p : Kn) : List Int := [p.i, p.x, p.y, p.l, p.a, p.b, p.c, p.d]
def valKn (p : Kn) : Value := .agg #[.int .i64 (p.i), .int .i64 (p.x), .int .i64 (p.y), .int .i64 (p.l), .int .i64 (p.a), .int .i64 (p.b), .int .i64 (p.c), .int .i64 (p.d)]
def encKn (p : Kn) : List Value := ints (flKn p)
theorem flKn_len (p : Kn) : (flKn p).length = 8 := rfl
theorem encKn_len (p : Kn) : (encKn p).length = 8 := rfl
theorem encKn_ok : Enc encKn 8 := enc_ints flKn_len
theorem encKn_flat (L : List Kn) : L.flatMap encKn = ints (L.flatMap flKn) := ints_flat _ L
theorem Rds.atKn {w : World} {A : Option Addr} {L : List Kn} (h : Rds w 8 A L.length (L.flatMap encKn)) {k : Nat} (hk : k < L.length) :
    ∃ b off, A = some ⟨b, off, none⟩ ∧ b < w.heap.size ∧ w.cell? ⟨b, off + k * 8, none⟩ = some (.int .i64 L[k].i) ∧ w.cell? ⟨b, off + k * 8 + 1, none⟩ = some (.int .i64 L[k].x) ∧ w.cell? ⟨b, off + k * 8 + 2, none⟩ = some (.int .i64 L[k].y) ∧ w.cell? ⟨b, off + k * 8 + 3, none⟩ = some (.int .i64 L[k].l) ∧ w.cell? ⟨b, off + k * 8 + 4, none⟩ = some (.int .i64 L[k].a) ∧ w.cell? ⟨b, off + k * 8 + 5, none⟩ = some (.int .i64 L[k].b) ∧ w.cell? ⟨b, off + k * 8 + 6, none⟩ = some (.int .i64 L[k].c) ∧ w.cell? ⟨b, off + k * 8 + 7, none⟩ = some (.int .i64 L[k].d) := by
  rw [encKn_flat] at h
  obtain ⟨b, off, e, hb, hc⟩ := h.atZ (by omega)
  refine ⟨b, off, e, hb, ?_, ?_, ?_, ?_, ?_, ?_, ?_, ?_⟩
  · have := hc (k * 8 + 0) _ (by rw [fl_get flKn_len hk (by omega)]; rfl)
    simpa [Nat.add_assoc] using this
  · have := hc (k * 8 + 1) _ (by rw [fl_get flKn_len hk (by omega)]; rfl)
    simpa [Nat.add_assoc] using this
  · have := hc (k * 8 + 2) _ (by rw [fl_get flKn_len hk (by omega)]; rfl)
    simpa [Nat.add_assoc] using this
  · have := hc (k * 8 + 3) _ (by rw [fl_get flKn_len hk (by omega)]; rfl)
    simpa [Nat.add_assoc] using this
  · have := hc (k * 8 + 4) _ (by rw [fl_get flKn_len hk (by omega)]; rfl)
    simpa [Nat.add_assoc] using this
  · have := hc (k * 8 + 5) _ (by rw [fl_get flKn_len hk (by omega)]; rfl)
    simpa [Nat.add_assoc] using this
  · have := hc (k * 8 + 6) _ (by rw [fl_get flKn_len hk (by omega)]; rfl)
    simpa [Nat.add_assoc] using this
  · have := hc (k * 8 + 7) _ (by rw [fl_get flKn_len hk (by omega)]; rfl)
    simpa [Nat.add_assoc] using this
theorem infoKnot' : (Try.prog.info? 33).map (fun i => (i.zero, i.size, i.bytes)) = some (some (.agg #[.int .i64 0, .int .i64 0, .int .i64 0, .int .i64 0, .int .i64 0, .int .i64 0, .int .i64 0, .int .i64 0]), 8, 64) := by kernel_rfl
theorem rowTKnot : RowT Try.prog 25 33 8 64 := rowT_of Try.underlying25 infoKnot' rfl
end Go.Proofs.Ytbmbejomodkabaa
