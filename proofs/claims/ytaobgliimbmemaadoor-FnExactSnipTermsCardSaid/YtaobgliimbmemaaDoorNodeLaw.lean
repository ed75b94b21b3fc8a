/-
  impl.nodeOk's table of shapes says the same as spec.l11One: plain.
-/
import Derived.Test.YtaobgliimbmemaaDoorSpecQ2
namespace Go.Proofs.YtaobgliimbmemaaDoor
open Go.RowKit Go.Sort
set_option linter.unusedVariables false

structure Shp where
  f : Bool
  lw : Int
  mw : Int
  lo : Int
  hi : Int
  rg : Bool
  lk : Int
  tk : Int
def shp (kd : Int) : Option Shp :=
  if kd = 1 then some ⟨false, 0, 0, 0, 0, false, 0, 0⟩
  else if kd = 2 then some ⟨true, 1, 1, 0, 0, false, 0, 0⟩
  else if kd = 3 then some ⟨true, 2, 4, 0, 5, false, 0, 0⟩
  else if kd = 4 then some ⟨true, 1, 1, 1, 2, false, 0, 0⟩
  else if kd = 5 then some ⟨true, 1, 1, 0, 0, false, 0, 0⟩
  else if kd = 6 then some ⟨true, 0, 0, 0, 999999999, true, 0, 0⟩
  else if kd = 7 then some ⟨false, 0, 0, 0, 0, false, 2, 4⟩
  else if kd = 8 then some ⟨false, 0, 0, 0, 0, false, 2, 4⟩
  else if kd = 9 then some ⟨false, 0, 0, 0, 0, false, 2, 2⟩
  else if kd = 10 then some ⟨false, 0, 0, 2, 9, false, 1, 1⟩
  else none
def wdI (kd : Int) (s : ByteArray) : Bool := if kd = 5 then globB s && !(wordB s) else wordB s
def oneX (x : Shp) (q : QD) : Bool :=
  (x.f == !(decide (q.fd = ⟨#[]⟩))) && ((!x.f || wordB q.fd) && (wi (q.ws.length : Int) x.lw x.mw && (wi (q.ks.length : Int) x.lk x.tk && (wi q.fr x.lo x.hi && ((if x.rg then wi q.tgt q.fr 999999999 else decide (q.tgt = 0)) && q.ws.all (wdI q.kd))))))
def oneI (q : QD) : Bool := match shp q.kd with
  | none => false
  | some x => oneX x q
theorem wordB_emp : wordB ⟨#[]⟩ = false := by decide
theorem len0 {α : Type} {l : List α} : l = [] ↔ (l.length : Int) = 0 := by rw [← List.length_eq_zero_iff]; omega
theorem wd_fd {s : ByteArray} (h : wordB s = true) : ¬ s = ⟨#[]⟩ := fun e => by rw [e, wordB_emp] at h; cases h
set_option linter.unusedSimpArgs false
theorem oneI_eq (q : QD) : oneI q = oneB q := by
  obtain ⟨kd, fd, ws, fr, tq, ks⟩ := q
  have hwd := @wd_fd fd
  by_cases g1 : kd = 1
  · subst g1
    rw [Bool.eq_iff_iff]
    simp only [oneI, shp]
    simp [oneX, oneB, bareB, wsB, wi_true, wdI, hdW]
    grind
  by_cases g2 : kd = 2
  · subst g2
    rw [Bool.eq_iff_iff]
    simp only [oneI, shp]
    simp [oneX, oneB, bareB, wsB, wi_true, wdI, hdW]
    grind
  by_cases g3 : kd = 3
  · subst g3
    rw [Bool.eq_iff_iff]
    simp only [oneI, shp]
    simp [oneX, oneB, bareB, wsB, wi_true, wdI, hdW]
    grind
  by_cases g4 : kd = 4
  · subst g4
    rw [Bool.eq_iff_iff]
    simp only [oneI, shp]
    simp [oneX, oneB, bareB, wsB, wi_true, wdI, hdW]
    grind
  by_cases g5 : kd = 5
  · subst g5
    by_cases hl : ws.length = 1
    · obtain ⟨x, rfl⟩ := List.length_eq_one_iff.1 hl
      rw [Bool.eq_iff_iff]
      simp only [oneI, shp]
      simp [oneX, oneB, bareB, wsB, wi_true, wdI, hdW]
      grind
    · rw [Bool.eq_iff_iff]
      simp only [oneI, shp]
      simp [oneX, oneB, bareB, wsB, wi_true, wdI, hdW, hl]
      grind
  by_cases g6 : kd = 6
  · subst g6
    rw [Bool.eq_iff_iff]
    simp only [oneI, shp]
    simp [oneX, oneB, bareB, wsB, wi_true, wdI, hdW]
    grind
  by_cases g7 : kd = 7
  · subst g7
    rw [Bool.eq_iff_iff]
    simp only [oneI, shp]
    simp [oneX, oneB, bareB, wsB, wi_true, wdI, hdW]
    grind
  by_cases g8 : kd = 8
  · subst g8
    rw [Bool.eq_iff_iff]
    simp only [oneI, shp]
    simp [oneX, oneB, bareB, wsB, wi_true, wdI, hdW]
    grind
  by_cases g9 : kd = 9
  · subst g9
    rw [Bool.eq_iff_iff]
    simp only [oneI, shp]
    simp [oneX, oneB, bareB, wsB, wi_true, wdI, hdW]
    grind
  by_cases g10 : kd = 10
  · subst g10
    rw [Bool.eq_iff_iff]
    simp only [oneI, shp]
    simp [oneX, oneB, bareB, wsB, wi_true, wdI, hdW]
    grind
  simp [oneI, shp, oneB, g1, g2, g3, g4, g5, g6, g7, g8, g9, g10]
end Go.Proofs.YtaobgliimbmemaaDoor
