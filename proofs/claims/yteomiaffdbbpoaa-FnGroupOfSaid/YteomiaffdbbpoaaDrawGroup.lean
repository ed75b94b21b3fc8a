/-
  Contract of DrawGroupOf.
-/
import Derived.Test.YteomiaffdbbpoaaDrawFacet
import Derived.Test.YteomiaffdbbpoaaDrawHits
namespace Go.Proofs.Yteomiaffdbbpoaa
open Go.RowKit Go.Sort
set_option linter.unusedVariables false

theorem drawGroupOf_any (a0 : Option Addr) (len cap : Nat) (zs : List Int) (w : World) (h : IsRow .u8 w a0 len cap zs) :
    Calls Try.prog 26 #[.slice a0 len cap] w fun e w' => ∃ (B d : Nat) (Ds : List DocD) (I di : Nat) (L : List (Int × Int)) (s : ByteArray),
      (e = .returned (.tuple #[.slice (some ⟨B, 0, none⟩) Ds.length d, .slice (some ⟨I, 0, none⟩) L.length di, .string s]) ∧ Ds.length ≤ 6 ∧ L.length ≤ 6 ∧ RdD w' (some ⟨B, 0, none⟩) Ds ∧ SmDs Ds ∧ OwnE enc2 49 2 w' w.heap.size I di L) ∧ Below w.heap.size w w' := by
  go_enter Try.func26, Try.ntmps26
  go_wp2_with fail
  refine (open_any a0 len cap zs _ h).mono ?_
  rintro e w1 ⟨⟨rfl, r1⟩, hb1⟩
  obtain ⟨g, hg⟩ : ∃ g, g = w.heap.size := ⟨_, rfl⟩
  have hgw : w.heap.size ≤ g := by omega
  rw [← hg] at r1 ⊢
  have O1 : Outer w.heap.size g w w1 := Outer.of hb1
  have hlt1 := r1.lt
  have hs1 := hb1.size
  clear hg hb1 h
  go_wp2_with fail
  refine (l30AnyDocs_gen g 0 _ r1 (by omega)).mono ?_
  rintro e w2 ⟨B, d, Ds, ⟨rfl, hD⟩, p2, hp2, r2, o2⟩
  have hs2 := o2.2.1
  have O2 := O1.trans (o2.mono hs1)
  have hsm := hD.small (by omega)
  have hl6 : Ds.length ≤ 6 := by obtain ⟨_, _, _, hl, _⟩ := hD; exact hl
  have hlt2 := r2.lt
  clear o2 O1 r1
  go_wp2_with fail
  refine (l30AnyHits_gen g p2 _ r2 (by omega)).mono ?_
  rintro e w3 ⟨I, di, L, ⟨rfl, own, hL6⟩, p3, hp3, r3, o3⟩
  have hs3 := o3.2.1
  have O3 := O2.trans (o3.mono (by omega))
  replace hD := hD.gen hlt1 o3
  have hrl := r3.lt
  clear o3 O2 r2
  go_wp2_with fail
  refine (of_gen g p3 w3.heap.size 2 _ (r3.below (by (repeat' (first | exact Below.refl _ _ | apply Below.alloc | apply Below.setCell | apply Below.drew | apply below_draws)) <;> (first | omega | (simp <;> omega)))) (by omega) (by omega) (by omega) (by omega) (by refine strs_of _ _ _ _ ?_ ?_; (rfl); (kernel_rfl))).mono ?_
  rintro e w6 ⟨s, ⟨rfl, hs⟩, p6, hp6, r6, o6⟩
  have ob : Outer w3.heap.size g w3 w6 := (Outer.of (B := w3.heap.size) (by (repeat' (first | exact Below.refl _ _ | apply Below.alloc | apply Below.setCell | apply Below.drew | apply below_draws)) <;> (first | omega | (simp <;> omega)))).trans (o6.mono (by simp))
  have own6 := ownEM (ownEG own hlt2 ob) (show w.heap.size ≤ w2.heap.size by omega)
  have hD6 := (hD.gen hlt1 ob).reads
  have hO6 := (O3.trans (ob.mono (by omega))).under (Nat.le_refl _) hgw
  clear own O3 o6 ob r3 hD
  go_wp2
  go_ret3
  exact ⟨B, d, Ds, I, di, L, s, ⟨rfl, hl6, hL6, hD6, hsm, own6⟩, hO6⟩
end Go.Proofs.Yteomiaffdbbpoaa
