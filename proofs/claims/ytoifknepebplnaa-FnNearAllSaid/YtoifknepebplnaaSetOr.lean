/-
  Contracts of SetOr and of what it calls.
-/
import Derived.Test.YtoifknepebplnaaSrc
namespace Go.Proofs.Ytoifknepebplnaa
open Go.RowKit
set_option linter.unusedVariables false

def orL (L M : List Int) : List Int := if upB L && upB M then unionI L M else []

theorem setOr_any (A A' : Option Addr) (c c' : Nat) (L M : List Int) (w : World) (h : Src w A c L) (h' : Src w A' c' M) (hn : L.length ≤ 1048576) (hn' : M.length ≤ 1048576) :
    Calls Try.prog 37 #[.slice A L.length c, .slice A' M.length c'] w (Makes w (orL L M)) := by
  cases hu1 : upB L with
  | false =>
    have HX : Hid (orL L M = []) := by show orL L M = _; unfold orL; rw [hu1]; rfl
    go_enter Try.func37, Try.ntmps37
    go_wp2_with fail
    refine (upOk_any A c L _ h.1 (by omega)).mono ?_
    rintro e w1 ⟨rfl, q, rfl⟩
    rw [hu1]
    go_wp2
    go_ret
    exact ⟨_, _, ⟨by rw [HX.out]; rfl, by rw [HX.out]; exact own_drawn (ownI_made w _ (Nat.le_refl _))⟩, by (repeat' (first | exact Below.refl _ _ | apply Below.alloc | apply Below.setCell | apply Below.drew | apply below_draws)) <;> (first | omega | (simp <;> omega))⟩
  | true =>
    cases hu2 : upB M with
    | false =>
      have HX : Hid (orL L M = []) := by show orL L M = _; unfold orL; rw [hu1, hu2]; rfl
      go_enter Try.func37, Try.ntmps37
      go_wp2_with fail
      refine (upOk_any A c L _ h.1 (by omega)).mono ?_
      rintro e w1 ⟨rfl, q, rfl⟩
      rw [hu1]
      go_wp2_with fail
      refine (upOk_any A' c' M _ (h'.1.below (by (repeat' (first | exact Below.refl _ _ | apply Below.alloc | apply Below.setCell | apply Below.drew | apply below_draws)) <;> (first | omega | (simp <;> omega)))) (by omega)).mono ?_
      rintro e w1 ⟨rfl, q', rfl⟩
      rw [hu2]
      go_wp2
      go_ret
      exact ⟨_, _, ⟨by rw [HX.out]; rfl, by rw [HX.out]; exact own_drawn (ownI_made w _ (Nat.le_refl _))⟩, by (repeat' (first | exact Below.refl _ _ | apply Below.alloc | apply Below.setCell | apply Below.drew | apply below_draws)) <;> (first | omega | (simp <;> omega))⟩
    | true =>
      have HX : Hid (orL L M = unionI L M) := by show orL L M = _; unfold orL; rw [hu1, hu2]; rfl
      have hlen : (unionI L M).length ≤ 2097152 := by
        have := Lib.compact_length_le (sortI (L ++ M))
        rw [sortI_len, List.length_append] at this
        unfold unionI; omega
      go_enter Try.func37, Try.ntmps37
      go_wp2_with fail
      refine (upOk_any A c L _ h.1 (by omega)).mono ?_
      rintro e w1 ⟨rfl, q, rfl⟩
      rw [hu1]
      go_wp2_with fail
      refine (upOk_any A' c' M _ (h'.1.below (by (repeat' (first | exact Below.refl _ _ | apply Below.alloc | apply Below.setCell | apply Below.drew | apply below_draws)) <;> (first | omega | (simp <;> omega)))) (by omega)).mono ?_
      rintro e w1 ⟨rfl, q', rfl⟩
      rw [hu2]
      have own0 := own_drawn (q := q + q') (ownI_made w w.heap.size (Nat.le_refl _))
      go_wp2_with (at_builtin; refine append_src rfl _ _ rfl w.heap.size w.heap.size 0 [] rfl own0 A c L rfl (h.below (by (repeat' (first | exact Below.refl _ _ | apply Below.alloc | apply Below.setCell | apply Below.drew | apply below_draws)) <;> (first | omega | (simp <;> omega)))) (by simp; omega) (by simp) ?_)
      intro L1 hL1 g1 c1 w1 own1 hb1
      obtain rfl : L1 = L := hL1.out
      have hB1 : Below w.heap.size w w1 := Below.trans (by (repeat' (first | exact Below.refl _ _ | apply Below.alloc | apply Below.setCell | apply Below.drew | apply below_draws)) <;> (first | omega | (simp <;> omega))) hb1
      clear hb1 hL1
      have hs1 := hB1.size
      go_wp2_with (at_builtin; refine append_src rfl _ _ rfl w.heap.size g1 c1 L1 rfl own1 A' c' M rfl (h'.below hB1) (by omega) hs1 ?_)
      intro N hN g2 c2 w2 own2 hb2
      have hNl : Hid (N.length = L1.length + M.length) := by show N.length = _; rw [hN.out, List.length_append]
      have hB2 := hB1.trans hb2
      clear hb2 own1 hB1 own0
      go_wp2_with fail
      refine (sort_own g2 c2 w.heap.size N _ own2 (by have := hNl.out; omega)).mono ?_
      rintro e w3 ⟨S, ⟨rfl, hS, hSl, own3, _⟩, hb3⟩
      have hB3 := hB2.trans hb3
      have HSl : Hid (N.length = S.length) := hSl.symm
      clear hb3 own2 hB2 hSl
      have hs3 := hB3.size
      go_wp2_with fail
      refine (compact_own g2 c2 w.heap.size N.length S _ HSl.out (own3.alloc _) (by have := hNl.out; have := HSl.out; omega)).mono ?_
      rintro e w4 ⟨K, ⟨rfl, hK, hKl, own4, hg4⟩, hb4⟩
      have t3 := own3.lt
      have own5 := own_kept (ownI_made w3 w.heap.size hs3) (v2 := .slice (some ⟨g2, 0, none⟩) N.length c2) hg4 (fun k k2 e1 e2 => by have := t3 g2 rfl; simp [Value.ownBlock] at e1 e2; omega)
      have hB4 := (hB3.alloc hB3.size (.cells #[] 3)).trans hb4
      have hKl2 : K.length ≤ 2097152 := by have := hNl.out; have := HSl.out; omega
      have HK : Hid (K = unionI L1 M) := by show K = _; rw [hK.out, hS.out, hN.out]; rfl
      clear hb4 hg4 t3 own3 hB3 hs3 hKl hNl HSl hK hS hN
      go_wp2_with (at_builtin; refine append_src rfl _ _ rfl w.heap.size w3.heap.size 0 [] rfl own5 (some ⟨g2, 0, none⟩) c2 K rfl own4.src (by simp; omega) hB4.size ?_)
      intro Z hZ g6 c6 w6 own6 hb6
      go_wp2
      go_ret
      have e : Z = orL L1 M := by rw [HX.out, ← HK.out]; exact hZ.out
      subst e
      exact ⟨_, _, ⟨rfl, own6⟩, hB4.trans hb6⟩
end Go.Proofs.Ytoifknepebplnaa
