/-
  Plain laws of the union, further.
-/
import Derived.Test.YtoifknepebplnaaSpecOr
namespace Go.Proofs.Ytoifknepebplnaa
open Go.RowKit
set_option linter.unusedVariables false

theorem orL_yes {L M : List Int} (h : upB L = true) (h' : upB M = true) : orL L M = unionI L M := by unfold orL; rw [h, h']; rfl
theorem or_mem {L M : List Int} (h : upB L = true) (h' : upB M = true) (x : Int) : x ∈ orL L M ↔ x ∈ L ∨ x ∈ M := by rw [orL_yes h h', unionI_mem]
theorem or_in_law {L M : List Int} (h : upB L = true) (h' : upB M = true) (x : Int) : inB (orL L M) x = (inB L x || inB M x) := by
  rw [Bool.eq_iff_iff, Bool.or_eq_true, inB_iff, inB_iff, inB_iff, or_mem h h']
theorem or_comm_law {L M : List Int} (h : upB L = true) (h' : upB M = true) : orL M L = orL L M := by
  rw [orL_yes h h', orL_yes h' h]
  exact asc_ext (unionI_asc _ _) (unionI_asc _ _) fun x => by rw [unionI_mem, unionI_mem, or_comm]
theorem asc_nodup {L : List Int} (h : L.Pairwise (· < ·)) : L.Nodup := h.imp (fun h => by intro e; omega)
theorem asc_filter_split (L : List Int) (p : Int → Bool) : (L.filter p).length + (L.filter fun x => !p x).length = L.length := by
  induction L with
  | nil => rfl
  | cons x r ih =>
    rw [List.filter_cons, List.filter_cons]
    cases p x <;> simp <;> omega
theorem or_len_law {L M : List Int} (h : upB L = true) (h' : upB M = true) : (orL L M).length + (andL L M).length = L.length + M.length := by
  have hL := (upB_iff.1 h).2.1
  have hM := (upB_iff.1 h').2.1
  have e1 : orL L M = orL (L.filter fun x => !inB M x) M := by
    have h2 := up_filter h (fun x => !inB M x)
    rw [orL_yes h h', orL_yes h2 h']
    refine asc_ext (unionI_asc _ _) (unionI_asc _ _) fun x => ?_
    rw [unionI_mem, unionI_mem, List.mem_filter, Bool.not_eq_true', ← Bool.not_eq_true, inB_iff]
    constructor
    · rintro (hx | hx)
      · by_cases hm : x ∈ M
        · exact .inr hm
        · exact .inl ⟨hx, hm⟩
      · exact .inr hx
    · rintro (hx | hx)
      · exact .inl hx.1
      · exact .inr hx
  have e2 : (orL (L.filter fun x => !inB M x) M).length = (L.filter fun x => !inB M x).length + M.length := by
    have h2 := up_filter h (fun x => !inB M x)
    rw [orL_yes h2 h']
    have hp : (unionI (L.filter fun x => !inB M x) M).Perm ((L.filter fun x => !inB M x) ++ M) := by
      refine (List.perm_ext_iff_of_nodup (asc_nodup (unionI_asc _ _)) ?_).2 fun x => by rw [unionI_mem, List.mem_append]
      rw [List.nodup_append]
      refine ⟨asc_nodup (hL.filter _), asc_nodup hM, fun x hx y hy e => ?_⟩
      subst e
      have := (List.mem_filter.1 hx).2
      rw [Bool.not_eq_true', ← Bool.not_eq_true, inB_iff] at this
      exact this hy
    rw [hp.length_eq, List.length_append]
  rw [e1, e2, andL_yes h h']
  have := asc_filter_split L (inB M)
  omega
theorem less_or_law {L M : List Int} (h : upB L = true) (h' : upB M = true) : orL (lessL L M) (andL L M) = L := by
  rw [orL_yes (up_less h h') (up_and h h')]
  refine asc_ext (unionI_asc _ _) (upB_iff.1 h).2.1 fun x => ?_
  rw [unionI_mem, less_mem h h', and_mem h h']
  by_cases hm : x ∈ M
  · exact ⟨fun e => by rcases e with e | e; exact e.1; exact e.1, fun e => .inr ⟨e, hm⟩⟩
  · exact ⟨fun e => by rcases e with e | e; exact e.1; exact e.1, fun e => .inl ⟨e, hm⟩⟩
end Go.Proofs.Ytoifknepebplnaa
