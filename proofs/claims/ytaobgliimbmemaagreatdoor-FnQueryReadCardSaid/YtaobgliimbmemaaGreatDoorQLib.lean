/-
  strings.Cut, strings.Split as the library's contracts tell them, in the plain law's words (no program).
-/
import Derived.Test.YtaobgliimbmemaaGreatDoorQLaw
import Derived.Lib.IndexMore
import Derived.Lib.Split
namespace Go.Proofs.YtaobgliimbmemaaGreatDoor
set_option linter.unusedVariables false

theorem cutQ_some : ∀ {b : UInt8} {l p r : Tx}, cutQ b l = some (p, r) → l = p ++ b :: r ∧ b ∉ p
  | b, [], p, r, h => by cases h
  | b, x :: l, p, r, h => by
    rw [cutQ] at h
    split at h
    · rename_i hx
      cases h
      exact ⟨by rw [hx]; rfl, by simp⟩
    · rename_i hx
      obtain ⟨⟨p', r'⟩, h1, h2⟩ := Option.map_eq_some_iff.1 h
      cases h2
      obtain ⟨e1, e2⟩ := cutQ_some h1
      exact ⟨by rw [e1]; rfl, by rw [List.mem_cons]; exact fun e => e.elim (fun e => hx e.symm) e2⟩
theorem cutQ_no : ∀ {b : UInt8} {l : Tx}, cutQ b l = none → b ∉ l
  | b, [], _ => by simp
  | b, x :: l, h => by
    rw [cutQ] at h
    split at h
    · cases h
    · rename_i hx
      have := cutQ_no (Option.map_eq_none_iff.1 h)
      rw [List.mem_cons]; exact fun e => e.elim (fun e => hx e.symm) this
theorem index_one (b : UInt8) : ∀ l : Tx, Lib.index l [b] = match cutQ b l with | none => -1 | some p => (p.1.length : Int)
  | [] => rfl
  | x :: l => by
    have ih := index_one b l
    have e : ([b] : Tx).isPrefixOf (x :: l) = (b == x) := by simp [List.isPrefixOf]
    rw [Lib.index, e, cutQ]
    by_cases hx : x = b
    · subst hx; simp
    · rw [if_neg (by simpa using fun e => hx e.symm), if_neg hx, ih]
      cases cutQ b l with
      | none => rfl
      | some p =>
        simp only [Option.map_some, List.length_cons]
        rw [if_neg (by simp)]
        rfl
theorem cut_one (b : UInt8) (l : Tx) : Lib.cut l [b] = match cutQ b l with | none => (l, [], false) | some p => (p.1, p.2, true) := by
  unfold Lib.cut
  rw [index_one]
  cases h : cutQ b l with
  | none => rw [if_neg (by decide)]
  | some p =>
    obtain ⟨p, r⟩ := p
    obtain ⟨rfl, h2⟩ := cutQ_some h
    simp only
    rw [if_pos (by omega), Int.toNat_natCast]
    simp
theorem index_two : ∀ l : Tx, (Lib.index l [46, 46] = -1 ∧ cut2L l = (l, [])) ∨ ∃ p r, cut2L l = (p, r) ∧ Lib.index l [46, 46] = (p.length : Int) ∧ l = p ++ 46 :: 46 :: r
  | [] => .inl ⟨rfl, rfl⟩
  | [x] => .inl ⟨by rw [Lib.index]; simp [List.isPrefixOf, Lib.index], by rw [cut2L]⟩
  | x :: y :: l => by
    have ih := index_two (y :: l)
    have e : ([46, 46] : Tx).isPrefixOf (x :: y :: l) = ((46 == x) && (46 == y)) := by simp [List.isPrefixOf]
    rw [Lib.index, e, cut2L]
    by_cases hx : x = 46 ∧ y = 46
    · obtain ⟨rfl, rfl⟩ := hx
      exact .inr ⟨[], l, by simp, by simp, rfl⟩
    · have hb : ((46 == x) && (46 == y)) = false := by
        rw [← Bool.not_eq_true, Bool.and_eq_true, beq_iff_eq, beq_iff_eq]
        exact fun e => hx ⟨e.1.symm, e.2.symm⟩
      rw [hb, if_neg (by decide), if_neg hx]
      rcases ih with ⟨h1, h2⟩ | ⟨p, r, h1, h2, h3⟩
      · exact .inl ⟨by rw [h1]; rfl, by rw [h2]⟩
      · refine .inr ⟨x :: p, r, by rw [h1], ?_, by rw [h3]; rfl⟩
        rw [h2, if_neg (by simp), List.length_cons]
        omega
theorem cut_two (l : Tx) : (Lib.cut l [46, 46]).1 = (cut2L l).1 ∧ (Lib.cut l [46, 46]).2.1 = (cut2L l).2 := by
  unfold Lib.cut
  rcases index_two l with ⟨h1, h2⟩ | ⟨p, r, h1, h2, h3⟩
  · rw [h1, h2, if_neg (by decide)]; exact ⟨rfl, rfl⟩
  · rw [h2, h1, if_pos (by omega), Int.toNat_natCast]
    subst h3
    simp
theorem split_from : ∀ (n : Nat) (l : Tx), l.length ≤ n → Lib.splitK [43] 0 (Lib.countFrom [43] (n + 1) l) l = splitL l
  | n, l, hn => by
    cases h : cutQ 43 l with
    | none =>
      have e : Lib.index l [43] = -1 := by rw [index_one, h]
      rw [Lib.countFrom, if_pos (by rw [e]; rfl), Lib.splitK, splitL_word (cutQ_no h)]
    | some p =>
      obtain ⟨p, r⟩ := p
      obtain ⟨rfl, h2⟩ := cutQ_some h
      have e : Lib.index (p ++ 43 :: r) [43] = (p.length : Int) := by rw [index_one, h]
      have hd : (p ++ 43 :: r).drop (p.length + 1) = r := by simp
      cases n with
      | zero => simp at hn
      | succ n =>
        have ih := split_from n r (by simp at hn; omega)
        rw [Lib.countFrom, if_neg (by rw [e]; simp), e, Int.toNat_natCast, show ([43] : Tx).length = 1 from rfl, hd, Nat.add_comm 1, Lib.splitK, if_neg (by rw [e]; simp), e, Int.toNat_natCast, show ([43] : Tx).length = 1 from rfl, hd, ih, splitL_at h2]
        simp
theorem split_plus (l : Tx) : Lib.splitK [43] 0 (Lib.count l [43]) l = splitL l := split_from l.length l (Nat.le_refl _)
theorem splitL_ne (l : Tx) : splitL l ≠ [] := by
  cases l with
  | nil => simp [splitL]
  | cons x r => rw [splitL]; split <;> (try split) <;> simp
end Go.Proofs.YtaobgliimbmemaaGreatDoor
