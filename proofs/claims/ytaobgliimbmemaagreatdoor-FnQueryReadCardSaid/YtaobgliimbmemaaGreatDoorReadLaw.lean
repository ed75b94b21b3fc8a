/-
  How long what is read is (plain).
-/
import Derived.Test.YtaobgliimbmemaaGreatDoorQLib
namespace Go.Proofs.YtaobgliimbmemaaGreatDoor
open Go.RowKit Go.Sort
set_option linter.unusedVariables false
set_option linter.unusedSimpArgs false

theorem cutQ_len {b : UInt8} {l p r : Tx} (h : cutQ b l = some (p, r)) : p.length + r.length + 1 = l.length := by
  obtain ⟨rfl, _⟩ := cutQ_some h
  simp; omega
theorem cut2L_len (l : Tx) : (cut2L l).1.length ≤ l.length ∧ (cut2L l).2.length ≤ l.length := by
  rcases index_two l with ⟨_, h2⟩ | ⟨p, r, h1, _, rfl⟩
  · rw [h2]; simp
  · rw [h1]; simp; omega
theorem splitL_len : ∀ l : Tx, (splitL l).length ≤ l.length + 1 ∧ ∀ x ∈ splitL l, x.length ≤ l.length
  | [] => by simp [splitL]
  | x :: r => by
    obtain ⟨h1, h2⟩ := splitL_len r
    rw [splitL]
    split
    · refine ⟨by simp; omega, fun y hy => ?_⟩
      rcases List.mem_cons.1 hy with rfl | hy
      · simp
      · have := h2 y hy; simp; omega
    · cases hs : splitL r with
      | nil => exact ⟨by simp, fun y hy => by simp at hy; subst hy; simp⟩
      | cons a t =>
        rw [hs] at h1 h2
        refine ⟨by simpa using Nat.le_succ_of_le h1, fun y hy => ?_⟩
        rcases List.mem_cons.1 hy with rfl | hy
        · have := h2 a (by simp); simp; omega
        · have := h2 y (List.mem_cons_of_mem _ hy); simp; omega
theorem cutS_len (b : UInt8) : ∀ (m : Nat) (l : Tx), (cutS b m l).length ≤ m + 1 ∧ ∀ x ∈ cutS b m l, x.length ≤ l.length
  | 0, l => by simp [cutS]
  | m + 1, l => by
    rw [cutS]
    cases h : cutQ b l with
    | none => simp
    | some p =>
      obtain ⟨p, r⟩ := p
      obtain ⟨h1, h2⟩ := cutS_len b m r
      have h3 := cutQ_len h
      refine ⟨by simpa using h1, fun y hy => ?_⟩
      rcases List.mem_cons.1 hy with rfl | hy
      · omega
      · have := h2 y hy; omega
theorem cutS_ne (b : UInt8) (m : Nat) (l : Tx) : cutS b m l ≠ [] := by
  cases m with
  | zero => simp [cutS]
  | succ m => rw [cutS]; cases cutQ b l with | none => simp | some p => simp
/-- a leaf is small. -/
def SmL (q : QD) : Prop := (q.fd.size ≤ 1000 ∧ q.ws.length ≤ 1001 ∧ ∀ s ∈ q.ws, s.size ≤ 1000) ∧ q.ks = [] ∧ (Lit.int .i64 q.kd).wf = true
theorem SmL.lm {q : QD} (h : SmL q) : ∀ n, LmQ 1048576 n q
  | 0 => trivial
  | n + 1 => ⟨by have := h.1.1; omega, by have := h.1.2.1; omega, fun s hs => by have := h.1.2.2 s hs; omega, by rw [h.2.1]; simp, by rw [h.2.1]; simp⟩
theorem SmL.wf {q : QD} (h : SmL q) : ∀ n, WfQ n q
  | 0 => trivial
  | n + 1 => ⟨h.2.2, by rw [h.2.1]; simp⟩
theorem leafI_sm (t : Tx) (ht : t.length ≤ 1000) : SmL (leafI t) := by
  unfold leafI
  split
  · exact ⟨⟨by decide, by decide, fun s hs => by simp at hs⟩, rfl, by decide⟩
  split
  · rename_i name rest h
    have h1 := cutQ_len h
    split
    · rename_i ws slop h2
      have h3 := cutQ_len h2
      obtain ⟨h4, h5⟩ := splitL_len ws
      refine ⟨⟨by show (tb name).size ≤ _; rw [tb_size]; omega, by show ((splitL ws).map tb).length ≤ _; rw [List.length_map]; omega, fun s hs => ?_⟩, rfl, rfl⟩
      obtain ⟨x, hx, rfl⟩ := List.mem_map.1 hs
      have := h5 x hx
      rw [tb_size]; omega
    split
    · rename_i wd far h2
      have h3 := cutQ_len h2
      exact ⟨⟨by show (tb name).size ≤ _; rw [tb_size]; omega, by show 1 ≤ _; omega, fun s hs => by simp at hs; subst hs; rw [tb_size]; omega⟩, rfl, rfl⟩
    split
    · exact ⟨⟨by show (tb name).size ≤ _; rw [tb_size]; omega, by show 1 ≤ _; omega, fun s hs => by simp at hs; subst hs; rw [tb_size]; omega⟩, rfl, rfl⟩
    · exact ⟨⟨by show (tb name).size ≤ _; rw [tb_size]; omega, by show 1 ≤ _; omega, fun s hs => by simp at hs; subst hs; rw [tb_size]; omega⟩, rfl, rfl⟩
  · have h1 : ((cutQ 61 t).getD (t, [])).1.length ≤ t.length := by
      cases h : cutQ 61 t with
      | none => simp
      | some p => obtain ⟨p, r⟩ := p; have := cutQ_len h; simp; omega
    exact ⟨⟨by show (tb _).size ≤ _; rw [tb_size]; omega, by show 0 ≤ _; omega, fun s hs => by simp at hs⟩, rfl, by show (Lit.int .i64 6).wf = true; decide⟩
theorem leafS_sm (t : Tx) (ht : t.length ≤ 1000) : SmL (leafS t) := by
  unfold leafS
  split
  · exact ⟨⟨by decide, by decide, fun s hs => by simp at hs⟩, rfl, by decide⟩
  split
  · rename_i name rest h
    have h1 := cutQ_len h
    split
    · exact ⟨⟨by show (tb name).size ≤ _; rw [tb_size]; omega, by show 0 ≤ _; omega, fun s hs => by simp at hs⟩, rfl, by show (Lit.int .i64 6).wf = true; decide⟩
    · exact ⟨⟨by decide, by decide, fun s hs => by simp at hs⟩, rfl, by decide⟩
  · split
    · exact ⟨⟨by decide, by decide, fun s hs => by simp at hs⟩, rfl, by decide⟩
    · rename_i name rest h
      have h1 := cutQ_len h
      split
      · rename_i ws slop h2
        have h3 := cutQ_len h2
        obtain ⟨h4, h5⟩ := cutS_len 43 5 ws
        refine ⟨⟨by show (tb name).size ≤ _; rw [tb_size]; omega, by show ((cutS 43 5 ws).map tb).length ≤ _; rw [List.length_map]; omega, fun s hs => ?_⟩, rfl, rfl⟩
        obtain ⟨x, hx, rfl⟩ := List.mem_map.1 hs
        have := h5 x hx
        rw [tb_size]; omega
      split
      · rename_i wd far h2
        have h3 := cutQ_len h2
        exact ⟨⟨by show (tb name).size ≤ _; rw [tb_size]; omega, by show 1 ≤ _; omega, fun s hs => by simp at hs; subst hs; rw [tb_size]; omega⟩, rfl, rfl⟩
      split
      · exact ⟨⟨by show (tb name).size ≤ _; rw [tb_size]; omega, by show 1 ≤ _; omega, fun s hs => by simp at hs; subst hs; rw [tb_size]; omega⟩, rfl, rfl⟩
      · exact ⟨⟨by show (tb name).size ≤ _; rw [tb_size]; omega, by show 1 ≤ _; omega, fun s hs => by simp at hs; subst hs; rw [tb_size]; omega⟩, rfl, rfl⟩
theorem lm_node {k : Nat} {kd fr : Int} {ks : List QD} (hl : ks.length ≤ 1048576) (h : ∀ y ∈ ks, LmQ 1048576 k y) : LmQ 1048576 (k + 1) ⟨kd, ⟨#[]⟩, [], fr, 0, ks⟩ := ⟨by show (0 : Nat) ≤ _; omega, by show (0 : Nat) ≤ _; omega, fun s hs => by simp at hs, hl, h⟩
theorem wf_node {k : Nat} {kd fr : Int} {ks : List QD} (hw : (Lit.int .i64 kd).wf = true) (h : ∀ y ∈ ks, WfQ k y) : WfQ (k + 1) ⟨kd, ⟨#[]⟩, [], fr, 0, ks⟩ := ⟨hw, h⟩
theorem tokL_le (l : Tx) : (tokL l).length ≤ l.length ∧ (rstL l).length ≤ l.length := by
  have h : tokL l ++ rstL l = l := List.takeWhile_append_dropWhile
  have := congrArg List.length h
  rw [List.length_append] at this
  omega
theorem kindOf_mem (l : Tx) : kindOf l = 0 ∨ kindOf l = 7 ∨ kindOf l = 8 ∨ kindOf l = 9 ∨ kindOf l = 10 := by
  unfold kindOf
  split
  · exact .inr (.inl rfl)
  split
  · exact .inr (.inr (.inl rfl))
  split
  · exact .inr (.inr (.inr (.inl rfl)))
  split
  · exact .inr (.inr (.inr (.inr rfl)))
  · exact .inl rfl
theorem kindOf_wf (l : Tx) : (Lit.int .i64 (kindOf l)).wf = true := by
  rcases kindOf_mem l with h | h | h | h | h <;> rw [h] <;> decide
theorem kidsI_sm (f : Tx → QD × Tx) (hf : ∀ l : Tx, (f l).2.length ≤ l.length) : ∀ (c : Nat) (l : Tx), (kidsI f c l).1.length ≤ c ∧ (kidsI f c l).2.length ≤ l.length ∧ ∀ k ∈ (kidsI f c l).1, ∃ l' : Tx, l'.length ≤ l.length ∧ k = (f l').1
  | c, [] => by cases c <;> simp [kidsI]
  | 0, b :: l => by
    by_cases hb : b = 32
    · subst hb; simp [kidsI]
    · have : kidsI f 0 (b :: l) = ([], b :: l) := by rw [kidsI]; intro l' h; simp at h; exact hb h.1
      rw [this]; simp
  | c + 1, b :: l => by
    by_cases hb : b = 32
    · subst hb
      obtain ⟨h1, h2, h3⟩ := kidsI_sm f hf c (f l).2
      have h4 := hf l
      have e : kidsI f (c + 1) (32 :: l) = ((f l).1 :: (kidsI f c (f l).2).1, (kidsI f c (f l).2).2) := by rw [kidsI]
      rw [e]
      refine ⟨by simpa using h1, by simp; omega, fun k hk => ?_⟩
      rcases List.mem_cons.1 hk with rfl | hk
      · exact ⟨l, by simp, rfl⟩
      · obtain ⟨l', h5, h6⟩ := h3 k hk
        exact ⟨l', by simp; omega, h6⟩
    · have : kidsI f (c + 1) (b :: l) = ([], b :: l) := by rw [kidsI]; intro l' h; simp at h; exact hb h.1
      rw [this]; simp
theorem skipL_le (b : UInt8) (l : Tx) : (skipL b l).length ≤ l.length := by unfold skipL; split <;> simp
theorem frI_le (kd : Int) (l : Tx) : (frI kd l).2.length ≤ l.length := by
  unfold frI
  split
  · have := (tokL_le l.tail).2; simp at this ⊢; omega
  · exact Nat.le_refl _
theorem queryI_le : ∀ (n : Nat) (l : Tx), (queryI n l).2.length ≤ l.length
  | 0, l => (tokL_le l).2
  | n + 1, l => by
    rw [show queryI (n + 1) l = if l.head? = some 40 then nodeI (queryI n) l.tail else (leafI (tokL l), rstL l) from rfl]
    split
    · have h1 := (kidsI_sm (queryI n) (queryI_le n) 200 (frI (kindOf (tokL l.tail)) (rstL l.tail)).2).2.1
      have h2 := frI_le (kindOf (tokL l.tail)) (rstL l.tail)
      have h3 := (tokL_le l.tail).2
      have h4 := skipL_le 41 (kidsI (queryI n) 200 (frI (kindOf (tokL l.tail)) (rstL l.tail)).2).2
      show (skipL 41 (kidsI (queryI n) 200 (frI (kindOf (tokL l.tail)) (rstL l.tail)).2).2).length ≤ _
      rw [List.length_tail] at h3
      omega
    · exact (tokL_le l).2
theorem queryI_lm : ∀ (n : Nat) (l : Tx), l.length ≤ 1000 → ∀ k, LmQ 1048576 k (queryI n l).1 ∧ WfQ k (queryI n l).1
  | 0, l, hl, k => by have h := leafI_sm (tokL l) (by have := (tokL_le l).1; omega); exact ⟨h.lm k, h.wf k⟩
  | n + 1, l, hl, k => by
    rw [show queryI (n + 1) l = if l.head? = some 40 then nodeI (queryI n) l.tail else (leafI (tokL l), rstL l) from rfl]
    split
    · cases k with
      | zero => exact ⟨trivial, trivial⟩
      | succ k =>
        obtain ⟨h1, _, h2⟩ := kidsI_sm (queryI n) (queryI_le n) 200 (frI (kindOf (tokL l.tail)) (rstL l.tail)).2
        have h3 := frI_le (kindOf (tokL l.tail)) (rstL l.tail)
        have h4 := (tokL_le l.tail).2
        rw [List.length_tail] at h4
        have h5 : ∀ y ∈ (kidsI (queryI n) 200 (frI (kindOf (tokL l.tail)) (rstL l.tail)).2).1, LmQ 1048576 k y ∧ WfQ k y := fun y hy => by
          obtain ⟨l', h6, rfl⟩ := h2 y hy
          exact queryI_lm n l' (by omega) k
        exact ⟨lm_node (Nat.le_trans h1 (by omega)) (fun y hy => (h5 y hy).1), wf_node (kindOf_wf _) (fun y hy => (h5 y hy).2)⟩
    · have h := leafI_sm (tokL l) (by have := (tokL_le l).1; omega); exact ⟨h.lm k, h.wf k⟩
/-! spec's reader -/
theorem endL_le : ∀ (l : Tx) (o : Nat), endL o l ≤ l.length
  | [], _ => Nat.le_refl _
  | b :: r, o => by
    rw [endL]
    have h1 := endL_le r (o + 1)
    have h2 := endL_le r (o - 1)
    have h3 := endL_le r o
    split
    · simp; omega
    split
    · simp
    split <;> simp <;> omega
theorem piecesL_sm : ∀ (c : Nat) (l : Tx), (piecesL c l).length ≤ c ∧ ∀ x ∈ piecesL c l, x.length ≤ l.length
  | 0, l => by simp [piecesL]
  | c + 1, l => by
    obtain ⟨h1, h2⟩ := piecesL_sm c (l.drop (endL 0 l + 1))
    rw [piecesL]
    split
    · exact ⟨by simp, fun x hx => by simp at hx; subst hx; rw [List.length_take]; omega⟩
    · refine ⟨by simpa using h1, fun x hx => ?_⟩
      rcases List.mem_cons.1 hx with rfl | hx
      · rw [List.length_take]; omega
      · have := h2 x hx; rw [List.length_drop] at this; omega
theorem readS_lm : ∀ (m : Nat) (l : Tx), l.length ≤ 1000 → ∀ k, LmQ 1048576 k (readS m l) ∧ WfQ k (readS m l)
  | 0, l, hl, k => ⟨(leafS_sm l hl).lm k, (leafS_sm l hl).wf k⟩
  | m + 1, l, hl, k => by
    rw [show readS (m + 1) l = if l.length < 2 ∨ l.head? ≠ some 40 ∨ l.getLast? ≠ some 41 then leafS l else nodeS (readS m) (piecesL 7 l.tail.dropLast) from rfl]
    split
    · exact ⟨(leafS_sm l hl).lm k, (leafS_sm l hl).wf k⟩
    · obtain ⟨h1, h2⟩ := piecesL_sm 7 l.tail.dropLast
      have hl2 : l.tail.dropLast.length ≤ 1000 := by rw [List.length_dropLast, List.length_tail]; omega
      generalize piecesL 7 l.tail.dropLast = ws at h1 h2
      cases k with
      | zero => exact ⟨trivial, trivial⟩
      | succ k =>
        have h3 : ∀ x ∈ ws, LmQ 1048576 k (readS m x) ∧ WfQ k (readS m x) := fun x hx => readS_lm m x (by have := h2 x hx; omega) k
        unfold nodeS
        dsimp only
        split
        · split
          · exact ⟨lm_node (by simp) (fun y hy => by simp at hy), wf_node rfl (fun y hy => by simp at hy)⟩
          · have h4 : ∀ y ∈ ws.tail.tail.map (readS m), LmQ 1048576 k y ∧ WfQ k y := fun y hy => by
              obtain ⟨x, hx, rfl⟩ := List.mem_map.1 hy
              exact h3 x (List.mem_of_mem_tail (List.mem_of_mem_tail hx))
            exact ⟨lm_node (by rw [List.length_map, List.length_tail, List.length_tail]; omega) (fun y hy => (h4 y hy).1), wf_node rfl (fun y hy => (h4 y hy).2)⟩
        · have h4 : ∀ y ∈ ws.tail.map (readS m), LmQ 1048576 k y ∧ WfQ k y := fun y hy => by
            obtain ⟨x, hx, rfl⟩ := List.mem_map.1 hy
            exact h3 x (List.mem_of_mem_tail hx)
          exact ⟨lm_node (by rw [List.length_map, List.length_tail]; omega) (fun y hy => (h4 y hy).1), wf_node (kindOf_wf _) (fun y hy => (h4 y hy).2)⟩
end Go.Proofs.YtaobgliimbmemaaGreatDoor
