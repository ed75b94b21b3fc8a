/-
  The terms of a text, and what a piece of it is worth (plain).
-/
import Derived.Test.YtaobgliimbmemaaDoorWordRec
namespace Go.Proofs.YtaobgliimbmemaaDoor
set_option linter.unusedVariables false

abbrev TmD := ByteArray × Nat
def isPl (st : List ByteArray) (d : WordD) : Bool := !(hasB st d.tx) && !(hasB st (stemB d.tx))
def plain1 (st : List ByteArray) (d : WordD) : List TmD := if isPl st d = true then [(stemB d.tx, d.at')] else []
/-- the terms ahead of what stands for others. -/
def plainL (st : List ByteArray) (ws : List WordD) : List TmD := ws.flatMap (plain1 st)
theorem plainL_nil (st : List ByteArray) : plainL st [] = [] := rfl
theorem plainL_yes {st : List ByteArray} {ws : List WordD} {k : Nat} (hk : k < ws.length) (h : isPl st ws[k] = true) : plainL st (ws.take (k + 1)) = plainL st (ws.take k) ++ [(stemB ws[k].tx, ws[k].at')] := by
  unfold plainL
  rw [← List.take_append_getElem hk, List.flatMap_append]
  simp [plain1, h]
theorem plainL_no {st : List ByteArray} {ws : List WordD} {k : Nat} (hk : k < ws.length) (h : isPl st ws[k] = false) : plainL st (ws.take (k + 1)) = plainL st (ws.take k) := by
  unfold plainL
  rw [← List.take_append_getElem hk, List.flatMap_append]
  simp [plain1, h]
theorem plain1_sub (st : List ByteArray) (d : WordD) : ((plain1 st d).map (·.2)).Sublist [d.at'] := by
  unfold plain1
  split
  · exact List.Sublist.refl _
  · exact List.nil_sublist _
theorem plainL_sub (st : List ByteArray) : ∀ ws : List WordD, ((plainL st ws).map (·.2)).Sublist (ws.map (·.at'))
  | [] => List.Sublist.refl _
  | d :: r => by
    have h := plainL_sub st r
    unfold plainL at h ⊢
    rw [List.flatMap_cons, List.map_append, List.map_cons]
    exact (plain1_sub st d).append h
theorem plainL_len (st : List ByteArray) (ws : List WordD) : (plainL st ws).length ≤ ws.length := by
  have := (plainL_sub st ws).length_le
  simpa using this
theorem plainL_mem {st : List ByteArray} {ws : List WordD} {t : TmD} (h : t ∈ plainL st ws) : ∃ d ∈ ws, t = (stemB d.tx, d.at') := by
  unfold plainL at h
  rw [List.mem_flatMap] at h
  obtain ⟨d, hd, ht⟩ := h
  unfold plain1 at ht
  split at ht
  · exact ⟨d, hd, by simpa using ht⟩
  · simp at ht

/-! a rule that terms begin with -/
def tmAt (L : List TmD) (i : Nat) : TmD := L.getD i (.empty, 0)
theorem tmAt_get {L : List TmD} {i : Nat} (h : i < L.length) : tmAt L i = L[i] := by unfold tmAt; rw [List.getD_eq_getElem?_getD, List.getElem?_eq_getElem h]; rfl
theorem tmAt_drop (L : List TmD) (a i : Nat) : tmAt (L.drop a) i = tmAt L (a + i) := by unfold tmAt; rw [List.getD_eq_getElem?_getD, List.getD_eq_getElem?_getD, List.getElem?_drop]
def begAt (L : List TmD) (fr : List ByteArray) (i : Nat) : Bool := decide ((tmAt L i).1 = fr.getD i .empty) && decide ((tmAt L i).2 = (tmAt L 0).2 + i)
def begTo (L : List TmD) (fr : List ByteArray) (k : Nat) : Bool := (List.range k).all (begAt L fr)
def begB (L : List TmD) (fr : List ByteArray) : Bool := decide (fr.length ≤ L.length) && begTo L fr fr.length
theorem begTo_succ (L : List TmD) (fr : List ByteArray) (k : Nat) : begTo L fr (k + 1) = (begTo L fr k && begAt L fr k) := by unfold begTo; rw [List.range_succ, List.all_append]; simp
theorem begTo_stop {L : List TmD} {fr : List ByteArray} {k : Nat} (hk : k < fr.length) (h : begAt L fr k = false) : begB L fr = false := by
  unfold begB begTo
  rw [Bool.and_eq_false_iff]
  right
  rw [← Bool.not_eq_true, List.all_eq_true]
  intro hh
  have := hh k (List.mem_range.2 hk)
  rw [h] at this
  cases this
theorem begB_short {L : List TmD} {fr : List ByteArray} (h : ¬ fr.length ≤ L.length) : begB L fr = false := by unfold begB; rw [decide_eq_false h]; rfl
theorem begB_long {L : List TmD} {fr : List ByteArray} (h : fr.length ≤ L.length) : begB L fr = begTo L fr fr.length := by unfold begB; rw [decide_eq_true h]; rfl
def frAt (sy : List SynD) (k : Nat) : List ByteArray := (sy.getD k ⟨[], .empty⟩).fr
def toAt (sy : List SynD) (k : Nat) : ByteArray := (sy.getD k ⟨[], .empty⟩).tgt
theorem frAt_get {sy : List SynD} {k : Nat} (h : k < sy.length) : frAt sy k = sy[k].fr := by unfold frAt; rw [List.getD_eq_getElem?_getD, List.getElem?_eq_getElem h]; rfl
theorem toAt_get {sy : List SynD} {k : Nat} (h : k < sy.length) : toAt sy k = sy[k].tgt := by unfold toAt; rw [List.getD_eq_getElem?_getD, List.getElem?_eq_getElem h]; rfl
def longer (sy : List SynD) (b : Option Nat) (k : Nat) : Bool := match b with | none => true | some j => decide ((frAt sy j).length < (frAt sy k).length)
/-- the longest rule of the first k, of those the first. -/
def ruleS (sy : List SynD) (L : List TmD) : Nat → Option Nat
  | 0 => none
  | k + 1 => if (begB L (frAt sy k) && longer sy (ruleS sy L k) k) = true then some k else ruleS sy L k
theorem ruleS_yes {sy : List SynD} {L : List TmD} {k : Nat} (h1 : begB L (frAt sy k) = true) (h2 : longer sy (ruleS sy L k) k = true) : ruleS sy L (k + 1) = some k := by
  show (if _ then _ else _) = _; rw [if_pos (by rw [h1, h2]; rfl)]
theorem ruleS_no1 {sy : List SynD} {L : List TmD} {k : Nat} (h1 : begB L (frAt sy k) = false) : ruleS sy L (k + 1) = ruleS sy L k := by
  show (if _ then _ else _) = _; rw [if_neg (by rw [h1]; simp)]
theorem ruleS_no2 {sy : List SynD} {L : List TmD} {k : Nat} (h2 : longer sy (ruleS sy L k) k = false) : ruleS sy L (k + 1) = ruleS sy L k := by
  show (if _ then _ else _) = _; rw [if_neg (by rw [h2]; simp)]
theorem ruleS_lt (sy : List SynD) (L : List TmD) : ∀ k j, ruleS sy L k = some j → j < k
  | 0, j, h => by cases h
  | k + 1, j, h => by
    have h' : (if (begB L (frAt sy k) && longer sy (ruleS sy L k) k) = true then some k else ruleS sy L k) = some j := h
    split at h'
    · cases h'; omega
    · have := ruleS_lt sy L k j h'; omega
theorem ruleS_beg (sy : List SynD) (L : List TmD) : ∀ k j, ruleS sy L k = some j → begB L (frAt sy j) = true
  | 0, j, h => by cases h
  | k + 1, j, h => by
    have h' : (if (begB L (frAt sy k) && longer sy (ruleS sy L k) k) = true then some k else ruleS sy L k) = some j := h
    split at h'
    · rename_i hc
      cases h'
      rw [Bool.and_eq_true] at hc
      exact hc.1
    · exact ruleS_beg sy L k j h'
/-- the terms, from the left. -/
def termsL (sy : List SynD) : List TmD → List TmD
  | [] => []
  | t :: r => match ruleS sy (t :: r) sy.length with
    | none => t :: termsL sy r
    | some k => (toAt sy k, t.2) :: termsL sy (r.drop ((frAt sy k).length - 1))
termination_by l => l.length
decreasing_by
  all_goals simp; try omega
theorem termsL_nil (sy : List SynD) : termsL sy [] = [] := by rw [termsL]
theorem termsL_none {sy : List SynD} {L : List TmD} {i : Nat} (hi : i < L.length) (h : ruleS sy (L.drop i) sy.length = none) : termsL sy (L.drop i) = L[i] :: termsL sy (L.drop (i + 1)) := by
  rw [List.drop_eq_getElem_cons hi] at h ⊢
  rw [termsL, h]
theorem termsL_some {sy : List SynD} {L : List TmD} {i k : Nat} (hi : i < L.length) (h : ruleS sy (L.drop i) sy.length = some k) (hf : 1 ≤ (frAt sy k).length) : termsL sy (L.drop i) = (toAt sy k, L[i].2) :: termsL sy (L.drop (i + (frAt sy k).length)) := by
  have e : L.drop (i + (frAt sy k).length) = (L.drop (i + 1)).drop ((frAt sy k).length - 1) := by rw [List.drop_drop]; congr 1; omega
  rw [e]
  rw [List.drop_eq_getElem_cons hi] at h ⊢
  rw [termsL, h]
theorem termsL_sub (sy : List SynD) (L : List TmD) : ((termsL sy L).map (·.2)).Sublist (L.map (·.2)) := by
  fun_induction termsL sy L with
  | case1 => exact List.Sublist.refl _
  | case2 t r h ih => exact ih.cons_cons _
  | case3 t r k h ih =>
    refine List.Sublist.cons_cons _ (ih.trans ?_)
    exact (List.drop_sublist _ _).map _
theorem termsL_len (sy : List SynD) (L : List TmD) : (termsL sy L).length ≤ L.length := by
  have := (termsL_sub sy L).length_le
  simpa using this
theorem wordsFrom_at (s : ByteArray) (i n : Nat) : (wordsFrom s i n).map (·.at') = List.range' n (wordsFrom s i n).length := by
  fun_induction wordsFrom s i n with
  | case1 i n h ih => rw [List.map_cons, ih, List.length_cons, List.range'_succ]
  | case2 i n h h2 ih => exact ih
  | case3 i n h h2 => rfl
/-- the words, the terms of a text. -/
def wordsB (s : ByteArray) : List WordD := wordsFrom s 0 0
def termsB (c : ConfD) (s : ByteArray) : List TmD := termsL c.sy (plainL c.st (wordsB s))
theorem termsB_sub (c : ConfD) (s : ByteArray) : ((termsB c s).map (·.2)).Sublist (List.range (wordsB s).length) := by
  have h := (termsL_sub c.sy _).trans (plainL_sub c.st (wordsB s))
  rw [show (wordsB s).map (·.at') = List.range (wordsB s).length by unfold wordsB; rw [wordsFrom_at, List.range_eq_range']] at h
  exact h
theorem termsB_nodup (c : ConfD) (s : ByteArray) : ((termsB c s).map (·.2)).Nodup := (termsB_sub c s).nodup List.nodup_range
theorem termsB_lt (c : ConfD) (s : ByteArray) : ∀ t ∈ termsB c s, t.2 < (wordsB s).length := by
  intro t ht
  have := (termsB_sub c s).subset (List.mem_map_of_mem (f := (·.2)) ht)
  simpa using this
theorem wordsB_len (s : ByteArray) : (wordsB s).length ≤ s.size := by have := wordsFrom_len s 0 0; unfold wordsB; omega
theorem termsB_len (c : ConfD) (s : ByteArray) : (termsB c s).length ≤ (wordsB s).length := by
  have := (termsB_sub c s).length_le
  simpa using this

/-! what a piece is worth -/
def cntP (f w a : Nat) (x : ByteArray) (t : TmD) : Bool := decide (t.1 = x) && (decide (a ≤ t.2) && decide (t.2 < a + w))
def cntT (L : List TmD) (x : ByteArray) (a w : Nat) : Nat := L.countP (fun t => decide (t.1 = x) && (decide (a ≤ t.2) && decide (t.2 < a + w)))
def kindsL (L : List TmD) (ts : List ByteArray) (a w : Nat) : Nat := (ts.filter (fun x => decide (0 < cntT L x a w))).length
def allL (L : List TmD) (ts : List ByteArray) (a w : Nat) : Nat := (ts.map (fun x => cntT L x a w)).sum
theorem cntT_le (L : List TmD) (x : ByteArray) (a w : Nat) : cntT L x a w ≤ L.length := List.countP_le_length
theorem kindsL_le (L : List TmD) (ts : List ByteArray) (a w : Nat) : kindsL L ts a w ≤ ts.length := List.length_filter_le _ _
theorem allL_le (L : List TmD) (a w : Nat) : ∀ ts : List ByteArray, allL L ts a w ≤ ts.length * L.length
  | [] => by simp [allL]
  | x :: r => by
    have h1 := allL_le L a w r
    have h2 := cntT_le L x a w
    unfold allL at h1 ⊢
    rw [List.map_cons, List.sum_cons, List.length_cons, Nat.succ_mul]
    omega
/-- is a piece better than another? -/
def better (k n k' n' : Int) : Bool := decide (k' < k) || (decide (k = k') && decide (n' < n))
def bestF (sc : Nat → Int × Int) : Nat → Nat × Int × Int
  | 0 => (0, -1, -1)
  | m + 1 => if better (sc m).1 (sc m).2 (bestF sc m).2.1 (bestF sc m).2.2 = true then (m, (sc m).1, (sc m).2) else bestF sc m
theorem bestF_yes {sc : Nat → Int × Int} {m : Nat} (h : better (sc m).1 (sc m).2 (bestF sc m).2.1 (bestF sc m).2.2 = true) : bestF sc (m + 1) = (m, (sc m).1, (sc m).2) := by
  show (if _ then _ else _) = _; rw [if_pos h]
theorem bestF_no {sc : Nat → Int × Int} {m : Nat} (h : better (sc m).1 (sc m).2 (bestF sc m).2.1 (bestF sc m).2.2 = false) : bestF sc (m + 1) = bestF sc m := by
  show (if _ then _ else _) = _; rw [if_neg (by rw [h]; simp)]
theorem bestF_lt (sc : Nat → Int × Int) : ∀ m, (bestF sc (m + 1)).1 < m + 1
  | 0 => by
    show (if better (sc 0).1 (sc 0).2 (-1) (-1) = true then (0, (sc 0).1, (sc 0).2) else ((0 : Nat), (-1 : Int), (-1 : Int))).1 < _
    split
    · show 0 < 1; omega
    · show 0 < 1; omega
  | m + 1 => by
    have h := bestF_lt sc m
    show (if better (sc (m + 1)).1 (sc (m + 1)).2 (bestF sc (m + 1)).2.1 (bestF sc (m + 1)).2.2 = true then (m + 1, (sc (m + 1)).1, (sc (m + 1)).2) else bestF sc (m + 1)).1 < _
    split
    · show m + 1 < _; omega
    · omega
theorem bestF_le (sc : Nat → Int × Int) (m : Nat) : (bestF sc m).1 ≤ m := by
  cases m with
  | zero => exact Nat.le_refl _
  | succ m => have := bestF_lt sc m; omega
theorem bestF_one (sc : Nat → Int × Int) : (bestF sc 1).1 = 0 := by have := bestF_lt sc 0; exact Nat.lt_one_iff.1 this
/-- what the best one is worth. -/
theorem bestF_sc (sc : Nat → Int × Int) (hs : ∀ k, 0 ≤ (sc k).1) : ∀ m, (bestF sc (m + 1)).2 = sc (bestF sc (m + 1)).1
  | 0 => by rw [bestF_yes (by show better (sc 0).1 (sc 0).2 (-1) (-1) = true; unfold better; rw [decide_eq_true (by have := hs 0; omega)]; rfl)]
  | m + 1 => by
    have h := bestF_sc sc hs m
    cases hb : better (sc (m + 1)).1 (sc (m + 1)).2 (bestF sc (m + 1)).2.1 (bestF sc (m + 1)).2.2 with
    | true => rw [bestF_yes hb]
    | false => rw [bestF_no hb]; exact h
/-- none is better; none ahead is as good. -/
theorem bestF_best (sc : Nat → Int × Int) : ∀ m k, k < m → better (sc k).1 (sc k).2 (bestF sc m).2.1 (bestF sc m).2.2 = false ∧ (k < (bestF sc m).1 → better (bestF sc m).2.1 (bestF sc m).2.2 (sc k).1 (sc k).2 = true)
  | 0, k, hk => by omega
  | m + 1, k, hk => by
    cases hb : better (sc m).1 (sc m).2 (bestF sc m).2.1 (bestF sc m).2.2 with
    | true =>
      rw [bestF_yes hb]
      rcases Nat.lt_or_ge k m with h | h
      · have h2 := (bestF_best sc m k h).1
        unfold better at hb h2 ⊢
        dsimp only
        simp only [Bool.or_eq_true, Bool.and_eq_true, decide_eq_true_eq, Bool.or_eq_false_iff, Bool.and_eq_false_iff, decide_eq_false_iff_not] at hb h2 ⊢
        omega
      · obtain rfl : k = m := by omega
        refine ⟨?_, fun h => absurd h (Nat.lt_irrefl _)⟩
        unfold better
        dsimp only
        simp
    | false =>
      rw [bestF_no hb]
      rcases Nat.lt_or_ge k m with h | h
      · exact bestF_best sc m k h
      · obtain rfl : k = m := by omega
        have hle := bestF_le sc k
        exact ⟨hb, fun h => absurd h (by omega)⟩
theorem bestF_congr {sc sc' : Nat → Int × Int} : ∀ m, (∀ k, k < m → sc k = sc' k) → bestF sc m = bestF sc' m
  | 0, _ => rfl
  | m + 1, h => by
    have ih := bestF_congr m (fun k hk => h k (by omega))
    show (if _ then _ else _) = (if _ then _ else _)
    rw [ih, h m (by omega)]
def scT (L : List TmD) (ts : List ByteArray) (w : Nat) (a : Nat) : Int × Int := ((kindsL L ts a w : Nat), (allL L ts a w : Nat))
/-- where the best piece begins. -/
def bestL (L : List TmD) (many : Nat) (ts : List ByteArray) (w : Nat) : Nat := (bestF (scT L ts w) (many + 1 - w)).1
def distB : List ByteArray → Bool
  | [] => true
  | x :: r => distB r && !(hasB r x)
def termOk (ts : List ByteArray) (k : Nat) : Bool := wordB (ts.getD k .empty) && !(hasB (ts.take k) (ts.getD k .empty))
def termsTo (ts : List ByteArray) (k : Nat) : Bool := (List.range k).all (termOk ts)
theorem termsTo_succ (ts : List ByteArray) (k : Nat) : termsTo ts (k + 1) = (termsTo ts k && termOk ts k) := by unfold termsTo; rw [List.range_succ, List.all_append]; simp
theorem termsTo_stop {ts : List ByteArray} {k : Nat} (hk : k < ts.length) (h : termOk ts k = false) : termsTo ts ts.length = false := by
  unfold termsTo
  rw [← Bool.not_eq_true, List.all_eq_true]
  intro hh
  have := hh k (List.mem_range.2 hk)
  rw [h] at this
  cases this
/-- what SnipOf answers. -/
def snipOkB (c : ConfD) (s : ByteArray) (ts : List ByteArray) (w : Int) : Bool := confB c && (textB s && (decide (ts.length ≤ 4) && (wi w 1 12 && termsTo ts ts.length)))
def snipL (c : ConfD) (s : ByteArray) (ts : List ByteArray) (w : Int) : Int := if snipOkB c s ts w = true then ((bestL (termsB c s) (wordsB s).length ts w.toNat : Nat) : Int) else -1

/-! marks -/
def markL (n : Nat) (ts : List ByteArray) (L : List TmD) : List ByteArray := L.foldl (fun m t => if hasB ts t.1 = true then m.set t.2 t.1 else m) (List.replicate n .empty)
theorem markL_snoc (n : Nat) (ts : List ByteArray) (L : List TmD) (t : TmD) : markL n ts (L ++ [t]) = if hasB ts t.1 = true then (markL n ts L).set t.2 t.1 else markL n ts L := by
  unfold markL; rw [List.foldl_append]; rfl
theorem markL_len (n : Nat) (ts : List ByteArray) (L : List TmD) : (markL n ts L).length = n := by
  suffices h : ∀ (L : List TmD) (m : List ByteArray), (L.foldl (fun m t => if hasB ts t.1 = true then m.set t.2 t.1 else m) m).length = m.length by
    unfold markL; rw [h, List.length_replicate]
  intro L
  induction L with
  | nil => intro m; rfl
  | cons t r ih => intro m; rw [List.foldl_cons, ih]; split <;> simp
theorem markL_yes {n : Nat} {ts : List ByteArray} {L : List TmD} {k : Nat} (hk : k < L.length) (h : hasB ts L[k].1 = true) : markL n ts (L.take (k + 1)) = (markL n ts (L.take k)).set L[k].2 L[k].1 := by
  rw [← List.take_append_getElem hk, markL_snoc, if_pos h]
theorem markL_no {n : Nat} {ts : List ByteArray} {L : List TmD} {k : Nat} (hk : k < L.length) (h : hasB ts L[k].1 = false) : markL n ts (L.take (k + 1)) = markL n ts (L.take k) := by
  rw [← List.take_append_getElem hk, markL_snoc, if_neg (by rw [h]; simp)]
/-- a place of no term is empty. -/
theorem markL_free (n : Nat) (ts : List ByteArray) : ∀ (L : List TmD) (p : Nat), (∀ t ∈ L, t.2 ≠ p) → (markL n ts L).getD p .empty = .empty := by
  intro L p
  suffices h : ∀ (L : List TmD) (m : List ByteArray), (∀ t ∈ L, t.2 ≠ p) → m.getD p .empty = .empty → (L.foldl (fun m t => if hasB ts t.1 = true then m.set t.2 t.1 else m) m).getD p .empty = .empty by
    intro hL
    refine h L _ hL ?_
    rw [List.getD_eq_getElem?_getD, List.getElem?_replicate]
    split <;> rfl
  intro L
  induction L with
  | nil => intro m _ h; exact h
  | cons t r ih =>
    intro m hL hm
    rw [List.foldl_cons]
    refine ih _ (fun x hx => hL x (List.mem_cons_of_mem _ hx)) ?_
    split
    · rw [List.getD_eq_getElem?_getD, List.getElem?_set_ne (hL t (by simp)), ← List.getD_eq_getElem?_getD]; exact hm
    · exact hm
def winL (M : List ByteArray) (a w : Nat) : List ByteArray := (M.drop a).take w
theorem winL_set (M : List ByteArray) (a w p : Nat) (v : ByteArray) : winL (M.set p v) a w = if p < a then winL M a w else (winL M a w).set (p - a) v := by
  unfold winL
  rw [List.drop_set]
  split
  · rfl
  · rw [List.take_set]
theorem winL_len (M : List ByteArray) (a w : Nat) : (winL M a w).length = min w (M.length - a) := by unfold winL; rw [List.length_take, List.length_drop]
theorem winL_get (M : List ByteArray) (a w i : Nat) (h : i < (winL M a w).length) : (winL M a w)[i]? = M[a + i]? := by
  rw [winL_len] at h
  unfold winL
  rw [List.getElem?_take, if_pos (by omega), List.getElem?_drop]
def cntB (M : List ByteArray) (x : ByteArray) : Nat := M.countP (fun y => decide (y = x))
/-- a term stands among the marks of a piece as often as among the terms. -/
theorem mark_cnt (n : Nat) (ts : List ByteArray) (x : ByteArray) (hx : hasB ts x = true) (hne : x ≠ .empty) (a w : Nat) : ∀ L : List TmD, (L.map (·.2)).Nodup → (∀ t ∈ L, t.2 < n) → cntB (winL (markL n ts L) a w) x = cntT L x a w := by
  intro L
  induction hL : L.length generalizing L with
  | zero =>
    obtain rfl := List.length_eq_zero_iff.1 hL
    intro _ _
    unfold cntB cntT markL winL
    rw [List.countP_nil, List.foldl_nil, List.countP_eq_zero]
    intro y hy
    have h1 := List.mem_of_mem_drop (List.mem_of_mem_take hy)
    rw [List.mem_replicate] at h1
    rw [h1.2]
    simp only [decide_eq_true_eq]
    exact fun e => hne e.symm
  | succ m ih =>
    intro hn hlt
    obtain ⟨L', t, rfl⟩ : ∃ L' t, L = L' ++ [t] := ⟨L.dropLast, L.getLast (by intro h; rw [h] at hL; simp at hL), (List.dropLast_concat_getLast _).symm⟩
    rw [List.map_append, List.nodup_append] at hn
    have ih' := ih L' (by simp at hL; omega) hn.1 (fun u hu => hlt u (by simp [hu]))
    have hfree : ∀ u ∈ L', u.2 ≠ t.2 := fun u hu => hn.2.2 u.2 (List.mem_map_of_mem (f := (·.2)) hu) t.2 (by simp)
    have hz := markL_free n ts L' t.2 hfree
    have ht := hlt t (by simp)
    have e : cntT (L' ++ [t]) x a w = cntT L' x a w + if decide (t.1 = x) && (decide (a ≤ t.2) && decide (t.2 < a + w)) then 1 else 0 := by
      unfold cntT
      rw [List.countP_append, List.countP_cons, List.countP_nil]
      simp
    rw [e, markL_snoc]
    have hml := markL_len n ts L'
    generalize markL n ts L' = M at ih' hz hml
    cases hb : hasB ts t.1 with
    | false =>
      have hne2 : t.1 ≠ x := fun h => by rw [h, hx] at hb; cases hb
      rw [if_neg (by simp), ih', if_neg (by simp [hne2])]
      rfl
    | true =>
      rw [if_pos rfl, winL_set]
      by_cases h1 : t.2 < a
      · rw [if_pos h1, ih', if_neg (by simp; omega)]
        rfl
      · rw [if_neg h1]
        by_cases h2 : t.2 < a + w
        · have hi : t.2 - a < (winL M a w).length := by rw [winL_len]; omega
          have hg : (winL M a w)[t.2 - a] = .empty := by
            have h3 := winL_get M a w (t.2 - a) hi
            rw [show a + (t.2 - a) = t.2 by omega, List.getElem?_eq_getElem hi] at h3
            rw [List.getD_eq_getElem?_getD, ← h3] at hz
            exact hz
          unfold cntB at ih' ⊢
          rw [List.countP_set hi, hg, ih']
          rw [if_neg (by simp; exact fun e => hne e.symm)]
          by_cases h4 : t.1 = x
          · rw [if_pos (by simp [h4]), if_pos (by simp [h4, h2]; omega)]; omega
          · rw [if_neg (by simp [h4]), if_neg (by simp [h4])]; omega
        · rw [List.set_eq_of_length_le (by rw [winL_len]; omega), ih', if_neg (by simp; omega)]
          rfl
/-- the marks are terms of the list, or empty. -/
theorem mark_mem (n : Nat) (ts : List ByteArray) : ∀ L : List TmD, ∀ x ∈ markL n ts L, x = .empty ∨ hasB ts x = true := by
  intro L
  induction hL : L.length generalizing L with
  | zero =>
    obtain rfl := List.length_eq_zero_iff.1 hL
    intro x hx
    exact .inl (List.mem_replicate.1 hx).2
  | succ m ih =>
    obtain ⟨L', t, rfl⟩ : ∃ L' t, L = L' ++ [t] := ⟨L.dropLast, L.getLast (by intro h; rw [h] at hL; simp at hL), (List.dropLast_concat_getLast _).symm⟩
    have ih' := ih L' (by simp at hL; omega)
    intro x hx
    rw [markL_snoc] at hx
    split at hx
    · rename_i h
      rcases List.mem_or_eq_of_mem_set hx with h1 | h1
      · exact ih' x h1
      · subst h1; exact .inr h
    · exact ih' x hx
/-- the same once each. -/
def dedB (xs : List ByteArray) : List ByteArray := xs.foldl (fun K x => if hasB K x = true then K else K ++ [x]) []
theorem dedB_ok : ∀ (xs K : List ByteArray), K.Nodup → (xs.foldl (fun K x => if hasB K x = true then K else K ++ [x]) K).Nodup ∧ ∀ y, y ∈ xs.foldl (fun K x => if hasB K x = true then K else K ++ [x]) K ↔ y ∈ K ∨ y ∈ xs
  | [], K, h => ⟨h, fun y => by simp⟩
  | x :: r, K, h => by
    rw [List.foldl_cons]
    cases hb : hasB K x with
    | true =>
      rw [if_pos rfl]
      obtain ⟨h1, h2⟩ := dedB_ok r K h
      refine ⟨h1, fun y => ?_⟩
      rw [h2 y, List.mem_cons]
      have := hasB_iff.1 hb
      constructor
      · rintro (h | h)
        · exact .inl h
        · exact .inr (.inr h)
      · rintro (h | rfl | h)
        · exact .inl h
        · exact .inl this
        · exact .inr h
    | false =>
      rw [if_neg (by simp)]
      have hx : x ∉ K := fun h => by rw [hasB_iff.2 h] at hb; cases hb
      have hK : (K ++ [x]).Nodup := by
        rw [List.nodup_append]
        refine ⟨h, by simp, fun a ha b hb => ?_⟩
        simp at hb
        subst hb
        intro e
        exact hx (e ▸ ha)
      obtain ⟨h1, h2⟩ := dedB_ok r _ hK
      refine ⟨h1, fun y => ?_⟩
      rw [h2 y, List.mem_cons, List.mem_append, List.mem_singleton, or_assoc]
def fullB (x : ByteArray) : Bool := decide (x ≠ .empty)
theorem distinct_len {A B : List ByteArray} (ha : A.Nodup) (hb : B.Nodup) (h : ∀ x, x ∈ A ↔ x ∈ B) : A.length = B.length := ((List.perm_ext_iff_of_nodup ha hb).2 h).length_eq
theorem sum_cnt : ∀ (M ts : List ByteArray), ts.Nodup → (∀ x ∈ M, hasB ts x = true) → (ts.map (cntB M)).sum = M.length := by
  intro M
  induction M with
  | nil =>
    intro ts _ _
    have : ∀ l : List ByteArray, (l.map (cntB [])).sum = 0 := by
      intro l
      induction l with
      | nil => rfl
      | cons y r ih => rw [List.map_cons, List.sum_cons, ih]; rfl
    rw [this]; rfl
  | cons y M ih =>
    intro ts hn h
    have h1 := ih ts hn (fun x hx => h x (by simp [hx]))
    have hy := hasB_iff.1 (h y (by simp))
    have key : ∀ l : List ByteArray, l.Nodup → (l.map (cntB (y :: M))).sum = (l.map (cntB M)).sum + if hasB l y = true then 1 else 0 := by
      intro l
      induction l with
      | nil => intro _; rw [if_neg (by rw [hasB_iff]; simp)]; rfl
      | cons z r ih2 =>
        intro hl
        rw [List.nodup_cons] at hl
        rw [List.map_cons, List.sum_cons, ih2 hl.2, List.map_cons, List.sum_cons]
        have e : cntB (y :: M) z = cntB M z + if y = z then 1 else 0 := by
          unfold cntB
          rw [List.countP_cons]
          simp
        rw [e]
        by_cases hz : y = z
        · subst hz
          rw [if_pos rfl, if_neg (by rw [hasB_iff]; exact hl.1), if_pos (by rw [hasB_iff]; simp)]
          omega
        · rw [if_neg hz]
          by_cases hr : y ∈ r
          · rw [if_pos (hasB_iff.2 hr), if_pos (by rw [hasB_iff]; simp [hr])]; omega
          · rw [if_neg (by rw [hasB_iff]; exact hr), if_neg (by rw [hasB_iff]; simp [hz, hr])]; omega
    rw [key ts hn, if_pos (hasB_iff.2 hy), h1, List.length_cons]
theorem cntB_filter (M : List ByteArray) (x : ByteArray) (hne : x ≠ .empty) : cntB (M.filter fullB) x = cntB M x := by
  unfold cntB
  rw [List.countP_filter]
  congr 1
  funext y
  unfold fullB
  by_cases h : y = x
  · subst h; simp [hne]
  · simp [h]
theorem cntB_pos (M : List ByteArray) (x : ByteArray) : 0 < cntB M x ↔ x ∈ M := by
  unfold cntB
  rw [List.countP_pos_iff]
  simp
/-- what impl counts of a piece is what it is worth. -/
theorem mark_sc (n : Nat) (ts : List ByteArray) (L : List TmD) (a w : Nat) (hts : ts.Nodup) (hte : ∀ x ∈ ts, x ≠ .empty) (hL : (L.map (·.2)).Nodup) (hlt : ∀ t ∈ L, t.2 < n) :
    (dedB ((winL (markL n ts L) a w).filter fullB)).length = kindsL L ts a w ∧ ((winL (markL n ts L) a w).filter fullB).length = allL L ts a w := by
  have hcnt : ∀ x ∈ ts, cntB ((winL (markL n ts L) a w).filter fullB) x = cntT L x a w := fun x hx => by
    rw [cntB_filter _ _ (hte x hx), mark_cnt n ts x (hasB_iff.2 hx) (hte x hx) a w L hL hlt]
  have hmem : ∀ x ∈ (winL (markL n ts L) a w).filter fullB, hasB ts x = true := fun x hx => by
    rw [List.mem_filter] at hx
    have h1 := List.mem_of_mem_drop (List.mem_of_mem_take hx.1)
    rcases mark_mem n ts L x h1 with h | h
    · unfold fullB at hx; simp [h] at hx
    · exact h
  generalize (winL (markL n ts L) a w).filter fullB = W at hcnt hmem
  constructor
  · unfold kindsL
    obtain ⟨h1, h2⟩ := dedB_ok W [] List.nodup_nil
    refine distinct_len h1 (hts.sublist List.filter_sublist) fun x => ?_
    have h3 := h2 x
    unfold dedB
    rw [h3, List.mem_filter, decide_eq_true_eq]
    constructor
    · rintro (h | h)
      · simp at h
      · have := hasB_iff.1 (hmem x h)
        exact ⟨this, by rw [← hcnt x this]; exact (cntB_pos W x).2 h⟩
    · rintro ⟨h, h4⟩
      rw [← hcnt x h] at h4
      exact .inr ((cntB_pos W x).1 h4)
  · rw [← sum_cnt W ts hts hmem]
    unfold allL
    congr 1
    exact List.map_congr_left hcnt
theorem termsTo_nodup (ts : List ByteArray) : ∀ k, k ≤ ts.length → termsTo ts k = true → (ts.take k).Nodup ∧ ∀ x ∈ ts.take k, wordB x = true
  | 0, _, _ => by simp
  | k + 1, hk, h => by
    rw [termsTo_succ, Bool.and_eq_true] at h
    obtain ⟨h1, h2⟩ := termsTo_nodup ts k (by omega) h.1
    have h3 := h.2
    unfold termOk at h3
    rw [getT (show k < ts.length by omega), Bool.and_eq_true] at h3
    rw [← List.take_append_getElem (show k < ts.length by omega)]
    refine ⟨?_, fun x hx => ?_⟩
    · rw [List.nodup_append]
      refine ⟨h1, by simp, fun a ha b hb => ?_⟩
      simp at hb
      subst hb
      intro e
      have h4 := h3.2
      rw [hasB_iff.2 (e ▸ ha)] at h4
      cases h4
    · rcases List.mem_append.1 hx with h4 | h4
      · exact h2 x h4
      · simp at h4; subst h4; exact h3.1
theorem wordB_ne {x : ByteArray} (h : wordB x = true) : x ≠ .empty := by
  intro e
  subst e
  exact absurd h (by decide)
theorem wordB_size {x : ByteArray} (h : wordB x = true) : 1 ≤ x.size ∧ x.size ≤ 12 := by
  unfold wordB wi at h
  simp at h
  omega
end Go.Proofs.YtaobgliimbmemaaDoor
