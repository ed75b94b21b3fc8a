/-
  A piece of a text as it is told (plain).
-/
import Derived.Test.YtlgomipfhbkklaaTermLaw
import Derived.Lib.Join
namespace Go.Proofs.Ytlgomipfhbkklaa
set_option linter.unusedVariables false

def isw (b : UInt8) : Bool := decide (foldI (b.toNat : Int) ≠ 0)
def lowB (b : UInt8) : UInt8 := UInt8.ofNat (foldI (b.toNat : Int)).toNat
def lowL (r : List UInt8) : List UInt8 := (r.map lowB).take 12
/-- runs of letters. -/
def toksA : List UInt8 → List UInt8 → List (List UInt8)
  | cur, [] => if cur = [] then [] else [cur]
  | cur, b :: r => if isw b = true then toksA (cur ++ [b]) r else if cur = [] then toksA [] r else cur :: toksA [] r
theorem toksA_cons (cur : List UInt8) (b : UInt8) (r : List UInt8) : toksA cur (b :: r) = if isw b = true then toksA (cur ++ [b]) r else if cur = [] then toksA [] r else cur :: toksA [] r := by rw [toksA]
theorem toksA_yes {b : UInt8} (h : isw b = true) (cur r : List UInt8) : toksA cur (b :: r) = toksA (cur ++ [b]) r := by rw [toksA_cons, if_pos h]
theorem toksA_no {b : UInt8} (h : isw b = false) (cur r : List UInt8) : toksA cur (b :: r) = if cur = [] then toksA [] r else cur :: toksA [] r := by rw [toksA_cons, if_neg (by rw [h]; simp)]
theorem toksA_skip {b : UInt8} (h : isw b = false) (r : List UInt8) : toksA [] (b :: r) = toksA [] r := by rw [toksA_no h, if_pos rfl]
theorem toksA_end (cur : List UInt8) : toksA cur [] = if cur = [] then [] else [cur] := by rw [toksA]
theorem toksA_sep (b : UInt8) (hb : isw b = false) (ys : List UInt8) : ∀ (xs cur : List UInt8), toksA cur (xs ++ b :: ys) = toksA cur xs ++ toksA [] ys
  | [], cur => by
    rw [List.nil_append, toksA_no hb, toksA_end]
    split <;> rfl
  | x :: r, cur => by
    rw [List.cons_append, toksA_cons, toksA_cons]
    split
    · exact toksA_sep b hb ys r _
    · split
      · exact toksA_sep b hb ys r _
      · rw [toksA_sep b hb ys r _]; rfl
theorem toksA_all : ∀ (r cur : List UInt8), (∀ b ∈ r, isw b = true) → toksA cur r = toksA (cur ++ r) []
  | [], cur, _ => by rw [List.append_nil]
  | b :: r, cur, h => by
    rw [toksA_yes (h b (by simp)), toksA_all r _ (fun x hx => h x (by simp [hx])), List.append_assoc]; rfl
theorem toks_run {r : List UInt8} (h : ∀ b ∈ r, isw b = true) (hn : r ≠ []) : toksA [] r = [r] := by
  rw [toksA_all r [] h, List.nil_append, toksA_end, if_neg hn]
theorem toks_run2 {r rest : List UInt8} (h : ∀ b ∈ r, isw b = true) (hn : r ≠ []) (hr : rest = [] ∨ ∃ b q, rest = b :: q ∧ isw b = false) : toksA [] (r ++ rest) = r :: toksA [] rest := by
  rcases hr with rfl | ⟨b, q, rfl, hb⟩
  · rw [List.append_nil, toks_run h hn]; rfl
  · rw [toksA_sep b hb q r [], toks_run h hn, toksA_skip hb]; rfl
def toks (r : List UInt8) : List (List UInt8) := toksA [] r
/-- how a word stands in the text. -/
def rawL (s : ByteArray) (d : WordD) : List UInt8 := (s.data.toList.drop d.fr).take (d.to - d.fr)
theorem extract_raw (s : ByteArray) (a b : Nat) : (s.extract a b).data.toList = (s.data.toList.drop a).take (b - a) := by
  rw [ByteArray.data_extract, Array.toList_extract]
theorem dat_get {s : ByteArray} {i : Nat} (h : i < s.size) : s.data.toList[i]? = some (s.data.getD i 0) := by
  have h2 : i < s.data.size := h
  rw [Array.getElem?_toList, Array.getD_eq_getD_getElem?, Array.getElem?_eq_getElem h2]; rfl
theorem isWd_iff {s : ByteArray} {i : Nat} (h : i < s.size) : isWd s i = isw (s.data.getD i 0) := by
  unfold isWd isw; rw [decide_eq_true h]; rfl
theorem run_raw {s : ByteArray} {i : Nat} (h : isWd s i = true) : (∀ b ∈ (s.data.toList.drop i).take (runEnd s i - i), isw b = true) ∧ (s.data.toList.drop i).take (runEnd s i - i) ≠ [] := by
  have h1 := runEnd_gt h
  have h2 := runEnd_le h
  have hl : s.data.toList.length = s.size := bytes_len s
  refine ⟨fun b hb => ?_, fun e => ?_⟩
  · obtain ⟨j, hj, rfl⟩ := List.mem_iff_getElem.1 hb
    rw [List.length_take, List.length_drop] at hj
    have h3 := runEnd_in s i (i + j) (by omega) (by omega)
    rw [isWd_iff (by omega)] at h3
    have h4 := dat_get (s := s) (i := i + j) (by omega)
    rw [List.getElem_take, List.getElem_drop]
    rw [List.getElem?_eq_getElem (by omega)] at h4
    rw [Option.some.inj h4]
    exact h3
  · have := congrArg List.length e
    rw [List.length_take, List.length_drop] at this
    simp at this
    omega
theorem toks_from (s : ByteArray) (i n : Nat) : toks (s.data.toList.drop i) = (wordsFrom s i n).map (rawL s) := by
  have hl : s.data.toList.length = s.size := bytes_len s
  fun_induction wordsFrom s i n with
  | case1 i n h ih =>
    have h1 := runEnd_gt h
    have h2 := runEnd_le h
    obtain ⟨h3, h4⟩ := run_raw h
    have e : s.data.toList.drop i = (s.data.toList.drop i).take (runEnd s i - i) ++ s.data.toList.drop (runEnd s i) := by
      conv => lhs; rw [← List.take_append_drop (runEnd s i - i) (s.data.toList.drop i)]
      rw [List.drop_drop, show i + (runEnd s i - i) = runEnd s i by omega]
    unfold toks at ih ⊢
    rw [e, toks_run2 h3 h4, ih]
    · rfl
    · rcases Nat.lt_or_ge (runEnd s i) s.size with h5 | h5
      · refine .inr ⟨s.data.toList[runEnd s i], s.data.toList.drop (runEnd s i + 1), List.drop_eq_getElem_cons (by omega), ?_⟩
        have h6 := runEnd_stop s i
        rw [isWd_iff h5] at h6
        have h7 := dat_get h5
        rw [List.getElem?_eq_getElem (by omega)] at h7
        rw [Option.some.inj h7]
        exact h6
      · exact .inl (List.drop_of_length_le (by omega))
  | case2 i n h h2 ih =>
    have h6 : isWd s i = false := by simpa using h
    rw [isWd_iff h2] at h6
    have h7 := dat_get h2
    rw [List.getElem?_eq_getElem (by omega)] at h7
    unfold toks at ih ⊢
    rw [List.drop_eq_getElem_cons (by omega), Option.some.inj h7, toksA_skip h6]
    exact ih
  | case3 i n h h2 => rw [List.drop_of_length_le (by omega)]; rfl
theorem wordsFrom_tx (s : ByteArray) (i n : Nat) : ∀ d ∈ wordsFrom s i n, d.tx = ⟨(lowL (rawL s d)).toArray⟩ ∧ (∀ b ∈ rawL s d, isw b = true) ∧ rawL s d ≠ [] := by
  have hl : s.data.toList.length = s.size := bytes_len s
  fun_induction wordsFrom s i n with
  | case1 i n h ih =>
    intro d hd
    rcases List.mem_cons.1 hd with rfl | hd
    · refine ⟨?_, run_raw h⟩
      have h1 := runEnd_gt h
      have h2 := runEnd_le h
      unfold rawL lowL
      dsimp only
      congr 3
      refine List.ext_getElem ?_ fun j hj hj' => ?_
      · simp; omega
      · rw [List.length_map, List.length_range] at hj
        have h7 := dat_get (s := s) (i := i + j) (by omega)
        rw [List.getElem?_eq_getElem (by omega)] at h7
        rw [List.getElem_map, List.getElem_map, List.getElem_range, List.getElem_take, List.getElem_drop, Option.some.inj h7]
        rfl
    · exact ih d hd
  | case2 i n h h2 ih => exact ih
  | case3 i n h h2 => intro d hd; simp at hd
theorem wordsB_toks (s : ByteArray) : (wordsB s).map (·.tx) = (toks s.data.toList).map (fun r => ⟨(lowL r).toArray⟩) := by
  have h := toks_from s 0 0
  rw [List.drop_zero] at h
  unfold wordsB
  rw [h, List.map_map]
  exact List.map_congr_left fun d hd => (wordsFrom_tx s 0 0 d hd).1

/-! the piece -/
/-- brackets stand round word i. -/
def brk (L : List TmD) (ts : List ByteArray) (i : Nat) : Bool := L.any (fun t => decide (t.2 = i) && hasB ts t.1)
theorem brk_mark {n : Nat} {ts : List ByteArray} (hte : ∀ x ∈ ts, x ≠ .empty) {i : Nat} (hi : i < n) : ∀ L : List TmD, (L.map (·.2)).Nodup → fullB ((markL n ts L).getD i .empty) = brk L ts i := by
  intro L
  induction hL : L.length generalizing L with
  | zero =>
    obtain rfl := List.length_eq_zero_iff.1 hL
    intro _
    unfold markL
    rw [List.foldl_nil, List.getD_eq_getElem?_getD, List.getElem?_replicate, if_pos hi]
    rfl
  | succ m ih =>
    intro hn
    obtain ⟨L', t, rfl⟩ : ∃ L' t, L = L' ++ [t] := ⟨L.dropLast, L.getLast (by intro h; rw [h] at hL; simp at hL), (List.dropLast_concat_getLast _).symm⟩
    rw [List.map_append, List.nodup_append] at hn
    have ih' := ih L' (by simp at hL; omega) hn.1
    have hfree : ∀ u ∈ L', u.2 ≠ t.2 := fun u hu => hn.2.2 u.2 (List.mem_map_of_mem (f := (·.2)) hu) t.2 (by simp)
    have e : brk (L' ++ [t]) ts i = (brk L' ts i || (decide (t.2 = i) && hasB ts t.1)) := by unfold brk; rw [List.any_append]; simp
    rw [e, markL_snoc, ← ih']
    have hml := markL_len n ts L'
    cases hb : hasB ts t.1 with
    | false => rw [if_neg (by simp)]; simp
    | true =>
      rw [if_pos rfl]
      by_cases h1 : t.2 = i
      · subst h1
        rw [List.getD_eq_getElem?_getD, List.getElem?_set_self (by omega)]
        have := hte _ (hasB_iff.1 hb)
        simp [fullB, this]
      · rw [List.getD_eq_getElem?_getD, List.getElem?_set_ne h1, ← List.getD_eq_getElem?_getD]
        simp [h1]
def lb : ByteArray := ⟨#[91]⟩
def rb : ByteArray := ⟨#[93]⟩
def sp1 : ByteArray := ⟨#[32]⟩
def dotA : ByteArray := ⟨#[46, 46, 32]⟩
def dotB : ByteArray := ⟨#[32, 46, 46]⟩
def brkW (b : Bool) (t : ByteArray) : ByteArray := if b = true then lb ++ t ++ rb else t
def wdAt (ws : List WordD) (i : Nat) : WordD := ws.getD i ⟨.empty, 0, 0, 0⟩
theorem wdAt_get {ws : List WordD} {i : Nat} (h : i < ws.length) : wdAt ws i = ws[i] := by unfold wdAt; rw [List.getD_eq_getElem?_getD, List.getElem?_eq_getElem h]; rfl
def pieceW (s : ByteArray) (ws : List WordD) (L : List TmD) (ts : List ByteArray) (i : Nat) : ByteArray := brkW (brk L ts i) (s.extract (wdAt ws i).fr (wdAt ws i).to)
/-- the words of the piece, n of them. -/
def pieceL (s : ByteArray) (ws : List WordD) (L : List TmD) (ts : List ByteArray) (a n : Nat) : List ByteArray := (List.range n).map fun k => pieceW s ws L ts (a + k)
theorem pieceL_succ (s : ByteArray) (ws : List WordD) (L : List TmD) (ts : List ByteArray) (a n : Nat) : pieceL s ws L ts a (n + 1) = pieceL s ws L ts a n ++ [pieceW s ws L ts (a + n)] := by
  unfold pieceL; rw [List.range_succ, List.map_append]; rfl
theorem pieceL_len (s : ByteArray) (ws : List WordD) (L : List TmD) (ts : List ByteArray) (a n : Nat) : (pieceL s ws L ts a n).length = n := by unfold pieceL; simp
/-- texts with a blank between. -/
def joinB (xs : List ByteArray) : ByteArray := ⟨(Lib.join (xs.map (·.data.toList)) [32]).toArray⟩
theorem inter_snoc (sep : List UInt8) : ∀ (xs : List (List UInt8)) (x : List UInt8), sep.intercalate (xs ++ [x]) = if xs = [] then x else sep.intercalate xs ++ sep ++ x
  | [], x => by simp [List.intercalate]
  | [y], x => by simp [List.intercalate]
  | y :: z :: r, x => by
    have h := inter_snoc sep (z :: r) x
    rw [if_neg (by simp)] at h ⊢
    rw [List.cons_append, List.cons_append, List.intercalate_cons_cons, ← List.cons_append, h, List.intercalate_cons_cons]
    simp [List.append_assoc]
theorem ba_ext {a b : ByteArray} (h : a.data.toList = b.data.toList) : a = b := by
  cases a; cases b; congr; exact Array.toList_inj.1 h
theorem joinB_nil : joinB [] = .empty := rfl
theorem joinB_snoc (xs : List ByteArray) (x : ByteArray) : joinB (xs ++ [x]) = if xs = [] then x else joinB xs ++ sp1 ++ x := by
  apply ba_ext
  unfold joinB Lib.join
  rw [List.map_append, List.map_singleton, inter_snoc]
  cases xs with
  | nil => rfl
  | cons y r => rw [if_neg (by simp), if_neg (by simp)]; simp [ByteArray.data_append, sp1]
def tellB (a e m : Nat) (out : ByteArray) : ByteArray :=
  let o := if 0 < a then dotA ++ out else out
  if e < m then o ++ dotB else o
/-- what SnipText answers. -/
def snipTextL (c : ConfD) (s : ByteArray) (ts : List ByteArray) (w : Int) : ByteArray :=
  let a := snipL c s ts w
  if a < 0 then .empty else
    let m := (wordsB s).length
    let e := min (a.toNat + w.toNat) m
    tellB a.toNat (a.toNat + w.toNat) m (joinB (pieceL s (wordsB s) (termsB c s) ts a.toNat (e - a.toNat)))
theorem rawL_extract (s : ByteArray) (d : WordD) : (s.extract d.fr d.to).data.toList = rawL s d := extract_raw s d.fr d.to
theorem isw_lb : isw 91 = false := by decide
theorem isw_rb : isw 93 = false := by decide
theorem isw_sp : isw 32 = false := by decide
theorem isw_dot : isw 46 = false := by decide
theorem toks_brk {r : List UInt8} (h : ∀ b ∈ r, isw b = true) (hn : r ≠ []) (q : Bool) (t : ByteArray) (ht : t.data.toList = r) : toks (brkW q t).data.toList = [r] := by
  unfold brkW toks
  cases q with
  | false => rw [if_neg (by simp), ht]; exact toks_run h hn
  | true =>
    rw [if_pos rfl, ByteArray.data_append, ByteArray.data_append, Array.toList_append, Array.toList_append, ht]
    show toksA [] ((91 :: r) ++ [93]) = _
    rw [toksA_sep 93 isw_rb [] (91 :: r) [], toksA_skip isw_lb, toks_run h hn]
    rfl
theorem toks_join (f : Nat → List UInt8) (g : Nat → ByteArray) : ∀ n, (∀ k, k < n → toks (g k).data.toList = [f k]) → toks (joinB ((List.range n).map g)).data.toList = (List.range n).map f
  | 0, _ => rfl
  | n + 1, h => by
    have ih := toks_join f g n (fun k hk => h k (by omega))
    rw [List.range_succ, List.map_append, List.map_append, List.map_singleton, List.map_singleton, joinB_snoc]
    cases n with
    | zero => rw [List.range_zero, List.map_nil, if_pos rfl, h 0 (by omega)]; rfl
    | succ n =>
      rw [if_neg (by simp [List.range_succ]), ByteArray.data_append, ByteArray.data_append, Array.toList_append, Array.toList_append, List.append_assoc]
      show toksA [] (_ ++ 32 :: (g (n + 1)).data.toList) = _
      rw [toksA_sep 32 isw_sp]
      have h2 := h (n + 1) (by omega)
      unfold toks at ih h2
      rw [ih, h2]
theorem toks_tell (a e m : Nat) (out : ByteArray) : toks (tellB a e m out).data.toList = toks out.data.toList := by
  have hd : ∀ o : ByteArray, toks (dotA ++ o).data.toList = toks o.data.toList := fun o => by
    rw [ByteArray.data_append, Array.toList_append]
    show toksA [] (46 :: 46 :: 32 :: o.data.toList) = _
    rw [toksA_skip isw_dot, toksA_skip isw_dot, toksA_skip isw_sp]
    rfl
  have he : ∀ o : ByteArray, toks (o ++ dotB).data.toList = toks o.data.toList := fun o => by
    rw [ByteArray.data_append, Array.toList_append]
    show toksA [] (o.data.toList ++ 32 :: [46, 46]) = _
    rw [toksA_sep 32 isw_sp]
    show _ ++ toksA [] [46, 46] = _
    rw [show toksA [] [46, 46] = [] by decide, List.append_nil]
    rfl
  unfold tellB
  dsimp only
  by_cases h1 : 0 < a
  · rw [if_pos h1]
    by_cases h2 : e < m
    · rw [if_pos h2, he, hd]
    · rw [if_neg h2, hd]
  · rw [if_neg h1]
    by_cases h2 : e < m
    · rw [if_pos h2, he]
    · rw [if_neg h2]
/-- the words of the piece that is told are the words of the piece. -/
theorem tell_words (c : ConfD) (s : ByteArray) (ts : List ByteArray) (a e m n : Nat) (h : a + n ≤ (wordsB s).length) :
    (wordsB (tellB a e m (joinB (pieceL s (wordsB s) (termsB c s) ts a n)))).map (·.tx) = (((wordsB s).drop a).take n).map (·.tx) := by
  rw [wordsB_toks, toks_tell]
  unfold pieceL
  rw [toks_join (fun k => rawL s (wdAt (wordsB s) (a + k)))]
  · refine List.ext_getElem ?_ fun j hj hj' => ?_
    · simp; omega
    · simp at hj
      rw [List.getElem_map, List.getElem_map, List.getElem_map, List.getElem_range, List.getElem_take, List.getElem_drop, wdAt_get (by omega)]
      have := (wordsFrom_tx s 0 0 (wordsB s)[a + j] (List.getElem_mem _)).1
      exact this.symm
  · intro k hk
    have hlk : a + k < (wordsB s).length := by omega
    have hd := wordsFrom_tx s 0 0 (wordsB s)[a + k] (List.getElem_mem hlk)
    unfold pieceW
    rw [wdAt_get (by omega)]
    exact toks_brk hd.2.1 hd.2.2 _ _ (rawL_extract s _)
/-- how many brackets are opened. -/
def lbs (s : ByteArray) : Nat := s.data.toList.countP (fun b => decide (b = 91))
theorem lbs_append (a b : ByteArray) : lbs (a ++ b) = lbs a + lbs b := by unfold lbs; rw [ByteArray.data_append, Array.toList_append, List.countP_append]
theorem lbs_raw {t : ByteArray} (h : ∀ b ∈ t.data.toList, isw b = true) : lbs t = 0 := by
  unfold lbs
  rw [List.countP_eq_zero]
  intro b hb
  simp only [decide_eq_true_eq]
  intro e
  subst e
  have := h _ hb
  rw [isw_lb] at this
  cases this
theorem lbs_brk {t : ByteArray} (h : ∀ b ∈ t.data.toList, isw b = true) (q : Bool) : lbs (brkW q t) = if q = true then 1 else 0 := by
  unfold brkW
  cases q with
  | false => rw [if_neg (by simp), if_neg (by simp), lbs_raw h]
  | true => rw [if_pos rfl, if_pos rfl, lbs_append, lbs_append, lbs_raw h]; rfl
theorem lbs_join : ∀ xs : List ByteArray, lbs (joinB xs) = (xs.map lbs).sum := by
  intro xs
  induction hL : xs.length generalizing xs with
  | zero => obtain rfl := List.length_eq_zero_iff.1 hL; rfl
  | succ m ih =>
    obtain ⟨L', t, rfl⟩ : ∃ L' t, xs = L' ++ [t] := ⟨xs.dropLast, xs.getLast (by intro h; rw [h] at hL; simp at hL), (List.dropLast_concat_getLast _).symm⟩
    have ih' := ih L' (by simp at hL; omega)
    rw [joinB_snoc, List.map_append, List.sum_append, ← ih', List.map_singleton]
    cases L' with
    | nil => rw [if_pos rfl]; show _ = 0 + _; simp
    | cons y r => rw [if_neg (by simp), lbs_append, lbs_append]; show _ + 0 + _ = _; simp
theorem lbs_tell (a e m : Nat) (out : ByteArray) : lbs (tellB a e m out) = lbs out := by
  unfold tellB
  dsimp only
  split <;> split <;> simp [lbs_append, show lbs dotA = 0 by decide, show lbs dotB = 0 by decide]
theorem sum_range_brk (L : List TmD) (ts : List ByteArray) (a : Nat) : ∀ n, ((List.range n).map (fun k => if brk L ts (a + k) = true then 1 else 0)).sum = (List.range n).countP (fun k => brk L ts (a + k))
  | 0 => rfl
  | n + 1 => by
    rw [List.range_succ, List.map_append, List.sum_append, sum_range_brk L ts a n, List.countP_append]
    simp [List.countP_cons]
/-- .. as many as words that are one of the terms. -/
theorem tell_lbs (c : ConfD) (s : ByteArray) (ts : List ByteArray) (a w e m : Nat) (hts : ts.Nodup) (hte : ∀ x ∈ ts, x ≠ .empty) :
    lbs (tellB a e m (joinB (pieceL s (wordsB s) (termsB c s) ts a (min (a + w) (wordsB s).length - a)))) = allL (termsB c s) ts a w := by
  rw [lbs_tell, lbs_join]
  have hN := termsB_nodup c s
  have hlt := termsB_lt c s
  have h1 := (mark_sc (wordsB s).length ts (termsB c s) a w hts hte hN hlt).2
  rw [← h1]
  have e1 : (pieceL s (wordsB s) (termsB c s) ts a (min (a + w) (wordsB s).length - a)).map lbs = (List.range (min (a + w) (wordsB s).length - a)).map (fun k => if brk (termsB c s) ts (a + k) = true then 1 else 0) := by
    unfold pieceL
    rw [List.map_map]
    refine List.map_congr_left fun k hk => ?_
    have hk := List.mem_range.1 hk
    show lbs (pieceW _ _ _ _ _) = _
    unfold pieceW
    have hlk : a + k < (wordsB s).length := by omega
    have hd := wordsFrom_tx s 0 0 (wordsB s)[a + k] (List.getElem_mem hlk)
    rw [wdAt_get (by omega)]
    exact lbs_brk (by rw [rawL_extract]; exact hd.2.1) _
  rw [e1, sum_range_brk, ← List.countP_eq_length_filter]
  have hml := markL_len (wordsB s).length ts (termsB c s)
  have hbm := fun i hi => brk_mark (n := (wordsB s).length) hte (i := i) hi (termsB c s) hN
  generalize markL (wordsB s).length ts (termsB c s) = M at hml hbm
  have e2 : winL M a w = (List.range (min (a + w) (wordsB s).length - a)).map (fun k => M.getD (a + k) .empty) := by
    refine List.ext_getElem ?_ fun j hj hj' => ?_
    · rw [winL_len, List.length_map, List.length_range]; omega
    · have h3 := winL_get M a w j hj
      rw [List.getElem?_eq_getElem hj] at h3
      rw [List.getElem_map, List.getElem_range, List.getD_eq_getElem?_getD, ← h3]
      rfl
  rw [e2, List.countP_map]
  refine List.countP_congr fun k hk => ?_
  have hk := List.mem_range.1 hk
  rw [← hbm (a + k) (by omega)]
  rfl
end Go.Proofs.Ytlgomipfhbkklaa
