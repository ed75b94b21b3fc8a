/-
  How a question is written, and how impl's and spec's readers read it (plain): both read what is written of a question that is ok.
-/
import Derived.Test.YtaobgliimbmemaaDoorNodeLaw
import Derived.Lib.ItoaNum
import Derived.Lib.AtoiAll
namespace Go.Proofs.YtaobgliimbmemaaDoor
open Go.RowKit Go.Sort
set_option linter.unusedVariables false
set_option linter.unusedSimpArgs false

abbrev Tx := List UInt8
def tb (l : Tx) : ByteArray := ⟨l.toArray⟩
theorem tb_list (l : Tx) : (tb l).data.toList = l := by simp [tb]
theorem list_tb (s : ByteArray) : tb s.data.toList = s := by cases s; simp [tb]
theorem tb_size (l : Tx) : (tb l).size = l.length := by simp [tb, ByteArray.size]
theorem tb_inj {a b : Tx} (h : tb a = tb b) : a = b := by rw [← tb_list a, h, tb_list]
theorem tb_eq {s : ByteArray} {l : Tx} (h : s.data.toList = l) : s = tb l := by rw [← h, list_tb]

/-! numbers -/
def decL (n : Int) : Tx := Lib.decDigits n.toNat
def digB (b : UInt8) : Bool := decide (48 ≤ b.toNat ∧ b.toNat ≤ 57)
def valL (acc : Nat) (l : Tx) : Nat := l.foldl (fun a b => a * 10 + (b.toNat - 48)) acc
theorem dig_nat {d : Nat} (h : d < 10) : (UInt8.ofNat (48 + d)).toNat = 48 + d := by
  rw [UInt8.toNat_ofNat']
  omega
theorem dig_ok {d : Nat} (h : d < 10) : digB (UInt8.ofNat (48 + d)) = true := by
  unfold digB; rw [dig_nat h]; exact decide_eq_true ⟨by omega, by omega⟩
theorem decD_dig (n : Nat) : ∀ b ∈ Lib.decDigits n, digB b = true := by
  induction n using Nat.strongRecOn with
  | _ n ih =>
    rw [Lib.decDigits]
    split
    · intro b hb
      rw [List.mem_singleton] at hb
      subst hb
      exact dig_ok (by omega)
    · intro b hb
      rcases List.mem_append.1 hb with hb | hb
      · exact ih (n / 10) (by omega) b hb
      · rw [List.mem_singleton] at hb
        subst hb
        exact dig_ok (by omega)
theorem decD_val (n : Nat) : valL 0 (Lib.decDigits n) = n := by
  induction n using Nat.strongRecOn with
  | _ n ih =>
    rw [Lib.decDigits]
    split
    · have h1 := dig_nat (d := n) (by omega)
      show 0 * 10 + ((UInt8.ofNat (48 + n)).toNat - 48) = n
      rw [h1]; omega
    · have h1 := dig_nat (d := n % 10) (by omega)
      unfold valL at ih ⊢
      rw [List.foldl_append, ih (n / 10) (by omega)]
      show n / 10 * 10 + ((UInt8.ofNat (48 + n % 10)).toNat - 48) = n
      rw [h1]; omega
theorem decD_len (n : Nat) (h : n < 1000000000) : (Lib.decDigits n).length ≤ 9 := by
  rw [Lib.decDigits_length]
  rcases Nat.lt_or_ge 9 (Lib.nDigits n) with h1 | h1
  · exfalso
    have : ∀ k u, u < 10 ^ (k + 1) → Lib.nDigits u ≤ k + 1 := fun k => by
      induction k with
      | zero => intro u hu; rw [Lib.nDigits_small (by simpa using hu)]; exact Nat.le_refl _
      | succ k ih =>
        intro u hu
        by_cases h10 : u < 10
        · rw [Lib.nDigits_small h10]; omega
        · rw [Lib.nDigits_big h10]
          have := ih (u / 10) (by rw [Nat.pow_succ] at hu; omega)
          omega
    have := this 8 n (by omega)
    omega
  · exact h1
theorem decD_ne (n : Nat) : Lib.decDigits n ≠ [] := by
  intro h
  have := Lib.decDigits_length n
  rw [h] at this
  have := Lib.nDigits_pos n
  simp at *; omega
/-- no nought ahead. -/
theorem decD_head (n : Nat) : (Lib.decDigits n).length > 1 → (Lib.decDigits n).head? ≠ some 48 := by
  induction n using Nat.strongRecOn with
  | _ n ih =>
    rw [Lib.decDigits]
    split
    · intro h; simp at h
    · rename_i h10
      intro _
      rcases hd : Lib.decDigits (n / 10) with _ | ⟨x, r⟩
      · exact absurd hd (decD_ne _)
      · rw [List.cons_append, List.head?_cons]
        intro e
        have e' : x = 48 := by simpa using e
        cases r with
        | nil =>
          have h1 := decD_val (n / 10)
          rw [hd, e'] at h1
          simp [valL] at h1
          omega
        | cons y r =>
          have := ih (n / 10) (by omega) (by rw [hd]; simp)
          rw [hd] at this
          exact this (by rw [e']; rfl)
/-- spec.l1Num. -/
def numS (l : Tx) : Int := if l.all digB = true ∧ l.length ≤ 9 ∧ l ≠ [] ∧ ¬ (l.length > 1 ∧ l.head? = some 48) then (valL 0 l : Nat) else -1
theorem numS_dec {n : Int} (h0 : 0 ≤ n) (h1 : n ≤ 999999999) : numS (decL n) = n := by
  have hv := decD_val n.toNat
  unfold numS decL
  rw [if_pos ⟨List.all_eq_true.2 (decD_dig _), decD_len _ (by omega), decD_ne _, fun h => decD_head _ h.1 h.2⟩, hv]
  omega
/-- impl.readNumber. -/
def numI (l : Tx) : Int := match Lib.atoiAll l with
  | .ok v => v
  | _ => -1
theorem parse_val : ∀ (l : Tx) (acc : Nat), (∀ b ∈ l, digB b = true) → valL acc l < 1844674407370955162 → Lib.parseUint10 acc l = .ok (valL acc l)
  | [], acc, _, _ => rfl
  | c :: r, acc, h, hv => by
    have hd : 48 ≤ c.toNat ∧ c.toNat ≤ 57 := of_decide_eq_true (h c (by simp))
    have hmono : ∀ (l : Tx) (a : Nat), a ≤ valL a l := fun l => by
      induction l with
      | nil => intro a; exact Nat.le_refl _
      | cons x r ih => intro a; have := ih (a * 10 + (x.toNat - 48)); show a ≤ valL (a * 10 + (x.toNat - 48)) r; omega
    have e : valL acc (c :: r) = valL (acc * 10 + (c.toNat - 48)) r := rfl
    have h2 := hmono r (acc * 10 + (c.toNat - 48))
    rw [e] at hv ⊢
    rw [Lib.parseUint10, if_pos hd, if_neg (by omega), if_neg (by omega)]
    exact parse_val r _ (fun b hb => h b (by simp [hb])) hv
theorem numI_dec {n : Int} (h0 : 0 ≤ n) (h1 : n ≤ 999999999) : numI (decL n) = n := by
  have hv := decD_val n.toNat
  have hn := decD_ne n.toNat
  have hd := decD_dig n.toNat
  have hp := parse_val (decL n) 0 hd (by unfold decL; rw [hv]; omega)
  unfold numI
  unfold decL at hp ⊢
  rcases hl : Lib.decDigits n.toNat with _ | ⟨x, r⟩
  · exact absurd hl hn
  · rw [hl] at hp hd hv
    have hx : 48 ≤ x.toNat ∧ x.toNat ≤ 57 := of_decide_eq_true (hd x (by simp))
    have e : Lib.atoiAll (x :: r) = .ok n := by
      unfold Lib.atoiAll Lib.parseMag
      simp only [if_neg (show ¬ (x.toNat = 43 ∨ x.toNat = 45) by omega), if_neg (List.cons_ne_nil x r), hp]
      rw [hv, if_neg (by omega), if_neg (by omega), if_neg (by omega)]
      congr 1
      omega
    rw [e]
/-! how a question is written -/
def allT : Tx := [97, 108, 108]
def joinP : List ByteArray → Tx
  | [] => []
  | [x] => x.data.toList
  | x :: y :: r => x.data.toList ++ 43 :: joinP (y :: r)
def nameL (kd : Int) : Tx := if kd = 7 then [97, 110, 100] else if kd = 8 then [111, 114] else if kd = 9 then [108, 101, 115, 115] else if kd = 10 then [116, 105, 109, 101, 115] else []
def leafL (q : QD) : Tx :=
  if q.kd = 1 then allT
  else if q.kd = 2 ∨ q.kd = 5 then q.fd.data.toList ++ 58 :: (hdW q.ws).data.toList
  else if q.kd = 3 then q.fd.data.toList ++ 58 :: (joinP q.ws ++ 126 :: decL q.fr)
  else if q.kd = 4 then q.fd.data.toList ++ 58 :: ((hdW q.ws).data.toList ++ 37 :: decL q.fr)
  else q.fd.data.toList ++ 61 :: (decL q.fr ++ 46 :: 46 :: decL q.tgt)
def numP (q : QD) : Tx := if q.kd = 10 then 32 :: decL q.fr else []
def kidP (f : QD → Tx) (k : QD) : Tx := 32 :: f k
def putL : Nat → QD → Tx
  | 0 => fun _ => []
  | m + 1 => fun q => if 1 ≤ q.kd ∧ q.kd ≤ 6 then leafL q else 40 :: (nameL q.kd ++ (numP q ++ (q.ks.flatMap (kidP (putL m)) ++ [41])))

/-! what is ok, by kinds -/
inductive LeafQ : QD → Prop
  | all : LeafQ ⟨1, ⟨#[]⟩, [], 0, 0, []⟩
  | term (fd w : ByteArray) : wordB fd = true → wordB w = true → LeafQ ⟨2, fd, [w], 0, 0, []⟩
  | phrase (fd : ByteArray) (ws : List ByteArray) (fr : Int) : wordB fd = true → (∀ w ∈ ws, wordB w = true) → 2 ≤ ws.length → ws.length ≤ 4 → 0 ≤ fr → fr ≤ 5 → LeafQ ⟨3, fd, ws, fr, 0, []⟩
  | near (fd w : ByteArray) (fr : Int) : wordB fd = true → wordB w = true → 1 ≤ fr → fr ≤ 2 → LeafQ ⟨4, fd, [w], fr, 0, []⟩
  | glob (fd w : ByteArray) : wordB fd = true → globB w = true → wordB w = false → LeafQ ⟨5, fd, [w], 0, 0, []⟩
  | range (fd : ByteArray) (fr tq : Int) : wordB fd = true → 0 ≤ fr → fr ≤ tq → tq ≤ 999999999 → LeafQ ⟨6, fd, [], fr, tq, []⟩
def NodeQ (q : QD) : Prop := ∃ (kd fr : Int) (ks : List QD), (kd = 7 ∨ kd = 8 ∨ kd = 9 ∨ kd = 10) ∧ (kd = 10 ∧ 2 ≤ fr ∧ fr ≤ 9 ∨ kd ≠ 10 ∧ fr = 0) ∧ 1 ≤ ks.length ∧ ks.length ≤ 4 ∧ q = ⟨kd, ⟨#[]⟩, [], fr, 0, ks⟩
theorem one_cases {q : QD} (h : oneB q = true) : LeafQ q ∨ NodeQ q := by
  obtain ⟨kd, fd, ws, fr, tq, ks⟩ := q
  unfold oneB at h
  dsimp only at h
  by_cases g1 : kd = 1
  · rw [if_pos g1] at h
    simp [bareB] at h
    obtain ⟨⟨rfl, rfl⟩, ⟨rfl, rfl⟩, rfl⟩ := h
    subst g1
    exact .inl .all
  rw [if_neg g1] at h
  by_cases g2 : kd = 2
  · rw [if_pos g2] at h
    simp [bareB, wsB, wi_true] at h
    obtain ⟨⟨⟨rfl, rfl⟩, rfl⟩, h1, h2, h3, h4⟩ := h
    obtain ⟨x, rfl⟩ := List.length_eq_one_iff.1 (show ws.length = 1 by omega)
    subst g2
    exact .inl (.term _ _ h1 (h2 x (by simp)))
  rw [if_neg g2] at h
  by_cases g3 : kd = 3
  · rw [if_pos g3] at h
    simp [bareB, wsB, wi_true] at h
    obtain ⟨rfl, h1, ⟨h2, h3, h4⟩, h5, rfl, h6, h7⟩ := h
    subst g3
    exact .inl (.phrase _ _ _ h1 h2 (by omega) (by omega) h6 h7)
  rw [if_neg g3] at h
  by_cases g4 : kd = 4
  · rw [if_pos g4] at h
    simp [bareB, wsB, wi_true] at h
    obtain ⟨rfl, h1, ⟨h2, h3, h4⟩, rfl, h6, h7⟩ := h
    obtain ⟨x, rfl⟩ := List.length_eq_one_iff.1 (show ws.length = 1 by omega)
    subst g4
    exact .inl (.near _ _ _ h1 (h2 x (by simp)) h6 h7)
  rw [if_neg g4] at h
  by_cases g5 : kd = 5
  · rw [if_pos g5] at h
    simp [bareB] at h
    obtain ⟨⟨⟨rfl, rfl⟩, rfl⟩, h1, h2, h3, h4⟩ := h
    obtain ⟨x, rfl⟩ := List.length_eq_one_iff.1 h2
    subst g5
    exact .inl (.glob _ _ h1 h3 h4)
  rw [if_neg g5] at h
  by_cases g6 : kd = 6
  · rw [if_pos g6] at h
    simp [bareB, wi_true] at h
    obtain ⟨⟨rfl, rfl⟩, h1, ⟨h2, h3⟩, h4, h5⟩ := h
    subst g6
    exact .inl (.range _ _ _ h1 h2 h4 h5)
  rw [if_neg g6] at h
  by_cases g7 : kd = 7
  · rw [if_pos g7] at h
    simp [bareB, wi_true] at h
    obtain ⟨⟨⟨rfl, rfl⟩, rfl, rfl⟩, h2, h3⟩ := h
    exact .inr ⟨_, _, _, .inl g7, .inr ⟨by omega, rfl⟩, by omega, by omega, rfl⟩
  rw [if_neg g7] at h
  by_cases g8 : kd = 8
  · rw [if_pos g8] at h
    simp [bareB, wi_true] at h
    obtain ⟨⟨⟨rfl, rfl⟩, rfl, rfl⟩, h2, h3⟩ := h
    exact .inr ⟨_, _, _, .inr (.inl g8), .inr ⟨by omega, rfl⟩, by omega, by omega, rfl⟩
  rw [if_neg g8] at h
  by_cases g9 : kd = 9
  · rw [if_pos g9] at h
    simp [bareB] at h
    obtain ⟨⟨⟨rfl, rfl⟩, rfl, rfl⟩, h2⟩ := h
    exact .inr ⟨_, _, _, .inr (.inr (.inl g9)), .inr ⟨by omega, rfl⟩, by omega, by omega, rfl⟩
  rw [if_neg g9] at h
  by_cases g10 : kd = 10
  · rw [if_pos g10] at h
    simp [bareB, wi_true] at h
    obtain ⟨⟨rfl, rfl⟩, h2, rfl, h3, h4⟩ := h
    exact .inr ⟨_, _, _, .inr (.inr (.inr g10)), .inl ⟨g10, h3, h4⟩, by omega, by omega, rfl⟩
  rw [if_neg g10] at h
  cases h
theorem ok_parts {m : Nat} {q : QD} (h : okQ (m + 1) q = true) : oneB q = true ∧ ∀ k ∈ q.ks, okQ m k = true := by
  have h' : (oneB q && q.ks.all (okQ m)) = true := h
  rw [Bool.and_eq_true, List.all_eq_true] at h'
  exact h'

/-! what bytes a text has -/
/-- bytes of words, of patterns, of numbers. -/
def wdC (b : UInt8) : Bool := wbI (b.toNat : Int)
theorem word_all {s : ByteArray} (h : wordB s = true) : ∀ b ∈ s.data.toList, wdC b = true := by
  unfold wordB at h
  rw [Bool.and_eq_true, List.all_eq_true] at h
  exact h.1
theorem word_len {s : ByteArray} (h : wordB s = true) : 1 ≤ s.data.toList.length ∧ s.data.toList.length ≤ 12 := by
  unfold wordB at h
  rw [Bool.and_eq_true, wi_true] at h
  rw [bytes_len]
  omega
def gbC (b : UInt8) : Bool := gbI (b.toNat : Int)
theorem glob_all {s : ByteArray} (h : globB s = true) : ∀ b ∈ s.data.toList, gbC b = true := by
  unfold globB at h
  rw [Bool.and_eq_true, List.all_eq_true] at h
  exact h.1
theorem glob_len {s : ByteArray} (h : globB s = true) : 1 ≤ s.data.toList.length ∧ s.data.toList.length ≤ 12 := by
  unfold globB at h
  rw [Bool.and_eq_true, wi_true] at h
  rw [bytes_len]
  omega
theorem gb_of_wd {b : UInt8} (h : wdC b = true) : gbC b = true := by unfold gbC gbI; unfold wdC at h; rw [h]; rfl
theorem gb_of_dig {b : UInt8} (h : digB b = true) : gbC b = true := by
  have h' : 48 ≤ b.toNat ∧ b.toNat ≤ 57 := of_decide_eq_true h
  exact gb_of_wd (wbI_true.2 (.inr ⟨by omega, by omega⟩))
theorem gb_cases {b : UInt8} (h : gbC b = true) : (97 ≤ b.toNat ∧ b.toNat ≤ 122) ∨ (48 ≤ b.toNat ∧ b.toNat ≤ 57) ∨ b.toNat = 42 ∨ b.toNat = 63 := by
  unfold gbC gbI at h
  rw [Bool.or_eq_true, Bool.or_eq_true, wbI_true, decide_eq_true_iff, decide_eq_true_iff] at h
  omega
/-- such a byte is no sign. -/
theorem gb_ne {b c : UInt8} (h : gbC b = true) (hc : c.toNat = 32 ∨ c.toNat = 37 ∨ c.toNat = 40 ∨ c.toNat = 41 ∨ c.toNat = 43 ∨ c.toNat = 46 ∨ c.toNat = 58 ∨ c.toNat = 61 ∨ c.toNat = 126) : b ≠ c := by
  intro e
  subst e
  have := gb_cases h
  omega
def GbT (l : Tx) : Prop := ∀ b ∈ l, gbC b = true
theorem gbT_dec (n : Int) : GbT (decL n) := fun b hb => gb_of_dig (decD_dig _ b hb)
theorem gbT_word {s : ByteArray} (h : wordB s = true) : GbT s.data.toList := fun b hb => gb_of_wd (word_all h b hb)
theorem gbT_not {l : Tx} (h : GbT l) {c : UInt8} (hc : c.toNat = 32 ∨ c.toNat = 37 ∨ c.toNat = 40 ∨ c.toNat = 41 ∨ c.toNat = 43 ∨ c.toNat = 46 ∨ c.toNat = 58 ∨ c.toNat = 61 ∨ c.toNat = 126) : c ∉ l := fun hm => gb_ne (h c hm) hc rfl

/-! cuts -/
/-- cut at the first such byte. -/
def cutQ (b : UInt8) : Tx → Option (Tx × Tx)
  | [] => none
  | x :: r => if x = b then some ([], r) else (cutQ b r).map (fun p => (x :: p.1, p.2))
theorem cutQ_none {b : UInt8} : ∀ {l : Tx}, b ∉ l → cutQ b l = none
  | [], _ => rfl
  | x :: r, h => by
    simp at h
    rw [cutQ, if_neg (fun e => h.1 e.symm), cutQ_none h.2]; rfl
theorem cutQ_at {b : UInt8} : ∀ {p r : Tx}, b ∉ p → cutQ b (p ++ b :: r) = some (p, r)
  | [], r, _ => by rw [List.nil_append, cutQ, if_pos rfl]
  | x :: p, r, h => by
    simp at h
    rw [List.cons_append, cutQ, if_neg (fun e => h.1 e.symm), cutQ_at h.2]; rfl
/-- .. two dots. -/
def cut2L : Tx → Tx × Tx
  | [] => ([], [])
  | x :: r => match r with
    | y :: r2 => if x = 46 ∧ y = 46 then ([], r2) else (x :: (cut2L r).1, (cut2L r).2)
    | [] => ([x], [])
theorem cut2L_at : ∀ {p r : Tx}, (46 : UInt8) ∉ p → cut2L (p ++ 46 :: 46 :: r) = (p, r)
  | [], r, _ => by rw [List.nil_append, cut2L]; simp
  | [x], r, h => by
    simp at h
    rw [List.cons_append, List.nil_append, cut2L, if_neg (fun e => h e.1.symm), cut2L]; simp
  | x :: y :: p, r, h => by
    have h2 : (46 : UInt8) ∉ y :: p := fun e => h (List.mem_cons_of_mem _ e)
    have hx : x ≠ 46 := fun e => h (by simp [e])
    rw [List.cons_append, List.cons_append, cut2L, if_neg (fun e => hx e.1)]
    have := cut2L_at (p := y :: p) (r := r) h2
    rw [List.cons_append] at this
    rw [this]
/-- strings.Split at '+'. -/
def splitL : Tx → List Tx
  | [] => [[]]
  | x :: r => if x = 43 then [] :: splitL r else match splitL r with
    | [] => [[x]]
    | h :: t => (x :: h) :: t
theorem splitL_word : ∀ {l : Tx}, (43 : UInt8) ∉ l → splitL l = [l]
  | [], _ => rfl
  | x :: r, h => by
    simp at h
    rw [splitL, if_neg (fun e => h.1 e.symm), splitL_word h.2]
theorem splitL_at : ∀ {p r : Tx}, (43 : UInt8) ∉ p → splitL (p ++ 43 :: r) = p :: splitL r
  | [], r, _ => by rw [List.nil_append, splitL, if_pos rfl]
  | x :: p, r, h => by
    simp at h
    rw [List.cons_append, splitL, if_neg (fun e => h.1 e.symm), splitL_at h.2]
theorem splitL_join : ∀ {ws : List ByteArray}, (∀ w ∈ ws, (43 : UInt8) ∉ w.data.toList) → ws ≠ [] → splitL (joinP ws) = ws.map (·.data.toList)
  | [x], h, _ => by rw [joinP, splitL_word (h x (by simp))]; rfl
  | x :: y :: r, h, _ => by
    rw [joinP, splitL_at (h x (by simp)), splitL_join (fun w hw => h w (List.mem_cons_of_mem _ hw)) (List.cons_ne_nil _ _)]
    rfl
theorem joinP_not {c : UInt8} (hc : c ≠ 43) : ∀ {ws : List ByteArray}, (∀ w ∈ ws, c ∉ w.data.toList) → c ∉ joinP ws
  | [], _ => by simp [joinP]
  | [x], h => by rw [joinP]; exact h x (by simp)
  | x :: y :: r, h => by
    rw [joinP, List.mem_append, List.mem_cons]
    rintro (h1 | h1 | h1)
    · exact h x (by simp) h1
    · exact hc h1
    · exact joinP_not hc (fun w hw => h w (List.mem_cons_of_mem _ hw)) h1
/-! impl's reader -/
def nsep (b : UInt8) : Bool := !(decide (b = 32) || (decide (b = 40) || decide (b = 41)))
def tokL (l : Tx) : Tx := l.takeWhile nsep
def rstL (l : Tx) : Tx := l.dropWhile nsep
def leafI (t : Tx) : QD :=
  if t = allT then ⟨1, ⟨#[]⟩, [], 0, 0, []⟩
  else match cutQ 58 t with
    | some (name, rest) => match cutQ 126 rest with
      | some (ws, slop) => ⟨3, tb name, (splitL ws).map tb, numI slop, 0, []⟩
      | none => match cutQ 37 rest with
        | some (wd, far) => ⟨4, tb name, [tb wd], numI far, 0, []⟩
        | none => if wordB (tb rest) = true then ⟨2, tb name, [tb rest], 0, 0, []⟩ else ⟨5, tb name, [tb rest], 0, 0, []⟩
    | none =>
      let p := (cutQ 61 t).getD (t, [])
      let n := cut2L p.2
      ⟨6, tb p.1, [], numI n.1, numI n.2, []⟩
def kindOf (l : Tx) : Int := if l = nameL 7 then 7 else if l = nameL 8 then 8 else if l = nameL 9 then 9 else if l = nameL 10 then 10 else 0
def kidsI (f : Tx → QD × Tx) : Nat → Tx → List QD × Tx
  | c, 32 :: l => match c with
    | 0 => ([], l)
    | c + 1 => ((f l).1 :: (kidsI f c (f l).2).1, (kidsI f c (f l).2).2)
  | _, l => ([], l)
def skipL (b : UInt8) (l : Tx) : Tx := if l.head? = some b then l.tail else l
def frI (kd : Int) (l : Tx) : Int × Tx := if kd = 10 ∧ l.head? = some 32 then (numI (tokL l.tail), rstL l.tail) else (0, l)
def nodeI (f : Tx → QD × Tx) (l : Tx) : QD × Tx :=
  let kd := kindOf (tokL l)
  let p := frI kd (rstL l)
  let r := kidsI f 200 p.2
  (⟨kd, ⟨#[]⟩, [], p.1, 0, r.1⟩, skipL 41 r.2)
def queryI : Nat → Tx → QD × Tx
  | 0 => fun l => (leafI (tokL l), rstL l)
  | n + 1 => fun l => if l.head? = some 40 then nodeI (queryI n) l.tail else (leafI (tokL l), rstL l)

theorem queryI_node {l : Tx} (n : Nat) (h : l.head? = some 40) : queryI (n + 1) l = nodeI (queryI n) l.tail := if_pos h
theorem queryI_leaf {l : Tx} (n : Nat) (h : l.head? ≠ some 40) : queryI (n + 1) l = (leafI (tokL l), rstL l) := if_neg h
/-- what may stand behind a question. -/
def EndT (x : Tx) : Prop := x = [] ∨ ∃ b r, x = b :: r ∧ nsep b = false
theorem nsep_gb {b : UInt8} (h : gbC b = true) : nsep b = true := by
  have h1 := gb_ne h (c := 32) (.inl rfl)
  have h2 := gb_ne h (c := 40) (.inr (.inr (.inl rfl)))
  have h3 := gb_ne h (c := 41) (.inr (.inr (.inr (.inl rfl))))
  simp [nsep, h1, h2, h3]
theorem tok_app : ∀ {t x : Tx}, (∀ b ∈ t, nsep b = true) → EndT x → tokL (t ++ x) = t ∧ rstL (t ++ x) = x
  | [], x, _, hx => by
    rcases hx with rfl | ⟨b, r, rfl, hb⟩
    · exact ⟨rfl, rfl⟩
    · unfold tokL rstL
      rw [List.nil_append, List.takeWhile_cons, List.dropWhile_cons, hb]; exact ⟨rfl, rfl⟩
  | b :: t, x, h, hx => by
    have hb := h b (by simp)
    have ih := tok_app (t := t) (x := x) (fun c hc => h c (List.mem_cons_of_mem _ hc)) hx
    unfold tokL rstL at ih ⊢
    rw [List.cons_append, List.takeWhile_cons, List.dropWhile_cons, hb]
    simp [ih]
theorem name_gb (kd : Int) : GbT (nameL kd) := by
  unfold nameL GbT
  split
  · decide
  split
  · decide
  split
  · decide
  split
  · decide
  · intro b hb; simp at hb
theorem kindOf_name {kd : Int} (h : kd = 7 ∨ kd = 8 ∨ kd = 9 ∨ kd = 10) : kindOf (nameL kd) = kd := by
  rcases h with rfl | rfl | rfl | rfl <;> decide
theorem gbT_nsep {l : Tx} (h : GbT l) : ∀ b ∈ l, nsep b = true := fun b hb => nsep_gb (h b hb)
theorem joinP_nsep : ∀ {ws : List ByteArray}, (∀ w ∈ ws, wordB w = true) → ∀ b ∈ joinP ws, nsep b = true
  | [], _ => by simp [joinP]
  | [x], h => by rw [joinP]; exact gbT_nsep (gbT_word (h x (by simp)))
  | x :: y :: r, h => by
    rw [joinP]
    intro b hb
    rw [List.mem_append, List.mem_cons] at hb
    rcases hb with hb | rfl | hb
    · exact gbT_nsep (gbT_word (h x (by simp))) b hb
    · decide
    · exact joinP_nsep (fun w hw => h w (List.mem_cons_of_mem _ hw)) b hb
theorem nsep_app {a b : Tx} (ha : ∀ x ∈ a, nsep x = true) (hb : ∀ x ∈ b, nsep x = true) : ∀ x ∈ a ++ b, nsep x = true := fun x hx => (List.mem_append.1 hx).elim (ha x) (hb x)
theorem nsep_cons {c : UInt8} {b : Tx} (hc : nsep c = true) (hb : ∀ x ∈ b, nsep x = true) : ∀ x ∈ c :: b, nsep x = true := fun x hx => (List.mem_cons.1 hx).elim (fun e => by rw [e]; exact hc) (hb x)
theorem leaf_nsep {q : QD} (h : LeafQ q) : (∀ b ∈ leafL q, nsep b = true) ∧ leafL q ≠ [] := by
  cases h with
  | all => exact ⟨by decide, by decide⟩
  | term fd w h1 h2 => exact ⟨nsep_app (gbT_nsep (gbT_word h1)) (nsep_cons (by decide) (gbT_nsep (gbT_word h2))), by simp [leafL]⟩
  | phrase fd ws fr h1 h2 => exact ⟨nsep_app (gbT_nsep (gbT_word h1)) (nsep_cons (by decide) (nsep_app (joinP_nsep h2) (nsep_cons (by decide) (gbT_nsep (gbT_dec _))))), by simp [leafL]⟩
  | near fd w fr h1 h2 => exact ⟨nsep_app (gbT_nsep (gbT_word h1)) (nsep_cons (by decide) (nsep_app (gbT_nsep (gbT_word h2)) (nsep_cons (by decide) (gbT_nsep (gbT_dec _))))), by simp [leafL]⟩
  | glob fd w h1 h2 => exact ⟨nsep_app (gbT_nsep (gbT_word h1)) (nsep_cons (by decide) (gbT_nsep (fun b hb => glob_all h2 b hb))), by simp [leafL]⟩
  | range fd fr tq h1 => exact ⟨nsep_app (gbT_nsep (gbT_word h1)) (nsep_cons (by decide) (nsep_app (gbT_nsep (gbT_dec _)) (nsep_cons (by decide) (nsep_cons (by decide) (gbT_nsep (gbT_dec _)))))), by simp [leafL]⟩
theorem leaf_ne_all {s : ByteArray} {c : UInt8} (hc : c = 58 ∨ c = 61) (x : Tx) : s.data.toList ++ c :: x ≠ allT := by
  intro e
  have : c ∈ allT := by rw [← e]; simp
  rcases hc with rfl | rfl <;> revert this <;> decide
theorem leafI_ok {q : QD} (h : LeafQ q) : leafI (leafL q) = q := by
  cases h with
  | all => rfl
  | term fd w h1 h2 =>
    have e : leafL ⟨2, fd, [w], 0, 0, []⟩ = fd.data.toList ++ 58 :: w.data.toList := by simp [leafL, hdW]
    have g := gbT_word h2
    rw [e]
    unfold leafI
    rw [if_neg (leaf_ne_all (.inl rfl) _), cutQ_at (gbT_not (gbT_word h1) (by decide))]
    simp only
    rw [cutQ_none (gbT_not g (by decide))]
    simp only
    rw [cutQ_none (gbT_not g (by decide))]
    simp only
    rw [list_tb, if_pos h2, list_tb]
  | phrase fd ws fr h1 h2 h3 h4 h5 h6 =>
    have e : leafL ⟨3, fd, ws, fr, 0, []⟩ = fd.data.toList ++ 58 :: (joinP ws ++ 126 :: decL fr) := by simp [leafL]
    rw [e]
    unfold leafI
    rw [if_neg (leaf_ne_all (.inl rfl) _), cutQ_at (gbT_not (gbT_word h1) (by decide))]
    simp only
    rw [cutQ_at (joinP_not (by decide) (fun w hw => gbT_not (gbT_word (h2 w hw)) (by decide)))]
    simp only
    rw [splitL_join (fun w hw => gbT_not (gbT_word (h2 w hw)) (by decide)) (by intro e; rw [e] at h3; simp at h3), numI_dec h5 (by omega), list_tb, List.map_map]
    congr 1
    exact (List.map_congr_left (fun w _ => list_tb w)).trans (List.map_id _)
  | near fd w fr h1 h2 h3 h4 =>
    have e : leafL ⟨4, fd, [w], fr, 0, []⟩ = fd.data.toList ++ 58 :: (w.data.toList ++ 37 :: decL fr) := by simp [leafL, hdW]
    have g := gbT_word h2
    rw [e]
    unfold leafI
    rw [if_neg (leaf_ne_all (.inl rfl) _), cutQ_at (gbT_not (gbT_word h1) (by decide))]
    simp only
    rw [cutQ_none (b := 126) (by
      rw [List.mem_append, List.mem_cons]
      rintro (h | h | h)
      · exact gbT_not g (by decide) h
      · revert h; decide
      · exact gbT_not (gbT_dec _) (by decide) h)]
    simp only
    rw [cutQ_at (gbT_not g (by decide))]
    simp only
    rw [numI_dec (by omega) (by omega), list_tb, list_tb]
  | glob fd w h1 h2 h3 =>
    have e : leafL ⟨5, fd, [w], 0, 0, []⟩ = fd.data.toList ++ 58 :: w.data.toList := by simp [leafL, hdW]
    have g : GbT w.data.toList := fun b hb => glob_all h2 b hb
    rw [e]
    unfold leafI
    rw [if_neg (leaf_ne_all (.inl rfl) _), cutQ_at (gbT_not (gbT_word h1) (by decide))]
    simp only
    rw [cutQ_none (gbT_not g (by decide))]
    simp only
    rw [cutQ_none (gbT_not g (by decide))]
    simp only
    rw [list_tb, if_neg (by rw [h3]; decide), list_tb]
  | range fd fr tq h1 h2 h3 h4 =>
    have e : leafL ⟨6, fd, [], fr, tq, []⟩ = fd.data.toList ++ 61 :: (decL fr ++ 46 :: 46 :: decL tq) := by simp [leafL]
    rw [e]
    unfold leafI
    rw [if_neg (leaf_ne_all (.inr rfl) _), cutQ_none (b := 58) (by
      rw [List.mem_append, List.mem_cons, List.mem_append, List.mem_cons, List.mem_cons]
      rintro (h | h | h | h | h | h)
      · exact gbT_not (gbT_word h1) (by decide) h
      · revert h; decide
      · exact gbT_not (gbT_dec _) (by decide) h
      · revert h; decide
      · revert h; decide
      · exact gbT_not (gbT_dec _) (by decide) h)]
    simp only
    rw [cutQ_at (gbT_not (gbT_word h1) (by decide))]
    simp only [Option.getD_some]
    rw [cut2L_at (gbT_not (gbT_dec _) (by decide))]
    simp only
    rw [numI_dec h2 (by omega), numI_dec (by omega) h4, list_tb]
theorem put_leaf (m : Nat) {q : QD} (h : LeafQ q) : putL (m + 1) q = leafL q := by
  have : 1 ≤ q.kd ∧ q.kd ≤ 6 := by cases h <;> (dsimp only; omega)
  show (if _ then _ else _) = _
  rw [if_pos this]
theorem put_node (m : Nat) {kd : Int} (hk : kd = 7 ∨ kd = 8 ∨ kd = 9 ∨ kd = 10) (fr : Int) (ks : List QD) : putL (m + 1) ⟨kd, ⟨#[]⟩, [], fr, 0, ks⟩ = 40 :: (nameL kd ++ ((if kd = 10 then 32 :: decL fr else []) ++ (ks.flatMap (kidP (putL m)) ++ [41]))) := by
  show (if _ then _ else _) = _
  rw [if_neg (by dsimp only; omega)]
  rfl
theorem kidsI_ok (f : Tx → QD × Tx) (g : QD → Tx) (y : Tx) : ∀ (c : Nat) (ks : List QD), ks.length ≤ c → (∀ k ∈ ks, ∀ x, EndT x → f (g k ++ x) = (k, x)) → kidsI f c (ks.flatMap (kidP g) ++ 41 :: y) = (ks, 41 :: y)
  | c, [], _, _ => by cases c <;> rfl
  | 0, k :: ks, h, _ => by simp at h
  | c + 1, k :: ks, h, hf => by
    have ih := kidsI_ok f g y c ks (by simpa using h) (fun k hk => hf k (List.mem_cons_of_mem _ hk))
    have hx : EndT (ks.flatMap (kidP g) ++ 41 :: y) := by
      cases ks with
      | nil => exact .inr ⟨41, y, rfl, by decide⟩
      | cons k2 r => exact .inr ⟨32, _, rfl, by decide⟩
    have e : (k :: ks).flatMap (kidP g) ++ 41 :: y = 32 :: (g k ++ (ks.flatMap (kidP g) ++ 41 :: y)) := by
      rw [List.flatMap_cons, kidP, List.cons_append, List.cons_append, List.append_assoc]
    have hk := hf k (by simp) _ hx
    rw [e, kidsI]
    simp only [hk, ih]
theorem queryI_ok : ∀ (m n : Nat) (q : QD) (x : Tx), okQ m q = true → m ≤ n → EndT x → queryI n (putL m q ++ x) = (q, x)
  | 0, n, q, x, h, _, _ => by cases h
  | m + 1, 0, q, x, h, hm, _ => by omega
  | m + 1, n + 1, q, x, h, hm, hx => by
    obtain ⟨h1, h2⟩ := ok_parts h
    rcases one_cases h1 with hl | ⟨kd, fr, ks, hk, hf, hk1, hk2, rfl⟩
    · rw [put_leaf m hl]
      obtain ⟨g1, g2⟩ := leaf_nsep hl
      obtain ⟨t1, t2⟩ := tok_app g1 hx
      have hh : (leafL q ++ x).head? ≠ some 40 := by
        cases hq : leafL q with
        | nil => exact absurd hq g2
        | cons b r =>
          intro e
          have e' : b = 40 := by simpa using e
          have := g1 b (by rw [hq]; simp)
          rw [e'] at this
          revert this; decide
      rw [queryI_leaf n hh, t1, t2, leafI_ok hl]
    · rw [put_node m hk]
      have ih : ∀ k ∈ ks, ∀ x, EndT x → queryI n (putL m k ++ x) = (k, x) := fun k hk x hx => queryI_ok m n k x (h2 k hk) (by omega) hx
      have hkid := kidsI_ok (queryI n) (putL m) x 200 ks (by omega) ih
      have hE : EndT (ks.flatMap (kidP (putL m)) ++ 41 :: x) := by
        cases ks with
        | nil => exact .inr ⟨41, x, rfl, by decide⟩
        | cons k2 r => exact .inr ⟨32, _, rfl, by decide⟩
      rw [List.cons_append, queryI_node n rfl, List.tail_cons, List.append_assoc, List.append_assoc, List.append_assoc, List.singleton_append]
      have hE2 : EndT ((if kd = 10 then 32 :: decL fr else []) ++ (ks.flatMap (kidP (putL m)) ++ 41 :: x)) := by
        split
        · exact .inr ⟨32, _, rfl, by decide⟩
        · exact hE
      obtain ⟨t1, t2⟩ := tok_app (gbT_nsep (name_gb kd)) hE2
      unfold nodeI
      simp only [t1, t2, kindOf_name hk]
      have hfr : frI kd ((if kd = 10 then 32 :: decL fr else []) ++ (ks.flatMap (kidP (putL m)) ++ 41 :: x)) = (fr, ks.flatMap (kidP (putL m)) ++ 41 :: x) := by
        rcases hf with ⟨rfl, h3, h4⟩ | ⟨h3, rfl⟩
        · obtain ⟨t3, t4⟩ := tok_app (gbT_nsep (gbT_dec fr)) hE
          rw [if_pos rfl, List.cons_append, frI, if_pos ⟨rfl, rfl⟩, List.tail_cons, t3, t4, numI_dec (by omega) (by omega)]
        · rw [if_neg h3, List.nil_append, frI, if_neg (fun e => h3 e.1)]
      rw [hfr]
      simp only [hkid]
      rfl
/-! spec's reader -/
/-- spec.l1Cut. -/
def cutS (b : UInt8) : Nat → Tx → List Tx
  | 0, l => [l]
  | m + 1, l => match cutQ b l with
    | none => [l]
    | some (p, r) => p :: cutS b m r
def leafS (t : Tx) : QD :=
  if t = allT then ⟨1, ⟨#[]⟩, [], 0, 0, []⟩
  else match cutQ 61 t with
    | some (name, rest) => match cutS 46 2 rest with
      | [a, _, c] => ⟨6, tb name, [], numS a, numS c, []⟩
      | _ => ⟨0, ⟨#[]⟩, [], 0, 0, []⟩
    | none => match cutQ 58 t with
      | none => ⟨0, ⟨#[]⟩, [], 0, 0, []⟩
      | some (name, rest) => match cutQ 126 rest with
        | some (ws, slop) => ⟨3, tb name, (cutS 43 5 ws).map tb, numS slop, 0, []⟩
        | none => match cutQ 37 rest with
          | some (wd, far) => ⟨4, tb name, [tb wd], numS far, 0, []⟩
          | none => if wordB (tb rest) = true then ⟨2, tb name, [tb rest], 0, 0, []⟩ else ⟨5, tb name, [tb rest], 0, 0, []⟩
/-- spec.l11End. -/
def endL : Nat → Tx → Nat
  | _, [] => 0
  | o, b :: r => if b = 40 then endL (o + 1) r + 1 else if (b = 41 ∨ b = 32) ∧ o = 0 then 0 else if b = 41 then endL (o - 1) r + 1 else endL o r + 1
def piecesL : Nat → Tx → List Tx
  | 0, _ => []
  | c + 1, l => if l.length ≤ endL 0 l then [l.take (endL 0 l)] else l.take (endL 0 l) :: piecesL c (l.drop (endL 0 l + 1))
def nodeS (f : Tx → QD) (ws : List Tx) : QD :=
  let kd := kindOf (ws.headD [])
  if kd = 10 then (if ws.length < 2 then ⟨10, ⟨#[]⟩, [], 0, 0, []⟩ else ⟨10, ⟨#[]⟩, [], numS (ws.tail.headD []), 0, ws.tail.tail.map f⟩)
  else ⟨kd, ⟨#[]⟩, [], 0, 0, ws.tail.map f⟩
def readS : Nat → Tx → QD
  | 0 => fun l => leafS l
  | m + 1 => fun l => if l.length < 2 ∨ l.head? ≠ some 40 ∨ l.getLast? ≠ some 41 then leafS l else nodeS (readS m) (piecesL 7 l.tail.dropLast)

theorem readS_leaf {l : Tx} (m : Nat) (h : l.length < 2 ∨ l.head? ≠ some 40 ∨ l.getLast? ≠ some 41) : readS (m + 1) l = leafS l := if_pos h
theorem readS_node {l : Tx} (m : Nat) (h : ¬ (l.length < 2 ∨ l.head? ≠ some 40 ∨ l.getLast? ≠ some 41)) : readS (m + 1) l = nodeS (readS m) (piecesL 7 l.tail.dropLast) := if_neg h
theorem cutS_none {b : UInt8} {l : Tx} (h : b ∉ l) : ∀ m, cutS b m l = [l]
  | 0 => rfl
  | m + 1 => by rw [cutS, cutQ_none h]
theorem cutS_at {b : UInt8} {p r : Tx} (h : b ∉ p) (m : Nat) : cutS b (m + 1) (p ++ b :: r) = p :: cutS b m r := by rw [cutS, cutQ_at h]
theorem cutS_join : ∀ (m : Nat) {ws : List ByteArray}, (∀ w ∈ ws, (43 : UInt8) ∉ w.data.toList) → ws ≠ [] → ws.length ≤ m + 1 → cutS 43 m (joinP ws) = ws.map (·.data.toList)
  | m, [x], h, _, _ => by rw [joinP, cutS_none (h x (by simp))]; rfl
  | 0, x :: y :: r, h, _, hl => by simp at hl
  | m + 1, x :: y :: r, h, _, hl => by
    rw [joinP, cutS_at (h x (by simp)), cutS_join m (fun w hw => h w (List.mem_cons_of_mem _ hw)) (List.cons_ne_nil _ _) (by simp at hl ⊢; omega)]
    rfl
theorem leafS_ok {q : QD} (h : LeafQ q) : leafS (leafL q) = q := by
  cases h with
  | all => rfl
  | term fd w h1 h2 =>
    have e : leafL ⟨2, fd, [w], 0, 0, []⟩ = fd.data.toList ++ 58 :: w.data.toList := by simp [leafL, hdW]
    have g := gbT_word h2
    rw [e]
    unfold leafS
    rw [if_neg (leaf_ne_all (.inl rfl) _), cutQ_none (b := 61) (by
      rw [List.mem_append, List.mem_cons]
      rintro (h | h | h)
      · exact gbT_not (gbT_word h1) (by decide) h
      · revert h; decide
      · exact gbT_not g (by decide) h)]
    simp only
    rw [cutQ_at (gbT_not (gbT_word h1) (by decide))]
    simp only
    rw [cutQ_none (gbT_not g (by decide))]
    simp only
    rw [cutQ_none (gbT_not g (by decide))]
    simp only
    rw [list_tb, if_pos h2, list_tb]
  | phrase fd ws fr h1 h2 h3 h4 h5 h6 =>
    have e : leafL ⟨3, fd, ws, fr, 0, []⟩ = fd.data.toList ++ 58 :: (joinP ws ++ 126 :: decL fr) := by simp [leafL]
    rw [e]
    unfold leafS
    rw [if_neg (leaf_ne_all (.inl rfl) _), cutQ_none (b := 61) (by
      rw [List.mem_append, List.mem_cons, List.mem_append, List.mem_cons]
      rintro (h | h | h | h | h)
      · exact gbT_not (gbT_word h1) (by decide) h
      · revert h; decide
      · exact joinP_not (by decide) (fun w hw => gbT_not (gbT_word (h2 w hw)) (by decide)) h
      · revert h; decide
      · exact gbT_not (gbT_dec _) (by decide) h)]
    simp only
    rw [cutQ_at (gbT_not (gbT_word h1) (by decide))]
    simp only
    rw [cutQ_at (joinP_not (by decide) (fun w hw => gbT_not (gbT_word (h2 w hw)) (by decide)))]
    simp only
    rw [cutS_join 5 (fun w hw => gbT_not (gbT_word (h2 w hw)) (by decide)) (by intro e; rw [e] at h3; simp at h3) (by omega), numS_dec h5 (by omega), list_tb, List.map_map]
    congr 1
    exact (List.map_congr_left (fun w _ => list_tb w)).trans (List.map_id _)
  | near fd w fr h1 h2 h3 h4 =>
    have e : leafL ⟨4, fd, [w], fr, 0, []⟩ = fd.data.toList ++ 58 :: (w.data.toList ++ 37 :: decL fr) := by simp [leafL, hdW]
    have g := gbT_word h2
    rw [e]
    unfold leafS
    rw [if_neg (leaf_ne_all (.inl rfl) _), cutQ_none (b := 61) (by
      rw [List.mem_append, List.mem_cons, List.mem_append, List.mem_cons]
      rintro (h | h | h | h | h)
      · exact gbT_not (gbT_word h1) (by decide) h
      · revert h; decide
      · exact gbT_not g (by decide) h
      · revert h; decide
      · exact gbT_not (gbT_dec _) (by decide) h)]
    simp only
    rw [cutQ_at (gbT_not (gbT_word h1) (by decide))]
    simp only
    rw [cutQ_none (b := 126) (by
      rw [List.mem_append, List.mem_cons]
      rintro (h | h | h)
      · exact gbT_not g (by decide) h
      · revert h; decide
      · exact gbT_not (gbT_dec _) (by decide) h)]
    simp only
    rw [cutQ_at (gbT_not g (by decide))]
    simp only
    rw [numS_dec (by omega) (by omega), list_tb, list_tb]
  | glob fd w h1 h2 h3 =>
    have e : leafL ⟨5, fd, [w], 0, 0, []⟩ = fd.data.toList ++ 58 :: w.data.toList := by simp [leafL, hdW]
    have g : GbT w.data.toList := fun b hb => glob_all h2 b hb
    rw [e]
    unfold leafS
    rw [if_neg (leaf_ne_all (.inl rfl) _), cutQ_none (b := 61) (by
      rw [List.mem_append, List.mem_cons]
      rintro (h | h | h)
      · exact gbT_not (gbT_word h1) (by decide) h
      · revert h; decide
      · exact gbT_not g (by decide) h)]
    simp only
    rw [cutQ_at (gbT_not (gbT_word h1) (by decide))]
    simp only
    rw [cutQ_none (gbT_not g (by decide))]
    simp only
    rw [cutQ_none (gbT_not g (by decide))]
    simp only
    rw [list_tb, if_neg (by rw [h3]; decide), list_tb]
  | range fd fr tq h1 h2 h3 h4 =>
    have e : leafL ⟨6, fd, [], fr, tq, []⟩ = fd.data.toList ++ 61 :: (decL fr ++ 46 :: 46 :: decL tq) := by simp [leafL]
    rw [e]
    unfold leafS
    rw [if_neg (leaf_ne_all (.inr rfl) _), cutQ_at (gbT_not (gbT_word h1) (by decide))]
    simp only
    have hc : cutS 46 2 (decL fr ++ 46 :: 46 :: decL tq) = [decL fr, [], decL tq] := by
      rw [cutS_at (gbT_not (gbT_dec _) (by decide)), show (46 :: decL tq : Tx) = [] ++ 46 :: decL tq from rfl, cutS_at (by simp)]
      rfl
    rw [hc]
    simp only
    rw [numS_dec h2 (by omega), numS_dec (by omega) h4, list_tb]

/-- each parenthesis that it opens it shuts, and a blank in it stands between such. -/
def Bal (t : Tx) : Prop := ∀ o x, endL o (t ++ x) = t.length + endL o x
def BalIn (t : Tx) : Prop := ∀ o x, endL (o + 1) (t ++ x) = t.length + endL (o + 1) x
theorem bal_flat : ∀ {t : Tx}, (∀ b ∈ t, nsep b = true) → Bal t
  | [], _ => fun o x => by simp
  | b :: t, h => fun o x => by
    have hb := h b (by simp)
    unfold nsep at hb
    simp at hb
    have ih := bal_flat (t := t) (fun c hc => h c (List.mem_cons_of_mem _ hc)) o x
    rw [List.cons_append, endL, if_neg hb.2.1, if_neg (by rintro ⟨h1 | h1, _⟩; exact hb.2.2 h1; exact hb.1 h1), if_neg hb.2.2, ih, List.length_cons]
    omega
theorem Bal.inn {t : Tx} (h : Bal t) : BalIn t := fun o x => h (o + 1) x
theorem balIn_app {a b : Tx} (ha : BalIn a) (hb : BalIn b) : BalIn (a ++ b) := fun o x => by rw [List.append_assoc, ha, hb, List.length_append]; omega
theorem balIn_blank {t : Tx} (h : BalIn t) : BalIn (32 :: t) := fun o x => by
  rw [List.cons_append, endL, if_neg (by decide), if_neg (by rintro ⟨_, h⟩; omega), if_neg (by decide), h, List.length_cons]; omega
theorem balIn_nil : BalIn [] := fun o x => by simp
theorem bal_paren {t : Tx} (h : BalIn t) : Bal (40 :: (t ++ [41])) := fun o x => by
  rw [List.cons_append, endL, if_pos rfl, List.append_assoc, h, List.singleton_append, endL, if_neg (by decide), if_neg (by rintro ⟨_, h⟩; omega), if_pos rfl, List.length_cons, List.length_append]
  simp; omega
theorem bal_kids (f : QD → Tx) : ∀ ks : List QD, (∀ k ∈ ks, Bal (f k)) → BalIn (ks.flatMap (kidP f))
  | [], _ => balIn_nil
  | k :: r, h => by
    rw [List.flatMap_cons]
    exact balIn_app (balIn_blank (h k (by simp)).inn) (bal_kids f r (fun k hk => h k (List.mem_cons_of_mem _ hk)))
theorem put_bal : ∀ (m : Nat) (q : QD), okQ m q = true → Bal (putL m q)
  | 0, q, h => by cases h
  | m + 1, q, h => by
    obtain ⟨h1, h2⟩ := ok_parts h
    rcases one_cases h1 with hl | ⟨kd, fr, ks, hk, hf, hk1, hk2, rfl⟩
    · rw [put_leaf m hl]; exact bal_flat (leaf_nsep hl).1
    · rw [put_node m hk, ← List.append_assoc, ← List.append_assoc]
      refine bal_paren (balIn_app (balIn_app (bal_flat (gbT_nsep (name_gb kd))).inn ?_) (bal_kids _ ks (fun k hk => put_bal m k (h2 k hk))))
      split
      · exact balIn_blank (bal_flat (gbT_nsep (gbT_dec fr))).inn
      · exact balIn_nil
theorem pieces_one {t : Tx} (h : Bal t) (c : Nat) : piecesL (c + 1) t = [t] := by
  have h0 := h 0 []
  rw [List.append_nil, endL, Nat.add_zero] at h0
  rw [piecesL, h0, if_pos (Nat.le_refl _), List.take_length]
theorem pieces_cons {t : Tx} (h : Bal t) (x : Tx) (c : Nat) : piecesL (c + 1) (t ++ 32 :: x) = t :: piecesL c x := by
  have h0 := h 0 (32 :: x)
  rw [show endL 0 (32 :: x) = 0 by rw [endL, if_neg (by decide), if_pos ⟨.inr rfl, rfl⟩], Nat.add_zero] at h0
  rw [piecesL, h0, if_neg (by simp), List.take_left', List.drop_append, List.drop_of_length_le (by omega)]
  · simp [show t.length + 1 - t.length = 1 by omega]
  · rfl
theorem pieces_kids (f : QD → Tx) : ∀ (ks : List QD) (t : Tx) (c : Nat), Bal t → (∀ k ∈ ks, Bal (f k)) → ks.length < c → piecesL c (t ++ ks.flatMap (kidP f)) = t :: ks.map f
  | _, t, 0, _, _, h => by omega
  | [], t, c + 1, ht, _, _ => by rw [List.flatMap_nil, List.append_nil, pieces_one ht]; rfl
  | k :: r, t, c + 1, ht, hk, h => by
    rw [List.flatMap_cons, kidP, List.cons_append, pieces_cons ht, pieces_kids f r (f k) c (hk k (by simp)) (fun k hk2 => hk k (List.mem_cons_of_mem _ hk2)) (by simpa using h)]
    rfl
theorem readS_ok : ∀ (m : Nat) (q : QD), okQ m q = true → readS m (putL m q) = q
  | 0, q, h => by cases h
  | m + 1, q, h => by
    obtain ⟨h1, h2⟩ := ok_parts h
    rcases one_cases h1 with hl | ⟨kd, fr, ks, hk, hf, hk1, hk2, rfl⟩
    · rw [put_leaf m hl]
      obtain ⟨g1, g2⟩ := leaf_nsep hl
      rw [readS_leaf m, leafS_ok hl]
      refine .inr (.inl fun e => ?_)
      have := g1 40 (List.mem_of_mem_head? e)
      revert this; decide
    · rw [put_node m hk]
      have hb : ∀ k ∈ ks, Bal (putL m k) := fun k hk => put_bal m k (h2 k hk)
      have hm : ks.map (readS m ∘ putL m) = ks := (List.map_congr_left (fun k hk => readS_ok m k (h2 k hk))).trans (List.map_id _)
      have hin : (nameL kd ++ ((if kd = 10 then 32 :: decL fr else []) ++ (ks.flatMap (kidP (putL m)) ++ [41]))) = (nameL kd ++ ((if kd = 10 then 32 :: decL fr else []) ++ ks.flatMap (kidP (putL m)))) ++ [41] := by simp
      rw [hin, readS_node m, List.tail_cons, List.dropLast_concat]
      · rcases hf with ⟨rfl, h3, h4⟩ | ⟨h3, rfl⟩
        · rw [if_pos rfl, List.cons_append, pieces_cons (bal_flat (gbT_nsep (name_gb 10))), pieces_kids _ ks _ 6 (bal_flat (gbT_nsep (gbT_dec fr))) hb (by omega)]
          unfold nodeS
          simp only [List.headD_cons, kindOf_name (.inr (.inr (.inr rfl)) : (10 : Int) = 7 ∨ _), List.tail_cons, List.map_map, hm, numS_dec (show 0 ≤ fr by omega) (by omega)]
          rw [if_pos trivial, if_neg (by simp)]
        · rw [if_neg h3, List.nil_append, pieces_kids _ ks _ 7 (bal_flat (gbT_nsep (name_gb kd))) hb (by omega)]
          unfold nodeS
          simp only [List.headD_cons, kindOf_name hk, List.tail_cons, List.map_map, hm]
          rw [if_neg h3]
      · rintro (h | h | h)
        · simp at h; omega
        · exact h rfl
        · rw [List.getLast?_cons, List.getLast?_concat] at h; simp at h

/-! what both readers answer -/
def readR (q : QD) (s : Tx) : Option QD := if okQ 4 q = true ∧ putL 4 q = s then some q else none
theorem read_same (n : Nat) (hn : 4 ≤ n) (s : Tx) : readR (queryI n s).1 s = readR (readS 4 s) s := by
  unfold readR
  by_cases h : ∃ q, okQ 4 q = true ∧ putL 4 q = s
  · obtain ⟨q, h1, h2⟩ := h
    have e1 := queryI_ok 4 n q [] h1 hn (.inl rfl)
    rw [List.append_nil, h2] at e1
    have e2 := readS_ok 4 q h1
    rw [h2] at e2
    rw [e1, e2]
  · rw [if_neg (fun e => h ⟨_, e⟩), if_neg (fun e => h ⟨_, e⟩)]
theorem readR_put {q : QD} (n : Nat) (hn : 4 ≤ n) (h : okQ 4 q = true) : readR (queryI n (putL 4 q)).1 (putL 4 q) = some q := by
  have e1 := queryI_ok 4 n q [] h hn (.inl rfl)
  rw [List.append_nil] at e1
  unfold readR
  rw [e1, if_pos ⟨h, rfl⟩]
/-! how long -/
theorem joinP_len : ∀ (ws : List ByteArray), (∀ w ∈ ws, wordB w = true) → (joinP ws).length ≤ 13 * ws.length
  | [], _ => by simp [joinP]
  | [x], h => by have := word_len (h x (by simp)); rw [joinP]; simp at this ⊢; omega
  | x :: y :: r, h => by
    have h1 := word_len (h x (by simp))
    have h2 := joinP_len (y :: r) (fun w hw => h w (List.mem_cons_of_mem _ hw))
    rw [joinP, List.length_append, List.length_cons]
    simp only [List.length_cons] at h2 ⊢
    omega
theorem leafL_len {q : QD} (h : LeafQ q) : (leafL q).length ≤ 100 := by
  have hd : ∀ n : Int, n ≤ 999999999 → (decL n).length ≤ 9 := fun n h => decD_len _ (by omega)
  cases h with
  | all => decide
  | term fd w h1 h2 => have a := word_len h1; have b := word_len h2; simp [leafL, hdW] at a b ⊢; omega
  | phrase fd ws fr h1 h2 h3 h4 h5 h6 => have a := word_len h1; have b := joinP_len ws h2; have c := hd fr (by omega); simp [leafL] at a b ⊢; omega
  | near fd w fr h1 h2 h3 h4 => have a := word_len h1; have b := word_len h2; have c := hd fr (by omega); simp [leafL, hdW] at a b ⊢; omega
  | glob fd w h1 h2 => have a := word_len h1; have b := glob_len h2; simp [leafL, hdW] at a b ⊢; omega
  | range fd fr tq h1 h2 h3 h4 => have a := word_len h1; have b := hd fr (by omega); have c := hd tq (by omega); simp [leafL] at a ⊢; omega
theorem kids_len (f : QD → Tx) (M : Nat) : ∀ ks : List QD, (∀ k ∈ ks, (f k).length ≤ M) → (ks.flatMap (kidP f)).length ≤ (M + 1) * ks.length
  | [], _ => by simp
  | k :: r, h => by
    have h1 := h k (by simp)
    have h2 := kids_len f M r (fun k hk => h k (List.mem_cons_of_mem _ hk))
    rw [List.flatMap_cons, List.length_append, kidP, List.length_cons, List.length_cons, Nat.mul_add]
    omega
theorem name_len (kd : Int) : (nameL kd).length ≤ 5 := by
  unfold nameL
  split
  · decide
  split
  · decide
  split
  · decide
  split
  · decide
  · decide
theorem put_len : ∀ (m : Nat) (q : QD), okQ m q = true → (putL m q).length ≤ 100 * 5 ^ m
  | 0, q, h => by cases h
  | m + 1, q, h => by
    obtain ⟨h1, h2⟩ := ok_parts h
    have h5 : 1 ≤ 5 ^ m := Nat.one_le_pow _ _ (by decide)
    rw [Nat.pow_succ]
    rcases one_cases h1 with hl | ⟨kd, fr, ks, hk, hf, hk1, hk2, rfl⟩
    · rw [put_leaf m hl]
      have := leafL_len hl
      omega
    · rw [put_node m hk]
      have a := kids_len (putL m) (100 * 5 ^ m) ks (fun k hk => put_len m k (h2 k hk))
      have b := name_len kd
      have c : (if kd = 10 then 32 :: decL fr else []).length ≤ 10 := by
        split
        · have := decD_len fr.toNat (by omega)
          simpa [decL] using this
        · simp
      have d : (100 * 5 ^ m + 1) * ks.length ≤ (100 * 5 ^ m + 1) * 4 := Nat.mul_le_mul_left _ hk2
      simp only [List.length_cons, List.length_append, List.length_nil]
      omega
theorem put_ne {m : Nat} {q : QD} (h : okQ m q = true) : putL m q ≠ [] := by
  cases m with
  | zero => cases h
  | succ m =>
    obtain ⟨h1, _⟩ := ok_parts h
    rcases one_cases h1 with hl | ⟨kd, fr, ks, hk, hf, hk1, hk2, rfl⟩
    · rw [put_leaf m hl]; exact (leaf_nsep hl).2
    · rw [put_node m hk]; simp
end Go.Proofs.YtaobgliimbmemaaDoor
