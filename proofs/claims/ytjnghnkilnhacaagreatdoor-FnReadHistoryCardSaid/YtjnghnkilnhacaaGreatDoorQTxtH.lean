/- Texts as lists of bytes: words, decimal numbers below 100, the texts of operations and transactions, and how they are read. Plain laws. Texts of transactions and histories: what is read from the text that was written, and what was written for the text that is read. Plain laws. -/
import Derived.Test.YtjnghnkilnhacaaGreatDoorQHistS
import Derived.Lib.SplitLaws
import Derived.Lib.Join
namespace Go.Proofs.YtjnghnkilnhacaaGreatDoor
open Go
set_option linter.unusedVariables false
set_option linter.unusedSimpArgs false

abbrev Bs := List UInt8
def putHead (x : UInt8) : List Bs → List Bs
  | [] => [[x]]
  | w :: ws => (x :: w) :: ws
/-- The words of a text: cut at every space. -/
def wordsL : Bs → List Bs
  | [] => [[]]
  | x :: l => if x = 32 then [] :: wordsL l else putHead x (wordsL l)
theorem wordsL_ne : ∀ l, wordsL l ≠ []
  | [] => by simp [wordsL]
  | x :: l => by
    unfold wordsL
    split
    · simp
    · cases wordsL l <;> simp [putHead]
theorem wordsL_one : ∀ {w : Bs}, 32 ∉ w → wordsL w = [w]
  | [], _ => rfl
  | x :: l, h => by
    have hx : x ≠ 32 := fun e => h (by rw [e]; exact List.mem_cons_self)
    rw [wordsL, if_neg hx, wordsL_one (fun e => h (List.mem_cons_of_mem _ e))]
    rfl
theorem wordsL_cons : ∀ {w : Bs} (l : Bs), 32 ∉ w → wordsL (w ++ 32 :: l) = w :: wordsL l
  | [], l, _ => by simp [wordsL]
  | x :: w, l, h => by
    have hx : x ≠ 32 := fun e => h (by rw [e]; exact List.mem_cons_self)
    rw [List.cons_append, wordsL, if_neg hx, wordsL_cons l (fun e => h (List.mem_cons_of_mem _ e))]
    rfl
theorem index_space (x : UInt8) (l : Bs) : Lib.index (x :: l) [32] = if x = 32 then 0 else if Lib.index l [32] = -1 then -1 else Lib.index l [32] + 1 := by
  rw [Lib.index]
  by_cases h : x = 32
  · subst h; simp [List.isPrefixOf]
  · have hp : ([32] : List UInt8).isPrefixOf (x :: l) = false := by simp [List.isPrefixOf, Ne.symm h]
    rw [hp, if_neg h]
    simp
theorem split_words : ∀ l : Bs, Lib.split l [32] = wordsL l
  | [] => by
    unfold Lib.split
    rw [Lib.count_miss (by simp [Lib.index])]
    rfl
  | x :: l => by
    have ih := split_words l
    unfold wordsL
    by_cases h : x = 32
    · subst h
      rw [if_pos rfl, ← ih]
      unfold Lib.split
      rw [Lib.count_cons_eq, Nat.add_comm, Lib.splitK]
      have hi : Lib.index ((32 : UInt8) :: l) [32] = 0 := by rw [index_space, if_pos rfl]
      rw [hi]
      simp
    · rw [if_neg h, ← ih]
      unfold Lib.split
      rw [Lib.count_cons_ne _ _ _ h]
      cases hk : Lib.count l [32] with
      | zero => rfl
      | succ k =>
        have hn : Lib.index l [32] ≠ -1 := fun e => by rw [Lib.count_miss e] at hk; omega
        have hge := Lib.index_ge l [32]
        obtain ⟨i, hi⟩ : ∃ i : Nat, Lib.index l [32] = (i : Int) := ⟨(Lib.index l [32]).toNat, by omega⟩
        rw [Lib.splitK, Lib.splitK, index_space, if_neg h, if_neg hn, hi]
        have h1 : ¬ (((i : Int) + 1) == -1) = true := by rw [beq_iff_eq]; omega
        have h2 : ¬ ((i : Int) == -1) = true := by rw [beq_iff_eq]; omega
        rw [if_neg h1, if_neg h2, show ((i : Int) + 1).toNat = i + 1 by omega, show (i : Int).toNat = i by omega]
        simp [putHead]

/-- The decimal text of a number below 100. -/
def decL (n : Nat) : Bs := if n < 10 then [UInt8.ofNat (48 + n)] else [UInt8.ofNat (48 + n / 10), UInt8.ofNat (48 + n % 10)]
def digV (a : UInt8) : Option Nat := if 48 ≤ a.toNat ∧ a.toNat ≤ 57 then some (a.toNat - 48) else none
/-- The number that a text of one or two digits stands for. -/
def readNum : Bs → Option Nat
  | [a] => digV a
  | [a, b] => match digV a, digV b with
    | some x, some y => if x = 0 then none else some (10 * x + y)
    | _, _ => none
  | _ => none
theorem digV_some {a : UInt8} {n : Nat} (h : digV a = some n) : n < 10 ∧ a = UInt8.ofNat (48 + n) := by
  unfold digV at h
  split at h
  · rename_i hc
    obtain rfl : a.toNat - 48 = n := by simpa using h
    refine ⟨by omega, ?_⟩
    rw [show 48 + (a.toNat - 48) = a.toNat by omega]
    simp
  · cases h
theorem digV_of {n : Nat} (h : n < 10) : digV (UInt8.ofNat (48 + n)) = some n := by
  unfold digV
  have : (UInt8.ofNat (48 + n)).toNat = 48 + n := by simp; omega
  rw [this, if_pos (by omega)]
  simp
theorem readNum_dec {n : Nat} (h : n < 100) : readNum (decL n) = some n := by
  unfold decL
  split
  · rename_i hn; exact digV_of hn
  · rename_i hn
    rw [readNum, digV_of (by omega), digV_of (by omega)]
    simp only
    rw [if_neg (by omega)]
    congr 1
    omega
theorem readNum_some {l : Bs} {n : Nat} (h : readNum l = some n) : n < 100 ∧ decL n = l := by
  match l, h with
  | [a], h =>
    obtain ⟨h1, h2⟩ := digV_some h
    exact ⟨by omega, by unfold decL; rw [if_pos h1, h2]⟩
  | [a, b], h =>
    rw [readNum] at h
    cases ha : digV a with
    | none => rw [ha] at h; cases h
    | some x =>
      cases hb : digV b with
      | none => rw [ha, hb] at h; cases h
      | some y =>
        rw [ha, hb] at h
        simp only at h
        split at h
        · cases h
        · rename_i hx
          obtain rfl : 10 * x + y = n := by simpa using h
          obtain ⟨h1, h2⟩ := digV_some ha
          obtain ⟨h3, h4⟩ := digV_some hb
          refine ⟨by omega, ?_⟩
          unfold decL
          rw [if_neg (by omega), show (10 * x + y) / 10 = x by omega, show (10 * x + y) % 10 = y by omega, h2, h4]
theorem decL_len (n : Nat) : 1 ≤ (decL n).length ∧ (decL n).length ≤ 2 := by unfold decL; split <;> simp
theorem decL_space {n : Nat} (h : n < 100) : ∀ c ∈ decL n, 48 ≤ c.toNat ∧ c.toNat ≤ 57 := by
  unfold decL
  have hd : ∀ k, k < 10 → 48 ≤ (UInt8.ofNat (48 + k)).toNat ∧ (UInt8.ofNat (48 + k)).toNat ≤ 57 := fun k hk => by
    have : (UInt8.ofNat (48 + k)).toNat = 48 + k := by simp; omega
    omega
  split
  · rename_i hn
    intro c hc
    rw [List.mem_singleton.1 hc]
    exact hd n hn
  · intro c hc
    rcases List.mem_cons.1 hc with e | e
    · rw [e]; exact hd _ (by omega)
    · rw [List.mem_singleton.1 e]; exact hd _ (by omega)

/-- The text of a valid operation. -/
def opL (o : Op) : Bs := (if o.Kind == 2 then 119 else 114) :: (decL o.Key.toNat ++ 61 :: decL o.Value.toNat)
/-- The operation that a text stands for. -/
def readOpL : Bs → Option Op
  | k :: a :: e :: v => if e = 61 ∧ (k = 114 ∨ k = 119) then
      match digV a, readNum v with
      | some x, some y => let o : Op := ⟨if k = 119 then 2 else 1, x, y⟩; if opOk o then some o else none
      | _, _ => none
    else none
  | _ => none
theorem opOk_parts' {o : Op} (h : opOk o = true) : (o.Kind = 1 ∨ o.Kind = 2) ∧ (0 ≤ o.Key ∧ o.Key ≤ 2) ∧ (0 ≤ o.Value ∧ o.Value ≤ 99) := by
  rw [opOk_eq] at h
  simp only [Bool.and_eq_true, inR_iff] at h
  obtain ⟨⟨⟨⟨h1, h2⟩, h3⟩, h4⟩, _⟩ := h
  exact ⟨by omega, h3, h4⟩
theorem opL_form {o : Op} (h : opOk o = true) : opL o = (if o.Kind == 2 then 119 else 114) :: UInt8.ofNat (48 + o.Key.toNat) :: 61 :: decL o.Value.toNat := by
  obtain ⟨_, h2, _⟩ := opOk_parts' h
  unfold opL
  rw [show decL o.Key.toNat = [UInt8.ofNat (48 + o.Key.toNat)] by unfold decL; rw [if_pos (by omega)]]
  rfl
theorem readOpL_of {o : Op} (h : opOk o = true) : readOpL (opL o) = some o := by
  obtain ⟨h1, h2, h3⟩ := opOk_parts' h
  rw [opL_form h, readOpL, digV_of (by omega), readNum_dec (by omega)]
  obtain ⟨K, k, v⟩ := o
  simp only at h1 h2 h3
  obtain ⟨k, rfl⟩ : ∃ n : Nat, k = (n : Int) := ⟨k.toNat, by omega⟩
  obtain ⟨v, rfl⟩ : ∃ n : Nat, v = (n : Int) := ⟨v.toNat, by omega⟩
  rcases h1 with rfl | rfl
  · simp [h]
  · simp [h]
theorem readOpL_some {l : Bs} {o : Op} (h : readOpL l = some o) : opOk o = true ∧ opL o = l := by
  match l, h with
  | k :: a :: e :: v, h =>
    rw [readOpL] at h
    split at h
    · rename_i hc
      obtain ⟨rfl, hk⟩ := hc
      cases ha : digV a with
      | none => rw [ha] at h; cases h
      | some x =>
        cases hb : readNum v with
        | none => rw [ha, hb] at h; cases h
        | some y =>
          rw [ha, hb] at h
          simp only at h
          obtain ⟨_, h2⟩ := digV_some ha
          obtain ⟨_, h4⟩ := readNum_some hb
          have hfin : ∀ K : Int, (K = 1 ∨ K = 2) → (if opOk ⟨K, x, y⟩ then some (⟨K, x, y⟩ : Op) else none) = some o → opOk o = true ∧ o = ⟨K, x, y⟩ := fun K _ hh => by
            by_cases hok : opOk ⟨K, x, y⟩ = true
            · rw [if_pos hok] at hh
              injection hh with hh
              exact ⟨by rw [← hh]; exact hok, hh.symm⟩
            · rw [if_neg hok] at hh; cases hh
          rcases hk with rfl | rfl
          · obtain ⟨hok, rfl⟩ := hfin 1 (.inl rfl) h
            refine ⟨hok, ?_⟩
            rw [opL_form hok]
            simp only [Int.toNat_natCast]
            rw [h4, ← h2]
            rfl
          · obtain ⟨hok, rfl⟩ := hfin 2 (.inr rfl) h
            refine ⟨hok, ?_⟩
            rw [opL_form hok]
            simp only [Int.toNat_natCast]
            rw [h4, ← h2]
            rfl
    · cases h
theorem opL_space {o : Op} (h : opOk o = true) : (32 : UInt8) ∉ opL o ∧ (59 : UInt8) ∉ opL o := by
  obtain ⟨_, h2, h3⟩ := opOk_parts' h
  rw [opL_form h]
  have hd : ∀ c ∈ decL o.Value.toNat, c ≠ 32 ∧ c ≠ 59 := fun c hc => by
    have := decL_space (by omega) c hc
    constructor <;> (rintro rfl; simp at this)
  have hk : (UInt8.ofNat (48 + o.Key.toNat)).toNat = 48 + o.Key.toNat := by simp; omega
  have hl : ∀ c : UInt8, c = (if o.Kind == 2 then 119 else 114) → c ≠ 32 ∧ c ≠ 59 := fun c hc => by subst hc; split <;> decide
  constructor
  · intro hm
    rcases List.mem_cons.1 hm with e | hm
    · exact (hl _ e).1 rfl
    · rcases List.mem_cons.1 hm with e | hm
      · rw [← e] at hk; simp at hk; omega
      · rcases List.mem_cons.1 hm with e | hm
        · cases e
        · exact (hd _ hm).1 rfl
  · intro hm
    rcases List.mem_cons.1 hm with e | hm
    · exact (hl _ e).2 rfl
    · rcases List.mem_cons.1 hm with e | hm
      · rw [← e] at hk; simp at hk; omega
      · rcases List.mem_cons.1 hm with e | hm
        · cases e
        · exact (hd _ hm).2 rfl
/-- The words of a transaction's text. -/
def txnW (t : Txn) : List Bs := (115 :: decL t.Session.toNat) :: (if t.Done then [111, 107] else [111, 102, 102]) :: t.Ops.map opL
/-- The text of a valid transaction. -/
def txnL (t : Txn) : Bs := Lib.join (txnW t) [32]
theorem join_words : ∀ (w : Bs) (ws : List Bs), (∀ v ∈ w :: ws, (32 : UInt8) ∉ v) → wordsL (Lib.join (w :: ws) [32]) = w :: ws
  | w, [], h => by rw [Lib.join_one]; exact wordsL_one (h w List.mem_cons_self)
  | w, v :: ws, h => by
    have ih := join_words v ws (fun u hu => h u (List.mem_cons_of_mem _ hu))
    have e : Lib.join (w :: v :: ws) [32] = w ++ 32 :: Lib.join (v :: ws) [32] := by
      rw [Lib.join_cons, Lib.join_cons]; rfl
    rw [e, wordsL_cons _ (h w List.mem_cons_self), ih]
theorem words_join : ∀ l : Bs, Lib.join (wordsL l) [32] = l
  | [] => by rw [wordsL, Lib.join_one]
  | x :: l => by
    have ih := words_join l
    unfold wordsL
    cases hw : wordsL l with
    | nil => exact absurd hw (wordsL_ne l)
    | cons v ws =>
      rw [hw] at ih
      split
      · rename_i hx
        subst hx
        have e : Lib.join ([] :: v :: ws) [32] = 32 :: Lib.join (v :: ws) [32] := by rw [Lib.join_cons, Lib.join_cons]; rfl
        rw [e, ih]
      · unfold putHead
        cases ws with
        | nil => rw [Lib.join_one] at ih ⊢; rw [ih]
        | cons u us => rw [Lib.join_cons] at ih ⊢; rw [List.cons_append, ih]
/-- The transaction that words stand for. -/
def readTW : List Bs → Option Txn
  | s :: d :: ws => match s with
    | 115 :: n => match readNum n with
      | some k => if d = [111, 107] ∨ d = [111, 102, 102] then
          match ws.mapM readOpL with
          | some os => if txnOk ⟨k, os, d = [111, 107]⟩ then some ⟨k, os, d = [111, 107]⟩ else none
          | none => none
        else none
      | none => none
    | _ => none
  | _ => none
def readTL (l : Bs) : Option Txn := readTW (wordsL l)
end Go.Proofs.YtjnghnkilnhacaaGreatDoor
namespace Go.Proofs.YtjnghnkilnhacaaGreatDoor
open Go
set_option linter.unusedVariables false
set_option linter.unusedSimpArgs false

theorem txnOk_parts' {t : Txn} (h : txnOk t = true) : (∀ o ∈ t.Ops, opOk o = true) ∧ (0 ≤ t.Session ∧ t.Session ≤ 3) ∧ t.Ops.length ≤ 6 := by
  unfold txnOk at h
  simp only [Bool.and_eq_true, List.all_eq_true, inR_iff, decide_eq_true_eq] at h
  exact ⟨h.1, h.2.1, h.2.2⟩
theorem mapM_opL : ∀ {os : List Op}, (∀ o ∈ os, opOk o = true) → (os.map opL).mapM readOpL = some os
  | [], _ => rfl
  | o :: os, h => by
    rw [List.map_cons, List.mapM_cons, readOpL_of (h o List.mem_cons_self), mapM_opL (fun x hx => h x (List.mem_cons_of_mem _ hx))]
    rfl
theorem mapM_opL_some : ∀ {ws : List Bs} {os : List Op}, ws.mapM readOpL = some os → os.map opL = ws ∧ ∀ o ∈ os, opOk o = true
  | [], os, h => by
    obtain rfl : [] = os := by simpa using h
    exact ⟨rfl, by simp⟩
  | w :: ws, os, h => by
    rw [List.mapM_cons] at h
    cases h1 : readOpL w with
    | none => rw [h1] at h; cases h
    | some o =>
      cases h2 : ws.mapM readOpL with
      | none => rw [h1, h2] at h; cases h
      | some os' =>
        rw [h1, h2] at h
        obtain rfl : o :: os' = os := by simpa using h
        obtain ⟨i1, i2⟩ := mapM_opL_some h2
        obtain ⟨j1, j2⟩ := readOpL_some h1
        refine ⟨by rw [List.map_cons, i1, j2], fun x hx => ?_⟩
        rcases List.mem_cons.1 hx with rfl | hx
        · exact j1
        · exact i2 x hx
theorem readTW_of {t : Txn} (h : txnOk t = true) : readTW (txnW t) = some t := by
  obtain ⟨h1, h2, h3⟩ := txnOk_parts' h
  unfold txnW readTW
  simp only
  rw [readNum_dec (by omega)]
  simp only
  rw [mapM_opL h1]
  obtain ⟨s, os, d⟩ := t
  simp only at h2
  obtain ⟨s, rfl⟩ : ∃ n : Nat, s = (n : Int) := ⟨s.toNat, by omega⟩
  cases d
  · simp [h]
  · simp [h]
theorem readTW_some {ws : List Bs} {t : Txn} (h : readTW ws = some t) : txnOk t = true ∧ txnW t = ws := by
  match ws, h with
  | s :: d :: ws, h =>
    match s, h with
    | x :: n, h =>
      by_cases hx : x = 115
      · subst hx
        rw [readTW] at h
        cases hn : readNum n with
        | none => rw [hn] at h; cases h
        | some k =>
          rw [hn] at h
          simp only at h
          by_cases hd : d = [111, 107] ∨ d = [111, 102, 102]
          · rw [if_pos hd] at h
            cases ho : ws.mapM readOpL with
            | none => rw [ho] at h; cases h
            | some os =>
              rw [ho] at h
              simp only at h
              by_cases hok : txnOk ⟨k, os, d = [111, 107]⟩ = true
              · rw [if_pos hok] at h
                injection h with h
                subst h
                refine ⟨hok, ?_⟩
                obtain ⟨i1, _⟩ := mapM_opL_some ho
                obtain ⟨_, j2⟩ := readNum_some hn
                unfold txnW
                simp only [Int.toNat_natCast]
                rw [j2, i1]
                rcases hd with rfl | rfl <;> rfl
              · rw [if_neg hok] at h; cases h
          · rw [if_neg hd] at h; cases h
      · exfalso
        unfold readTW at h
        simp only at h
        split at h
        · rename_i n' he; injection he with he _; exact hx he
        · cases h
theorem txnW_space {t : Txn} (h : txnOk t = true) : ∀ w ∈ txnW t, (32 : UInt8) ∉ w ∧ (59 : UInt8) ∉ w := by
  obtain ⟨h1, h2, h3⟩ := txnOk_parts' h
  have hd : ∀ c ∈ decL t.Session.toNat, c ≠ 32 ∧ c ≠ 59 := fun c hc => by
    have := decL_space (by omega) c hc
    constructor <;> (rintro rfl; simp at this)
  intro w hw
  unfold txnW at hw
  rcases List.mem_cons.1 hw with rfl | hw
  · constructor
    · intro hm
      rcases List.mem_cons.1 hm with e | hm
      · cases e
      · exact (hd _ hm).1 rfl
    · intro hm
      rcases List.mem_cons.1 hm with e | hm
      · cases e
      · exact (hd _ hm).2 rfl
  · rcases List.mem_cons.1 hw with rfl | hw
    · split <;> decide
    · obtain ⟨o, ho, rfl⟩ := List.mem_map.1 hw
      exact opL_space (h1 o ho)
theorem words_txnL {t : Txn} (h : txnOk t = true) : wordsL (txnL t) = txnW t := join_words _ _ (fun v hv => (txnW_space h v hv).1)
theorem readTL_of {t : Txn} (h : txnOk t = true) : readTL (txnL t) = some t := by
  unfold readTL
  rw [words_txnL h, readTW_of h]
theorem readTL_some {l : Bs} {t : Txn} (h : readTL l = some t) : txnOk t = true ∧ txnL t = l := by
  obtain ⟨h1, h2⟩ := readTW_some h
  exact ⟨h1, by unfold txnL; rw [h2, words_join]⟩
theorem join_none {ws : List Bs} {sep : Bs} (hw : ∀ w ∈ ws, (59 : UInt8) ∉ w) (hs : (59 : UInt8) ∉ sep) : (59 : UInt8) ∉ Lib.join ws sep := by
  induction ws with
  | nil => simp [Lib.join]
  | cons w ws ih =>
    cases ws with
    | nil => rw [Lib.join_one]; exact hw w List.mem_cons_self
    | cons v ws =>
      have ih := ih (fun u hu => hw u (List.mem_cons_of_mem _ hu))
      have e : Lib.join (w :: v :: ws) sep = w ++ (sep ++ Lib.join (v :: ws) sep) := by
        simp [Lib.join, List.intercalate, List.intersperse]
      rw [e]
      intro hm
      rcases List.mem_append.1 hm with hm | hm
      · exact hw w List.mem_cons_self hm
      · rcases List.mem_append.1 hm with hm | hm
        · exact hs hm
        · exact ih hm
theorem txnL_semi {t : Txn} (h : txnOk t = true) : (59 : UInt8) ∉ txnL t := join_none (fun w hw => (txnW_space h w hw).2) (by decide)
theorem txnL_ne {t : Txn} : txnL t ≠ [] := by
  unfold txnL txnW
  rw [Lib.join_cons]
  simp

/-- The parts of a text: cut at every semicolon with a space behind it. -/
def partsL : Bs → List Bs
  | [] => [[]]
  | [x] => [[x]]
  | x :: y :: l => if x = 59 ∧ y = 32 then [] :: partsL l else putHead x (partsL (y :: l))
theorem partsL_ne : ∀ l, partsL l ≠ []
  | [] => by simp [partsL]
  | [x] => by simp [partsL]
  | x :: y :: l => by
    unfold partsL
    split
    · simp
    · cases partsL (y :: l) <;> simp [putHead]
theorem partsL_one : ∀ {w : Bs}, (59 : UInt8) ∉ w → partsL w = [w]
  | [], _ => rfl
  | [x], _ => rfl
  | x :: y :: l, h => by
    have hx : ¬ (x = 59 ∧ y = 32) := fun e => h (by rw [e.1]; exact List.mem_cons_self)
    rw [partsL, if_neg hx, partsL_one (fun e => h (List.mem_cons_of_mem _ e))]
    rfl
theorem partsL_cons : ∀ {w : Bs} (l : Bs), (59 : UInt8) ∉ w → partsL (w ++ 59 :: 32 :: l) = w :: partsL l
  | [], l, _ => by simp [partsL]
  | [x], l, h => by
    have hx : ¬ (x = 59 ∧ (59 : UInt8) = 32) := fun e => by have := e.2; simp at this
    show partsL (x :: 59 :: 32 :: l) = _
    rw [partsL, if_neg hx, show partsL (59 :: 32 :: l) = [] :: partsL l by simp [partsL]]
    rfl
  | x :: y :: w, l, h => by
    have hx : ¬ (x = 59 ∧ y = 32) := fun e => h (by rw [e.1]; exact List.mem_cons_self)
    have ih := partsL_cons (w := y :: w) l (fun e => h (List.mem_cons_of_mem _ e))
    show partsL (x :: y :: (w ++ 59 :: 32 :: l)) = _
    rw [partsL, if_neg hx, show y :: (w ++ 59 :: 32 :: l) = (y :: w) ++ 59 :: 32 :: l from rfl, ih]
    rfl
theorem join_parts : ∀ (w : Bs) (ws : List Bs), (∀ v ∈ w :: ws, (59 : UInt8) ∉ v) → partsL (Lib.join (w :: ws) [59, 32]) = w :: ws
  | w, [], h => by rw [Lib.join_one]; exact partsL_one (h w List.mem_cons_self)
  | w, v :: ws, h => by
    have ih := join_parts v ws (fun u hu => h u (List.mem_cons_of_mem _ hu))
    have e : Lib.join (w :: v :: ws) [59, 32] = w ++ 59 :: 32 :: Lib.join (v :: ws) [59, 32] := by
      rw [Lib.join_cons, Lib.join_cons]; rfl
    rw [e, partsL_cons _ (h w List.mem_cons_self), ih]
theorem parts_join : ∀ l : Bs, Lib.join (partsL l) [59, 32] = l
  | [] => by rw [partsL, Lib.join_one]
  | [x] => by rw [partsL, Lib.join_one]
  | x :: y :: l => by
    unfold partsL
    split
    · rename_i hx
      obtain ⟨rfl, rfl⟩ := hx
      have ih := parts_join l
      cases hw : partsL l with
      | nil => exact absurd hw (partsL_ne l)
      | cons v ws =>
        rw [hw] at ih
        have e : Lib.join ([] :: v :: ws) [59, 32] = 59 :: 32 :: Lib.join (v :: ws) [59, 32] := by rw [Lib.join_cons, Lib.join_cons]; rfl
        rw [e, ih]
    · have ih := parts_join (y :: l)
      cases hw : partsL (y :: l) with
      | nil => exact absurd hw (partsL_ne _)
      | cons v ws =>
        rw [hw] at ih
        unfold putHead
        cases ws with
        | nil => rw [Lib.join_one] at ih ⊢; rw [ih]
        | cons u us => rw [Lib.join_cons] at ih ⊢; rw [List.cons_append, ih]
/-- The text of a valid history. -/
def histL (h : List Txn) : Bs := if histV h then Lib.join (h.map txnL) [59, 32] else []
/-- The history that a text stands for. -/
def readHL (l : Bs) : Option (List Txn) := if l = [] then some [] else match (partsL l).mapM readTL with
  | some h => if histV h then some h else none
  | none => none
theorem histV_ok {h : List Txn} (hv : histV h = true) : ∀ t ∈ h, txnOk t = true := by
  unfold histV at hv
  simp only [Bool.and_eq_true, List.all_eq_true] at hv
  intro t ht
  have := hv.1 t ht
  unfold txnFine at this
  simp only [Bool.and_eq_true] at this
  exact this.1
theorem mapM_txnL : ∀ {h : List Txn}, (∀ t ∈ h, txnOk t = true) → (h.map txnL).mapM readTL = some h
  | [], _ => rfl
  | t :: h, hh => by
    rw [List.map_cons, List.mapM_cons, readTL_of (hh t List.mem_cons_self), mapM_txnL (fun x hx => hh x (List.mem_cons_of_mem _ hx))]
    rfl
theorem mapM_txnL_some : ∀ {ws : List Bs} {h : List Txn}, ws.mapM readTL = some h → h.map txnL = ws ∧ ∀ t ∈ h, txnOk t = true
  | [], h, hh => by
    obtain rfl : [] = h := by simpa using hh
    exact ⟨rfl, by simp⟩
  | w :: ws, h, hh => by
    rw [List.mapM_cons] at hh
    cases h1 : readTL w with
    | none => rw [h1] at hh; cases hh
    | some t =>
      cases h2 : ws.mapM readTL with
      | none => rw [h1, h2] at hh; cases hh
      | some h' =>
        rw [h1, h2] at hh
        obtain rfl : t :: h' = h := by simpa using hh
        obtain ⟨i1, i2⟩ := mapM_txnL_some h2
        obtain ⟨j1, j2⟩ := readTL_some h1
        refine ⟨by rw [List.map_cons, i1, j2], fun x hx => ?_⟩
        rcases List.mem_cons.1 hx with rfl | hx
        · exact j1
        · exact i2 x hx
theorem readHL_of {h : List Txn} (hv : histV h = true) : readHL (histL h) = some h := by
  unfold histL
  rw [if_pos hv]
  cases h with
  | nil => rfl
  | cons t h =>
    have hok := histV_ok hv
    unfold readHL
    rw [List.map_cons]
    have hp : partsL (Lib.join (txnL t :: h.map txnL) [59, 32]) = txnL t :: h.map txnL := join_parts _ _ (fun v hv' => by
      rw [← List.map_cons] at hv'
      obtain ⟨x, hx, rfl⟩ := List.mem_map.1 hv'
      exact txnL_semi (hok x hx))
    have hne : Lib.join (txnL t :: h.map txnL) [59, 32] ≠ [] := fun e => by
      rw [e] at hp
      simp only [partsL, List.cons.injEq] at hp
      exact txnL_ne hp.1.symm
    rw [if_neg hne, hp, ← List.map_cons, mapM_txnL hok]
    simp [hv]
theorem readHL_some {l : Bs} {h : List Txn} (hh : readHL l = some h) : histV h = true ∧ histL h = l := by
  unfold readHL at hh
  split at hh
  · rename_i hl
    obtain rfl : [] = h := by simpa using hh
    exact ⟨rfl, by rw [hl]; rfl⟩
  · cases hm : (partsL l).mapM readTL with
    | none => rw [hm] at hh; cases hh
    | some h' =>
      rw [hm] at hh
      simp only at hh
      split at hh
      · rename_i hv
        injection hh with hh
        subst hh
        refine ⟨hv, ?_⟩
        unfold histL
        rw [if_pos hv, (mapM_txnL_some hm).1, parts_join]
      · cases hh
end Go.Proofs.YtjnghnkilnhacaaGreatDoor
