/- Ranges of numbers: what the small functions of the program and of the reference answer. The validity of an operation. The reference's OpValid, TxnValid, l2Writes, HistoryValid. Texts as lists of bytes: words, decimal numbers below 100, the texts of operations and transactions, and how they are read. Plain laws. Texts of transactions and histories: what is read from the text that was written, and what was written for the text that is read. Plain laws. -/
import Derived.Test.YtjnghnkilnhacaaDoorProg
import Derived.Test.YtjnghnkilnhacaaDoorQBuild
import Derived.Deep.RegionHeld3
import Derived.WalkLawsBesides
import Derived.IntWalk
import Derived.Lib.SplitLaws
import Derived.Lib.Join
namespace Go.Proofs.YtjnghnkilnhacaaDoor
open Go.RowKit
set_option linter.unusedVariables false
set_option linter.unusedSimpArgs false

theorem l1In (n lo hi : Int) (w : World) : Calls Tryd.prog 38 #[.int .i64 n, .int .i64 lo, .int .i64 hi] w fun e w' => e = .returned (.bool (inR n lo hi)) ∧ w = w' := by
  go_enter Tryd.func38, Tryd.ntmps38
  go_wp2
  all_goals (go_ret; refine ⟨ret_bool ?_, rfl⟩; simp [inR]; try omega)
theorem within (n lo hi : Int) (w : World) : Calls Tryd.prog 65 #[.int .i64 n, .int .i64 lo, .int .i64 hi] w fun e w' => e = .returned (.bool (inR n lo hi)) ∧ w = w' := by
  go_enter Tryd.func65, Tryd.ntmps65
  go_wp2
  all_goals (go_ret; refine ⟨ret_bool ?_, rfl⟩; simp [inR]; try omega)
theorem valueOk (n : Int) (w : World) : Calls Tryd.prog 70 #[.int .i64 n] w fun e w' => e = .returned (.bool (inR n 0 99)) ∧ w = w' := by
  go_enter Tryd.func70, Tryd.ntmps70
  go_wp2_with (go_at_call 65; refine (within _ _ _ _).mono ?_; rintro e w' ⟨rfl, rfl⟩)
  go_ret
  exact ⟨rfl, rfl⟩
theorem keyOk (n : Int) (w : World) : Calls Tryd.prog 69 #[.int .i64 n] w fun e w' => e = .returned (.bool (inR n 0 2)) ∧ w = w' := by
  go_enter Tryd.func69, Tryd.ntmps69
  go_wp2_with (go_at_call 65; refine (within _ _ _ _).mono ?_; rintro e w' ⟨rfl, rfl⟩)
  go_ret
  exact ⟨rfl, rfl⟩
theorem sessionOk (n : Int) (w : World) : Calls Tryd.prog 50 #[.int .i64 n] w fun e w' => e = .returned (.bool (inR n 0 3)) ∧ w = w' := by
  go_enter Tryd.func50, Tryd.ntmps50
  go_wp2_with (go_at_call 65; refine (within _ _ _ _).mono ?_; rintro e w' ⟨rfl, rfl⟩)
  go_ret
  exact ⟨rfl, rfl⟩
def opOk (o : Op) : Bool := (o.Kind == 1 || o.Kind == 2) && inR o.Key 0 2 && inR o.Value 0 99 && !(o.Kind == 2 && o.Value == 0)
theorem reads_any (o : Op) (w : World) : Calls Tryd.prog 67 #[.agg #[.int .i64 o.Kind, .int .i64 o.Key, .int .i64 o.Value]] w fun e w' => e = .returned (.bool (o.Kind == 1)) ∧ Below w.heap.size w w' := by
  go_enter Tryd.func67, Tryd.ntmps67
  go_wp2
  go_ret
  exact ⟨rfl, (Below.refl _ _).alloc (Nat.le_refl _) _⟩
theorem writes_any (o : Op) (w : World) : Calls Tryd.prog 68 #[.agg #[.int .i64 o.Kind, .int .i64 o.Key, .int .i64 o.Value]] w fun e w' => e = .returned (.bool (o.Kind == 2)) ∧ Below w.heap.size w w' := by
  go_enter Tryd.func68, Tryd.ntmps68
  go_wp2
  go_ret
  exact ⟨rfl, (Below.refl _ _).alloc (Nat.le_refl _) _⟩

set_option maxRecDepth 10000 in
set_option maxHeartbeats 1000000 in
theorem opValid_any (o : Op) (w : World) : Calls Tryd.prog 53 #[.agg #[.int .i64 o.Kind, .int .i64 o.Key, .int .i64 o.Value]] w fun e w' => e = .returned (.bool (opOk o)) ∧ Below w.heap.size w w' := by
  have HR := hide (fun W => reads_any o W)
  have HW := hide (fun W => writes_any o W)
  have HB := hide ((Below.refl _ w).alloc (Nat.le_refl _) (.cells #[.int .i64 o.Kind, .int .i64 o.Key, .int .i64 o.Value] 41))
  have HO := hide (show opOk o = ((o.Kind == 1 || o.Kind == 2) && inR o.Key 0 2 && inR o.Value 0 99 && !(o.Kind == 2 && o.Value == 0)) from rfl)
  cases q1 : (o.Kind == 1) with
  | false =>
    cases q2 : (o.Kind == 2) with
    | false =>
      rw [q1, q2] at HO
      rw [q1] at HR; rw [q2] at HW
      clear q1 q2
      go_enter Tryd.func53, Tryd.ntmps53
      go_wp2_with (first | (go_at_call 67; refine (HR.out _).mono ?_; rintro e w1 ⟨rfl, hb1⟩; have HB := hide (HB.out.trans (hb1.mono HB.out.size)); obtain ⟨hc1, hf1⟩ := bcell hb1; have hz1 : w.heap.size < w1.heap.size := (by have := hb1.size; simp at this; omega); clear hb1) | (go_at_call 68; refine (HW.out _).mono ?_; rintro e w2 ⟨rfl, hb2⟩; have HB := hide (HB.out.trans (hb2.mono HB.out.size)); obtain ⟨hc2, hf2⟩ := bcell hb2; have hz2 : w.heap.size < w2.heap.size := (by have := hb2.size; omega); clear hb2) | (go_at_call 69; refine (keyOk _ _).mono ?_; rintro e w' ⟨rfl, rfl⟩) | (go_at_call 70; refine (valueOk _ _).mono ?_; rintro e w' ⟨rfl, rfl⟩))
      go_ret
      exact ⟨ret_bool (by rw [HO.out]; rfl), HB.out⟩
    | true =>
      rw [q1, q2] at HO
      rw [q1] at HR; rw [q2] at HW
      clear q1 q2
      cases q3 : inR o.Key 0 2 <;> cases q4 : inR o.Value 0 99 <;> cases q5 : (o.Value == 0) <;> rw [q3, q4, q5] at HO
      all_goals
        go_enter Tryd.func53, Tryd.ntmps53
        go_wp2_with (first | (go_at_call 67; refine (HR.out _).mono ?_; rintro e w1 ⟨rfl, hb1⟩; have HB := hide (HB.out.trans (hb1.mono HB.out.size)); obtain ⟨hc1, hf1⟩ := bcell hb1; have hz1 : w.heap.size < w1.heap.size := (by have := hb1.size; simp at this; omega); clear hb1) | (go_at_call 68; refine (HW.out _).mono ?_; rintro e w2 ⟨rfl, hb2⟩; have HB := hide (HB.out.trans (hb2.mono HB.out.size)); obtain ⟨hc2, hf2⟩ := bcell hb2; have hz2 : w.heap.size < w2.heap.size := (by have := hb2.size; omega); clear hb2) | (go_at_call 69; refine (keyOk _ _).mono ?_; rintro e w' ⟨rfl, rfl⟩) | (go_at_call 70; refine (valueOk _ _).mono ?_; rintro e w' ⟨rfl, rfl⟩))
        go_ret
        exact ⟨ret_bool (by rw [HO.out]; rfl), HB.out⟩
  | true =>
    have q2 : (o.Kind == 2) = false := by simp at q1 ⊢; omega
    rw [q1, q2] at HO
    rw [q1] at HR; rw [q2] at HW
    clear q1 q2
    cases q3 : inR o.Key 0 2 <;> cases q4 : inR o.Value 0 99 <;> rw [q3, q4] at HO
    all_goals
      go_enter Tryd.func53, Tryd.ntmps53
      go_wp2_with (first | (go_at_call 67; refine (HR.out _).mono ?_; rintro e w1 ⟨rfl, hb1⟩; have HB := hide (HB.out.trans (hb1.mono HB.out.size)); obtain ⟨hc1, hf1⟩ := bcell hb1; have hz1 : w.heap.size < w1.heap.size := (by have := hb1.size; simp at this; omega); clear hb1) | (go_at_call 68; refine (HW.out _).mono ?_; rintro e w2 ⟨rfl, hb2⟩; have HB := hide (HB.out.trans (hb2.mono HB.out.size)); obtain ⟨hc2, hf2⟩ := bcell hb2; have hz2 : w.heap.size < w2.heap.size := (by have := hb2.size; omega); clear hb2) | (go_at_call 69; refine (keyOk _ _).mono ?_; rintro e w' ⟨rfl, rfl⟩) | (go_at_call 70; refine (valueOk _ _).mono ?_; rintro e w' ⟨rfl, rfl⟩))
      go_ret
      exact ⟨ret_bool (by rw [HO.out]; rfl), HB.out⟩
end Go.Proofs.YtjnghnkilnhacaaDoor
namespace Go.Proofs.YtjnghnkilnhacaaDoor
open Go.RowKit
set_option linter.unusedVariables false
set_option linter.unusedSimpArgs false

def txnOk (t : Txn) : Bool := t.Ops.all opOk && (inR t.Session 0 3 && decide (t.Ops.length ≤ 6))
theorem opOk_eq (o : Op) : opOk o = (inR o.Kind 1 2 && inR o.Key 0 2 && inR o.Value 0 99 && (o.Kind == 1 || decide (0 < o.Value))) := by
  rw [Bool.eq_iff_iff]
  simp only [opOk, inR, Bool.and_eq_true, Bool.or_eq_true, beq_iff_eq, decide_eq_true_eq, Bool.not_eq_true', Bool.and_eq_false_iff, beq_eq_false_iff_ne]
  omega
set_option maxRecDepth 10000 in
set_option maxHeartbeats 1000000 in
theorem specOpValid (o : Op) (w : World) : Calls Tryd.prog 37 #[.agg #[.int .i64 o.Kind, .int .i64 o.Key, .int .i64 o.Value]] w fun e w' => e = .returned (.bool (opOk o)) ∧ Below w.heap.size w w' := by
  have HO := hide (opOk_eq o)
  have HB := hide ((Below.refl _ w).alloc (Nat.le_refl _) (.cells #[.int .i64 o.Kind, .int .i64 o.Key, .int .i64 o.Value] 41))
  cases q1 : inR o.Kind 1 2 with
  | false =>
    rw [q1] at HO
    go_enter Tryd.func37, Tryd.ntmps37
    go_wp2_with (go_at_call 38; refine (l1In _ _ _ _).mono ?_; rintro e w' ⟨rfl, rfl⟩)
    go_ret
    exact ⟨by rw [HO.out]; rfl, HB.out⟩
  | true =>
    cases q2 : inR o.Key 0 2 with
    | false =>
      rw [q1, q2] at HO
      go_enter Tryd.func37, Tryd.ntmps37
      go_wp2_with (go_at_call 38; refine (l1In _ _ _ _).mono ?_; rintro e w' ⟨rfl, rfl⟩)
      go_ret
      exact ⟨by rw [HO.out]; rfl, HB.out⟩
    | true =>
      cases q3 : inR o.Value 0 99 with
      | false =>
        rw [q1, q2, q3] at HO
        go_enter Tryd.func37, Tryd.ntmps37
        go_wp2_with (go_at_call 38; refine (l1In _ _ _ _).mono ?_; rintro e w' ⟨rfl, rfl⟩)
        go_ret
        exact ⟨by rw [HO.out]; rfl, HB.out⟩
      | true =>
        rw [q1, q2, q3] at HO
        cases q4 : (o.Kind == 1) with
        | true =>
          rw [q4] at HO
          go_enter Tryd.func37, Tryd.ntmps37
          go_wp2_with (go_at_call 38; refine (l1In _ _ _ _).mono ?_; rintro e w' ⟨rfl, rfl⟩)
          go_ret
          exact ⟨by rw [HO.out]; rfl, HB.out⟩
        | false =>
          rw [q4] at HO
          go_enter Tryd.func37, Tryd.ntmps37
          go_wp2_with (go_at_call 38; refine (l1In _ _ _ _).mono ?_; rintro e w' ⟨rfl, rfl⟩)
          go_ret
          exact ⟨by rw [HO.out]; simp, HB.out⟩

set_option maxRecDepth 10000 in
set_option maxHeartbeats 1000000 in
theorem specTxnValid (t : Txn) (A : Option Addr) (c : Nat) (w : World) (hm : t.Ops.length ≤ maxLen) (hA : Row tOp w (Old w) A t.Ops) :
    Calls Tryd.prog 14 #[.agg #[.int .i64 t.Session, .slice A t.Ops.length c, .bool t.Done]] w fun e w' => e = .returned (.bool (txnOk t)) ∧ Below w.heap.size w w' := by
  have hq : t.Ops.length ≤ 9223372036854775807 := by simpa [maxLen] using hm
  have HA := hide (hA.old ((Below.refl _ w).alloc (Nat.le_refl _) (.cells #[.int .i64 t.Session, .slice A t.Ops.length c, .bool t.Done] 24)))
  have HBk := hide (Blk.new w 24 #[.int .i64 t.Session, .slice A t.Ops.length c, .bool t.Done])
  have HB := hide ((Below.refl _ w).alloc (Nat.le_refl _) (.cells #[.int .i64 t.Session, .slice A t.Ops.length c, .bool t.Done] 24))
  have HT := hide (show txnOk t = (t.Ops.all opOk && (inR t.Session 0 3 && decide (t.Ops.length ≤ 6))) from rfl)
  obtain ⟨w1, hw1⟩ : ∃ w1, w1 = w.alloc (.cells #[.int .i64 t.Session, .slice A t.Ops.length c, .bool t.Done] 24) := ⟨_, rfl⟩
  clear hA hm
  go_enter Tryd.func14, Tryd.ntmps14
  go_wp2
  rw [← hw1] at HA HBk HB ⊢
  clear hw1
  go_loopw [3] (fun i wr => ∃ k : Nat, k ≤ t.Ops.length ∧ i = .int .i64 k ∧ Hid (Upto opOk t.Ops k) ∧ Below w1.heap.size w1 wr) (fun i _ => t.Ops.length - (intOf i).toNat)
  case atStart => exact ⟨0, Nat.zero_le _, rfl, Upto.zero, Below.refl _ _⟩
  case round =>
    obtain ⟨k, hk, rfl, hI, hb⟩ := hrel
    have HK := HBk.out.below hb HBk.out.lt
    have c0 := HK.cell 0
    have c1 := HK.cell 1
    simp only [List.getElem?_toArray, List.getElem?_cons_zero, List.getElem?_cons_succ] at c0 c1
    clear HK
    by_cases hlt : k < t.Ops.length
    · obtain ⟨b, off, rfl, hbS, d0, d1, d2⟩ := at_Op HA.out hb hlt
      cases hs : opOk t.Ops[k] with
      | false =>
        have HS := hide hs; clear hs
        go_wp2_with (go_at_call 37; refine (specOpValid _ _).mono ?_; rintro e w' ⟨rfl, hb'⟩; rw [HS.out])
        go_ret
        exact ⟨ret_bool (by rw [HT.out, all_false hlt HS.out]; rfl), HB.out.trans ((hb.trans (hb'.mono hb.size)).mono HB.out.size)⟩
      | true =>
        have HS := hide hs; clear hs
        go_wp2_with (go_at_call 37; refine (specOpValid _ _).mono ?_; rintro e w' ⟨rfl, hb'⟩; rw [HS.out])
        go_roundw
        case rel => exact ⟨k + 1, by omega, by go_num, hI.out.succ hlt HS.out, hb.trans (hb'.mono hb.size)⟩
        case measure => simp [intOf]; omega
    · obtain rfl : k = t.Ops.length := by omega
      have HT2 := hide (show txnOk t = (inR t.Session 0 3 && decide (t.Ops.length ≤ 6)) by rw [HT.out, hI.out.all]; rfl)
      clear hI HT HA
      cases hs : inR t.Session 0 3 with
      | false =>
        rw [hs] at HT2
        go_wp2_with (go_at_call 38; refine (l1In _ _ _ _).mono ?_; rintro e w' ⟨rfl, rfl⟩)
        go_ret
        exact ⟨ret_bool (by rw [HT2.out]; rfl), HB.out.trans (hb.mono HB.out.size)⟩
      | true =>
        rw [hs] at HT2
        go_wp2_with (go_at_call 38; refine (l1In _ _ _ _).mono ?_; rintro e w' ⟨rfl, rfl⟩)
        go_ret
        exact ⟨ret_bool (by rw [HT2.out]; simp; try omega), HB.out.trans (hb.mono HB.out.size)⟩

def isW (key value : Int) (o : Op) : Bool := o.Kind == 2 && o.Key == key && o.Value == value
def writesN (h : List Txn) (key value : Int) : Nat := tot (fun x : Txn => x.Ops.countP (isW key value)) h
def opFine (h : List Txn) (o : Op) : Bool := !(o.Kind == 2 && decide (1 < writesN h o.Key o.Value))
def txnFine (h : List Txn) (t : Txn) : Bool := txnOk t && t.Ops.all (opFine h)
def histV (h : List Txn) : Bool := h.all (txnFine h) && decide (h.length ≤ 6)

end Go.Proofs.YtjnghnkilnhacaaDoor
namespace Go.Proofs.YtjnghnkilnhacaaDoor
open Go
set_option linter.unusedVariables false
set_option linter.unusedSimpArgs false

abbrev Bs := List UInt8
def putHead (x : UInt8) : List Bs → List Bs
  | [] => [[x]]
  | w :: ws => (x :: w) :: ws
/-- The words of a text: cut at every space. -/
def wordsL : Bs → List Bs
  | [] => [[]]
  | x :: l => if x = 32 then [] :: wordsL l else putHead x (wordsL l)
theorem wordsL_ne : ∀ l, wordsL l ≠ []
  | [] => by simp [wordsL]
  | x :: l => by
    unfold wordsL
    split
    · simp
    · cases wordsL l <;> simp [putHead]
theorem wordsL_one : ∀ {w : Bs}, 32 ∉ w → wordsL w = [w]
  | [], _ => rfl
  | x :: l, h => by
    have hx : x ≠ 32 := fun e => h (by rw [e]; exact List.mem_cons_self)
    rw [wordsL, if_neg hx, wordsL_one (fun e => h (List.mem_cons_of_mem _ e))]
    rfl
theorem wordsL_cons : ∀ {w : Bs} (l : Bs), 32 ∉ w → wordsL (w ++ 32 :: l) = w :: wordsL l
  | [], l, _ => by simp [wordsL]
  | x :: w, l, h => by
    have hx : x ≠ 32 := fun e => h (by rw [e]; exact List.mem_cons_self)
    rw [List.cons_append, wordsL, if_neg hx, wordsL_cons l (fun e => h (List.mem_cons_of_mem _ e))]
    rfl
theorem index_space (x : UInt8) (l : Bs) : Lib.index (x :: l) [32] = if x = 32 then 0 else if Lib.index l [32] = -1 then -1 else Lib.index l [32] + 1 := by
  rw [Lib.index]
  by_cases h : x = 32
  · subst h; simp [List.isPrefixOf]
  · have hp : ([32] : List UInt8).isPrefixOf (x :: l) = false := by simp [List.isPrefixOf, Ne.symm h]
    rw [hp, if_neg h]
    simp
theorem split_words : ∀ l : Bs, Lib.split l [32] = wordsL l
  | [] => by
    unfold Lib.split
    rw [Lib.count_miss (by simp [Lib.index])]
    rfl
  | x :: l => by
    have ih := split_words l
    unfold wordsL
    by_cases h : x = 32
    · subst h
      rw [if_pos rfl, ← ih]
      unfold Lib.split
      rw [Lib.count_cons_eq, Nat.add_comm, Lib.splitK]
      have hi : Lib.index ((32 : UInt8) :: l) [32] = 0 := by rw [index_space, if_pos rfl]
      rw [hi]
      simp
    · rw [if_neg h, ← ih]
      unfold Lib.split
      rw [Lib.count_cons_ne _ _ _ h]
      cases hk : Lib.count l [32] with
      | zero => rfl
      | succ k =>
        have hn : Lib.index l [32] ≠ -1 := fun e => by rw [Lib.count_miss e] at hk; omega
        have hge := Lib.index_ge l [32]
        obtain ⟨i, hi⟩ : ∃ i : Nat, Lib.index l [32] = (i : Int) := ⟨(Lib.index l [32]).toNat, by omega⟩
        rw [Lib.splitK, Lib.splitK, index_space, if_neg h, if_neg hn, hi]
        have h1 : ¬ (((i : Int) + 1) == -1) = true := by rw [beq_iff_eq]; omega
        have h2 : ¬ ((i : Int) == -1) = true := by rw [beq_iff_eq]; omega
        rw [if_neg h1, if_neg h2, show ((i : Int) + 1).toNat = i + 1 by omega, show (i : Int).toNat = i by omega]
        simp [putHead]

/-- The decimal text of a number below 100. -/
def decL (n : Nat) : Bs := if n < 10 then [UInt8.ofNat (48 + n)] else [UInt8.ofNat (48 + n / 10), UInt8.ofNat (48 + n % 10)]
def digV (a : UInt8) : Option Nat := if 48 ≤ a.toNat ∧ a.toNat ≤ 57 then some (a.toNat - 48) else none
/-- The number that a text of one or two digits stands for. -/
def readNum : Bs → Option Nat
  | [a] => digV a
  | [a, b] => match digV a, digV b with
    | some x, some y => if x = 0 then none else some (10 * x + y)
    | _, _ => none
  | _ => none
theorem digV_some {a : UInt8} {n : Nat} (h : digV a = some n) : n < 10 ∧ a = UInt8.ofNat (48 + n) := by
  unfold digV at h
  split at h
  · rename_i hc
    obtain rfl : a.toNat - 48 = n := by simpa using h
    refine ⟨by omega, ?_⟩
    rw [show 48 + (a.toNat - 48) = a.toNat by omega]
    simp
  · cases h
theorem digV_of {n : Nat} (h : n < 10) : digV (UInt8.ofNat (48 + n)) = some n := by
  unfold digV
  have : (UInt8.ofNat (48 + n)).toNat = 48 + n := by simp; omega
  rw [this, if_pos (by omega)]
  simp
theorem readNum_dec {n : Nat} (h : n < 100) : readNum (decL n) = some n := by
  unfold decL
  split
  · rename_i hn; exact digV_of hn
  · rename_i hn
    rw [readNum, digV_of (by omega), digV_of (by omega)]
    simp only
    rw [if_neg (by omega)]
    congr 1
    omega
theorem readNum_some {l : Bs} {n : Nat} (h : readNum l = some n) : n < 100 ∧ decL n = l := by
  match l, h with
  | [a], h =>
    obtain ⟨h1, h2⟩ := digV_some h
    exact ⟨by omega, by unfold decL; rw [if_pos h1, h2]⟩
  | [a, b], h =>
    rw [readNum] at h
    cases ha : digV a with
    | none => rw [ha] at h; cases h
    | some x =>
      cases hb : digV b with
      | none => rw [ha, hb] at h; cases h
      | some y =>
        rw [ha, hb] at h
        simp only at h
        split at h
        · cases h
        · rename_i hx
          obtain rfl : 10 * x + y = n := by simpa using h
          obtain ⟨h1, h2⟩ := digV_some ha
          obtain ⟨h3, h4⟩ := digV_some hb
          refine ⟨by omega, ?_⟩
          unfold decL
          rw [if_neg (by omega), show (10 * x + y) / 10 = x by omega, show (10 * x + y) % 10 = y by omega, h2, h4]
theorem decL_len (n : Nat) : 1 ≤ (decL n).length ∧ (decL n).length ≤ 2 := by unfold decL; split <;> simp
theorem decL_space {n : Nat} (h : n < 100) : ∀ c ∈ decL n, 48 ≤ c.toNat ∧ c.toNat ≤ 57 := by
  unfold decL
  have hd : ∀ k, k < 10 → 48 ≤ (UInt8.ofNat (48 + k)).toNat ∧ (UInt8.ofNat (48 + k)).toNat ≤ 57 := fun k hk => by
    have : (UInt8.ofNat (48 + k)).toNat = 48 + k := by simp; omega
    omega
  split
  · rename_i hn
    intro c hc
    rw [List.mem_singleton.1 hc]
    exact hd n hn
  · intro c hc
    rcases List.mem_cons.1 hc with e | e
    · rw [e]; exact hd _ (by omega)
    · rw [List.mem_singleton.1 e]; exact hd _ (by omega)

/-- The text of a valid operation. -/
def opL (o : Op) : Bs := (if o.Kind == 2 then 119 else 114) :: (decL o.Key.toNat ++ 61 :: decL o.Value.toNat)
/-- The operation that a text stands for. -/
def readOpL : Bs → Option Op
  | k :: a :: e :: v => if e = 61 ∧ (k = 114 ∨ k = 119) then
      match digV a, readNum v with
      | some x, some y => let o : Op := ⟨if k = 119 then 2 else 1, x, y⟩; if opOk o then some o else none
      | _, _ => none
    else none
  | _ => none
theorem opOk_parts' {o : Op} (h : opOk o = true) : (o.Kind = 1 ∨ o.Kind = 2) ∧ (0 ≤ o.Key ∧ o.Key ≤ 2) ∧ (0 ≤ o.Value ∧ o.Value ≤ 99) := by
  rw [opOk_eq] at h
  simp only [Bool.and_eq_true, inR_iff] at h
  obtain ⟨⟨⟨⟨h1, h2⟩, h3⟩, h4⟩, _⟩ := h
  exact ⟨by omega, h3, h4⟩
theorem opL_form {o : Op} (h : opOk o = true) : opL o = (if o.Kind == 2 then 119 else 114) :: UInt8.ofNat (48 + o.Key.toNat) :: 61 :: decL o.Value.toNat := by
  obtain ⟨_, h2, _⟩ := opOk_parts' h
  unfold opL
  rw [show decL o.Key.toNat = [UInt8.ofNat (48 + o.Key.toNat)] by unfold decL; rw [if_pos (by omega)]]
  rfl
theorem readOpL_of {o : Op} (h : opOk o = true) : readOpL (opL o) = some o := by
  obtain ⟨h1, h2, h3⟩ := opOk_parts' h
  rw [opL_form h, readOpL, digV_of (by omega), readNum_dec (by omega)]
  obtain ⟨K, k, v⟩ := o
  simp only at h1 h2 h3
  obtain ⟨k, rfl⟩ : ∃ n : Nat, k = (n : Int) := ⟨k.toNat, by omega⟩
  obtain ⟨v, rfl⟩ : ∃ n : Nat, v = (n : Int) := ⟨v.toNat, by omega⟩
  rcases h1 with rfl | rfl
  · simp [h]
  · simp [h]
theorem readOpL_some {l : Bs} {o : Op} (h : readOpL l = some o) : opOk o = true ∧ opL o = l := by
  match l, h with
  | k :: a :: e :: v, h =>
    rw [readOpL] at h
    split at h
    · rename_i hc
      obtain ⟨rfl, hk⟩ := hc
      cases ha : digV a with
      | none => rw [ha] at h; cases h
      | some x =>
        cases hb : readNum v with
        | none => rw [ha, hb] at h; cases h
        | some y =>
          rw [ha, hb] at h
          simp only at h
          obtain ⟨_, h2⟩ := digV_some ha
          obtain ⟨_, h4⟩ := readNum_some hb
          have hfin : ∀ K : Int, (K = 1 ∨ K = 2) → (if opOk ⟨K, x, y⟩ then some (⟨K, x, y⟩ : Op) else none) = some o → opOk o = true ∧ o = ⟨K, x, y⟩ := fun K _ hh => by
            by_cases hok : opOk ⟨K, x, y⟩ = true
            · rw [if_pos hok] at hh
              injection hh with hh
              exact ⟨by rw [← hh]; exact hok, hh.symm⟩
            · rw [if_neg hok] at hh; cases hh
          rcases hk with rfl | rfl
          · obtain ⟨hok, rfl⟩ := hfin 1 (.inl rfl) h
            refine ⟨hok, ?_⟩
            rw [opL_form hok]
            simp only [Int.toNat_natCast]
            rw [h4, ← h2]
            rfl
          · obtain ⟨hok, rfl⟩ := hfin 2 (.inr rfl) h
            refine ⟨hok, ?_⟩
            rw [opL_form hok]
            simp only [Int.toNat_natCast]
            rw [h4, ← h2]
            rfl
    · cases h
theorem opL_space {o : Op} (h : opOk o = true) : (32 : UInt8) ∉ opL o ∧ (59 : UInt8) ∉ opL o := by
  obtain ⟨_, h2, h3⟩ := opOk_parts' h
  rw [opL_form h]
  have hd : ∀ c ∈ decL o.Value.toNat, c ≠ 32 ∧ c ≠ 59 := fun c hc => by
    have := decL_space (by omega) c hc
    constructor <;> (rintro rfl; simp at this)
  have hk : (UInt8.ofNat (48 + o.Key.toNat)).toNat = 48 + o.Key.toNat := by simp; omega
  have hl : ∀ c : UInt8, c = (if o.Kind == 2 then 119 else 114) → c ≠ 32 ∧ c ≠ 59 := fun c hc => by subst hc; split <;> decide
  constructor
  · intro hm
    rcases List.mem_cons.1 hm with e | hm
    · exact (hl _ e).1 rfl
    · rcases List.mem_cons.1 hm with e | hm
      · rw [← e] at hk; simp at hk; omega
      · rcases List.mem_cons.1 hm with e | hm
        · cases e
        · exact (hd _ hm).1 rfl
  · intro hm
    rcases List.mem_cons.1 hm with e | hm
    · exact (hl _ e).2 rfl
    · rcases List.mem_cons.1 hm with e | hm
      · rw [← e] at hk; simp at hk; omega
      · rcases List.mem_cons.1 hm with e | hm
        · cases e
        · exact (hd _ hm).2 rfl
/-- The words of a transaction's text. -/
def txnW (t : Txn) : List Bs := (115 :: decL t.Session.toNat) :: (if t.Done then [111, 107] else [111, 102, 102]) :: t.Ops.map opL
/-- The text of a valid transaction. -/
def txnL (t : Txn) : Bs := Lib.join (txnW t) [32]
theorem join_words : ∀ (w : Bs) (ws : List Bs), (∀ v ∈ w :: ws, (32 : UInt8) ∉ v) → wordsL (Lib.join (w :: ws) [32]) = w :: ws
  | w, [], h => by rw [Lib.join_one]; exact wordsL_one (h w List.mem_cons_self)
  | w, v :: ws, h => by
    have ih := join_words v ws (fun u hu => h u (List.mem_cons_of_mem _ hu))
    have e : Lib.join (w :: v :: ws) [32] = w ++ 32 :: Lib.join (v :: ws) [32] := by
      rw [Lib.join_cons, Lib.join_cons]; rfl
    rw [e, wordsL_cons _ (h w List.mem_cons_self), ih]
theorem words_join : ∀ l : Bs, Lib.join (wordsL l) [32] = l
  | [] => by rw [wordsL, Lib.join_one]
  | x :: l => by
    have ih := words_join l
    unfold wordsL
    cases hw : wordsL l with
    | nil => exact absurd hw (wordsL_ne l)
    | cons v ws =>
      rw [hw] at ih
      split
      · rename_i hx
        subst hx
        have e : Lib.join ([] :: v :: ws) [32] = 32 :: Lib.join (v :: ws) [32] := by rw [Lib.join_cons, Lib.join_cons]; rfl
        rw [e, ih]
      · unfold putHead
        cases ws with
        | nil => rw [Lib.join_one] at ih ⊢; rw [ih]
        | cons u us => rw [Lib.join_cons] at ih ⊢; rw [List.cons_append, ih]
/-- The transaction that words stand for. -/
def readTW : List Bs → Option Txn
  | s :: d :: ws => match s with
    | 115 :: n => match readNum n with
      | some k => if d = [111, 107] ∨ d = [111, 102, 102] then
          match ws.mapM readOpL with
          | some os => if txnOk ⟨k, os, d = [111, 107]⟩ then some ⟨k, os, d = [111, 107]⟩ else none
          | none => none
        else none
      | none => none
    | _ => none
  | _ => none
def readTL (l : Bs) : Option Txn := readTW (wordsL l)
end Go.Proofs.YtjnghnkilnhacaaDoor
namespace Go.Proofs.YtjnghnkilnhacaaDoor
open Go
set_option linter.unusedVariables false
set_option linter.unusedSimpArgs false

theorem txnOk_parts' {t : Txn} (h : txnOk t = true) : (∀ o ∈ t.Ops, opOk o = true) ∧ (0 ≤ t.Session ∧ t.Session ≤ 3) ∧ t.Ops.length ≤ 6 := by
  unfold txnOk at h
  simp only [Bool.and_eq_true, List.all_eq_true, inR_iff, decide_eq_true_eq] at h
  exact ⟨h.1, h.2.1, h.2.2⟩
theorem mapM_opL : ∀ {os : List Op}, (∀ o ∈ os, opOk o = true) → (os.map opL).mapM readOpL = some os
  | [], _ => rfl
  | o :: os, h => by
    rw [List.map_cons, List.mapM_cons, readOpL_of (h o List.mem_cons_self), mapM_opL (fun x hx => h x (List.mem_cons_of_mem _ hx))]
    rfl
theorem mapM_opL_some : ∀ {ws : List Bs} {os : List Op}, ws.mapM readOpL = some os → os.map opL = ws ∧ ∀ o ∈ os, opOk o = true
  | [], os, h => by
    obtain rfl : [] = os := by simpa using h
    exact ⟨rfl, by simp⟩
  | w :: ws, os, h => by
    rw [List.mapM_cons] at h
    cases h1 : readOpL w with
    | none => rw [h1] at h; cases h
    | some o =>
      cases h2 : ws.mapM readOpL with
      | none => rw [h1, h2] at h; cases h
      | some os' =>
        rw [h1, h2] at h
        obtain rfl : o :: os' = os := by simpa using h
        obtain ⟨i1, i2⟩ := mapM_opL_some h2
        obtain ⟨j1, j2⟩ := readOpL_some h1
        refine ⟨by rw [List.map_cons, i1, j2], fun x hx => ?_⟩
        rcases List.mem_cons.1 hx with rfl | hx
        · exact j1
        · exact i2 x hx
theorem readTW_of {t : Txn} (h : txnOk t = true) : readTW (txnW t) = some t := by
  obtain ⟨h1, h2, h3⟩ := txnOk_parts' h
  unfold txnW readTW
  simp only
  rw [readNum_dec (by omega)]
  simp only
  rw [mapM_opL h1]
  obtain ⟨s, os, d⟩ := t
  simp only at h2
  obtain ⟨s, rfl⟩ : ∃ n : Nat, s = (n : Int) := ⟨s.toNat, by omega⟩
  cases d
  · simp [h]
  · simp [h]
theorem readTW_some {ws : List Bs} {t : Txn} (h : readTW ws = some t) : txnOk t = true ∧ txnW t = ws := by
  match ws, h with
  | s :: d :: ws, h =>
    match s, h with
    | x :: n, h =>
      by_cases hx : x = 115
      · subst hx
        rw [readTW] at h
        cases hn : readNum n with
        | none => rw [hn] at h; cases h
        | some k =>
          rw [hn] at h
          simp only at h
          by_cases hd : d = [111, 107] ∨ d = [111, 102, 102]
          · rw [if_pos hd] at h
            cases ho : ws.mapM readOpL with
            | none => rw [ho] at h; cases h
            | some os =>
              rw [ho] at h
              simp only at h
              by_cases hok : txnOk ⟨k, os, d = [111, 107]⟩ = true
              · rw [if_pos hok] at h
                injection h with h
                subst h
                refine ⟨hok, ?_⟩
                obtain ⟨i1, _⟩ := mapM_opL_some ho
                obtain ⟨_, j2⟩ := readNum_some hn
                unfold txnW
                simp only [Int.toNat_natCast]
                rw [j2, i1]
                rcases hd with rfl | rfl <;> rfl
              · rw [if_neg hok] at h; cases h
          · rw [if_neg hd] at h; cases h
      · exfalso
        unfold readTW at h
        simp only at h
        split at h
        · rename_i n' he; injection he with he _; exact hx he
        · cases h
theorem txnW_space {t : Txn} (h : txnOk t = true) : ∀ w ∈ txnW t, (32 : UInt8) ∉ w ∧ (59 : UInt8) ∉ w := by
  obtain ⟨h1, h2, h3⟩ := txnOk_parts' h
  have hd : ∀ c ∈ decL t.Session.toNat, c ≠ 32 ∧ c ≠ 59 := fun c hc => by
    have := decL_space (by omega) c hc
    constructor <;> (rintro rfl; simp at this)
  intro w hw
  unfold txnW at hw
  rcases List.mem_cons.1 hw with rfl | hw
  · constructor
    · intro hm
      rcases List.mem_cons.1 hm with e | hm
      · cases e
      · exact (hd _ hm).1 rfl
    · intro hm
      rcases List.mem_cons.1 hm with e | hm
      · cases e
      · exact (hd _ hm).2 rfl
  · rcases List.mem_cons.1 hw with rfl | hw
    · split <;> decide
    · obtain ⟨o, ho, rfl⟩ := List.mem_map.1 hw
      exact opL_space (h1 o ho)
theorem words_txnL {t : Txn} (h : txnOk t = true) : wordsL (txnL t) = txnW t := join_words _ _ (fun v hv => (txnW_space h v hv).1)
theorem readTL_of {t : Txn} (h : txnOk t = true) : readTL (txnL t) = some t := by
  unfold readTL
  rw [words_txnL h, readTW_of h]
theorem readTL_some {l : Bs} {t : Txn} (h : readTL l = some t) : txnOk t = true ∧ txnL t = l := by
  obtain ⟨h1, h2⟩ := readTW_some h
  exact ⟨h1, by unfold txnL; rw [h2, words_join]⟩
/-- The parts of a text: cut at every semicolon with a space behind it. -/
def partsL : Bs → List Bs
  | [] => [[]]
  | [x] => [[x]]
  | x :: y :: l => if x = 59 ∧ y = 32 then [] :: partsL l else putHead x (partsL (y :: l))
theorem partsL_ne : ∀ l, partsL l ≠ []
  | [] => by simp [partsL]
  | [x] => by simp [partsL]
  | x :: y :: l => by
    unfold partsL
    split
    · simp
    · cases partsL (y :: l) <;> simp [putHead]
/-- The history that a text stands for. -/
def readHL (l : Bs) : Option (List Txn) := if l = [] then some [] else match (partsL l).mapM readTL with
  | some h => if histV h then some h else none
  | none => none
theorem mapM_txnL_some : ∀ {ws : List Bs} {h : List Txn}, ws.mapM readTL = some h → h.map txnL = ws ∧ ∀ t ∈ h, txnOk t = true
  | [], h, hh => by
    obtain rfl : [] = h := by simpa using hh
    exact ⟨rfl, by simp⟩
  | w :: ws, h, hh => by
    rw [List.mapM_cons] at hh
    cases h1 : readTL w with
    | none => rw [h1] at hh; cases hh
    | some t =>
      cases h2 : ws.mapM readTL with
      | none => rw [h1, h2] at hh; cases hh
      | some h' =>
        rw [h1, h2] at hh
        obtain rfl : t :: h' = h := by simpa using hh
        obtain ⟨i1, i2⟩ := mapM_txnL_some h2
        obtain ⟨j1, j2⟩ := readTL_some h1
        refine ⟨by rw [List.map_cons, i1, j2], fun x hx => ?_⟩
        rcases List.mem_cons.1 hx with rfl | hx
        · exact j1
        · exact i2 x hx
end Go.Proofs.YtjnghnkilnhacaaDoor
