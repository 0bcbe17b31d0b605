/- Plain laws: all orders of a list, and the search that finds the first good one. Plain laws: the search for the first order that is good. Small sets as bits. -/
import Derived.Test.YtkcobaimcfggjaaGreatDoorBase
import Derived.Laws.BitsAllLaws
import Derived.Laws.ShiftsVarLaws
import Derived.Laws.BitsLemmas
import Derived.WalkSmall
namespace Go.Proofs.YtkcobaimcfggjaaGreatDoor
open Go.RowKit
set_option linter.unusedVariables false
set_option linter.unusedSimpArgs false

/-- All orders of a list, those first that begin with earlier elements; by places. -/
def permsI : Nat → List Int → List (List Int)
  | 0, _ => [[]]
  | n + 1, l => if l = [] then [[]] else ((List.range l.length).map fun k => (permsI n (l.eraseIdx k)).map fun o => l.getD k 0 :: o).flatten
def perms (l : List Int) : List (List Int) := permsI l.length l
/-- The same by elements. -/
def permsE : Nat → List Int → List (List Int)
  | 0, _ => [[]]
  | n + 1, l => if l = [] then [[]] else (l.map fun x => (permsE n (l.erase x)).map fun o => x :: o).flatten
theorem eraseIdx_nodup {l : List Int} (h : l.Nodup) (k : Nat) (hk : k < l.length) : l.eraseIdx k = l.erase l[k] := by
  induction l generalizing k with
  | nil => simp at hk
  | cons x l ih =>
    cases k with
    | zero => simp
    | succ k =>
      have hk' : k < l.length := by simpa using hk
      have hx : x ≠ l[k] := fun e => (List.nodup_cons.1 h).1 (e ▸ List.getElem_mem hk')
      simp only [List.eraseIdx_cons_succ, List.getElem_cons_succ]
      rw [List.erase_cons, if_neg (by simpa using hx), ih (List.nodup_cons.1 h).2 k hk']
theorem permsI_eq_E : ∀ (n : Nat) (l : List Int), l.Nodup → permsI n l = permsE n l
  | 0, l, _ => rfl
  | n + 1, l, h => by
    unfold permsI permsE
    split
    · rfl
    · congr 1
      apply List.ext_getElem
      · simp
      · intro k h1 h2
        have hk : k < l.length := by simpa using h1
        simp only [List.getElem_map, List.getElem_range]
        rw [eraseIdx_nodup h k hk, permsI_eq_E n _ (h.erase _), List.getD_eq_getElem?_getD, List.getElem?_eq_getElem hk, Option.getD_some]
/-- The search that goes on with the elements that are left, as long as the beginning is good. -/
def dfs (good : List Int → Bool) : Nat → List Int → List Int → Option (List Int)
  | 0, pre, _ => some pre
  | n + 1, pre, l => l.findSome? fun x => if good (pre ++ [x]) then dfs good n (pre ++ [x]) (l.erase x) else none
theorem find_none_of {α : Type} (p : α → Bool) (l : List α) (h : ∀ x ∈ l, p x = false) : l.find? p = none := by
  rw [List.find?_eq_none]
  intro x hx
  simp [h x hx]
theorem findSome_flatten {α β γ : Type} (f : α → List β) (p : β → Option γ) : ∀ (l : List α), (l.map f).flatten.findSome? p = l.findSome? fun x => (f x).findSome? p
  | [] => rfl
  | x :: l => by
    simp only [List.map_cons, List.flatten_cons, List.findSome?_append, List.findSome?_cons, findSome_flatten f p l]
    cases (f x).findSome? p <;> rfl
theorem find_as_some {α : Type} (p : α → Bool) : ∀ (l : List α), l.find? p = l.findSome? fun x => if p x then some x else none
  | [] => rfl
  | x :: l => by
    simp only [List.find?_cons, List.findSome?_cons]
    cases p x with
    | true => rfl
    | false => simpa using find_as_some p l
theorem findSome_ext {α β : Type} {f g : α → Option β} : ∀ (l : List α), (∀ x ∈ l, f x = g x) → l.findSome? f = l.findSome? g
  | [], _ => rfl
  | x :: l, h => by
    simp only [List.findSome?_cons, h x List.mem_cons_self, findSome_ext l fun y hy => h y (List.mem_cons_of_mem _ hy)]
theorem findSome_map {α β γ : Type} (f : α → β) (p : β → Option γ) : ∀ (l : List α), (l.map f).findSome? p = l.findSome? fun x => p (f x)
  | [] => rfl
  | x :: l => by simp only [List.map_cons, List.findSome?_cons, findSome_map f p l]
theorem dfs_perms (good : List Int → Bool) (hg : ∀ a b, good (a ++ b) = true → good a = true) : ∀ (n : Nat) (pre l : List Int), n = l.length → good pre = true →
    dfs good n pre l = (permsE n l).findSome? fun o => if good (pre ++ o) then some (pre ++ o) else none
  | 0, pre, l, hn, hp => by
    simp [dfs, permsE, hp]
  | n + 1, pre, l, hn, hp => by
    have hl : l ≠ [] := by rintro rfl; simp at hn
    unfold dfs permsE
    rw [if_neg hl, findSome_flatten]
    apply findSome_ext
    intro x hx
    rw [findSome_map]
    split
    · rename_i hgx
      rw [dfs_perms good hg n (pre ++ [x]) (l.erase x) (by rw [List.length_erase_of_mem hx]; omega) hgx]
      apply findSome_ext
      intro o _
      simp
    · rename_i hgx
      symm
      rw [List.findSome?_eq_none_iff]
      intro o _
      rw [if_neg]
      intro h
      rw [show pre ++ x :: o = (pre ++ [x]) ++ o by simp] at h
      exact hgx (hg _ _ h)
theorem perms_mem : ∀ (n : Nat) (l o : List Int), n = l.length → (o ∈ permsE n l ↔ o.Perm l)
  | 0, l, o, hn => by
    obtain rfl : l = [] := List.eq_nil_of_length_eq_zero hn.symm
    simp [permsE]
  | n + 1, l, o, hn => by
    have hl : l ≠ [] := by rintro rfl; simp at hn
    unfold permsE
    rw [if_neg hl, List.mem_flatten]
    constructor
    · rintro ⟨L, hL, ho⟩
      obtain ⟨x, hx, rfl⟩ := List.mem_map.1 hL
      obtain ⟨o', ho', rfl⟩ := List.mem_map.1 ho
      have h1 := (perms_mem n (l.erase x) o' (by rw [List.length_erase_of_mem hx]; omega)).1 ho'
      exact (h1.cons x).trans (List.perm_cons_erase hx).symm
    · intro h
      cases o with
      | nil => have := h.length_eq; simp at this; exact absurd (List.eq_nil_of_length_eq_zero this.symm) hl
      | cons x o' =>
        have hx : x ∈ l := h.subset List.mem_cons_self
        refine ⟨_, List.mem_map.2 ⟨x, hx, rfl⟩, List.mem_map.2 ⟨o', ?_, rfl⟩⟩
        refine (perms_mem n (l.erase x) o' (by rw [List.length_erase_of_mem hx]; omega)).2 ?_
        exact List.Perm.cons_inv (h.trans (List.perm_cons_erase hx))

/-- The orders that begin with one of the first k elements. -/
def permsK (n : Nat) (l : List Int) (k : Nat) : List (List Int) := ((List.range k).map fun k => (permsI n (l.eraseIdx k)).map fun o => l.getD k 0 :: o).flatten
theorem permsK_succ (n : Nat) (l : List Int) (k : Nat) : permsK n l (k + 1) = permsK n l k ++ (permsI n (l.eraseIdx k)).map fun o => l.getD k 0 :: o := by
  unfold permsK
  rw [List.range_succ, List.map_append, List.flatten_append]
  simp
theorem permsI_succ (n : Nat) (l : List Int) (hl : l ≠ []) : permsI (n + 1) l = permsK n l l.length := by
  rw [permsI, if_neg hl]
  rfl
def fct : Nat → Nat
  | 0 => 1
  | n + 1 => (n + 1) * fct n
theorem permsI_len : ∀ (n : Nat) (l : List Int), l.length = n → (permsI n l).length = fct n
  | 0, l, h => rfl
  | n + 1, l, h => by
    have hl : l ≠ [] := by rintro rfl; simp at h
    have hK : ∀ k, k ≤ l.length → (permsK n l k).length = k * fct n := fun k => by
      induction k with
      | zero => intro _; simp [permsK]
      | succ k ih =>
        intro hk
        rw [permsK_succ, List.length_append, List.length_map, ih (by omega), permsI_len n _ (by rw [List.length_eraseIdx_of_lt (by omega)]; omega), Nat.add_mul]
        omega
    rw [permsI_succ n l hl, hK _ (Nat.le_refl _), h]
    rfl
theorem permsK_len (n : Nat) (l : List Int) (h : l.length = n + 1) (k : Nat) (hk : k ≤ l.length) : (permsK n l k).length = k * fct n := by
  induction k with
  | zero => simp [permsK]
  | succ k ih =>
    rw [permsK_succ, List.length_append, List.length_map, ih (by omega), permsI_len n _ (by rw [List.length_eraseIdx_of_lt (by omega)]; omega), Nat.add_mul]
    omega
theorem fct_le {n : Nat} (h : n ≤ 8) : fct n ≤ 40320 := by
  have : n = 0 ∨ n = 1 ∨ n = 2 ∨ n = 3 ∨ n = 4 ∨ n = 5 ∨ n = 6 ∨ n = 7 ∨ n = 8 := by omega
  rcases this with rfl | rfl | rfl | rfl | rfl | rfl | rfl | rfl | rfl <;> decide
theorem permsI_mem_len : ∀ (n : Nat) (l o : List Int), l.length = n → o ∈ permsI n l → o.length = n
  | 0, l, o, h, ho => by simp [permsI] at ho; subst ho; rfl
  | n + 1, l, o, h, ho => by
    have hl : l ≠ [] := by rintro rfl; simp at h
    rw [permsI_succ n l hl] at ho
    unfold permsK at ho
    rw [List.mem_flatten] at ho
    obtain ⟨L, hL, ho⟩ := ho
    obtain ⟨k, hk, rfl⟩ := List.mem_map.1 hL
    rw [List.mem_range] at hk
    obtain ⟨o', ho', rfl⟩ := List.mem_map.1 ho
    have := permsI_mem_len n _ o' (by rw [List.length_eraseIdx_of_lt hk]; omega) ho'
    simp [this]
/-- Each number is allowed behind those before it. -/
def stepsOK (alw : List Int → Int → Bool) (o : List Int) : Bool := (List.range o.length).all fun k => alw (o.take k) (o.getD k 0)
theorem stepsOK_snoc (alw : List Int → Int → Bool) (o : List Int) (x : Int) : stepsOK alw (o ++ [x]) = (stepsOK alw o && alw o x) := by
  unfold stepsOK
  rw [List.length_append, List.length_singleton, List.range_succ, List.all_append]
  congr 1
  · rw [Bool.eq_iff_iff, List.all_eq_true, List.all_eq_true]
    refine forall_congr' fun k => forall_congr' fun hk => ?_
    rw [List.mem_range] at hk
    rw [List.take_append_of_le_length (by omega)]
    simp [List.getElem?_append_left hk]
  · simp
theorem stepsOK_prefix (alw : List Int → Int → Bool) (a : List Int) : ∀ (b : List Int), stepsOK alw (a ++ b) = true → stepsOK alw a = true := by
  intro b h
  unfold stepsOK at h ⊢
  rw [List.all_eq_true] at h ⊢
  intro k hk
  rw [List.mem_range] at hk
  have := h k (by rw [List.mem_range, List.length_append]; omega)
  rw [List.take_append_of_le_length (by omega)] at this
  simpa [List.getElem?_append_left hk] using this
/-- The search over all numbers, leaving out those that stand already. -/
def dfsA (good : List Int → Bool) (all : List Int) : Nat → List Int → Option (List Int)
  | 0, pre => some pre
  | n + 1, pre => all.findSome? fun x => if pre.contains x then none else if good (pre ++ [x]) then dfsA good all n (pre ++ [x]) else none
theorem filter_erase {all pre : List Int} (hn : all.Nodup) {x : Int} (hx : x ∈ all) (hp : pre.contains x = false) :
    (all.filter fun y => !pre.contains y).erase x = all.filter fun y => !(pre ++ [x]).contains y := by
  have h1 : (all.filter fun y => !pre.contains y).Nodup := hn.filter _
  rw [h1.erase_eq_filter, List.filter_filter]
  apply List.filter_congr
  intro y hy
  rw [Bool.eq_iff_iff]
  simp only [Bool.and_eq_true, bne_iff_ne, Bool.not_eq_true', List.contains_eq_mem, decide_eq_false_iff_not, List.mem_append, List.mem_singleton]
  constructor
  · rintro ⟨h1, h2⟩ (h | h)
    · exact h2 h
    · exact h1 h
  · intro h
    exact ⟨fun e => h (.inr e), fun e => h (.inl e)⟩
theorem findSome_filter {α β : Type} (p : α → Bool) (f : α → Option β) : ∀ (l : List α), (l.filter p).findSome? f = l.findSome? fun x => if p x then f x else none
  | [] => rfl
  | x :: l => by
    rw [List.filter_cons, List.findSome?_cons]
    cases hp : p x with
    | true => simp only [if_true, List.findSome?_cons, findSome_filter p f l]
    | false => simp only [Bool.false_eq_true, if_false, findSome_filter p f l]
theorem dfsA_eq (good : List Int → Bool) (all : List Int) (hn : all.Nodup) : ∀ (n : Nat) (pre : List Int), dfsA good all n pre = dfs good n pre (all.filter fun y => !pre.contains y)
  | 0, pre => rfl
  | n + 1, pre => by
    unfold dfsA dfs
    rw [findSome_filter]
    apply findSome_ext
    intro x hx
    cases hp : pre.contains x with
    | true => simp
    | false =>
      simp only [Bool.false_eq_true, if_false, Bool.not_false, if_true]
      split
      · rw [dfsA_eq good all hn n (pre ++ [x]), filter_erase hn hx hp]
      · rfl
/-- The first order of all of them that is good. -/
def firstGood (good : List Int → Bool) (all : List Int) : Option (List Int) := (perms all).find? good
theorem dfsA_first (good : List Int → Bool) (hg : ∀ a b, good (a ++ b) = true → good a = true) (h0 : good [] = true) (all : List Int) (hn : all.Nodup) : dfsA good all all.length [] = firstGood good all := by
  have h1 : all.filter (fun y => !([] : List Int).contains y) = all := by simp
  rw [dfsA_eq good all hn, h1, dfs_perms good hg _ _ _ rfl h0]
  unfold firstGood perms
  rw [permsI_eq_E _ _ hn, find_as_some]
  apply findSome_ext
  intro o _
  simp
theorem firstGood_perm {good : List Int → Bool} {all o : List Int} (hn : all.Nodup) (h : firstGood good all = some o) : o.Perm all ∧ good o = true := by
  unfold firstGood perms at h
  have h1 := List.mem_of_find?_eq_some h
  rw [permsI_eq_E _ _ hn, perms_mem _ _ _ rfl] at h1
  exact ⟨h1, List.find?_some h⟩
theorem firstGood_none {good : List Int → Bool} {all : List Int} (hn : all.Nodup) (h : firstGood good all = none) : ∀ o : List Int, o.Perm all → good o = false := by
  intro o ho
  unfold firstGood perms at h
  rw [List.find?_eq_none] at h
  have := h o (by rw [permsI_eq_E _ _ hn, perms_mem _ _ _ rfl]; exact ho)
  simpa using this
theorem firstGood_ext {good good' : List Int → Bool} {all : List Int} (hn : all.Nodup) (h : ∀ o : List Int, o.Perm all → good o = good' o) : firstGood good all = firstGood good' all := by
  unfold firstGood
  rw [find_as_some, find_as_some]
  apply findSome_ext
  intro o ho
  unfold perms at ho
  rw [permsI_eq_E _ _ hn, perms_mem _ _ _ rfl] at ho
  rw [h o ho]
theorem take_all_snoc {α : Type} (p : α → Bool) (l : List α) (k : Nat) (hk : k < l.length) : (l.take (k + 1)).all p = ((l.take k).all p && p l[k]) := by
  rw [List.take_succ_eq_append_getElem hk, List.all_append]
  simp
theorem all_stop {α : Type} (p : α → Bool) (l : List α) (k : Nat) (h : (l.take k).all p = false) : l.all p = false := by
  rw [← List.take_append_drop k l, List.all_append, h]; rfl
theorem bit_shift (x j : Nat) : x / 2 ^ j % 2 = (if x.testBit j then 1 else 0) := by
  rw [Nat.testBit_eq_decide_div_mod_eq]
  have := Nat.mod_two_eq_zero_or_one (x / 2 ^ j)
  split <;> simp_all
theorem shl1 (j : Nat) (hj : j < 6) : IntKind.u64.wrap (2 ^ j) = ((2 ^ j : Nat) : Int) := by
  match j, hj with
  | 0, _ => rfl | 1, _ => rfl | 2, _ => rfl | 3, _ => rfl | 4, _ => rfl | 5, _ => rfl
theorem pow6 {j : Nat} (hj : j < 6) : 2 ^ j < 64 := Nat.pow_lt_pow_right (by decide) hj
theorem or_u64 (a j : Nat) (ha : a < 64) (hj : j < 6) : bits .or .u64 (a : Int) ((2 ^ j : Nat) : Int) = ((a ||| 2 ^ j : Nat) : Int) :=
  u64_or_nat a (2 ^ j) (by omega) (by have := pow6 hj; omega)
theorem or_shl (a j : Nat) (ha : a < 64) (hj : j < 6) : bits .or .u64 (a : Int) (IntKind.u64.wrap (2 ^ j)) = ((a ||| 2 ^ j : Nat) : Int) := by
  rw [shl1 j hj, or_u64 a j ha hj]
theorem bit_int (a j : Nat) : ((a : Int) / 2 ^ j) = ((a / 2 ^ j : Nat) : Int) := by
  rw [Int.natCast_ediv, Int.natCast_pow]; rfl
theorem shr_and (a j : Nat) (ha : a < 64) : bits .and .u64 ((a : Int) / 2 ^ j) 1 = if a.testBit j then 1 else 0 := by
  have h2 : a / 2 ^ j ≤ a := Nat.div_le_self _ _
  have hb := bit_shift a j
  rw [bit_int]
  generalize a / 2 ^ j = q at h2 hb
  rw [and_one_u64 _ (by omega) (by omega)]
  cases hq : a.testBit j <;> simp only [hq] at hb ⊢ <;> simp at hb ⊢ <;> omega
theorem shr_eq (a j : Nat) (ha : a < 64) : (bits .and .u64 ((a : Int) / 2 ^ j) 1 == 1) = a.testBit j := by
  rw [shr_and a j ha]
  cases a.testBit j <;> rfl
theorem shr_eq0 (a j : Nat) (ha : a < 64) : (bits .and .u64 ((a : Int) / 2 ^ j) 1 == 0) = !a.testBit j := by
  rw [shr_and a j ha]
  cases a.testBit j <;> rfl
/-- The bits of gone are the numbers of pre. -/
def BitsOf (gone : Nat) (pre : List Int) : Prop := gone < 64 ∧ ∀ j : Nat, gone.testBit j = pre.contains (j : Int)
theorem BitsOf.zero : BitsOf 0 [] := ⟨by decide, fun j => by simp⟩
theorem BitsOf.snoc {gone : Nat} {pre : List Int} (h : BitsOf gone pre) (n : Nat) (hn : n < 6) : BitsOf (gone ||| 2 ^ n) (pre ++ [(n : Int)]) := by
  refine ⟨Nat.or_lt_two_pow (n := 6) h.1 (pow6 hn), fun j => ?_⟩
  rw [Nat.testBit_or, h.2 j, Nat.testBit_two_pow]
  rw [Bool.eq_iff_iff]
  simp only [List.contains_iff_mem, List.mem_append, List.mem_singleton, Bool.or_eq_true, decide_eq_true_eq]
  constructor
  · rintro (h | h)
    · exact .inl h
    · exact .inr (by omega)
  · rintro (h | h)
    · exact .inl h
    · exact .inr (by omega)
end Go.Proofs.YtkcobaimcfggjaaGreatDoor
