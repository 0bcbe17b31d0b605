/- Plain laws: the search for the first order that is good. -/
import Derived.Test.YtpcghfeiehdapaaDoorPerm
namespace Go.Proofs.YtpcghfeiehdapaaDoor
open Go.RowKit
set_option linter.unusedVariables false
set_option linter.unusedSimpArgs false

/-- Each number is allowed behind those before it. -/
def stepsOK (alw : List Int → Int → Bool) (o : List Int) : Bool := (List.range o.length).all fun k => alw (o.take k) (o.getD k 0)
theorem stepsOK_snoc (alw : List Int → Int → Bool) (o : List Int) (x : Int) : stepsOK alw (o ++ [x]) = (stepsOK alw o && alw o x) := by
  unfold stepsOK
  rw [List.length_append, List.length_singleton, List.range_succ, List.all_append]
  congr 1
  · rw [Bool.eq_iff_iff, List.all_eq_true, List.all_eq_true]
    refine forall_congr' fun k => forall_congr' fun hk => ?_
    rw [List.mem_range] at hk
    rw [List.take_append_of_le_length (by omega)]
    simp [List.getElem?_append_left hk]
  · simp
theorem stepsOK_prefix (alw : List Int → Int → Bool) (a : List Int) : ∀ (b : List Int), stepsOK alw (a ++ b) = true → stepsOK alw a = true := by
  intro b h
  unfold stepsOK at h ⊢
  rw [List.all_eq_true] at h ⊢
  intro k hk
  rw [List.mem_range] at hk
  have := h k (by rw [List.mem_range, List.length_append]; omega)
  rw [List.take_append_of_le_length (by omega)] at this
  simpa [List.getElem?_append_left hk] using this
/-- The search over all numbers, leaving out those that stand already. -/
def dfsA (good : List Int → Bool) (all : List Int) : Nat → List Int → Option (List Int)
  | 0, pre => some pre
  | n + 1, pre => all.findSome? fun x => if pre.contains x then none else if good (pre ++ [x]) then dfsA good all n (pre ++ [x]) else none
theorem filter_erase {all pre : List Int} (hn : all.Nodup) {x : Int} (hx : x ∈ all) (hp : pre.contains x = false) :
    (all.filter fun y => !pre.contains y).erase x = all.filter fun y => !(pre ++ [x]).contains y := by
  have h1 : (all.filter fun y => !pre.contains y).Nodup := hn.filter _
  rw [h1.erase_eq_filter, List.filter_filter]
  apply List.filter_congr
  intro y hy
  rw [Bool.eq_iff_iff]
  simp only [Bool.and_eq_true, bne_iff_ne, Bool.not_eq_true', List.contains_eq_mem, decide_eq_false_iff_not, List.mem_append, List.mem_singleton]
  constructor
  · rintro ⟨h1, h2⟩ (h | h)
    · exact h2 h
    · exact h1 h
  · intro h
    exact ⟨fun e => h (.inr e), fun e => h (.inl e)⟩
theorem findSome_filter {α β : Type} (p : α → Bool) (f : α → Option β) : ∀ (l : List α), (l.filter p).findSome? f = l.findSome? fun x => if p x then f x else none
  | [] => rfl
  | x :: l => by
    rw [List.filter_cons, List.findSome?_cons]
    cases hp : p x with
    | true => simp only [if_true, List.findSome?_cons, findSome_filter p f l]
    | false => simp only [Bool.false_eq_true, if_false, findSome_filter p f l]
theorem dfsA_eq (good : List Int → Bool) (all : List Int) (hn : all.Nodup) : ∀ (n : Nat) (pre : List Int), dfsA good all n pre = dfs good n pre (all.filter fun y => !pre.contains y)
  | 0, pre => rfl
  | n + 1, pre => by
    unfold dfsA dfs
    rw [findSome_filter]
    apply findSome_ext
    intro x hx
    cases hp : pre.contains x with
    | true => simp
    | false =>
      simp only [Bool.false_eq_true, if_false, Bool.not_false, if_true]
      split
      · rw [dfsA_eq good all hn n (pre ++ [x]), filter_erase hn hx hp]
      · rfl
/-- The first order of all of them that is good. -/
def firstGood (good : List Int → Bool) (all : List Int) : Option (List Int) := (perms all).find? good
theorem dfsA_first (good : List Int → Bool) (hg : ∀ a b, good (a ++ b) = true → good a = true) (h0 : good [] = true) (all : List Int) (hn : all.Nodup) : dfsA good all all.length [] = firstGood good all := by
  have h1 : all.filter (fun y => !([] : List Int).contains y) = all := by simp
  rw [dfsA_eq good all hn, h1, dfs_perms good hg _ _ _ rfl h0]
  unfold firstGood perms
  rw [permsI_eq_E _ _ hn, find_as_some]
  apply findSome_ext
  intro o _
  simp
theorem firstGood_perm {good : List Int → Bool} {all o : List Int} (hn : all.Nodup) (h : firstGood good all = some o) : o.Perm all ∧ good o = true := by
  unfold firstGood perms at h
  have h1 := List.mem_of_find?_eq_some h
  rw [permsI_eq_E _ _ hn, perms_mem _ _ _ rfl] at h1
  exact ⟨h1, List.find?_some h⟩
theorem firstGood_none {good : List Int → Bool} {all : List Int} (hn : all.Nodup) (h : firstGood good all = none) : ∀ o : List Int, o.Perm all → good o = false := by
  intro o ho
  unfold firstGood perms at h
  rw [List.find?_eq_none] at h
  have := h o (by rw [permsI_eq_E _ _ hn, perms_mem _ _ _ rfl]; exact ho)
  simpa using this
theorem firstGood_ext {good good' : List Int → Bool} {all : List Int} (hn : all.Nodup) (h : ∀ o : List Int, o.Perm all → good o = good' o) : firstGood good all = firstGood good' all := by
  unfold firstGood
  rw [find_as_some, find_as_some]
  apply findSome_ext
  intro o ho
  unfold perms at ho
  rw [permsI_eq_E _ _ hn, perms_mem _ _ _ rfl] at ho
  rw [h o ho]
theorem take_all_snoc {α : Type} (p : α → Bool) (l : List α) (k : Nat) (hk : k < l.length) : (l.take (k + 1)).all p = ((l.take k).all p && p l[k]) := by
  rw [List.take_succ_eq_append_getElem hk, List.all_append]
  simp
theorem all_stop {α : Type} (p : α → Bool) (l : List α) (k : Nat) (h : (l.take k).all p = false) : l.all p = false := by
  rw [← List.take_append_drop k l, List.all_append, h]; rfl
end Go.Proofs.YtpcghfeiehdapaaDoor
