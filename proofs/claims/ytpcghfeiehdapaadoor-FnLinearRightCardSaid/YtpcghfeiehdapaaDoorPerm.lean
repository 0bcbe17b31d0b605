/- Plain laws: all orders of a list, and the search that finds the first good one. -/
import Derived.Test.YtpcghfeiehdapaaDoorBase
namespace Go.Proofs.YtpcghfeiehdapaaDoor
open Go.RowKit
set_option linter.unusedVariables false
set_option linter.unusedSimpArgs false

/-- All orders of a list, those first that begin with earlier elements; by places. -/
def permsI : Nat → List Int → List (List Int)
  | 0, _ => [[]]
  | n + 1, l => if l = [] then [[]] else ((List.range l.length).map fun k => (permsI n (l.eraseIdx k)).map fun o => l.getD k 0 :: o).flatten
def perms (l : List Int) : List (List Int) := permsI l.length l
/-- The same by elements. -/
def permsE : Nat → List Int → List (List Int)
  | 0, _ => [[]]
  | n + 1, l => if l = [] then [[]] else (l.map fun x => (permsE n (l.erase x)).map fun o => x :: o).flatten
theorem eraseIdx_nodup {l : List Int} (h : l.Nodup) (k : Nat) (hk : k < l.length) : l.eraseIdx k = l.erase l[k] := by
  induction l generalizing k with
  | nil => simp at hk
  | cons x l ih =>
    cases k with
    | zero => simp
    | succ k =>
      have hk' : k < l.length := by simpa using hk
      have hx : x ≠ l[k] := fun e => (List.nodup_cons.1 h).1 (e ▸ List.getElem_mem hk')
      simp only [List.eraseIdx_cons_succ, List.getElem_cons_succ]
      rw [List.erase_cons, if_neg (by simpa using hx), ih (List.nodup_cons.1 h).2 k hk']
theorem permsI_eq_E : ∀ (n : Nat) (l : List Int), l.Nodup → permsI n l = permsE n l
  | 0, l, _ => rfl
  | n + 1, l, h => by
    unfold permsI permsE
    split
    · rfl
    · congr 1
      apply List.ext_getElem
      · simp
      · intro k h1 h2
        have hk : k < l.length := by simpa using h1
        simp only [List.getElem_map, List.getElem_range]
        rw [eraseIdx_nodup h k hk, permsI_eq_E n _ (h.erase _), List.getD_eq_getElem?_getD, List.getElem?_eq_getElem hk, Option.getD_some]
/-- The search that goes on with the elements that are left, as long as the beginning is good. -/
def dfs (good : List Int → Bool) : Nat → List Int → List Int → Option (List Int)
  | 0, pre, _ => some pre
  | n + 1, pre, l => l.findSome? fun x => if good (pre ++ [x]) then dfs good n (pre ++ [x]) (l.erase x) else none
theorem find_none_of {α : Type} (p : α → Bool) (l : List α) (h : ∀ x ∈ l, p x = false) : l.find? p = none := by
  rw [List.find?_eq_none]
  intro x hx
  simp [h x hx]
theorem findSome_flatten {α β γ : Type} (f : α → List β) (p : β → Option γ) : ∀ (l : List α), (l.map f).flatten.findSome? p = l.findSome? fun x => (f x).findSome? p
  | [] => rfl
  | x :: l => by
    simp only [List.map_cons, List.flatten_cons, List.findSome?_append, List.findSome?_cons, findSome_flatten f p l]
    cases (f x).findSome? p <;> rfl
theorem find_as_some {α : Type} (p : α → Bool) : ∀ (l : List α), l.find? p = l.findSome? fun x => if p x then some x else none
  | [] => rfl
  | x :: l => by
    simp only [List.find?_cons, List.findSome?_cons]
    cases p x with
    | true => rfl
    | false => simpa using find_as_some p l
theorem findSome_ext {α β : Type} {f g : α → Option β} : ∀ (l : List α), (∀ x ∈ l, f x = g x) → l.findSome? f = l.findSome? g
  | [], _ => rfl
  | x :: l, h => by
    simp only [List.findSome?_cons, h x List.mem_cons_self, findSome_ext l fun y hy => h y (List.mem_cons_of_mem _ hy)]
theorem findSome_map {α β γ : Type} (f : α → β) (p : β → Option γ) : ∀ (l : List α), (l.map f).findSome? p = l.findSome? fun x => p (f x)
  | [] => rfl
  | x :: l => by simp only [List.map_cons, List.findSome?_cons, findSome_map f p l]
theorem dfs_perms (good : List Int → Bool) (hg : ∀ a b, good (a ++ b) = true → good a = true) : ∀ (n : Nat) (pre l : List Int), n = l.length → good pre = true →
    dfs good n pre l = (permsE n l).findSome? fun o => if good (pre ++ o) then some (pre ++ o) else none
  | 0, pre, l, hn, hp => by
    simp [dfs, permsE, hp]
  | n + 1, pre, l, hn, hp => by
    have hl : l ≠ [] := by rintro rfl; simp at hn
    unfold dfs permsE
    rw [if_neg hl, findSome_flatten]
    apply findSome_ext
    intro x hx
    rw [findSome_map]
    split
    · rename_i hgx
      rw [dfs_perms good hg n (pre ++ [x]) (l.erase x) (by rw [List.length_erase_of_mem hx]; omega) hgx]
      apply findSome_ext
      intro o _
      simp
    · rename_i hgx
      symm
      rw [List.findSome?_eq_none_iff]
      intro o _
      rw [if_neg]
      intro h
      rw [show pre ++ x :: o = (pre ++ [x]) ++ o by simp] at h
      exact hgx (hg _ _ h)
theorem perms_mem : ∀ (n : Nat) (l o : List Int), n = l.length → (o ∈ permsE n l ↔ o.Perm l)
  | 0, l, o, hn => by
    obtain rfl : l = [] := List.eq_nil_of_length_eq_zero hn.symm
    simp [permsE]
  | n + 1, l, o, hn => by
    have hl : l ≠ [] := by rintro rfl; simp at hn
    unfold permsE
    rw [if_neg hl, List.mem_flatten]
    constructor
    · rintro ⟨L, hL, ho⟩
      obtain ⟨x, hx, rfl⟩ := List.mem_map.1 hL
      obtain ⟨o', ho', rfl⟩ := List.mem_map.1 ho
      have h1 := (perms_mem n (l.erase x) o' (by rw [List.length_erase_of_mem hx]; omega)).1 ho'
      exact (h1.cons x).trans (List.perm_cons_erase hx).symm
    · intro h
      cases o with
      | nil => have := h.length_eq; simp at this; exact absurd (List.eq_nil_of_length_eq_zero this.symm) hl
      | cons x o' =>
        have hx : x ∈ l := h.subset List.mem_cons_self
        refine ⟨_, List.mem_map.2 ⟨x, hx, rfl⟩, List.mem_map.2 ⟨o', ?_, rfl⟩⟩
        refine (perms_mem n (l.erase x) o' (by rw [List.length_erase_of_mem hx]; omega)).2 ?_
        exact List.Perm.cons_inv (h.trans (List.perm_cons_erase hx))

/-- The orders that begin with one of the first k elements. -/
def permsK (n : Nat) (l : List Int) (k : Nat) : List (List Int) := ((List.range k).map fun k => (permsI n (l.eraseIdx k)).map fun o => l.getD k 0 :: o).flatten
theorem permsK_succ (n : Nat) (l : List Int) (k : Nat) : permsK n l (k + 1) = permsK n l k ++ (permsI n (l.eraseIdx k)).map fun o => l.getD k 0 :: o := by
  unfold permsK
  rw [List.range_succ, List.map_append, List.flatten_append]
  simp
theorem permsI_succ (n : Nat) (l : List Int) (hl : l ≠ []) : permsI (n + 1) l = permsK n l l.length := by
  rw [permsI, if_neg hl]
  rfl
def fct : Nat → Nat
  | 0 => 1
  | n + 1 => (n + 1) * fct n
theorem permsI_len : ∀ (n : Nat) (l : List Int), l.length = n → (permsI n l).length = fct n
  | 0, l, h => rfl
  | n + 1, l, h => by
    have hl : l ≠ [] := by rintro rfl; simp at h
    have hK : ∀ k, k ≤ l.length → (permsK n l k).length = k * fct n := fun k => by
      induction k with
      | zero => intro _; simp [permsK]
      | succ k ih =>
        intro hk
        rw [permsK_succ, List.length_append, List.length_map, ih (by omega), permsI_len n _ (by rw [List.length_eraseIdx_of_lt (by omega)]; omega), Nat.add_mul]
        omega
    rw [permsI_succ n l hl, hK _ (Nat.le_refl _), h]
    rfl
theorem permsK_len (n : Nat) (l : List Int) (h : l.length = n + 1) (k : Nat) (hk : k ≤ l.length) : (permsK n l k).length = k * fct n := by
  induction k with
  | zero => simp [permsK]
  | succ k ih =>
    rw [permsK_succ, List.length_append, List.length_map, ih (by omega), permsI_len n _ (by rw [List.length_eraseIdx_of_lt (by omega)]; omega), Nat.add_mul]
    omega
theorem fct_le {n : Nat} (h : n ≤ 8) : fct n ≤ 40320 := by
  have : n = 0 ∨ n = 1 ∨ n = 2 ∨ n = 3 ∨ n = 4 ∨ n = 5 ∨ n = 6 ∨ n = 7 ∨ n = 8 := by omega
  rcases this with rfl | rfl | rfl | rfl | rfl | rfl | rfl | rfl | rfl <;> decide
theorem permsI_mem_len : ∀ (n : Nat) (l o : List Int), l.length = n → o ∈ permsI n l → o.length = n
  | 0, l, o, h, ho => by simp [permsI] at ho; subst ho; rfl
  | n + 1, l, o, h, ho => by
    have hl : l ≠ [] := by rintro rfl; simp at h
    rw [permsI_succ n l hl] at ho
    unfold permsK at ho
    rw [List.mem_flatten] at ho
    obtain ⟨L, hL, ho⟩ := ho
    obtain ⟨k, hk, rfl⟩ := List.mem_map.1 hL
    rw [List.mem_range] at hk
    obtain ⟨o', ho', rfl⟩ := List.mem_map.1 ho
    have := permsI_mem_len n _ o' (by rw [List.length_eraseIdx_of_lt hk]; omega) ho'
    simp [this]
end Go.Proofs.YtpcghfeiehdapaaDoor
