/- The reference's l13Has, OwnErrors and BadReads (of the kind BadOwn). The reference's BadReads, of the kind BadOwn. -/
import Derived.Test.YtaaagoppecnmmaaGreatDoorLastS
import Derived.Test.YtaaagoppecnmmaaGreatDoorDone
namespace Go.Proofs.YtaaagoppecnmmaaGreatDoor
open Go.RowKit Go.Maps
set_option linter.unusedVariables false
set_option linter.unusedSimpArgs false

/-- The value of the last write to a key, or -1. -/
def hasW (ops : List Op) (key : Int) : Int := ((lastW ops key).map Op.Value).getD (-1)
theorem find_lastWs (ops : List Op) (key : Int) (hk : key = 0 ∨ key = 1 ∨ key = 2) : (((lastWs ops).find? fun o => o.Key == key).map Op.Value).getD (-1) = hasW ops key := by
  have h : ∀ (k : Int), (lastW ops k).toList.find? (fun o => o.Key == key) = if k = key then lastW ops k else none := fun k => by
    cases hw : lastW ops k with
    | none => simp [Option.toList]
    | some o =>
      have ho := (lastW_some hw).2.2
      by_cases hkk : k = key
      · rw [if_pos hkk]; simp [Option.toList, ho, hkk]
      · rw [if_neg hkk]; simp [Option.toList, ho, hkk]
  unfold lastWs hasW
  rw [List.find?_append, List.find?_append, h, h, h]
  rcases hk with rfl | rfl | rfl
  · cases lastW ops 0 <;> rfl
  · cases lastW ops 1 <;> rfl
  · cases lastW ops 2 <;> rfl
theorem lastWs_len (ops : List Op) : (lastWs ops).length ≤ 3 := by rw [← lastWk_3]; exact lastWk_len ops 3
theorem find_take_none {α : Type} (p : α → Bool) (l : List α) (k : Nat) (hk : k < l.length) (h : (l.take k).find? p = none) (hp : p l[k] = false) : (l.take (k + 1)).find? p = none := by
  rw [List.take_succ_eq_append_getElem hk, List.find?_append, h]
  simp [hp]
theorem find_hit {α : Type} (p : α → Bool) (l : List α) (k : Nat) (hk : k < l.length) (h : (l.take k).find? p = none) (hp : p l[k] = true) : l.find? p = some l[k] := by
  have e : l.take k ++ l[k] :: l.drop (k + 1) = l := by rw [← List.drop_eq_getElem_cons hk, List.take_append_drop]
  have h2 : (l.take k ++ l[k] :: l.drop (k + 1)).find? p = some l[k] := by simp only [List.find?_append, h, List.find?_cons, hp, Option.none_or]
  rwa [e] at h2
/-- The reads of a transaction that differ from what it did before. -/
def errAt (ops : List Op) (j : Nat) (o : Op) : Bool := o.Kind == 1 && decide (0 ≤ beforeV (ops.take j) o.Key) && (beforeV (ops.take j) o.Key != o.Value)
def ownE (who : Int) (ops : List Op) : Nat → List Span
  | 0 => []
  | j + 1 => ownE who ops j ++ (match ops[j]? with | some o => if errAt ops j o then [⟨who, j⟩] else [] | none => [])
theorem ownE_succ (who : Int) (ops : List Op) (j : Nat) (hj : j < ops.length) : ownE who ops (j + 1) = ownE who ops j ++ (if errAt ops j ops[j] then [⟨who, j⟩] else []) := by
  rw [ownE, List.getElem?_eq_getElem hj]
theorem ownE_len (who : Int) (ops : List Op) : ∀ j, (ownE who ops j).length ≤ j
  | 0 => Nat.le_refl _
  | j + 1 => by
    have := ownE_len who ops j
    rw [ownE, List.length_append]
    split
    · split <;> simp <;> omega
    · simp; omega
def ownEs (h : List Txn) : Nat → List Span
  | 0 => []
  | k + 1 => ownEs h k ++ (match h[k]? with | some t => ownE k t.Ops t.Ops.length | none => [])
theorem ownEs_succ (h : List Txn) (k : Nat) (hk : k < h.length) : ownEs h (k + 1) = ownEs h k ++ ownE k h[k].Ops h[k].Ops.length := by
  rw [ownEs, List.getElem?_eq_getElem hk]
theorem ownEs_len {h : List Txn} (hv : ∀ t ∈ h, t.Ops.length ≤ 6) : ∀ k, k ≤ h.length → (ownEs h k).length ≤ 6 * k
  | 0, _ => Nat.le_refl _
  | k + 1, hk => by
    have h1 := ownEs_len hv k (by omega)
    rw [ownEs_succ h k (by omega), List.length_append]
    have h2 := ownE_len k h[k].Ops h[k].Ops.length
    have h3 := hv h[k] (List.getElem_mem (by omega))
    omega
theorem ownE_who (who : Int) (ops : List Op) : ∀ j, ∀ x ∈ ownE who ops j, x.From = who
  | 0, x, hx => by cases hx
  | j + 1, x, hx => by
    rw [ownE, List.mem_append] at hx
    rcases hx with hx | hx
    · exact ownE_who who ops j x hx
    · split at hx
      · split at hx
        · rw [List.mem_singleton.1 hx]
        · cases hx
      · cases hx
theorem ownEs_who (h : List Txn) : ∀ k, k ≤ h.length → ∀ x ∈ ownEs h k, 0 ≤ x.From ∧ x.From < h.length
  | 0, _, x, hx => by cases hx
  | k + 1, hk, x, hx => by
    rw [ownEs_succ h k (by omega), List.mem_append] at hx
    rcases hx with hx | hx
    · exact ownEs_who h k (by omega) x hx
    · rw [ownE_who _ _ _ x hx]; omega
theorem infoPlace_ : (Tryz.prog.info? 134).map (fun i => (i.zero, i.size, i.bytes)) = some (some (.agg #[.int .i64 0, .int .i64 0]), 2, 16) := by kernel_rfl
def dnI (h : List Txn) (n : Int) : Bool := (h[n.toNat]?.map Txn.Done).getD false
def badS (h : List Txn) : List Span := (ownEs h h.length).filter fun x => dnI h x.From
theorem filter_take {α : Type} (p : α → Bool) (l : List α) (k : Nat) (hk : k < l.length) : (l.take (k + 1)).filter p = (l.take k).filter p ++ (if p l[k] then [l[k]] else []) := by
  rw [List.take_succ_eq_append_getElem hk, List.filter_append]
  congr 1
  simp [List.filter_cons]
end Go.Proofs.YtaaagoppecnmmaaGreatDoor
