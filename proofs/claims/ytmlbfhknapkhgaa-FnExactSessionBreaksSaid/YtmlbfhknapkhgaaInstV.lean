/- The values that are installed for a key: what they are, that they differ. -/
import Derived.Test.YtmlbfhknapkhgaaHMath
namespace Go.Proofs.Ytmlbfhknapkhgaa
open Go.RowKit
set_option linter.unusedVariables false
set_option linter.unusedSimpArgs false

/-- What transaction t installs for a key. -/
def insT (t : Txn) (key : Int) : List Int := if t.Done then (lastW t.Ops key).toList.map Op.Value else []
def instV (h : List Txn) (key : Int) : Nat → List Int
  | 0 => []
  | k + 1 => instV h key k ++ ((h[k]?.map fun t => insT t key).getD [])
/-- The values that are installed for a key. -/
def instL (h : List Txn) (key : Int) : List Int := instV h key h.length
/-- By the numbers of transactions. -/
def instD (h : List Txn) (key : Int) (ns : List Int) : List Int := ns.flatMap fun n => (h[n.toNat]?.map fun t => (lastW t.Ops key).toList.map Op.Value).getD []
theorem instV_succ (h : List Txn) (key : Int) (k : Nat) (hk : k < h.length) : instV h key (k + 1) = instV h key k ++ insT h[k] key := by
  rw [instV, List.getElem?_eq_getElem hk]; rfl
theorem instD_append (h : List Txn) (key : Int) (a b : List Int) : instD h key (a ++ b) = instD h key a ++ instD h key b := by
  unfold instD; rw [List.flatMap_append]
theorem instD_one {h : List Txn} (key : Int) {n : Nat} (hn : n < h.length) : instD h key [(n : Int)] = (lastW h[n].Ops key).toList.map Op.Value := by
  unfold instD
  simp [List.getElem?_eq_getElem hn]
theorem instD_done (h : List Txn) (key : Int) : ∀ k, k ≤ h.length → instD h key (doneI h k) = instV h key k
  | 0, _ => rfl
  | k + 1, hk => by
    have hk' : k < h.length := by omega
    rw [doneI_succ h k hk', instV_succ h key k hk', instD_append, instD_done h key k (by omega)]
    congr 1
    unfold insT
    cases hd : h[k].Done with
    | false => rfl
    | true => rw [if_pos rfl, if_pos rfl, instD_one key hk']
theorem instD_all (h : List Txn) (key : Int) : instD h key (doneL h) = instL h key := instD_done h key h.length (Nat.le_refl _)
theorem insT_len (t : Txn) (key : Int) : (insT t key).length ≤ 1 := by
  unfold insT
  split
  · cases lastW t.Ops key <;> simp
  · simp
theorem instV_len (h : List Txn) (key : Int) : ∀ k, (instV h key k).length ≤ k
  | 0 => by simp [instV]
  | k + 1 => by
    have h1 := instV_len h key k
    by_cases hk : k < h.length
    · have h2 := insT_len h[k] key
      rw [instV_succ h key k hk, List.length_append]; omega
    · rw [instV, List.getElem?_eq_none (by omega)]
      simp; omega
theorem insT_count (t : Txn) (key v : Int) : (insT t key).count v ≤ t.Ops.countP (isW key v) := by
  unfold insT
  split
  · cases hw : lastW t.Ops key with
    | none => simp
    | some o =>
      obtain ⟨h1, h2, h3⟩ := lastW_some hw
      by_cases hv : o.Value = v
      · have : 0 < t.Ops.countP (isW key v) := List.countP_pos_iff.2 ⟨o, h1, by unfold isW; simp [h2, h3, hv]⟩
        exact Nat.le_trans (Nat.le_trans List.count_le_length (by simp)) this
      · simp [hv]
  · simp
theorem instV_count (h : List Txn) (key v : Int) : ∀ k, k ≤ h.length → (instV h key k).count v ≤ writesN (h.take k) key v
  | 0, _ => by simp [instV]
  | k + 1, hk => by
    have hk' : k < h.length := by omega
    have h1 := instV_count h key v k (by omega)
    have h2 := insT_count h[k] key v
    have h3 := tot_take (fun x : Txn => x.Ops.countP (isW key v)) h k hk'
    rw [instV_succ h key k hk', List.count_append]
    unfold writesN at h1 ⊢
    omega
theorem instV_mem (h : List Txn) (key v : Int) : ∀ k, k ≤ h.length → v ∈ instV h key k → ∃ t ∈ h, ∃ o ∈ t.Ops, o.Kind = 2 ∧ o.Key = key ∧ o.Value = v
  | 0, _ => fun hv => by simp [instV] at hv
  | k + 1, hk => fun hv => by
    have hk' : k < h.length := by omega
    rw [instV_succ h key k hk', List.mem_append] at hv
    rcases hv with hv | hv
    · exact instV_mem h key v k (by omega) hv
    · unfold insT at hv
      split at hv
      · cases hw : lastW h[k].Ops key with
        | none => rw [hw] at hv; simp at hv
        | some o =>
          rw [hw] at hv
          obtain ⟨h1, h2, h3⟩ := lastW_some hw
          have : o.Value = v := by
            simp at hv
            exact hv.symm
          exact ⟨h[k], List.getElem_mem _, o, h1, h2, h3, this⟩
      · cases hv
/-- No value is installed twice for a key. -/
theorem instL_nodup {h : List Txn} (hv : histV h = true) (key : Int) : (instL h key).Nodup := by
  rw [List.nodup_iff_count]
  intro v
  by_cases hm : v ∈ instL h key
  · obtain ⟨t, ht, o, ho, h1, h2, h3⟩ := instV_mem h key v h.length (Nat.le_refl _) hm
    have h4 := instV_count h key v h.length (Nat.le_refl _)
    rw [List.take_length] at h4
    unfold histV at hv
    rw [Bool.and_eq_true, List.all_eq_true] at hv
    have h5 := hv.1 t ht
    unfold txnFine at h5
    rw [Bool.and_eq_true, List.all_eq_true] at h5
    have h6 := h5.2 o ho
    unfold opFine at h6
    rw [h1, h2, h3] at h6
    simp at h6
    unfold instL
    omega
  · rw [List.count_eq_zero.2 hm]; omega
end Go.Proofs.Ytmlbfhknapkhgaa
