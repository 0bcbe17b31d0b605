/- Plain laws on histories: committed transactions, last writes, first reads, runs. -/
import Derived.Test.YtmlbfhknapkhgaaDoorHistI
namespace Go.Proofs.YtmlbfhknapkhgaaDoor
open Go.RowKit
set_option linter.unusedVariables false
set_option linter.unusedSimpArgs false

/-- The numbers of the committed ones of the first k transactions. -/
def doneI (h : List Txn) : Nat → List Int
  | 0 => []
  | k + 1 => doneI h k ++ (if (h[k]?.map Txn.Done).getD false then [(k : Int)] else [])
def doneL (h : List Txn) : List Int := doneI h h.length
theorem doneI_succ (h : List Txn) (k : Nat) (hk : k < h.length) : doneI h (k + 1) = doneI h k ++ (if h[k].Done then [(k : Int)] else []) := by
  rw [doneI, List.getElem?_eq_getElem hk]; rfl
theorem doneI_len (h : List Txn) : ∀ k, (doneI h k).length ≤ k
  | 0 => Nat.le_refl _
  | k + 1 => by
    have := doneI_len h k
    rw [doneI, List.length_append]
    split <;> simp <;> omega
theorem doneI_mem (h : List Txn) : ∀ k x, x ∈ doneI h k → 0 ≤ x ∧ x < k
  | 0, x, hx => by cases hx
  | k + 1, x, hx => by
    rw [doneI, List.mem_append] at hx
    rcases hx with hx | hx
    · have := doneI_mem h k x hx; omega
    · split at hx
      · simp at hx; omega
      · cases hx
theorem doneI_nodup (h : List Txn) : ∀ k, (doneI h k).Nodup
  | 0 => List.nodup_nil
  | k + 1 => by
    rw [doneI, List.nodup_append]
    refine ⟨doneI_nodup h k, by split <;> simp, fun a ha b hb e => ?_⟩
    subst e
    have := doneI_mem h k a ha
    split at hb
    · simp at hb; omega
    · cases hb
theorem doneI_done (h : List Txn) : ∀ k x, x ∈ doneI h k → (h[x.toNat]?.map Txn.Done).getD false = true
  | 0, x, hx => by cases hx
  | k + 1, x, hx => by
    rw [doneI, List.mem_append] at hx
    rcases hx with hx | hx
    · exact doneI_done h k x hx
    · split at hx
      · rename_i hd
        simp at hx
        subst hx
        simpa using hd
      · cases hx
theorem mem_doneI (h : List Txn) : ∀ k (x : Nat), x < k → (h[x]?.map Txn.Done).getD false = true → (x : Int) ∈ doneI h k
  | 0, x, hx, _ => absurd hx (by omega)
  | k + 1, x, hx, hd => by
    rw [doneI, List.mem_append]
    rcases Nat.lt_succ_iff_lt_or_eq.1 hx with h1 | rfl
    · exact .inl (mem_doneI h k x h1 hd)
    · exact .inr (by rw [if_pos hd]; simp)
/-- The last operation on a key among operations. -/
def lastOn (ops : List Op) (key : Int) : Option Op := ops.reverse.find? fun o => o.Key == key
/-- The value of the last operation on a key, or -1. -/
def beforeV (ops : List Op) (key : Int) : Int := ((lastOn ops key).map Op.Value).getD (-1)
/-- The last write to a key. -/
def lastW (ops : List Op) (key : Int) : Option Op := ops.reverse.find? fun o => o.Kind == 2 && o.Key == key
def lastWs (ops : List Op) : List Op := (lastW ops 0).toList ++ (lastW ops 1).toList ++ (lastW ops 2).toList
/-- The reads of keys that were not touched before, among the first k operations. -/
def firstRs (ops : List Op) : Nat → List Op
  | 0 => []
  | k + 1 => firstRs ops k ++ (match ops[k]? with | some o => if o.Kind == 1 && (lastOn (ops.take k) o.Key).isNone then [o] else [] | none => [])
def firstR (ops : List Op) : List Op := firstRs ops ops.length
theorem firstRs_succ (ops : List Op) (k : Nat) (hk : k < ops.length) : firstRs ops (k + 1) = firstRs ops k ++ (if ops[k].Kind == 1 && (lastOn (ops.take k) ops[k].Key).isNone then [ops[k]] else []) := by
  rw [firstRs, List.getElem?_eq_getElem hk]
theorem firstRs_len (ops : List Op) : ∀ k, (firstRs ops k).length ≤ k
  | 0 => Nat.le_refl _
  | k + 1 => by
    have := firstRs_len ops k
    rw [firstRs, List.length_append]
    split
    · split <;> simp <;> omega
    · simp; omega
theorem lastOn_snoc (ops : List Op) (k : Nat) (hk : k < ops.length) (key : Int) : lastOn (ops.take (k + 1)) key = if ops[k].Key == key then some ops[k] else lastOn (ops.take k) key := by
  unfold lastOn
  rw [List.take_succ_eq_append_getElem hk, List.reverse_append]
  simp only [List.reverse_cons, List.reverse_nil, List.nil_append, List.singleton_append, List.find?_cons]
  cases ops[k].Key == key <;> rfl
theorem lastW_snoc (ops : List Op) (k : Nat) (hk : k < ops.length) (key : Int) : lastW (ops.take (k + 1)) key = if ops[k].Kind == 2 && ops[k].Key == key then some ops[k] else lastW (ops.take k) key := by
  unfold lastW
  rw [List.take_succ_eq_append_getElem hk, List.reverse_append]
  simp only [List.reverse_cons, List.reverse_nil, List.nil_append, List.singleton_append, List.find?_cons]
  cases ops[k].Kind == 2 && ops[k].Key == key <;> rfl
theorem lastW_some {ops : List Op} {key : Int} {o : Op} (h : lastW ops key = some o) : o ∈ ops ∧ o.Kind = 2 ∧ o.Key = key := by
  unfold lastW at h
  have h1 := List.mem_of_find?_eq_some h
  have h2 := List.find?_some h
  simp only [Bool.and_eq_true, beq_iff_eq] at h2
  exact ⟨List.mem_reverse.1 h1, h2⟩
theorem lastOn_some {ops : List Op} {key : Int} {o : Op} (h : lastOn ops key = some o) : o ∈ ops ∧ o.Key = key := by
  unfold lastOn at h
  have h1 := List.mem_of_find?_eq_some h
  have h2 := List.find?_some h
  simp only [beq_iff_eq] at h2
  exact ⟨List.mem_reverse.1 h1, h2⟩
theorem beforeV_neg {ops : List Op} {key : Int} (hv : ∀ o ∈ ops, 0 ≤ o.Value) : (beforeV ops key < 0) ↔ lastOn ops key = none := by
  unfold beforeV
  cases h : lastOn ops key with
  | none => simp
  | some o => simpa using hv o (lastOn_some h).1

/-- What keys hold. -/
abbrev St := Int → Int
def St.put (s : St) (key value : Int) : St := fun k => if k = key then value else s k
/-- The operations run: each read has the value that its key holds. -/
def runOps : St → List Op → Option St
  | s, [] => some s
  | s, o :: r => if o.Kind == 1 && s o.Key != o.Value then none else runOps (s.put o.Key o.Value) r
theorem runOps_snoc (ops : List Op) (o : Op) : ∀ (s : St), runOps s (ops ++ [o]) = (runOps s ops).bind fun s' => runOps s' [o] := by
  induction ops with
  | nil => intro s; rfl
  | cons a r ih =>
    intro s
    simp only [List.cons_append, runOps]
    split
    · rfl
    · exact ih _
/-- The transactions run one after the other. -/
def runTx (h : List Txn) : St → List Int → Option St
  | s, [] => some s
  | s, n :: r => match runOps s ((h[n.toNat]?.map Txn.Ops).getD []) with
    | some s' => runTx h s' r
    | none => none
theorem runTx_append (h : List Txn) (b : List Int) : ∀ (a : List Int) (s : St), runTx h s (a ++ b) = (runTx h s a).bind fun s' => runTx h s' b
  | [], s => rfl
  | n :: r, s => by
    simp only [List.cons_append, runTx]
    cases runOps s ((h[n.toNat]?.map Txn.Ops).getD []) with
    | none => rfl
    | some s' => exact runTx_append h b r s'
def St0 : St := fun _ => 0
def runsOK (h : List Txn) (order : List Int) : Bool := (runTx h St0 order).isSome
theorem runsOK_prefix (h : List Txn) (a b : List Int) (hab : runsOK h (a ++ b) = true) : runsOK h a = true := by
  unfold runsOK at hab ⊢
  rw [runTx_append] at hab
  cases hr : runTx h St0 a with
  | none => rw [hr] at hab; cases hab
  | some s => rfl
theorem histV_parts {h : List Txn} (hv : histV h = true) : h.length ≤ 6 ∧ ∀ t ∈ h, txnOk t = true := by
  unfold histV at hv
  simp only [Bool.and_eq_true, List.all_eq_true, decide_eq_true_eq] at hv
  refine ⟨hv.2, fun t ht => ?_⟩
  have := hv.1 t ht
  unfold txnFine at this
  rw [Bool.and_eq_true] at this
  exact this.1
theorem txnOk_parts {t : Txn} (h : txnOk t = true) : (∀ o ∈ t.Ops, opOk o = true) ∧ t.Ops.length ≤ 6 := by
  unfold txnOk at h
  simp only [Bool.and_eq_true, List.all_eq_true, decide_eq_true_eq] at h
  exact ⟨h.1, h.2.2⟩
theorem opOk_parts {o : Op} (h : opOk o = true) : (o.Kind = 1 ∨ o.Kind = 2) ∧ (o.Key = 0 ∨ o.Key = 1 ∨ o.Key = 2) ∧ 0 ≤ o.Value ∧ o.Value ≤ 99 ∧ (o.Kind = 2 → o.Value ≠ 0) := by
  simp only [opOk, inR, Bool.and_eq_true, Bool.or_eq_true, beq_iff_eq, decide_eq_true_eq, Bool.not_eq_true', Bool.and_eq_false_iff, beq_eq_false_iff_ne] at h
  omega
end Go.Proofs.YtmlbfhknapkhgaaDoor
