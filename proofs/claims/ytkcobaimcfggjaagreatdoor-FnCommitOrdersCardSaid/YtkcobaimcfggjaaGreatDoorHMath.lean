/- The program's HistoryValid. Plain laws on histories: committed transactions, last writes, first reads, runs. -/
import Derived.Test.YtkcobaimcfggjaaGreatDoorWriters
namespace Go.Proofs.YtkcobaimcfggjaaGreatDoor
open Go.RowKit Go.Maps
set_option linter.unusedVariables false
set_option linter.unusedSimpArgs false

theorem num_count (p : Op → Bool) : ∀ (h : List Txn) (i : Nat), (num h i).countP (fun q => p q.2) = tot (fun x : Txn => x.Ops.countP p) h
  | [], i => rfl
  | t :: r, i => by
    have h1 := num_count p r (i + 1)
    simp only [num, List.countP_append, List.countP_map, h1, tot, List.map_cons, List.sum_cons]
    rfl
theorem num_mem {h : List Txn} : ∀ {i : Nat} {q : Nat × Op}, q ∈ num h i → ∃ t ∈ h, q.2 ∈ t.Ops := by
  induction h with
  | nil => intro i q hq; cases hq
  | cons t r ih =>
    intro i q hq
    rcases List.mem_append.1 hq with hq | hq
    · obtain ⟨o, ho, rfl⟩ := List.mem_map.1 hq
      exact ⟨t, List.mem_cons_self, ho⟩
    · obtain ⟨t', ht, ho⟩ := ih hq
      exact ⟨t', List.mem_cons_of_mem _ ht, ho⟩
theorem mem_num {h : List Txn} : ∀ {i : Nat} {t : Txn} {o : Op}, t ∈ h → o ∈ t.Ops → ∃ n, (n, o) ∈ num h i := by
  induction h with
  | nil => intro i t o ht; cases ht
  | cons t0 r ih =>
    intro i t o ht ho
    rcases List.mem_cons.1 ht with rfl | ht
    · exact ⟨i, List.mem_append_left _ (List.mem_map.2 ⟨o, ho, rfl⟩)⟩
    · obtain ⟨n, hn⟩ := ih (i := i + 1) ht ho
      exact ⟨n, List.mem_append_right _ hn⟩
theorem look_none {l : List (Nat × Op)} {x y : Int} : look l x y = none ↔ l.countP (fun q => isW x y q.2) = 0 := by
  unfold look
  rw [Option.map_eq_none_iff, List.find?_eq_none, List.countP_eq_zero]
theorem fresh_iff (l : List (Nat × Op)) : Fresh l ↔ ∀ q ∈ l, q.2.Kind = 2 → l.countP (fun r => isW q.2.Key q.2.Value r.2) ≤ 1 := by
  constructor
  · intro hF q hq hk
    have hc : ∀ i, i ≤ l.length → (l.take i).countP (fun r => isW q.2.Key q.2.Value r.2) ≤ 1 := by
      intro i
      induction i with
      | zero => intro _; simp
      | succ i ih =>
        intro hi
        rw [countP_take _ _ _ (by omega)]
        have h1 := ih (by omega)
        split
        · rename_i hw
          have hw2 := hw
          simp only [isW, Bool.and_eq_true, beq_iff_eq] at hw2
          have h2 := hF i (by omega) hw2.1.1
          rw [hw2.1.2, hw2.2, look_none] at h2
          omega
        · omega
    have := hc l.length (Nat.le_refl _)
    rwa [List.take_length] at this
  · intro h i hi hk
    have h1 := h l[i] (List.getElem_mem hi) hk
    rw [look_none]
    have h2 := countP_take (fun r : Nat × Op => isW l[i].2.Key l[i].2.Value r.2) l i hi
    rw [if_pos (by simp [isW, hk])] at h2
    have h3 := (List.take_sublist (i + 1) l).countP_le (p := fun r : Nat × Op => isW l[i].2.Key l[i].2.Value r.2)
    omega
theorem fresh_hist {xs : List Txn} (hl : xs.length ≤ 6) (hv : ∀ t ∈ xs, txnOk t = true) : Fresh (num xs 0) ↔ histV xs = true := by
  rw [fresh_iff]
  unfold histV
  simp only [Bool.and_eq_true, List.all_eq_true, decide_eq_true_eq, hl, and_true]
  constructor
  · intro h t ht
    unfold txnFine
    rw [hv t ht, Bool.true_and, List.all_eq_true]
    intro o ho
    obtain ⟨n, hn⟩ := mem_num (i := 0) ht ho
    have h1 : o.Kind = 2 → (num xs 0).countP (fun r => isW o.Key o.Value r.2) ≤ 1 := h _ hn
    unfold opFine
    by_cases hk : o.Kind = 2
    · have h2 := h1 hk
      rw [num_count] at h2
      have h3 : ¬ 1 < writesN xs o.Key o.Value := by unfold writesN; omega
      simp [h3]
    · simp [hk]
  · intro h q hq hk
    obtain ⟨t, ht, ho⟩ := num_mem hq
    have h1 := h t ht
    unfold txnFine at h1
    rw [Bool.and_eq_true, List.all_eq_true] at h1
    have h2 := h1.2 _ ho
    unfold opFine at h2
    rw [num_count]
    simp only [hk, beq_self_eq_true, Bool.true_and, Bool.not_eq_true', decide_eq_false_iff_not] at h2
    unfold writesN at h2
    omega
set_option maxRecDepth 10000 in
set_option maxHeartbeats 1000000 in
theorem implHistoryValid (xs : List Txn) (A : Option Addr) (c : Nat) (w : World) (hm : xs.length ≤ maxLen) (hA : Row tTxn w (Old w) A xs) :
    Calls Tryz.prog 66 #[.slice A xs.length c] w fun e w' => e = .returned (.bool (histV xs)) ∧ Below w.heap.size w w' := by
  by_cases h6 : xs.length ≤ 6
  · have hcont := hide (cont_Txn xs A c w 126 #[] (fun x => !txnOk x) (enters_of Tryz.func126 (by kernel_rfl) rfl) hm hA
      (fun x _ cs hr W hW => by
        obtain ⟨v, rfl, A2, c2, rfl, h1, h2, h3⟩ := hr
        exact (txnLit x A2 c2 W (Nat.le_trans h1 h2) (h3.old hW)).mono (by rintro e w' ⟨rfl, hb⟩; exact ⟨rfl, hW.trans (hb.mono hW.size)⟩)))
    have hm' : xs.length ≤ 9223372036854775807 := by omega
    cases hq : xs.any (fun x => !txnOk x) with
    | true =>
      have HR := hide (show histV xs = false by
        obtain ⟨t, ht, h1⟩ := List.any_eq_true.1 hq
        cases hv : histV xs with
        | false => rfl
        | true =>
          unfold histV at hv
          simp only [Bool.and_eq_true, List.all_eq_true] at hv
          have h2 := hv.1 t ht
          unfold txnFine at h2
          rw [Bool.and_eq_true] at h2
          rw [h2.1] at h1
          cases h1)
      rw [hq] at hcont
      clear hA hq hm
      go_enter Tryz.func66, Tryz.ntmps66
      go_wp2_with (go_at_call 125; refine hcont.out.mono ?_; rintro e w' ⟨rfl, hb'⟩)
      go_ret
      exact ⟨ret_bool HR.out.symm, hb'⟩
    | false =>
      have hv : ∀ t ∈ xs, txnOk t = true := fun t ht => by
        have := List.any_eq_false.1 hq t ht
        simpa using this
      have HF := hide (fresh_hist h6 hv)
      have HW := hide (fun W (hb : Below w.heap.size w W) => writers_any xs A c W h6 (hA.old hb) hv)
      rw [hq] at hcont
      clear hA hq hv hm
      go_enter Tryz.func66, Tryz.ntmps66
      go_wp2_with (go_at_call 125; refine hcont.out.mono ?_; rintro e w' ⟨rfl, hb'⟩; have HB := hide hb'; clear hb')
      refine (HW.out _ HB.out).mono ?_
      rintro e w2 ⟨h, hb2⟩
      have HB2 := hide (HB.out.trans (hb2.mono HB.out.size))
      clear hb2
      rcases h with ⟨b, n, rfl, hF, _, _⟩ | ⟨rfl, hF⟩
      · have HR := hide (show histV xs = true from HF.out.1 hF)
        clear hF
        go_wp2_with fail
        go_ret
        exact ⟨ret_bool HR.out.symm, HB2.out⟩
      · have HR := hide (show histV xs = false by cases hv : histV xs with | false => rfl | true => exact absurd (HF.out.2 hv) hF)
        clear hF
        go_wp2_with fail
        go_ret
        exact ⟨ret_bool HR.out.symm, HB2.out⟩
  · have HR := hide (show histV xs = false by unfold histV; simp [h6])
    have h6' : (6 : Int) < (xs.length : Int) := by omega
    clear hA
    unfold maxLen at hm
    go_enter Tryz.func66, Tryz.ntmps66
    go_wp2
    go_ret
    exact ⟨ret_bool HR.out.symm, Below.refl _ _⟩
/-- The numbers of the committed ones of the first k transactions. -/
def doneI (h : List Txn) : Nat → List Int
  | 0 => []
  | k + 1 => doneI h k ++ (if (h[k]?.map Txn.Done).getD false then [(k : Int)] else [])
def doneL (h : List Txn) : List Int := doneI h h.length
theorem doneI_succ (h : List Txn) (k : Nat) (hk : k < h.length) : doneI h (k + 1) = doneI h k ++ (if h[k].Done then [(k : Int)] else []) := by
  rw [doneI, List.getElem?_eq_getElem hk]; rfl
theorem doneI_len (h : List Txn) : ∀ k, (doneI h k).length ≤ k
  | 0 => Nat.le_refl _
  | k + 1 => by
    have := doneI_len h k
    rw [doneI, List.length_append]
    split <;> simp <;> omega
theorem doneI_mem (h : List Txn) : ∀ k x, x ∈ doneI h k → 0 ≤ x ∧ x < k
  | 0, x, hx => by cases hx
  | k + 1, x, hx => by
    rw [doneI, List.mem_append] at hx
    rcases hx with hx | hx
    · have := doneI_mem h k x hx; omega
    · split at hx
      · simp at hx; omega
      · cases hx
theorem doneI_nodup (h : List Txn) : ∀ k, (doneI h k).Nodup
  | 0 => List.nodup_nil
  | k + 1 => by
    rw [doneI, List.nodup_append]
    refine ⟨doneI_nodup h k, by split <;> simp, fun a ha b hb e => ?_⟩
    subst e
    have := doneI_mem h k a ha
    split at hb
    · simp at hb; omega
    · cases hb
theorem doneI_done (h : List Txn) : ∀ k x, x ∈ doneI h k → (h[x.toNat]?.map Txn.Done).getD false = true
  | 0, x, hx => by cases hx
  | k + 1, x, hx => by
    rw [doneI, List.mem_append] at hx
    rcases hx with hx | hx
    · exact doneI_done h k x hx
    · split at hx
      · rename_i hd
        simp at hx
        subst hx
        simpa using hd
      · cases hx
theorem mem_doneI (h : List Txn) : ∀ k (x : Nat), x < k → (h[x]?.map Txn.Done).getD false = true → (x : Int) ∈ doneI h k
  | 0, x, hx, _ => absurd hx (by omega)
  | k + 1, x, hx, hd => by
    rw [doneI, List.mem_append]
    rcases Nat.lt_succ_iff_lt_or_eq.1 hx with h1 | rfl
    · exact .inl (mem_doneI h k x h1 hd)
    · exact .inr (by rw [if_pos hd]; simp)
/-- The last operation on a key among operations. -/
def lastOn (ops : List Op) (key : Int) : Option Op := ops.reverse.find? fun o => o.Key == key
/-- The value of the last operation on a key, or -1. -/
def beforeV (ops : List Op) (key : Int) : Int := ((lastOn ops key).map Op.Value).getD (-1)
/-- The last write to a key. -/
def lastW (ops : List Op) (key : Int) : Option Op := ops.reverse.find? fun o => o.Kind == 2 && o.Key == key
def lastWs (ops : List Op) : List Op := (lastW ops 0).toList ++ (lastW ops 1).toList ++ (lastW ops 2).toList
/-- The reads of keys that were not touched before, among the first k operations. -/
def firstRs (ops : List Op) : Nat → List Op
  | 0 => []
  | k + 1 => firstRs ops k ++ (match ops[k]? with | some o => if o.Kind == 1 && (lastOn (ops.take k) o.Key).isNone then [o] else [] | none => [])
def firstR (ops : List Op) : List Op := firstRs ops ops.length
theorem firstRs_succ (ops : List Op) (k : Nat) (hk : k < ops.length) : firstRs ops (k + 1) = firstRs ops k ++ (if ops[k].Kind == 1 && (lastOn (ops.take k) ops[k].Key).isNone then [ops[k]] else []) := by
  rw [firstRs, List.getElem?_eq_getElem hk]
theorem firstRs_len (ops : List Op) : ∀ k, (firstRs ops k).length ≤ k
  | 0 => Nat.le_refl _
  | k + 1 => by
    have := firstRs_len ops k
    rw [firstRs, List.length_append]
    split
    · split <;> simp <;> omega
    · simp; omega
theorem lastOn_snoc (ops : List Op) (k : Nat) (hk : k < ops.length) (key : Int) : lastOn (ops.take (k + 1)) key = if ops[k].Key == key then some ops[k] else lastOn (ops.take k) key := by
  unfold lastOn
  rw [List.take_succ_eq_append_getElem hk, List.reverse_append]
  simp only [List.reverse_cons, List.reverse_nil, List.nil_append, List.singleton_append, List.find?_cons]
  cases ops[k].Key == key <;> rfl
theorem lastW_snoc (ops : List Op) (k : Nat) (hk : k < ops.length) (key : Int) : lastW (ops.take (k + 1)) key = if ops[k].Kind == 2 && ops[k].Key == key then some ops[k] else lastW (ops.take k) key := by
  unfold lastW
  rw [List.take_succ_eq_append_getElem hk, List.reverse_append]
  simp only [List.reverse_cons, List.reverse_nil, List.nil_append, List.singleton_append, List.find?_cons]
  cases ops[k].Kind == 2 && ops[k].Key == key <;> rfl
theorem lastW_some {ops : List Op} {key : Int} {o : Op} (h : lastW ops key = some o) : o ∈ ops ∧ o.Kind = 2 ∧ o.Key = key := by
  unfold lastW at h
  have h1 := List.mem_of_find?_eq_some h
  have h2 := List.find?_some h
  simp only [Bool.and_eq_true, beq_iff_eq] at h2
  exact ⟨List.mem_reverse.1 h1, h2⟩
theorem lastOn_some {ops : List Op} {key : Int} {o : Op} (h : lastOn ops key = some o) : o ∈ ops ∧ o.Key = key := by
  unfold lastOn at h
  have h1 := List.mem_of_find?_eq_some h
  have h2 := List.find?_some h
  simp only [beq_iff_eq] at h2
  exact ⟨List.mem_reverse.1 h1, h2⟩
theorem beforeV_neg {ops : List Op} {key : Int} (hv : ∀ o ∈ ops, 0 ≤ o.Value) : (beforeV ops key < 0) ↔ lastOn ops key = none := by
  unfold beforeV
  cases h : lastOn ops key with
  | none => simp
  | some o => simpa using hv o (lastOn_some h).1

/-- What keys hold. -/
abbrev St := Int → Int
def St.put (s : St) (key value : Int) : St := fun k => if k = key then value else s k
/-- The operations run: each read has the value that its key holds. -/
def runOps : St → List Op → Option St
  | s, [] => some s
  | s, o :: r => if o.Kind == 1 && s o.Key != o.Value then none else runOps (s.put o.Key o.Value) r
theorem runOps_snoc (ops : List Op) (o : Op) : ∀ (s : St), runOps s (ops ++ [o]) = (runOps s ops).bind fun s' => runOps s' [o] := by
  induction ops with
  | nil => intro s; rfl
  | cons a r ih =>
    intro s
    simp only [List.cons_append, runOps]
    split
    · rfl
    · exact ih _
/-- The transactions run one after the other. -/
def runTx (h : List Txn) : St → List Int → Option St
  | s, [] => some s
  | s, n :: r => match runOps s ((h[n.toNat]?.map Txn.Ops).getD []) with
    | some s' => runTx h s' r
    | none => none
theorem runTx_append (h : List Txn) (b : List Int) : ∀ (a : List Int) (s : St), runTx h s (a ++ b) = (runTx h s a).bind fun s' => runTx h s' b
  | [], s => rfl
  | n :: r, s => by
    simp only [List.cons_append, runTx]
    cases runOps s ((h[n.toNat]?.map Txn.Ops).getD []) with
    | none => rfl
    | some s' => exact runTx_append h b r s'
def St0 : St := fun _ => 0
def runsOK (h : List Txn) (order : List Int) : Bool := (runTx h St0 order).isSome
theorem runsOK_prefix (h : List Txn) (a b : List Int) (hab : runsOK h (a ++ b) = true) : runsOK h a = true := by
  unfold runsOK at hab ⊢
  rw [runTx_append] at hab
  cases hr : runTx h St0 a with
  | none => rw [hr] at hab; cases hab
  | some s => rfl
theorem histV_parts {h : List Txn} (hv : histV h = true) : h.length ≤ 6 ∧ ∀ t ∈ h, txnOk t = true := by
  unfold histV at hv
  simp only [Bool.and_eq_true, List.all_eq_true, decide_eq_true_eq] at hv
  refine ⟨hv.2, fun t ht => ?_⟩
  have := hv.1 t ht
  unfold txnFine at this
  rw [Bool.and_eq_true] at this
  exact this.1
theorem txnOk_parts {t : Txn} (h : txnOk t = true) : (∀ o ∈ t.Ops, opOk o = true) ∧ t.Ops.length ≤ 6 := by
  unfold txnOk at h
  simp only [Bool.and_eq_true, List.all_eq_true, decide_eq_true_eq] at h
  exact ⟨h.1, h.2.2⟩
theorem opOk_parts {o : Op} (h : opOk o = true) : (o.Kind = 1 ∨ o.Kind = 2) ∧ (o.Key = 0 ∨ o.Key = 1 ∨ o.Key = 2) ∧ 0 ≤ o.Value ∧ o.Value ≤ 99 ∧ (o.Kind = 2 → o.Value ≠ 0) := by
  simp only [opOk, inR, Bool.and_eq_true, Bool.or_eq_true, beq_iff_eq, decide_eq_true_eq, Bool.not_eq_true', Bool.and_eq_false_iff, beq_eq_false_iff_ne] at h
  omega
end Go.Proofs.YtkcobaimcfggjaaGreatDoor
