/- Plain laws: an order that keeps sessions breaks no promise. -/
import Derived.Test.YtaaagoppecnmmaaGreatDoorBrkR
import Derived.Test.YtaaagoppecnmmaaGreatDoorSnapN
import Derived.Test.YtaaagoppecnmmaaGreatDoorSesM
namespace Go.Proofs.YtaaagoppecnmmaaGreatDoor
open Go.RowKit
set_option linter.unusedVariables false
set_option linter.unusedSimpArgs false

theorem insK_instD (h : List Txn) (key : Int) (ns : List Int) : insK h key ns = instD h key ns := by
  unfold insK instD
  congr 1
  funext n
  unfold opsOf
  cases h[n.toNat]? with
  | none => rfl
  | some t => rfl
theorem insK_perm (h : List Txn) (key : Int) {a b : List Int} (hp : a.Perm b) : (insK h key a).Perm (insK h key b) := by
  unfold insK; exact hp.flatMap_right _
theorem insK_done (h : List Txn) (key : Int) : insK h key (doneL h) = instL h key := by rw [insK_instD, instD_all]
theorem insK_nodup {h : List Txn} (hv : histV h = true) (key : Int) {o : List Int} (ho : o.Perm (doneL h)) : (insK h key o).Nodup := by
  rw [(insK_perm h key ho).nodup_iff, insK_done]
  exact instL_nodup hv key
theorem insK_mem {h : List Txn} {key v : Int} {a : List Int} (hm : v ∈ insK h key a) : ∃ n ∈ a, ∃ d, lastW (opsOf h n) key = some d ∧ d.Value = v := by
  unfold insK at hm
  obtain ⟨n, hn, h1⟩ := List.mem_flatMap.1 hm
  cases hl : lastW (opsOf h n) key with
  | none => rw [hl] at h1; cases h1
  | some d => rw [hl] at h1; exact ⟨n, hn, d, hl, (by simpa using h1 : v = d.Value).symm⟩
theorem mem_insK {h : List Txn} {key : Int} {a : List Int} {n : Int} {d : Op} (hn : n ∈ a) (hl : lastW (opsOf h n) key = some d) : d.Value ∈ insK h key a := by
  unfold insK
  exact List.mem_flatMap.2 ⟨n, hn, by rw [hl]; simp⟩
theorem op_ok {h : List Txn} (hv : histV h = true) (n : Int) : ∀ o ∈ opsOf h n, opOk o = true := by
  intro o ho
  unfold opsOf at ho
  cases hx : h[n.toNat]? with
  | none => rw [hx] at ho; simp at ho
  | some t =>
    rw [hx] at ho
    exact (txnOk_parts ((histV_parts hv).2 t (List.mem_of_getElem? hx))).1 o (by simpa using ho)
theorem idx_any {α : Type} (p : α → Bool) : ∀ (A B : List α), A.any p = true → 0 ≤ idx p (A ++ B) ∧ idx p (A ++ B) < A.length
  | [], B, h => by cases h
  | x :: A, B, h => by
    cases hx : p x with
    | true => simp only [List.cons_append, idx, hx, if_true, List.length_cons]; omega
    | false =>
      rw [List.any_cons, hx, Bool.false_or] at h
      obtain ⟨h1, h2⟩ := idx_any p A B h
      simp only [List.cons_append, idx, hx, Bool.false_eq_true, if_false, List.length_cons]
      cases hi : idx p (A ++ B) with
      | ofNat n => rw [hi] at h2; simp only [Int.ofNat_eq_natCast] at h2 ⊢; omega
      | negSucc n => rw [hi] at h1; omega
theorem ver_le {A B : List Int} {v : Int} (hm : v ∈ A) : verN7 (A ++ B) v ≤ A.length := by
  unfold verN7
  split
  · omega
  · obtain ⟨h1, h2⟩ := idx_any (fun y => v == y) A B (List.any_eq_true.2 ⟨v, hm, beq_self_eq_true _⟩)
    rw [if_pos h1]; omega
theorem ver_last {A B : List Int} {v : Int} (h0 : v ≠ 0) (hn : (A ++ [v] ++ B).Nodup) : verN7 (A ++ [v] ++ B) v = A.length + 1 := by
  unfold verN7
  have hnA : v ∉ A := by
    rw [List.append_assoc] at hn
    exact fun hm => (List.nodup_append.1 hn).2.2 v hm v (by simp) rfl
  have hl : A.length < (A ++ [v] ++ B).length := by simp only [List.length_append, List.length_singleton]; omega
  have hi := idx_hit (fun y => v == y) (A ++ [v] ++ B) A.length hl (by
    rw [List.getElem_append_left (by simp)]; simp) (fun j hj hjA => by
    rw [List.getElem_append_left (by simp; omega), List.getElem_append_left hjA]
    have : A[j] ≠ v := fun e => hnA (e ▸ List.getElem_mem hjA)
    simpa using fun e => this e.symm)
  rw [if_neg h0, hi, if_pos (by omega)]
/-- The version that a first read has: how many values stand before it. -/
theorem ver_first {h : List Txn} (hv : histV h = true) {o a b : List Int} {n : Int} (he : o = a ++ n :: b) (ho : o.Perm (doneL h)) {t : St} (hr : runTx h St0 o = some t) {r : Op} (hm : r ∈ firstR (opsOf h n)) :
    verN7 (insK h r.Key o) r.Value = (insK h r.Key a).length := by
  subst he
  obtain ⟨u, w, h1, h2, _⟩ := run_split hr
  obtain ⟨_, _, h3⟩ := run_first h2 r hm
  have h4 := run_ins h (fun m x hx => (opOk_parts (op_ok hv m x hx)).1) St0 a u h1 r.Key
  have hnd := insK_nodup hv r.Key ho
  rw [insK_append] at hnd ⊢
  rcases List.eq_nil_or_concat (insK h r.Key a) with hz | ⟨c, v, hz⟩
  · rw [hz] at h4 ⊢
    have : r.Value = 0 := by rw [← h3, h4]; rfl
    rw [this]
    unfold verN7
    rw [if_pos rfl]; rfl
  · rw [List.concat_eq_append] at hz
    have hvv : r.Value = v := by rw [← h3, h4, hz]; simp
    obtain ⟨m, _, d, hd1, hd2⟩ := insK_mem (h := h) (key := r.Key) (a := a) (v := v) (by rw [hz]; simp)
    have hv0 : v ≠ 0 := by
      have hd3 := lastW_some hd1
      have := (opOk_parts (op_ok hv m d hd3.1)).2.2.2.2 hd3.2.1
      omega
    rw [hz] at hnd ⊢
    rw [hvv, ver_last hv0 hnd]
    simp
theorem lastWs_at {ops : List Op} {d : Op} (hd : d ∈ lastWs ops) : lastW ops d.Key = some d := by
  unfold lastWs at hd
  rw [List.mem_append, List.mem_append] at hd
  rcases hd with (hd | hd) | hd
  all_goals
    rw [Option.mem_toList] at hd
    have := (lastW_some hd).2.2
    rw [this]; exact hd
theorem ver_did {h : List Txn} (hv : histV h = true) {o a b : List Int} {n m : Int} (he : o = a ++ n :: b) (ho : o.Perm (doneL h)) {t : St} (hr : runTx h St0 o = some t) (hm : m ∈ a) (p : Int) {x : Txn} (hx : x.Ops = opsOf h m) {d : Op} (hd : d ∈ didOf p x) :
    verN7 (insK h d.Key o) d.Value ≤ (insK h d.Key a).length := by
  unfold didOf at hd
  split at hd
  · rw [hx] at hd
    obtain ⟨a1, a2, ha⟩ := List.append_of_mem hm
    have h1 : o = a1 ++ m :: (a2 ++ n :: b) := by rw [he, ha]; simp
    rw [ver_first hv h1 ho hr hd, ha, insK_append, List.length_append]
    omega
  · rw [hx] at hd
    have h1 := mem_insK hm (lastWs_at hd)
    rw [he, insK_append]
    exact ver_le h1
/-- The orders of values that an order of transactions makes. -/
def seos (h : List Txn) (o : List Int) : List (List Int) := [insK h 0 o, insK h 1 o, insK h 2 o]
theorem seos_at (h : List Txn) (o : List Int) {x : Op} (hk : x.Key = 0 ∨ x.Key = 1 ∨ x.Key = 2) : verAt (seos h o) x = verN7 (insK h x.Key o) x.Value := by
  unfold verAt seos
  rcases hk with hk | hk | hk <;> rw [hk] <;> rfl
theorem txAt_ops (h : List Txn) (k : Nat) : (txAt h k).Ops = opsOf h (k : Int) := by
  unfold txAt opsOf
  rw [Int.toNat_natCast]
  cases h[k]? <;> rfl
theorem ses_pair {h : List Txn} (hv : histV h = true) {o : List Int} (ho : o.Perm (doneL h)) (hr : runsOK h o = true) (hs : StepP h o) (p : Int) (k j : Nat) (hkj : k < j) : brkP h (seos h o) p k j = false := by
  obtain ⟨t, ht⟩ := Option.isSome_iff_exists.1 (show (runTx h St0 o).isSome = true from hr)
  unfold brkP
  cases hdk : doneAt h k with
  | false => rfl
  | true =>
    cases hdj : doneAt h j with
    | false => rfl
    | true =>
      rw [Bool.true_and, Bool.true_and]
      unfold brkS
      cases hse : (sesAt h k == sesAt h j) with
      | false => rfl
      | true =>
        rw [Bool.true_and]
        have hlen : ∀ i, doneAt h i = true → i < h.length := fun i hi => by
          rcases Nat.lt_or_ge i h.length with h1 | h1
          · exact h1
          · unfold doneAt at hi; rw [List.getElem?_eq_none h1] at hi; cases hi
        have hkm : (k : Int) ∈ doneL h := mem_doneL.2 ⟨hlen k hdk, hdk⟩
        have hjm : (j : Int) ∈ o := ho.mem_iff.2 (mem_doneL.2 ⟨hlen j hdj, hdj⟩)
        obtain ⟨l, hl, hlj⟩ := List.getElem_of_mem hjm
        have hin := hs l hl (k : Int) hkm (by rw [hlj]; omega) (by rw [hlj, ses_same, ses_same]; simpa using hse)
        have he : o = o.take l ++ (j : Int) :: o.drop (l + 1) := by rw [← hlj, List.getElem_cons_drop, List.take_append_drop]
        unfold brkB
        rw [List.any_eq_false]
        intro r hrm
        rw [txAt_ops] at hrm
        unfold brkO
        rw [Bool.not_eq_true, List.any_eq_false]
        intro d hd
        unfold brkD
        obtain ⟨s1, t1, q1⟩ := run_each h o St0 t ht (j : Int) hjm
        have hrk := (opOk_parts (op_ok hv _ r (run_first q1 r hrm).1)).2.1
        have h1 := ver_first hv he ho ht hrm
        have h2 := ver_did hv he ho ht hin p (txAt_ops h k) hd
        by_cases hk : d.Key = r.Key
        · rw [hk] at h2
          have e1 := seos_at h o hrk
          have e2 := seos_at h o (x := d) (by rw [hk]; exact hrk)
          rw [hk] at e2
          simp only [Bool.and_eq_true, decide_eq_true_eq, beq_iff_eq, not_and]
          intro _ _
          rw [e1, e2, h1]
          omega
        · simp [hk]
theorem ses_row {h : List Txn} (hv : histV h = true) {o : List Int} (ho : o.Perm (doneL h)) (hr : runsOK h o = true) (hs : StepP h o) (p : Int) (k : Nat) : ∀ m, rowK h (seos h o) p k m = []
  | 0 => rfl
  | m + 1 => by
    rw [rowK, ses_row hv ho hr hs p k m]
    cases hd : decide (k < m) with
    | false => rfl
    | true => rw [ses_pair hv ho hr hs p k m (of_decide_eq_true hd)]; rfl
theorem ses_none {h : List Txn} (hv : histV h = true) {o : List Int} (ho : o.Perm (doneL h)) (hr : runsOK h o = true) (hs : StepP h o) (p : Int) : ∀ k, brkK h (seos h o) p k = []
  | 0 => rfl
  | k + 1 => by rw [brkK, ses_none hv ho hr hs p k, ses_row hv ho hr hs p k]; rfl
theorem ses_brk {h : List Txn} (hv : histV h = true) {o : List Int} (ho : o.Perm (doneL h)) (hr : runsOK h o = true) (hs : StepP h o) (p : Int) : brkR h (seos h o) p = [] := by
  unfold brkR
  split
  · exact ses_none hv ho hr hs p _
  · rfl
end Go.Proofs.YtaaagoppecnmmaaGreatDoor
