/- Plain laws: a history without a transaction. -/
import Derived.Test.YtaaagoppecnmmaaDoorHMath
namespace Go.Proofs.YtaaagoppecnmmaaDoor
open Go.RowKit
set_option linter.unusedVariables false

/-- The operations of transaction n. -/
def opsAt (h : List Txn) (n : Nat) : List Op := (h[n]?.map Txn.Ops).getD []
theorem opsAt_eq {h : List Txn} {n : Nat} (hn : n < h.length) : opsAt h n = h[n].Ops := by
  unfold opsAt; rw [List.getElem?_eq_getElem hn]; rfl
/-- What stays of a transaction when transaction n goes. -/
def keepOp (h : List Txn) (n : Nat) (o : Op) : Bool := !(o.Kind == 1 && (opsAt h n).any (isW o.Key o.Value))
def dropT (h : List Txn) (n : Nat) (t : Txn) : Txn := { t with Ops := t.Ops.filter (keepOp h n) }
def dropI (h : List Txn) (n : Nat) : Nat → List Txn
  | 0 => []
  | k + 1 => dropI h n k ++ (if k = n then [] else (h[k]?.map (dropT h n)).toList)
def dropL (h : List Txn) (n : Nat) : List Txn := dropI h n h.length
theorem dropI_succ (h : List Txn) (n k : Nat) (hk : k < h.length) : dropI h n (k + 1) = dropI h n k ++ (if k = n then [] else [dropT h n h[k]]) := by
  rw [dropI, List.getElem?_eq_getElem hk]; rfl
theorem dropI_len (h : List Txn) (n : Nat) : ∀ k, (dropI h n k).length ≤ k
  | 0 => Nat.le_refl _
  | k + 1 => by
    have := dropI_len h n k
    rw [dropI, List.length_append]
    split
    · simp; omega
    · cases h[k]? <;> simp <;> omega
theorem dropI_mem (h : List Txn) (n : Nat) : ∀ k t, t ∈ dropI h n k → ∃ t0 ∈ h, t = dropT h n t0
  | 0, t, ht => by cases ht
  | k + 1, t, ht => by
    rw [dropI, List.mem_append] at ht
    rcases ht with ht | ht
    · exact dropI_mem h n k t ht
    · split at ht
      · cases ht
      · cases hk : h[k]? with
        | none => rw [hk] at ht; cases ht
        | some t0 =>
          rw [hk] at ht
          simp at ht
          exact ⟨t0, List.mem_of_getElem? hk, ht⟩
theorem count_one {α : Type} (q : α → Bool) : ∀ (L : List α) (a b : α), L.countP q ≤ 1 → a ∈ L → b ∈ L → q a = true → q b = true → a = b
  | [], a, _, _, ha, _, _, _ => by cases ha
  | x :: L, a, b, hc, ha, hb, qa, qb => by
    rw [List.countP_cons] at hc
    by_cases hx : q x = true
    · rw [if_pos hx] at hc
      have h0 : L.countP q = 0 := by omega
      rw [List.countP_eq_zero] at h0
      have e1 : a = x := by
        rcases List.mem_cons.1 ha with h | h
        · exact h
        · exact absurd qa (h0 a h)
      have e2 : b = x := by
        rcases List.mem_cons.1 hb with h | h
        · exact h
        · exact absurd qb (h0 b h)
      rw [e1, e2]
    · have ha' : a ∈ L := by
        rcases List.mem_cons.1 ha with h | h
        · exact absurd (h ▸ qa) hx
        · exact h
      have hb' : b ∈ L := by
        rcases List.mem_cons.1 hb with h | h
        · exact absurd (h ▸ qb) hx
        · exact h
      exact count_one q L a b (by omega) ha' hb' qa qb
theorem num_at {h : List Txn} : ∀ {i : Nat} {q : Nat × Op}, q ∈ num h i → ∃ k, q.1 = i + k ∧ q.2 ∈ opsAt h k := by
  induction h with
  | nil => intro i q hq; cases hq
  | cons t r ih =>
    intro i q hq
    rcases List.mem_append.1 hq with hq | hq
    · obtain ⟨o, ho, rfl⟩ := List.mem_map.1 hq
      exact ⟨0, rfl, by simpa [opsAt] using ho⟩
    · obtain ⟨k, hk, ho⟩ := ih hq
      exact ⟨k + 1, by omega, by simpa [opsAt] using ho⟩
theorem at_num {h : List Txn} : ∀ {i k : Nat} {o : Op}, o ∈ opsAt h k → (i + k, o) ∈ num h i := by
  induction h with
  | nil => intro i k o ho; simp [opsAt] at ho
  | cons t r ih =>
    intro i k o ho
    cases k with
    | zero => exact List.mem_append_left _ (List.mem_map.2 ⟨o, by simpa [opsAt] using ho, rfl⟩)
    | succ k =>
      have := ih (i := i + 1) (k := k) (o := o) (by simpa [opsAt] using ho)
      rw [show i + 1 + k = i + (k + 1) by omega] at this
      exact List.mem_append_right _ this
theorem histV_fresh {h : List Txn} (hv : histV h = true) : ∀ x y, (num h 0).countP (fun r => isW x y r.2) ≤ 1 := by
  intro x y
  obtain ⟨hl, ht⟩ := histV_parts hv
  rcases Nat.eq_zero_or_pos ((num h 0).countP (fun r => isW x y r.2)) with h0 | h0
  · omega
  · obtain ⟨q, hq, hw⟩ := List.countP_pos_iff.1 h0
    have h1 := (fresh_iff _).1 ((fresh_hist hl ht).2 hv) q hq
    simp only [isW, Bool.and_eq_true, beq_iff_eq] at hw
    have h2 := h1 hw.1.1
    rw [hw.1.2, hw.2] at h2
    exact h2
theorem look_at {h : List Txn} (hv : histV h = true) (n : Nat) (x y : Int) : look (num h 0) x y = some (n : Int) ↔ (opsAt h n).any (isW x y) = true := by
  rw [List.any_eq_true]
  constructor
  · intro hl
    unfold look at hl
    rw [Option.map_eq_some_iff] at hl
    obtain ⟨p, hp, he⟩ := hl
    have h1 := List.mem_of_find?_eq_some hp
    have h2 := List.find?_some hp
    obtain ⟨k, hk, ho⟩ := num_at h1
    have : k = n := by omega
    subst this
    exact ⟨p.2, ho, h2⟩
  · rintro ⟨o, ho, hw⟩
    have h1 := at_num (i := 0) ho
    unfold look
    cases hf : (num h 0).find? (fun p => isW x y p.2) with
    | none =>
      rw [List.find?_eq_none] at hf
      exact absurd hw (hf _ h1)
    | some p =>
      have h3 := count_one (fun r : Nat × Op => isW x y r.2) (num h 0) p (0 + n, o) (histV_fresh hv x y) (List.mem_of_find?_eq_some hf) h1 (by have := List.find?_some hf; exact this) hw
      rw [h3]
      simp
/-- The reference's test. -/
theorem keep_spec {h : List Txn} (hv : histV h = true) (n : Nat) (o : Op) (ho : opOk o = true) :
    (o.Kind != 1 || o.Value == 0 || (look (num h 0) o.Key o.Value).getD (-1) != (n : Int)) = keepOp h n o := by
  unfold keepOp
  cases hk : o.Kind == 1 with
  | false => simp [bne, hk]
  | true =>
    cases hz : o.Value == 0 with
    | true =>
      have : (opsAt h n).any (isW o.Key o.Value) = false := by
        rw [List.any_eq_false]
        intro o2 ho2 hw
        have hm : o2 ∈ opsAt h n := ho2
        simp only [isW, Bool.and_eq_true, beq_iff_eq] at hw hz
        unfold opsAt at hm
        cases hg : h[n]? with
        | none => rw [hg] at hm; cases hm
        | some t =>
          rw [hg] at hm
          have h1 := (opOk_parts ((txnOk_parts ((histV_parts hv).2 t (List.mem_of_getElem? hg))).1 o2 hm)).2.2.2.2
          have h2 := hw.1.1
          omega
      simp [bne, hk, this]
    | false =>
      have h1 := look_at hv n o.Key o.Value
      cases ha : (opsAt h n).any (isW o.Key o.Value) with
      | true =>
        rw [h1.2 ha]
        simp [bne, hk]
      | false =>
        have h2 : look (num h 0) o.Key o.Value ≠ some (n : Int) := fun e => by rw [h1.1 e] at ha; cases ha
        cases hl : look (num h 0) o.Key o.Value with
        | none =>
          have : ((-1 : Int) != (n : Int)) = true := by simp [bne]
          simp [this]
        | some m =>
          rw [hl] at h2
          have : (m != (n : Int)) = true := by simpa using h2
          simp [this]
theorem dropI_writes (h : List Txn) (n : Nat) (x y : Int) : ∀ k, tot (fun t : Txn => t.Ops.countP (isW x y)) (dropI h n k) ≤ tot (fun t : Txn => t.Ops.countP (isW x y)) (h.take k)
  | 0 => by simp [dropI, tot]
  | k + 1 => by
    have h1 := dropI_writes h n x y k
    by_cases hk : k < h.length
    · rw [dropI_succ h n k hk]
      have h2 := tot_take (fun t : Txn => t.Ops.countP (isW x y)) h k hk
      have h3 : (dropT h n h[k]).Ops.countP (isW x y) ≤ h[k].Ops.countP (isW x y) := List.filter_sublist.countP_le
      unfold tot at h1 h2 ⊢
      rw [List.map_append, List.sum_append]
      split <;> simp at h1 h2 h3 ⊢ <;> omega
    · have h3 : h[k]? = none := List.getElem?_eq_none (by omega)
      rw [dropI, h3]
      have h4 : h.take (k + 1) = h.take k := by rw [List.take_of_length_le (by omega), List.take_of_length_le (by omega)]
      rw [h4]
      split <;> simpa using h1
theorem dropL_valid {h : List Txn} (hv : histV h = true) (n : Nat) : histV (dropL h n) = true := by
  obtain ⟨hl, ht⟩ := histV_parts hv
  have hlen := dropI_len h n h.length
  have hok : ∀ t ∈ dropL h n, txnOk t = true := fun t htm => by
    obtain ⟨t0, h0, rfl⟩ := dropI_mem h n _ t htm
    have := ht t0 h0
    unfold txnOk at this ⊢
    simp only [Bool.and_eq_true, List.all_eq_true, decide_eq_true_eq] at this ⊢
    refine ⟨fun o ho => this.1 o ((List.mem_filter.1 ho).1), this.2.1, Nat.le_trans (List.length_filter_le _ _) this.2.2⟩
  have hlen2 : (dropL h n).length ≤ 6 := by unfold dropL; omega
  rw [← fresh_hist hlen2 hok, fresh_iff]
  intro q hq hk
  have h1 := num_count (isW q.2.Key q.2.Value) (dropL h n) 0
  have h2 := num_count (isW q.2.Key q.2.Value) h 0
  have h3 := dropI_writes h n q.2.Key q.2.Value h.length
  rw [List.take_length] at h3
  have h4 := histV_fresh hv q.2.Key q.2.Value
  have h5 : (num (dropL h n) 0).countP (fun r => isW q.2.Key q.2.Value r.2) = tot (fun x : Txn => x.Ops.countP (isW q.2.Key q.2.Value)) (dropL h n) := h1
  have h6 : (num h 0).countP (fun r => isW q.2.Key q.2.Value r.2) = tot (fun x : Txn => x.Ops.countP (isW q.2.Key q.2.Value)) h := h2
  rw [h5]
  unfold dropL
  omega
theorem dropI_len_at (h : List Txn) (n : Nat) (hn : n < h.length) : ∀ k, k ≤ h.length → (dropI h n k).length = if n < k then k - 1 else k
  | 0, _ => by simp [dropI]
  | k + 1, hk => by
    have := dropI_len_at h n hn k (by omega)
    rw [dropI_succ h n k (by omega), List.length_append, this]
    by_cases h1 : k = n
    · subst h1; simp
    · rw [if_neg h1]; split <;> split <;> simp <;> omega
theorem dropL_length {h : List Txn} {n : Nat} (hn : n < h.length) : (dropL h n).length + 1 = h.length := by
  have := dropI_len_at h n hn h.length (Nat.le_refl _)
  rw [if_pos hn] at this
  unfold dropL
  omega
def dropB (xs : List Txn) (n : Int) : Bool := histV xs && inR n 0 ((xs.length : Int) - 1)
def dropR (xs : List Txn) (n : Int) : List Txn := if dropB xs n then dropL xs n.toNat else []
end Go.Proofs.YtaaagoppecnmmaaDoor
