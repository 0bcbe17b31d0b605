/- Plain laws: right schedules, and the first one that is found. -/
import Derived.Test.YtmlbfhknapkhgaaSnapM
namespace Go.Proofs.Ytmlbfhknapkhgaa
open Go.RowKit
set_option linter.unusedVariables false

theorem countP_sum (l : List Int) : ∀ (done : List Int), done.Nodup → l.countP (fun x => done.contains x) = (done.map fun d => l.count d).sum
  | [], _ => by simp
  | d :: r, hn => by
    rw [List.nodup_cons] at hn
    have ih := countP_sum l r hn.2
    rw [List.map_cons, List.sum_cons, ← ih]
    clear ih
    induction l with
    | nil => simp
    | cons x xs ihx =>
      rw [List.countP_cons, List.countP_cons, List.count_cons, ihx]
      by_cases hx : x = d
      · have h1 : (x == d) = true := by simpa using hx
        have h2 : r.contains x = false := by
          cases hq : r.contains x with
          | false => rfl
          | true => exact absurd (hx ▸ List.contains_iff_mem.1 hq) hn.1
        have h3 : (d :: r).contains x = true := by rw [List.contains_cons, h1, Bool.true_or]
        rw [h1, h2, h3]
        simp only [if_true, Bool.false_eq_true, if_false]
        omega
      · have h1 : (x == d) = false := by simpa using hx
        have h2 : (d :: r).contains x = r.contains x := by
          rw [List.contains_cons, h1, Bool.false_or]
        rw [h2, h1]
        simp only [Bool.false_eq_true, if_false]
        omega
theorem sum_two (f : Int → Nat) : ∀ (l : List Int), (∀ d ∈ l, f d = 2) → (l.map f).sum = 2 * l.length
  | [], _ => rfl
  | d :: r, h => by
    have := sum_two f r (fun x hx => h x (List.mem_cons_of_mem _ hx))
    have := h d List.mem_cons_self
    simp only [List.map_cons, List.sum_cons, List.length_cons]; omega
theorem sum_le2 (f : Int → Nat) : ∀ (l : List Int), (∀ d ∈ l, f d ≤ 2) → (l.map f).sum ≤ 2 * l.length
  | [], _ => Nat.le_refl _
  | d :: r, h => by
    have := sum_le2 f r (fun x hx => h x (List.mem_cons_of_mem _ hx))
    have := h d List.mem_cons_self
    simp only [List.map_cons, List.sum_cons, List.length_cons]; omega
theorem sum_two_inv (f : Int → Nat) : ∀ (l : List Int), (∀ d ∈ l, f d ≤ 2) → (l.map f).sum = 2 * l.length → ∀ d ∈ l, f d = 2
  | [], _, _ => fun d hd => by cases hd
  | d :: r, h, hs => fun x hx => by
    have h1 := sum_le2 f r (fun x hx => h x (List.mem_cons_of_mem _ hx))
    have h2 := h d List.mem_cons_self
    simp only [List.map_cons, List.sum_cons, List.length_cons] at hs
    rcases List.mem_cons.1 hx with rfl | hx
    · omega
    · exact sum_two_inv f r (fun x hx => h x (List.mem_cons_of_mem _ hx)) (by omega) x hx
theorem dneOf_mem (h : List Txn) (n : Int) : dneOf h n = true ↔ n ∈ doneL h := by
  unfold dneOf
  simp only [Bool.and_eq_true, decide_eq_true_eq]
  constructor
  · rintro ⟨⟨h0, h1⟩, h2⟩
    have := mem_doneI h h.length n.toNat (by omega) h2
    rwa [Int.toNat_of_nonneg h0] at this
  · intro hm
    have h1 := doneI_mem h _ _ hm
    exact ⟨⟨h1.1, h1.2⟩, doneI_done h _ _ hm⟩
def twoEach (h : List Txn) (p : List Int) : Bool := (doneL h).all fun d => p.count d == 2
theorem twoEach_in {h : List Txn} {p : List Int} (hl : p.length = 2 * (doneL h).length) (ht : twoEach h p = true) : ∀ n ∈ p, n ∈ doneL h := by
  unfold twoEach at ht
  rw [List.all_eq_true] at ht
  have h1 := countP_sum p (doneL h) (doneI_nodup h _)
  rw [sum_two _ _ (fun d hd => by simpa using ht d hd), ← hl, List.countP_eq_length] at h1
  exact fun n hn => List.contains_iff_mem.1 (h1 n hn)
theorem snap_right (h : List Txn) (p : List Int) (hl : p.length = 2 * (doneL h).length) : (twoEach h p && l13R h p) = (snapRun h SS0 p).isSome := by
  rw [Bool.eq_iff_iff, Bool.and_eq_true]
  constructor
  · rintro ⟨h1, h2⟩
    have hin := twoEach_in hl h1
    unfold twoEach at h1
    rw [List.all_eq_true] at h1
    rw [← l13_snap h p (fun n hn => (dneOf_mem h n).2 (hin n hn)) (fun n => ?_)]
    · exact h2
    · by_cases hn : n ∈ p
      · have := h1 n (hin n hn)
        simp at this; omega
      · rw [List.count_eq_zero.2 hn]; omega
  · intro h1
    obtain ⟨S, hS⟩ := Option.isSome_iff_exists.1 h1
    obtain ⟨h2, h3⟩ := snapRun_seen hS
    have h4 := snapRun_count hS (fun n => by simp [SS0])
    rw [h2] at h4
    simp only [SS0, List.nil_append] at h4
    have h5 := countP_sum p (doneL h) (doneI_nodup h _)
    have h6 : p.countP (fun x => (doneL h).contains x) = p.length := List.countP_eq_length.2 fun n hn => List.contains_iff_mem.2 ((dneOf_mem h n).1 (h3 n hn))
    rw [h6, hl] at h5
    have h7 := sum_two_inv _ _ (fun d _ => h4 d) h5.symm
    refine ⟨?_, by rw [l13_snap h p h3 h4]; exact h1⟩
    unfold twoEach
    rw [List.all_eq_true]
    intro d hd
    simpa using h7 d hd
/-! ### The first right schedule -/
def dfsS (h : List Txn) : Nat → List Int → Option (List Int)
  | 0, p => if l13R h p then some p else none
  | f + 1, p => if l13R h p then (doneL h).findSome? (fun d => if p.count d = 2 then none else dfsS h f (p ++ [d])) else none
def dfsN (h : List Txn) : Nat → List Int → SS → Option (List Int)
  | 0, p, S => some p
  | f + 1, p, S => (doneL h).findSome? (fun d => (snapNext h S d).bind fun S' => dfsN h f (p ++ [d]) S')
theorem findSome_congr {α β : Type} {f g : α → Option β} : ∀ {l : List α}, (∀ x ∈ l, f x = g x) → l.findSome? f = l.findSome? g
  | [], _ => rfl
  | x :: r, h => by
    rw [List.findSome?_cons, List.findSome?_cons, h x List.mem_cons_self, findSome_congr (fun y hy => h y (List.mem_cons_of_mem _ hy))]
theorem dfs_snap (h : List Txn) : ∀ (f : Nat) (p : List Int) (S : SS), snapRun h SS0 p = some S → dfsS h f p = dfsN h f p S
  | 0, p, S, hS => by
    obtain ⟨h2, h3⟩ := snapRun_seen hS
    have h4 := snapRun_count hS (fun n => by simp [SS0])
    rw [h2] at h4
    simp only [SS0, List.nil_append] at h4
    rw [dfsS, dfsN, l13_snap h p h3 h4, hS]; rfl
  | f + 1, p, S, hS => by
    obtain ⟨h2, h3⟩ := snapRun_seen hS
    have h4 := snapRun_count hS (fun n => by simp [SS0])
    rw [h2] at h4
    simp only [SS0, List.nil_append] at h4 h2
    rw [dfsS, dfsN, l13_snap h p h3 h4, hS]
    simp only [Option.isSome_some, if_true]
    refine findSome_congr fun d hd => ?_
    have hdd := (dneOf_mem h d).2 hd
    by_cases hc : p.count d = 2
    · rw [if_pos hc]
      unfold snapNext
      rw [h2, hc]
      simp
    · rw [if_neg hc]
      have hr : snapRun h SS0 (p ++ [d]) = snapNext h S d := by rw [snapRun_snoc, hS]; rfl
      cases hn : snapNext h S d with
      | some S' => rw [hn] at hr; simp only [Option.bind_some]; exact dfs_snap h f (p ++ [d]) S' hr
      | none =>
        rw [hn] at hr
        have hc2 : ∀ n, (p ++ [d]).count n ≤ 2 := fun n => by
          rw [List.count_append]
          have h5 := h4 n
          by_cases hnd : n = d
          · subst hnd; simp; omega
          · have : List.count n [d] = 0 := List.count_eq_zero.2 (by simpa using hnd)
            omega
        have hf : l13R h (p ++ [d]) = false := by
          rw [l13_snap h (p ++ [d]) (fun n hn => ?_) hc2, hr]; rfl
          rcases List.mem_append.1 hn with hn | hn
          · exact h3 n hn
          · rw [List.mem_singleton.1 hn]; exact hdd
        simp only [Option.bind_none]
        cases f <;> simp [dfsS, hf]
end Go.Proofs.Ytmlbfhknapkhgaa
