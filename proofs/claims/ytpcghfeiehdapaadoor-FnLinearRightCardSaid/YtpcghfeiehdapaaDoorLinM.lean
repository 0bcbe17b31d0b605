/- Orders of calls: what the program asks of an order is what the reference asks. -/
import Derived.Test.YtpcghfeiehdapaaDoorStriM
import Derived.Test.YtpcghfeiehdapaaDoorCalls
import Derived.Test.YtpcghfeiehdapaaDoorSameB
namespace Go.Proofs.YtpcghfeiehdapaaDoor
open Go.RowKit
set_option linter.unusedVariables false
set_option linter.unusedSimpArgs false

def callAt (xs : List Call) (n : Int) : Call := xs.getD n.toNat ⟨0, 0, ⟨0, 0⟩⟩
theorem callAt_nat (xs : List Call) (m : Nat) (h : m < xs.length) : callAt xs (m : Int) = xs[m] := by
  unfold callAt
  rw [Int.toNat_natCast, List.getD_eq_getElem?_getD, List.getElem?_eq_getElem h]
  rfl
def madeB (c : Call) (v : Int) : Bool := c.Kind == 2 || c.Value == v
def madeV (c : Call) (v : Int) : Int := if c.Kind == 2 then c.Value else v
theorem made_val {c : Call} {v : Int} (h : madeB c v = true) : madeV c v = c.Value := by
  unfold madeB at h
  unfold madeV
  cases hk : c.Kind == 2 with
  | true => rfl
  | false => rw [hk, Bool.false_or, beq_iff_eq] at h; simp [h]
theorem made_spec {c : Call} {v : Int} (h : callOk c = true) : madeB c v = !(c.Kind == 1 && c.Value != v) := by
  unfold callOk callOk1 at h
  simp only [Bool.and_eq_true] at h
  have hk := inR_iff.1 h.1.1
  unfold madeB
  rcases (show c.Kind = 1 ∨ c.Kind = 2 by omega) with e | e
  · rw [e]; cases hv : c.Value == v <;> simp [hv, bne]
  · rw [e]; simp
/-- The value of the register behind the first calls of an order, if they are right. -/
def linS (xs : List Call) (o : List Int) : Nat → Option Int
  | 0 => some 0
  | k + 1 => (linS xs o k).bind fun v => if madeB (callAt xs (o.getD k 0)) v then some (callAt xs (o.getD k 0)).Value else none
theorem linS_none {xs : List Call} {o : List Int} {k : Nat} (h : linS xs o k = none) : ∀ j, linS xs o (k + j) = none
  | 0 => h
  | j + 1 => by
    show linS xs o (k + j + 1) = none
    rw [linS, linS_none h j]
    rfl
theorem linS_stop {xs : List Call} {o : List Int} {k n : Nat} (h : linS xs o k = none) (hk : k ≤ n) : (linS xs o n).isSome = false := by
  have := linS_none h (n - k)
  rw [show k + (n - k) = n by omega] at this
  rw [this]; rfl
theorem linS_succ {xs : List Call} {o : List Int} {k m : Nat} {v : Int} (h : linS xs o k = some v) (hk : k < o.length) (hm : o[k] = (m : Int)) (hx : m < xs.length) : linS xs o (k + 1) = if madeB xs[m] v then some xs[m].Value else none := by
  rw [linS, h, getD_get hk, hm, callAt_nat xs m hx]
  rfl
def whens (xs : List Call) : List Span := xs.map Call.When
def nums (n : Nat) : List Int := (List.range n).map fun j : Nat => (j : Int)
theorem nums_succ (n : Nat) : nums (n + 1) = nums n ++ [(n : Int)] := by
  unfold nums
  rw [List.range_succ, List.map_append]
  rfl
theorem nums_len (n : Nat) : (nums n).length = n := by unfold nums; rw [List.length_map, List.length_range]
theorem nums_nodup (n : Nat) : (nums n).Nodup := by
  unfold nums
  rw [List.nodup_iff_pairwise_ne, List.pairwise_map]
  exact (List.nodup_range (n := n)).imp fun h e => h (by omega)
theorem mem_nums {n : Nat} {x : Int} : x ∈ nums n ↔ 0 ≤ x ∧ x < n := by
  unfold nums
  rw [List.mem_map]
  constructor
  · rintro ⟨j, hj, rfl⟩
    have := List.mem_range.1 hj
    omega
  · intro h
    exact ⟨x.toNat, List.mem_range.2 (by omega), by omega⟩
/-- Whether an order of calls is right. -/
def linB (xs : List Call) (o : List Int) : Bool := callsV xs && (sameB o (nums xs.length) && ((linS xs o o.length).isSome && timeB (whens xs) o o.length))
/-- What the program asks at a place. -/
def stepL (xs : List Call) (o : List Int) (j : Nat) : Bool := inR (o.getD j 0) 0 ((xs.length : Int) - 1) && (!(o.take j).contains (o.getD j 0) && strAlw (whens xs) (o.take j) (o.getD j 0))
def linI (xs : List Call) (o : List Int) : Bool := callsV xs && (decide (o.length = xs.length) && ((List.range o.length).all (stepL xs o) && (linS xs o o.length).isSome))
theorem perm_of : ∀ (o b : List Int), o.Nodup → (∀ x ∈ o, x ∈ b) → o.length = b.length → o.Perm b
  | [], b, _, _, hl => by
    have : b = [] := List.eq_nil_of_length_eq_zero hl.symm
    subst this
    exact .refl _
  | x :: o, b, hn, hs, hl => by
    have hn' := List.nodup_cons.1 hn
    have hx := hs x (by simp)
    have h1 := perm_of o (b.erase x) hn'.2 (fun y hy => by
      have hy2 := hs y (by simp [hy])
      exact (List.mem_erase_of_ne (by rintro rfl; exact hn'.1 hy)).2 hy2) (by rw [List.length_erase_of_mem hx, ← hl]; simp)
    exact (h1.cons x).trans (List.perm_cons_erase hx).symm
theorem nodup_of {o : List Int} (h : ∀ j, j < o.length → (o.take j).contains (o.getD j 0) = false) : o.Nodup := by
  rw [List.nodup_iff_pairwise_ne, List.pairwise_iff_getElem]
  intro i j hi hj hij e
  have h1 := h j hj
  rw [getD_get hj, ← e] at h1
  have h2 : o[i] ∈ o.take j := List.mem_take_iff_getElem.2 ⟨i, by omega, rfl⟩
  rw [List.contains_iff_mem.2 h2] at h1
  cases h1
theorem lin_same (xs : List Call) (o : List Int) : linI xs o = linB xs o := by
  unfold linI linB
  cases hv : callsV xs with
  | false => rfl
  | true =>
    have h6 : xs.length ≤ 6 := by
      unfold callsV at hv
      rw [Bool.and_eq_true, decide_eq_true_iff] at hv
      exact hv.1
    rw [Bool.true_and, Bool.true_and, Bool.eq_iff_iff]
    simp only [Bool.and_eq_true, decide_eq_true_iff, List.all_eq_true, same_iff (nums_nodup xs.length)]
    constructor
    · rintro ⟨hl, ha, hs⟩
      have hp : ∀ j (hj : j < o.length), (0 ≤ o[j] ∧ o[j] < xs.length) ∧ (o.take j).contains (o.getD j 0) = false ∧ strAlw (whens xs) (o.take j) (o.getD j 0) = true := fun j hj => by
        have h1 := ha j (List.mem_range.2 hj)
        unfold stepL at h1
        simp only [Bool.and_eq_true, Bool.not_eq_true'] at h1
        have h2 := inR_iff.1 h1.1
        rw [getD_get hj] at h2
        exact ⟨by omega, h1.2⟩
      have hin : ∀ x ∈ o, 0 ≤ x ∧ x < xs.length := fun x hx => by
        obtain ⟨j, hj, rfl⟩ := List.getElem_of_mem hx
        exact (hp j hj).1
      have hperm := perm_of o (nums xs.length) (nodup_of fun j hj => (hp j hj).2.1) (fun x hx => mem_nums.2 (hin x hx)) (by rw [nums_len]; exact hl)
      refine ⟨hperm, hs, ?_⟩
      rw [← str_steps (whens xs) o (fun x hx => by have := hin x hx; omega)]
      unfold stepsOK
      rw [List.all_eq_true]
      exact fun k hk => (hp k (List.mem_range.1 hk)).2.2
    · rintro ⟨hp, hs, ht⟩
      have hl : o.length = xs.length := by rw [hp.length_eq, nums_len]
      have hin : ∀ x ∈ o, 0 ≤ x ∧ x < xs.length := fun x hx => mem_nums.1 (hp.mem_iff.1 hx)
      have hn : o.Nodup := hp.nodup_iff.2 (nums_nodup _)
      rw [← str_steps (whens xs) o (fun x hx => by have := hin x hx; omega)] at ht
      unfold stepsOK at ht
      rw [List.all_eq_true] at ht
      refine ⟨hl, fun j hj => ?_, hs⟩
      have hjl := List.mem_range.1 hj
      have h1 := hin _ (List.getElem_mem hjl)
      unfold stepL
      rw [ht j hj, getD_get hjl, inR_iff.2 (by omega), Bool.and_true, Bool.true_and, Bool.not_eq_true']
      cases hc : (o.take j).contains o[j] with
      | false => rfl
      | true =>
        obtain ⟨i, hi, hie⟩ := List.mem_take_iff_getElem.1 (List.contains_iff_mem.1 hc)
        rw [List.nodup_iff_pairwise_ne, List.pairwise_iff_getElem] at hn
        exact absurd hie (hn i j (by omega) hjl (by omega))
theorem range_stop {f : Nat → Bool} {k n : Nat} (hk : k < n) (h : f k = false) : (List.range n).all f = false :=
  List.all_eq_false.2 ⟨k, List.mem_range.2 hk, by rw [h]; simp⟩
theorem range_succ_all {f : Nat → Bool} {k : Nat} (h : (List.range k).all f = true) (hk : f k = true) : (List.range (k + 1)).all f = true := by
  rw [List.range_succ, List.all_append, h]
  simp [hk]
end Go.Proofs.YtpcghfeiehdapaaDoor
