/- Cycles in plain Lean: edges as bit sets, numbers that are all different. No program in sight. -/
import Derived.Test.YtnlicjgegclilaaDoorEdges
namespace Go.Proofs.YtnlicjgegclilaaDoor
open Go.RowKit
set_option linter.unusedVariables false

theorem edgeOk_iff {many : Int} {e : Edge} (h : edgeOk many e = true) : (0 ≤ e.From ∧ e.From ≤ many - 1) ∧ (0 ≤ e.To ∧ e.To ≤ many - 1) ∧ (1 ≤ e.Kind ∧ e.Kind ≤ 4) := by
  unfold edgeOk at h
  simp only [Bool.and_eq_true, inR_iff] at h
  exact ⟨h.1.1.1, h.1.1.2, h.2⟩
def addEdge (M : Nat → Nat) (e : Edge) : Nat → Nat := fun i => if (i : Int) = e.From then M i ||| 2 ^ e.To.toNat else M i
def stepEdge (ks : List Int) (M : Nat → Nat) (e : Edge) : Nat → Nat := if ks.any (fun y => e.Kind == y) then addEdge M e else M
def matOf (ks : List Int) (xs : List Edge) : Nat → Nat := xs.foldl (stepEdge ks) (fun _ => 0)
theorem matOf_succ (ks : List Int) (xs : List Edge) (k : Nat) (h : k < xs.length) : matOf ks (xs.take (k + 1)) = stepEdge ks (matOf ks (xs.take k)) xs[k] := by
  unfold matOf
  rw [List.take_succ_eq_append_getElem h, List.foldl_append]
  rfl
theorem stepEdge_lt {ks : List Int} {many : Int} (hm : many ≤ 6) {M : Nat → Nat} {e : Edge} (he : edgeOk many e = true) (hM : ∀ i, M i < 64) (i : Nat) : stepEdge ks M e i < 64 := by
  obtain ⟨-, h2, -⟩ := edgeOk_iff he
  unfold stepEdge
  split
  · unfold addEdge
    split
    · have h1 : (2 : Nat) ^ e.To.toNat < 2 ^ 6 := Nat.pow_lt_pow_right (by decide) (by omega)
      exact Nat.or_lt_two_pow (n := 6) (hM i) h1
    · exact hM i
  · exact hM i
theorem matOf_lt {ks : List Int} {many : Int} (hm : many ≤ 6) : ∀ (xs : List Edge) (M : Nat → Nat), xs.all (edgeOk many) = true → (∀ i, M i < 64) → ∀ i, xs.foldl (stepEdge ks) M i < 64
  | [], M, _, hM, i => hM i
  | e :: xs, M, h, hM, i => by
    rw [List.all_cons, Bool.and_eq_true] at h
    exact matOf_lt hm xs (stepEdge ks M e) h.2 (stepEdge_lt hm h.1 hM) i
theorem stepEdge_bit {ks : List Int} {many : Int} {M : Nat → Nat} {e : Edge} (he : edgeOk many e = true) (i j : Nat) :
    (stepEdge ks M e i).testBit j = ((M i).testBit j || (ks.any (fun y => e.Kind == y) && (e.From == (i : Int) && e.To == (j : Int)))) := by
  obtain ⟨-, h2, -⟩ := edgeOk_iff he
  unfold stepEdge
  cases hk : ks.any (fun y => e.Kind == y) with
  | false => simp
  | true =>
    simp only [if_true, Bool.true_and]
    unfold addEdge
    by_cases hi : (i : Int) = e.From
    · rw [if_pos hi, Nat.testBit_or, Nat.testBit_two_pow]
      have : (e.From == (i : Int)) = true := by simp [hi]
      rw [this, Bool.true_and]
      congr 1
      rw [Bool.eq_iff_iff]
      simp
      omega
    · rw [if_neg hi]
      have : (e.From == (i : Int)) = false := by simp; omega
      rw [this, Bool.false_and, Bool.or_false]
theorem matOf_bit {ks : List Int} {many : Int} (i j : Nat) : ∀ (xs : List Edge) (M : Nat → Nat), xs.all (edgeOk many) = true →
    (xs.foldl (stepEdge ks) M i).testBit j = ((M i).testBit j || xs.any (fun e => ks.any (fun y => e.Kind == y) && (e.From == (i : Int) && e.To == (j : Int))))
  | [], M, _ => by simp
  | e :: xs, M, h => by
    rw [List.all_cons, Bool.and_eq_true] at h
    rw [List.foldl_cons, matOf_bit i j xs (stepEdge ks M e) h.2, stepEdge_bit h.1, List.any_cons, Bool.or_assoc]
def hasE (xs : List Edge) (a b : Int) : Bool := xs.any (fun e => e.From == a && e.To == b)
theorem kind_any {many : Int} {e : Edge} (h : edgeOk many e = true) : [1, 2, 3, 4].any (fun y => e.Kind == y) = true := by
  obtain ⟨-, -, h3⟩ := edgeOk_iff h
  simp
  omega
theorem any_ext {α : Type} {p q : α → Bool} : ∀ (xs : List α), (∀ x ∈ xs, p x = q x) → xs.any p = xs.any q
  | [], _ => rfl
  | x :: xs, h => by rw [List.any_cons, List.any_cons, h x (by simp), any_ext xs (fun y hy => h y (by simp [hy]))]
theorem all_of {many : Int} {xs : List Edge} (h : xs.all (edgeOk many) = true) {e : Edge} (he : e ∈ xs) : edgeOk many e = true := List.all_eq_true.1 h e he
theorem allOf_bit {many : Int} {xs : List Edge} (h : xs.all (edgeOk many) = true) (i j : Nat) : (matOf [1, 2, 3, 4] xs i).testBit j = hasE xs i j := by
  unfold matOf hasE
  rw [matOf_bit i j xs _ h]
  simp only [Nat.zero_testBit, Bool.false_or]
  exact any_ext xs (fun e he => by rw [kind_any (all_of h he), Bool.true_and])
theorem hasE_in {many : Int} {xs : List Edge} (h : xs.all (edgeOk many) = true) {a b : Int} (he : hasE xs a b = true) : inR a 0 (many - 1) = true ∧ inR b 0 (many - 1) = true := by
  unfold hasE at he
  obtain ⟨e, hm, hq⟩ := List.any_eq_true.1 he
  obtain ⟨h1, h2, -⟩ := edgeOk_iff (all_of h hm)
  simp only [Bool.and_eq_true, beq_iff_eq] at hq
  exact ⟨inR_iff.2 ⟨by omega, by omega⟩, inR_iff.2 ⟨by omega, by omega⟩⟩
/-- the number at a place. -/
def at_ (ns : List Int) (k : Nat) : Int := ns.getD k 0
/-- the reference's question at a place. -/
def stepS (xs : List Edge) (ns : List Int) (k : Nat) : Bool := hasE xs (at_ ns k) (at_ ns ((k + 1) % ns.length)) && ns.countP (fun y => y == at_ ns k) == 1
/-- the program's question at a place. -/
def stepI (xs : List Edge) (ns : List Int) (k : Nat) : Bool := hasE xs (at_ ns k) (at_ ns ((k + 1) % ns.length)) && !(ns.take k).any (fun y => y == at_ ns k)
theorem at_get {ns : List Int} {k : Nat} (h : k < ns.length) : at_ ns k = ns[k] := by unfold at_; simp [h]
theorem once {ns : List Int} : (∀ k, k < ns.length → ns.countP (fun y => y == at_ ns k) = 1) ↔ (∀ k, k < ns.length → (ns.take k).any (fun y => y == at_ ns k) = false) := by
  constructor
  · intro h k hk
    have h1 := h k hk
    cases hq : (ns.take k).any (fun y => y == at_ ns k) with
    | false => rfl
    | true =>
      exfalso
      have hsplit : ns = ns.take k ++ ns.drop k := (List.take_append_drop k ns).symm
      have h2 : 0 < (ns.take k).countP (fun y => y == at_ ns k) := by
        rw [List.countP_pos_iff]
        obtain ⟨x, hx, hxe⟩ := List.any_eq_true.1 hq
        exact ⟨x, hx, hxe⟩
      have h3 : 0 < (ns.drop k).countP (fun y => y == at_ ns k) := by
        rw [List.drop_eq_getElem_cons hk, List.countP_cons, at_get hk]
        simp
      have h4 := List.countP_append (p := fun y => y == at_ ns k) (l₁ := ns.take k) (l₂ := ns.drop k)
      rw [List.take_append_drop] at h4
      omega
  · intro h k hk
    have hsplit := List.countP_append (p := fun y => y == at_ ns k) (l₁ := ns.take k) (l₂ := ns.drop k)
    rw [List.take_append_drop] at hsplit
    have h0 : (ns.take k).countP (fun y => y == at_ ns k) = 0 := by
      rw [List.countP_eq_zero]
      intro x hx hxe
      have := h k hk
      rw [List.any_eq_false] at this
      exact this x hx hxe
    have h1 : (ns.drop (k + 1)).countP (fun y => y == at_ ns k) = 0 := by
      rw [List.countP_eq_zero]
      intro x hx hxe
      obtain ⟨m, hm, rfl⟩ := List.mem_iff_getElem.1 hx
      rw [List.length_drop] at hm
      rw [List.getElem_drop] at hxe
      have hm' : k + 1 + m < ns.length := by omega
      have := h (k + 1 + m) hm'
      rw [List.any_eq_false] at this
      refine this (at_ ns k) ?_ ?_
      · rw [at_get hk, List.mem_take_iff_getElem]
        exact ⟨k, by omega, rfl⟩
      · rw [at_get hm']
        simp at hxe
        simp [hxe]
    rw [hsplit, h0, List.drop_eq_getElem_cons hk, List.countP_cons, h1, at_get hk]
    simp
def cycS (xs : List Edge) (ns : List Int) : Bool := (List.range ns.length).all (stepS xs ns)
def cycI (xs : List Edge) (ns : List Int) : Bool := (List.range ns.length).all (stepI xs ns)
theorem cyc_eq (xs : List Edge) (ns : List Int) : cycS xs ns = cycI xs ns := by
  rw [Bool.eq_iff_iff]
  unfold cycS cycI
  rw [List.all_eq_true, List.all_eq_true]
  simp only [List.mem_range]
  unfold stepS stepI
  simp only [Bool.and_eq_true, beq_iff_eq, Bool.not_eq_true']
  constructor
  · intro h k hk
    exact ⟨(h k hk).1, once.1 (fun k hk => (h k hk).2) k hk⟩
  · intro h k hk
    exact ⟨(h k hk).1, once.2 (fun k hk => (h k hk).2) k hk⟩
theorem range_upto {p : Nat → Bool} {n : Nat} (h : ∀ j, j < n → p j = true) : (List.range n).all p = true := List.all_eq_true.2 (fun x hx => h x (List.mem_range.1 hx))
theorem range_not {p : Nat → Bool} {n k : Nat} (hk : k < n) (h : p k = false) : (List.range n).all p = false := by
  rw [List.all_eq_false]
  exact ⟨k, List.mem_range.2 hk, by simp [h]⟩
/-- a set of numbers as bits. -/
theorem seen_succ {ns : List Int} {k s n : Nat} (h : k < ns.length) (he : at_ ns k = (n : Int)) (hs : ∀ j, s.testBit j = (ns.take k).any (fun y => y == (j : Int))) (j : Nat) :
    (s ||| 2 ^ n).testBit j = (ns.take (k + 1)).any (fun y => y == (j : Int)) := by
  rw [Nat.testBit_or, hs, List.take_succ_eq_append_getElem h, List.any_append, Nat.testBit_two_pow]
  congr 1
  rw [at_get h] at he
  rw [Bool.eq_iff_iff]
  simp [he]
  omega
theorem bit_shift (x j : Nat) : x / 2 ^ j % 2 = (if x.testBit j then 1 else 0) := by
  rw [Nat.testBit_eq_decide_div_mod_eq]
  have := Nat.mod_two_eq_zero_or_one (x / 2 ^ j)
  split <;> simp_all
end Go.Proofs.YtnlicjgegclilaaDoor
