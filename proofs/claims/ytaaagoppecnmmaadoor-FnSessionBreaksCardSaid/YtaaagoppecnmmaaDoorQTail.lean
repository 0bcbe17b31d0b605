/- A region whose first operations only read: the check that one order serves for all, made cheap for a great region. -/
import Derived.Test.YtaaagoppecnmmaaDoorAnyOrder
import Derived.BigQuiet
namespace Go.Proofs.YtaaagoppecnmmaaDoor
open Go

theorem wpStill_of_quiet {P : Program} {ops : Array Oper} {w : World} {Q : Act → Prop} : ∀ {l : List Oper} {a : Act}, wpQuiet P ops (fun w' => w' = w) Q l a → wpStill P ops w Q l a
  | [], _, h => h
  | o :: l, a, h => by
    unfold wpQuiet at h
    unfold wpStill
    split at h
    · rename_i hw
      rw [if_pos hw]
      obtain ⟨v, h1, h2⟩ := h
      have h3 := h1 w rfl
      unfold Oper.quietAt at h3
      unfold Oper.still
      generalize (execOp a.eval o).run P w = r at *
      cases r with
      | ok n w' =>
        cases n <;> simp only [Oper.quietUpon] at h3 <;> simp only [Oper.stillUpon]
        case value u => exact ⟨h3.1, by rw [h3.2]; exact wpStill_of_quiet h2⟩
        case skip => exact ⟨h3.1, by rw [← h3.2]; exact wpStill_of_quiet h2⟩
        case enter f args => exact ⟨h3.1, v, h3.2, wpStill_of_quiet h2⟩
      | halt x w' => simp only [Oper.quietUpon] at h3
    · rename_i hw
      rw [if_neg hw]
      exact wpStill_of_quiet h
def depsR (o : Oper) : List Nat := (o.after.toList.filter fun e => Region.binds .any e).map (·.on)
def qBitN (m d : Nat) : Bool := Nat.beq (Nat.land (Nat.shiftRight m d) 1) 1
def qMemN : Nat → List Nat → Bool
  | _, [] => false
  | a, b :: l => Nat.beq a b || qMemN a l
theorem qMemN_mem {a : Nat} : ∀ {l : List Nat}, qMemN a l = true → a ∈ l
  | [], h => by cases h
  | b :: l, h => by
    rw [qMemN, Bool.or_eq_true] at h
    rcases h with h | h
    · rw [Nat.eq_of_beq_eq_true h]; exact List.mem_cons_self
    · exact List.mem_cons_of_mem _ (qMemN_mem h)
/-- What is to be known of an operation: where it writes, where it looks (bits), for whom it waits. -/
def qFitB (ops : Array Oper) (o : Oper) (s : Nat × Nat × List Nat) : Bool := o.dst == some s.1 && (o.looksAt ops).all (fun d => qBitN s.2.1 d) && depsR o == s.2.2
def qFitL (ops : Array Oper) : List Oper → List (Nat × Nat × List Nat) → Bool
  | [], [] => true
  | o :: l, s :: S => qFitB ops o s && qFitL ops l S
  | _, _ => false
def qPairB (i : Nat) (x y : Nat × Nat × List Nat) : Bool := (!qBitN y.2.1 x.1 && (!qBitN x.2.1 y.1 && !Nat.beq y.1 x.1)) || qMemN i y.2.2
def qFreeB : Nat → Nat → List (Nat × Nat × List Nat) → Bool
  | 0, _, _ => true
  | _ + 1, _, [] => false
  | f + 1, i, x :: S => (x.2.2.all (fun d => Nat.blt d i) && S.all (qPairB i x)) && qFreeB f (i + 1) S
theorem qFreeB_spec : ∀ {f i : Nat} {S : List (Nat × Nat × List Nat)}, qFreeB f i S = true → ∀ k, k < f → ∃ x, S[k]? = some x ∧ (∀ d ∈ x.2.2, d < i + k) ∧ ∀ (j : Nat) y, k < j → S[j]? = some y → qPairB (i + k) x y = true
  | 0, _, _, _, k, hk => absurd hk (by omega)
  | _ + 1, _, [], h, _, _ => by cases h
  | f + 1, i, x :: S, h, k, hk => by
    rw [qFreeB, Bool.and_eq_true, Bool.and_eq_true] at h
    cases k with
    | zero =>
      refine ⟨x, rfl, fun d hd => ?_, fun j y hj hy => ?_⟩
      · have := List.all_eq_true.1 h.1.1 d hd
        rw [Nat.blt_eq] at this
        omega
      · obtain ⟨m, rfl⟩ : ∃ m, j = m + 1 := ⟨j - 1, by omega⟩
        exact List.all_eq_true.1 h.1.2 y (List.mem_of_getElem? (by simpa using hy))
    | succ k =>
      obtain ⟨z, h1, h2, h3⟩ := qFreeB_spec h.2 k (by omega)
      refine ⟨z, by simpa using h1, fun d hd => by have := h2 d hd; omega, fun j y hj hy => ?_⟩
      obtain ⟨m, rfl⟩ : ∃ m, j = m + 1 := ⟨j - 1, by omega⟩
      have := h3 m y (by omega) (by simpa using hy)
      rwa [show i + 1 + k = i + (k + 1) by omega] at this
theorem qFitL_spec {ops : Array Oper} : ∀ {l : List Oper} {S : List (Nat × Nat × List Nat)}, qFitL ops l S = true → ∀ (j : Nat) o, l[j]? = some o → ∃ s, S[j]? = some s ∧ qFitB ops o s = true
  | [], [], _, _, _, h => by simp at h
  | [], _ :: _, h, _, _, _ => by cases h
  | _ :: _, [], h, _, _, _ => by cases h
  | o :: l, s :: S, h, j, o', hj => by
    rw [qFitL, Bool.and_eq_true] at h
    cases j with
    | zero =>
      obtain rfl : o = o' := by simpa using hj
      exact ⟨s, rfl, h.1⟩
    | succ j => simpa using qFitL_spec h.2 j o' (by simpa using hj)
theorem headL_true {k m i : Nat} (hi : i < m) : (headL k m).getD i true = decide (i < k) := by simp [headL, hi]
theorem headL_false {k m i : Nat} (hi : i < m) (hk : i < k) : (headL k m).getD i false = true := by simp [headL, hi, hk]
theorem headL_zero (m : Nat) : Array.replicate m false = headL 0 m := by
  refine Array.ext (by simp [headL]) fun i h1 h2 => ?_
  simp [headL]
theorem headL_next {k m : Nat} : (headL k m).setIfInBounds k true = headL (k + 1) m := by
  refine Array.ext (by simp [headL]) fun i h1 h2 => ?_
  rw [Array.getElem_setIfInBounds (by simpa using h1)]
  split
  · rename_i e; subst e; simp [headL]
  · rename_i e
    simp only [headL, List.getElem_toArray, List.getElem_map, List.getElem_range]
    rw [decide_eq_decide]; omega
theorem apart_of {ops : Array Oper} {x y : Oper} {s t : Nat × Nat × List Nat} (hx : qFitB ops x s = true) (hy : qFitB ops y t = true) {i : Nat} (h : qPairB i s t = true) : (y.after.any fun e => Region.binds .any e && e.on == i) = true ∨ x.apart ops y = true := by
  unfold qFitB at hx hy
  simp only [Bool.and_eq_true, beq_iff_eq] at hx hy
  obtain ⟨⟨x1, x2⟩, x3⟩ := hx
  obtain ⟨⟨y1, y2⟩, y3⟩ := hy
  unfold qPairB at h
  rw [Bool.or_eq_true] at h
  rcases h with h | h
  · right
    simp only [Bool.and_eq_true, Bool.not_eq_true'] at h
    obtain ⟨h1, h2, h3⟩ := h
    have k1 : s.1 ∉ y.looksAt ops := fun hm => by rw [List.all_eq_true.1 y2 _ hm] at h1; cases h1
    have k2 : t.1 ∉ x.looksAt ops := fun hm => by rw [List.all_eq_true.1 x2 _ hm] at h2; cases h2
    have k3 : t.1 ≠ s.1 := fun e => by rw [e, Nat.beq_refl] at h3; cases h3
    unfold Oper.apart
    rw [x1, y1]
    simp [k1, k2, k3]
  · left
    have := qMemN_mem h
    rw [← y3] at this
    unfold depsR at this
    obtain ⟨e, he, hi⟩ := List.mem_map.1 this
    rw [List.mem_filter] at he
    exact Array.any_eq_true'.2 ⟨e, by simpa using he.1, by rw [he.2, hi]; simp⟩
theorem lexHead_of {ops : Array Oper} {g n : Nat} {S : List (Nat × Nat × List Nat)} (hS : qFitL ops ops.toList S = true) (hF : qFreeB n 0 S = true) (hn : n < ops.size) (hq : Region.seqB .any ops g n (headL n ops.size) = true) :
    ∀ f k, k + f = n → Region.lexHead .any ops g f k (headL k ops.size) = true
  | 0, k, h => by
    obtain rfl : k = n := by omega
    exact hq
  | f + 1, k, h => by
    have hkn : k < n := by omega
    have hks : k < ops.size := by omega
    have h0 : ops[k]? = some ops[k] := by simp [hks]
    obtain ⟨s, hs, hsf⟩ := qFitL_spec hS k ops[k] (by simp [hks])
    obtain ⟨x, hx, hd, hp⟩ := qFreeB_spec hF k hkn
    obtain rfl : s = x := by rw [hs] at hx; exact Option.some.inj hx
    rw [Nat.zero_add] at hd hp
    rw [Region.lexHead, headL_next, lexHead_of hS hF hn hq f (k + 1) (by omega), Bool.and_true, Bool.and_eq_true]
    constructor
    · rw [List.contains_iff_mem]
      refine mem_ready.2 ⟨by rw [headL_true hks]; simp, ops[k], h0, fun e he hb => ?_⟩
      have hf := hsf
      unfold qFitB at hf
      simp only [Bool.and_eq_true, beq_iff_eq] at hf
      have hon : e.on ∈ depsR ops[k] := List.mem_map.2 ⟨e, List.mem_filter.2 ⟨by simpa using he, hb⟩, rfl⟩
      rw [hf.2] at hon
      have := hd _ hon
      exact headL_false (by omega) this
    · unfold Region.free
      rw [h0]
      refine List.all_eq_true.2 fun j hj => ?_
      have hjs := List.mem_range.1 hj
      rcases Nat.lt_trichotomy j k with hjk | hjk | hjk
      · rw [headL_true hjs, decide_eq_true hjk]; simp
      · subst hjk; simp
      · have hj0 : ops[j]? = some ops[j] := by simp [hjs]
        rw [hj0]
        obtain ⟨t, ht, htf⟩ := qFitL_spec hS j ops[j] (by simp [hjs])
        rcases apart_of hsf htf (hp j t hjk ht) with h1 | h1
        · simp only [h1]; simp
        · simp only [h1]; simp
theorem lexTail_of {l : List Oper} {n : Nat} (S : List (Nat × Nat × List Nat)) (h0 : Region.noSelect l.toArray = true) (hn : decide (n < l.toArray.size) = true) (hs : Region.sinkB .any l.toArray n = true) (hc : Region.chainB .any l.toArray n = true) (hS : qFitL l.toArray l S = true) (hF : qFreeB n 0 S = true) (hq : Region.seqB .any l.toArray (l.toArray.size - n) n (headL n l.toArray.size) = true) :
    Region.lexTailB .any l.toArray n = true := by
  unfold Region.lexTailB
  rw [h0, hn, hs, hc, headL_zero, lexHead_of (S := S) hS hF (of_decide_eq_true hn) hq n 0 (by omega)]
  rfl
end Go.Proofs.YtaaagoppecnmmaaDoor
