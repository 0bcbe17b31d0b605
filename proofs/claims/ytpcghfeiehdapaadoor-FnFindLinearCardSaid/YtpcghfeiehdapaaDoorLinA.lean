/- Calls one after the other are put in their own order. -/
import Derived.Test.YtpcghfeiehdapaaDoorFLinG
namespace Go.Proofs.YtpcghfeiehdapaaDoor
open Go.RowKit
set_option linter.unusedVariables false
set_option linter.unusedSimpArgs false

/-- Each of the first m calls is behind the one before. -/
def aloneB (xs : List Call) (m : Nat) : Prop := ∀ k, 0 < k → k < m → (callAt xs ((k : Int) - 1)).When.To < (callAt xs (k : Int)).When.From
theorem whens_len_ (xs : List Call) : (whens xs).length = xs.length := List.length_map _
theorem alone_far {xs : List Call} (hv : callsV xs = true) (ha : aloneB xs xs.length) : ∀ (d a : Nat), a + 1 + d < xs.length → (callAt xs (a : Int)).When.To < (callAt xs ((a + 1 + d : Nat) : Int)).When.From
  | 0, a, h => by
    have h1 := ha (a + 1) (by omega) h
    rw [show (((a + 1 : Nat) : Int) - 1) = (a : Int) by omega] at h1
    exact h1
  | d + 1, a, h => by
    have h1 := alone_far hv ha d a (by omega)
    have h2 := ha (a + 1 + d + 1) (by omega) h
    rw [show (((a + 1 + d + 1 : Nat) : Int) - 1) = ((a + 1 + d : Nat) : Int) by omega] at h2
    have h3 : (callAt xs ((a + 1 + d : Nat) : Int)).When.From ≤ (callAt xs ((a + 1 + d : Nat) : Int)).When.To := by
      rw [callAt_nat xs _ (by omega)]
      unfold callsV at hv
      rw [Bool.and_eq_true, List.all_eq_true] at hv
      have h4 := hv.2 _ (List.getElem_mem (show a + 1 + d < xs.length by omega))
      unfold callOk spanOk at h4
      simp only [Bool.and_eq_true] at h4
      exact (inR_iff.1 h4.2.2).1
    show (callAt xs (a : Int)).When.To < (callAt xs ((a + 1 + d + 1 : Nat) : Int)).When.From
    omega
theorem alone_order {xs : List Call} {o : List Int} (hl : linB xs o = true) (ha : aloneB xs xs.length) : o = nums xs.length := by
  unfold linB at hl
  simp only [Bool.and_eq_true] at hl
  obtain ⟨hv, hs, _, ht⟩ := hl
  have hp := (same_iff (nums_nodup xs.length)).1 hs
  have hin : ∀ x ∈ o, 0 ≤ x ∧ x < xs.length := fun x hx => mem_nums.1 (hp.mem_iff.1 hx)
  have hn : o.Nodup := hp.nodup_iff.2 (nums_nodup _)
  have hup : o.Pairwise (· ≤ ·) := by
    rw [List.pairwise_iff_getElem]
    intro i j hi hj hij
    have h1 := hin _ (List.getElem_mem hi)
    have h2 := hin _ (List.getElem_mem hj)
    rcases Int.lt_or_le o[j] o[i] with hlt | hle
    · exfalso
      unfold timeB at ht
      rw [List.all_eq_true] at ht
      have h3 := ht j (List.mem_range.2 hj)
      unfold rowT at h3
      rw [List.all_eq_true] at h3
      have h4 := h3 i (List.mem_range.2 hij)
      obtain ⟨a, hae⟩ : ∃ a : Nat, o[j] = (a : Int) := ⟨o[j].toNat, by omega⟩
      obtain ⟨b, hbe⟩ : ∃ b : Nat, o[i] = (b : Int) := ⟨o[i].toNat, by omega⟩
      have h5 := alone_far hv ha (b - a - 1) a (by omega)
      rw [show a + 1 + (b - a - 1) = b by omega, callAt_nat xs a (by omega), callAt_nat xs b (by omega)] at h5
      have e1 : spAt (whens xs) o j = xs[a].When := by
        rw [spAt_eq hj hae (by rw [whens_len_]; omega)]; simp [whens]
      have e2 : spAt (whens xs) o i = xs[b].When := by
        rw [spAt_eq hi hbe (by rw [whens_len_]; omega)]; simp [whens]
      rw [e1, e2, decide_eq_true h5] at h4
      cases h4
    · exact hle
  have hnup : (nums xs.length).Pairwise (· ≤ ·) := by
    unfold nums
    rw [List.pairwise_map]
    exact (List.pairwise_lt_range (n := xs.length)).imp fun h => by omega
  exact List.Perm.eq_of_pairwise (le := (· ≤ ·)) (fun x y _ _ h1 h2 => by omega) hup hnup hp
theorem nums_get {n k : Nat} (h : k < (nums n).length) : (nums n)[k] = (k : Int) := by
  have h1 : (nums n)[k]? = some (k : Int) := by
    rw [nums_len] at h
    unfold nums
    rw [List.getElem?_map, List.getElem?_range h]
    rfl
  exact (List.getElem?_eq_some_iff.1 h1).2
theorem flF_right {xs : List Call} {o : List Int} (h : flF xs = some o) : linB xs o = true := by
  have hv : callsV xs = true := by
    unfold flF at h
    split at h
    · assumption
    · cases h
  rw [flF_find xs hv] at h
  exact List.find?_some h
end Go.Proofs.YtpcghfeiehdapaaDoor
