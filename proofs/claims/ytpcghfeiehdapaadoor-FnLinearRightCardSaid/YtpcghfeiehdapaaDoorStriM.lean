/- Orders that follow spans: what is asked of each number. -/
import Derived.Test.YtpcghfeiehdapaaDoorSearchM
import Derived.Test.YtpcghfeiehdapaaDoorMemb
import Derived.Test.YtpcghfeiehdapaaDoorTime
import Derived.Test.YtpcghfeiehdapaaDoorBits
namespace Go.Proofs.YtpcghfeiehdapaaDoor
open Go.RowKit
set_option linter.unusedVariables false
set_option linter.unusedSimpArgs false

def spI (sp : List Span) (n : Int) : Span := sp.getD n.toNat ⟨0, 0⟩
theorem spI_nat (sp : List Span) (m : Nat) (h : m < sp.length) : spI sp (m : Int) = sp[m] := by
  unfold spI
  rw [Int.toNat_natCast, List.getD_eq_getElem?_getD, List.getElem?_eq_getElem h]
  rfl
/-- Nobody of those before begins after it has ended. -/
def strAlw (sp : List Span) (pre : List Int) (n : Int) : Bool := (List.range 6).all fun m => !(pre.contains (m : Int) && decide ((spI sp n).To < (spI sp (m : Int)).From))
def strP (sp : List Span) (n b : Int) : Bool := !decide ((spI sp n).To < (spI sp b).From)
theorem getD_get {o : List Int} {j : Nat} (h : j < o.length) : o.getD j 0 = o[j] := by rw [List.getD_eq_getElem?_getD, List.getElem?_eq_getElem h]; rfl
theorem str_row (sp : List Span) (o : List Int) (k : Nat) (hk : k < o.length) (hin : ∀ x ∈ o, 0 ≤ x ∧ x < 6) : strAlw sp (o.take k) (o.getD k 0) = rowT sp o k k := by
  rw [Bool.eq_iff_iff]
  unfold strAlw rowT
  rw [List.all_eq_true, List.all_eq_true]
  constructor
  · intro h j hj
    rw [List.mem_range] at hj
    have hjl : j < o.length := by omega
    have hx := hin _ (List.getElem_mem hjl)
    have h1 := h o[j].toNat (List.mem_range.2 (by omega))
    have hm : ((o[j].toNat : Nat) : Int) = o[j] := by omega
    have hc : (o.take k).contains o[j] = true := List.contains_iff_mem.2 (List.mem_take_iff_getElem.2 ⟨j, by omega, rfl⟩)
    rw [hm, hc, Bool.true_and] at h1
    unfold spAt
    rw [getD_get hjl]
    exact h1
  · intro h m hm
    cases hc : (o.take k).contains (m : Int) with
    | false => rfl
    | true =>
      obtain ⟨j, hj, hje⟩ := List.mem_take_iff_getElem.1 (List.contains_iff_mem.1 hc)
      have h1 := h j (List.mem_range.2 (by omega))
      unfold spAt at h1
      rw [getD_get (by omega : j < o.length), hje] at h1
      rw [Bool.true_and]
      exact h1
theorem str_steps (sp : List Span) (o : List Int) (hin : ∀ x ∈ o, 0 ≤ x ∧ x < 6) : stepsOK (strAlw sp) o = timeB sp o o.length := by
  unfold stepsOK timeB
  rw [Bool.eq_iff_iff, List.all_eq_true, List.all_eq_true]
  constructor
  · intro h k hk
    rw [← str_row sp o k (List.mem_range.1 hk) hin]
    exact h k hk
  · intro h k hk
    rw [str_row sp o k (List.mem_range.1 hk) hin]
    exact h k hk
theorem str_memb (sp : List Span) (pre : List Int) (gone : Nat) (n : Int) (hb : BitsOf gone pre) : strAlw sp pre n = (membF 6 gone).all (strP sp n) := by
  rw [membF_small gone hb.1, Bool.eq_iff_iff]
  unfold strAlw strP
  rw [List.all_eq_true, List.all_eq_true]
  constructor
  · intro h x hx
    obtain ⟨m, hm, rfl⟩ := List.mem_map.1 hx
    obtain ⟨h1, h2⟩ := List.mem_filter.1 hm
    have h3 := h m h1
    rw [hb.2 m] at h2
    rw [h2, Bool.true_and] at h3
    exact h3
  · intro h m hm
    cases hc : pre.contains (m : Int) with
    | false => rfl
    | true =>
      rw [Bool.true_and]
      exact h (m : Int) (List.mem_map.2 ⟨m, List.mem_filter.2 ⟨hm, by rw [hb.2 m]; exact hc⟩, rfl⟩)
theorem memb_in {pre : List Int} {gone L : Nat} (hb : BitsOf gone pre) (hin : ∀ x ∈ pre, x < (L : Int)) : ∀ b ∈ membF 6 gone, ∃ m : Nat, b = (m : Int) ∧ m < L := by
  intro b hbm
  rw [membF_small gone hb.1] at hbm
  obtain ⟨m, hm, rfl⟩ := List.mem_map.1 hbm
  obtain ⟨_, h2⟩ := List.mem_filter.1 hm
  rw [hb.2 m] at h2
  have := hin _ (List.contains_iff_mem.1 h2)
  exact ⟨m, rfl, by omega⟩
theorem membF_len : ∀ (f x : Nat), (membF f x).length ≤ f
  | 0, _ => Nat.le_refl _
  | f + 1, x => by
    rw [membF]
    split
    · simp
    · have := membF_len f (x &&& (x - 1)); simp; omega
end Go.Proofs.YtpcghfeiehdapaaDoor
