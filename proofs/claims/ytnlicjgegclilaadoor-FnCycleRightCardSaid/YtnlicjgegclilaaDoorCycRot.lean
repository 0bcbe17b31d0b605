/- A right cycle can begin with its second number. -/
import Derived.Test.YtnlicjgegclilaaDoorCycle
namespace Go.Proofs.YtnlicjgegclilaaDoor

theorem at_rot {x : Int} {l : List Int} {k : Nat} (hk : k < l.length + 1) : at_ (l ++ [x]) k = at_ (x :: l) ((k + 1) % (l.length + 1)) := by
  unfold at_
  rcases Nat.lt_or_ge k l.length with h | h
  · rw [Nat.mod_eq_of_lt (by omega)]
    simp [List.getD_eq_getElem?_getD, List.getElem?_append_left h]
  · obtain rfl : k = l.length := by omega
    simp [List.getD_eq_getElem?_getD]
theorem count_rot (x y : Int) (l : List Int) : (l ++ [x]).countP (fun z => z == y) = (x :: l).countP (fun z => z == y) := by
  rw [List.countP_append, List.countP_cons, List.countP_cons, List.countP_nil]
  omega
theorem cyc_rot {xs : List Edge} {x : Int} {l : List Int} (h : cycS xs (x :: l) = true) : cycS xs (l ++ [x]) = true := by
  unfold cycS at h ⊢
  refine range_upto fun k hk => ?_
  have hn : (l ++ [x]).length = l.length + 1 := by simp
  rw [hn] at hk
  have h1 := List.all_eq_true.1 h ((k + 1) % (l.length + 1)) (List.mem_range.2 (by simpa using Nat.mod_lt _ (Nat.succ_pos _)))
  unfold stepS at h1 ⊢
  rw [hn, at_rot hk, at_rot (Nat.mod_lt _ (Nat.succ_pos _)), count_rot]
  simpa using h1
theorem cycV_rot {many : Int} {xs : List Edge} {x : Int} {l : List Int} (h : cycV many xs (x :: l) = true) : cycV many xs (l ++ [x]) = true := by
  unfold cycV at h ⊢
  simp only [Bool.and_eq_true, decide_eq_true_eq] at h ⊢
  exact ⟨⟨h.1.1, by have := h.1.2; simp at this ⊢; omega⟩, cyc_rot h.2⟩
end Go.Proofs.YtnlicjgegclilaaDoor
