/- The reference's l13Runs. The reference's SnapshotRight. -/
import Derived.Test.YtaaagoppecnmmaaGreatDoorSnapN
import Derived.Test.YtaaagoppecnmmaaGreatDoorBadJ
import Derived.Test.YtaaagoppecnmmaaGreatDoorFollow
import Derived.Test.YtaaagoppecnmmaaGreatDoorSnapR
namespace Go.Proofs.YtaaagoppecnmmaaGreatDoor
open Go.RowKit Go.Maps
set_option linter.unusedVariables false
set_option linter.unusedSimpArgs false

theorem Row.take_ {α : Type} {T : Ty α} {w : World} {S : Nat → Prop} {A : Option Addr} {xs : List α} (h : Row T w S A xs) (k : Nat) : Row T w S A (xs.take k) := fun hp => by
  rw [List.length_take] at hp
  obtain ⟨b, off, rfl, hb, hr⟩ := h (by omega)
  refine ⟨b, off, rfl, hb, fun j hj => ?_⟩
  rw [List.length_take] at hj
  obtain ⟨cs, hrel, hcs⟩ := hr j (by omega)
  exact ⟨cs, by rw [List.getElem_take]; exact hrel, hcs⟩
def keyRun (h : List Txn) (p : List Int) (n : Int) (k : Nat) (s : St) : Nat → Option St
  | 0 => some s
  | j + 1 => (keyRun h p n k s j).bind (keyStep h p n k (j : Int))
theorem keyRun3 (h : List Txn) (p : List Int) (n : Int) (k : Nat) (s : St) : keyRun h p n k s 3 = ((keyStep h p n k 0 s).bind (keyStep h p n k 1)).bind (keyStep h p n k 2) := rfl
theorem specRun_stop (h : List Txn) (p : List Int) (s : St) : ∀ m k, k < m → specRun h p k = some s → specStep h p k s = none → specRun h p m = none
  | 0, k, hk, _, _ => absurd hk (by omega)
  | m + 1, k, hk, h1, h2 => by
    rw [specRun]
    by_cases hkm : k = m
    · subst hkm; rw [h1, Option.bind_some, h2]
    · rw [specRun_stop h p s m k (by omega) h1 h2]; rfl
theorem keyRun_none (h : List Txn) (p : List Int) (n : Int) (k : Nat) (s s' : St) (j : Nat) (hj : j < 3) (h1 : keyRun h p n k s j = some s') (h2 : keyStep h p n k (j : Int) s' = none) : keyRun h p n k s 3 = none := by
  rcases (show j = 0 ∨ j = 1 ∨ j = 2 by omega) with rfl | rfl | rfl
  · rw [keyRun, keyRun, keyRun, h1, Option.bind_some, h2]; rfl
  · rw [keyRun, keyRun, h1, Option.bind_some, h2]; rfl
  · rw [keyRun, h1, Option.bind_some, h2]
theorem hasW_none {ops : List Op} {key : Int} (h : lastW ops key = none) : hasW ops key = -1 := by unfold hasW; rw [h]; rfl
theorem hasW_some {ops : List Op} {key : Int} {o : Op} (h : lastW ops key = some o) : hasW ops key = o.Value := by unfold hasW; rw [h]; rfl
theorem hasW_ge {ops : List Op} (hok : ∀ o ∈ ops, opOk o = true) (key : Int) : decide (0 ≤ hasW ops key) = (lastW ops key).isSome := by
  cases h : lastW ops key with
  | none => rw [hasW_none h]; rfl
  | some o =>
    rw [hasW_some h]
    have := (opOk_parts (hok o (lastW_some h).1)).2.2.1
    simpa using this
theorem confB_hit {h : List Txn} {p : List Int} {key b : Int} {k j : Nat} (hj : j < k) (hb : b < (j : Int)) (hc : isC h p key j = true) : confB h p key b k = true := by
  unfold confB
  rw [List.any_eq_true]
  exact ⟨j, List.mem_range.2 hj, by simp [hb, hc]⟩
theorem confB_miss {h : List Txn} {p : List Int} {key b : Int} {k : Nat} (hn : ∀ j : Nat, b < (j : Int) → j < k → isC h p key j = false) : confB h p key b k = false := by
  unfold confB
  rw [List.any_eq_false]
  intro j hj
  have hjk := List.mem_range.1 hj
  by_cases hb : b < (j : Int)
  · simp [hn j hb hjk]
  · simp [hb]
theorem lastI_succ (p : List Int) (n : Int) (j : Nat) (hj : j < p.length) : lastI p n (j + 1) = if p[j] = n then (j : Int) else lastI p n j := by
  rw [lastI, List.getD_eq_getElem?_getD, List.getElem?_eq_getElem hj]; rfl
theorem take_all_true {α : Type} (p : α → Bool) (l : List α) (k : Nat) (hk : k < l.length) (h : (l.take k).all p = true) (hp : p l[k] = true) : (l.take (k + 1)).all p = true := by
  rw [List.take_succ_eq_append_getElem hk, List.all_append, h]
  simp [hp]
theorem srB_two {h : List Txn} {p : List Int} (ht : twoEach h p = false) : srB h p = false := by
  unfold srB
  by_cases hl : p.length = 2 * (doneL h).length
  · have := snap_right h p hl
    rw [ht, Bool.false_and] at this
    rw [← this, Bool.and_false]
  · rw [decide_eq_false hl]; simp
end Go.Proofs.YtaaagoppecnmmaaGreatDoor
