/- Plain laws: the search for serial orders. The reference's search for the first serial order: l12Find, FindSerial. The reference's FindSerial: the first right serial order. All valid orders of a history; verdicts: what they say together. Plain laws. -/
import Derived.Test.YtjiobgfaohldhaaGreatDoorQSearchM
import Derived.Test.YtjiobgfaohldhaaGreatDoorQHMath
import Derived.Test.YtjiobgfaohldhaaGreatDoorQFollow
import Derived.Test.YtjiobgfaohldhaaGreatDoorQLastS
import Derived.Test.YtjiobgfaohldhaaGreatDoorQContC
import Derived.Test.YtjiobgfaohldhaaGreatDoorQGraph
import Derived.Test.YtjiobgfaohldhaaGreatDoorQOrdS
import Derived.Laws.AppendOwn
import Derived.ArgAppend
import Derived.Deep.RegionLaw
namespace Go.Proofs.YtjiobgfaohldhaaGreatDoor
open Go.RowKit
set_option linter.unusedVariables false
set_option linter.unusedSimpArgs false

def goodR (alw : List Int → Int → Bool) (h : List Txn) (o : List Int) : Bool := runsOK h o && stepsOK alw o
theorem goodR_prefix (alw : List Int → Int → Bool) (h : List Txn) (a b : List Int) (hg : goodR alw h (a ++ b) = true) : goodR alw h a = true := by
  unfold goodR at hg ⊢
  rw [Bool.and_eq_true] at hg ⊢
  exact ⟨runsOK_prefix h a b hg.1, stepsOK_prefix alw a b hg.2⟩
theorem goodR_nil (alw : List Int → Int → Bool) (h : List Txn) : goodR alw h [] = true := rfl
theorem goodR_snoc (alw : List Int → Int → Bool) (h : List Txn) (pre : List Int) (x : Int) (s : St) (hr : runTx h St0 pre = some s) (hs : goodR alw h pre = true) :
    goodR alw h (pre ++ [x]) = ((runOps s ((h[x.toNat]?.map Txn.Ops).getD [])).isSome && alw pre x) := by
  unfold goodR at hs ⊢
  rw [Bool.and_eq_true] at hs
  rw [stepsOK_snoc, hs.2, Bool.true_and]
  congr 1
  unfold runsOK
  rw [runTx_append, hr]
  simp only [Option.bind_some, runTx]
  cases runOps s ((h[x.toNat]?.map Txn.Ops).getD []) <;> rfl
theorem runTx_snoc (h : List Txn) (pre : List Int) (n : Nat) (hn : n < h.length) (s sn : St) (hr : runTx h St0 pre = some s) (h2 : runOps s h[n].Ops = some sn) : runTx h St0 (pre ++ [(n : Int)]) = some sn := by
  rw [runTx_append, hr]
  simp only [Option.bind_some, runTx, Int.toNat_natCast, List.getElem?_eq_getElem hn, Option.map_some, Option.getD_some, h2]
end Go.Proofs.YtjiobgfaohldhaaGreatDoor
namespace Go.Proofs.YtjiobgfaohldhaaGreatDoor
open Go.RowKit
set_option linter.unusedVariables false
set_option linter.unusedSimpArgs false

def serF (xs : List Txn) : Option (List Int) := firstGood (runsOK xs) (doneL xs)
def findF (xs : List Txn) : Option (List Int) := if histV xs then serF xs else none
end Go.Proofs.YtjiobgfaohldhaaGreatDoor
namespace Go.Proofs.YtjiobgfaohldhaaGreatDoor
open Go.RowKit
set_option linter.unusedVariables false
set_option linter.unusedSimpArgs false

/-- One more key's orders. -/
def stepO (out : List (List (List Int))) (l : List Int) : List (List (List Int)) := out.flatMap fun b => (permsI l.length l).map fun o => b ++ [o]
/-- The orders of the first k keys. -/
def partO (h : List Txn) : Nat → List (List (List Int))
  | 0 => [[]]
  | k + 1 => stepO (partO h k) (instL h (k : Int))
/-- How many orders the first k keys have. -/
def manyK (h : List Txn) : Nat → Nat
  | 0 => 1
  | k + 1 => manyK h k * fct (instL h (k : Int)).length
def firstL (h : List Txn) : List (List Int) := [instL h 0, instL h 1, instL h 2]
def allO (h : List Txn) : List (List (List Int)) := if histV h && decide (manyK h 3 ≤ 200) then partO h 3 else []
theorem permsI_iff {l o : List Int} (hn : l.Nodup) : o ∈ permsI l.length l ↔ o.Perm l := by
  rw [permsI_eq_E _ _ hn, perms_mem _ _ _ rfl]
theorem stepO_mem {out : List (List (List Int))} {l : List Int} {x : List (List Int)} : x ∈ stepO out l ↔ ∃ b ∈ out, ∃ o ∈ permsI l.length l, x = b ++ [o] := by
  unfold stepO
  simp only [List.mem_flatMap, List.mem_map]
  constructor
  · rintro ⟨b, hb, o, ho, rfl⟩; exact ⟨b, hb, o, ho, rfl⟩
  · rintro ⟨b, hb, o, ho, rfl⟩; exact ⟨b, hb, o, ho, rfl⟩
theorem stepO_len (out : List (List (List Int))) (l : List Int) : (stepO out l).length = out.length * fct l.length := by
  unfold stepO
  induction out with
  | nil => simp
  | cons b r ih => rw [List.flatMap_cons, List.length_append, ih, List.length_map, permsI_len _ _ rfl, List.length_cons, Nat.add_mul]; omega
theorem partO_len (h : List Txn) : ∀ k, (partO h k).length = manyK h k
  | 0 => rfl
  | k + 1 => by rw [partO, stepO_len, partO_len h k]; rfl
theorem fct_pos : ∀ n, 0 < fct n
  | 0 => by decide
  | n + 1 => Nat.mul_pos (Nat.succ_pos n) (fct_pos n)
theorem manyK_pos (h : List Txn) : ∀ k, 0 < manyK h k
  | 0 => Nat.one_pos
  | k + 1 => Nat.mul_pos (manyK_pos h k) (fct_pos _)
theorem manyK_mono (h : List Txn) (k : Nat) : manyK h k ≤ manyK h (k + 1) := Nat.le_mul_of_pos_right _ (fct_pos _)
theorem partO_mem (h : List Txn) (hv : histV h = true) : ∀ (k : Nat) (x : List (List Int)), x ∈ partO h k ↔ x.length = k ∧ ∀ j, j < k → (x.getD j []).Perm (instL h (j : Int))
  | 0, x => by
    simp only [partO, List.mem_singleton]
    constructor
    · rintro rfl; exact ⟨rfl, fun j hj => absurd hj (by omega)⟩
    · rintro ⟨h1, _⟩; exact List.eq_nil_of_length_eq_zero h1
  | k + 1, x => by
    rw [partO, stepO_mem]
    constructor
    · rintro ⟨b, hb, o, ho, rfl⟩
      obtain ⟨h1, h2⟩ := (partO_mem h hv k b).1 hb
      refine ⟨by simp [h1], fun j hj => ?_⟩
      rcases Nat.lt_succ_iff_lt_or_eq.1 hj with h3 | rfl
      · rw [List.getD_eq_getElem?_getD, List.getElem?_append_left (by omega), ← List.getD_eq_getElem?_getD]
        exact h2 j h3
      · rw [List.getD_eq_getElem?_getD, List.getElem?_append_right (by omega), h1, Nat.sub_self]
        exact (permsI_iff (instL_nodup hv _)).1 ho
    · rintro ⟨h1, h2⟩
      refine ⟨x.take k, (partO_mem h hv k _).2 ⟨by rw [List.length_take]; omega, fun j hj => ?_⟩, x.getD k [], (permsI_iff (instL_nodup hv _)).2 (h2 k (by omega)), ?_⟩
      · rw [List.getD_eq_getElem?_getD, List.getElem?_take_of_lt hj, ← List.getD_eq_getElem?_getD]
        exact h2 j (by omega)
      · have hk : k < x.length := by omega
        rw [List.getD_eq_getElem?_getD, List.getElem?_eq_getElem hk, Option.getD_some, ← List.take_succ_eq_append_getElem hk, ← h1, List.take_length]
theorem allO_ok {h : List Txn} : allO h ≠ [] ↔ histV h = true ∧ manyK h 3 ≤ 200 := by
  unfold allO
  constructor
  · intro hne
    split at hne
    · rename_i hc
      simpa using hc
    · exact absurd rfl hne
  · rintro ⟨h1, h2⟩
    rw [if_pos (by simp [h1, h2])]
    intro he
    have := partO_len h 3
    rw [he] at this
    have := manyK_pos h 3
    simp at *
    omega
theorem allO_eq {h : List Txn} (hne : allO h ≠ []) : allO h = partO h 3 := by
  obtain ⟨h1, h2⟩ := allO_ok.1 hne
  unfold allO
  rw [if_pos (by simp [h1, h2])]
theorem allO_len (h : List Txn) : (allO h).length ≤ 200 := by
  unfold allO
  split
  · rename_i hc
    rw [partO_len]
    simp only [Bool.and_eq_true, decide_eq_true_eq] at hc
    exact hc.2
  · simp
theorem allO_mem {h : List Txn} (hne : allO h ≠ []) {os : List (List Int)} : os ∈ allO h ↔ ordB h os = true := by
  obtain ⟨hv, _⟩ := allO_ok.1 hne
  rw [allO_eq hne, partO_mem h hv]
  constructor
  · rintro ⟨h1, h2⟩; exact ord_of hv h1 h2
  · intro ho; obtain ⟨_, h1, h2⟩ := ord_parts ho; exact ⟨h1, h2⟩
theorem firstL_ord {h : List Txn} (hv : histV h = true) : ordB h (firstL h) = true :=
  ord_of hv rfl fun k hk => by
    have : k = 0 ∨ k = 1 ∨ k = 2 := by omega
    rcases this with rfl | rfl | rfl <;> exact List.Perm.refl _
/-! ### Serial orders, levels, verdicts -/
theorem findF_some {h : List Txn} {o : List Int} (hf : findF h = some o) : histV h = true ∧ o.Perm (doneL h) ∧ runsOK h o = true := by
  unfold findF at hf
  split at hf
  · rename_i hv
    exact ⟨hv, firstGood_perm (doneI_nodup h h.length) hf⟩
  · cases hf
theorem findF_ex {h : List Txn} (hv : histV h = true) {o : List Int} (ho : o.Perm (doneL h)) (hr : runsOK h o = true) : (findF h).isSome = true := by
  unfold findF
  rw [if_pos hv]
  cases hs : serF h with
  | some _ => rfl
  | none =>
    have := firstGood_none (doneI_nodup h h.length) hs o ho
    rw [hr] at this; cases this
/-- The orders that a serial order makes. -/
def insO (h : List Txn) (o : List Int) : List (List Int) := [insK h 0 o, insK h 1 o, insK h 2 o]
theorem insO_at (h : List Txn) (o : List Int) : ∀ key : Nat, key < 3 → (insO h o).getD key [] = insK h (key : Int) o := fun key hk => by
  have : key = 0 ∨ key = 1 ∨ key = 2 := by omega
  rcases this with rfl | rfl | rfl <;> rfl
theorem find_lev {h : List Txn} {o : List Int} (hf : findF h = some o) : ordB h (insO h o) = true ∧ ∀ level, allB h (edgR h (insO h o)) level = true := by
  obtain ⟨hv, hp, hr⟩ := findF_some hf
  exact ⟨serial_ord hv hp rfl (insO_at h o), fun level => serial_all hv hp hr rfl (insO_at h o) level⟩
theorem lev_find {h : List Txn} {os : List (List Int)} (ho : ordB h os = true) (ha : allB h (edgR h os) 4 = true) : (findF h).isSome = true := by
  unfold allB at ha
  rw [Bool.and_eq_true, List.all_eq_true] at ha
  have h4 := ha.1 3 (by decide)
  have hr : readsB h = true := by simpa using ha.2
  obtain ⟨o, hp, hru⟩ := ano_serial ho hr (by
    have : (!anoB (h.length : Int) (edgR h os) 4) = true := h4
    simpa using this)
  exact findF_ex (ord_parts ho).1 hp hru
/-- The best level. -/
def bestO (h : List Txn) : Int := (allO h).foldl (fun b os => max b (levO h os)) (-1)
theorem fold_max {α : Type} (f : α → Int) : ∀ (l : List α) (b : Int), (b ≤ l.foldl (fun b x => max b (f x)) b) ∧ (∀ x ∈ l, f x ≤ l.foldl (fun b x => max b (f x)) b) ∧ ((l.foldl (fun b x => max b (f x)) b = b) ∨ ∃ x, x ∈ l ∧ l.foldl (fun b x => max b (f x)) b = f x)
  | [], b => ⟨Int.le_refl _, fun x hx => absurd hx (by simp), Or.inl rfl⟩
  | y :: l, b => by
    obtain ⟨h1, h2, h3⟩ := fold_max f l (max b (f y))
    rw [List.foldl_cons]
    refine ⟨Int.le_trans (Int.le_max_left _ _) h1, fun x hx => ?_, ?_⟩
    · rcases List.mem_cons.1 hx with rfl | hx
      · exact Int.le_trans (Int.le_max_right _ _) h1
      · exact h2 x hx
    · rcases h3 with h3 | ⟨x, hx, h3⟩
      · rw [h3]
        rcases Int.le_total b (f y) with h4 | h4
        · exact Or.inr ⟨y, List.mem_cons_self, by omega⟩
        · exact Or.inl (by omega)
      · exact Or.inr ⟨x, List.mem_cons_of_mem _ hx, h3⟩
theorem levO_bd (h : List Txn) (os : List (List Int)) : -1 ≤ levO h os ∧ levO h os ≤ 4 := by
  unfold levO
  split
  · have := topLv_bd h (edgR h os); omega
  · omega
theorem best_bd (h : List Txn) : -1 ≤ bestO h ∧ bestO h ≤ 4 := by
  obtain ⟨h1, h2, h3⟩ := fold_max (levO h) (allO h) (-1)
  refine ⟨h1, ?_⟩
  rcases h3 with h3 | ⟨x, _, h3⟩
  · unfold bestO; omega
  · have := levO_bd h x; unfold bestO; omega
theorem best_neg {h : List Txn} (hn : bestO h < 0) : bestO h = -1 := by have := best_bd h; omega
theorem best_some {h : List Txn} (hn : ¬ bestO h < 0) : allO h ≠ [] := fun he => hn (by unfold bestO; rw [he]; show (-1 : Int) < 0; decide)
theorem topLv_four {h : List Txn} {xs : List Edge} : topLv h xs = 4 ↔ allB h xs 4 = true := by
  unfold topLv
  constructor
  · intro h1
    split at h1
    · assumption
    · repeat' split at h1
      all_goals omega
  · intro h1; rw [if_pos h1]
theorem best_law {h : List Txn} (hn : ¬ bestO h < 0) : levO h (firstL h) ≤ bestO h ∧ ((findF h).isSome = decide (bestO h = 4)) := by
  have hne := best_some hn
  have hv := (allO_ok.1 hne).1
  obtain ⟨_, h2, h3⟩ := fold_max (levO h) (allO h) (-1)
  have hlev : ∀ os, ordB h os = true → levO h os = topLv h (edgR h os) := fun os ho => by unfold levO; rw [if_pos ho]
  refine ⟨h2 _ ((allO_mem hne).2 (firstL_ord hv)), ?_⟩
  rw [Bool.eq_iff_iff, decide_eq_true_eq]
  constructor
  · intro hf
    obtain ⟨o, ho⟩ := Option.isSome_iff_exists.1 hf
    obtain ⟨h4, h5⟩ := find_lev ho
    have h6 := h2 _ ((allO_mem hne).2 h4)
    rw [hlev _ h4, topLv_four.2 (h5 4)] at h6
    have := (best_bd h).2
    unfold bestO at *
    omega
  · intro h4
    rcases h3 with h5 | ⟨os, hos, h5⟩
    · unfold bestO at h4; omega
    · have ho := (allO_mem hne).1 hos
      refine lev_find ho (topLv_four.1 ?_)
      rw [← hlev os ho, ← h5]
      exact h4
end Go.Proofs.YtjiobgfaohldhaaGreatDoor
