/- All valid orders of a history; verdicts: what they say together. Plain laws. -/
import Derived.Test.YtkcobaimcfggjaaGreatDoorAno
import Derived.Test.YtkcobaimcfggjaaGreatDoorFindF
import Derived.Test.YtkcobaimcfggjaaGreatDoorGraph
import Derived.Test.YtkcobaimcfggjaaGreatDoorSerR
namespace Go.Proofs.YtkcobaimcfggjaaGreatDoor
open Go.RowKit
set_option linter.unusedVariables false
set_option linter.unusedSimpArgs false

/-- One more key's orders. -/
def stepO (out : List (List (List Int))) (l : List Int) : List (List (List Int)) := out.flatMap fun b => (permsI l.length l).map fun o => b ++ [o]
/-- The orders of the first k keys. -/
def partO (h : List Txn) : Nat → List (List (List Int))
  | 0 => [[]]
  | k + 1 => stepO (partO h k) (instL h (k : Int))
/-- How many orders the first k keys have. -/
def manyK (h : List Txn) : Nat → Nat
  | 0 => 1
  | k + 1 => manyK h k * fct (instL h (k : Int)).length
def firstL (h : List Txn) : List (List Int) := [instL h 0, instL h 1, instL h 2]
def allO (h : List Txn) : List (List (List Int)) := if histV h && decide (manyK h 3 ≤ 200) then partO h 3 else []
theorem permsI_iff {l o : List Int} (hn : l.Nodup) : o ∈ permsI l.length l ↔ o.Perm l := by
  rw [permsI_eq_E _ _ hn, perms_mem _ _ _ rfl]
theorem stepO_mem {out : List (List (List Int))} {l : List Int} {x : List (List Int)} : x ∈ stepO out l ↔ ∃ b ∈ out, ∃ o ∈ permsI l.length l, x = b ++ [o] := by
  unfold stepO
  simp only [List.mem_flatMap, List.mem_map]
  constructor
  · rintro ⟨b, hb, o, ho, rfl⟩; exact ⟨b, hb, o, ho, rfl⟩
  · rintro ⟨b, hb, o, ho, rfl⟩; exact ⟨b, hb, o, ho, rfl⟩
theorem stepO_len (out : List (List (List Int))) (l : List Int) : (stepO out l).length = out.length * fct l.length := by
  unfold stepO
  induction out with
  | nil => simp
  | cons b r ih => rw [List.flatMap_cons, List.length_append, ih, List.length_map, permsI_len _ _ rfl, List.length_cons, Nat.add_mul]; omega
theorem partO_len (h : List Txn) : ∀ k, (partO h k).length = manyK h k
  | 0 => rfl
  | k + 1 => by rw [partO, stepO_len, partO_len h k]; rfl
theorem fct_pos : ∀ n, 0 < fct n
  | 0 => by decide
  | n + 1 => Nat.mul_pos (Nat.succ_pos n) (fct_pos n)
theorem manyK_pos (h : List Txn) : ∀ k, 0 < manyK h k
  | 0 => Nat.one_pos
  | k + 1 => Nat.mul_pos (manyK_pos h k) (fct_pos _)
theorem manyK_mono (h : List Txn) (k : Nat) : manyK h k ≤ manyK h (k + 1) := Nat.le_mul_of_pos_right _ (fct_pos _)
theorem partO_mem (h : List Txn) (hv : histV h = true) : ∀ (k : Nat) (x : List (List Int)), x ∈ partO h k ↔ x.length = k ∧ ∀ j, j < k → (x.getD j []).Perm (instL h (j : Int))
  | 0, x => by
    simp only [partO, List.mem_singleton]
    constructor
    · rintro rfl; exact ⟨rfl, fun j hj => absurd hj (by omega)⟩
    · rintro ⟨h1, _⟩; exact List.eq_nil_of_length_eq_zero h1
  | k + 1, x => by
    rw [partO, stepO_mem]
    constructor
    · rintro ⟨b, hb, o, ho, rfl⟩
      obtain ⟨h1, h2⟩ := (partO_mem h hv k b).1 hb
      refine ⟨by simp [h1], fun j hj => ?_⟩
      rcases Nat.lt_succ_iff_lt_or_eq.1 hj with h3 | rfl
      · rw [List.getD_eq_getElem?_getD, List.getElem?_append_left (by omega), ← List.getD_eq_getElem?_getD]
        exact h2 j h3
      · rw [List.getD_eq_getElem?_getD, List.getElem?_append_right (by omega), h1, Nat.sub_self]
        exact (permsI_iff (instL_nodup hv _)).1 ho
    · rintro ⟨h1, h2⟩
      refine ⟨x.take k, (partO_mem h hv k _).2 ⟨by rw [List.length_take]; omega, fun j hj => ?_⟩, x.getD k [], (permsI_iff (instL_nodup hv _)).2 (h2 k (by omega)), ?_⟩
      · rw [List.getD_eq_getElem?_getD, List.getElem?_take_of_lt hj, ← List.getD_eq_getElem?_getD]
        exact h2 j (by omega)
      · have hk : k < x.length := by omega
        rw [List.getD_eq_getElem?_getD, List.getElem?_eq_getElem hk, Option.getD_some, ← List.take_succ_eq_append_getElem hk, ← h1, List.take_length]
theorem allO_ok {h : List Txn} : allO h ≠ [] ↔ histV h = true ∧ manyK h 3 ≤ 200 := by
  unfold allO
  constructor
  · intro hne
    split at hne
    · rename_i hc
      simpa using hc
    · exact absurd rfl hne
  · rintro ⟨h1, h2⟩
    rw [if_pos (by simp [h1, h2])]
    intro he
    have := partO_len h 3
    rw [he] at this
    have := manyK_pos h 3
    simp at *
    omega
theorem allO_eq {h : List Txn} (hne : allO h ≠ []) : allO h = partO h 3 := by
  obtain ⟨h1, h2⟩ := allO_ok.1 hne
  unfold allO
  rw [if_pos (by simp [h1, h2])]
theorem allO_len (h : List Txn) : (allO h).length ≤ 200 := by
  unfold allO
  split
  · rename_i hc
    rw [partO_len]
    simp only [Bool.and_eq_true, decide_eq_true_eq] at hc
    exact hc.2
  · simp
theorem allO_mem {h : List Txn} (hne : allO h ≠ []) {os : List (List Int)} : os ∈ allO h ↔ ordB h os = true := by
  obtain ⟨hv, _⟩ := allO_ok.1 hne
  rw [allO_eq hne, partO_mem h hv]
  constructor
  · rintro ⟨h1, h2⟩; exact ord_of hv h1 h2
  · intro ho; obtain ⟨_, h1, h2⟩ := ord_parts ho; exact ⟨h1, h2⟩
theorem firstL_ord {h : List Txn} (hv : histV h = true) : ordB h (firstL h) = true :=
  ord_of hv rfl fun k hk => by
    have : k = 0 ∨ k = 1 ∨ k = 2 := by omega
    rcases this with rfl | rfl | rfl <;> exact List.Perm.refl _
/-! ### Serial orders, levels, verdicts -/
theorem findF_some {h : List Txn} {o : List Int} (hf : findF h = some o) : histV h = true ∧ o.Perm (doneL h) ∧ runsOK h o = true := by
  unfold findF at hf
  split at hf
  · rename_i hv
    exact ⟨hv, firstGood_perm (doneI_nodup h h.length) hf⟩
  · cases hf
theorem findF_ex {h : List Txn} (hv : histV h = true) {o : List Int} (ho : o.Perm (doneL h)) (hr : runsOK h o = true) : (findF h).isSome = true := by
  unfold findF
  rw [if_pos hv]
  cases hs : serF h with
  | some _ => rfl
  | none =>
    have := firstGood_none (doneI_nodup h h.length) hs o ho
    rw [hr] at this; cases this
theorem findF_serB {h : List Txn} {o : List Int} (hf : findF h = some o) : serB h o = true := by
  obtain ⟨hv, hp, hr⟩ := findF_some hf
  unfold serB
  rw [hv, hr, (same_iff (show (doneL h).Nodup from doneI_nodup h h.length)).2 hp]; rfl
theorem serB_findF {h : List Txn} {o : List Int} (hs : serB h o = true) : (findF h).isSome = true := by
  unfold serB at hs
  simp only [Bool.and_eq_true] at hs
  exact findF_ex hs.1 ((same_iff (doneI_nodup h h.length)).1 hs.2.1) hs.2.2
/-- The orders that a serial order makes. -/
def insO (h : List Txn) (o : List Int) : List (List Int) := [insK h 0 o, insK h 1 o, insK h 2 o]
theorem insO_at (h : List Txn) (o : List Int) : ∀ key : Nat, key < 3 → (insO h o).getD key [] = insK h (key : Int) o := fun key hk => by
  have : key = 0 ∨ key = 1 ∨ key = 2 := by omega
  rcases this with rfl | rfl | rfl <;> rfl
theorem find_lev {h : List Txn} {o : List Int} (hf : findF h = some o) : ordB h (insO h o) = true ∧ ∀ level, allB h (edgR h (insO h o)) level = true := by
  obtain ⟨hv, hp, hr⟩ := findF_some hf
  exact ⟨serial_ord hv hp rfl (insO_at h o), fun level => serial_all hv hp hr rfl (insO_at h o) level⟩
theorem find_ano {h : List Txn} {o : List Int} (hf : findF h = some o) {os : List (List Int)} (ho : os = insO h o) (kind : Int) : anoB (h.length : Int) (edgR h os) kind = false := by
  subst ho
  obtain ⟨hv, hp, hr⟩ := findF_some hf
  exact serial_ano hv hp hr (serial_ord hv hp rfl (insO_at h o)) (insO_at h o) kind
theorem lev_find {h : List Txn} {os : List (List Int)} (ho : ordB h os = true) (ha : allB h (edgR h os) 4 = true) : (findF h).isSome = true := by
  unfold allB at ha
  rw [Bool.and_eq_true, List.all_eq_true] at ha
  have h4 := ha.1 3 (by decide)
  have hr : readsB h = true := by simpa using ha.2
  obtain ⟨o, hp, hru⟩ := ano_serial ho hr (by
    have : (!anoB (h.length : Int) (edgR h os) 4) = true := h4
    simpa using this)
  exact findF_ex (ord_parts ho).1 hp hru
/-- The best level. -/
def bestO (h : List Txn) : Int := (allO h).foldl (fun b os => max b (levO h os)) (-1)
theorem fold_max {α : Type} (f : α → Int) : ∀ (l : List α) (b : Int), (b ≤ l.foldl (fun b x => max b (f x)) b) ∧ (∀ x ∈ l, f x ≤ l.foldl (fun b x => max b (f x)) b) ∧ ((l.foldl (fun b x => max b (f x)) b = b) ∨ ∃ x, x ∈ l ∧ l.foldl (fun b x => max b (f x)) b = f x)
  | [], b => ⟨Int.le_refl _, fun x hx => absurd hx (by simp), Or.inl rfl⟩
  | y :: l, b => by
    obtain ⟨h1, h2, h3⟩ := fold_max f l (max b (f y))
    rw [List.foldl_cons]
    refine ⟨Int.le_trans (Int.le_max_left _ _) h1, fun x hx => ?_, ?_⟩
    · rcases List.mem_cons.1 hx with rfl | hx
      · exact Int.le_trans (Int.le_max_right _ _) h1
      · exact h2 x hx
    · rcases h3 with h3 | ⟨x, hx, h3⟩
      · rw [h3]
        rcases Int.le_total b (f y) with h4 | h4
        · exact Or.inr ⟨y, List.mem_cons_self, by omega⟩
        · exact Or.inl (by omega)
      · exact Or.inr ⟨x, List.mem_cons_of_mem _ hx, h3⟩
theorem levO_bd (h : List Txn) (os : List (List Int)) : -1 ≤ levO h os ∧ levO h os ≤ 4 := by
  unfold levO
  split
  · have := topLv_bd h (edgR h os); omega
  · omega
theorem best_bd (h : List Txn) : -1 ≤ bestO h ∧ bestO h ≤ 4 := by
  obtain ⟨h1, h2, h3⟩ := fold_max (levO h) (allO h) (-1)
  refine ⟨h1, ?_⟩
  rcases h3 with h3 | ⟨x, _, h3⟩
  · unfold bestO; omega
  · have := levO_bd h x; unfold bestO; omega
theorem best_neg {h : List Txn} (hn : bestO h < 0) : bestO h = -1 := by have := best_bd h; omega
theorem best_some {h : List Txn} (hn : ¬ bestO h < 0) : allO h ≠ [] := fun he => hn (by unfold bestO; rw [he]; show (-1 : Int) < 0; decide)
theorem topLv_four {h : List Txn} {xs : List Edge} : topLv h xs = 4 ↔ allB h xs 4 = true := by
  unfold topLv
  constructor
  · intro h1
    split at h1
    · assumption
    · repeat' split at h1
      all_goals omega
  · intro h1; rw [if_pos h1]
theorem best_law {h : List Txn} (hn : ¬ bestO h < 0) : levO h (firstL h) ≤ bestO h ∧ ((findF h).isSome = decide (bestO h = 4)) := by
  have hne := best_some hn
  have hv := (allO_ok.1 hne).1
  obtain ⟨_, h2, h3⟩ := fold_max (levO h) (allO h) (-1)
  have hlev : ∀ os, ordB h os = true → levO h os = topLv h (edgR h os) := fun os ho => by unfold levO; rw [if_pos ho]
  refine ⟨h2 _ ((allO_mem hne).2 (firstL_ord hv)), ?_⟩
  rw [Bool.eq_iff_iff, decide_eq_true_eq]
  constructor
  · intro hf
    obtain ⟨o, ho⟩ := Option.isSome_iff_exists.1 hf
    obtain ⟨h4, h5⟩ := find_lev ho
    have h6 := h2 _ ((allO_mem hne).2 h4)
    rw [hlev _ h4, topLv_four.2 (h5 4)] at h6
    have := (best_bd h).2
    unfold bestO at *
    omega
  · intro h4
    rcases h3 with h5 | ⟨os, hos, h5⟩
    · unfold bestO at h4; omega
    · have ho := (allO_mem hne).1 hos
      refine lev_find ho (topLv_four.1 ?_)
      rw [← hlev os ho, ← h5]
      exact h4
/-- A verdict. -/
structure Verd where
  Good : Bool
  Order : List Int
  Cycles : List (List Int)
def cycsB (h : List Txn) (all : List (List (List Int))) (cs : List (List Int)) (n : Nat) : Bool := (List.range n).all fun k => cycV (h.length : Int) (edgR h (all.getD k [])) (cs.getD k [])
def verdB (h : List Txn) (v : Verd) : Bool := !(allO h).isEmpty && (if v.Good then serB h v.Order && v.Cycles.isEmpty else (v.Order.isEmpty && (if readsB h then v.Cycles.length == (allO h).length && cycsB h (allO h) v.Cycles (allO h).length else v.Cycles.isEmpty)))
def cycsO (h : List Txn) : List (List Int) := (allO h).map fun os => cycO (h.length : Int) (edgR h os)
def verdO (h : List Txn) : Option Verd := if (allO h).isEmpty then none else match findF h with
  | some o => some ⟨true, o, []⟩
  | none => some ⟨false, [], if readsB h then cycsO h else []⟩
theorem cyc_ano {h : List Txn} {os : List (List Int)} (ho : ordB h os = true) {c : List Int} (hc : cycO (h.length : Int) (edgR h os) ≠ []) : anoB (h.length : Int) (edgR h os) 4 = true := by
  have hE := edg_valid (ord_parts ho).1 os
  have hsub : subE [1, 2, 3] (edgR h os) = edgR h os := by
    unfold subE
    rw [List.filter_eq_self]
    intro e he
    obtain ⟨_, _, _, h4, h5⟩ := edge_in ho ((edg_iff ho).1 he)
    rw [List.any_eq_true]
    exact ⟨e.Kind, by simp; omega, beq_self_eq_true _⟩
  rw [ano_three.2.2.2, hE, Bool.true_and, round_cyc hE, hsub, decide_eq_true_eq, List.length_pos_iff]
  exact hc
/-- A cycle leads back along a relation that all edges lead along. -/
theorem cyc_rel {R : Int → Int → Prop} (htr : ∀ a b c, R a b → R b c → R a c) (hir : ∀ a, ¬ R a a) {many : Int} {xs : List Edge} {ns : List Int} (hc : cycV many xs ns = true) (he : ∀ e ∈ xs, R e.From e.To) : False := by
  unfold cycV at hc
  simp only [Bool.and_eq_true, decide_eq_true_eq] at hc
  obtain ⟨⟨_, h2⟩, hs⟩ := hc
  have hst : ∀ k, k < ns.length → R (at_ ns k) (at_ ns ((k + 1) % ns.length)) := fun k hk => by
    unfold cycS at hs
    rw [List.all_eq_true] at hs
    have := hs k (List.mem_range.2 hk)
    unfold stepS at this
    rw [Bool.and_eq_true] at this
    have h1 := this.1
    unfold hasE at h1
    obtain ⟨e, he', hh⟩ := List.any_eq_true.1 h1
    simp only [Bool.and_eq_true, beq_iff_eq] at hh
    rw [← hh.1, ← hh.2]
    exact he e he'
  have hup : ∀ k, k + 1 < ns.length → R (at_ ns 0) (at_ ns (k + 1)) := by
    intro k
    induction k with
    | zero =>
      intro hk
      have := hst 0 (by omega)
      rwa [Nat.mod_eq_of_lt (by omega)] at this
    | succ k ih =>
      intro hk
      have := hst (k + 1) (by omega)
      rw [Nat.mod_eq_of_lt hk] at this
      exact htr _ _ _ (ih (by omega)) this
  have hl := hst (ns.length - 1) (by omega)
  rw [show ns.length - 1 + 1 = ns.length by omega, Nat.mod_self] at hl
  have hu := hup (ns.length - 2) (by omega)
  rw [show ns.length - 2 + 1 = ns.length - 1 by omega] at hu
  exact hir _ (htr _ _ _ hu hl)
theorem find_cyc {h : List Txn} {o : List Int} (hf : findF h = some o) {c : List Int} (hc : cycV (h.length : Int) (edgR h (insO h o)) c = true) : False := by
  obtain ⟨hv, hp, hr⟩ := findF_some hf
  have hnd := perm_nodup hp
  have ho := (find_lev hf).1
  exact cyc_rel (R := Bef o) (fun a b c h1 h2 => h1.trans hnd h2) (fun a h1 => h1.asymm hnd h1) hc fun e he => serial_edges hv hp hr (insO_at h o) ((edg_iff ho).1 he)
theorem find_reads {h : List Txn} {o : List Int} (hf : findF h = some o) : readsB h = true := by
  obtain ⟨hv, hp, hr⟩ := findF_some hf
  exact (reads_iff hv).2 (reads_serial hv hp hr)
/-- A right verdict is good exactly if there is a serial order. -/
theorem verd_law {h : List Txn} {v : Verd} (hr : verdB h v = true) : v.Good = (findF h).isSome := by
  unfold verdB at hr
  rw [Bool.and_eq_true] at hr
  obtain ⟨hne, hr⟩ := hr
  have hne' : allO h ≠ [] := by
    intro e; rw [e] at hne; cases hne
  cases hg : v.Good with
  | true =>
    rw [hg] at hr
    simp only [if_true, Bool.and_eq_true] at hr
    exact (serB_findF hr.1).symm
  | false =>
    rw [hg] at hr
    simp only [Bool.false_eq_true, if_false, Bool.and_eq_true] at hr
    cases hf : findF h with
    | none => rfl
    | some o =>
      exfalso
      have h1 := hr.2
      rw [if_pos (find_reads hf), Bool.and_eq_true] at h1
      have h2 := (allO_mem hne').2 (find_lev hf).1
      obtain ⟨k, hk, he⟩ := List.getElem_of_mem h2
      unfold cycsB at h1
      have h3 := List.all_eq_true.1 h1.2 k (List.mem_range.2 hk)
      rw [List.getD_eq_getElem?_getD (l := allO h), List.getElem?_eq_getElem hk, Option.getD_some, he] at h3
      exact find_cyc hf h3
theorem cycsO_at {h : List Txn} {k : Nat} (hk : k < (allO h).length) : (cycsO h).getD k [] = cycO (h.length : Int) (edgR h ((allO h).getD k [])) := by
  unfold cycsO
  simp [List.getD_eq_getElem?_getD, hk]
/-- The verdict is right. -/
theorem verdO_law {h : List Txn} {v : Verd} (hv : verdO h = some v) : verdB h v = true := by
  unfold verdO at hv
  split at hv
  · cases hv
  · rename_i hne
    have hne' : allO h ≠ [] := fun e => hne (by rw [e]; rfl)
    unfold verdB
    rw [Bool.and_eq_true]
    refine ⟨by simpa using hne, ?_⟩
    cases hf : findF h with
    | some o =>
      rw [hf] at hv
      simp only [Option.some.injEq] at hv
      subst hv
      simp only [if_true, findF_serB hf]
      rfl
    | none =>
      rw [hf] at hv
      simp only [Option.some.injEq] at hv
      subst hv
      simp only [Bool.false_eq_true, if_false, List.isEmpty_nil, Bool.true_and]
      cases hr : readsB h with
      | false => rfl
      | true =>
        simp only [if_true, Bool.and_eq_true, beq_iff_eq]
        refine ⟨by unfold cycsO; simp, ?_⟩
        unfold cycsB
        rw [List.all_eq_true]
        intro k hk
        have hk' := List.mem_range.1 hk
        rw [cycsO_at hk']
        have ho : ordB h ((allO h).getD k []) = true := by
          refine (allO_mem hne').1 ?_
          rw [List.getD_eq_getElem?_getD, List.getElem?_eq_getElem hk', Option.getD_some]
          exact List.getElem_mem hk'
        generalize (allO h).getD k [] = os at ho
        have hE := edg_valid (ord_parts ho).1 os
        rcases cycO_good (h.length : Int) (edgR h os) hE with ⟨h1, h2⟩ | ⟨_, _, h1, _⟩
        · exfalso
          rw [Int.toNat_natCast] at h2
          obtain ⟨s, hs⟩ := Option.isSome_iff_exists.1 h2
          have h3 := top_good ho hr hs
          have h4 := findF_ex (ord_parts ho).1 h3.1 h3.2
          rw [hf] at h4; cases h4
        · exact h1
theorem verdO_good {h : List Txn} {v : Verd} (hv : verdO h = some v) : v.Good = (findF h).isSome := verd_law (verdO_law hv)
/-- Where no serial order is found and the reads are right, every order has a cycle. -/
theorem none_ano {h : List Txn} {os : List (List Int)} (ho : ordB h os = true) (hr : readsB h = true) (hf : findF h = none) : anoB (h.length : Int) (edgR h os) 4 = true := by
  cases ha : anoB (h.length : Int) (edgR h os) 4 with
  | true => rfl
  | false =>
    obtain ⟨o, h1, h2⟩ := ano_serial ho hr ha
    have h3 := findF_ex (ord_parts ho).1 h1 h2
    rw [hf] at h3; cases h3
end Go.Proofs.YtkcobaimcfggjaaGreatDoor
