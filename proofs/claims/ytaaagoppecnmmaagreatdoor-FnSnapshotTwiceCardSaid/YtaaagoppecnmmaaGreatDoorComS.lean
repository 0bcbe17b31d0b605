/- The orders of values of a schedule: the two ways to tell them are one; the reference's CommitOrders. -/
import Derived.Test.YtaaagoppecnmmaaGreatDoorSnapR
import Derived.Test.YtaaagoppecnmmaaGreatDoorOwnList
import Derived.Test.YtaaagoppecnmmaaGreatDoorSnapS
import Derived.BigQuiet
namespace Go.Proofs.YtaaagoppecnmmaaGreatDoor
open Go.RowKit Go.Maps
set_option linter.unusedVariables false
set_option linter.unusedSimpArgs false

/-- The numbers that are committed by the first k of a schedule. -/
def cOrd (ns : List Int) : Nat → List Int
  | 0 => []
  | k + 1 => cOrd ns k ++ (if (ns.take k).count (ns.getD k 0) == 1 then [ns.getD k 0] else [])
/-- The values that an order installs for a key. -/
def instK (h : List Txn) (key : Int) (ord : List Int) : List Int := ord.flatMap fun n => (lastW (opsOf h n) key).toList.map Op.Value
def instR (h : List Txn) (ord : List Int) : List (List Int) := [instK h 0 ord, instK h 1 ord, instK h 2 ord]
def cVal (h : List Txn) (ns : List Int) (key : Int) : Nat → List Int
  | 0 => []
  | k + 1 => cVal h ns key k ++ (if decide (0 ≤ hasW (opsOf h (ns.getD k 0)) key) && (ns.take k).count (ns.getD k 0) == 1 then [hasW (opsOf h (ns.getD k 0)) key] else [])
def comR (h : List Txn) (ns : List Int) : List (List Int) := if srB h ns then instR h (cOrd ns ns.length) else []
theorem opsOf_ok {h : List Txn} (hv : histV h = true) (n : Int) : ∀ o ∈ opsOf h n, opOk o = true := by
  intro o ho
  unfold opsOf at ho
  cases hx : h[n.toNat]? with
  | none => rw [hx] at ho; simp at ho
  | some t =>
    rw [hx] at ho
    exact (txnOk_parts ((histV_parts hv).2 t (List.mem_of_getElem? hx))).1 o (by simpa using ho)
theorem instK_append (h : List Txn) (key : Int) (a b : List Int) : instK h key (a ++ b) = instK h key a ++ instK h key b := by
  unfold instK; rw [List.flatMap_append]
theorem instK_one (h : List Txn) (key n : Int) : instK h key [n] = (lastW (opsOf h n) key).toList.map Op.Value := by
  unfold instK; simp
theorem cVal_inst {h : List Txn} (hv : histV h = true) (ns : List Int) (key : Int) : ∀ k, instK h key (cOrd ns k) = cVal h ns key k
  | 0 => rfl
  | k + 1 => by
    rw [cOrd, cVal, instK_append, cVal_inst hv ns key k]
    congr 1
    cases hc : ((ns.take k).count (ns.getD k 0) == 1) with
    | false => simp [instK]
    | true =>
      rw [if_pos rfl, instK_one, Bool.and_true]
      unfold hasW
      cases hw : lastW (opsOf h (ns.getD k 0)) key with
      | none => simp
      | some o =>
        have := (opOk_parts (opsOf_ok hv _ o (lastW_some hw).1)).2.2.1
        simp [this]
theorem instK_len (h : List Txn) (key : Int) : ∀ ord : List Int, (instK h key ord).length ≤ ord.length
  | [] => by simp [instK]
  | n :: l => by
    have h1 : instK h key (n :: l) = (lastW (opsOf h n) key).toList.map Op.Value ++ instK h key l := by unfold instK; rw [List.flatMap_cons]
    rw [h1, List.length_append, List.length_map, List.length_cons]
    have h2 := instK_len h key l
    have h3 : (lastW (opsOf h n) key).toList.length ≤ 1 := by cases lastW (opsOf h n) key <;> simp
    omega
theorem cOrd_len (ns : List Int) : ∀ k, (cOrd ns k).length ≤ k
  | 0 => by simp [cOrd]
  | k + 1 => by
    have := cOrd_len ns k
    rw [cOrd, List.length_append]
    split
    · simp; omega
    · simp; omega
theorem cOrd_mem {ns : List Int} : ∀ k, k ≤ ns.length → ∀ n ∈ cOrd ns k, n ∈ ns
  | 0, _ => fun n hn => by simp [cOrd] at hn
  | k + 1, hk => fun n hn => by
    rw [cOrd, List.mem_append] at hn
    rcases hn with hn | hn
    · exact cOrd_mem k (by omega) n hn
    · split at hn
      · simp only [List.mem_singleton] at hn
        rw [List.getD_eq_getElem?_getD, List.getElem?_eq_getElem (by omega)] at hn
        have hn2 : n = ns[k] := hn
        rw [hn2]
        exact List.getElem_mem _
      · cases hn
theorem srB_parts {h : List Txn} {ns : List Int} (hs : srB h ns = true) : histV h = true ∧ ns.length ≤ 12 ∧ (∀ n, ns.count n ≤ 2) ∧ ∀ n ∈ ns, dneOf h n = true := by
  unfold srB at hs
  simp only [Bool.and_eq_true, decide_eq_true_eq] at hs
  obtain ⟨⟨⟨h1, h2⟩, h3⟩, h4⟩ := hs
  obtain ⟨S, hS⟩ := Option.isSome_iff_exists.1 h4
  have h5 := snapRun_seen hS
  have h6 := snapRun_count hS (fun n => by simp [SS0])
  have h7 : (doneL h).length ≤ 6 := Nat.le_trans (doneI_len h _) (histV_parts h1).1
  refine ⟨h1, by omega, fun n => ?_, h5.2⟩
  have := h6 n
  rw [h5.1] at this
  simpa [SS0] using this
theorem con_take {ns : List Int} (hc : ∀ n, ns.count n ≤ 2) (k : Nat) (hk : k < ns.length) : (ns.take k).contains ns[k] = ((ns.take k).count ns[k] == 1) := by
  have h1 := take_count_succ ns ns[k] k hk
  have h2 : ns.getD k 0 = ns[k] := by rw [List.getD_eq_getElem?_getD, List.getElem?_eq_getElem hk]; rfl
  rw [if_pos h2] at h1
  have h3 : (ns.take (k + 1)).count ns[k] ≤ ns.count ns[k] := (List.take_sublist _ _).count_le _
  have h4 := hc ns[k]
  by_cases hm : ns[k] ∈ ns.take k
  · have := List.count_pos_iff.2 hm
    rw [List.contains_iff_mem.2 hm]
    symm; rw [beq_iff_eq]; omega
  · have h5 := List.count_eq_zero.2 hm
    rw [h5]
    simpa using hm
theorem any_take {ns : List Int} (hc : ∀ n, ns.count n ≤ 2) (k : Nat) (hk : k < ns.length) : (ns.take k).any (fun y => ns[k] == y) = ((ns.take k).count ns[k] == 1) := by
  rw [← con_take hc k hk, List.contains_eq_any_beq]
theorem cOrd_succ (ns : List Int) (k : Nat) (hk : k < ns.length) : cOrd ns (k + 1) = cOrd ns k ++ (if (ns.take k).count ns[k] == 1 then [ns[k]] else []) := by
  have h2 : ns.getD k 0 = ns[k] := by rw [List.getD_eq_getElem?_getD, List.getElem?_eq_getElem hk]; rfl
  rw [cOrd, h2]
theorem cVal_succ (h : List Txn) (ns : List Int) (key : Int) (k : Nat) (hk : k < ns.length) : cVal h ns key (k + 1) = cVal h ns key k ++ (if decide (0 ≤ hasW (opsOf h ns[k]) key) && (ns.take k).count ns[k] == 1 then [hasW (opsOf h ns[k]) key] else []) := by
  have h2 : ns.getD k 0 = ns[k] := by rw [List.getD_eq_getElem?_getD, List.getElem?_eq_getElem hk]; rfl
  rw [cVal, h2]
theorem cVal_len (h : List Txn) (ns : List Int) (key : Int) : ∀ k, (cVal h ns key k).length ≤ k
  | 0 => by simp [cVal]
  | k + 1 => by
    have := cVal_len h ns key k
    rw [cVal, List.length_append]
    split
    · simp; omega
    · simp; omega
theorem comR_len (h : List Txn) (ns : List Int) : (comR h ns).length ≤ 1048576 ∧ ∀ x ∈ comR h ns, x.length ≤ 1048576 := by
  unfold comR
  split
  · rename_i hs
    have h12 := (srB_parts hs).2.1
    have hl := cOrd_len ns ns.length
    refine ⟨by simp [instR], fun x hx => ?_⟩
    simp only [instR, List.mem_cons, List.not_mem_nil, or_false] at hx
    rcases hx with rfl | rfl | rfl
    · have := instK_len h 0 (cOrd ns ns.length); omega
    · have := instK_len h 1 (cOrd ns ns.length); omega
    · have := instK_len h 2 (cOrd ns ns.length); omega
  · exact ⟨by simp, fun x hx => by cases hx⟩
/-- The lists of the first keys. -/
def comK (h : List Txn) (ord : List Int) : Nat → List (List Int)
  | 0 => []
  | k + 1 => comK h ord k ++ [instK h (k : Int) ord]
theorem comK_len (h : List Txn) (ord : List Int) : ∀ k, (comK h ord k).length = k
  | 0 => rfl
  | k + 1 => by rw [comK, List.length_append, comK_len h ord k]; rfl
theorem dne_in_ {h : List Txn} {n : Int} (hd : dneOf h n = true) : 0 ≤ n ∧ n < h.length := by
  unfold dneOf at hd
  simp only [Bool.and_eq_true, decide_eq_true_eq] at hd
  exact hd.1
theorem Own.ofBlock {e : TypeId} {w : World} {S : Nat → Prop} {xs : List Int} {v : Value} (h : Own tInt e w S xs v) : Own tInt e w (fun b => v.ownBlock = some b) xs v := by
  rcases h with ⟨rfl, rfl⟩ | ⟨g, cap, cur, S', rfl, hg, hB, h1, h2, h3, h4, h5⟩
  · exact .inl ⟨rfl, rfl⟩
  · exact .inr ⟨g, cap, cur, fun _ => False, rfl, rfl, hB, h1, h2, h3, fun b h => h.elim, fun k hk => h5 k hk⟩
end Go.Proofs.YtaaagoppecnmmaaGreatDoor
