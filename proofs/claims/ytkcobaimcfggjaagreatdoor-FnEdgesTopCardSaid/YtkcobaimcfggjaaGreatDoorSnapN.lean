/- Plain laws: schedules of transactions that see what was committed when they began. Plain laws: right schedules, and the first one that is found. Plain laws: what runs of operations leave, and what was read. -/
import Derived.Test.YtkcobaimcfggjaaGreatDoorHMath
namespace Go.Proofs.YtkcobaimcfggjaaGreatDoor
open Go.RowKit
set_option linter.unusedVariables false
set_option linter.unusedSimpArgs false

structure SS where
  val : St
  ver : St
  beg : Int → St
  seen : List Int
def SS0 : SS := ⟨St0, St0, fun _ => St0, []⟩
def opsOf (h : List Txn) (n : Int) : List Op := (h[n.toNat]?.map Txn.Ops).getD []
def dneOf (h : List Txn) (n : Int) : Bool := decide (0 ≤ n) && decide (n < (h.length : Int)) && (h[n.toNat]?.map Txn.Done).getD false
def readsFit (v : St) (l : List Op) : Bool := l.all fun o => v o.Key == o.Value
/-- A commit: each last write is put where its key has the version it had at the beginning. -/
def comm (b : St) : List Op → St × St → Option (St × St)
  | [], s => some s
  | o :: r, s => if s.2 o.Key = b o.Key then comm b r (s.1.put o.Key o.Value, s.2.put o.Key (s.2 o.Key + 1)) else none
def snapNext (h : List Txn) (s : SS) (n : Int) : Option SS :=
  if dneOf h n && decide (s.seen.count n < 2) then
    (if s.seen.count n = 0 then (if readsFit s.val (firstR (opsOf h n)) then some ⟨s.val, s.ver, fun m => if m = n then s.ver else s.beg m, s.seen ++ [n]⟩ else none)
    else (comm (s.beg n) (lastWs (opsOf h n)) (s.val, s.ver)).map fun q => ⟨q.1, q.2, s.beg, s.seen ++ [n]⟩)
  else none
def snapRun (h : List Txn) : SS → List Int → Option SS
  | s, [] => some s
  | s, n :: r => (snapNext h s n).bind fun s' => snapRun h s' r
theorem snapRun_append (h : List Txn) (b : List Int) : ∀ (a : List Int) (s : SS), snapRun h s (a ++ b) = (snapRun h s a).bind fun s' => snapRun h s' b
  | [], s => rfl
  | n :: r, s => by
    simp only [List.cons_append, snapRun]
    cases snapNext h s n with
    | none => rfl
    | some s' => exact snapRun_append h b r s'
theorem snapRun_snoc (h : List Txn) (a : List Int) (n : Int) (s : SS) : snapRun h s (a ++ [n]) = (snapRun h s a).bind fun s' => snapNext h s' n := by
  rw [snapRun_append]
  cases snapRun h s a with
  | none => rfl
  | some s' => simp only [Option.bind_some, snapRun]; cases snapNext h s' n <;> rfl
theorem snapNext_seen {h : List Txn} {s s' : SS} {n : Int} (hn : snapNext h s n = some s') : s'.seen = s.seen ++ [n] ∧ dneOf h n = true ∧ s.seen.count n < 2 := by
  unfold snapNext at hn
  split at hn
  · rename_i h1
    rw [Bool.and_eq_true, decide_eq_true_eq] at h1
    refine ⟨?_, h1⟩
    split at hn
    · split at hn
      · cases hn; rfl
      · cases hn
    · cases hc : comm (s.beg n) (lastWs (opsOf h n)) (s.val, s.ver) with
      | none => rw [hc] at hn; cases hn
      | some q => rw [hc] at hn; cases hn; rfl
  · cases hn
theorem snapRun_seen {h : List Txn} : ∀ {p : List Int} {s s' : SS}, snapRun h s p = some s' → s'.seen = s.seen ++ p ∧ (∀ n ∈ p, dneOf h n = true)
  | [], s, s', hr => by cases hr; simp
  | n :: r, s, s', hr => by
    rw [snapRun] at hr
    cases hn : snapNext h s n with
    | none => rw [hn] at hr; cases hr
    | some s1 =>
      rw [hn] at hr
      obtain ⟨h1, h2, h3⟩ := snapNext_seen hn
      obtain ⟨h4, h5⟩ := snapRun_seen (s := s1) hr
      refine ⟨by rw [h4, h1]; simp, fun m hm => ?_⟩
      rcases List.mem_cons.1 hm with rfl | hm
      · exact h2
      · exact h5 m hm
theorem snapRun_count {h : List Txn} : ∀ {p : List Int} {s s' : SS}, snapRun h s p = some s' → (∀ n, s.seen.count n ≤ 2) → ∀ n, s'.seen.count n ≤ 2
  | [], s, s', hr, h0 => by cases hr; exact h0
  | n :: r, s, s', hr, h0 => by
    rw [snapRun] at hr
    cases hn : snapNext h s n with
    | none => rw [hn] at hr; cases hr
    | some s1 =>
      rw [hn] at hr
      obtain ⟨h1, h2, h3⟩ := snapNext_seen hn
      refine snapRun_count (s := s1) hr fun m => ?_
      rw [h1, List.count_append]
      have := h0 m
      by_cases hmn : m = n
      · subst hmn; simp; omega
      · have : List.count m [n] = 0 := List.count_eq_zero.2 (by simpa using hmn)
        omega
/-! ### The reference's way -/
def isC (h : List Txn) (p : List Int) (key : Int) (k : Nat) : Bool := (p.take k).count (p.getD k 0) == 1 && (lastW (opsOf h (p.getD k 0)) key).isSome
def verN (h : List Txn) (p : List Int) (key : Int) : Nat → Nat
  | 0 => 0
  | k + 1 => verN h p key k + (if isC h p key k then 1 else 0)
theorem verN_le (h : List Txn) (p : List Int) (key : Int) (a : Nat) : ∀ b, a ≤ b → verN h p key a ≤ verN h p key b
  | 0, hb => by have e : a = 0 := (by omega); rw [e]; exact Nat.le_refl _
  | b + 1, hb => by
    by_cases hab : a = b + 1
    · subst hab; exact Nat.le_refl _
    · have := verN_le h p key a b (by omega)
      rw [verN]; omega
theorem verN_ne (h : List Txn) (p : List Int) (key : Int) (a : Nat) : ∀ b, a ≤ b → (verN h p key b ≠ verN h p key a ↔ ∃ k, a ≤ k ∧ k < b ∧ isC h p key k = true)
  | 0, hb => by
    obtain rfl : a = 0 := by omega
    constructor
    · intro h; exact absurd rfl h
    · rintro ⟨k, _, hk, _⟩; omega
  | b + 1, hb => by
    by_cases hab : a = b + 1
    · subst hab
      constructor
      · intro h; exact absurd rfl h
      · rintro ⟨k, h1, h2, _⟩; omega
    · have ih := verN_ne h p key a b (by omega)
      have hle := verN_le h p key a b (by omega)
      rw [verN]
      cases hc : isC h p key b with
      | true =>
        constructor
        · intro _; exact ⟨b, by omega, by omega, hc⟩
        · intro _; simp only [if_true]; omega
      | false =>
        simp only [Bool.false_eq_true, if_false, Nat.add_zero]
        rw [ih]
        constructor
        · rintro ⟨k, h1, h2, h3⟩; exact ⟨k, h1, by omega, h3⟩
        · rintro ⟨k, h1, h2, h3⟩
          refine ⟨k, h1, ?_, h3⟩
          by_cases hkb : k = b
          · subst hkb; rw [hc] at h3; cases h3
          · omega
theorem isC_app (h : List Txn) (p q : List Int) (key : Int) (k : Nat) (hk : k < p.length) : isC h (p ++ q) key k = isC h p key k := by
  unfold isC
  rw [List.take_append_of_le_length (Nat.le_of_lt hk), List.getD_eq_getElem?_getD, List.getD_eq_getElem?_getD, List.getElem?_append_left hk]
theorem verN_app (h : List Txn) (p q : List Int) (key : Int) : ∀ k, k ≤ p.length → verN h (p ++ q) key k = verN h p key k
  | 0, _ => rfl
  | k + 1, hk => by rw [verN, verN, verN_app h p q key k (by omega), isC_app h p q key k (by omega)]
def lastI (p : List Int) (n : Int) : Nat → Int
  | 0 => -1
  | k + 1 => if p.getD k 0 = n then (k : Int) else lastI p n k
def confB (h : List Txn) (p : List Int) (key b : Int) (k : Nat) : Bool := (List.range k).any fun j => decide (b < (j : Int)) && isC h p key j
def keyStep (h : List Txn) (p : List Int) (n : Int) (k : Nat) (key : Int) (s : St) : Option St :=
  match lastW (opsOf h n) key with
  | none => some s
  | some o => if confB h p key (lastI p n k) k then none else some (s.put key o.Value)
def specStep (h : List Txn) (p : List Int) (k : Nat) (s : St) : Option St :=
  if lastI p (p.getD k 0) k < 0 then (if readsFit s (firstR (opsOf h (p.getD k 0))) then some s else none)
  else ((keyStep h p (p.getD k 0) k 0 s).bind (keyStep h p (p.getD k 0) k 1)).bind (keyStep h p (p.getD k 0) k 2)
def specRun (h : List Txn) (p : List Int) : Nat → Option St
  | 0 => some St0
  | k + 1 => (specRun h p k).bind (specStep h p k)
def l13R (h : List Txn) (p : List Int) : Bool := (specRun h p p.length).isSome
theorem lastI_lt (p : List Int) (n : Int) : ∀ k, lastI p n k < k
  | 0 => by simp [lastI]
  | k + 1 => by
    have := lastI_lt p n k
    rw [lastI]; split <;> omega
theorem lastI_ge (p : List Int) (n : Int) : ∀ k, -1 ≤ lastI p n k
  | 0 => by simp [lastI]
  | k + 1 => by
    have := lastI_ge p n k
    rw [lastI]; split <;> omega
theorem take_count_succ (p : List Int) (n : Int) (k : Nat) (hk : k < p.length) : (p.take (k + 1)).count n = (p.take k).count n + (if p.getD k 0 = n then 1 else 0) := by
  rw [List.take_succ_eq_append_getElem hk, List.count_append, List.getD_eq_getElem?_getD, List.getElem?_eq_getElem hk]
  congr 1
  simp only [Option.getD_some]
  split
  · rename_i h; rw [h]; simp
  · rename_i h; exact List.count_eq_zero.2 (by simp; exact fun e => h e.symm)
theorem lastI_neg (p : List Int) (n : Int) : ∀ k, k ≤ p.length → (lastI p n k < 0 ↔ (p.take k).count n = 0)
  | 0, _ => by simp [lastI]
  | k + 1, hk => by
    have := lastI_neg p n k (by omega)
    rw [lastI, take_count_succ p n k (by omega)]
    split
    · constructor
      · intro h; omega
      · intro h; omega
    · rw [this]; omega
/-- The last place of a number that stands once is its first place. -/
theorem lastI_idx (p : List Int) (n : Int) : ∀ k, k ≤ p.length → (p.take k).count n = 1 → lastI p n k = ((p.take k).idxOf n : Nat)
  | 0, _, h => by simp at h
  | k + 1, hk, h => by
    rw [take_count_succ p n k (by omega)] at h
    rw [lastI]
    have hl : k < p.length := by omega
    have hlen : (p.take k).length = k := by rw [List.length_take]; omega
    split
    · rename_i hp
      rw [if_pos hp] at h
      have hnm : n ∉ p.take k := List.count_eq_zero.1 (by omega)
      rw [List.take_succ_eq_append_getElem hl, List.idxOf_append, if_neg hnm, hlen]
      rw [List.getD_eq_getElem?_getD, List.getElem?_eq_getElem hl] at hp
      simp only [Option.getD_some] at hp
      simp [hp]
    · rename_i hp
      rw [if_neg hp] at h
      have hm : n ∈ p.take k := List.count_pos_iff.1 (by omega)
      rw [lastI_idx p n k (by omega) (by omega), List.take_succ_eq_append_getElem hl, List.idxOf_append, if_pos hm]
theorem confB_iff (h : List Txn) (p : List Int) (key : Int) (b k : Nat) (hbk : b < k) (hb : isC h p key b = false) : confB h p key (b : Int) k = true ↔ verN h p key k ≠ verN h p key b := by
  rw [verN_ne h p key b k (by omega)]
  unfold confB
  rw [List.any_eq_true]
  constructor
  · rintro ⟨j, hj, hc⟩
    rw [Bool.and_eq_true, decide_eq_true_eq] at hc
    exact ⟨j, by omega, List.mem_range.1 hj, hc.2⟩
  · rintro ⟨j, h1, h2, h3⟩
    refine ⟨j, List.mem_range.2 h2, ?_⟩
    have : j ≠ b := by rintro rfl; rw [hb] at h3; cases h3
    rw [Bool.and_eq_true, decide_eq_true_eq]
    exact ⟨by omega, h3⟩
structure SInv (h : List Txn) (p : List Int) (S : SS) : Prop where
  seen : S.seen = p
  ver : ∀ key, key = 0 ∨ key = 1 ∨ key = 2 → S.ver key = (verN h p key p.length : Nat)
  beg : ∀ m ∈ p, ∀ key, key = 0 ∨ key = 1 ∨ key = 2 → S.beg m key = (verN h p key (p.idxOf m) : Nat)
theorem lastW_key {ops : List Op} {key : Int} {o : Op} (h : lastW ops key = some o) : o.Key = key := (lastW_some h).2.2
theorem comm_append (b : St) (y : List Op) : ∀ (x : List Op) (s : St × St), comm b (x ++ y) s = (comm b x s).bind (comm b y)
  | [], s => rfl
  | o :: r, s => by
    simp only [List.cons_append, comm]
    split
    · exact comm_append b y r _
    · rfl
def upV (u : St) (ops : List Op) (key : Int) : St := if (lastW ops key).isSome then u.put key (u key + 1) else u
theorem keyStep_comm (h : List Txn) (p : List Int) (n : Int) (k : Nat) (key : Int) (b v u : St) (hc : confB h p key (lastI p n k) k = true ↔ u key ≠ b key) :
    (∃ v', comm b (lastW (opsOf h n) key).toList (v, u) = some (v', upV u (opsOf h n) key) ∧ keyStep h p n k key v = some v') ∨ (comm b (lastW (opsOf h n) key).toList (v, u) = none ∧ keyStep h p n k key v = none) := by
  unfold keyStep upV
  cases hw : lastW (opsOf h n) key with
  | none => exact .inl ⟨v, rfl, rfl⟩
  | some o =>
    have ho := lastW_key hw
    subst ho
    simp only [Option.toList, comm, Option.isSome_some, if_true]
    by_cases hu : u o.Key = b o.Key
    · have hcf : confB h p o.Key (lastI p n k) k = false := by
        cases hq : confB h p o.Key (lastI p n k) k with
        | false => rfl
        | true => exact absurd hu (hc.1 hq)
      exact .inl ⟨_, by rw [if_pos hu], by rw [hcf]; rfl⟩
    · exact .inr ⟨by rw [if_neg hu], by rw [if_pos (hc.2 hu)]⟩
theorem upV_other {u : St} {ops : List Op} {key k : Int} (h : k ≠ key) : upV u ops key k = u k := by
  unfold upV
  split
  · unfold St.put; rw [if_neg h]
  · rfl
theorem upV_same (u : St) (ops : List Op) (key : Int) : upV u ops key key = u key + (if (lastW ops key).isSome then 1 else 0) := by
  unfold upV
  split
  · unfold St.put; rw [if_pos rfl]
  · omega
theorem isC_last (h : List Txn) (p : List Int) (n key : Int) : isC h (p ++ [n]) key p.length = (p.count n == 1 && (lastW (opsOf h n) key).isSome) := by
  unfold isC
  rw [List.take_left', List.getD_eq_getElem?_getD, List.getElem?_append_right (Nat.le_refl _)]
  · simp
  · rfl
theorem isC_first (h : List Txn) (p : List Int) (n key : Int) (hn : n ∈ p) : isC h p key (p.idxOf n) = false := by
  unfold isC
  have hl : p.idxOf n < p.length := List.idxOf_lt_length_of_mem hn
  have hg : p.getD (p.idxOf n) 0 = n := by rw [List.getD_eq_getElem?_getD, List.getElem?_eq_getElem hl]; simp
  rw [hg]
  have h0 : (p.take (p.idxOf n)).count n = 0 := by
    rw [List.count_eq_zero]
    intro hm
    obtain ⟨j, hj, he⟩ := List.mem_take_iff_getElem.1 hm
    have := List.not_of_lt_findIdx (p := fun x => x == n) (xs := p) (i := j) (by unfold List.idxOf at hj; omega)
    simp [he] at this
  rw [h0]; rfl
theorem specRun_app (h : List Txn) (p q : List Int) : ∀ k, k ≤ p.length → specRun h (p ++ q) k = specRun h p k
  | 0, _ => rfl
  | k + 1, hk => by
    rw [specRun, specRun, specRun_app h p q k (by omega)]
    have hl : ∀ n, ∀ j, j ≤ k → lastI (p ++ q) n j = lastI p n j := by
      intro n j
      induction j with
      | zero => intro _; rfl
      | succ j ih =>
        intro hj
        rw [lastI, lastI, ih (by omega), List.getD_eq_getElem?_getD, List.getD_eq_getElem?_getD, List.getElem?_append_left (by omega)]
    have hg : (p ++ q).getD k 0 = p.getD k 0 := by rw [List.getD_eq_getElem?_getD, List.getD_eq_getElem?_getD, List.getElem?_append_left (by omega)]
    have hcf : ∀ key b, confB h (p ++ q) key b k = confB h p key b k := fun key b => by
      unfold confB
      rw [Bool.eq_iff_iff, List.any_eq_true, List.any_eq_true]
      constructor
      · rintro ⟨j, hj, hc⟩
        exact ⟨j, hj, by rw [isC_app h p q key j (by have := List.mem_range.1 hj; omega)] at hc; exact hc⟩
      · rintro ⟨j, hj, hc⟩
        exact ⟨j, hj, by rw [isC_app h p q key j (by have := List.mem_range.1 hj; omega)]; exact hc⟩
    have hks : ∀ n key s, keyStep h (p ++ q) n k key s = keyStep h p n k key s := fun n key s => by
      unfold keyStep
      rw [hl n k (Nat.le_refl _)]
      cases lastW (opsOf h n) key with
      | none => rfl
      | some o => simp only [hcf]
    congr 1
    funext s
    unfold specStep
    rw [hg, hl _ k (Nat.le_refl _)]
    simp only [hks]
    congr 1
    rw [show (keyStep h (p ++ q) (p.getD k 0) k 1) = keyStep h p (p.getD k 0) k 1 from funext fun s => hks _ _ s, show (keyStep h (p ++ q) (p.getD k 0) k 2) = keyStep h p (p.getD k 0) k 2 from funext fun s => hks _ _ s]
/-- One step: both ways go on alike. -/
theorem snap_step (h : List Txn) (p : List Int) (n : Int) (S : SS) (hI : SInv h p S) (hd : dneOf h n = true) (hc : p.count n < 2) :
    specStep h (p ++ [n]) p.length S.val = (snapNext h S n).map SS.val ∧ ∀ S', snapNext h S n = some S' → SInv h (p ++ [n]) S' := by
  have hg : (p ++ [n]).getD p.length 0 = n := by rw [List.getD_eq_getElem?_getD, List.getElem?_append_right (Nat.le_refl _)]; simp
  have htk : (p ++ [n]).take p.length = p := by simp
  have hlen : (p ++ [n]).length = p.length + 1 := by simp
  have hneg := lastI_neg (p ++ [n]) n p.length (by omega)
  rw [htk] at hneg
  unfold specStep
  rw [hg]
  have hverS : ∀ key, verN h (p ++ [n]) key (p.length + 1) = verN h p key p.length + (if p.count n = 1 ∧ (lastW (opsOf h n) key).isSome then 1 else 0) := fun key => by
    rw [verN, verN_app h p [n] key _ (Nat.le_refl _), isC_last]
    congr 1
    by_cases h1 : p.count n = 1 <;> simp [h1]
  have hbegS : ∀ m, m ∈ p → ∀ key, verN h (p ++ [n]) key ((p ++ [n]).idxOf m) = verN h p key (p.idxOf m) := fun m hm key => by
    rw [List.idxOf_append, if_pos hm, verN_app h p [n] key _ (Nat.le_of_lt (List.idxOf_lt_length_of_mem hm))]
  unfold snapNext
  rw [hI.seen, hd]
  simp only [hc, decide_true, Bool.and_self, if_true]
  by_cases h0 : p.count n = 0
  · rw [if_pos (hneg.2 h0), if_pos h0]
    cases hf : readsFit S.val (firstR (opsOf h n)) with
    | false => exact ⟨rfl, fun S' hS => by simp at hS⟩
    | true =>
      refine ⟨rfl, fun S' hS => ?_⟩
      simp only [if_true, Option.some.injEq] at hS
      subst hS
      have hnm : n ∉ p := List.count_eq_zero.1 h0
      refine ⟨rfl, fun key hk => ?_, fun m hm key hk => ?_⟩
      · rw [hlen, hverS]
        simp only [h0]
        rw [if_neg (by omega)]
        exact hI.ver key hk
      · by_cases hmn : m = n
        · subst hmn
          show (if m = m then S.ver else S.beg m) key = _
          rw [if_pos rfl, hI.ver key hk, List.idxOf_append, if_neg hnm]
          simp [verN_app h p [m] key _ (Nat.le_refl _)]
        · show (if m = n then S.ver else S.beg m) key = _
          rw [if_neg hmn]
          have hmp : m ∈ p := by
            rcases List.mem_append.1 hm with hm | hm
            · exact hm
            · exact absurd (List.mem_singleton.1 hm) hmn
          rw [hI.beg m hmp key hk, hbegS m hmp key]
  · have h1 : p.count n = 1 := by omega
    have hnp : n ∈ p := List.count_pos_iff.1 (by omega)
    rw [if_neg (fun e => h0 (hneg.1 e)), if_neg h0]
    have hidx := lastI_idx (p ++ [n]) n p.length (by omega) (by rw [htk]; exact h1)
    rw [htk] at hidx
    have hil : p.idxOf n < p.length := List.idxOf_lt_length_of_mem hnp
    have hconf : ∀ key, key = 0 ∨ key = 1 ∨ key = 2 → (confB h (p ++ [n]) key (lastI (p ++ [n]) n p.length) p.length = true ↔ S.ver key ≠ S.beg n key) := fun key hk => by
      rw [hidx, confB_iff h (p ++ [n]) key (p.idxOf n) p.length hil (by rw [isC_app h p [n] key _ hil]; exact isC_first h p n key hnp), verN_app h p [n] key _ (Nat.le_refl _), verN_app h p [n] key _ (Nat.le_of_lt hil), hI.ver key hk, hI.beg n hnp key hk]
      omega
    have key3 : ((keyStep h (p ++ [n]) n p.length 0 S.val).bind (keyStep h (p ++ [n]) n p.length 1)).bind (keyStep h (p ++ [n]) n p.length 2) = (comm (S.beg n) (lastWs (opsOf h n)) (S.val, S.ver)).map Prod.fst ∧ ∀ q, comm (S.beg n) (lastWs (opsOf h n)) (S.val, S.ver) = some q → q.2 = upV (upV (upV S.ver (opsOf h n) 0) (opsOf h n) 1) (opsOf h n) 2 := by
      unfold lastWs
      rw [comm_append, comm_append]
      rcases keyStep_comm h (p ++ [n]) n p.length 0 (S.beg n) S.val S.ver (hconf 0 (by omega)) with ⟨v1, e1, f1⟩ | ⟨e1, f1⟩
      · rw [e1, f1]
        simp only [Option.bind_some]
        rcases keyStep_comm h (p ++ [n]) n p.length 1 (S.beg n) v1 (upV S.ver (opsOf h n) 0) (by rw [upV_other (by decide)]; exact hconf 1 (by omega)) with ⟨v2, e2, f2⟩ | ⟨e2, f2⟩
        · rw [e2, f2]
          simp only [Option.bind_some]
          rcases keyStep_comm h (p ++ [n]) n p.length 2 (S.beg n) v2 (upV (upV S.ver (opsOf h n) 0) (opsOf h n) 1) (by rw [upV_other (by decide), upV_other (by decide)]; exact hconf 2 (by omega)) with ⟨v3, e3, f3⟩ | ⟨e3, f3⟩
          · rw [e3, f3]
            exact ⟨rfl, fun q hq => by cases hq; rfl⟩
          · rw [e3, f3]
            exact ⟨rfl, fun q hq => by cases hq⟩
        · rw [e2, f2]
          exact ⟨rfl, fun q hq => by cases hq⟩
      · rw [e1, f1]
        exact ⟨rfl, fun q hq => by cases hq⟩
    refine ⟨?_, fun S' hS => ?_⟩
    · rw [key3.1]
      cases comm (S.beg n) (lastWs (opsOf h n)) (S.val, S.ver) <;> rfl
    · cases hq : comm (S.beg n) (lastWs (opsOf h n)) (S.val, S.ver) with
      | none => rw [hq] at hS; cases hS
      | some q =>
        rw [hq] at hS
        simp only [Option.map_some, Option.some.injEq] at hS
        have hq2 := key3.2 q hq
        subst hS
        refine ⟨rfl, fun key hk => ?_, fun m hm key hk => ?_⟩
        · rw [hlen, hverS]
          show q.2 key = _
          rw [hq2]
          have hv := hI.ver key hk
          simp only [h1, true_and]
          rcases hk with rfl | rfl | rfl
          · rw [upV_other (by decide), upV_other (by decide), upV_same, hv]
            split <;> simp
          · rw [upV_other (by decide), upV_same, upV_other (by decide), hv]
            split <;> simp
          · rw [upV_same, upV_other (by decide), upV_other (by decide), hv]
            split <;> simp
        · have hmp : m ∈ p := by
            rcases List.mem_append.1 hm with hm | hm
            · exact hm
            · rw [List.mem_singleton.1 hm]; exact hnp
          rw [hbegS m hmp key]
          exact hI.beg m hmp key hk
theorem snap_inv0 (h : List Txn) : SInv h [] SS0 := ⟨rfl, fun key _ => rfl, fun m hm => by cases hm⟩
theorem snoc_ind {P : List Int → Prop} (h0 : P []) (h1 : ∀ l x, P l → P (l ++ [x])) (l : List Int) : P l := by
  rw [← List.reverse_reverse l]
  induction l.reverse with
  | nil => exact h0
  | cons x r ih => rw [List.reverse_cons]; exact h1 _ _ ih
theorem snap_same (h : List Txn) (p : List Int) : (∀ n ∈ p, dneOf h n = true) → (∀ n, p.count n ≤ 2) →
    specRun h p p.length = (snapRun h SS0 p).map SS.val ∧ ∀ S, snapRun h SS0 p = some S → SInv h p S := by
  refine snoc_ind (P := fun p => (∀ n ∈ p, dneOf h n = true) → (∀ n, p.count n ≤ 2) → specRun h p p.length = (snapRun h SS0 p).map SS.val ∧ ∀ S, snapRun h SS0 p = some S → SInv h p S) ?_ ?_ p
  · exact fun _ _ => ⟨rfl, fun S hS => by cases hS; exact snap_inv0 h⟩
  · intro p n ih hd hc
    have hcp : ∀ m, p.count m ≤ 2 := fun m => by have := hc m; rw [List.count_append] at this; omega
    obtain ⟨ih1, ih2⟩ := ih (fun m hm => hd m (List.mem_append_left _ hm)) hcp
    have hcn : p.count n < 2 := by have := hc n; rw [List.count_append] at this; simp at this; omega
    have hdn := hd n (List.mem_append_right _ (List.mem_singleton.2 rfl))
    rw [show (p ++ [n]).length = p.length + 1 by simp, specRun, specRun_app h p [n] _ (Nat.le_refl _), ih1, snapRun_snoc]
    cases hS : snapRun h SS0 p with
    | none => exact ⟨rfl, fun S h => by cases h⟩
    | some S =>
      obtain ⟨h1, h2⟩ := snap_step h p n S (ih2 S hS) hdn hcn
      exact ⟨h1, h2⟩
theorem l13_snap (h : List Txn) (p : List Int) (hd : ∀ n ∈ p, dneOf h n = true) (hc : ∀ n, p.count n ≤ 2) : l13R h p = (snapRun h SS0 p).isSome := by
  unfold l13R
  rw [(snap_same h p hd hc).1]
  cases snapRun h SS0 p <;> rfl
theorem countP_sum (l : List Int) : ∀ (done : List Int), done.Nodup → l.countP (fun x => done.contains x) = (done.map fun d => l.count d).sum
  | [], _ => by simp
  | d :: r, hn => by
    rw [List.nodup_cons] at hn
    have ih := countP_sum l r hn.2
    rw [List.map_cons, List.sum_cons, ← ih]
    clear ih
    induction l with
    | nil => simp
    | cons x xs ihx =>
      rw [List.countP_cons, List.countP_cons, List.count_cons, ihx]
      by_cases hx : x = d
      · have h1 : (x == d) = true := by simpa using hx
        have h2 : r.contains x = false := by
          cases hq : r.contains x with
          | false => rfl
          | true => exact absurd (hx ▸ List.contains_iff_mem.1 hq) hn.1
        have h3 : (d :: r).contains x = true := by rw [List.contains_cons, h1, Bool.true_or]
        rw [h1, h2, h3]
        simp only [if_true, Bool.false_eq_true, if_false]
        omega
      · have h1 : (x == d) = false := by simpa using hx
        have h2 : (d :: r).contains x = r.contains x := by
          rw [List.contains_cons, h1, Bool.false_or]
        rw [h2, h1]
        simp only [Bool.false_eq_true, if_false]
        omega
theorem sum_two (f : Int → Nat) : ∀ (l : List Int), (∀ d ∈ l, f d = 2) → (l.map f).sum = 2 * l.length
  | [], _ => rfl
  | d :: r, h => by
    have := sum_two f r (fun x hx => h x (List.mem_cons_of_mem _ hx))
    have := h d List.mem_cons_self
    simp only [List.map_cons, List.sum_cons, List.length_cons]; omega
theorem sum_le2 (f : Int → Nat) : ∀ (l : List Int), (∀ d ∈ l, f d ≤ 2) → (l.map f).sum ≤ 2 * l.length
  | [], _ => Nat.le_refl _
  | d :: r, h => by
    have := sum_le2 f r (fun x hx => h x (List.mem_cons_of_mem _ hx))
    have := h d List.mem_cons_self
    simp only [List.map_cons, List.sum_cons, List.length_cons]; omega
theorem sum_two_inv (f : Int → Nat) : ∀ (l : List Int), (∀ d ∈ l, f d ≤ 2) → (l.map f).sum = 2 * l.length → ∀ d ∈ l, f d = 2
  | [], _, _ => fun d hd => by cases hd
  | d :: r, h, hs => fun x hx => by
    have h1 := sum_le2 f r (fun x hx => h x (List.mem_cons_of_mem _ hx))
    have h2 := h d List.mem_cons_self
    simp only [List.map_cons, List.sum_cons, List.length_cons] at hs
    rcases List.mem_cons.1 hx with rfl | hx
    · omega
    · exact sum_two_inv f r (fun x hx => h x (List.mem_cons_of_mem _ hx)) (by omega) x hx
theorem dneOf_mem (h : List Txn) (n : Int) : dneOf h n = true ↔ n ∈ doneL h := by
  unfold dneOf
  simp only [Bool.and_eq_true, decide_eq_true_eq]
  constructor
  · rintro ⟨⟨h0, h1⟩, h2⟩
    have := mem_doneI h h.length n.toNat (by omega) h2
    rwa [Int.toNat_of_nonneg h0] at this
  · intro hm
    have h1 := doneI_mem h _ _ hm
    exact ⟨⟨h1.1, h1.2⟩, doneI_done h _ _ hm⟩
def twoEach (h : List Txn) (p : List Int) : Bool := (doneL h).all fun d => p.count d == 2
theorem twoEach_in {h : List Txn} {p : List Int} (hl : p.length = 2 * (doneL h).length) (ht : twoEach h p = true) : ∀ n ∈ p, n ∈ doneL h := by
  unfold twoEach at ht
  rw [List.all_eq_true] at ht
  have h1 := countP_sum p (doneL h) (doneI_nodup h _)
  rw [sum_two _ _ (fun d hd => by simpa using ht d hd), ← hl, List.countP_eq_length] at h1
  exact fun n hn => List.contains_iff_mem.1 (h1 n hn)
theorem snap_right (h : List Txn) (p : List Int) (hl : p.length = 2 * (doneL h).length) : (twoEach h p && l13R h p) = (snapRun h SS0 p).isSome := by
  rw [Bool.eq_iff_iff, Bool.and_eq_true]
  constructor
  · rintro ⟨h1, h2⟩
    have hin := twoEach_in hl h1
    unfold twoEach at h1
    rw [List.all_eq_true] at h1
    rw [← l13_snap h p (fun n hn => (dneOf_mem h n).2 (hin n hn)) (fun n => ?_)]
    · exact h2
    · by_cases hn : n ∈ p
      · have := h1 n (hin n hn)
        simp at this; omega
      · rw [List.count_eq_zero.2 hn]; omega
  · intro h1
    obtain ⟨S, hS⟩ := Option.isSome_iff_exists.1 h1
    obtain ⟨h2, h3⟩ := snapRun_seen hS
    have h4 := snapRun_count hS (fun n => by simp [SS0])
    rw [h2] at h4
    simp only [SS0, List.nil_append] at h4
    have h5 := countP_sum p (doneL h) (doneI_nodup h _)
    have h6 : p.countP (fun x => (doneL h).contains x) = p.length := List.countP_eq_length.2 fun n hn => List.contains_iff_mem.2 ((dneOf_mem h n).1 (h3 n hn))
    rw [h6, hl] at h5
    have h7 := sum_two_inv _ _ (fun d _ => h4 d) h5.symm
    refine ⟨?_, by rw [l13_snap h p h3 h4]; exact h1⟩
    unfold twoEach
    rw [List.all_eq_true]
    intro d hd
    simpa using h7 d hd
/-! ### The first right schedule -/
def dfsS (h : List Txn) : Nat → List Int → Option (List Int)
  | 0, p => if l13R h p then some p else none
  | f + 1, p => if l13R h p then (doneL h).findSome? (fun d => if p.count d = 2 then none else dfsS h f (p ++ [d])) else none
def dfsN (h : List Txn) : Nat → List Int → SS → Option (List Int)
  | 0, p, S => some p
  | f + 1, p, S => (doneL h).findSome? (fun d => (snapNext h S d).bind fun S' => dfsN h f (p ++ [d]) S')
theorem findSome_congr {α β : Type} {f g : α → Option β} : ∀ {l : List α}, (∀ x ∈ l, f x = g x) → l.findSome? f = l.findSome? g
  | [], _ => rfl
  | x :: r, h => by
    rw [List.findSome?_cons, List.findSome?_cons, h x List.mem_cons_self, findSome_congr (fun y hy => h y (List.mem_cons_of_mem _ hy))]
theorem dfs_snap (h : List Txn) : ∀ (f : Nat) (p : List Int) (S : SS), snapRun h SS0 p = some S → dfsS h f p = dfsN h f p S
  | 0, p, S, hS => by
    obtain ⟨h2, h3⟩ := snapRun_seen hS
    have h4 := snapRun_count hS (fun n => by simp [SS0])
    rw [h2] at h4
    simp only [SS0, List.nil_append] at h4
    rw [dfsS, dfsN, l13_snap h p h3 h4, hS]; rfl
  | f + 1, p, S, hS => by
    obtain ⟨h2, h3⟩ := snapRun_seen hS
    have h4 := snapRun_count hS (fun n => by simp [SS0])
    rw [h2] at h4
    simp only [SS0, List.nil_append] at h4 h2
    rw [dfsS, dfsN, l13_snap h p h3 h4, hS]
    simp only [Option.isSome_some, if_true]
    refine findSome_congr fun d hd => ?_
    have hdd := (dneOf_mem h d).2 hd
    by_cases hc : p.count d = 2
    · rw [if_pos hc]
      unfold snapNext
      rw [h2, hc]
      simp
    · rw [if_neg hc]
      have hr : snapRun h SS0 (p ++ [d]) = snapNext h S d := by rw [snapRun_snoc, hS]; rfl
      cases hn : snapNext h S d with
      | some S' => rw [hn] at hr; simp only [Option.bind_some]; exact dfs_snap h f (p ++ [d]) S' hr
      | none =>
        rw [hn] at hr
        have hc2 : ∀ n, (p ++ [d]).count n ≤ 2 := fun n => by
          rw [List.count_append]
          have h5 := h4 n
          by_cases hnd : n = d
          · subst hnd; simp; omega
          · have : List.count n [d] = 0 := List.count_eq_zero.2 (by simpa using hnd)
            omega
        have hf : l13R h (p ++ [d]) = false := by
          rw [l13_snap h (p ++ [d]) (fun n hn => ?_) hc2, hr]; rfl
          rcases List.mem_append.1 hn with hn | hn
          · exact h3 n hn
          · rw [List.mem_singleton.1 hn]; exact hdd
        simp only [Option.bind_none]
        cases f <;> simp [dfsS, hf]
theorem snoc_op {P : List Op → Prop} (h0 : P []) (h1 : ∀ l x, P l → P (l ++ [x])) (l : List Op) : P l := by
  rw [← List.reverse_reverse l]
  induction l.reverse with
  | nil => exact h0
  | cons x r ih => rw [List.reverse_cons]; exact h1 _ _ ih
theorem runOps_app (b : List Op) : ∀ (a : List Op) (s : St), runOps s (a ++ b) = (runOps s a).bind fun s' => runOps s' b
  | [], s => rfl
  | o :: r, s => by
    simp only [List.cons_append, runOps]
    split
    · rfl
    · exact runOps_app b r _
theorem runOps_one {s t : St} {o : Op} (h : runOps s [o] = some t) : t = s.put o.Key o.Value ∧ (o.Kind = 1 → s o.Key = o.Value) := by
  rw [runOps] at h
  split at h
  · cases h
  · rename_i hc
    rw [runOps, Option.some.injEq] at h
    refine ⟨h.symm, fun hk => ?_⟩
    simp only [Bool.and_eq_true, bne_iff_ne, ne_eq, beq_iff_eq] at hc
    exact Decidable.byContradiction fun hne => hc ⟨hk, hne⟩
theorem lastOn_app (ops : List Op) (o : Op) (key : Int) : lastOn (ops ++ [o]) key = if o.Key == key then some o else lastOn ops key := by
  unfold lastOn
  rw [List.reverse_append]
  simp only [List.reverse_cons, List.reverse_nil, List.nil_append, List.singleton_append, List.find?_cons]
  cases o.Key == key <;> rfl
theorem lastW_app (ops : List Op) (o : Op) (key : Int) : lastW (ops ++ [o]) key = if o.Kind == 2 && o.Key == key then some o else lastW ops key := by
  unfold lastW
  rw [List.reverse_append]
  simp only [List.reverse_cons, List.reverse_nil, List.nil_append, List.singleton_append, List.find?_cons]
  cases o.Kind == 2 && o.Key == key <;> rfl
theorem put_at (s : St) (k v x : Int) : St.put s k v x = if x = k then v else s x := rfl
/-- What a key holds behind operations: the value of the last one on it. -/
theorem run_last (s : St) (ops : List Op) : ∀ t, runOps s ops = some t → ∀ key, t key = ((lastOn ops key).map Op.Value).getD (s key) := by
  refine snoc_op (P := fun ops => ∀ t, runOps s ops = some t → ∀ key, t key = ((lastOn ops key).map Op.Value).getD (s key)) ?_ ?_ ops
  · intro t ht key
    rw [runOps, Option.some.injEq] at ht
    rw [← ht]; rfl
  · intro l o ih t ht key
    rw [runOps_app] at ht
    cases hl : runOps s l with
    | none => rw [hl] at ht; cases ht
    | some u =>
      rw [hl] at ht
      obtain ⟨h1, _⟩ := runOps_one ht
      rw [lastOn_app, h1, put_at]
      by_cases hk : key = o.Key
      · subst hk; simp
      · have hk2 : (o.Key == key) = false := by simpa using fun e => hk e.symm
        rw [if_neg hk, hk2]
        exact ih u hl key
/-- It is the value of the last write to it, too. -/
theorem run_lastW (s : St) (ops : List Op) : (∀ o ∈ ops, o.Kind = 1 ∨ o.Kind = 2) → ∀ t, runOps s ops = some t → ∀ key, t key = ((lastW ops key).map Op.Value).getD (s key) := by
  refine snoc_op (P := fun ops => (∀ o ∈ ops, o.Kind = 1 ∨ o.Kind = 2) → ∀ t, runOps s ops = some t → ∀ key, t key = ((lastW ops key).map Op.Value).getD (s key)) ?_ ?_ ops
  · intro _ t ht key
    rw [runOps, Option.some.injEq] at ht
    rw [← ht]; rfl
  · intro l o ih hok t ht key
    rw [runOps_app] at ht
    cases hl : runOps s l with
    | none => rw [hl] at ht; cases ht
    | some u =>
      rw [hl] at ht
      obtain ⟨h1, h2⟩ := runOps_one ht
      have hu := ih (fun x hx => hok x (List.mem_append_left _ hx)) u hl key
      rw [lastW_app, h1, put_at]
      rcases hok o (List.mem_append_right _ (List.mem_singleton.2 rfl)) with h3 | h3
      · rw [h3]
        simp only [show ((1 : Int) == 2) = false from rfl, Bool.false_and, Bool.false_eq_true, if_false]
        rw [← hu]
        split
        · rename_i hk; rw [hk, h2 h3]
        · rfl
      · rw [h3]
        simp only [show ((2 : Int) == 2) = true from rfl, Bool.true_and]
        by_cases hk : key = o.Key
        · subst hk; simp
        · have hk2 : (o.Key == key) = false := by simpa using fun e => hk e.symm
          rw [if_neg hk, hk2]
          exact hu
theorem run_at {s t : St} {ops : List Op} (h : runOps s ops = some t) (k : Nat) (hk : k < ops.length) : ∃ u, runOps s (ops.take k) = some u ∧ (ops[k].Kind = 1 → u ops[k].Key = ops[k].Value) := by
  have he : ops = ops.take k ++ ([ops[k]] ++ ops.drop (k + 1)) := by
    rw [← List.append_assoc, ← List.take_succ_eq_append_getElem hk, List.take_append_drop]
  rw [he, runOps_app] at h
  cases hl : runOps s (ops.take k) with
  | none => rw [hl] at h; cases h
  | some u =>
    rw [hl, Option.bind_some, runOps_app] at h
    cases h1 : runOps u [ops[k]] with
    | none => rw [h1] at h; cases h
    | some v => exact ⟨u, rfl, (runOps_one h1).2⟩
theorem firstRs_at (ops : List Op) : ∀ n, n ≤ ops.length → ∀ o ∈ firstRs ops n, ∃ k, ∃ hk : k < ops.length, o = ops[k] ∧ ops[k].Kind = 1 ∧ lastOn (ops.take k) ops[k].Key = none
  | 0, _, o, ho => by cases ho
  | n + 1, hn, o, ho => by
    rw [firstRs_succ ops n hn, List.mem_append] at ho
    rcases ho with ho | ho
    · exact firstRs_at ops n (by omega) o ho
    · split at ho
      · rename_i hc
        rw [Bool.and_eq_true, beq_iff_eq, Option.isNone_iff_eq_none] at hc
        exact ⟨n, hn, List.mem_singleton.1 ho, hc⟩
      · cases ho
/-- First reads have what the keys held at first. -/
theorem run_first {s t : St} {ops : List Op} (h : runOps s ops = some t) : ∀ o ∈ firstR ops, o ∈ ops ∧ o.Kind = 1 ∧ s o.Key = o.Value := fun o ho => by
  obtain ⟨k, hk, rfl, h1, h2⟩ := firstRs_at ops _ (Nat.le_refl _) o ho
  obtain ⟨u, h3, h4⟩ := run_at h k hk
  have h5 := run_last s _ u h3 ops[k].Key
  rw [h2] at h5
  refine ⟨List.getElem_mem hk, h1, ?_⟩
  rw [← h4 h1, h5]; rfl
theorem run_each (h : List Txn) : ∀ (o : List Int) (s t : St), runTx h s o = some t → ∀ n ∈ o, ∃ u v, runOps u (opsOf h n) = some v
  | [], _, _, _, n, hn => by cases hn
  | m :: r, s, t, hr, n, hn => by
    rw [runTx] at hr
    cases hq : runOps s ((h[m.toNat]?.map Txn.Ops).getD []) with
    | none => rw [hq] at hr; cases hr
    | some u =>
      rw [hq] at hr
      rcases List.mem_cons.1 hn with rfl | hn
      · exact ⟨s, u, hq⟩
      · exact run_each h r u t hr n hn
/-- The transactions before a number, and what it finds. -/
theorem run_split {h : List Txn} {s t : St} {a b : List Int} {n : Int} (hr : runTx h s (a ++ n :: b) = some t) : ∃ u v, runTx h s a = some u ∧ runOps u (opsOf h n) = some v ∧ runTx h v b = some t := by
  rw [runTx_append] at hr
  cases ha : runTx h s a with
  | none => rw [ha] at hr; cases hr
  | some u =>
    rw [ha, Option.bind_some, runTx] at hr
    cases hq : runOps u ((h[n.toNat]?.map Txn.Ops).getD []) with
    | none => rw [hq] at hr; cases hr
    | some v => rw [hq] at hr; exact ⟨u, v, rfl, hq, hr⟩
/-- The values that an order installs for a key. -/
def insK (h : List Txn) (key : Int) (ord : List Int) : List Int := ord.flatMap fun n => (lastW (opsOf h n) key).toList.map Op.Value
theorem insK_append (h : List Txn) (key : Int) (a b : List Int) : insK h key (a ++ b) = insK h key a ++ insK h key b := by
  unfold insK; rw [List.flatMap_append]
theorem insK_one (h : List Txn) (key n : Int) : insK h key [n] = (lastW (opsOf h n) key).toList.map Op.Value := by
  unfold insK; simp
/-- What a key holds behind transactions: the last value that was installed. -/
theorem run_ins (h : List Txn) (hok : ∀ n : Int, ∀ o ∈ opsOf h n, o.Kind = 1 ∨ o.Kind = 2) (s : St) (a : List Int) : ∀ t, runTx h s a = some t → ∀ key, t key = (insK h key a).getLast?.getD (s key) := by
  refine snoc_ind (P := fun a => ∀ t, runTx h s a = some t → ∀ key, t key = (insK h key a).getLast?.getD (s key)) ?_ ?_ a
  · intro t ht key
    rw [runTx, Option.some.injEq] at ht
    rw [← ht]; rfl
  · intro l n ih t ht key
    rw [show l ++ [n] = l ++ n :: [] from rfl] at ht
    obtain ⟨u, v, h1, h2, h3⟩ := run_split ht
    rw [runTx, Option.some.injEq] at h3
    subst h3
    rw [run_lastW u _ (hok n) v h2 key, insK_append, insK_one, List.getLast?_append, ih u h1 key]
    cases lastW (opsOf h n) key with
    | none => simp
    | some o => simp
end Go.Proofs.YtkcobaimcfggjaaGreatDoor
