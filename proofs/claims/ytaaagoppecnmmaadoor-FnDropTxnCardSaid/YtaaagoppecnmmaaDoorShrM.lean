/- Plain laws: dropping transactions from the last one down while there is no serial order. Plain laws: what has a serial order keeps one when a transaction goes; what was shrunk is least. -/
import Derived.Test.YtaaagoppecnmmaaDoorFindF
import Derived.Test.YtaaagoppecnmmaaDoorDropM
namespace Go.Proofs.YtaaagoppecnmmaaDoor
open Go.RowKit
set_option linter.unusedVariables false
set_option linter.unusedSimpArgs false

def serX (xs : List Txn) : Bool := (serF xs).isSome
def shrStep (out : List Txn) (n : Nat) : List Txn := if serX (dropL out n) then out else dropL out n
theorem shrStep_t {out : List Txn} {n : Nat} (h : serX (dropL out n) = true) : shrStep out n = out := by unfold shrStep; rw [if_pos h]
theorem shrStep_f {out : List Txn} {n : Nat} (h : serX (dropL out n) = false) : shrStep out n = dropL out n := by unfold shrStep; rw [if_neg (by rw [h]; decide)]
/-- What is left when j numbers, from the last one down, have been tried. -/
def shrT (xs : List Txn) : Nat → List Txn
  | 0 => xs
  | j + 1 => shrStep (shrT xs j) (xs.length - 1 - j)
theorem shr_valid {xs : List Txn} (hv : histV xs = true) : ∀ j, histV (shrT xs j) = true
  | 0 => hv
  | j + 1 => by
    unfold shrT shrStep
    split
    · exact shr_valid hv j
    · exact dropL_valid (shr_valid hv j) _
theorem shr_len {xs : List Txn} : ∀ j, j ≤ xs.length → xs.length ≤ (shrT xs j).length + j
  | 0, _ => Nat.le_refl _
  | j + 1, hj => by
    have h := shr_len (xs := xs) j (by omega)
    unfold shrT shrStep
    split
    · omega
    · have := dropL_length (h := shrT xs j) (n := xs.length - 1 - j) (by omega)
      omega
def badB (xs : List Txn) : Bool := histV xs && !serX xs
def badR (xs : List Txn) : List Txn := if badB xs then shrT xs xs.length else []
theorem opsN_le : ∀ (l : List Txn), (∀ t ∈ l, t.Ops.length ≤ 6) → opsN l ≤ 6 * l.length
  | [], _ => by simp [opsN, tot]
  | t :: l, h => by
    have h1 := opsN_le l (fun t ht => h t (List.mem_cons_of_mem _ ht))
    have h2 := h t List.mem_cons_self
    have h3 : opsN (t :: l) = t.Ops.length + opsN l := by simp [opsN, tot]
    rw [h3, List.length_cons]
    omega
theorem hist_small {xs : List Txn} (hv : histV xs = true) : xs.length ≤ 6 ∧ (∀ t ∈ xs, t.Ops.length ≤ 6) ∧ opsN xs ≤ 36 := by
  obtain ⟨h6, hts⟩ := histV_parts hv
  have h2 : ∀ t ∈ xs, t.Ops.length ≤ 6 := fun t ht => (txnOk_parts (hts t ht)).2
  have h3 := opsN_le xs h2
  exact ⟨h6, h2, by omega⟩
theorem badR_len (xs : List Txn) : (badR xs).length ≤ 1048576 ∧ ∀ x ∈ badR xs, x.Ops.length ≤ 1048576 := by
  unfold badR
  split
  · rename_i h
    unfold badB at h
    rw [Bool.and_eq_true] at h
    obtain ⟨h1, h2, _⟩ := hist_small (shr_valid h.1 xs.length)
    exact ⟨by omega, fun x hx => by have := h2 x hx; omega⟩
  · exact ⟨by simp, fun x hx => by cases hx⟩
theorem dropI_erase (h : List Txn) (n : Nat) : ∀ k, k ≤ h.length → dropI h n k = ((h.take k).eraseIdx n).map (dropT h n)
  | 0, _ => by simp [dropI]
  | k + 1, hk => by
    have hl : (h.take k).length = k := by rw [List.length_take]; omega
    rw [dropI_succ h n k (by omega), dropI_erase h n k (by omega), List.take_succ_eq_append_getElem (show k < h.length by omega)]
    rcases Nat.lt_trichotomy n k with h1 | h1 | h1
    · rw [List.eraseIdx_append_of_lt_length (by omega), if_neg (by omega), List.map_append]; rfl
    · subst h1
      rw [List.eraseIdx_append_of_length_le (by omega), hl, Nat.sub_self, if_pos rfl, List.eraseIdx_of_length_le (l := h.take n) (by omega)]; simp
    · rw [List.eraseIdx_append_of_length_le (by omega), hl, if_neg (by omega), List.eraseIdx_of_length_le (by omega), List.eraseIdx_of_length_le (by simp; omega), List.map_append]; rfl
theorem dropL_erase (h : List Txn) (n : Nat) : dropL h n = (h.eraseIdx n).map (dropT h n) := by
  unfold dropL; rw [dropI_erase h n _ (Nat.le_refl _), List.take_length]
theorem dropL_at (h : List Txn) (n k : Nat) : (dropL h n)[k]? = (h[if k < n then k else k + 1]?).map (dropT h n) := by
  rw [dropL_erase, List.getElem?_map, List.getElem?_eraseIdx]
  split <;> rfl
/-- The number that transaction x has when n is gone. -/
def rn (n : Nat) (x : Int) : Int := if x ≤ n then x else x - 1
theorem mem_doneX {h : List Txn} {x : Int} : x ∈ doneL h ↔ ∃ k : Nat, x = k ∧ (h[k]?.map Txn.Done).getD false = true := by
  constructor
  · intro hx
    have h1 := doneI_mem h _ x hx
    exact ⟨x.toNat, by omega, doneI_done h _ x hx⟩
  · rintro ⟨k, rfl, hk⟩
    refine mem_doneI h _ k ?_ hk
    rcases Nat.lt_or_ge k h.length with h1 | h1
    · exact h1
    · rw [List.getElem?_eq_none h1] at hk; cases hk
theorem rn_mem (h : List Txn) (n : Nat) (y : Int) : y ∈ ((doneL h).filter (fun x => x != (n : Int))).map (rn n) ↔ y ∈ doneL (dropL h n) := by
  rw [List.mem_map, mem_doneX]
  constructor
  · rintro ⟨x, hx, rfl⟩
    obtain ⟨h1, h2⟩ := List.mem_filter.1 hx
    obtain ⟨k, rfl, hk⟩ := mem_doneX.1 h1
    have hne : k ≠ n := by rintro rfl; simp at h2
    unfold rn
    by_cases hlt : k < n
    · refine ⟨k, by rw [if_pos (by omega)], ?_⟩
      rw [dropL_at, if_pos hlt, Option.map_map]
      exact hk
    · refine ⟨k - 1, by rw [if_neg (by omega)]; omega, ?_⟩
      rw [dropL_at, if_neg (by omega), Nat.sub_add_cancel (by omega), Option.map_map]
      exact hk
  · rintro ⟨k, rfl, hk⟩
    rw [dropL_at, Option.map_map] at hk
    by_cases hlt : k < n
    · rw [if_pos hlt] at hk
      exact ⟨k, List.mem_filter.2 ⟨mem_doneX.2 ⟨k, rfl, hk⟩, by simp; omega⟩, by unfold rn; rw [if_pos (by omega)]⟩
    · rw [if_neg hlt] at hk
      exact ⟨((k + 1 : Nat) : Int), List.mem_filter.2 ⟨mem_doneX.2 ⟨k + 1, rfl, hk⟩, by simp; omega⟩, by unfold rn; rw [if_neg (by omega)]; omega⟩
theorem rn_perm (h : List Txn) (n : Nat) (o : List Int) (ho : o.Perm (doneL h)) : ((o.filter (fun x => x != (n : Int))).map (rn n)).Perm (doneL (dropL h n)) := by
  refine List.Perm.trans ((ho.filter _).map _) ?_
  refine (List.perm_ext_iff_of_nodup ?_ (doneI_nodup _ _)).2 (rn_mem h n)
  unfold List.Nodup
  rw [List.pairwise_map]
  refine List.Pairwise.imp_of_mem (fun {a b} ha hb hne e => hne ?_) (List.Pairwise.filter _ (doneI_nodup h _))
  have h1 := (List.mem_filter.1 ha).2
  have h2 := (List.mem_filter.1 hb).2
  simp only [bne_iff_ne, ne_eq] at h1 h2
  unfold rn at e
  split at e <;> split at e <;> omega

/-- Transaction n writes this value. -/
def wr (h : List Txn) (n : Nat) (k v : Int) : Bool := (opsAt h n).any (isW k v)
/-- What the keys hold without transaction n. -/
def RelS (h : List Txn) (n : Nat) (s s' : St) : Prop := ∀ k, s' k = s k ∨ wr h n k (s k) = true
theorem rel_put {h : List Txn} {n : Nat} {s s' : St} (hr : RelS h n s s') (k v : Int) : RelS h n (s.put k v) (s'.put k v) := fun x => by
  unfold St.put
  by_cases hx : x = k
  · rw [if_pos hx, if_pos hx]; exact .inl rfl
  · rw [if_neg hx, if_neg hx]; exact hr x
theorem rel_run {h : List Txn} {n : Nat} : ∀ (ops : List Op) (s s' t : St), RelS h n s s' → runOps s ops = some t → ∃ t', runOps s' (ops.filter (keepOp h n)) = some t' ∧ RelS h n t t'
  | [], s, s', t, hr, he => ⟨s', rfl, by rw [runOps, Option.some.injEq] at he; rw [← he]; exact hr⟩
  | o :: r, s, s', t, hr, he => by
    rw [runOps] at he
    split at he
    · cases he
    · rename_i hc
      cases hk : keepOp h n o with
      | true =>
        obtain ⟨t', h1, h2⟩ := rel_run r _ _ t (rel_put hr o.Key o.Value) he
        refine ⟨t', ?_, h2⟩
        rw [List.filter_cons_of_pos hk, runOps, if_neg ?_]
        · exact h1
        · intro hc'
          simp only [Bool.and_eq_true, bne_iff_ne, ne_eq, beq_iff_eq] at hc hc'
          have hv : s o.Key = o.Value := Decidable.byContradiction fun hne => hc ⟨hc'.1, hne⟩
          rcases hr o.Key with h3 | h3
          · exact hc'.2 (h3.trans hv)
          · rw [hv] at h3
            unfold keepOp at hk
            unfold wr at h3
            rw [h3, hc'.1] at hk
            cases hk
      | false =>
        rw [List.filter_cons_of_neg (by rw [hk]; decide)]
        refine rel_run r _ s' t (fun x => ?_) he
        unfold keepOp at hk
        simp only [Bool.not_eq_false', Bool.and_eq_true, beq_iff_eq] at hk
        unfold St.put
        by_cases hx : x = o.Key
        · rw [if_pos hx, hx]; exact .inr hk.2
        · rw [if_neg hx]; exact hr x
theorem own_run {h : List Txn} {n : Nat} : ∀ (ops : List Op) (s t : St), (∀ o ∈ ops, o ∈ opsAt h n ∧ (o.Kind = 1 ∨ o.Kind = 2)) → runOps s ops = some t → ∀ k, t k = s k ∨ wr h n k (t k) = true
  | [], s, t, _, he, k => by rw [runOps, Option.some.injEq] at he; rw [he]; exact .inl rfl
  | o :: r, s, t, ho, he, k => by
    rw [runOps] at he
    split at he
    · cases he
    · rename_i hc
      rcases own_run r _ t (fun x hx => ho x (List.mem_cons_of_mem _ hx)) he k with h1 | h1
      · unfold St.put at h1
        by_cases hx : k = o.Key
        · rw [if_pos hx] at h1
          obtain ⟨h2, h3⟩ := ho o List.mem_cons_self
          rcases h3 with h3 | h3
          · simp only [Bool.and_eq_true, bne_iff_ne, ne_eq, beq_iff_eq] at hc
            have hv : s o.Key = o.Value := Decidable.byContradiction fun hne => hc ⟨h3, hne⟩
            exact .inl (by rw [h1, hx, hv])
          · refine .inr ?_
            unfold wr
            rw [List.any_eq_true]
            subst hx
            exact ⟨o, h2, by simp [isW, h3, h1]⟩
        · rw [if_neg hx] at h1
          exact .inl h1
      · exact .inr h1
theorem rel_tx {h : List Txn} {n : Nat} (hok : ∀ o ∈ opsAt h n, o.Kind = 1 ∨ o.Kind = 2) : ∀ (o : List Int) (s s' t : St), (∀ x ∈ o, 0 ≤ x) → RelS h n s s' → runTx h s o = some t → ∃ t', runTx (dropL h n) s' ((o.filter (fun x => x != (n : Int))).map (rn n)) = some t' ∧ RelS h n t t'
  | [], s, s', t, _, hr, he => ⟨s', rfl, by rw [runTx, Option.some.injEq] at he; rw [← he]; exact hr⟩
  | x :: r, s, s', t, h0, hr, he => by
    have hx0 := h0 x List.mem_cons_self
    have hr0 : ∀ y ∈ r, 0 ≤ y := fun y hy => h0 y (List.mem_cons_of_mem _ hy)
    rw [runTx] at he
    cases hq : runOps s ((h[x.toNat]?.map Txn.Ops).getD []) with
    | none => rw [hq] at he; cases he
    | some u =>
      rw [hq] at he
      by_cases hx : x = (n : Int)
      · rw [List.filter_cons_of_neg (by simp [hx])]
        subst hx
        have h1 := own_run (h := h) (n := n) _ s u (fun o ho => ⟨by simpa [opsAt] using ho, hok o (by simpa [opsAt] using ho)⟩) hq
        refine rel_tx hok r u s' t hr0 (fun k => ?_) he
        rcases h1 k with h2 | h2
        · rw [h2]; exact hr k
        · exact .inr h2
      · rw [List.filter_cons_of_pos (by simp [hx]), List.map_cons, runTx]
        obtain ⟨u', h1, h2⟩ := rel_run _ s s' u hr hq
        have he2 : (((dropL h n)[(rn n x).toNat]?.map Txn.Ops).getD []) = ((h[x.toNat]?.map Txn.Ops).getD []).filter (keepOp h n) := by
          rw [dropL_at]
          have : (if (rn n x).toNat < n then (rn n x).toNat else (rn n x).toNat + 1) = x.toNat := by
            unfold rn
            split <;> split <;> omega
          rw [this]
          cases h[x.toNat]? <;> rfl
        rw [he2, h1]
        exact rel_tx hok r u u' t hr0 h2 he
theorem ops_kind {h : List Txn} (hv : histV h = true) (n : Nat) : ∀ o ∈ opsAt h n, o.Kind = 1 ∨ o.Kind = 2 := fun o ho => by
  unfold opsAt at ho
  cases hg : h[n]? with
  | none => rw [hg] at ho; cases ho
  | some t =>
    rw [hg] at ho
    exact (opOk_parts ((txnOk_parts ((histV_parts hv).2 t (List.mem_of_getElem? hg))).1 o ho)).1
theorem drop_serial {h : List Txn} (hv : histV h = true) (hs : serX h = true) (n : Nat) : serX (dropL h n) = true := by
  unfold serX serF at hs ⊢
  cases ho : firstGood (runsOK h) (doneL h) with
  | none => rw [ho] at hs; cases hs
  | some o =>
    obtain ⟨h1, h2⟩ := firstGood_perm (doneI_nodup _ _) ho
    cases hf : firstGood (runsOK (dropL h n)) (doneL (dropL h n)) with
    | some o' => rfl
    | none =>
      have h3 := firstGood_none (doneI_nodup _ _) hf _ (rn_perm h n o h1)
      unfold runsOK at h2 h3
      cases hr : runTx h St0 o with
      | none => rw [hr] at h2; cases h2
      | some t =>
        obtain ⟨t', h4, _⟩ := rel_tx (ops_kind hv n) o St0 St0 t (fun x hx => (doneI_mem h _ x (h1.mem_iff.1 hx)).1) (fun _ => .inl rfl) hr
        rw [h4] at h3
        cases h3

theorem isW_drop {h : List Txn} (n m k : Nat) (hk : opsAt (dropL h n) k = (opsAt h m).filter (keepOp h n)) (x y : Int) : (opsAt (dropL h n) k).any (isW x y) = (opsAt h m).any (isW x y) := by
  rw [hk, List.any_filter]
  refine List.any_congr rfl fun o => ?_
  cases hw : isW x y o with
  | false => simp
  | true =>
    have : keepOp h n o = true := by
      simp only [isW, Bool.and_eq_true, beq_iff_eq] at hw
      unfold keepOp
      rw [hw.1.1]
      rfl
    rw [this]; rfl
theorem opsAt_drop (h : List Txn) (n k : Nat) : opsAt (dropL h n) k = (opsAt h (if k < n then k else k + 1)).filter (keepOp h n) := by
  unfold opsAt
  rw [dropL_at]
  cases h[if k < n then k else k + 1]? <;> rfl
theorem keep_drop (h : List Txn) (n k : Nat) (o : Op) : keepOp (dropL h n) k o = keepOp h (if k < n then k else k + 1) o := by
  unfold keepOp
  rw [isW_drop n _ k (opsAt_drop h n k)]
theorem drop_comm (h : List Txn) (n k : Nat) (hk : n ≤ k) : dropL (dropL h n) k = dropL (dropL h (k + 1)) n := by
  refine List.ext_getElem? fun j => ?_
  rw [dropL_at, dropL_at, dropL_at, dropL_at]
  have he : (if (if j < k then j else j + 1) < n then (if j < k then j else j + 1) else (if j < k then j else j + 1) + 1) = (if (if j < n then j else j + 1) < k + 1 then (if j < n then j else j + 1) else (if j < n then j else j + 1) + 1) := by
    (repeat' split) <;> omega
  rw [he]
  generalize (if (if j < n then j else j + 1) < k + 1 then (if j < n then j else j + 1) else (if j < n then j else j + 1) + 1) = m
  cases h[m]? with
  | none => rfl
  | some t =>
    simp only [Option.map_some, Option.some.injEq]
    unfold dropT
    simp only [List.filter_filter]
    congr 1
    refine List.filter_congr fun o _ => ?_
    rw [keep_drop, keep_drop, if_neg (by omega), if_pos (by omega), Bool.and_comm]
/-- Of what is left, no transaction that was tried can go. -/
theorem shr_least {xs : List Txn} (hv : histV xs = true) : ∀ j, j ≤ xs.length → ∀ k, xs.length - j ≤ k → k < (shrT xs j).length → serX (dropL (shrT xs j) k) = true
  | 0, _, k, h1, h2 => absurd h2 (by show ¬ k < xs.length; omega)
  | j + 1, hj, k, h1, h2 => by
    have ih := shr_least hv j (by omega)
    have hv' := shr_valid hv j
    have hl := shr_len (xs := xs) j (by omega)
    unfold shrT at h2 ⊢
    cases hs : serX (dropL (shrT xs j) (xs.length - 1 - j)) with
    | true =>
      rw [shrStep_t hs] at h2 ⊢
      by_cases he : k = xs.length - 1 - j
      · rw [he]; exact hs
      · exact ih k (by omega) h2
    | false =>
      rw [shrStep_f hs] at h2 ⊢
      rw [drop_comm _ _ _ (by omega)]
      have h3 := dropL_length (h := shrT xs j) (n := xs.length - 1 - j) (by omega)
      exact drop_serial (dropL_valid hv' _) (ih (k + 1) (by omega) (by omega)) _
theorem shr_bad {xs : List Txn} (hb : serX xs = false) : ∀ j, serX (shrT xs j) = false
  | 0 => hb
  | j + 1 => by
    unfold shrT
    cases hs : serX (dropL (shrT xs j) (xs.length - 1 - j)) with
    | true => rw [shrStep_t hs]; exact shr_bad hb j
    | false => rw [shrStep_f hs]; exact hs
theorem shr_stays {xs : List Txn} (h : ∀ k, k < xs.length → serX (dropL xs k) = true) : ∀ j, j ≤ xs.length → shrT xs j = xs
  | 0, _ => rfl
  | j + 1, hj => by
    unfold shrT
    rw [shr_stays h j (by omega), shrStep_t (h _ (by omega))]
theorem shr_shorter {xs : List Txn} : ∀ j, (shrT xs j).length ≤ xs.length
  | 0 => Nat.le_refl _
  | j + 1 => by
    have := shr_shorter (xs := xs) j
    unfold shrT shrStep
    split
    · exact this
    · have h2 := dropI_len (shrT xs j) (xs.length - 1 - j) (shrT xs j).length
      unfold dropL
      omega
theorem ser_nil : serX [] = true := by
  unfold serX serF
  cases hf : firstGood (runsOK []) (doneL []) with
  | some o => rfl
  | none => have := firstGood_none (doneI_nodup _ _) hf [] (List.Perm.refl _); cases this
/-- What is found bad: it is valid, has no serial order, is not empty and least; to shrink it again leaves it. -/
theorem bad_facts {xs : List Txn} (hb : badB xs = true) : histV (badR xs) = true ∧ serX (badR xs) = false ∧ (∀ k, k < (badR xs).length → serX (dropL (badR xs) k) = true) ∧ (badR xs).length ≤ xs.length ∧ 0 < (badR xs).length ∧ badB (badR xs) = true ∧ badR (badR xs) = badR xs := by
  have h0 := hb
  unfold badB at h0
  rw [Bool.and_eq_true, Bool.not_eq_true'] at h0
  have he : badR xs = shrT xs xs.length := by unfold badR; rw [if_pos hb]
  rw [he]
  have h1 := shr_valid h0.1 xs.length
  have h2 := shr_bad h0.2 xs.length
  have h3 : ∀ k, k < (shrT xs xs.length).length → serX (dropL (shrT xs xs.length) k) = true := fun k hk => shr_least h0.1 _ (Nat.le_refl _) k (by omega) hk
  have h4 : badB (shrT xs xs.length) = true := by unfold badB; rw [h1, h2]; rfl
  refine ⟨h1, h2, h3, shr_shorter _, ?_, h4, ?_⟩
  · rcases Nat.eq_zero_or_pos (shrT xs xs.length).length with h5 | h5
    · rw [List.eq_nil_of_length_eq_zero h5, ser_nil] at h2; cases h2
    · exact h5
  · have h5 := shr_stays h3 _ (Nat.le_refl _)
    show badR _ = _
    unfold badR
    rw [if_pos h4]
    exact h5
end Go.Proofs.YtaaagoppecnmmaaDoor
