/- Plain laws: the values that an order of transactions installs for a key. Who writes a value: plain laws about valid histories. No program in sight. What the edges of a history say of serial orders. No program in sight. The program's WriterOf, for valid histories. Right reads: the kinds of bad reads, early reads, and what they say together. Plain laws about valid histories. -/
import Derived.Test.YtjiobgfaohldhaaGreatQSnapN
import Derived.Test.YtjiobgfaohldhaaGreatQInsS
import Derived.Test.YtjiobgfaohldhaaGreatQBadJ
namespace Go.Proofs.YtjiobgfaohldhaaGreat
open Go.RowKit Go.Maps
set_option linter.unusedVariables false
set_option linter.unusedSimpArgs false

theorem insK_instD (h : List Txn) (key : Int) (ns : List Int) : insK h key ns = instD h key ns := by
  unfold insK instD
  congr 1
  funext n
  unfold opsOf
  cases h[n.toNat]? with
  | none => rfl
  | some t => rfl
theorem insK_done (h : List Txn) (key : Int) : insK h key (doneL h) = instL h key := by rw [insK_instD, instD_all]
theorem insK_mem {h : List Txn} {key v : Int} {a : List Int} (hm : v ∈ insK h key a) : ∃ n ∈ a, ∃ d, lastW (opsOf h n) key = some d ∧ d.Value = v := by
  unfold insK at hm
  obtain ⟨n, hn, h1⟩ := List.mem_flatMap.1 hm
  cases hl : lastW (opsOf h n) key with
  | none => rw [hl] at h1; cases h1
  | some d => rw [hl] at h1; exact ⟨n, hn, d, hl, (by simpa using h1 : v = d.Value).symm⟩
theorem op_ok {h : List Txn} (hv : histV h = true) (n : Int) : ∀ o ∈ opsOf h n, opOk o = true := by
  intro o ho
  unfold opsOf at ho
  cases hx : h[n.toNat]? with
  | none => rw [hx] at ho; simp at ho
  | some t =>
    rw [hx] at ho
    exact (txnOk_parts ((histV_parts hv).2 t (List.mem_of_getElem? hx))).1 o (by simpa using ho)
theorem num_at {h : List Txn} : ∀ {i n : Nat} {o : Op}, (n, o) ∈ num h i ↔ ∃ k, ∃ hk : k < h.length, n = i + k ∧ o ∈ h[k].Ops := by
  induction h with
  | nil => intro i n o; simp [num]
  | cons t r ih =>
    intro i n o
    rw [num, List.mem_append, ih]
    constructor
    · rintro (hm | ⟨k, hk, rfl, ho⟩)
      · obtain ⟨o', ho, he⟩ := List.mem_map.1 hm
        simp only [Prod.mk.injEq] at he
        obtain ⟨rfl, rfl⟩ := he
        exact ⟨0, by simp, by simp, ho⟩
      · exact ⟨k + 1, by simpa using hk, by omega, by simpa using ho⟩
    · rintro ⟨k, hk, rfl, ho⟩
      cases k with
      | zero => exact .inl (List.mem_map.2 ⟨o, by simpa using ho, by simp⟩)
      | succ k => exact .inr ⟨k, by simpa using hk, by omega, by simpa using ho⟩
/-- The number of the transaction that writes a value to a key. -/
def wrN (h : List Txn) (key v : Int) : Option Int := look (num h 0) key v
theorem isW_iff {key v : Int} {o : Op} : isW key v o = true ↔ o.Kind = 2 ∧ o.Key = key ∧ o.Value = v := by
  simp [isW, and_assoc]
/-- A writer, if there is one. -/
theorem wrN_some {h : List Txn} {key v w : Int} (hw : wrN h key v = some w) : ∃ n : Nat, w = (n : Int) ∧ n < h.length ∧ ∃ o ∈ opsOf h (n : Int), o.Kind = 2 ∧ o.Key = key ∧ o.Value = v := by
  unfold wrN look at hw
  cases hf : (num h 0).find? (fun p => isW key v p.2) with
  | none => rw [hf] at hw; cases hw
  | some q =>
    rw [hf] at hw
    have h1 := List.mem_of_find?_eq_some hf
    have h2 := List.find?_some hf
    obtain ⟨n, o⟩ := q
    obtain ⟨k, hk, rfl, ho⟩ := num_at.1 h1
    refine ⟨0 + k, by simpa using hw.symm, by omega, o, ?_, isW_iff.1 h2⟩
    rw [Nat.zero_add, opsOf_nat hk]
    exact ho
/-- In a valid history it is the only one. -/
theorem wrN_is {h : List Txn} (hv : histV h = true) {n : Nat} (hn : n < h.length) {o : Op} (ho : o ∈ opsOf h (n : Int)) (h2 : o.Kind = 2) : wrN h o.Key o.Value = some (n : Int) := by
  obtain ⟨h6, hok⟩ := histV_parts hv
  have hF := (fresh_hist h6 hok).2 hv
  rw [opsOf_nat hn] at ho
  have hm : (n, o) ∈ num h 0 := num_at.2 ⟨n, hn, by omega, ho⟩
  obtain ⟨i, hi, he⟩ := List.getElem_of_mem hm
  have hl := hF i hi (by rw [he]; exact h2)
  rw [he] at hl
  have hs : num h 0 = (num h 0).take i ++ (n, o) :: (num h 0).drop (i + 1) := by
    rw [← he, ← List.drop_eq_getElem_cons hi, List.take_append_drop]
  unfold wrN
  rw [hs]
  unfold look at hl ⊢
  rw [List.find?_append]
  cases hf : (List.take i (num h 0)).find? (fun p => isW o.Key o.Value p.2) with
  | some q => rw [hf] at hl; cases hl
  | none =>
    rw [Option.none_or, List.find?_cons, show isW o.Key o.Value (n, o).2 = true from isW_iff.2 ⟨h2, rfl, rfl⟩]
    rfl
/-- What a transaction installs for a key is written by it. -/
theorem wrN_last {h : List Txn} (hv : histV h = true) {n : Nat} (hn : n < h.length) {key : Int} {d : Op} (hd : lastW (opsOf h (n : Int)) key = some d) : wrN h key d.Value = some (n : Int) := by
  obtain ⟨h1, h2, h3⟩ := lastW_some hd
  rw [← h3]
  exact wrN_is hv hn h1 h2
theorem mem_num_done {h : List Txn} {x : Int} (hx : x ∈ doneL h) : ∃ n : Nat, x = (n : Int) ∧ n < h.length ∧ dneOf h x = true := by
  have h1 := doneI_mem h h.length x hx
  have h2 := doneI_done h h.length x hx
  refine ⟨x.toNat, by omega, by omega, ?_⟩
  unfold dneOf
  rw [h2]
  simp
  omega
theorem done_mem {h : List Txn} {x : Int} (hx : dneOf h x = true) : x ∈ doneL h := by
  unfold dneOf at hx
  simp only [Bool.and_eq_true, decide_eq_true_eq] at hx
  obtain ⟨n, rfl⟩ : ∃ n : Nat, x = (n : Int) := ⟨x.toNat, by omega⟩
  exact mem_doneI h h.length n (by omega) hx.2
/-- A value of an order of values: who installs it. -/
theorem ins_ex {h : List Txn} (hv : histV h = true) {key v : Int} (hm : v ∈ instL h key) : ∃ n : Nat, n < h.length ∧ dneOf h (n : Int) = true ∧ (∃ d, lastW (opsOf h (n : Int)) key = some d ∧ d.Value = v) ∧ wrN h key v = some (n : Int) := by
  rw [← insK_done] at hm
  obtain ⟨x, hx, d, hd, rfl⟩ := insK_mem hm
  obtain ⟨n, rfl, hn, hdn⟩ := mem_num_done hx
  exact ⟨n, hn, hdn, ⟨d, hd, rfl⟩, wrN_last hv hn hd⟩
/-- a stands before b. -/
def Bef (o : List Int) (a b : Int) : Prop := ∃ p q, o = p ++ b :: q ∧ a ∈ p
theorem split_uniq {n : Int} : ∀ {p p' q q' : List Int}, p ++ n :: q = p' ++ n :: q' → n ∉ p → n ∉ p' → p = p' ∧ q = q'
  | [], [], q, q', h, _, _ => ⟨rfl, by simpa using h⟩
  | [], x :: p', q, q', h, _, h2 => by
    simp only [List.nil_append, List.cons_append, List.cons.injEq] at h
    exact absurd (by rw [h.1]; simp) h2
  | x :: p, [], q, q', h, h1, _ => by
    simp only [List.nil_append, List.cons_append, List.cons.injEq] at h
    exact absurd (by rw [h.1]; simp) h1
  | x :: p, y :: p', q, q', h, h1, h2 => by
    simp only [List.cons_append, List.cons.injEq] at h
    obtain ⟨rfl, h⟩ := h
    obtain ⟨h3, h4⟩ := split_uniq h (fun hm => h1 (List.mem_cons_of_mem _ hm)) (fun hm => h2 (List.mem_cons_of_mem _ hm))
    exact ⟨by rw [h3], h4⟩
theorem nodup_split {p q : List Int} {n : Int} (h : (p ++ n :: q).Nodup) : n ∉ p ∧ n ∉ q ∧ ∀ x ∈ p, x ∉ q := by
  rw [List.nodup_append] at h
  obtain ⟨h1, h2, h3⟩ := h
  rw [List.nodup_cons] at h2
  exact ⟨fun hm => h3 n hm n (by simp) rfl, h2.1, fun x hx hq => h3 x hx x (List.mem_cons_of_mem _ hq) rfl⟩
theorem Bef.pre {p q : List Int} {n a : Int} (hn : (p ++ n :: q).Nodup) (h : Bef (p ++ n :: q) a n) : a ∈ p := by
  obtain ⟨p', q', he, ha⟩ := h
  have h1 := nodup_split hn
  have h2 := nodup_split (he ▸ hn)
  obtain ⟨rfl, _⟩ := split_uniq he h1.1 h2.1
  exact ha
theorem Bef.post {p q : List Int} {n b : Int} (hn : (p ++ n :: q).Nodup) (h : Bef (p ++ n :: q) n b) : b ∉ p := fun hb => by
  obtain ⟨p', q', he, ha⟩ := h
  obtain ⟨c, d, rfl⟩ := List.append_of_mem hb
  have he' : c ++ b :: (d ++ n :: q) = p' ++ b :: q' := by rw [← he]; simp
  have hn' : (c ++ b :: (d ++ n :: q)).Nodup := by simpa using hn
  have h1 := nodup_split hn'
  have h2 := nodup_split (he' ▸ hn')
  obtain ⟨rfl, _⟩ := split_uniq he' h1.1 h2.1
  exact h1.2.2 n ha (by simp)
theorem Bef.trans {o : List Int} {a b c : Int} (hn : o.Nodup) (h : Bef o a b) (h2 : Bef o b c) : Bef o a c := by
  obtain ⟨p, q, rfl, hb⟩ := h2
  refine ⟨p, q, rfl, ?_⟩
  obtain ⟨c1, d, rfl⟩ := List.append_of_mem hb
  have hn' : (c1 ++ b :: (d ++ c :: q)).Nodup := by simpa using hn
  have h' : Bef (c1 ++ b :: (d ++ c :: q)) a b := by simpa using h
  exact List.mem_append_left _ (h'.pre hn')
theorem mem_firstRs {ops : List Op} : ∀ (k j : Nat), k ≤ ops.length → (hj : j < k) → ∀ hj' : j < ops.length, ops[j].Kind = 1 → lastOn (ops.take j) ops[j].Key = none → ops[j] ∈ firstRs ops k
  | 0, _, _, hj, _, _, _ => absurd hj (by omega)
  | k + 1, j, hk, hj, hj', h1, h2 => by
    rw [firstRs_succ ops k (by omega), List.mem_append]
    by_cases hjk : j = k
    · subst hjk
      refine .inr ?_
      rw [if_pos (by simp [h1, h2])]
      simp
    · exact .inl (mem_firstRs k j (by omega) (by omega) hj' h1 h2)
/-- The number of the writer, or -1. -/
def wrI (h : List Txn) (key v : Int) : Int := (wrN h key v).getD (-1)
set_option maxRecDepth 10000 in
set_option maxHeartbeats 2000000 in
theorem implWriterOf (xs : List Txn) (key v : Int) (A : Option Addr) (c : Nat) (w : World) (hv : histV xs = true) (hk0 : 0 ≤ key) (hk1 : key ≤ 1000000) (hv0 : 0 ≤ v) (hv1 : v ≤ 1000000) (hA : Row tTxn w (Old w) A xs) :
    Calls Tryz.prog 90 #[.slice A xs.length c, .int .i64 key, .int .i64 v] w fun e w' => e = .returned (.int .i64 (wrI xs key v)) ∧ Below w.heap.size w w' := by
  have h6 : xs.length ≤ 6 := (histV_parts hv).1
  have hok := (histV_parts hv).2
  have HC := hide (implHistoryValid xs A c w (by simp only [maxLen]; omega) hA)
  rw [hv] at HC
  have HW := hide (fun (W : World) (hb : Below w.heap.size w W) => writers_any xs A c W h6 (hA.old hb) hok)
  have HFr := hide ((fresh_hist h6 hok).2 hv)
  have hwk : (Lit.int .i64 key).wf = true := wf64_small hk0 hk1
  have hwv : (Lit.int .i64 v).wf = true := wf64_small hv0 hv1
  have HE := hide (show wrI xs key v = (look (num xs 0) key v).getD (-1) from rfl)
  clear hA hv hok hk0 hk1 hv0 hv1
  go_enter Tryz.func90, Tryz.ntmps90
  go_wp2_with (go_at_call 66; refine HC.out.mono ?_; rintro e w1 ⟨rfl, hb1⟩; have HB1 := hide hb1; clear hb1)
  refine (HW.out _ HB1.out).mono ?_
  rintro e w2 ⟨h2, hb2⟩
  have HB2 := hide (HB1.out.trans (hb2.mono HB1.out.size))
  rcases h2 with ⟨b, n, rfl, _, hbl, hT⟩ | ⟨rfl, hnf⟩
  · obtain ⟨D, hown, hD, hf⟩ := hT
    have hff := hf _ _ hwk hwv
    have HO := hide hown
    clear hown hD hf hbl hb2 HW HFr HC HB1
    cases hl : look (num xs 0) key v with
    | none =>
      have HR := hide (show wrI xs key v = -1 by rw [HE.out, hl]; rfl)
      have HH := hide (show Maps.has D (litW key v) = false by rw [hff.1, hl]; rfl)
      clear hff hl HE
      go_wp2_with (at_lookup; go_loud (refine wpList_lookup_own_ok_int _ rfl (.tmp 20) (.tmp 23) 123 rfl 139 3 .i64 keyedW Tryz.underlying123 Tryz.underlying3 (zeroIntW _) b n D rfl HO.out _ _ rfl (keyW _ _ hwk hwv) ?_; intro c9 hat hwc; rw [HH.out]))
      go_ret
      exact ⟨ret_int HR.out.symm, HB2.out⟩
    | some c8 =>
      have HR := hide (show wrI xs key v = c8 by rw [HE.out, hl]; rfl)
      have HH := hide (show Maps.has D (litW key v) = true by rw [hff.1, hl]; rfl)
      have HAt := hide (hff.2 c8 hl)
      clear hff hl HE
      go_wp2_with (at_lookup; go_loud (refine wpList_lookup_own_ok_int _ rfl (.tmp 20) (.tmp 23) 123 rfl 139 3 .i64 keyedW Tryz.underlying123 Tryz.underlying3 (zeroIntW _) b n D rfl HO.out _ _ rfl (keyW _ _ hwk hwv) ?_; intro c9 hat hwc; rw [HH.out]; rw [HAt.out] at hat; obtain rfl : c8 = c9 := by simpa using hat))
      go_ret
      exact ⟨ret_int HR.out.symm, HB2.out⟩
  · exact absurd HFr.out hnf
/-- A value is the last one that its writer writes to the key. -/
def lastB (h : List Txn) (key v : Int) : Bool := match wrN h key v with
  | some n => (match lastW (opsOf h n) key with | some d => d.Value == v | none => false)
  | none => false
/-- The kind of a bad read of a value of another transaction, or 0. -/
def kindB (h : List Txn) (n : Int) (o : Op) : Int :=
  if (!(o.Kind == 1) || o.Value == 0 || wrI h o.Key o.Value == n) then 0
  else if wrI h o.Key o.Value < 0 then 1
  else if dneOf h (wrI h o.Key o.Value) then (if lastB h o.Key o.Value then 0 else 3)
  else 2
def badO (h : List Txn) (kind : Int) (n : Int) (ops : List Op) : Nat → List Span
  | 0 => []
  | j + 1 => badO h kind n ops j ++ (match ops[j]? with | some o => if kindB h n o == kind then [⟨n, j⟩] else [] | none => [])
theorem badO_succ (h : List Txn) (kind n : Int) (ops : List Op) (j : Nat) (hj : j < ops.length) : badO h kind n ops (j + 1) = badO h kind n ops j ++ (if kindB h n ops[j] == kind then [⟨n, j⟩] else []) := by
  rw [badO, List.getElem?_eq_getElem hj]
theorem badO_len (h : List Txn) (kind n : Int) (ops : List Op) : ∀ j, (badO h kind n ops j).length ≤ j
  | 0 => Nat.le_refl _
  | j + 1 => by
    have := badO_len h kind n ops j
    rw [badO, List.length_append]
    split
    · split <;> simp <;> omega
    · simp; omega
/-- The bad reads of a kind of some transactions. -/
def badKs (h : List Txn) (kind : Int) (l : List Int) : List Span := l.flatMap fun n => badO h kind n (opsOf h n) (opsOf h n).length
theorem badKs_take (h : List Txn) (kind : Int) (l : List Int) (k : Nat) (hk : k < l.length) : badKs h kind (l.take (k + 1)) = badKs h kind (l.take k) ++ badO h kind l[k] (opsOf h l[k]) (opsOf h l[k]).length := by
  unfold badKs
  rw [List.take_succ_eq_append_getElem hk, List.flatMap_append]
  simp
theorem badKs_len {h : List Txn} (hv : ∀ t ∈ h, t.Ops.length ≤ 6) (kind : Int) : ∀ (l : List Int), (badKs h kind l).length ≤ 6 * l.length
  | [] => by simp [badKs]
  | n :: r => by
    have h1 := badKs_len hv kind r
    have h2 : (opsOf h n).length ≤ 6 := by
      unfold opsOf
      cases hx : h[n.toNat]? with
      | none => simp
      | some t => simpa using hv t (List.mem_of_getElem? hx)
    have h3 := badO_len h kind n (opsOf h n) (opsOf h n).length
    unfold badKs at h1 ⊢
    rw [List.flatMap_cons, List.length_append, List.length_cons]
    omega
theorem badKs_done (h : List Txn) (kind : Int) (k : Nat) (hk : k < h.length) : badKs h kind (doneI h (k + 1)) = badKs h kind (doneI h k) ++ (if h[k].Done then badO h kind (k : Int) h[k].Ops h[k].Ops.length else []) := by
  rw [doneI_succ h k hk]
  unfold badKs
  rw [List.flatMap_append]
  cases h[k].Done with
  | false => rfl
  | true => simp only [if_true, List.flatMap_cons, List.flatMap_nil, List.append_nil, opsOf_nat hk]
def badR (h : List Txn) (kind : Int) : List Span := badKs h kind (doneL h)
/-- A transaction reads a value before it writes it. -/
def earlyB : List Op → Bool
  | [] => false
  | o :: r => (o.Kind == 1 && r.any (isW o.Key o.Value)) || earlyB r
/-- The same, of first reads. -/
def earlyS (h : List Txn) (n : Int) (ops : List Op) : Bool := (firstR ops).any fun r => decide (0 < r.Value) && wrI h r.Key r.Value == n
def readsB (h : List Txn) : Bool := histV h && ((badR h 1).length == 0 && ((badR h 2).length == 0 && ((badR h 3).length == 0 && (fineB h && (doneL h).all fun n => !earlyB (opsOf h n)))))

theorem ownE_nil {who : Int} {ops : List Op} : ∀ {j : Nat}, j ≤ ops.length → (ownE who ops j = [] ↔ ∀ i (hi : i < ops.length), i < j → errAt ops i ops[i] = false)
  | 0, _ => ⟨fun _ _ _ h => absurd h (by omega), fun _ => rfl⟩
  | j + 1, hj => by
    have hj' : j < ops.length := by omega
    rw [ownE_succ who ops j hj', List.append_eq_nil_iff, ownE_nil (j := j) (by omega)]
    constructor
    · rintro ⟨h1, h2⟩ i hi hij
      rcases Nat.lt_succ_iff_lt_or_eq.1 hij with h3 | rfl
      · exact h1 i hi h3
      · cases he : errAt ops i ops[i] with
        | false => rfl
        | true => rw [he] at h2; cases h2
    · intro h1
      refine ⟨fun i hi hij => h1 i hi (by omega), ?_⟩
      rw [h1 j hj' (by omega)]; rfl
theorem fineB_iff {h : List Txn} : fineB h = true ↔ ∀ n, dneOf h n = true → ∀ i (hi : i < (opsOf h n).length), errAt (opsOf h n) i (opsOf h n)[i] = false := by
  unfold fineB
  rw [badS_eq, beq_iff_eq, List.length_eq_zero_iff]
  unfold badL
  rw [List.flatMap_eq_nil_iff]
  constructor
  · intro h1 n hn i hi
    exact (ownE_nil (Nat.le_refl _)).1 (h1 n (done_mem hn)) i hi hi
  · intro h1 n hn
    obtain ⟨m, rfl, hm, hd⟩ := mem_num_done hn
    exact (ownE_nil (Nat.le_refl _)).2 fun i hi _ => h1 _ hd i hi
/-- Reads have the value of the operation on the key that stands before them. -/
def OwnP (ops : List Op) : Prop := ∀ j (hj : j < ops.length), ops[j].Kind = 1 → ∀ q, lastOn (ops.take j) ops[j].Key = some q → q.Value = ops[j].Value
theorem err_own {ops : List Op} (hok : ∀ o ∈ ops, opOk o = true) : (∀ i (hi : i < ops.length), errAt ops i ops[i] = false) ↔ OwnP ops := by
  constructor
  · intro h1 j hj hk q hq
    have h2 := h1 j hj
    have h0 : 0 ≤ q.Value := (opOk_parts (hok q (List.mem_of_mem_take (lastOn_some hq).1))).2.2.1
    unfold errAt at h2
    rw [beforeV_some hq] at h2
    simpa [hk, h0] using h2
  · intro h1 j hj
    unfold errAt
    cases hq : lastOn (ops.take j) ops[j].Key with
    | none => rw [beforeV_none hq]; simp
    | some q =>
      rw [beforeV_some hq]
      by_cases hk : ops[j].Kind = 1
      · have := h1 j hj hk q hq
        simp [this]
      · simp [hk]
/-- A read goes back to a first read of the same value, or to a write of it. -/
theorem root {ops : List Op} (hok : ∀ o ∈ ops, opOk o = true) (hO : OwnP ops) : ∀ (N j : Nat), j < N → ∀ hj : j < ops.length, ops[j].Kind = 1 → (∃ r ∈ firstR ops, r.Key = ops[j].Key ∧ r.Value = ops[j].Value) ∨ ∃ i, ∃ hi : i < ops.length, i < j ∧ ops[i].Kind = 2 ∧ ops[i].Key = ops[j].Key ∧ ops[i].Value = ops[j].Value
  | 0, _, h0, _, _ => absurd h0 (by omega)
  | N + 1, j, hN, hj, hk => by
    cases hq : lastOn (ops.take j) ops[j].Key with
    | none => exact .inl ⟨ops[j], mem_firstRs _ j (Nat.le_refl _) hj hj hk hq, rfl, rfl⟩
    | some q =>
      have hv := hO j hj hk q hq
      obtain ⟨hm, hkey⟩ := lastOn_some hq
      obtain ⟨i, hi, he⟩ := List.getElem_of_mem hm
      rw [List.length_take] at hi
      have he' : ops[i]'(by omega) = q := by rw [← he]; simp
      rcases (opOk_parts (hok q (List.mem_of_mem_take hm))).1 with h1 | h2
      · rcases root hok hO N i (by omega) (by omega) (by rw [he']; exact h1) with ⟨r, hr, h3, h4⟩ | ⟨i', hi', h3, h4, h5, h6⟩
        · exact .inl ⟨r, hr, by rw [h3, he', hkey], by rw [h4, he', hv]⟩
        · exact .inr ⟨i', hi', by omega, h4, by rw [h5, he', hkey], by rw [h6, he', hv]⟩
      · exact .inr ⟨i, by omega, by omega, by rw [he']; exact h2, by rw [he', hkey], by rw [he', hv]⟩
/-- No transaction of a valid history writes a value twice. -/
theorem once_w {h : List Txn} (hv : histV h = true) {n : Nat} (hn : n < h.length) {ops : List Op} (hO : opsOf h (n : Int) = ops) {i j : Nat} (hj : j < ops.length) (hij : i < j) (h1 : ops[j].Kind = 2) (h2 : isW ops[j].Key ops[j].Value (ops[i]'(by omega)) = true) : False := by
  have hv' := hv
  unfold histV at hv'
  rw [Bool.and_eq_true, List.all_eq_true] at hv'
  have h5 := hv'.1 h[n] (List.getElem_mem hn)
  unfold txnFine at h5
  rw [Bool.and_eq_true, List.all_eq_true] at h5
  rw [opsOf_nat hn] at hO
  subst hO
  have h6 := h5.2 h[n].Ops[j] (List.getElem_mem hj)
  unfold opFine writesN at h6
  rw [h1] at h6
  simp only [beq_self_eq_true, Bool.true_and, Bool.not_eq_true', decide_eq_false_iff_not] at h6
  have h7 := tot_le (fun x : Txn => x.Ops.countP (isW h[n].Ops[j].Key h[n].Ops[j].Value)) h h[n] (List.getElem_mem hn)
  have h8 := countP_take (isW h[n].Ops[j].Key h[n].Ops[j].Value) h[n].Ops j hj
  rw [if_pos (by unfold isW; simp [h1])] at h8
  have h9 : 0 < (h[n].Ops.take j).countP (isW h[n].Ops[j].Key h[n].Ops[j].Value) := by
    rw [List.countP_pos_iff]
    refine ⟨h[n].Ops[i]'(by omega), ?_, h2⟩
    rw [List.mem_take_iff_getElem]
    exact ⟨i, by omega, rfl⟩
  have h10 := (List.take_sublist (j + 1) h[n].Ops).countP_le (p := isW h[n].Ops[j].Key h[n].Ops[j].Value)
  omega
theorem early_iff {ops : List Op} : earlyB ops = true ↔ ∃ i j, ∃ hi : i < ops.length, ∃ hj : j < ops.length, i < j ∧ ops[i].Kind = 1 ∧ isW ops[i].Key ops[i].Value ops[j] = true := by
  induction ops with
  | nil => simp [earlyB]
  | cons o r ih =>
    rw [earlyB, Bool.or_eq_true, ih, Bool.and_eq_true, beq_iff_eq, List.any_eq_true]
    constructor
    · rintro (⟨h1, x, hx, h2⟩ | ⟨i, j, hi, hj, h1, h2, h3⟩)
      · obtain ⟨j, hj, rfl⟩ := List.getElem_of_mem hx
        exact ⟨0, j + 1, by simp, by simpa using hj, by omega, h1, by simpa using h2⟩
      · exact ⟨i + 1, j + 1, by simpa using hi, by simpa using hj, by omega, by simpa using h2, by simpa using h3⟩
    · rintro ⟨i, j, hi, hj, h1, h2, h3⟩
      cases j with
      | zero => omega
      | succ j =>
        cases i with
        | zero => exact .inl ⟨h2, r[j]'(by simpa using hj), List.getElem_mem _, by simpa using h3⟩
        | succ i => exact .inr ⟨i, j, by simpa using hi, by simpa using hj, by omega, by simpa using h2, by simpa using h3⟩
theorem wrI_some {h : List Txn} {key v w : Int} (hw : wrN h key v = some w) : wrI h key v = w := by unfold wrI; rw [hw]; rfl
theorem wrI_nat {h : List Txn} {key v : Int} (h0 : 0 ≤ wrI h key v) : wrN h key v = some (wrI h key v) := by
  unfold wrI at h0 ⊢
  cases hw : wrN h key v with
  | none => rw [hw] at h0; exact absurd h0 (by decide)
  | some x => rfl
theorem dne_range {h : List Txn} {n : Int} (hd : dneOf h n = true) : ∃ m : Nat, n = (m : Int) ∧ m < h.length := by
  unfold dneOf at hd
  simp only [Bool.and_eq_true, decide_eq_true_eq] at hd
  exact ⟨n.toNat, by omega, by omega⟩
/-- Who writes a first read's value writes it behind it, if it is the reader. -/
theorem early_of {h : List Txn} (hv : histV h = true) {n : Int} (hn : dneOf h n = true) {r : Op} (hr : r ∈ firstR (opsOf h n)) (hw : wrN h r.Key r.Value = some n) : earlyB (opsOf h n) = true := by
  obtain ⟨j, hj, he, hk, hno⟩ := firstRs_at (opsOf h n) (opsOf h n).length (Nat.le_refl _) r hr
  obtain ⟨m, hm, _, o, ho, h2, h3, h4⟩ := wrN_some hw
  rw [← hm] at ho
  obtain ⟨i, hi, he2⟩ := List.getElem_of_mem ho
  rw [early_iff]
  refine ⟨j, i, hj, hi, ?_, hk, by rw [he2, isW_iff, ← he]; exact ⟨h2, h3, h4⟩⟩
  rcases Nat.lt_trichotomy i j with h5 | h5 | h5
  · exfalso
    have h6 : ∃ q, lastOn ((opsOf h n).take j) (opsOf h n)[j].Key = some q := by
      cases hq : lastOn ((opsOf h n).take j) (opsOf h n)[j].Key with
      | some q => exact ⟨q, rfl⟩
      | none =>
        unfold lastOn at hq
        rw [List.find?_eq_none] at hq
        have := hq (opsOf h n)[i] (by rw [List.mem_reverse, List.mem_take_iff_getElem]; exact ⟨i, by omega, rfl⟩)
        rw [he2, ← he, h3] at this
        simp at this
    rw [hno] at h6
    obtain ⟨q, hq⟩ := h6
    cases hq
  · exfalso
    subst h5
    rw [he2, h2] at hk
    omega
  · exact h5
/-- The two ways to ask for early reads are one, where reads fit what was done before. -/
theorem early_same {h : List Txn} (hv : histV h = true) (hf : fineB h = true) {n : Int} (hn : dneOf h n = true) : earlyS h n (opsOf h n) = earlyB (opsOf h n) := by
  have hO : OwnP (opsOf h n) := (err_own (op_ok hv n)).1 (fineB_iff.1 hf n hn)
  obtain ⟨m, hme, hm⟩ := dne_range hn
  subst hme
  rw [Bool.eq_iff_iff]
  unfold earlyS
  rw [List.any_eq_true]
  constructor
  · rintro ⟨r, hr, hc⟩
    simp only [Bool.and_eq_true, decide_eq_true_eq, beq_iff_eq] at hc
    exact early_of hv hn hr (by rw [wrI_nat (by rw [hc.2]; omega), hc.2])
  · intro he
    obtain ⟨i, j, hi, hj, hij, hk, hw⟩ := early_iff.1 he
    obtain ⟨w2, w3, w4⟩ := isW_iff.1 hw
    have hjm : (opsOf h (m : Int))[j] ∈ opsOf h (m : Int) := List.getElem_mem hj
    have hwr := wrN_is hv hm hjm w2
    rw [w3, w4] at hwr
    have hp := opOk_parts (op_ok hv _ _ (List.getElem_mem hj))
    have h0 : (opsOf h (m : Int))[i].Value ≠ 0 := by rw [← w4]; exact hp.2.2.2.2 w2
    rcases root (op_ok hv _) hO (i + 1) i (by omega) hi hk with ⟨r, hr, hk1, hv1⟩ | ⟨i', hi', hlt, hk2, hk1, hv1⟩
    · refine ⟨r, hr, ?_⟩
      rw [hk1, hv1, wrI_some hwr]
      have := (opOk_parts (op_ok hv _ _ (List.getElem_mem hi))).2.2.1
      simp only [Bool.and_eq_true, decide_eq_true_eq, beq_self_eq_true, and_true]
      omega
    · exact absurd (once_w hv hm rfl hj (by omega : i' < j) w2 (by rw [isW_iff, w3, w4]; exact ⟨hk2, hk1, hv1⟩)) (fun h => h)
/-- Right reads, as the reference asks. -/
theorem readsB_S {h : List Txn} : readsB h = (histV h && ((badR h 1).length == 0 && ((badR h 2).length == 0 && ((badR h 3).length == 0 && (fineB h && (doneL h).all fun n => !earlyS h n (opsOf h n)))))) := by
  unfold readsB
  cases hv : histV h with
  | false => rfl
  | true =>
    cases hf : fineB h with
    | false => simp
    | true =>
      congr 1; congr 1; congr 1; congr 1; congr 1
      rw [Bool.eq_iff_iff, List.all_eq_true, List.all_eq_true]
      constructor
      · intro h1 n hn
        obtain ⟨m, _, _, hd⟩ := mem_num_done hn
        rw [early_same hv hf hd]; exact h1 n hn
      · intro h1 n hn
        obtain ⟨m, _, _, hd⟩ := mem_num_done hn
        rw [← early_same hv hf hd]; exact h1 n hn
end Go.Proofs.YtjiobgfaohldhaaGreat
