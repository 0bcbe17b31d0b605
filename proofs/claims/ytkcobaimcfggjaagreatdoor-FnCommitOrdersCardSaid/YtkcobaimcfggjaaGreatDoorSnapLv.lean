/- The orders of values that commits make: they are valid, the reads are right, and no anomaly up to a single edge of the third kind is there. Plain laws. -/
import Derived.Test.YtkcobaimcfggjaaGreatDoorAno
import Derived.Test.YtkcobaimcfggjaaGreatDoorComI
namespace Go.Proofs.YtkcobaimcfggjaaGreatDoor
open Go.RowKit
set_option linter.unusedVariables false
set_option linter.unusedSimpArgs false

theorem comm_opt {key : Int} {l : Option Op} (hl : ∀ o, l = some o → o.Key = key) {b v u : St} {q : St × St} (h : comm b l.toList (v, u) = some q) :
    (∀ k, q.1 k = if k = key then (l.map Op.Value).getD (v key) else v k) ∧ (∀ k, k ≠ key → q.2 k = u k) ∧ (l.isSome = true → u key = b key) := by
  cases l with
  | none =>
    have : (v, u) = q := by simpa [comm] using h
    subst this
    exact ⟨fun k => by by_cases hk : k = key <;> simp [hk], fun _ _ => rfl, fun h => by cases h⟩
  | some o =>
    have ho := hl o rfl
    subst ho
    simp only [Option.toList, comm] at h
    split at h
    · rename_i hc
      rw [Option.some.injEq] at h
      subst h
      exact ⟨fun k => rfl, fun k hk => by show (if k = o.Key then _ else _) = _; rw [if_neg hk], fun _ => hc⟩
    · cases h
theorem comm_val {ops : List Op} {b v u : St} {q : St × St} (h : comm b (lastWs ops) (v, u) = some q) : ∀ key, key = 0 ∨ key = 1 ∨ key = 2 → q.1 key = ((lastW ops key).map Op.Value).getD (v key) ∧ ((lastW ops key).isSome = true → u key = b key) := by
  unfold lastWs at h
  rw [comm_append, comm_append] at h
  cases h0 : comm b (lastW ops 0).toList (v, u) with
  | none => rw [h0] at h; cases h
  | some q0 =>
    rw [h0, Option.bind_some] at h
    cases h1 : comm b (lastW ops 1).toList q0 with
    | none => rw [h1] at h; cases h
    | some q1 =>
      rw [h1, Option.bind_some] at h
      obtain ⟨e0, f0, g0⟩ := comm_opt (key := 0) (fun o ho => lastW_key ho) h0
      obtain ⟨e1, f1, g1⟩ := comm_opt (v := q0.1) (u := q0.2) (key := 1) (fun o ho => lastW_key ho) h1
      obtain ⟨e2, f2, g2⟩ := comm_opt (v := q1.1) (u := q1.2) (key := 2) (fun o ho => lastW_key ho) h
      intro key hk
      rw [e2, e1, e1, e0, e0, e0]
      rcases hk with rfl | rfl | rfl
      · exact ⟨by simp, g0⟩
      · exact ⟨by simp, fun hs => by rw [← g1 hs, f0 1 (by decide)]⟩
      · exact ⟨by simp, fun hs => by rw [← g2 hs, f1 2 (by decide), f0 2 (by decide)]⟩
theorem cOrd_app (p q : List Int) : ∀ k, k ≤ p.length → cOrd (p ++ q) k = cOrd p k
  | 0, _ => rfl
  | k + 1, hk => by
    have h1 := cOrd_app p q k (by omega)
    have h2 : (p ++ q).take k = p.take k := by rw [List.take_append_of_le_length (by omega)]
    have h3 : (p ++ q).getD k 0 = p.getD k 0 := by simp only [List.getD_eq_getElem?_getD]; rw [List.getElem?_append_left (by omega)]
    rw [cOrd, cOrd, h1, h2, h3]
theorem cOrd_has {p : List Int} : ∀ {k : Nat} {m : Int}, k ≤ p.length → (∀ n, p.count n ≤ 2) → (m ∈ cOrd p k ↔ 2 ≤ (p.take k).count m)
  | 0, m, _, _ => by simp [cOrd]
  | k + 1, m, hk, hc => by
    have hk' : k < p.length := by omega
    have h2 : (p.take (k + 1)).count p[k] ≤ 2 := Nat.le_trans ((List.take_sublist _ _).count_le _) (hc _)
    rw [cOrd_succ p k hk', List.mem_append, cOrd_has (k := k) (by omega) hc, count_take p m k hk']
    have h3 := count_take p p[k] k hk'
    rw [if_pos rfl] at h3
    constructor
    · rintro (h1 | h1)
      · omega
      · split at h1
        · rename_i h4
          rw [List.mem_singleton] at h1
          rw [beq_iff_eq] at h4
          subst h1
          rw [if_pos rfl]; omega
        · cases h1
    · intro h1
      by_cases he : p[k] = m
      · subst he
        rw [if_pos rfl] at h1
        refine .inr ?_
        rw [if_pos (by rw [beq_iff_eq]; omega)]
        simp
      · rw [if_neg he] at h1
        exact .inl (by omega)
theorem cOrd_nodup {p : List Int} (hc : ∀ n, p.count n ≤ 2) : ∀ k, k ≤ p.length → (cOrd p k).Nodup
  | 0, _ => List.nodup_nil
  | k + 1, hk => by
    have hk' : k < p.length := by omega
    rw [cOrd_succ p k hk', List.nodup_append]
    refine ⟨cOrd_nodup hc k (by omega), by split <;> simp, fun a ha b hb e => ?_⟩
    subst e
    split at hb
    · rename_i h4
      rw [List.mem_singleton] at hb
      rw [beq_iff_eq] at h4
      rw [cOrd_has (by omega) hc, hb] at ha
      omega
    · cases hb
theorem cOrd_split {p : List Int} : ∀ {k : Nat} {X Y : List Int} {n : Int}, k ≤ p.length → cOrd p k = X ++ n :: Y → ∃ t, ∃ ht : t < p.length, t < k ∧ p[t] = n ∧ (p.take t).count n = 1 ∧ cOrd p t = X
  | 0, X, Y, n, _, he => by cases X <;> cases he
  | k + 1, X, Y, n, hk, he => by
    have hk' : k < p.length := by omega
    rw [cOrd_succ p k hk'] at he
    split at he
    · rename_i h4
      rw [beq_iff_eq] at h4
      rcases List.append_eq_append_iff.1 he with ⟨a, h1, h2⟩ | ⟨a, h1, h2⟩
      · cases a with
        | nil =>
          have h5 : p[k] = n ∧ Y = [] := by simpa [eq_comm] using h2
          exact ⟨k, hk', by omega, h5.1, by rw [← h5.1]; exact h4, by rw [h1]; simp⟩
        | cons z a =>
          have : a ++ n :: Y = [] := by
            have := congrArg List.tail h2
            simpa using this.symm
          cases a <;> cases this
      · cases a with
        | nil =>
          have h5 : n = p[k] ∧ Y = [] := by simpa using h2
          exact ⟨k, hk', by omega, h5.1.symm, by rw [h5.1]; exact h4, by rw [h1]; simp⟩
        | cons z a =>
          have h5 : n = z ∧ Y = a ++ [p[k]] := by simpa using h2
          obtain ⟨t, ht, h6, h7⟩ := cOrd_split (p := p) (k := k) (X := X) (Y := a) (n := n) (by omega) (by rw [h1, ← h5.1])
          exact ⟨t, ht, by omega, h7⟩
    · rw [List.append_nil] at he
      obtain ⟨t, ht, h6, h7⟩ := cOrd_split (p := p) (k := k) (by omega) he
      exact ⟨t, ht, by omega, h7⟩
theorem cOrd_pre {p : List Int} : ∀ {k t : Nat}, t ≤ k → ∃ Y, cOrd p k = cOrd p t ++ Y
  | 0, t, h => ⟨[], by
    have h0 : t = 0 := by omega
    subst h0
    simp⟩
  | k + 1, t, h => by
    by_cases hk : t = k + 1
    · exact ⟨[], by rw [hk]; simp⟩
    · obtain ⟨Y, hY⟩ := cOrd_pre (p := p) (k := k) (t := t) (by omega)
      exact ⟨_, by rw [cOrd, hY, List.append_assoc]⟩
/-- What keys hold behind a part of a schedule. -/
theorem snap_val (h : List Txn) (p : List Int) : ∀ S, snapRun h SS0 p = some S → ∀ key, key = 0 ∨ key = 1 ∨ key = 2 → S.val key = (insK h key (cOrd p p.length)).getLast?.getD 0 := by
  refine snoc_ind (P := fun p => ∀ S, snapRun h SS0 p = some S → ∀ key, key = 0 ∨ key = 1 ∨ key = 2 → S.val key = (insK h key (cOrd p p.length)).getLast?.getD 0) ?_ ?_ p
  · intro S hS key _
    cases hS
    rfl
  · intro p n ih S hS key hk
    rw [snapRun_snoc] at hS
    cases hp : snapRun h SS0 p with
    | none => rw [hp] at hS; cases hS
    | some S0 =>
      rw [hp, Option.bind_some] at hS
      have h1 := ih S0 hp key hk
      have hseen : S0.seen = p := by
        have := (snapRun_seen hp).1
        rw [this]; rfl
      have hco : cOrd (p ++ [n]) (p ++ [n]).length = cOrd p p.length ++ (if p.count n == 1 then [n] else []) := by
        rw [List.length_append, List.length_singleton, cOrd_succ (p ++ [n]) p.length (by simp), cOrd_app p [n] p.length (Nat.le_refl _)]
        simp
      rw [hco, insK_append]
      unfold snapNext at hS
      split at hS
      · split at hS
        · rename_i hc0
          rw [hseen] at hc0
          split at hS
          · rw [Option.some.injEq] at hS
            subst hS
            rw [if_neg (by rw [hc0]; decide)]
            show S0.val key = _
            rw [h1]
            show _ = (insK h key (cOrd p p.length) ++ []).getLast?.getD 0
            rw [List.append_nil]
          · cases hS
        · rename_i hd hc0
          rw [hseen] at hd hc0
          simp only [Bool.and_eq_true, decide_eq_true_eq] at hd
          have hc1 : p.count n = 1 := by omega
          rw [Option.map_eq_some_iff] at hS
          obtain ⟨q, hq, rfl⟩ := hS
          have h2 := (comm_val hq key hk).1
          rw [if_pos (by rw [hc1]; rfl), insK_one]
          show q.1 key = _
          rw [h2, h1]
          cases hl : lastW (opsOf h n) key with
          | none => simp
          | some d => simp
      · cases hS
/-- a is committed before b begins. -/
def Rs (p : List Int) (a b : Int) : Prop := ∃ t, ∃ ht : t < p.length, p[t] = b ∧ (p.take t).count b = 0 ∧ (p.take t).count a = 2
theorem take_count_mono {p : List Int} {s t : Nat} (h : s ≤ t) (n : Int) : (p.take s).count n ≤ (p.take t).count n := by
  have : p.take s = (p.take t).take s := by rw [List.take_take, Nat.min_eq_left h]
  rw [this]
  exact (List.take_sublist _ _).count_le _
theorem Rs.trans {p : List Int} (hc : ∀ n, p.count n ≤ 2) {a b c : Int} (h1 : Rs p a b) (h2 : Rs p b c) : Rs p a c := by
  obtain ⟨t, ht, h3, h4, h5⟩ := h1
  obtain ⟨s, hs, h6, h7, h8⟩ := h2
  refine ⟨s, hs, h6, h7, ?_⟩
  have hts : t ≤ s := by
    refine Classical.byContradiction fun hno => ?_
    have := take_count_mono (p := p) (show s ≤ t by omega) b
    omega
  have h9 := take_count_mono (p := p) hts a
  have h10 := (List.take_sublist s p).count_le a
  have h11 := hc a
  omega
theorem Rs.irr {p : List Int} {a : Int} (h : Rs p a a) : False := by
  obtain ⟨t, _, _, h4, h5⟩ := h
  omega
/-- What is known of each step of a schedule that runs. -/
theorem snap_at {h : List Txn} {p : List Int} {S : SS} (hS : snapRun h SS0 p = some S) {t : Nat} (ht : t < p.length) : ∃ S1 S2, snapRun h SS0 (p.take t) = some S1 ∧ snapNext h S1 p[t] = some S2 := by
  have h1 : p = p.take t ++ p[t] :: p.drop (t + 1) := by rw [← List.drop_eq_getElem_cons ht, List.take_append_drop]
  rw [h1, snapRun_append] at hS
  cases h2 : snapRun h SS0 (p.take t) with
  | none => rw [h2] at hS; cases hS
  | some S1 =>
    rw [h2, Option.bind_some, snapRun] at hS
    cases h3 : snapNext h S1 p[t] with
    | none => rw [h3] at hS; cases hS
    | some S2 => exact ⟨S1, S2, rfl, h3⟩
theorem snap_begin {h : List Txn} {p : List Int} {S : SS} (hS : snapRun h SS0 p = some S) {t : Nat} (ht : t < p.length) (h0 : (p.take t).count p[t] = 0) {r : Op} (hr : r ∈ firstR (opsOf h p[t])) (hk : r.Key = 0 ∨ r.Key = 1 ∨ r.Key = 2) : (insK h r.Key (cOrd p t)).getLast?.getD 0 = r.Value := by
  obtain ⟨S1, S2, h1, h2⟩ := snap_at hS ht
  have hseen : S1.seen = p.take t := by rw [(snapRun_seen h1).1]; rfl
  have h3 := snap_val h (p.take t) S1 h1 r.Key hk
  have h4 : cOrd (p.take t) (p.take t).length = cOrd p t := by
    have := cOrd_app (p.take t) (p.drop t) (p.take t).length (Nat.le_refl _)
    rw [List.take_append_drop] at this
    rw [← this, List.length_take, Nat.min_eq_left (by omega)]
  rw [h4] at h3
  unfold snapNext at h2
  rw [hseen, h0] at h2
  split at h2
  · rw [if_pos rfl] at h2
    split at h2
    · rename_i hf
      unfold readsFit at hf
      rw [List.all_eq_true] at hf
      have := hf r hr
      rw [beq_iff_eq] at this
      rw [← h3, this]
    · cases h2
  · cases h2
/-- Of two that write a key the one that is committed earlier is so before the other begins. -/
theorem snap_ww {h : List Txn} {p : List Int} {S : SS} (hS : snapRun h SS0 p = some S) (hd : ∀ n ∈ p, dneOf h n = true) (hc : ∀ n, p.count n ≤ 2) {t : Nat} (ht : t < p.length) (h1 : (p.take t).count p[t] = 1) {a key : Int} (hk : key = 0 ∨ key = 1 ∨ key = 2) (h2 : 2 ≤ (p.take t).count a) (hla : (lastW (opsOf h a) key).isSome = true) (hlb : (lastW (opsOf h p[t]) key).isSome = true) : Rs p a p[t] := by
  obtain ⟨S1, S2, hs1, hs2⟩ := snap_at hS ht
  have hseen : S1.seen = p.take t := by rw [(snapRun_seen hs1).1]; rfl
  have hI := (snap_same h (p.take t) (fun n hn => hd n (List.mem_of_mem_take hn)) (fun n => Nat.le_trans ((List.take_sublist _ _).count_le _) (hc n))).2 S1 hs1
  have hlen : (p.take t).length = t := by rw [List.length_take]; omega
  unfold snapNext at hs2
  rw [hseen, h1] at hs2
  split at hs2
  · rw [if_neg (by decide), Option.map_eq_some_iff] at hs2
    obtain ⟨q, hq, _⟩ := hs2
    have hv := (comm_val hq key hk).2 hlb
    have hm : p[t] ∈ p.take t := by
      rw [← List.count_pos_iff]; omega
    rw [hI.ver key hk, hI.beg _ hm key hk, hlen] at hv
    have hi := List.idxOf_lt_length_of_mem hm
    rw [hlen] at hi
    generalize hig : (p.take t).idxOf p[t] = i at hv hi
    have hno : ¬ ∃ k, i ≤ k ∧ k < t ∧ isC h (p.take t) key k = true := fun hex => (verN_ne h (p.take t) key i t (by omega)).2 hex (by omega)
    have hat : p[i]'(by omega) = p[t] := by
      have := List.getElem_idxOf (x := p[t]) (xs := p.take t) (by rw [hlen, hig]; omega)
      simp only [hig, List.getElem_take] at this
      exact this
    have hfirst : (p.take i).count p[t] = 0 := by
      rw [List.count_eq_zero]
      intro hmem
      obtain ⟨j, hj, he⟩ := List.getElem_of_mem hmem
      rw [List.length_take] at hj
      have h5 : (p.take t).idxOf p[t] ≤ j := by
        refine Nat.le_of_not_lt fun hlt => ?_
        have := List.not_of_lt_findIdx (p := fun x => x == p[t]) (xs := p.take t) (i := j) (by unfold List.idxOf at hlt; exact hlt)
        rw [List.getElem_take] at this
        rw [List.getElem_take] at he
        rw [he] at this
        simp at this
      omega
    refine ⟨i, by omega, hat, by rw [← hat] at hfirst ⊢; exact hfirst, ?_⟩
    have hup : (p.take i).count a ≤ 2 := Nat.le_trans ((List.take_sublist _ _).count_le _) (hc a)
    refine Nat.le_antisymm hup (Nat.le_of_not_lt fun hlt => ?_)
    have hmem : a ∈ cOrd p t := (cOrd_has (by omega) hc).2 h2
    obtain ⟨X, Y, hXY⟩ := List.append_of_mem hmem
    obtain ⟨s, hs, hst, hsa, hs1', _⟩ := cOrd_split (by omega) hXY
    have his : i ≤ s := by
      refine Nat.le_of_not_lt fun hsi => ?_
      have h6 := take_count_mono (p := p) (show s + 1 ≤ i by omega) a
      rw [count_take p a s hs, if_pos hsa, hs1'] at h6
      omega
    refine hno ⟨s, his, hst, ?_⟩
    unfold isC
    have h7 : (p.take t).take s = p.take s := by rw [List.take_take, Nat.min_eq_left (by omega)]
    have h8 : (p.take t).getD s 0 = a := by
      rw [List.getD_eq_getElem?_getD, List.getElem?_take_of_lt hst, List.getElem?_eq_getElem hs, hsa]; rfl
    rw [h7, h8, hs1', hla]; rfl
  · cases hs2
structure SnapP (h : List Txn) (p : List Int) : Prop where
  run : ∃ S, snapRun h SS0 p = some S
  done : ∀ n ∈ p, dneOf h n = true
  two : ∀ n, p.count n ≤ 2
  perm : (cOrd p p.length).Perm (doneL h)
  fine : fineB h = true
  hv : histV h = true
theorem snapP_of {h : List Txn} {p : List Int} (hs : srB h p = true) : SnapP h p := by
  obtain ⟨hv, h12, hc, hd⟩ := srB_parts hs
  unfold srB at hs
  simp only [Bool.and_eq_true, decide_eq_true_eq] at hs
  obtain ⟨⟨⟨_, hf⟩, hl⟩, hr⟩ := hs
  refine ⟨Option.isSome_iff_exists.1 hr, hd, hc, ?_, hf, hv⟩
  have h2 := snap_right h p hl
  rw [hr, Bool.and_eq_true] at h2
  have h3 := h2.1
  unfold twoEach at h3
  rw [List.all_eq_true] at h3
  show List.Perm _ (doneI h h.length)
  rw [List.perm_ext_iff_of_nodup (cOrd_nodup hc _ (Nat.le_refl _)) (doneI_nodup h h.length)]
  show ∀ x, _ ↔ x ∈ doneL h
  intro x
  rw [cOrd_has (Nat.le_refl _) hc, List.take_length]
  constructor
  · intro hx
    exact done_mem (hd x (by rw [← List.count_pos_iff]; omega))
  · intro hx
    have := h3 x hx
    rw [beq_iff_eq] at this
    omega
/-- A read's transaction: where it begins. -/
theorem SnapP.begin_ {h : List Txn} {p : List Int} (hP : SnapP h p) {n : Int} (hn : dneOf h n = true) : ∃ t, ∃ ht : t < p.length, p[t] = n ∧ (p.take t).count n = 0 := by
  have hm : n ∈ cOrd p p.length := hP.perm.mem_iff.2 (done_mem hn)
  have hmem : n ∈ p := by
    have := (cOrd_has (Nat.le_refl _) hP.two).1 hm
    rw [List.take_length] at this
    rw [← List.count_pos_iff]; omega
  obtain ⟨x, y, hxy, hx⟩ := List.eq_append_cons_of_mem hmem
  refine ⟨x.length, by rw [hxy]; simp, ?_, ?_⟩
  · subst hxy; simp
  · rw [hxy]
    simp [List.count_eq_zero, hx]
theorem snap_reads {h : List Txn} {p : List Int} (hP : SnapP h p) : ReadsP h := by
  have hv := hP.hv
  obtain ⟨S, hS⟩ := hP.run
  refine ⟨fun n hn => (err_own (op_ok hv n)).1 (fineB_iff.1 hP.fine n hn), fun n hn r hr hr0 => ?_⟩
  obtain ⟨t, ht, rfl, h0⟩ := hP.begin_ hn
  have hk := (opOk_parts (op_ok hv _ r (first_read hr).1)).2.1
  have h1 := snap_begin hS ht h0 hr hk
  cases hg : (insK h r.Key (cOrd p t)).getLast? with
  | none => rw [hg] at h1; exact absurd h1.symm hr0
  | some z =>
    rw [hg] at h1
    have hz : z = r.Value := h1
    subst hz
    obtain ⟨m, hm, d, hd, hdv⟩ := insK_mem (List.mem_of_getLast? hg)
    have h2 := (cOrd_has (by omega) hP.two).1 hm
    have hmp : m ∈ p := List.mem_of_mem_take (i := t) (by rw [← List.count_pos_iff]; omega)
    obtain ⟨k, rfl, hk2, hdk⟩ := mem_num_done (done_mem (hP.done m hmp))
    refine ⟨_, by have := wrN_last hv hk2 hd; rw [hdv] at this; exact this, fun e => ?_, hdk, d, hd, hdv⟩
    rw [e] at h2
    omega
/-- Edges of the first two kinds lead from a commit to a later beginning. -/
theorem snap_flow {h : List Txn} {p : List Int} (hP : SnapP h p) {os : List (List Int)} (hos : ∀ key : Nat, key < 3 → os.getD key [] = insK h (key : Int) (cOrd p p.length)) {e : Edge} (he : EdgeP h os e) (hk : e.Kind ≠ 3) : Rs p e.From e.To := by
  have hv := hP.hv
  obtain ⟨S, hS⟩ := hP.run
  rcases he with ⟨key, hk3, P, x, y, q, hpe, a, b, ha, hb, rfl⟩ | ⟨n, hn, r, hrm, a, ha, hda, hne, rfl⟩ | ⟨n, hn, r, hrm, y, hny, b, hb, hne, rfl⟩
  · rw [hos key hk3] at hpe
    obtain ⟨p1, n1, q1, d1, hoe, h1, h2, h3, h4⟩ := insK_split hpe
    obtain ⟨p2, n2, q2, d2, hoe2, h5, h6, h7, h8⟩ := insK_split (show insK h (key : Int) q1 = [] ++ y :: q from h4)
    subst hoe2
    obtain ⟨m1, hm1, hl1, _⟩ := perm_num hP.perm (x := n1) (by rw [hoe]; simp)
    obtain ⟨m2, hm2, hl2, _⟩ := perm_num hP.perm (x := n2) (by rw [hoe]; simp)
    subst hm1; subst hm2
    have e1 := wrN_last hv hl1 h2
    have e2 := wrN_last hv hl2 h6
    rw [h3, ha, Option.some.injEq] at e1
    rw [h7, hb, Option.some.injEq] at e2
    subst e1; subst e2
    obtain ⟨t, ht, _, hpt, hc1, hcx⟩ := cOrd_split (X := p1 ++ (m1 : Int) :: p2) (Y := q2) (n := (m2 : Int)) (Nat.le_refl _) (by rw [hoe]; simp)
    have hm : (m1 : Int) ∈ cOrd p t := by rw [hcx]; simp
    have h9 := (cOrd_has (by omega) hP.two).1 hm
    have := snap_ww hS hP.done hP.two ht (by rw [hpt]; exact hc1) (key := (key : Int)) (by omega) h9 (by rw [h2]; rfl) (by rw [hpt, h6]; rfl)
    rw [hpt] at this
    exact this
  · obtain ⟨t, ht, rfl, h0⟩ := hP.begin_ hn
    have hk := (opOk_parts (op_ok hv _ r (first_read hrm).1)).2.1
    have h1 := snap_begin hS ht h0 hrm hk
    cases hg : (insK h r.Key (cOrd p t)).getLast? with
    | none =>
      rw [hg] at h1
      have h2 : r.Value = 0 := h1.symm
      rw [h2, wrN_zero hv] at ha
      cases ha
    | some z =>
      rw [hg] at h1
      have hz : z = r.Value := h1
      subst hz
      obtain ⟨m, hm, d, hd, hdv⟩ := insK_mem (List.mem_of_getLast? hg)
      have h2 := (cOrd_has (by omega) hP.two).1 hm
      have hmp : m ∈ p := List.mem_of_mem_take (i := t) (by rw [← List.count_pos_iff]; omega)
      obtain ⟨k, rfl, hk2, hdk⟩ := mem_num_done (done_mem (hP.done m hmp))
      have hw := wrN_last hv hk2 hd
      rw [hdv, ha, Option.some.injEq] at hw
      subst hw
      have hup : (p.take t).count (k : Int) ≤ 2 := Nat.le_trans ((List.take_sublist _ _).count_le _) (hP.two _)
      exact ⟨t, ht, rfl, h0, by show (p.take t).count (k : Int) = 2; omega⟩
  · exact absurd rfl hk
/-- No edge of the third kind leads to one that is committed before its reader begins. -/
theorem snap_over {h : List Txn} {p : List Int} (hP : SnapP h p) {os : List (List Int)} (hos : ∀ key : Nat, key < 3 → os.getD key [] = insK h (key : Int) (cOrd p p.length)) {e : Edge} (he : EdgeP h os e) (hk : e.Kind = 3) : ¬ Rs p e.To e.From := by
  have hv := hP.hv
  obtain ⟨S, hS⟩ := hP.run
  rcases he with ⟨key, hk3, P, x, y, q, hpe, a, b, ha, hb, rfl⟩ | ⟨n, hn, r, hrm, a, ha, hda, hne, rfl⟩ | ⟨n, hn, r, hrm, y, hny, b, hb, hne, rfl⟩
  · cases hk
  · cases hk
  · rintro ⟨t, ht, hpt, h0, h2⟩
    have hpt' : p[t] = n := hpt
    subst hpt'
    have hkr := (opOk_parts (op_ok hv _ r (first_read hrm).1)).2.1
    have h1 := snap_begin hS ht h0 hrm hkr
    have hk3 : r.Key.toNat < 3 := by omega
    have hkk : ((r.Key.toNat : Nat) : Int) = r.Key := by omega
    have hos' := hos _ hk3
    rw [hkk] at hos'
    obtain ⟨Y, hY⟩ := cOrd_pre (p := p) (k := p.length) (t := t) (by omega)
    rw [hY, insK_append] at hos'
    have hnd : (os.getD r.Key.toNat []).Nodup := by
      rw [hos', ← insK_append, ← hY]
      exact insK_nodup hv r.Key hP.perm
    have hyin : y ∈ os.getD r.Key.toNat [] := by
      rcases hny with ⟨_, q, h3⟩ | ⟨P, q, h3⟩ <;> rw [h3] <;> simp
    have hyA : y ∈ insK h r.Key (cOrd p t) := by
      have hy2 : y ∈ insK h r.Key (cOrd p p.length) := by rw [hY, insK_append, ← hos']; exact hyin
      obtain ⟨m, hm, d, hd, hdv⟩ := insK_mem hy2
      obtain ⟨k, rfl, hk2, hdk⟩ := perm_num hP.perm hm
      have hw := wrN_last hv hk2 hd
      rw [hdv, hb, Option.some.injEq] at hw
      subst hw
      rw [← hdv]
      have h2' : (p.take t).count (k : Int) = 2 := h2
      exact mem_insK ((cOrd_has (by omega) hP.two).2 (by omega)) hd
    generalize hA : insK h r.Key (cOrd p t) = A at h1 hos' hyA
    cases hg : A.getLast? with
    | none =>
      rw [List.getLast?_eq_none_iff] at hg
      rw [hg] at hyA
      cases hyA
    | some z =>
      rw [hg] at h1
      have hz : z = r.Value := h1
      subst hz
      obtain ⟨A', hA'⟩ := List.getLast?_eq_some_iff.1 hg
      rcases hny with ⟨h3, _⟩ | ⟨P, q, h3⟩
      · exact insK_ne0 hv (key := r.Key) (o := cOrd p t) (v := r.Value) (by rw [hA, hA']; simp) h3
      · have he2 : A' ++ r.Value :: insK h r.Key Y = P ++ r.Value :: y :: q := by
          rw [← h3, hos', hA']; simp
        rw [hos', hA'] at hnd
        have hnd1 : (A' ++ r.Value :: insK h r.Key Y).Nodup := by simpa using hnd
        obtain ⟨_, h5⟩ := split_uniq he2 (nodup_split hnd1).1 (nodup_split (he2 ▸ hnd1)).1
        rw [hA'] at hyA
        have hyB : y ∈ insK h r.Key Y := by rw [h5]; simp
        have hd3 := nodup_split hnd1
        rcases List.mem_append.1 hyA with h6 | h6
        · exact hd3.2.2 y h6 hyB
        · rw [List.mem_singleton] at h6
          exact hd3.2.1 (h6 ▸ hyB)
theorem comR_at {h : List Txn} {p : List Int} (hs : srB h p = true) : (comR h p).length = 3 ∧ ∀ key : Nat, key < 3 → (comR h p).getD key [] = insK h (key : Int) (cOrd p p.length) := by
  have : comR h p = instR h (cOrd p p.length) := by unfold comR; rw [if_pos hs]
  rw [this]
  refine ⟨rfl, fun key hk => ?_⟩
  match key, hk with
  | 0, _ => rfl
  | 1, _ => rfl
  | 2, _ => rfl
theorem snap_ord {h : List Txn} {p : List Int} (hs : srB h p = true) : ordB h (comR h p) = true := by
  obtain ⟨h3, hk⟩ := comR_at hs
  have hP := snapP_of hs
  exact serial_ord hP.hv hP.perm h3 hk
theorem snap_level {h : List Txn} {p : List Int} (hs : srB h p = true) : lavB h (comR h p) 3 = true := by
  have hP := snapP_of hs
  have ho := snap_ord hs
  obtain ⟨h3, hk⟩ := comR_at hs
  have hv := hP.hv
  have hE := edg_valid hv (comR h p)
  have htr : ∀ a b c : Nat, Rs p (a : Int) (b : Int) → Rs p (b : Int) (c : Int) → Rs p (a : Int) (c : Int) := fun a b c h1 h2 => h1.trans hP.two h2
  have hir : ∀ a : Nat, ¬ Rs p (a : Int) (a : Int) := fun a h1 => h1.irr
  have hflow : ∀ e ∈ edgR h (comR h p), e.Kind ≠ 3 → ∀ a b : Nat, e.From = (a : Int) → e.To = (b : Int) → Rs p (a : Int) (b : Int) := fun e he hne a b ha hb => by
    have := snap_flow hP hk ((edg_iff ho).1 he) hne
    rwa [ha, hb] at this
  have hover : ∀ e ∈ edgR h (comR h p), e.Kind = 3 → ∀ a b : Nat, e.From = (a : Int) → e.To = (b : Int) → ¬ Rs p (b : Int) (a : Int) := fun e he hne a b ha hb => by
    have := snap_over hP hk ((edg_iff ho).1 he) hne
    rwa [ha, hb] at this
  unfold lavB
  rw [ho, Bool.true_and, Bool.and_eq_true]
  refine ⟨by decide, ?_⟩
  unfold allB
  rw [(reads_iff hv).2 (snap_reads hP), Bool.or_true, Bool.and_true, List.all_eq_true]
  intro k hk9
  have hk3 : k = 0 ∨ k = 1 ∨ k = 2 := by
    have := List.mem_range.1 hk9
    have h4 : (3 : Int).toNat = 3 := rfl
    omega
  obtain ⟨a1, a2, a3, _⟩ := ano_three (many := (h.length : Int)) (xs := edgR h (comR h p))
  rcases hk3 with rfl | rfl | rfl
  · show (!anoB _ _ 1) = true
    rw [a1, no_round hE _ htr hir fun e he hks => hflow e he (by simp at hks; omega), Bool.and_false]; rfl
  · show (!anoB _ _ 2) = true
    rw [a2, no_round hE _ htr hir fun e he hks => hflow e he (by simp at hks; omega), Bool.and_false]; rfl
  · show (!anoB _ _ 3) = true
    rw [a3, no_sing hE htr (fun e he hks => hflow e he (by simp at hks; omega)) hover, Bool.and_false]; rfl
end Go.Proofs.YtkcobaimcfggjaaGreatDoor
