/- Plain laws: a serial order with each number twice is a right schedule; what is found is right. -/
import Derived.Test.YtaaagoppecnmmaaGreatDoorSnapR
import Derived.Test.YtaaagoppecnmmaaGreatDoorSnapN
namespace Go.Proofs.YtaaagoppecnmmaaGreatDoor
open Go.RowKit
set_option linter.unusedVariables false
set_option linter.unusedSimpArgs false

def dup (o : List Int) : List Int := o.flatMap fun n => [n, n]
theorem dup_cons (n : Int) (o : List Int) : dup (n :: o) = n :: n :: dup o := rfl
theorem dup_len : ∀ o : List Int, (dup o).length = 2 * o.length
  | [] => rfl
  | n :: o => by rw [dup_cons, List.length_cons, List.length_cons, List.length_cons, dup_len o]; omega
theorem dup_append (a b : List Int) : dup (a ++ b) = dup a ++ dup b := by unfold dup; rw [List.flatMap_append]
theorem dup_count (n : Int) : ∀ o : List Int, (dup o).count n = 2 * o.count n
  | [] => rfl
  | m :: o => by
    rw [dup_cons, List.count_cons, List.count_cons, List.count_cons, dup_count n o]
    split <;> omega
theorem ok_of {h : List Txn} (hv : histV h = true) (n : Int) : ∀ o ∈ opsOf h n, opOk o = true := by
  intro o ho
  unfold opsOf at ho
  cases hx : h[n.toNat]? with
  | none => rw [hx] at ho; simp at ho
  | some t =>
    rw [hx] at ho
    exact (txnOk_parts ((histV_parts hv).2 t (List.mem_of_getElem? hx))).1 o (by simpa using ho)
theorem comm_one {key : Int} {u : St} {l : Option Op} (hl : ∀ o, l = some o → o.Key = key) (b v : St) (hb : u key = b key) :
    ∃ q, comm b l.toList (v, u) = some q ∧ (q.1 = fun k => if k = key then (l.map Op.Value).getD (v key) else v k) ∧ ∀ k, k ≠ key → q.2 k = u k := by
  cases l with
  | none => exact ⟨(v, u), rfl, by funext k; show v k = _; by_cases hk : k = key <;> simp [hk], fun _ _ => rfl⟩
  | some o =>
    have ho := hl o rfl
    subst ho
    refine ⟨(v.put o.Key o.Value, u.put o.Key (u o.Key + 1)), by simp only [Option.toList, comm]; rw [if_pos hb], ?_, fun k hk => by show (if k = o.Key then _ else _) = _; rw [if_neg hk]⟩
    funext k
    show (if k = o.Key then o.Value else v k) = _
    simp
/-- A commit where nothing was committed since the beginning. -/
theorem comm_self (ops : List Op) (u v : St) : ∃ q, comm u (lastWs ops) (v, u) = some q ∧ ∀ key, key = 0 ∨ key = 1 ∨ key = 2 → q.1 key = ((lastW ops key).map Op.Value).getD (v key) := by
  unfold lastWs
  rw [comm_append, comm_append]
  obtain ⟨q0, h0, e0, f0⟩ := comm_one (key := 0) (u := u) (l := lastW ops 0) (fun o ho => lastW_key ho) u v rfl
  obtain ⟨q1, h1, e1, f1⟩ := comm_one (key := 1) (u := q0.2) (l := lastW ops 1) (fun o ho => lastW_key ho) u q0.1 (f0 1 (by decide))
  obtain ⟨q2, h2, e2, f2⟩ := comm_one (key := 2) (u := q1.2) (l := lastW ops 2) (fun o ho => lastW_key ho) u q1.1 ((f1 2 (by decide)).trans (f0 2 (by decide)))
  rw [h0, Option.bind_some, h1, Option.bind_some, h2]
  refine ⟨q2, rfl, fun key hk => ?_⟩
  rw [e2, e1, e0]
  rcases hk with rfl | rfl | rfl <;> simp
theorem snap_dup {h : List Txn} (hv : histV h = true) : ∀ (r pre : List Int) (S : SS) (s t : St), (pre ++ r).Nodup → (∀ n ∈ r, dneOf h n = true) → S.seen = dup pre →
    (∀ key, key = 0 ∨ key = 1 ∨ key = 2 → S.val key = s key) → runTx h s r = some t → (snapRun h S (dup r)).isSome = true
  | [], _, _, _, _, _, _, _, _, _ => rfl
  | n :: r, pre, S, s, t, hn, hd, hS, hval, hr => by
    rw [runTx] at hr
    cases hq : runOps s ((h[n.toNat]?.map Txn.Ops).getD []) with
    | none => rw [hq] at hr; cases hr
    | some u =>
      rw [hq] at hr
      have hq' : runOps s (opsOf h n) = some u := hq
      have hok := ok_of hv n
      have hdn := hd n List.mem_cons_self
      have hnp : n ∉ pre := by
        have := (List.nodup_append.1 hn).2.2
        exact fun hm => this n hm n List.mem_cons_self rfl
      have hc0 : S.seen.count n = 0 := by rw [hS, dup_count, List.count_eq_zero.2 hnp]
      have hf : readsFit S.val (firstR (opsOf h n)) = true := by
        unfold readsFit
        rw [List.all_eq_true]
        intro o ho
        obtain ⟨h1, _, h3⟩ := run_first hq' o ho
        rw [hval o.Key (opOk_parts (hok o h1)).2.1, h3]
        exact beq_self_eq_true _
      rw [dup_cons, snapRun]
      have hs1 : snapNext h S n = some ⟨S.val, S.ver, fun m => if m = n then S.ver else S.beg m, S.seen ++ [n]⟩ := by
        unfold snapNext
        rw [hdn, hc0, hf]; rfl
      rw [hs1, Option.bind_some, snapRun]
      obtain ⟨q, hc, hqv⟩ := comm_self (opsOf h n) S.ver S.val
      have hs2 : snapNext h ⟨S.val, S.ver, fun m => if m = n then S.ver else S.beg m, S.seen ++ [n]⟩ n = some ⟨q.1, q.2, fun m => if m = n then S.ver else S.beg m, S.seen ++ [n] ++ [n]⟩ := by
        unfold snapNext
        have hc1 : (S.seen ++ [n]).count n = 1 := by rw [List.count_append, hc0]; simp
        simp only [hdn, hc1, if_true]
        rw [hc]; rfl
      rw [hs2, Option.bind_some]
      refine snap_dup hv r (pre ++ [n]) _ u t (by simpa using hn) (fun m hm => hd m (List.mem_cons_of_mem _ hm)) ?_ ?_ hr
      · show S.seen ++ [n] ++ [n] = _
        rw [hS, dup_append]; simp [dup]
      · intro key hk
        show q.1 key = u key
        rw [hqv key hk, run_lastW s _ (fun o ho => (opOk_parts (hok o ho)).1) u hq' key, hval key hk]
theorem own_none {s t : St} {ops : List Op} (hr : runOps s ops = some t) (who : Int) : ∀ j, j ≤ ops.length → ownE who ops j = []
  | 0, _ => rfl
  | j + 1, hj => by
    rw [ownE_succ who ops j hj, own_none hr who j (by omega)]
    obtain ⟨u, h1, h2⟩ := run_at hr j hj
    have h3 := run_last s _ u h1 ops[j].Key
    have : errAt ops j ops[j] = false := by
      unfold errAt
      by_cases hk : ops[j].Kind = 1
      · have h4 := h2 hk
        unfold beforeV
        cases hl : lastOn (ops.take j) ops[j].Key with
        | none => simp
        | some o =>
          rw [hl] at h3
          have : o.Value = ops[j].Value := by rw [← h4, h3]; rfl
          simp [this]
      · simp [hk]
    rw [this]; rfl
theorem fine_of_runs {h : List Txn} {o : List Int} (ho : ∀ n ∈ doneL h, n ∈ o) (hr : runsOK h o = true) : fineB h = true := by
  unfold runsOK at hr
  obtain ⟨t, ht⟩ := Option.isSome_iff_exists.1 hr
  unfold fineB
  rw [badS_eq]
  have : badL h (doneL h) = [] := by
    unfold badL
    rw [List.flatMap_eq_nil_iff]
    intro n hn
    obtain ⟨u, v, h1⟩ := run_each h o St0 t ht n (ho n hn)
    exact own_none h1 n _ (Nat.le_refl _)
  rw [this]; rfl
theorem dup_right {h : List Txn} {o : List Int} (hv : histV h = true) (ho : o.Perm (doneL h)) (hr : runsOK h o = true) : srB h (dup o) = true := by
  obtain ⟨t, ht⟩ := Option.isSome_iff_exists.1 (show (runTx h St0 o).isSome = true from hr)
  unfold srB
  rw [hv, fine_of_runs (fun n hn => ho.mem_iff.2 hn) hr, dup_len, ho.length_eq]
  simp only [decide_true, Bool.true_and]
  exact snap_dup hv o [] SS0 St0 t (by simpa using ho.nodup_iff.2 (doneI_nodup h _)) (fun n hn => (dneOf_mem h n).2 (ho.mem_iff.1 hn)) rfl (fun _ _ => rfl) ht
/-! ### What is found -/
theorem dfsN_right {h : List Txn} : ∀ (f : Nat) (p : List Int) (S : SS) (o : List Int), snapRun h SS0 p = some S → dfsN h f p S = some o → (snapRun h SS0 o).isSome = true ∧ o.length = p.length + f
  | 0, p, S, o, hS, hd => by
    rw [dfsN, Option.some.injEq] at hd
    subst hd
    rw [hS]; exact ⟨rfl, rfl⟩
  | f + 1, p, S, o, hS, hd => by
    rw [dfsN] at hd
    obtain ⟨d, hd1, hd2⟩ := List.exists_of_findSome?_eq_some hd
    cases hn : snapNext h S d with
    | none => rw [hn] at hd2; cases hd2
    | some S' =>
      rw [hn] at hd2
      obtain ⟨h1, h2⟩ := dfsN_right f (p ++ [d]) S' o (by rw [snapRun_snoc, hS]; exact hn) hd2
      exact ⟨h1, by rw [h2, List.length_append]; simp; omega⟩
theorem dfsN_some {h : List Txn} : ∀ (q p : List Int) (S : SS), (snapRun h S q).isSome = true → (dfsN h q.length p S).isSome = true
  | [], _, _, _ => rfl
  | d :: q, p, S, hq => by
    rw [snapRun] at hq
    cases hn : snapNext h S d with
    | none => rw [hn] at hq; cases hq
    | some S' =>
      rw [hn] at hq
      rw [List.length_cons, dfsN, List.findSome?_isSome_iff]
      exact ⟨d, (dneOf_mem h d).1 (snapNext_seen hn).2.1, by rw [hn]; exact dfsN_some q (p ++ [d]) S' hq⟩
end Go.Proofs.YtaaagoppecnmmaaGreatDoor
