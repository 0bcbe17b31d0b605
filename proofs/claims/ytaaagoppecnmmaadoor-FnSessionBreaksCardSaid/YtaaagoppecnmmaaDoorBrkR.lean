/- The pairs of transactions that break a promise of a session: the two ways to tell them are one. The program's breaks. The program's SessionBreaks. -/
import Derived.Test.YtaaagoppecnmmaaDoorVerO
import Derived.Test.YtaaagoppecnmmaaDoorSEdge
import Derived.Test.YtaaagoppecnmmaaDoorFirstI
import Derived.BigQuiet
import Derived.Test.YtaaagoppecnmmaaDoorHoldS
import Derived.StillTailTactics
namespace Go.Proofs.YtaaagoppecnmmaaDoor
open Go.RowKit
set_option linter.unusedVariables false
set_option linter.unusedSimpArgs false

def verAt (os : List (List Int)) (o : Op) : Int := verN7 (os.getD o.Key.toNat []) o.Value
def didOf (p : Int) (t : Txn) : List Op := if p = 2 then firstR t.Ops else lastWs t.Ops
def brkD (os : List (List Int)) (o d : Op) : Bool := d.Key == o.Key && (decide (0 ≤ verAt os o) && decide (verAt os o < verAt os d))
def brkO (os : List (List Int)) (did : List Op) (o : Op) : Bool := did.any (brkD os o)
def brkB (os : List (List Int)) (did rs : List Op) : Bool := rs.any (brkO os did)
def txAt (h : List Txn) (k : Nat) : Txn := h[k]?.getD ⟨0, [], false⟩
theorem txAt_nat (h : List Txn) (k : Nat) (hk : k < h.length) : txAt h k = h[k] := by unfold txAt; rw [List.getElem?_eq_getElem hk]; rfl
def brkS (h : List Txn) (os : List (List Int)) (p : Int) (k j : Nat) : Bool := sesAt h k == sesAt h j && brkB os (didOf p (txAt h k)) (firstR (txAt h j).Ops)
def brkP (h : List Txn) (os : List (List Int)) (p : Int) (k j : Nat) : Bool := doneAt h k && (doneAt h j && brkS h os p k j)
/-- The pairs of which the first one is k, and the second one is below m. -/
def rowK (h : List Txn) (os : List (List Int)) (p : Int) (k : Nat) : Nat → List (List Int)
  | 0 => []
  | m + 1 => rowK h os p k m ++ (if decide (k < m) && brkP h os p k m then [[(k : Int), (m : Int)]] else [])
def brkK (h : List Txn) (os : List (List Int)) (p : Int) : Nat → List (List Int)
  | 0 => []
  | k + 1 => brkK h os p k ++ rowK h os p k h.length
def brkR (h : List Txn) (os : List (List Int)) (p : Int) : List (List Int) := if ordB h os && inR p 1 2 then brkK h os p h.length else []
theorem rowK_low (h : List Txn) (os : List (List Int)) (p : Int) (k : Nat) : ∀ m, m ≤ k + 1 → rowK h os p k m = []
  | 0, _ => rfl
  | m + 1, hm => by
    rw [rowK, rowK_low h os p k m (by omega), decide_eq_false (by omega : ¬ k < m)]
    rfl
theorem rowK_len (h : List Txn) (os : List (List Int)) (p : Int) (k : Nat) : ∀ m, (rowK h os p k m).length ≤ m ∧ ∀ x ∈ rowK h os p k m, x.length = 2
  | 0 => by simp [rowK]
  | m + 1 => by
    have := rowK_len h os p k m
    rw [rowK, List.length_append]
    refine ⟨by split <;> simp <;> omega, fun x hx => ?_⟩
    rcases List.mem_append.1 hx with hx | hx
    · exact this.2 x hx
    · split at hx
      · simp at hx; subst hx; rfl
      · cases hx
theorem brkK_len (h : List Txn) (os : List (List Int)) (p : Int) : ∀ k, (brkK h os p k).length ≤ k * h.length ∧ ∀ x ∈ brkK h os p k, x.length = 2
  | 0 => by simp [brkK]
  | k + 1 => by
    have h1 := brkK_len h os p k
    have h2 := rowK_len h os p k h.length
    rw [brkK, List.length_append, Nat.add_mul, Nat.one_mul]
    refine ⟨by omega, fun x hx => ?_⟩
    rcases List.mem_append.1 hx with hx | hx
    · exact h1.2 x hx
    · exact h2.2 x hx
theorem brkR_len (h : List Txn) (os : List (List Int)) (p : Int) : (brkR h os p).length ≤ 1048576 ∧ ∀ x ∈ brkR h os p, x.length ≤ 1048576 := by
  unfold brkR
  split
  · rename_i hc
    rw [Bool.and_eq_true] at hc
    have hv : histV h = true := by
      have := hc.1
      unfold ordB at this
      rw [Bool.and_eq_true] at this
      exact this.1
    have h6 := (histV_parts hv).1
    have h1 := brkK_len h os p h.length
    have h2 : h.length * h.length ≤ 6 * 6 := Nat.mul_le_mul h6 h6
    exact ⟨by omega, fun x hx => by rw [h1.2 x hx]; omega⟩
  · exact ⟨by simp, fun x hx => by cases hx⟩
theorem doneAt_of (h : List Txn) (k : Nat) : ((h[k]?.map Txn.Done).getD false) = doneAt h k := rfl
theorem rowK_done (h : List Txn) (os : List (List Int)) (p : Int) (k : Nat) (hd : doneAt h k = true) : ∀ m, rowK h os p k m = (doneI h m).flatMap fun b => if decide ((k : Int) < b) && brkS h os p k b.toNat then [[(k : Int), b]] else []
  | 0 => rfl
  | m + 1 => by
    rw [rowK, doneI, List.flatMap_append, ← rowK_done h os p k hd m, doneAt_of]
    congr 1
    unfold brkP
    rw [hd]
    cases doneAt h m with
    | false => simp
    | true => simp
theorem rowK_not (h : List Txn) (os : List (List Int)) (p : Int) (k : Nat) (hd : doneAt h k = false) : ∀ m, rowK h os p k m = []
  | 0 => rfl
  | m + 1 => by
    rw [rowK, rowK_not h os p k hd m]
    unfold brkP
    rw [hd]
    simp
theorem brkK_flat (h : List Txn) (os : List (List Int)) (p : Int) : ∀ n, brkK h os p n = (doneI h n).flatMap fun a => rowK h os p a.toNat h.length
  | 0 => rfl
  | n + 1 => by
    rw [brkK, doneI, List.flatMap_append, ← brkK_flat h os p n, doneAt_of]
    congr 1
    cases hd : doneAt h n with
    | false => rw [rowK_not h os p n hd]; simp
    | true => simp
theorem doneI_inc (h : List Txn) : ∀ k, (doneI h k).Pairwise (· < ·)
  | 0 => List.Pairwise.nil
  | k + 1 => by
    rw [doneI, List.pairwise_append]
    refine ⟨doneI_inc h k, by split <;> simp, fun a ha b hb => ?_⟩
    have := doneI_mem h k a ha
    split at hb
    · simp at hb; omega
    · cases hb
theorem flatMap_same {α β : Type} {f g : α → List β} : ∀ {l : List α}, (∀ x ∈ l, f x = g x) → l.flatMap f = l.flatMap g
  | [], _ => rfl
  | x :: l, h => by
    rw [List.flatMap_cons, List.flatMap_cons, h x (by simp), flatMap_same fun y hy => h y (by simp [hy])]
/-- The pair of a and b, if it breaks the promise. -/
def fromA (h : List Txn) (os : List (List Int)) (p a b : Int) : List (List Int) := if brkS h os p a.toNat b.toNat then [[a, b]] else []
theorem rowK_rest (h : List Txn) (os : List (List Int)) (p : Int) (i : Nat) (hi : i < (doneL h).length) :
    rowK h os p (doneL h)[i].toNat h.length = ((doneL h).drop (i + 1)).flatMap (fromA h os p (doneL h)[i]) := by
  have hm := doneI_mem h h.length _ (List.getElem_mem hi)
  have hd := doneI_done h h.length _ (List.getElem_mem hi)
  have hp := doneI_inc h h.length
  rw [rowK_done h os p _ hd]
  change (doneL h).flatMap _ = _
  generalize hk : (doneL h)[i] = a at hm hd
  obtain ⟨n, rfl⟩ : ∃ n : Nat, a = (n : Int) := ⟨a.toNat, by omega⟩
  rw [Int.toNat_natCast]
  have hsp : doneL h = (doneL h).take (i + 1) ++ (doneL h).drop (i + 1) := (List.take_append_drop _ _).symm
  have hq : List.Pairwise (· < ·) (doneL h) := hp
  rw [List.pairwise_iff_getElem] at hq
  have h1 : ((doneL h).take (i + 1)).flatMap (fun b => if decide ((n : Int) < b) && brkS h os p n b.toNat then [[(n : Int), b]] else []) = [] := by
    rw [List.flatMap_eq_nil_iff]
    intro b hb
    obtain ⟨j, hj, rfl⟩ := List.getElem_of_mem hb
    rw [List.length_take] at hj
    rw [List.getElem_take]
    have hle : (doneL h)[j] ≤ (n : Int) := by
      rcases Nat.lt_or_ge j i with hlt | hge
      · have := hq j i (by omega) hi hlt
        omega
      · obtain rfl : j = i := by omega
        omega
    rw [decide_eq_false (by omega : ¬ (n : Int) < (doneL h)[j])]
    rfl
  have h2 : ((doneL h).drop (i + 1)).flatMap (fun b => if decide ((n : Int) < b) && brkS h os p n b.toNat then [[(n : Int), b]] else []) = ((doneL h).drop (i + 1)).flatMap (fromA h os p (n : Int)) := by
    refine flatMap_same fun b hb => ?_
    obtain ⟨j, hj, rfl⟩ := List.getElem_of_mem hb
    rw [List.length_drop] at hj
    rw [List.getElem_drop]
    have := hq i (i + 1 + j) hi (by omega) (by omega)
    unfold fromA
    rw [decide_eq_true (by omega : (n : Int) < (doneL h)[i + 1 + j]), Bool.true_and, Int.toNat_natCast]
  conv => lhs; rw [hsp]
  rw [List.flatMap_append, h1, h2, List.nil_append]

/-- The latest version of a key among the first k operations. -/
def seenK (os : List (List Int)) (did : List Op) (key : Int) : Nat → Int
  | 0 => -1
  | k + 1 => if (did[k]?.getD ⟨0, 0, 0⟩).Key = key then max (seenK os did key k) (verAt os (did[k]?.getD ⟨0, 0, 0⟩)) else seenK os did key k
theorem seenK_succ (os : List (List Int)) (did : List Op) (key : Int) (k : Nat) (hk : k < did.length) : seenK os did key (k + 1) = if did[k].Key = key then max (seenK os did key k) (verAt os did[k]) else seenK os did key k := by
  rw [seenK, List.getElem?_eq_getElem hk]; rfl
theorem seenK_lt (os : List (List Int)) (did : List Op) (key n : Int) (h0 : 0 ≤ n) : ∀ k, k ≤ did.length → decide (n < seenK os did key k) = (did.take k).any fun d => d.Key == key && decide (n < verAt os d)
  | 0, _ => by rw [seenK, List.take_zero, List.any_nil]; exact decide_eq_false (by omega)
  | k + 1, hk => by
    have hk1 : k < did.length := by omega
    rw [seenK_succ os did key k hk1, List.take_succ_eq_append_getElem hk1, List.any_append, ← seenK_lt os did key n h0 k (by omega)]
    simp only [List.any_cons, List.any_nil, Bool.or_false]
    by_cases he : did[k].Key = key
    · rw [if_pos he, beq_iff_eq.2 he, Bool.true_and, Bool.eq_iff_iff]
      simp only [decide_eq_true_eq, Bool.or_eq_true]
      omega
    · rw [if_neg he, beq_eq_false_iff_ne.2 he, Bool.false_and, Bool.or_false]
theorem brkO_seen (os : List (List Int)) (did : List Op) (o : Op) : brkO os did o = (decide (0 ≤ verAt os o) && decide (verAt os o < seenK os did o.Key did.length)) := by
  unfold brkO
  by_cases h0 : 0 ≤ verAt os o
  · rw [seenK_lt os did o.Key _ h0 did.length (Nat.le_refl _), List.take_length, decide_eq_true h0, Bool.true_and]
    congr 1
    funext d
    unfold brkD
    rw [decide_eq_true h0, Bool.true_and]
  · rw [decide_eq_false h0, Bool.false_and, List.any_eq_false]
    intro d _
    unfold brkD
    rw [decide_eq_false h0]
    simp
theorem verN7_ge (o : List Int) (v : Int) : -1 ≤ verN7 o v ∧ verN7 o v ≤ o.length := by
  unfold verN7
  rcases idx_lt7 (fun y => v == y) o with h | ⟨i, hi, h⟩
  · rw [h]; split
    · omega
    · rw [if_neg (by omega)]; omega
  · rw [h]; split
    · omega
    · rw [if_pos (by omega)]; omega
theorem seenK_bd (os : List (List Int)) (did : List Op) (key : Int) (hs : ∀ o ∈ os, o.length ≤ 1048576) : ∀ k, -1 ≤ seenK os did key k ∧ seenK os did key k ≤ 1048576
  | 0 => by simp [seenK]
  | k + 1 => by
    have h1 := seenK_bd os did key hs k
    rw [seenK]
    have h2 : verAt os (did[k]?.getD ⟨0, 0, 0⟩) ≤ 1048576 := by
      unfold verAt
      have h3 := (verN7_ge (os.getD (did[k]?.getD ⟨0, 0, 0⟩).Key.toNat []) (did[k]?.getD ⟨0, 0, 0⟩).Value).2
      have h4 : (os.getD (did[k]?.getD ⟨0, 0, 0⟩).Key.toNat []).length ≤ 1048576 := by
        rw [List.getD_eq_getElem?_getD]
        cases hx : os[(did[k]?.getD ⟨0, 0, 0⟩).Key.toNat]? with
        | none => simp
        | some z => exact hs z (List.mem_of_getElem? hx)
      omega
    split <;> omega
theorem firstR_mem (ops : List Op) : ∀ k, ∀ o ∈ firstRs ops k, o ∈ ops
  | 0, o, ho => by cases ho
  | k + 1, o, ho => by
    rw [firstRs, List.mem_append] at ho
    rcases ho with ho | ho
    · exact firstR_mem ops k o ho
    · split at ho
      · rename_i x hx
        split at ho
        · simp at ho; subst ho; exact List.mem_of_getElem? hx
        · cases ho
      · cases ho
theorem lastWs_mem (ops : List Op) : ∀ o ∈ lastWs ops, o ∈ ops := by
  intro o ho
  have hk : ∀ key, o ∈ (lastW ops key).toList → o ∈ ops := fun key h => by
    cases hx : lastW ops key with
    | none => rw [hx] at h; cases h
    | some x => rw [hx] at h; simp at h; subst h; exact (lastW_some hx).1
  unfold lastWs at ho
  rcases List.mem_append.1 ho with ho | ho
  · rcases List.mem_append.1 ho with ho | ho
    · exact hk 0 ho
    · exact hk 1 ho
  · exact hk 2 ho
theorem didOf_mem (p : Int) (t : Txn) : ∀ o ∈ didOf p t, o ∈ t.Ops := by
  unfold didOf
  split
  · exact fun o ho => firstR_mem _ _ o ho
  · exact lastWs_mem _
theorem lastWs_len (ops : List Op) : (lastWs ops).length ≤ 3 := by
  unfold lastWs
  rw [List.length_append, List.length_append]
  have hk : ∀ key, (lastW ops key).toList.length ≤ 1 := fun key => by cases lastW ops key <;> simp
  have := hk 0; have := hk 1; have := hk 2
  omega
theorem didOf_len (p : Int) (t : Txn) (h : t.Ops.length ≤ 6) : (didOf p t).length ≤ 6 := by
  unfold didOf
  split
  · exact Nat.le_trans (firstRs_len _ _) h
  · have := lastWs_len t.Ops; omega
theorem key_nat {o : Op} (h : opOk o = true) : ∃ m : Nat, m < 3 ∧ o.Key = (m : Int) := ⟨o.Key.toNat, by have := opOk_parts h; omega⟩
theorem verAt_nat {os : List (List Int)} {o : Op} {m : Nat} (hm : m < os.length) (hk : o.Key = (m : Int)) : verAt os o = verN7 os[m] o.Value := by
  unfold verAt
  rw [hk, Int.toNat_natCast, getD_at hm]
set_option maxRecDepth 10000 in
set_option maxHeartbeats 4000000 in
theorem implBreaks (os : List (List Int)) (did : List Op) (t : Txn) (B D A : Option Addr) (c d e : Nat) (w : World) (hl3 : 3 ≤ os.length) (hmo : os.length ≤ 1048576) (hsz : ∀ o ∈ os, o.length ≤ 1048576) (hdl : did.length ≤ 6) (hdk : ∀ o ∈ did, opOk o = true) (h6 : t.Ops.length ≤ 6) (hok : ∀ o ∈ t.Ops, opOk o = true) (hB : Row (tSlice tInt) w (Old w) B os) (hD : Row tOp w (Old w) D did) (hA : Row tOp w (Old w) A t.Ops) :
    Calls Tryd.prog 101 #[.slice B os.length d, .slice D did.length e, .agg #[.int .i64 t.Session, .slice A t.Ops.length c, .bool t.Done]] w fun e w' => e = .returned (.bool (brkB os did (firstR t.Ops))) ∧ Below w.heap.size w w' := by
  have HFr := hide (implFirstReads t A c (w.alloc (.cells #[.int .i64 t.Session, .slice A t.Ops.length c, .bool t.Done] 42)) h6 hok (hA.old ((Below.refl _ w).alloc (Nat.le_refl _) _)))
  have HRm := hide (fun o (ho : o ∈ firstR t.Ops) => hok o (firstR_mem _ _ o ho))
  have hrl : (firstR t.Ops).length ≤ 6 := Nat.le_trans (firstRs_len _ _) h6
  have HBa := hide ((Below.refl _ w).alloc (Nat.le_refl _) (.cells #[.int .i64 t.Session, .slice A t.Ops.length c, .bool t.Done] 42))
  have HRB := hide (show brkB os did (firstR t.Ops) = (firstR t.Ops).any (brkO os did) from rfl)
  generalize firstR t.Ops = rs at HFr HRm hrl HRB ⊢
  generalize brkB os did rs = Res at HRB ⊢
  have HOs := hide hB; have HD := hide hD; have HSz := hide hsz; have HDk := hide hdk
  have hq1 : rs.length ≤ 9223372036854775807 := by omega
  have hq2 : did.length ≤ 9223372036854775807 := by omega
  have hq3 : os.length ≤ 9223372036854775807 := by omega
  clear hB hD hsz hdk hA hok
  go_enter Tryd.func101, Tryd.ntmps101
  go_wp2_with (go_at_call 100; refine HFr.out.mono ?_; rintro e w1 ⟨v1, rfl, hS1, hb1⟩; obtain ⟨A1, c1, rfl, h11, h12, hR1⟩ := hS1; have HR1 := hide (hR1.mono (S' := Old w1) (fun b h => h.2) (fun _ _ => rfl)); have HB1 := hide (HBa.out.trans (hb1.mono HBa.out.size)); clear hb1 hR1)
  clear HFr HBa
  go_loopw [8, 9, 11, 15] (fun _ _ _ i wr => ∃ k : Nat, k ≤ rs.length ∧ i = .int .i64 k ∧ Hid (∀ j (hj : j < rs.length), j < k → brkO os did rs[j] = false) ∧ Hid (Below w1.heap.size w1 wr)) (fun _ _ _ i _ => rs.length - (intOf i).toNat)
  case atStart => exact ⟨0, Nat.zero_le _, rfl, (fun j hj h => absurd h (by omega)), Below.refl _ _⟩
  case round =>
    obtain ⟨k, hk, rfl, hN, hb⟩ := hrel
    have HN := hide hN.out; have HBw := hide hb.out
    clear hN hb
    by_cases hlt : k < rs.length
    · obtain ⟨b, off, rfl, hbS, d0, d1, d2⟩ := at_Op HR1.out HBw.out hlt
      obtain ⟨m, hm3, hkm⟩ := key_nat (HRm.out _ (List.getElem_mem hlt))
      have hmo2 : m < os.length := by omega
      have HV := hide (verAt_nat hmo2 hkm)
      have HHit := hide (fun (h : brkO os did rs[k] = true) => (show Res = true by rw [HRB.out, List.any_eq_true]; exact ⟨_, List.getElem_mem hlt, h⟩))
      have HMs := hide (fun (h : brkO os did rs[k] = false) => (show ∀ j (hj : j < rs.length), j < k + 1 → brkO os did rs[j] = false from fun j hj h1 => by
        by_cases hjk : j < k
        · exact HN.out j hj hjk
        · obtain rfl : j = k := by omega
          exact h))
      have HOd := hide (show brkO os did rs[k] = did.any (brkD os rs[k]) from rfl)
      generalize hrk : rs[k] = o at d0 d1 d2 hkm HV HHit HMs HOd
      have HBD := hide (show ∀ x, brkD os o x = (x.Key == o.Key && (decide (0 ≤ verAt os o) && decide (verAt os o < verAt os x))) from fun x => rfl)
      generalize brkO os did o = Bo at HHit HMs HOd
      obtain ⟨Kd, Ky, Vl⟩ := o
      dsimp only at d0 d1 d2 hkm HV HBD
      subst hkm
      have hol := HSz.out _ (List.getElem_mem hmo2)
      clear hrk
      go_upto_region 4 with (fail)
      generalize hW : World.alloc _ _ = W
      have hx : Blk W wr.heap.size 71 #[.int .i64 Kd, .int .i64 m, .int .i64 Vl] := by rw [← hW]; exact Blk.new wr _ _
      have hBW : Below w1.heap.size w1 W := by rw [← hW]; exact HBw.out.alloc HBw.out.size _
      have HX := hide hx
      have x0 := hx.cell 0; have x1 := hx.cell 1; have x2 := hx.cell 2
      simp only [List.getElem?_toArray, List.getElem?_cons_zero, List.getElem?_cons_succ] at x0 x1 x2
      have HBW := hide (HB1.out.trans (hBW.mono HB1.out.size))
      obtain ⟨b3, off3, A3, c3, hBe, hb3S, y0, hs1, hs2, hs3⟩ := at_IntS HOs.out HBW.out hmo2
      subst hBe
      have HVr := hide (fun n => implVersion os[m] Vl A3 c3 (W.drewN n) hol (hs3.mono (fun _ h => h) (fun _ _ => rfl)))
      have HW1 := hide hBW
      clear hx hBW hW d0 d1 d2 hs3
      generalize verAt os ⟨Kd, m, Vl⟩ = q at HV HBD
      rw [← HV.out] at HVr
      generalize os[m] = O at y0 hs1 hol HVr HV
      have hm0 : (0 : Int) ≤ (m : Int) := by omega
      go_quiet ((go_at_call 96; exact Calls.quiet_of_same ((HVr.out _).mono (fun _ _ h => ⟨h.1, h.2.symm⟩))))
      have HX4 := hide (show Blk (W.drewN nq) wr.heap.size 71 #[.int .i64 Kd, .int .i64 m, .int .i64 Vl] from HX.out)
      have HB4 := hide (show Below w1.heap.size w1 (W.drewN nq) from below_drewN HW1.out _)
      generalize W.drewN nq = w4 at HX4 HB4 ⊢
      clear x0 x1 x2 y0 hs1 hs2 HVr HBW HW1 HX HV hol
      go_wp2_with fail
      go_loopw [11, 29] (fun _ i wr2 => ∃ l : Nat, l ≤ did.length ∧ i = .int .i64 l ∧ Hid (∀ j (hj : j < did.length), j < l → brkD os ⟨Kd, m, Vl⟩ did[j] = false) ∧ Hid (Below w4.heap.size w4 wr2)) (fun _ i _ => did.length - (intOf i).toNat)
      case atStart => exact ⟨0, Nat.zero_le _, rfl, (fun j hj h => absurd h (by omega)), Below.refl _ _⟩
      case round =>
        obtain ⟨l, hl, rfl, hM, hb2⟩ := hrel
        have HM := hide hM.out; have HBx := hide hb2.out
        clear hM hb2
        have HBq := hide (HB1.out.trans ((HB4.out.trans (HBx.out.mono HB4.out.size)).mono HB1.out.size))
        have HBr := hide (HB4.out.trans (HBx.out.mono HB4.out.size))
        by_cases hlt2 : l < did.length
        · obtain ⟨b5, off5, hDe, hb5S, e0, e1, e2⟩ := at_Op HD.out HBq.out hlt2
          subst hDe
          obtain ⟨n, hn3, hkn⟩ := key_nat (HDk.out _ (List.getElem_mem hlt2))
          have hno : n < os.length := by omega
          have HV2 := hide (verAt_nat hno hkn)
          have HDx := hide (HBD.out did[l])
          have HBHit := hide (fun (h : brkD os ⟨Kd, m, Vl⟩ did[l] = true) => (show Res = true from HHit.out (by rw [HOd.out, List.any_eq_true]; exact ⟨_, List.getElem_mem hlt2, h⟩)))
          have HNx := hide (fun (h : brkD os ⟨Kd, m, Vl⟩ did[l] = false) => (show ∀ j (hj : j < did.length), j < l + 1 → brkD os ⟨Kd, m, Vl⟩ did[j] = false from fun j hj h1 => by
            by_cases hjk : j < l
            · exact HM.out j hj hjk
            · obtain rfl : j = l := by omega
              exact h))
          generalize hdd : did[l] = dd at e0 e1 e2 hkn HV2 HDx HBHit HNx
          generalize brkD os ⟨Kd, m, Vl⟩ dd = Bd at HDx HBHit HNx
          generalize verAt os dd = q2 at HV2 HDx
          obtain ⟨Kd2, Ky2, Vl2⟩ := dd
          dsimp only at e0 e1 e2 hkn HV2 HDx
          subst hkn
          have hol2 := HSz.out _ (List.getElem_mem hno)
          clear hdd
          go_upto_region 8 with (fail)
          generalize hW : World.alloc _ _ = W2
          have hx : Blk W2 wr.heap.size 71 #[.int .i64 Kd2, .int .i64 n, .int .i64 Vl2] := by rw [← hW]; exact Blk.new wr _ _
          have hBW : Below w4.heap.size w4 W2 := by rw [← hW]; exact HBx.out.alloc HBx.out.size _
          have x0 := hx.cell 0; have x1 := hx.cell 1; have x2 := hx.cell 2
          have hX2 := HX4.out.below hBW HX4.out.lt
          have z0 := hX2.cell 0; have z1 := hX2.cell 1; have z2 := hX2.cell 2
          simp only [List.getElem?_toArray, List.getElem?_cons_zero, List.getElem?_cons_succ] at x0 x1 x2 z0 z1 z2
          have HBW2 := hide hBW
          have HBW := hide (HB1.out.trans ((HB4.out.trans (hBW.mono HB4.out.size)).mono HB1.out.size))
          obtain ⟨b6, off6, A6, c6, hBe, hb6S, y0, hs1, hs2, hs3⟩ := at_IntS HOs.out HBW.out hno
          obtain ⟨rfl, rfl⟩ : b3 = b6 ∧ off3 = off6 := by simpa using hBe
          have HVr := hide (fun z => implVersion os[n] Vl2 A6 c6 (W2.drewN z) hol2 (hs3.mono (fun _ h => h) (fun _ _ => rfl)))
          rw [← HV2.out] at HVr
          clear hx hBW hW e0 e1 e2 hs3 hX2
          generalize os[n] = O2 at y0 hs1 hol2 HVr HV2
          have hn0 : (0 : Int) ≤ (n : Int) := by omega
          have HGo := hide (show ∀ z, Below w4.heap.size w4 (W2.drewN z) from fun z => below_drewN HBW2.out z)
          cases hke : ((n : Int) == (m : Int)) with
          | false =>
            rw [hke] at HDx
            have HG := hide (HNx.out (by rw [HDx.out]; rfl))
            go_quiet (fail)
            go_wp2_with fail
            go_roundw
            case rel => exact ⟨l + 1, by omega, by go_num, HG.out, HGo.out _⟩
            case measure => simp [intOf]; omega
          | true =>
            rw [hke, Bool.true_and] at HDx
            by_cases hq0 : 0 ≤ q
            · have hqd : decide (q ≥ 0) = true := decide_eq_true hq0
              rw [decide_eq_true hq0, Bool.true_and] at HDx
              cases hlt3 : decide (q < q2) with
              | false =>
                have HG := hide (HNx.out (by rw [HDx.out]; exact hlt3))
                clear HDx
                go_quiet ((go_at_call 96; exact Calls.quiet_of_same ((HVr.out _).mono (fun _ _ h => ⟨h.1, h.2.symm⟩))))
                go_wp2_with fail
                go_roundw
                case rel => exact ⟨l + 1, by omega, by go_num, HG.out, HGo.out _⟩
                case measure => simp [intOf]; omega
              | true =>
                have HG := hide (HBHit.out (by rw [HDx.out]; exact hlt3))
                clear HDx
                go_quiet ((go_at_call 96; exact Calls.quiet_of_same ((HVr.out _).mono (fun _ _ h => ⟨h.1, h.2.symm⟩))))
                go_wp2_with fail
                go_ret
                exact ⟨ret_bool HG.out.symm, HB1.out.trans ((HB4.out.trans ((HGo.out _).mono HB4.out.size)).mono HB1.out.size)⟩
            · have hqd : decide (q ≥ 0) = false := decide_eq_false hq0
              rw [decide_eq_false hq0, Bool.false_and] at HDx
              have HG := hide (HNx.out HDx.out)
              go_quiet (fail)
              go_wp2_with fail
              go_roundw
              case rel => exact ⟨l + 1, by omega, by go_num, HG.out, HGo.out _⟩
              case measure => simp [intOf]; omega
        · obtain rfl : l = did.length := by omega
          have HF := hide (HMs.out (by
            rw [HOd.out, List.any_eq_false]
            intro x hx
            obtain ⟨j, hj, rfl⟩ := List.getElem_of_mem hx
            rw [HM.out j hj hj]; simp))
          go_wp2_with fail
          go_roundw
          case rel => exact ⟨k + 1, by omega, by go_num, HF.out, HBr.out⟩
          case measure => simp [intOf]; omega
    · obtain rfl : k = rs.length := by omega
      have HF := hide (show Res = false by
        rw [HRB.out, List.any_eq_false]
        intro x hx
        obtain ⟨j, hj, rfl⟩ := List.getElem_of_mem hx
        rw [HN.out j hj hj]; simp)
      have HB2 := hide (HB1.out.trans (HBw.out.mono HB1.out.size))
      go_wp2_with fail
      go_ret
      exact ⟨ret_bool HF.out.symm, HB2.out⟩
theorem ord_hist {h : List Txn} {os : List (List Int)} (hv : ordB h os = true) : histV h = true := by
  unfold ordB at hv
  rw [Bool.and_eq_true] at hv
  exact hv.1
theorem at_IntG {xs : List Int} {A : Option Addr} {w : World} {S : Nat → Prop} {k : Nat} (hR : Row tInt w S A xs) (hk : k < xs.length) :
    ∃ b off, A = some ⟨b, off, none⟩ ∧ w.cell? ⟨b, off + k, none⟩ = some (.int .i64 xs[k]) := by
  obtain ⟨b, off, rfl, hbS, hc⟩ := hR (by omega)
  obtain ⟨cs, hr, hcs⟩ := hc k hk
  obtain rfl : cs = [.int .i64 xs[k]] := hr
  exact ⟨b, off, rfl, by simpa [tInt, flat] using hcs 0 _ rfl⟩
theorem rest_of {xs : List Int} {A : Option Addr} {w : World} {S : Nat → Prop} {c k n : Nat} (hR : Row tInt w S A xs) (hn : n = xs.length - k) :
    ∃ A' c', (if c = k then Value.slice A n 0 else .slice (A.map fun x => x.add k) n (c - k)) = .slice A' n c' ∧ ((c = k → xs.length ≤ k) → Row tInt w S A' (xs.drop k)) := by
  by_cases h : c = k
  · rw [if_pos h]
    exact ⟨A, 0, rfl, fun hle => by rw [List.drop_eq_nil_of_le (hle h)]; exact Row.nil⟩
  · rw [if_neg h]
    refine ⟨_, _, rfl, fun _ => ?_⟩
    have := hR.cut k
    simpa [tInt, flat] using this
theorem clip_IntS_ (n : Nat) (A : Option Addr) (c : Nat) (w : World) (hl : n ≤ c) (hc : c ≤ maxLen) :
    Calls Tryd.prog 102 #[.slice A n c] w fun e w' => e = .returned (.slice A n n) ∧ w = w' := by
  unfold maxLen at hc
  have h1 : (0 : Int) ≤ (n : Int) := by omega
  have h2 : (n : Int) ≤ (c : Int) := by omega
  go_enter Tryd.func102, Tryd.ntmps102
  go_wp2
  go_ret
  exact ⟨rfl, rfl⟩
/-- Lists in blocks of their own that are being gathered. -/
structure PairsO (K : Nat → Prop) (w : World) (xss : List (List Int)) (v : Value) (ps : List (List Int × Nat)) : Prop where
  eq : ps.map Prod.fst = xss
  own : Own (tIntSB 3) 30 w (fun b => K b ∧ Old w b) ps v
  up : Up ps
  lt : ∀ p ∈ ps, p.2 < w.heap.size
theorem PairsO.far {K : Nat → Prop} {w : World} {xss : List (List Int)} {v : Value} {ps : List (List Int × Nat)} (h : PairsO K w xss v ps) : Far ps :=
  h.up.imp fun hab _ _ => by omega
theorem PairsO.below {K : Nat → Prop} {w w' : World} {xss : List (List Int)} {v : Value} {ps : List (List Int × Nat)} (h : PairsO K w xss v ps) (hb : Below w.heap.size w w') : PairsO K w' xss v ps :=
  ⟨h.eq, h.own.onlyBelow hb, h.up, fun p hp => Nat.lt_of_lt_of_le (h.lt p hp) hb.size⟩
theorem PairsO.wide {K K' : Nat → Prop} {w : World} {xss : List (List Int)} {v : Value} {ps : List (List Int × Nat)} (h : PairsO K w xss v ps) (hK : ∀ b, K b → Old w b → K' b) : PairsO K' w xss v ps :=
  ⟨h.eq, h.own.mono (fun b hb => ⟨hK b hb.1 hb.2, hb.2⟩) (fun _ _ => rfl), h.up, h.lt⟩
theorem hold_pair (w : World) (a b : Int) : Hold tInt 3 (w.alloc (.cells #[.int .i64 a, .int .i64 b] 3)) (fun x => x = w.heap.size) [a, b] (.slice (some ⟨w.heap.size, 0, none⟩) 2 2) w.heap.size := by
  refine ⟨_, 2, rfl, by simp, by simp [maxLen], fun _ => ⟨rfl, rfl, ⟨_, Blk.new w _ _, by simp [tInt, flat]⟩, fun _ => False, fun _ h => h.elim, fun k hk => ?_⟩⟩
  have hk2 : k < 2 := by simpa using hk
  refine ⟨_, rfl, fun j u hu => ?_⟩
  obtain ⟨hj, rfl⟩ := List.getElem?_eq_some_iff.1 hu
  have hj0 : j = 0 := by simpa using hj
  subst hj0
  rw [(Blk.new w _ _).cell]
  match k, hk2 with
  | 0, _ => simp [tInt, flat]
  | 1, _ => simp [tInt, flat]

set_option maxRecDepth 10000 in
set_option maxHeartbeats 8000000 in
theorem implSesBrk1 (xs : List Txn) (os : List (List Int)) (A B : Option Addr) (c d : Nat) (w : World) (hm : xs.length ≤ maxLen) (hmo : os.length ≤ 1048576) (hsz : ∀ o ∈ os, o.length ≤ 1048576) (ho : ordB xs os = true) (hA : Row tTxn w (Old w) A xs) (hB : Row (tSlice tInt) w (Old w) B os) :
    Calls Tryd.prog 42 #[.slice A xs.length c, .slice B os.length d, .int .i64 1] w fun e w' => ∃ v, e = .returned v ∧ HoldS w' (New w w') (brkR xs os 1) v ∧ Below w.heap.size w w' := by
  obtain ⟨i0, hi, hz0, hz1, hz2⟩ := info_parts infoIntS_
  have hv : histV xs = true := ord_hist ho
  have h6 : xs.length ≤ 6 := (histV_parts hv).1
  have HTx := hide (histV_parts hv).2
  have HC := hide (implOrdersValid xs os A B c d w hm hmo hsz hA hB)
  rw [ho] at HC
  have HR := hide (show brkR xs os 1 = (doneL xs).flatMap (fun a => rowK xs os 1 a.toNat xs.length) by
    unfold brkR
    rw [ho, if_pos (by decide)]
    exact brkK_flat xs os 1 xs.length)
  have hl3 : 3 ≤ os.length := by have := ord_len ho; omega
  have HDn := hide (fun (W : World) (hW : Below w.heap.size w W) => implDone xs A c W (by omega) (hA.old hW))
  have HA := hide hA; have HB := hide hB; have HSz := hide hsz
  have hdl : (doneL xs).length ≤ 6 := Nat.le_trans (doneI_len xs _) h6
  have HDm := hide (fun x (hx : x ∈ doneL xs) => doneI_mem xs xs.length x hx)
  have HRest := hide (rowK_rest xs os 1)
  obtain ⟨all, hall⟩ : ∃ all, all = doneL xs := ⟨_, rfl⟩
  rw [← hall] at HR HDn hdl HDm HRest
  have hmk : ∀ W : World, (Instr.makeSlice 54 (.int .i64 0) (.int .i64 0)).run Tryd.prog W = .ok (.slice (some ⟨W.heap.size, 0, none⟩) 0 0) (W.alloc (.cells (madeCells (Value.cells (.slice none 0 0)) (0 * 1)) 30)) := fun W => by
    have h := run_make_rowN (P := Tryd.prog) 54 30 i0 _ Tryd.underlying54 hi hz0 .i64 .i64 0 0 (Nat.zero_le _) (by rw [hz2]; omega) (by omega) W
    rw [hz1] at h
    exact h
  have hq1 : all.length ≤ 9223372036854775807 := by omega
  have hqx : xs.length ≤ 9223372036854775807 := by omega
  clear hA hB hsz ho hall hv
  go_enter Tryd.func42, Tryd.ntmps42
  go_upto_region 4 with (first
    | (go_at_call 94; refine HC.out.mono ?_; rintro e w1 ⟨rfl, hb1⟩; have HB1 := hide hb1; clear hb1)
    | (go_at_call 49; refine (within _ _ _ _).mono ?_; rintro e w' ⟨rfl, rfl⟩))
  generalize hW : World.alloc _ _ = wa
  have hsa : wa.heap.size = w1.heap.size + 1 := by rw [← hW]; simp
  have HBa := hide (show Below w.heap.size w wa by rw [← hW]; exact HB1.out.alloc HB1.out.size _)
  have HO0 := hide (show Own (tIntSB 3) 30 wa (fun b => b = w1.heap.size ∧ Old wa b) [] (.slice (some ⟨w1.heap.size, 0, none⟩) 0 0) by
    rw [← hW]
    exact Own.made w1 _ 0 (by rw [size_madeCells]; rfl) (by simp [maxLen]) ⟨rfl, by simp [Old]⟩)
  have hw1 : w.heap.size ≤ w1.heap.size := HB1.out.size
  have HDn2 := hide (HDn.out wa HBa.out)
  clear hW hmk HDn HB1 HC
  go_wp2_with (go_at_call 73; refine HDn2.out.mono ?_; rintro e w3 ⟨v3, rfl, hO3, hb3⟩; obtain ⟨A3, c3, rfl, h31, h32, hR3⟩ := hO3.sl; have HR3 := hide hR3; have HBb := hide hb3; have HB3 := hide (HBa.out.trans (hb3.mono HBa.out.size)); have hws : wa.heap.size ≤ w3.heap.size := hb3.size; clear hb3 hR3 hO3)
  have HP0 := hide (show PairsO (fun b => b = w1.heap.size ∨ w3.heap.size ≤ b) w3 ((all.take 0).flatMap (fun a => rowK xs os 1 a.toNat xs.length)) (.slice (some ⟨w1.heap.size, 0, none⟩) 0 0) [] from
    ⟨rfl, HO0.out.mono (fun b h => ⟨.inl h.1, Nat.lt_of_lt_of_le h.2 hws⟩) (fun b h => HBb.out.block b h.2), List.Pairwise.nil, fun p hp => by cases hp⟩)
  clear HO0 HBb HDn2 HBa
  obtain ⟨r, hr⟩ : ∃ r, r = w1.heap.size := ⟨_, rfl⟩
  rw [← hr] at HP0 hsa hw1 ⊢
  have HS := hide hsa; have HWs := hide hws; have HW1 := hide hw1
  clear hr hsa hws hw1
  go_loopw [7, 9, 10, 11, 13, 28] (fun v _ _ _ _ i wr => ∃ (k : Nat) (ps : List (List Int × Nat)), k ≤ all.length ∧ i = .int .i64 k ∧ ps.length ≤ k * 6 ∧ Hid (PairsO (fun b => b = r ∨ w3.heap.size ≤ b) wr ((all.take k).flatMap (fun a => rowK xs os 1 a.toNat xs.length)) v ps) ∧ Hid (Only (fun b => b = r ∨ w3.heap.size ≤ b) w3 wr)) (fun _ _ _ _ _ i _ => all.length - (intOf i).toNat)
  case atStart => exact ⟨0, [], Nat.zero_le _, rfl, by simp, HP0.out, Only.refl _ _⟩
  case round =>
    obtain ⟨k, ps, hk, rfl, hpl, hP, hOn⟩ := hrel
    obtain ⟨wv, rfl⟩ : ∃ wv : World, wv = wr := ⟨wr, rfl⟩
    have HP := hide hP.out; have HOn := hide hOn.out
    clear hP hOn HP0
    have HBr := hide (below_only HB3.out HOn.out HB3.out.size (fun i h => by have := HS.out; have := HWs.out; have := HW1.out; have := HB3.out.size; omega))
    by_cases hlt : k < all.length
    · have HRw := hide (HR3.out.mono (w' := wv) (fun b h => h) (fun b h => HOn.out.block b h.2 (fun e => by have := h.1; have := HS.out; have := h.2; omega)))
      obtain ⟨b0, off0, rfl, f0⟩ := at_IntG HRw.out hlt
      have hin := HDm.out _ (List.getElem_mem hlt)
      have HRst := hide (HRest.out k hlt)
      have HTk := hide (show all.take (k + 1) = all.take k ++ [all[k]] from List.take_succ_eq_append_getElem hlt)
      generalize all[k] = az at f0 hin HRst HTk
      obtain ⟨a, rfl⟩ : ∃ a : Nat, az = (a : Int) := ⟨az.toNat, by omega⟩
      rw [Int.toNat_natCast] at HRst
      have ha : a < xs.length := by omega
      obtain ⟨b1, off1, A2, c2, rfl, hb1S, g0, g1, g3, hj1, hj2, hj3⟩ := at_Txn HA.out HBr.out ha
      have hto := txnOk_parts (HTx.out _ (List.getElem_mem ha))
      have hdd : didOf 1 xs[a] = lastWs xs[a].Ops := by unfold didOf; rw [if_neg (by decide)]
      have hdm := fun o (h : o ∈ didOf 1 xs[a]) => hto.1 o (didOf_mem 1 xs[a] o h)
      have hdl6 := didOf_len 1 xs[a] hto.2
      have HBk := hide (show ∀ b (hb : b < xs.length), brkS xs os 1 a b = (xs[a].Session == xs[b].Session && brkB os (didOf 1 xs[a]) (firstR xs[b].Ops)) from fun b hb => by
        unfold brkS
        rw [sesAt_nat xs a ha, sesAt_nat xs b hb, txAt_nat xs a ha, txAt_nat xs b hb])
      have HLw := hide (implLastWrites xs[a] A2 c2 wv hto.2 hto.1 hj3)
      rw [← hdd] at HLw
      have hj2' := hide hj3
      generalize didOf 1 xs[a] = did at HLw hdm hdl6 HBk
      have HDm2 := hide hdm
      clear hdd hdm hto hj3
      go_upto_region 11 with (first
        | (go_at_call 99; refine HLw.out.mono ?_; rintro e w5 ⟨v5, rfl, hS5, hb5⟩; obtain ⟨A5, c5, rfl, h51, h52, hR5⟩ := hS5.sl; have HD5 := hide hR5; have HB5 := hide hb5; clear hR5 hb5))
      have hk1 : IntKind.i64.wrap ((k : Int) + 1) = (k : Int) + 1 := by rw [IntKind.wrap_i64]; omega
      have hk0 : (0 : Int) ≤ (k : Int) + 1 := by omega
      have hk2 : (k : Int) + 1 ≤ (all.length : Int) := by omega
      have hk3 : ((k : Int) + 1).toNat = k + 1 := by omega
      have hk4 : (k : Int) + 1 ≤ (c3 : Int) := by omega
      have hk5 : k + 1 ≤ c3 := by omega
      have hk6 : k + 1 ≤ all.length := by omega
      clear g0 g1 g3 f0
      by_cases hck : c3 = k + 1
      · go_upto_region 12 with (fail)
        have hrn : all.length - (k + 1) = 0 := by omega
        have HNo := hide (show (all.take (k + 1)).flatMap (fun a => rowK xs os 1 a.toNat xs.length) = (all.take k).flatMap (fun a => rowK xs os 1 a.toNat xs.length) by
          rw [HTk.out, List.flatMap_append, List.flatMap_cons, List.flatMap_nil, List.append_nil, Int.toNat_natCast, HRst.out, List.drop_eq_nil_of_le (by omega), List.flatMap_nil, List.append_nil])
        have HP5 := hide (HP.out.below HB5.out)
        have HOn5 := hide (HOn.out.trans (Only.of_below HB5.out))
        rw [hrn]
        refine wp_loop_rounds 1 ?_
        rw [rounds_succ]
        go_wp2_with fail
        go_roundw
        case rel => exact ⟨k + 1, ps, by omega, by go_num, by omega, by rw [HNo.out]; exact HP5.out, HOn5.out⟩
        case measure => simp [intOf]; omega
      · go_upto_region 12 with (fail)
        have HRest2 := hide (show Row tInt wv (New wa w3) (some ⟨b0, off0 + (k + 1), none⟩) (all.drop (k + 1)) from by
          have h := HRw.out.cut (k + 1)
          rw [Option.map_some, Go.WideShapes.add_plain, show (k + 1) * tInt.size = k + 1 from Nat.mul_one _] at h
          exact h)
        have hdl2 : (all.drop (k + 1)).length = all.length - (k + 1) := List.length_drop
        have HFl := hide (show (all.take (k + 1)).flatMap (fun a => rowK xs os 1 a.toNat xs.length) = (all.take k).flatMap (fun a => rowK xs os 1 a.toNat xs.length) ++ (all.drop (k + 1)).flatMap (fromA xs os 1 (a : Int)) by
          rw [HTk.out, List.flatMap_append, List.flatMap_cons, List.flatMap_nil, List.append_nil, Int.toNat_natCast, HRst.out])
        have HBm := hide (fun x (hx : x ∈ all.drop (k + 1)) => HDm.out x (List.mem_of_mem_drop hx))
        generalize all.drop (k + 1) = rest at HRest2 hdl2 HFl HBm
        generalize off0 + (k + 1) = ofr at HRest2 ⊢
        generalize c3 - (k + 1) = cr
        generalize (k : Int) + 1 = kz
        generalize (all.take k).flatMap (fun a => rowK xs os 1 a.toNat xs.length) = PRE at HP HFl
        have hrl : rest.length ≤ 6 := by omega
        rw [← hdl2]
        clear hdl2
        have HP5 := hide ((HP.out.wide (K' := fun b => ((b = r ∨ w3.heap.size ≤ b) ∧ b < wv.heap.size) ∨ w5.heap.size ≤ b) (fun b h1 h2 => .inl ⟨h1, h2⟩)).below HB5.out)
        have HR53 := hide (HRest2.out.mono (w' := w5) (fun b h => h) (fun b h => HB5.out.block b (Nat.lt_of_lt_of_le h.2 HOn.out.size)))
        have HZ35 := hide (show w3.heap.size ≤ wv.heap.size ∧ wv.heap.size ≤ w5.heap.size from ⟨HOn.out.size, HB5.out.size⟩)
        have HBw5 := hide (HBr.out.trans (HB5.out.mono HBr.out.size))
        clear HRest2 HRw HTk HRst HP hk1 hk2 hk3 hk4 hk5 hk6 hk0 hj1 hj2
        have hqr : rest.length ≤ 9223372036854775807 := by omega
        have HS2 := hide (show (∀ b, New wa w3 b → b ≠ r ∧ b < w3.heap.size) ∧ (w.heap.size ≤ r ∧ w.heap.size ≤ w3.heap.size) from ⟨fun b h => ⟨by have := h.1; have := HS.out; omega, h.2⟩, HW1.out, HB3.out.size⟩)
        go_loopw [7, 13, 50] (fun v _ j wr => ∃ (l : Nat) (qs : List (List Int × Nat)), l ≤ rest.length ∧ j = .int .i64 l ∧ qs.length ≤ k * 6 + l ∧ Hid (PairsO (fun b => ((b = r ∨ w3.heap.size ≤ b) ∧ b < wv.heap.size) ∨ w5.heap.size ≤ b) wr (PRE ++ (rest.take l).flatMap (fromA xs os 1 (a : Int))) v qs) ∧ Hid (Only (fun b => ((b = r ∨ w3.heap.size ≤ b) ∧ b < wv.heap.size) ∨ w5.heap.size ≤ b) w5 wr)) (fun _ _ j _ => rest.length - (intOf j).toNat)
        case atStart => exact ⟨0, ps, Nat.zero_le _, rfl, by omega, by rw [List.take_zero, List.flatMap_nil, List.append_nil]; exact HP5.out, Only.refl _ _⟩
        case round =>
          obtain ⟨l, qs, hl, rfl, hql, hQ, hOq⟩ := hrel
          have HQ := hide hQ.out; have HOq := hide hOq.out
          clear hQ hOq HP5
          have HBq := hide (below_only HBw5.out HOq.out HBw5.out.size (fun i h => by have := HS2.out.2; have := HBr.out.size; have := HZ35.out; omega))
          have HZq := hide HOq.out.size
          by_cases hlt2 : l < rest.length
          · have HRq := hide (HR53.out.mono (w' := wr) (fun b h => h) (fun b h => HOq.out.block b (by have := (HS2.out.1 b h).2; have := HZ35.out; omega) (fun e => by have := HS2.out.1 b h; have := HZ35.out; omega)))
            have HDq := hide (HD5.out.mono (w' := wr) (S' := Old wr) (fun b h => Nat.lt_of_lt_of_le h.2 HZq.out) (fun b h => HOq.out.block b h.2 (fun e => by have := h.1; have := h.2; omega)))
            obtain ⟨b8, off8, hAe, f1⟩ := at_IntG HRq.out hlt2
            obtain ⟨rfl, rfl⟩ : b0 = b8 ∧ ofr = off8 := by simpa using hAe
            have hin2 := HBm.out _ (List.getElem_mem hlt2)
            have HTl := hide (show (rest.take (l + 1)).flatMap (fromA xs os 1 (a : Int)) = (rest.take l).flatMap (fromA xs os 1 (a : Int)) ++ fromA xs os 1 (a : Int) rest[l] by
              rw [List.take_succ_eq_append_getElem hlt2, List.flatMap_append, List.flatMap_cons, List.flatMap_nil, List.append_nil])
            generalize rest[l] = bz at f1 hin2 HTl
            obtain ⟨b, rfl⟩ : ∃ b : Nat, bz = (b : Int) := ⟨bz.toNat, by omega⟩
            have hb : b < xs.length := by omega
            obtain ⟨b1', off1', A2', c2', hBe, _, g0, g1, g3, _, _, _⟩ := at_Txn HA.out HBq.out ha
            obtain ⟨rfl, rfl⟩ : b1 = b1' ∧ off1 = off1' := by simpa using hBe
            obtain ⟨b1', off1', A6, c6, hBe2, _, e0, e1, e3, _, _, hj6⟩ := at_Txn HA.out HBq.out hb
            obtain ⟨rfl, rfl⟩ : b1 = b1' ∧ off1 = off1' := by simpa using hBe2
            have HFa := hide (show fromA xs os 1 (a : Int) (b : Int) = if (xs[a].Session == xs[b].Session && brkB os did (firstR xs[b].Ops)) then [[(a : Int), (b : Int)]] else [] by
              unfold fromA
              rw [Int.toNat_natCast, Int.toNat_natCast, HBk.out b hb])
            have hto2 := txnOk_parts (HTx.out _ (List.getElem_mem hb))
            clear hAe hBe hBe2 hin2 g1 g3
            cases hse : (xs[a].Session == xs[b].Session) with
            | false =>
              have HG := hide (show (rest.take (l + 1)).flatMap (fromA xs os 1 (a : Int)) = (rest.take l).flatMap (fromA xs os 1 (a : Int)) by
                rw [HTl.out, HFa.out, hse, Bool.false_and, if_neg (by decide), List.append_nil])
              clear hto2 hj6
              go_upto_region 14 with (fail)
              go_quiet (fail)
              go_wp2_with fail
              go_roundw
              case rel => exact ⟨l + 1, qs, by omega, by go_num, by omega, by rw [HG.out]; exact HQ.out.below (below_drewN (Below.refl _ wr) _), HOq.out.trans (Only.of_below (below_drewN (Below.refl _ wr) _))⟩
              case measure => simp [intOf]; omega
            | true =>
              have HBd := hide (show Below w.heap.size w wr.drew from HBq.out.drew)
              have HCb := hide (implBreaks os did xs[b] B A5 A6 c6 d c5 wr.drew hl3 hmo HSz.out hdl6 HDm2.out hto2.2 hto2.1 (HB.out.old HBd.out) (HDq.out.old (Below.refl _ wr).drew) (hj6.old (Below.refl _ wr).drew))
              generalize brkB os did (firstR xs[b].Ops) = Bo at HCb HFa
              clear hto2 hj6
              go_upto_region 14 with (fail)
              go_still_tail 18, (by kernel_rfl)
              change wpList _ _ _ _ _ wr.drew
              have HQ6 := hide (HQ.out.below (Below.refl _ wr).drew)
              have HO6 := hide (HOq.out.trans (Only.of_below (Below.refl _ wr).drew))
              have HZ6 := hide (show wr.heap.size ≤ wr.drew.heap.size from Nat.le_refl _)
              generalize wr.drew = w6 at HCb HQ6 HO6 HZ6 HBd ⊢
              clear HQ HOq HBq HRq HDq g0 e0 e1 e3 f1
              cases Bo with
              | false =>
                have HG := hide (show (rest.take (l + 1)).flatMap (fromA xs os 1 (a : Int)) = (rest.take l).flatMap (fromA xs os 1 (a : Int)) by
                  rw [HTl.out, HFa.out, hse, Bool.true_and, if_neg (by decide), List.append_nil])
                clear hse
                go_wp2_with (go_at_call 101; refine HCb.out.mono ?_; rintro e w7 ⟨rfl, hb7⟩; have HQ7 := hide (HQ6.out.below hb7); have HO7 := hide (HO6.out.trans (Only.of_below hb7)); clear hb7)
                go_roundw
                case rel => exact ⟨l + 1, qs, by omega, by go_num, by omega, by rw [HG.out]; exact HQ7.out, HO7.out⟩
                case measure => simp [intOf]; omega
              | true =>
                have HG := hide (show (rest.take (l + 1)).flatMap (fromA xs os 1 (a : Int)) = (rest.take l).flatMap (fromA xs os 1 (a : Int)) ++ [[(a : Int), (b : Int)]] by
                  rw [HTl.out, HFa.out, hse, Bool.true_and, if_pos rfl])
                clear hse
                go_upto_region 15 with (go_at_call 101; refine HCb.out.mono ?_; rintro e w7 ⟨rfl, hb7⟩; have HQ7 := hide (HQ6.out.below hb7); have HO7 := hide (HO6.out.trans (Only.of_below hb7)); have HZ7 := hide (Nat.le_trans HZq.out (Nat.le_trans HZ6.out hb7.size)); clear hb7)
                have HOw := hide (HQ7.out.own.onlyBelow ((Below.refl _ w7).alloc (Nat.le_refl _) (.cells #[.int .i64 a, .int .i64 b] 3)))
                have HLt := hide (own_lt (B := w7.heap.size) HQ7.out.own (fun b h => h.2))
                have HHp := hide (hold_pair w7 (a : Int) (b : Int))
                go_wp2_with (at_builtin; (refine wpList_put (tIntSB 3) rfl (.tmp 74) (.tmp 78) 54 rfl 30 i0 _ 24 Tryd.underlying54 hi hz0 hz1 hz2 rfl (by decide) (fun b => ((b = r ∨ w3.heap.size ≤ b) ∧ b < wv.heap.size) ∨ w5.heap.size ≤ b) (fun x => x = w7.heap.size) qs ([(a : Int), (b : Int)], w7.heap.size) [.slice (some ⟨w7.heap.size, 0, none⟩) 2 2] _ rfl HOw.out 1 (by rw [World.size_alloc]; rfl) ⟨_, rfl, HHp.out⟩ (fun x h => ⟨by have := HZ7.out; exact .inr (by omega), by subst h; simp [Old], fun e => by have := HLt.out x e; omega⟩) (fun x hx => by have := HZ7.out; simp at hx; exact .inr (by omega)) (by simp only [maxLen]; omega) (by omega) ?_; intro v8 w8 hO_ hK_; have HO8 := hide hO_; have HK8 := hide hK_; clear hO_ hK_))
                go_roundw
                case rel =>
                  refine ⟨l + 1, qs ++ [([(a : Int), (b : Int)], w7.heap.size)], by omega, by go_num, by rw [List.length_append]; simp; omega, ⟨by rw [HG.out, List.map_append, HQ7.out.eq, List.append_assoc]; rfl, HO8.out, HQ7.out.up.snoc (fun q hq => HQ7.out.lt q hq), fun p hp => ?_⟩, HO7.out.trans ((Only.of_alloc w7 _).trans HK8.out)⟩
                  have hz8 := HK8.out.size
                  simp at hz8
                  rcases List.mem_append.1 hp with hp | hp
                  · have := HQ7.out.lt p hp; omega
                  · simp at hp; subst hp; show w7.heap.size < _; omega
                case measure => simp [intOf]; omega
          · obtain rfl : l = rest.length := by omega
            have HF := hide (show (all.take (k + 1)).flatMap (fun a => rowK xs os 1 a.toNat xs.length) = PRE ++ (rest.take rest.length).flatMap (fromA xs os 1 (a : Int)) by rw [List.take_length]; exact HFl.out)
            have HQ2 := hide (HQ.out.wide (K' := fun b => b = r ∨ w3.heap.size ≤ b) (fun b h1 h2 => by rcases h1 with h1 | h1; exact h1.1; have := HZ35.out; exact .inr (by omega)))
            have HO2 := hide (HOn.out.trans ((Only.of_below HB5.out).trans (HOq.out.mono (fun b h1 => by rcases h1 with h1 | h1; exact h1.1; have := HZ35.out; exact .inr (by omega)))))
            go_wp2_with fail
            go_roundw
            case rel => exact ⟨k + 1, qs, by omega, by go_num, by omega, by rw [HF.out]; exact HQ2.out, HO2.out⟩
            case measure => simp [intOf]; omega
    · obtain rfl : k = all.length := by omega
      have HF := hide (show brkR xs os 1 = (all.take all.length).flatMap (fun a => rowK xs os 1 a.toNat xs.length) by rw [List.take_length]; exact HR.out)
      obtain ⟨g, hg, _⟩ := HP.out.own.hold
      obtain ⟨A9, c9, hv9, h91, h92, _⟩ := id hg
      subst hv9
      have HG := hide hg
      have HEq := hide HP.out.eq
      have HFar := hide HP.out.far
      have hpm : ps.length ≤ 36 := by omega
      clear hg
      rw [show ps.length = ps.length from rfl]
      go_wp2_with (go_at_call 102; refine (clip_IntS_ _ _ _ _ h91 h92).mono ?_; rintro e w' ⟨rfl, rfl⟩)
      go_ret
      exact ⟨_, rfl, ⟨ps, g, by rw [HEq.out, HF.out], HG.out.clip.mono (fun b h => ⟨by have := h.1; have := HS.out; have := HWs.out; have := HW1.out; have := HB3.out.size; omega, h.2⟩) (fun _ _ => rfl), HFar.out⟩, HBr.out⟩

set_option maxRecDepth 10000 in
set_option maxHeartbeats 8000000 in
theorem implSesBrk2 (xs : List Txn) (os : List (List Int)) (A B : Option Addr) (c d : Nat) (w : World) (hm : xs.length ≤ maxLen) (hmo : os.length ≤ 1048576) (hsz : ∀ o ∈ os, o.length ≤ 1048576) (ho : ordB xs os = true) (hA : Row tTxn w (Old w) A xs) (hB : Row (tSlice tInt) w (Old w) B os) :
    Calls Tryd.prog 42 #[.slice A xs.length c, .slice B os.length d, .int .i64 2] w fun e w' => ∃ v, e = .returned v ∧ HoldS w' (New w w') (brkR xs os 2) v ∧ Below w.heap.size w w' := by
  obtain ⟨i0, hi, hz0, hz1, hz2⟩ := info_parts infoIntS_
  have hv : histV xs = true := ord_hist ho
  have h6 : xs.length ≤ 6 := (histV_parts hv).1
  have HTx := hide (histV_parts hv).2
  have HC := hide (implOrdersValid xs os A B c d w hm hmo hsz hA hB)
  rw [ho] at HC
  have HR := hide (show brkR xs os 2 = (doneL xs).flatMap (fun a => rowK xs os 2 a.toNat xs.length) by
    unfold brkR
    rw [ho, if_pos (by decide)]
    exact brkK_flat xs os 2 xs.length)
  have hl3 : 3 ≤ os.length := by have := ord_len ho; omega
  have HDn := hide (fun (W : World) (hW : Below w.heap.size w W) => implDone xs A c W (by omega) (hA.old hW))
  have HA := hide hA; have HB := hide hB; have HSz := hide hsz
  have hdl : (doneL xs).length ≤ 6 := Nat.le_trans (doneI_len xs _) h6
  have HDm := hide (fun x (hx : x ∈ doneL xs) => doneI_mem xs xs.length x hx)
  have HRest := hide (rowK_rest xs os 2)
  obtain ⟨all, hall⟩ : ∃ all, all = doneL xs := ⟨_, rfl⟩
  rw [← hall] at HR HDn hdl HDm HRest
  have hmk : ∀ W : World, (Instr.makeSlice 54 (.int .i64 0) (.int .i64 0)).run Tryd.prog W = .ok (.slice (some ⟨W.heap.size, 0, none⟩) 0 0) (W.alloc (.cells (madeCells (Value.cells (.slice none 0 0)) (0 * 1)) 30)) := fun W => by
    have h := run_make_rowN (P := Tryd.prog) 54 30 i0 _ Tryd.underlying54 hi hz0 .i64 .i64 0 0 (Nat.zero_le _) (by rw [hz2]; omega) (by omega) W
    rw [hz1] at h
    exact h
  have hq1 : all.length ≤ 9223372036854775807 := by omega
  have hqx : xs.length ≤ 9223372036854775807 := by omega
  clear hA hB hsz ho hall hv
  go_enter Tryd.func42, Tryd.ntmps42
  go_upto_region 4 with (first
    | (go_at_call 94; refine HC.out.mono ?_; rintro e w1 ⟨rfl, hb1⟩; have HB1 := hide hb1; clear hb1)
    | (go_at_call 49; refine (within _ _ _ _).mono ?_; rintro e w' ⟨rfl, rfl⟩))
  generalize hW : World.alloc _ _ = wa
  have hsa : wa.heap.size = w1.heap.size + 1 := by rw [← hW]; simp
  have HBa := hide (show Below w.heap.size w wa by rw [← hW]; exact HB1.out.alloc HB1.out.size _)
  have HO0 := hide (show Own (tIntSB 3) 30 wa (fun b => b = w1.heap.size ∧ Old wa b) [] (.slice (some ⟨w1.heap.size, 0, none⟩) 0 0) by
    rw [← hW]
    exact Own.made w1 _ 0 (by rw [size_madeCells]; rfl) (by simp [maxLen]) ⟨rfl, by simp [Old]⟩)
  have hw1 : w.heap.size ≤ w1.heap.size := HB1.out.size
  have HDn2 := hide (HDn.out wa HBa.out)
  clear hW hmk HDn HB1 HC
  go_wp2_with (go_at_call 73; refine HDn2.out.mono ?_; rintro e w3 ⟨v3, rfl, hO3, hb3⟩; obtain ⟨A3, c3, rfl, h31, h32, hR3⟩ := hO3.sl; have HR3 := hide hR3; have HBb := hide hb3; have HB3 := hide (HBa.out.trans (hb3.mono HBa.out.size)); have hws : wa.heap.size ≤ w3.heap.size := hb3.size; clear hb3 hR3 hO3)
  have HP0 := hide (show PairsO (fun b => b = w1.heap.size ∨ w3.heap.size ≤ b) w3 ((all.take 0).flatMap (fun a => rowK xs os 2 a.toNat xs.length)) (.slice (some ⟨w1.heap.size, 0, none⟩) 0 0) [] from
    ⟨rfl, HO0.out.mono (fun b h => ⟨.inl h.1, Nat.lt_of_lt_of_le h.2 hws⟩) (fun b h => HBb.out.block b h.2), List.Pairwise.nil, fun p hp => by cases hp⟩)
  clear HO0 HBb HDn2 HBa
  obtain ⟨r, hr⟩ : ∃ r, r = w1.heap.size := ⟨_, rfl⟩
  rw [← hr] at HP0 hsa hw1 ⊢
  have HS := hide hsa; have HWs := hide hws; have HW1 := hide hw1
  clear hr hsa hws hw1
  go_loopw [7, 9, 10, 11, 13, 28] (fun v _ _ _ _ i wr => ∃ (k : Nat) (ps : List (List Int × Nat)), k ≤ all.length ∧ i = .int .i64 k ∧ ps.length ≤ k * 6 ∧ Hid (PairsO (fun b => b = r ∨ w3.heap.size ≤ b) wr ((all.take k).flatMap (fun a => rowK xs os 2 a.toNat xs.length)) v ps) ∧ Hid (Only (fun b => b = r ∨ w3.heap.size ≤ b) w3 wr)) (fun _ _ _ _ _ i _ => all.length - (intOf i).toNat)
  case atStart => exact ⟨0, [], Nat.zero_le _, rfl, by simp, HP0.out, Only.refl _ _⟩
  case round =>
    obtain ⟨k, ps, hk, rfl, hpl, hP, hOn⟩ := hrel
    obtain ⟨wv, rfl⟩ : ∃ wv : World, wv = wr := ⟨wr, rfl⟩
    have HP := hide hP.out; have HOn := hide hOn.out
    clear hP hOn HP0
    have HBr := hide (below_only HB3.out HOn.out HB3.out.size (fun i h => by have := HS.out; have := HWs.out; have := HW1.out; have := HB3.out.size; omega))
    by_cases hlt : k < all.length
    · have HRw := hide (HR3.out.mono (w' := wv) (fun b h => h) (fun b h => HOn.out.block b h.2 (fun e => by have := h.1; have := HS.out; have := h.2; omega)))
      obtain ⟨b0, off0, rfl, f0⟩ := at_IntG HRw.out hlt
      have hin := HDm.out _ (List.getElem_mem hlt)
      have HRst := hide (HRest.out k hlt)
      have HTk := hide (show all.take (k + 1) = all.take k ++ [all[k]] from List.take_succ_eq_append_getElem hlt)
      generalize all[k] = az at f0 hin HRst HTk
      obtain ⟨a, rfl⟩ : ∃ a : Nat, az = (a : Int) := ⟨az.toNat, by omega⟩
      rw [Int.toNat_natCast] at HRst
      have ha : a < xs.length := by omega
      obtain ⟨b1, off1, A2, c2, rfl, hb1S, g0, g1, g3, hj1, hj2, hj3⟩ := at_Txn HA.out HBr.out ha
      have hto := txnOk_parts (HTx.out _ (List.getElem_mem ha))
      have hdd : didOf 2 xs[a] = firstR xs[a].Ops := by unfold didOf; rw [if_pos rfl]
      have hdm := fun o (h : o ∈ didOf 2 xs[a]) => hto.1 o (didOf_mem 2 xs[a] o h)
      have hdl6 := didOf_len 2 xs[a] hto.2
      have HBk := hide (show ∀ b (hb : b < xs.length), brkS xs os 2 a b = (xs[a].Session == xs[b].Session && brkB os (didOf 2 xs[a]) (firstR xs[b].Ops)) from fun b hb => by
        unfold brkS
        rw [sesAt_nat xs a ha, sesAt_nat xs b hb, txAt_nat xs a ha, txAt_nat xs b hb])
      have HL0 := hide (implLastWrites xs[a] A2 c2 wv hto.2 hto.1 hj3)
      have HLw := hide (fun (W : World) (hW : Below wv.heap.size wv W) => (show Calls Tryd.prog 100 #[.agg #[.int .i64 xs[a].Session, .slice A2 xs[a].Ops.length c2, .bool xs[a].Done]] W fun e w' => ∃ v, e = .returned v ∧ Sl tOp w' (New W w') (didOf 2 xs[a]) v ∧ Below W.heap.size W w' from by
        rw [hdd]
        exact implFirstReads xs[a] A2 c2 W hto.2 hto.1 (hj3.old hW)))
      have hbz : b1 < wv.heap.size := Nat.lt_of_lt_of_le hb1S HBr.out.size
      have hj2' := hide hj3
      generalize didOf 2 xs[a] = did at HLw hdm hdl6 HBk
      have HDm2 := hide hdm
      clear hdd hdm hto hj3
      go_upto_region 11 with (first
        | (go_at_call 99; refine HL0.out.mono ?_; rintro e w4 ⟨v4, rfl, hS4, hb4⟩; obtain ⟨A4, c4, rfl, _, _, _⟩ := hS4.sl; have HB4 := hide hb4; have k0 := (hb4.cell (p := ⟨b1, off1 + a * 3, none⟩) hbz).trans g0; have k1 := (hb4.cell (p := ⟨b1, off1 + a * 3 + 1, none⟩) hbz).trans g1; have k3 := (hb4.cell (p := ⟨b1, off1 + a * 3 + 2, none⟩) hbz).trans g3; clear hS4 hb4)
        | (go_at_call 100; refine (HLw.out _ HB4.out).mono ?_; rintro e w5 ⟨v5, rfl, hS5, hb5⟩; obtain ⟨A5, c5, rfl, h51, h52, hR5⟩ := hS5; have HD5 := hide (hR5.mono (S' := New wv w5) (fun b h => ⟨Nat.le_trans HB4.out.size h.1, h.2⟩) (fun _ _ => rfl)); have HB5 := hide (HB4.out.trans (hb5.mono HB4.out.size)); clear hR5 hb5 k0 k1 k3))
      have hk1 : IntKind.i64.wrap ((k : Int) + 1) = (k : Int) + 1 := by rw [IntKind.wrap_i64]; omega
      have hk0 : (0 : Int) ≤ (k : Int) + 1 := by omega
      have hk2 : (k : Int) + 1 ≤ (all.length : Int) := by omega
      have hk3 : ((k : Int) + 1).toNat = k + 1 := by omega
      have hk4 : (k : Int) + 1 ≤ (c3 : Int) := by omega
      have hk5 : k + 1 ≤ c3 := by omega
      have hk6 : k + 1 ≤ all.length := by omega
      clear g0 g1 g3 f0
      by_cases hck : c3 = k + 1
      · go_upto_region 12 with (fail)
        have hrn : all.length - (k + 1) = 0 := by omega
        have HNo := hide (show (all.take (k + 1)).flatMap (fun a => rowK xs os 2 a.toNat xs.length) = (all.take k).flatMap (fun a => rowK xs os 2 a.toNat xs.length) by
          rw [HTk.out, List.flatMap_append, List.flatMap_cons, List.flatMap_nil, List.append_nil, Int.toNat_natCast, HRst.out, List.drop_eq_nil_of_le (by omega), List.flatMap_nil, List.append_nil])
        have HP5 := hide (HP.out.below HB5.out)
        have HOn5 := hide (HOn.out.trans (Only.of_below HB5.out))
        rw [hrn]
        refine wp_loop_rounds 1 ?_
        rw [rounds_succ]
        go_wp2_with fail
        go_roundw
        case rel => exact ⟨k + 1, ps, by omega, by go_num, by omega, by rw [HNo.out]; exact HP5.out, HOn5.out⟩
        case measure => simp [intOf]; omega
      · go_upto_region 12 with (fail)
        have HRest2 := hide (show Row tInt wv (New wa w3) (some ⟨b0, off0 + (k + 1), none⟩) (all.drop (k + 1)) from by
          have h := HRw.out.cut (k + 1)
          rw [Option.map_some, Go.WideShapes.add_plain, show (k + 1) * tInt.size = k + 1 from Nat.mul_one _] at h
          exact h)
        have hdl2 : (all.drop (k + 1)).length = all.length - (k + 1) := List.length_drop
        have HFl := hide (show (all.take (k + 1)).flatMap (fun a => rowK xs os 2 a.toNat xs.length) = (all.take k).flatMap (fun a => rowK xs os 2 a.toNat xs.length) ++ (all.drop (k + 1)).flatMap (fromA xs os 2 (a : Int)) by
          rw [HTk.out, List.flatMap_append, List.flatMap_cons, List.flatMap_nil, List.append_nil, Int.toNat_natCast, HRst.out])
        have HBm := hide (fun x (hx : x ∈ all.drop (k + 1)) => HDm.out x (List.mem_of_mem_drop hx))
        generalize all.drop (k + 1) = rest at HRest2 hdl2 HFl HBm
        generalize off0 + (k + 1) = ofr at HRest2 ⊢
        generalize c3 - (k + 1) = cr
        generalize (k : Int) + 1 = kz
        generalize (all.take k).flatMap (fun a => rowK xs os 2 a.toNat xs.length) = PRE at HP HFl
        have hrl : rest.length ≤ 6 := by omega
        rw [← hdl2]
        clear hdl2
        have HP5 := hide ((HP.out.wide (K' := fun b => ((b = r ∨ w3.heap.size ≤ b) ∧ b < wv.heap.size) ∨ w5.heap.size ≤ b) (fun b h1 h2 => .inl ⟨h1, h2⟩)).below HB5.out)
        have HR53 := hide (HRest2.out.mono (w' := w5) (fun b h => h) (fun b h => HB5.out.block b (Nat.lt_of_lt_of_le h.2 HOn.out.size)))
        have HZ35 := hide (show w3.heap.size ≤ wv.heap.size ∧ wv.heap.size ≤ w5.heap.size from ⟨HOn.out.size, HB5.out.size⟩)
        have HBw5 := hide (HBr.out.trans (HB5.out.mono HBr.out.size))
        clear HRest2 HRw HTk HRst HP hk1 hk2 hk3 hk4 hk5 hk6 hk0 hj1 hj2
        have hqr : rest.length ≤ 9223372036854775807 := by omega
        have HS2 := hide (show (∀ b, New wa w3 b → b ≠ r ∧ b < w3.heap.size) ∧ (w.heap.size ≤ r ∧ w.heap.size ≤ w3.heap.size) from ⟨fun b h => ⟨by have := h.1; have := HS.out; omega, h.2⟩, HW1.out, HB3.out.size⟩)
        go_loopw [7, 13, 50] (fun v _ j wr => ∃ (l : Nat) (qs : List (List Int × Nat)), l ≤ rest.length ∧ j = .int .i64 l ∧ qs.length ≤ k * 6 + l ∧ Hid (PairsO (fun b => ((b = r ∨ w3.heap.size ≤ b) ∧ b < wv.heap.size) ∨ w5.heap.size ≤ b) wr (PRE ++ (rest.take l).flatMap (fromA xs os 2 (a : Int))) v qs) ∧ Hid (Only (fun b => ((b = r ∨ w3.heap.size ≤ b) ∧ b < wv.heap.size) ∨ w5.heap.size ≤ b) w5 wr)) (fun _ _ j _ => rest.length - (intOf j).toNat)
        case atStart => exact ⟨0, ps, Nat.zero_le _, rfl, by omega, by rw [List.take_zero, List.flatMap_nil, List.append_nil]; exact HP5.out, Only.refl _ _⟩
        case round =>
          obtain ⟨l, qs, hl, rfl, hql, hQ, hOq⟩ := hrel
          have HQ := hide hQ.out; have HOq := hide hOq.out
          clear hQ hOq HP5
          have HBq := hide (below_only HBw5.out HOq.out HBw5.out.size (fun i h => by have := HS2.out.2; have := HBr.out.size; have := HZ35.out; omega))
          have HZq := hide HOq.out.size
          by_cases hlt2 : l < rest.length
          · have HRq := hide (HR53.out.mono (w' := wr) (fun b h => h) (fun b h => HOq.out.block b (by have := (HS2.out.1 b h).2; have := HZ35.out; omega) (fun e => by have := HS2.out.1 b h; have := HZ35.out; omega)))
            have HDq := hide (HD5.out.mono (w' := wr) (S' := Old wr) (fun b h => Nat.lt_of_lt_of_le h.2 HZq.out) (fun b h => HOq.out.block b h.2 (fun e => by have := h.1; have := h.2; omega)))
            obtain ⟨b8, off8, hAe, f1⟩ := at_IntG HRq.out hlt2
            obtain ⟨rfl, rfl⟩ : b0 = b8 ∧ ofr = off8 := by simpa using hAe
            have hin2 := HBm.out _ (List.getElem_mem hlt2)
            have HTl := hide (show (rest.take (l + 1)).flatMap (fromA xs os 2 (a : Int)) = (rest.take l).flatMap (fromA xs os 2 (a : Int)) ++ fromA xs os 2 (a : Int) rest[l] by
              rw [List.take_succ_eq_append_getElem hlt2, List.flatMap_append, List.flatMap_cons, List.flatMap_nil, List.append_nil])
            generalize rest[l] = bz at f1 hin2 HTl
            obtain ⟨b, rfl⟩ : ∃ b : Nat, bz = (b : Int) := ⟨bz.toNat, by omega⟩
            have hb : b < xs.length := by omega
            obtain ⟨b1', off1', A2', c2', hBe, _, g0, g1, g3, _, _, _⟩ := at_Txn HA.out HBq.out ha
            obtain ⟨rfl, rfl⟩ : b1 = b1' ∧ off1 = off1' := by simpa using hBe
            obtain ⟨b1', off1', A6, c6, hBe2, _, e0, e1, e3, _, _, hj6⟩ := at_Txn HA.out HBq.out hb
            obtain ⟨rfl, rfl⟩ : b1 = b1' ∧ off1 = off1' := by simpa using hBe2
            have HFa := hide (show fromA xs os 2 (a : Int) (b : Int) = if (xs[a].Session == xs[b].Session && brkB os did (firstR xs[b].Ops)) then [[(a : Int), (b : Int)]] else [] by
              unfold fromA
              rw [Int.toNat_natCast, Int.toNat_natCast, HBk.out b hb])
            have hto2 := txnOk_parts (HTx.out _ (List.getElem_mem hb))
            clear hAe hBe hBe2 hin2 g1 g3
            cases hse : (xs[a].Session == xs[b].Session) with
            | false =>
              have HG := hide (show (rest.take (l + 1)).flatMap (fromA xs os 2 (a : Int)) = (rest.take l).flatMap (fromA xs os 2 (a : Int)) by
                rw [HTl.out, HFa.out, hse, Bool.false_and, if_neg (by decide), List.append_nil])
              clear hto2 hj6
              go_upto_region 14 with (fail)
              go_quiet (fail)
              go_wp2_with fail
              go_roundw
              case rel => exact ⟨l + 1, qs, by omega, by go_num, by omega, by rw [HG.out]; exact HQ.out.below (below_drewN (Below.refl _ wr) _), HOq.out.trans (Only.of_below (below_drewN (Below.refl _ wr) _))⟩
              case measure => simp [intOf]; omega
            | true =>
              have HBd := hide (show Below w.heap.size w wr.drew from HBq.out.drew)
              have HCb := hide (implBreaks os did xs[b] B A5 A6 c6 d c5 wr.drew hl3 hmo HSz.out hdl6 HDm2.out hto2.2 hto2.1 (HB.out.old HBd.out) (HDq.out.old (Below.refl _ wr).drew) (hj6.old (Below.refl _ wr).drew))
              generalize brkB os did (firstR xs[b].Ops) = Bo at HCb HFa
              clear hto2 hj6
              go_upto_region 14 with (fail)
              go_still_tail 18, (by kernel_rfl)
              change wpList _ _ _ _ _ wr.drew
              have HQ6 := hide (HQ.out.below (Below.refl _ wr).drew)
              have HO6 := hide (HOq.out.trans (Only.of_below (Below.refl _ wr).drew))
              have HZ6 := hide (show wr.heap.size ≤ wr.drew.heap.size from Nat.le_refl _)
              generalize wr.drew = w6 at HCb HQ6 HO6 HZ6 HBd ⊢
              clear HQ HOq HBq HRq HDq g0 e0 e1 e3 f1
              cases Bo with
              | false =>
                have HG := hide (show (rest.take (l + 1)).flatMap (fromA xs os 2 (a : Int)) = (rest.take l).flatMap (fromA xs os 2 (a : Int)) by
                  rw [HTl.out, HFa.out, hse, Bool.true_and, if_neg (by decide), List.append_nil])
                clear hse
                go_wp2_with (go_at_call 101; refine HCb.out.mono ?_; rintro e w7 ⟨rfl, hb7⟩; have HQ7 := hide (HQ6.out.below hb7); have HO7 := hide (HO6.out.trans (Only.of_below hb7)); clear hb7)
                go_roundw
                case rel => exact ⟨l + 1, qs, by omega, by go_num, by omega, by rw [HG.out]; exact HQ7.out, HO7.out⟩
                case measure => simp [intOf]; omega
              | true =>
                have HG := hide (show (rest.take (l + 1)).flatMap (fromA xs os 2 (a : Int)) = (rest.take l).flatMap (fromA xs os 2 (a : Int)) ++ [[(a : Int), (b : Int)]] by
                  rw [HTl.out, HFa.out, hse, Bool.true_and, if_pos rfl])
                clear hse
                go_upto_region 15 with (go_at_call 101; refine HCb.out.mono ?_; rintro e w7 ⟨rfl, hb7⟩; have HQ7 := hide (HQ6.out.below hb7); have HO7 := hide (HO6.out.trans (Only.of_below hb7)); have HZ7 := hide (Nat.le_trans HZq.out (Nat.le_trans HZ6.out hb7.size)); clear hb7)
                have HOw := hide (HQ7.out.own.onlyBelow ((Below.refl _ w7).alloc (Nat.le_refl _) (.cells #[.int .i64 a, .int .i64 b] 3)))
                have HLt := hide (own_lt (B := w7.heap.size) HQ7.out.own (fun b h => h.2))
                have HHp := hide (hold_pair w7 (a : Int) (b : Int))
                go_wp2_with (at_builtin; (refine wpList_put (tIntSB 3) rfl (.tmp 74) (.tmp 78) 54 rfl 30 i0 _ 24 Tryd.underlying54 hi hz0 hz1 hz2 rfl (by decide) (fun b => ((b = r ∨ w3.heap.size ≤ b) ∧ b < wv.heap.size) ∨ w5.heap.size ≤ b) (fun x => x = w7.heap.size) qs ([(a : Int), (b : Int)], w7.heap.size) [.slice (some ⟨w7.heap.size, 0, none⟩) 2 2] _ rfl HOw.out 1 (by rw [World.size_alloc]; rfl) ⟨_, rfl, HHp.out⟩ (fun x h => ⟨by have := HZ7.out; exact .inr (by omega), by subst h; simp [Old], fun e => by have := HLt.out x e; omega⟩) (fun x hx => by have := HZ7.out; simp at hx; exact .inr (by omega)) (by simp only [maxLen]; omega) (by omega) ?_; intro v8 w8 hO_ hK_; have HO8 := hide hO_; have HK8 := hide hK_; clear hO_ hK_))
                go_roundw
                case rel =>
                  refine ⟨l + 1, qs ++ [([(a : Int), (b : Int)], w7.heap.size)], by omega, by go_num, by rw [List.length_append]; simp; omega, ⟨by rw [HG.out, List.map_append, HQ7.out.eq, List.append_assoc]; rfl, HO8.out, HQ7.out.up.snoc (fun q hq => HQ7.out.lt q hq), fun p hp => ?_⟩, HO7.out.trans ((Only.of_alloc w7 _).trans HK8.out)⟩
                  have hz8 := HK8.out.size
                  simp at hz8
                  rcases List.mem_append.1 hp with hp | hp
                  · have := HQ7.out.lt p hp; omega
                  · simp at hp; subst hp; show w7.heap.size < _; omega
                case measure => simp [intOf]; omega
          · obtain rfl : l = rest.length := by omega
            have HF := hide (show (all.take (k + 1)).flatMap (fun a => rowK xs os 2 a.toNat xs.length) = PRE ++ (rest.take rest.length).flatMap (fromA xs os 2 (a : Int)) by rw [List.take_length]; exact HFl.out)
            have HQ2 := hide (HQ.out.wide (K' := fun b => b = r ∨ w3.heap.size ≤ b) (fun b h1 h2 => by rcases h1 with h1 | h1; exact h1.1; have := HZ35.out; exact .inr (by omega)))
            have HO2 := hide (HOn.out.trans ((Only.of_below HB5.out).trans (HOq.out.mono (fun b h1 => by rcases h1 with h1 | h1; exact h1.1; have := HZ35.out; exact .inr (by omega)))))
            go_wp2_with fail
            go_roundw
            case rel => exact ⟨k + 1, qs, by omega, by go_num, by omega, by rw [HF.out]; exact HQ2.out, HO2.out⟩
            case measure => simp [intOf]; omega
    · obtain rfl : k = all.length := by omega
      have HF := hide (show brkR xs os 2 = (all.take all.length).flatMap (fun a => rowK xs os 2 a.toNat xs.length) by rw [List.take_length]; exact HR.out)
      obtain ⟨g, hg, _⟩ := HP.out.own.hold
      obtain ⟨A9, c9, hv9, h91, h92, _⟩ := id hg
      subst hv9
      have HG := hide hg
      have HEq := hide HP.out.eq
      have HFar := hide HP.out.far
      have hpm : ps.length ≤ 36 := by omega
      clear hg
      rw [show ps.length = ps.length from rfl]
      go_wp2_with (go_at_call 102; refine (clip_IntS_ _ _ _ _ h91 h92).mono ?_; rintro e w' ⟨rfl, rfl⟩)
      go_ret
      exact ⟨_, rfl, ⟨ps, g, by rw [HEq.out, HF.out], HG.out.clip.mono (fun b h => ⟨by have := h.1; have := HS.out; have := HWs.out; have := HW1.out; have := HB3.out.size; omega, h.2⟩) (fun _ _ => rfl), HFar.out⟩, HBr.out⟩
set_option maxRecDepth 10000 in
set_option maxHeartbeats 2000000 in
theorem implSessionBreaks (xs : List Txn) (os : List (List Int)) (p : Int) (A B : Option Addr) (c d : Nat) (w : World) (hm : xs.length ≤ maxLen) (hmo : os.length ≤ 1048576) (hsz : ∀ o ∈ os, o.length ≤ 1048576) (hA : Row tTxn w (Old w) A xs) (hB : Row (tSlice tInt) w (Old w) B os) :
    Calls Tryd.prog 42 #[.slice A xs.length c, .slice B os.length d, .int .i64 p] w fun e w' => ∃ v, e = .returned v ∧ HoldS w' (New w w') (brkR xs os p) v ∧ Below w.heap.size w w' := by
  have HC := hide (implOrdersValid xs os A B c d w hm hmo hsz hA hB)
  cases ho : ordB xs os with
  | false =>
    have HF := hide (show brkR xs os p = [] by unfold brkR; rw [ho]; rfl)
    rw [ho] at HC
    clear ho hA hB
    go_enter Tryd.func42, Tryd.ntmps42
    go_wp2_with (go_at_call 94; refine HC.out.mono ?_; rintro e w1 ⟨rfl, hb1⟩; have HB1 := hide hb1; clear hb1)
    go_ret
    exact ⟨_, rfl, by rw [HF.out]; exact ⟨[], 0, rfl, Hold.nil 0, List.Pairwise.nil⟩, HB1.out⟩
  | true =>
    cases hp : inR p 1 2 with
    | false =>
      have HF := hide (show brkR xs os p = [] by unfold brkR; rw [hp, Bool.and_false]; rfl)
      rw [ho] at HC
      clear ho hA hB
      go_enter Tryd.func42, Tryd.ntmps42
      go_wp2_with (first
        | (go_at_call 94; refine HC.out.mono ?_; rintro e w1 ⟨rfl, hb1⟩; have HB1 := hide hb1; clear hb1)
        | (go_at_call 49; refine (within _ _ _ _).mono ?_; rintro e w' ⟨rfl, rfl⟩; rw [hp]))
      go_ret
      exact ⟨_, rfl, by rw [HF.out]; exact ⟨[], 0, rfl, Hold.nil 0, List.Pairwise.nil⟩, HB1.out⟩
    | true =>
      have h := inR_iff.1 hp
      rcases (show p = 1 ∨ p = 2 by omega) with rfl | rfl
      · exact implSesBrk1 xs os A B c d w hm hmo hsz ho hA hB
      · exact implSesBrk2 xs os A B c d w hm hmo hsz ho hA hB
end Go.Proofs.YtaaagoppecnmmaaDoor
