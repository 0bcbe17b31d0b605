/- The reference's SessionEdges, of valid histories. -/
import Derived.Test.YtaaagoppecnmmaaGreatDoorDone
import Derived.Test.YtaaagoppecnmmaaGreatDoorHistS
import Derived.BigQuiet
namespace Go.Proofs.YtaaagoppecnmmaaGreatDoor
open Go.RowKit
set_option linter.unusedVariables false
set_option linter.unusedSimpArgs false

theorem infoEdgeT : (Tryz.prog.info? 107).map (fun i => (i.zero, i.size, i.bytes)) = some (some (.agg #[.int .i64 0, .int .i64 0, .int .i64 0]), 3, 24) := by kernel_rfl
def doneAt (h : List Txn) (k : Nat) : Bool := (h[k]?.map Txn.Done).getD false
def sesAt (h : List Txn) (k : Nat) : Int := (h[k]?.map Txn.Session).getD 0
def pairB (h : List Txn) (k j : Nat) : Bool := doneAt h j && sesAt h j == sesAt h k
/-- The next committed transaction of the same session. -/
def nextS (h : List Txn) (k : Nat) : Option Nat := (List.range h.length).find? fun j => decide (k < j) && pairB h k j
def edgeAt (h : List Txn) (k : Nat) : List Edge := if doneAt h k then (match nextS h k with | some j => [⟨(k : Int), (j : Int), 4⟩] | none => []) else []
def sEdges (h : List Txn) (n : Nat) : List Edge := (List.range n).flatMap (edgeAt h)
theorem sEdges_succ (h : List Txn) (n : Nat) : sEdges h (n + 1) = sEdges h n ++ edgeAt h n := by
  unfold sEdges
  rw [List.range_succ, List.flatMap_append]
  simp
theorem edgeAt_len (h : List Txn) (k : Nat) : (edgeAt h k).length ≤ 1 := by
  unfold edgeAt
  split
  · split <;> simp
  · simp
theorem sEdges_len (h : List Txn) : ∀ n, (sEdges h n).length ≤ n
  | 0 => by simp [sEdges]
  | n + 1 => by
    rw [sEdges_succ, List.length_append]
    have := sEdges_len h n; have := edgeAt_len h n; omega
theorem nextS_some {h : List Txn} {k j : Nat} (hk : k < j) (hj : j < h.length) (hp : pairB h k j = true) (hn : ∀ m, k < m → m < j → pairB h k m = false) : nextS h k = some j := by
  unfold nextS
  rw [List.find?_eq_some_iff_append]
  refine ⟨by simp [hk, hp], List.range j, (List.range' (j + 1) (h.length - j - 1)), ?_, fun m hm => ?_⟩
  · rw [List.range_eq_range', List.range_eq_range', ← List.range'_succ, show h.length - j - 1 + 1 = h.length - j by omega]
    have := List.range'_append (s := 0) (m := j) (n := h.length - j) (step := 1)
    simp only [Nat.one_mul, Nat.zero_add] at this
    rw [this]
    congr 1; omega
  · have hmj : m < j := List.mem_range.1 hm
    by_cases hkm : k < m
    · simp [hkm, hn m hkm hmj]
    · simp [hkm]
theorem nextS_none {h : List Txn} {k : Nat} (hn : ∀ m, k < m → m < h.length → pairB h k m = false) : nextS h k = none := by
  unfold nextS
  rw [List.find?_eq_none]
  intro m hm
  have hml := List.mem_range.1 hm
  by_cases hkm : k < m
  · simp [hkm, hn m hkm hml]
  · simp [hkm]
theorem doneAt_nat (h : List Txn) (k : Nat) (hk : k < h.length) : doneAt h k = h[k].Done := by unfold doneAt; rw [List.getElem?_eq_getElem hk]; rfl
theorem sesAt_nat (h : List Txn) (k : Nat) (hk : k < h.length) : sesAt h k = h[k].Session := by unfold sesAt; rw [List.getElem?_eq_getElem hk]; rfl
set_option maxRecDepth 10000 in
set_option maxHeartbeats 2000000 in
theorem specSessionEdges (xs : List Txn) (A : Option Addr) (c : Nat) (w : World) (hv : histV xs = true) (hm : xs.length ≤ maxLen) (ht : opsN xs ≤ 1048576) (hA : Row tTxn w (Old w) A xs) :
    Calls Tryz.prog 43 #[.slice A xs.length c] w fun e w' => ∃ v, e = .returned v ∧ Own tEdge 107 w' (New w w') (sEdges xs xs.length) v ∧ Below w.heap.size w w' := by
  obtain ⟨i0, hi, hz0, hz1, hz2⟩ := info_parts infoEdgeT
  have HC := hide (fun (W : World) (hb : Below w.heap.size w W) => specHistoryValid xs A c W hm (hA.old hb) ht)
  have HA := hide hA
  have hq : xs.length ≤ 9223372036854775807 := by simpa [maxLen] using hm
  have h6 := hide (histV_parts hv).1
  rw [hv] at HC
  clear hA hm ht
  go_enter Tryz.func43, Tryz.ntmps43
  go_wp2_with fail
  go_loopw [3, 4, 5] (fun v i _ wr => ∃ k : Nat, k ≤ xs.length ∧ i = .int .i64 k ∧ Hid (Own tEdge 107 wr (fun b => w.heap.size ≤ b ∧ Old wr b) (sEdges xs k) v) ∧ Below w.heap.size w wr) (fun _ i _ _ => xs.length - (intOf i).toNat)
  case atStart => exact ⟨0, Nat.zero_le _, rfl, Own.empty w (fun b => w.heap.size ≤ b) (Nat.le_refl _), (Below.refl _ w).alloc (Nat.le_refl _) _⟩
  case round =>
    obtain ⟨k, hk, rfl, hO, hb⟩ := hrel
    by_cases hlt : k < xs.length
    · have HC1 := hide (HC.out wr hb)
      have HS := hide (sEdges_succ xs k)
      have hl := sEdges_len xs k
      have HB := hide hb
      have hd : decide ((k : Int) < (xs.length : Int)) = true := by simpa using hlt
      have hk6 : k < 6 := by have := h6.out; omega
      have HDk := hide (doneAt_nat xs k hlt)
      obtain ⟨b, off, A2, c2, hA2, _⟩ := at_Txn HA.out hb hlt
      subst hA2
      cases hdk : xs[k].Done with
      | false =>
        have HE := hide (show sEdges xs (k + 1) = sEdges xs k by rw [HS.out]; unfold edgeAt; rw [HDk.out, hdk]; simp)
        have Hdk := hide hdk
        clear hdk
        go_wp2_with (go_at_call 32; refine HC1.out.mono ?_; rintro e w2 ⟨rfl, hb2⟩; have HB2 := hide (HB.out.trans (hb2.mono HB.out.size)); have HO2 := hide (hO.out.onlyBelow hb2); obtain ⟨b', off', A3, c3, hbe, hbS, d0, d1, d3, hj1, hj2, hj3⟩ := at_Txn HA.out HB2.out hlt; obtain ⟨rfl, rfl⟩ := (show b = b' ∧ off = off' by simpa using hbe); rw [Hdk.out] at d3; clear hb2 hbe hj3 hj1 hj2 d0 d1)
        refine wp_loop_rounds 1 ?_
        rw [rounds_succ]
        by_cases hj : k + 1 < xs.length
        · have hj' : ((k : Int) + 1) < (xs.length : Int) := by omega
          have hdj : decide ((k : Int) + 1 < (xs.length : Int)) = true := by simpa using hj'
          go_wp2_with fail
          go_roundw
          case rel => exact ⟨k + 1, by omega, by go_num, by rw [HE.out]; exact HO2.out, HB2.out⟩
          case measure => simp [intOf]; omega
        · have hdj : decide ((k : Int) + 1 < (xs.length : Int)) = false := decide_eq_false (by omega)
          clear hj
          go_wp2_with fail
          go_roundw
          case rel => exact ⟨k + 1, by omega, by go_num, by rw [HE.out]; exact HO2.out, HB2.out⟩
          case measure => simp [intOf]; omega
      | true =>
        have HE := hide (show sEdges xs (k + 1) = sEdges xs k ++ (match nextS xs k with | some j => [⟨(k : Int), (j : Int), 4⟩] | none => []) by rw [HS.out]; unfold edgeAt; rw [HDk.out, hdk]; simp)
        have Hdk := hide hdk
        clear hdk
        go_wp2_with (go_at_call 32; refine HC1.out.mono ?_; rintro e w2 ⟨rfl, hb2⟩; have HB2 := hide (HB.out.trans (hb2.mono HB.out.size)); have HO2 := hide (hO.out.onlyBelow hb2); clear hb2)
        clear hb
        have HT := hide (show ((k : Int) + 1) = ((k + 1 : Nat) : Int) by omega)
        rw [HT.out]
        go_loopw [3, 5] (fun v j wr2 => v = u3 ∧ ∃ l : Nat, k + 1 ≤ l ∧ l ≤ xs.length ∧ j = .int .i64 l ∧ Hid (∀ m, k < m → m < l → pairB xs k m = false) ∧ Hid (Below w2.heap.size w2 wr2)) (fun _ j _ => xs.length - (intOf j).toNat)
        case atStart => exact ⟨rfl, k + 1, Nat.le_refl _, by omega, rfl, fun m h1 h2 => by omega, Below.refl _ _⟩
        case round =>
          obtain ⟨rfl, l, hkl, hll, rfl, hN, hbw⟩ := hrel
          have hbA := HB2.out.trans (hbw.out.mono HB2.out.size)
          have HBA := hide hbA
          have HO3 := hide (HO2.out.onlyBelow hbw.out)
          by_cases hlt2 : l < xs.length
          · have hdl : decide ((l : Int) < (xs.length : Int)) = true := by simpa using hlt2
            obtain ⟨b', off', A3, c3, hbe, hbS, d0, d1, d3, hj1, hj2, hj3⟩ := at_Txn HA.out hbA hlt
            obtain ⟨rfl, rfl⟩ := (show b = b' ∧ off = off' by simpa using hbe)
            rw [Hdk.out] at d3
            obtain ⟨b', off', A4, c4, hbe2, _, e0, e1, e3, _⟩ := at_Txn HA.out hbA hlt2
            obtain ⟨rfl, rfl⟩ := (show b = b' ∧ off = off' by simpa using hbe2)
            have HPr := hide (show pairB xs k l = (xs[l].Done && xs[l].Session == xs[k].Session) by unfold pairB; rw [doneAt_nat xs l hlt2, sesAt_nat xs l hlt2, sesAt_nat xs k hlt])
            have HNx := hide (show pairB xs k l = false → ∀ m, k < m → m < l + 1 → pairB xs k m = false from fun hp m h1 h2 => by
              by_cases hml : m < l
              · exact hN.out m h1 hml
              · obtain rfl : m = l := by omega
                exact hp)
            have HNs := hide (show pairB xs k l = true → nextS xs k = some l from fun hp => nextS_some (by omega) hlt2 hp hN.out)
            have Hbw := hide hbw.out
            clear hbe hbe2 hj1 hj2 hj3 hbA hbw hN d1 e1
            cases hdn : xs[l].Done with
            | false =>
              have HG := hide (HNx.out (by rw [HPr.out, hdn]; rfl))
              rw [hdn] at e3
              clear hdn
              go_wp2_with fail
              go_quiet (fail)
              go_wp2_with fail
              go_roundw
              case rel => exact ⟨rfl, l + 1, by omega, by omega, by go_num, HG.out, Hbw.out.trans ⟨rfl, rfl, rfl, Nat.le_refl _, fun _ _ => rfl⟩⟩
              case measure => simp [intOf]; omega
            | true =>
              cases hse : xs[l].Session == xs[k].Session with
              | false =>
                have HG := hide (HNx.out (by rw [HPr.out, hdn, hse]; rfl))
                rw [hdn] at e3
                clear hdn
                go_wp2_with fail
                go_quiet (fail)
                go_wp2_with fail
                go_roundw
                case rel => exact ⟨rfl, l + 1, by omega, by omega, by go_num, HG.out, Hbw.out.trans ⟨rfl, rfl, rfl, Nat.le_refl _, fun _ _ => rfl⟩⟩
                case measure => simp [intOf]; omega
              | true =>
                have HG := hide (show sEdges xs (k + 1) = sEdges xs k ++ [⟨(k : Int), (l : Int), 4⟩] by rw [HE.out, HNs.out (by rw [HPr.out, hdn, hse]; rfl)])
                rw [hdn] at e3
                clear hdn
                go_wp2_with fail
                go_quiet (fail)
                have HO4 := hide (show Own tEdge 107 (wr.drewN nq) (fun b => w.heap.size ≤ b ∧ Old (wr.drewN nq) b) (sEdges xs k) u3 from HO3.out.mono (fun _ h => h) (fun _ _ => rfl))
                have HB4 := hide (show Below w.heap.size w (wr.drewN nq) from HBA.out.trans ⟨rfl, rfl, rfl, Nat.le_refl _, fun _ _ => rfl⟩)
                generalize wr.drewN nq = w4 at HO4 HB4 ⊢
                go_wp2_with (at_builtin; refine wpList_put tEdge rfl (.tmp 50) (.tmp 54) 65 rfl 107 i0 _ 24 Tryz.underlying65 hi hz0 hz1 hz2 rfl (by decide) (fun b => w.heap.size ≤ b) (fun _ => False) (sEdges xs k) ⟨(k : Int), (l : Int), 4⟩ _ _ rfl HO4.out _ rfl rfl (fun _ h => h.elim) (fun b hb => Nat.le_trans HB4.out.size hb) (by simp only [maxLen]; omega) (by omega) ?_; intro v3 w3 hO_ hK_; have HO5 := hide hO_; have HK5 := hide hK_; clear hO_ hK_)
                go_roundw
                case rel => exact ⟨k + 1, by omega, by go_num, by rw [HG.out]; exact HO5.out, below_only HB4.out HK5.out HB4.out.size (fun _ h => h)⟩
                case measure => simp [intOf]; omega
          · obtain rfl : l = xs.length := by omega
            have hdl : decide (((xs.length : Nat) : Int) < (xs.length : Int)) = false := by simp
            have HG := hide (show sEdges xs (k + 1) = sEdges xs k by rw [HE.out, nextS_none hN.out]; simp)
            clear hbA hN
            go_wp2_with fail
            go_roundw
            case rel => exact ⟨k + 1, by omega, by go_num, by rw [HG.out]; exact HO3.out, HBA.out⟩
            case measure => simp [intOf]; omega
    · obtain rfl : k = xs.length := by omega
      have hd : decide (((xs.length : Nat) : Int) < (xs.length : Int)) = false := by simp
      have HO1 := hide hO.out
      clear hO
      go_wp2_with fail
      go_ret
      exact ⟨_, rfl, HO1.out, hb⟩
end Go.Proofs.YtaaagoppecnmmaaGreatDoor
