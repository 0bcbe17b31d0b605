/- The edges of valid orders, each by its reason: what the gathered list holds. Plain laws. Anomalies of edges, and levels: what both programs ask, in one form. Plain laws. Running transactions: the program's follow, the reference's l12Runs. The reference's l12Runs. Plain laws: all orders of a list, and the search that finds the first good one. Plain laws: the search for the first order that is good. Small sets as bits. Plain laws: the search for serial orders. Slices of slices that grow (no reader): elements that are read elsewhere; blocks told apart by their type. -/
import Derived.Test.YtjiobgfaohldhaaGreatQReadM
import Derived.Test.YtjiobgfaohldhaaGreatQEdgI
import Derived.Test.YtjiobgfaohldhaaGreatQSortC
import Derived.Test.YtjiobgfaohldhaaGreatQGraph
import Derived.Test.YtjiobgfaohldhaaGreatQSnapN
import Derived.Test.YtjiobgfaohldhaaGreatQRanges
import Derived.Test.YtjiobgfaohldhaaGreatQToA
import Derived.RegionTactic
import Derived.BigQuiet
import Derived.Laws.BitsAllLaws
import Derived.Laws.ShiftsVarLaws
import Derived.Laws.BitsLemmas
import Derived.WalkSmall
namespace Go.Proofs.YtjiobgfaohldhaaGreat
open Go.RowKit
set_option linter.unusedVariables false
set_option linter.unusedSimpArgs false

/-- The edges of orders. -/
def edgR (h : List Txn) (os : List (List Int)) : List Edge := if ordB h os then canE (rawI h os) else []
theorem edgR_ok {h : List Txn} {os : List (List Int)} (ho : ordB h os = true) : edgR h os = canE (rawI h os) := by unfold edgR; rw [if_pos ho]
theorem edgR_len (h : List Txn) (os : List (List Int)) : (edgR h os).length ≤ 144 := by
  unfold edgR
  split
  · exact List.length_filter_le _ _
  · simp
/-! ### What serial orders say -/
theorem Bef.left {o : List Int} {a b : Int} (h : Bef o a b) : a ∈ o ∧ b ∈ o := by
  obtain ⟨p, q, rfl, ha⟩ := h
  exact ⟨List.mem_append_left _ ha, by simp⟩
/-! ### What orders without cycles say -/
end Go.Proofs.YtjiobgfaohldhaaGreat
namespace Go.Proofs.YtjiobgfaohldhaaGreat
open Go.RowKit
set_option linter.unusedVariables false
set_option linter.unusedSimpArgs false

theorem Only.drew_ {S : Nat → Prop} {a b : World} (h : Only S a b) : Only S a b.drew := ⟨h.os, h.tape, h.output, h.size, h.block⟩
theorem Blk.drew_ {w : World} {g : Nat} {t : TypeId} {cs : Array Value} (h : Blk w g t cs) : Blk w.drew g t cs := h
def cells3 (s : St) : Array Value := #[.int .i64 (s 0), .int .i64 (s 1), .int .i64 (s 2)]
theorem put_same (s : St) (k v : Int) (h : s k = v) : s.put k v = s := by
  funext x
  unfold St.put
  split
  · rename_i hx; rw [hx, h]
  · rfl
theorem runOps_append (a b : List Op) : ∀ (s : St), runOps s (a ++ b) = (runOps s a).bind fun s' => runOps s' b := by
  induction a with
  | nil => intro s; rfl
  | cons o r ih =>
    intro s
    simp only [List.cons_append, runOps]
    split
    · rfl
    · exact ih _
theorem runOps_take (ops : List Op) (k : Nat) (hk : k < ops.length) (s s' : St) (h : runOps s (ops.take k) = some s') (hok : (ops[k].Kind == 1 && s' ops[k].Key != ops[k].Value) = false) : runOps s (ops.take (k + 1)) = some (s'.put ops[k].Key ops[k].Value) := by
  rw [List.take_succ_eq_append_getElem hk, runOps_append, h]
  simp only [Option.bind_some, runOps, hok]
  rfl
theorem runOps_stop (ops : List Op) (k : Nat) (hk : k < ops.length) (s s' : St) (h : runOps s (ops.take k) = some s') (hok : (ops[k].Kind == 1 && s' ops[k].Key != ops[k].Value) = true) : runOps s ops = none := by
  have : ops = ops.take k ++ ops[k] :: ops.drop (k + 1) := by rw [← List.drop_eq_getElem_cons hk, List.take_append_drop]
  rw [this, runOps_append, h]
  simp only [Option.bind_some, runOps, hok]
  rfl
theorem cells3_put (s : St) (k v : Int) (h : k = 0 ∨ k = 1 ∨ k = 2) : (cells3 s).setIfInBounds k.toNat (.int .i64 v) = cells3 (s.put k v) := by
  rcases h with rfl | rfl | rfl <;> simp [cells3, St.put]
set_option maxRecDepth 10000 in
set_option maxHeartbeats 2000000 in
theorem follow_any (t : Txn) (s : St) (A : Option Addr) (c : Nat) (w : World) (bs : Nat) (hm : t.Ops.length ≤ maxLen) (hok : ∀ o ∈ t.Ops, opOk o = true) (hB : Blk w bs 95 (cells3 s)) (hA : Row tOp w (fun b => Old w b ∧ b ≠ bs) A t.Ops) :
    Calls Tryz.prog 71 #[.pointer (some ⟨bs, 0, none⟩), .agg #[.int .i64 t.Session, .slice A t.Ops.length c, .bool t.Done]] w fun e w' => e = .returned (.bool (runOps s t.Ops).isSome) ∧ (∃ s', Blk w' bs 95 (cells3 s') ∧ ∀ s2, runOps s t.Ops = some s2 → s' = s2) ∧ Only (fun b => b = bs) w w' := by
  have hq : t.Ops.length ≤ 9223372036854775807 := by simpa [maxLen] using hm
  have HOk := hide hok
  have hlt0 := hB.lt
  have HB0 := hide (hB.alloc (.cells #[.int .i64 t.Session, .slice A t.Ops.length c, .bool t.Done] 57))
  have HA := hide (fun (W : World) (hW : Only (fun b => b = bs) w W) => hA.mono (w' := W) (S' := Old W) (fun b h => Nat.lt_of_lt_of_le h.1 hW.size) (fun b h => hW.block b h.1 h.2))
  clear hA hok hm hB
  go_enter Tryz.func71, Tryz.ntmps71
  go_wp2
  go_loopw [6, 10, 14, 24] (fun _ i _ _ wr => ∃ (k : Nat) (s' : St), k ≤ t.Ops.length ∧ i = .int .i64 k ∧ Hid (runOps s (t.Ops.take k) = some s') ∧ Hid (Blk wr bs 95 (cells3 s')) ∧ Hid (Only (fun b => b = bs) w wr)) (fun _ i _ _ _ => t.Ops.length - (intOf i).toNat)
  case atStart => exact ⟨0, s, Nat.zero_le _, rfl, rfl, HB0.out, Only.of_alloc _ _⟩
  case round =>
    obtain ⟨k, s', hk, rfl, hR, hB, hO⟩ := hrel
    by_cases hlt : k < t.Ops.length
    · obtain ⟨b2, off2, rfl, hbS2, d0, d1, d2⟩ := at_Op (HA.out wr hO.out) (Below.refl _ wr) hlt
      have hpar := opOk_parts (HOk.out _ (List.getElem_mem hlt))
      have HTk := hide (runOps_take t.Ops k hlt s s' hR.out)
      have HSt := hide (runOps_stop t.Ops k hlt s s' hR.out)
      generalize t.Ops[k] = o at d0 d1 d2 hpar HTk HSt
      obtain ⟨kd, ky, vl⟩ := o
      dsimp only at d0 d1 d2 hpar HTk HSt
      obtain ⟨hkd, hky, hv0, hv1, hv2⟩ := hpar
      have HW := hide (writes_any ⟨kd, ky, vl⟩ (wr.alloc (.cells #[.int .i64 kd, .int .i64 ky, .int .i64 vl] 82)))
      have hB' := hB.out
      have hlt2 := hB'.lt
      have b0 := hB'.cell 0; have b1 := hB'.cell 1; have b2_ := hB'.cell 2; have g0 := hB'.frozen 0; have g1 := hB'.frozen 1; have g2 := hB'.frozen 2
      simp only [cells3, List.getElem?_toArray, List.getElem?_cons_zero, List.getElem?_cons_succ] at b0 b1 b2_
      have HO := hide hO.out
      clear hR hO hB hv0 hv1 hv2
      rcases hkd with rfl | rfl
      · cases hne : (s' ky != vl) with
        | true =>
          rcases hky with rfl | rfl | rfl
          · have Hne := hide hne
            have HN := hide (show (runOps s t.Ops).isSome = false by rw [HSt.out (by rw [Hne.out]; rfl)]; rfl)
            have HN2 := hide (fun s2 (h : runOps s t.Ops = some s2) => (show s' = s2 by rw [HSt.out (by rw [Hne.out]; rfl)] at h; cases h))
            go_wp2_with (go_at_call 113; refine HW.out.mono ?_; rintro e w2 ⟨rfl, hb2⟩; have HB2 := hide (hB'.alloc (.cells #[.int .i64 1, .int .i64 0, .int .i64 vl] 82) |>.below hb2 (hB'.alloc _).lt); have HO2 := hide ((HO.out.trans (Only.of_alloc wr (.cells #[.int .i64 1, .int .i64 0, .int .i64 vl] 82))).trans (Only.of_below hb2)); obtain ⟨hc2, hf2⟩ := bcell hb2; have hz2 : wr.heap.size < w2.heap.size := (by have := hb2.size; simp at this; omega); clear hb2)
            go_region
            all_goals go_wp2
            all_goals go_ret
            all_goals exact ⟨ret_bool HN.out.symm, ⟨s', HB2.out, HN2.out⟩, HO2.out.drew_⟩
          · have Hne := hide hne
            have HN := hide (show (runOps s t.Ops).isSome = false by rw [HSt.out (by rw [Hne.out]; rfl)]; rfl)
            have HN2 := hide (fun s2 (h : runOps s t.Ops = some s2) => (show s' = s2 by rw [HSt.out (by rw [Hne.out]; rfl)] at h; cases h))
            go_wp2_with (go_at_call 113; refine HW.out.mono ?_; rintro e w2 ⟨rfl, hb2⟩; have HB2 := hide (hB'.alloc (.cells #[.int .i64 1, .int .i64 1, .int .i64 vl] 82) |>.below hb2 (hB'.alloc _).lt); have HO2 := hide ((HO.out.trans (Only.of_alloc wr (.cells #[.int .i64 1, .int .i64 1, .int .i64 vl] 82))).trans (Only.of_below hb2)); obtain ⟨hc2, hf2⟩ := bcell hb2; have hz2 : wr.heap.size < w2.heap.size := (by have := hb2.size; simp at this; omega); clear hb2)
            go_region
            all_goals go_wp2
            all_goals go_ret
            all_goals exact ⟨ret_bool HN.out.symm, ⟨s', HB2.out, HN2.out⟩, HO2.out.drew_⟩
          · have Hne := hide hne
            have HN := hide (show (runOps s t.Ops).isSome = false by rw [HSt.out (by rw [Hne.out]; rfl)]; rfl)
            have HN2 := hide (fun s2 (h : runOps s t.Ops = some s2) => (show s' = s2 by rw [HSt.out (by rw [Hne.out]; rfl)] at h; cases h))
            go_wp2_with (go_at_call 113; refine HW.out.mono ?_; rintro e w2 ⟨rfl, hb2⟩; have HB2 := hide (hB'.alloc (.cells #[.int .i64 1, .int .i64 2, .int .i64 vl] 82) |>.below hb2 (hB'.alloc _).lt); have HO2 := hide ((HO.out.trans (Only.of_alloc wr (.cells #[.int .i64 1, .int .i64 2, .int .i64 vl] 82))).trans (Only.of_below hb2)); obtain ⟨hc2, hf2⟩ := bcell hb2; have hz2 : wr.heap.size < w2.heap.size := (by have := hb2.size; simp at this; omega); clear hb2)
            go_region
            all_goals go_wp2
            all_goals go_ret
            all_goals exact ⟨ret_bool HN.out.symm, ⟨s', HB2.out, HN2.out⟩, HO2.out.drew_⟩
        | false =>
          rcases hky with rfl | rfl | rfl
          · have Hne := hide hne
            go_wp2_with (go_at_call 113; refine HW.out.mono ?_; rintro e w2 ⟨rfl, hb2⟩; have HB2 := hide (hB'.alloc (.cells #[.int .i64 1, .int .i64 0, .int .i64 vl] 82) |>.below hb2 (hB'.alloc _).lt); have HO2 := hide ((HO.out.trans (Only.of_alloc wr (.cells #[.int .i64 1, .int .i64 0, .int .i64 vl] 82))).trans (Only.of_below hb2)); obtain ⟨hc2, hf2⟩ := bcell hb2; have hz2 : wr.heap.size < w2.heap.size := (by have := hb2.size; simp at this; omega); clear hb2)
            go_region
            all_goals go_wp2
            all_goals (go_roundw; (case rel => exact ⟨k + 1, _, by omega, by go_num, HTk.out (by rw [Hne.out]; rfl), by rw [put_same s' _ _ (by simpa using Hne.out)]; exact HB2.out, HO2.out.drew_⟩); (case measure => simp [intOf]; omega))
          · have Hne := hide hne
            go_wp2_with (go_at_call 113; refine HW.out.mono ?_; rintro e w2 ⟨rfl, hb2⟩; have HB2 := hide (hB'.alloc (.cells #[.int .i64 1, .int .i64 1, .int .i64 vl] 82) |>.below hb2 (hB'.alloc _).lt); have HO2 := hide ((HO.out.trans (Only.of_alloc wr (.cells #[.int .i64 1, .int .i64 1, .int .i64 vl] 82))).trans (Only.of_below hb2)); obtain ⟨hc2, hf2⟩ := bcell hb2; have hz2 : wr.heap.size < w2.heap.size := (by have := hb2.size; simp at this; omega); clear hb2)
            go_region
            all_goals go_wp2
            all_goals (go_roundw; (case rel => exact ⟨k + 1, _, by omega, by go_num, HTk.out (by rw [Hne.out]; rfl), by rw [put_same s' _ _ (by simpa using Hne.out)]; exact HB2.out, HO2.out.drew_⟩); (case measure => simp [intOf]; omega))
          · have Hne := hide hne
            go_wp2_with (go_at_call 113; refine HW.out.mono ?_; rintro e w2 ⟨rfl, hb2⟩; have HB2 := hide (hB'.alloc (.cells #[.int .i64 1, .int .i64 2, .int .i64 vl] 82) |>.below hb2 (hB'.alloc _).lt); have HO2 := hide ((HO.out.trans (Only.of_alloc wr (.cells #[.int .i64 1, .int .i64 2, .int .i64 vl] 82))).trans (Only.of_below hb2)); obtain ⟨hc2, hf2⟩ := bcell hb2; have hz2 : wr.heap.size < w2.heap.size := (by have := hb2.size; simp at this; omega); clear hb2)
            go_region
            all_goals go_wp2
            all_goals (go_roundw; (case rel => exact ⟨k + 1, _, by omega, by go_num, HTk.out (by rw [Hne.out]; rfl), by rw [put_same s' _ _ (by simpa using Hne.out)]; exact HB2.out, HO2.out.drew_⟩); (case measure => simp [intOf]; omega))
      · rcases hky with rfl | rfl | rfl
        · go_wp2_with (go_at_call 113; refine HW.out.mono ?_; rintro e w2 ⟨rfl, hb2⟩; have HB2 := hide (hB'.alloc (.cells #[.int .i64 2, .int .i64 0, .int .i64 vl] 82) |>.below hb2 (hB'.alloc _).lt); have HO2 := hide ((HO.out.trans (Only.of_alloc wr (.cells #[.int .i64 2, .int .i64 0, .int .i64 vl] 82))).trans (Only.of_below hb2)); obtain ⟨hc2, hf2⟩ := bcell hb2; have hz2 : wr.heap.size < w2.heap.size := (by have := hb2.size; simp at this; omega); clear hb2)
          go_region
          all_goals go_wp2
          all_goals (go_roundw; (case rel => exact ⟨k + 1, _, by omega, by go_num, HTk.out rfl, by rw [← cells3_put s' 0 vl (by omega)]; exact HB2.out.drew_.set_ 0 _, HO2.out.drew_.setCell (p := ⟨bs, 0, none⟩) rfl _⟩); (case measure => simp [intOf]; omega))
        · go_wp2_with (go_at_call 113; refine HW.out.mono ?_; rintro e w2 ⟨rfl, hb2⟩; have HB2 := hide (hB'.alloc (.cells #[.int .i64 2, .int .i64 1, .int .i64 vl] 82) |>.below hb2 (hB'.alloc _).lt); have HO2 := hide ((HO.out.trans (Only.of_alloc wr (.cells #[.int .i64 2, .int .i64 1, .int .i64 vl] 82))).trans (Only.of_below hb2)); obtain ⟨hc2, hf2⟩ := bcell hb2; have hz2 : wr.heap.size < w2.heap.size := (by have := hb2.size; simp at this; omega); clear hb2)
          go_region
          all_goals go_wp2
          all_goals (go_roundw; (case rel => exact ⟨k + 1, _, by omega, by go_num, HTk.out rfl, by rw [← cells3_put s' 1 vl (by omega)]; exact HB2.out.drew_.set_ 1 _, HO2.out.drew_.setCell (p := ⟨bs, 1, none⟩) rfl _⟩); (case measure => simp [intOf]; omega))
        · go_wp2_with (go_at_call 113; refine HW.out.mono ?_; rintro e w2 ⟨rfl, hb2⟩; have HB2 := hide (hB'.alloc (.cells #[.int .i64 2, .int .i64 2, .int .i64 vl] 82) |>.below hb2 (hB'.alloc _).lt); have HO2 := hide ((HO.out.trans (Only.of_alloc wr (.cells #[.int .i64 2, .int .i64 2, .int .i64 vl] 82))).trans (Only.of_below hb2)); obtain ⟨hc2, hf2⟩ := bcell hb2; have hz2 : wr.heap.size < w2.heap.size := (by have := hb2.size; simp at this; omega); clear hb2)
          go_region
          all_goals go_wp2
          all_goals (go_roundw; (case rel => exact ⟨k + 1, _, by omega, by go_num, HTk.out rfl, by rw [← cells3_put s' 2 vl (by omega)]; exact HB2.out.drew_.set_ 2 _, HO2.out.drew_.setCell (p := ⟨bs, 2, none⟩) rfl _⟩); (case measure => simp [intOf]; omega))
    · obtain rfl : k = t.Ops.length := by omega
      have hR' := hR.out
      rw [List.take_length] at hR'
      have HR := hide (show (runOps s t.Ops).isSome = true by rw [hR']; rfl)
      have HS := hide (fun s2 (h : runOps s t.Ops = some s2) => (show s' = s2 by rw [hR'] at h; exact Option.some.inj h))
      clear hR hR'
      go_wp2
      go_ret
      exact ⟨ret_bool HR.out.symm, ⟨s', hB.out, HS.out⟩, hO.out⟩
theorem made3 : madeCells #[.int .i64 0] (3 * 1) = cells3 St0 := by
  apply Array.ext
  · rw [size_madeCells]; rfl
  · intro i h1 h2
    have hi : i = 0 ∨ i = 1 ∨ i = 2 := by have h3 : i < 3 := h2; omega
    rcases hi with rfl | rfl | rfl <;> simp [madeCells, cells3, St0, Nat.mod_one]
theorem runTx_take (h : List Txn) (ns : List Int) (k m : Nat) (hk : k < ns.length) (hm : ns[k] = (m : Int)) (hmh : m < h.length) (s s' : St) (h1 : runTx h St0 (ns.take k) = some s) (h2 : runOps s h[m].Ops = some s') : runTx h St0 (ns.take (k + 1)) = some s' := by
  rw [List.take_succ_eq_append_getElem hk, runTx_append, h1]
  simp only [Option.bind_some, runTx, hm, Int.toNat_natCast, List.getElem?_eq_getElem hmh, Option.map_some, Option.getD_some, h2]
theorem runTx_stop (h : List Txn) (ns : List Int) (k m : Nat) (hk : k < ns.length) (hm : ns[k] = (m : Int)) (hmh : m < h.length) (s : St) (h1 : runTx h St0 (ns.take k) = some s) (h2 : runOps s h[m].Ops = none) : runsOK h ns = false := by
  have : ns = ns.take k ++ ns[k] :: ns.drop (k + 1) := by rw [← List.drop_eq_getElem_cons hk, List.take_append_drop]
  unfold runsOK
  rw [this, runTx_append, h1]
  simp only [Option.bind_some, runTx, hm, Int.toNat_natCast, List.getElem?_eq_getElem hmh, Option.map_some, Option.getD_some, h2]
  rfl
set_option maxRecDepth 10000 in
set_option maxHeartbeats 4000000 in
theorem specRuns (xs : List Txn) (ns : List Int) (A B : Option Addr) (c d : Nat) (w : World) (hm : xs.length ≤ maxLen) (hmn : ns.length ≤ maxLen) (hin : ∀ n ∈ ns, 0 ≤ n ∧ n < xs.length) (hok : ∀ t ∈ xs, ∀ o ∈ t.Ops, opOk o = true) (hA : Row tTxn w (Old w) A xs) (hB : Row tInt w (Old w) B ns) :
    Calls Tryz.prog 55 #[.slice A xs.length c, .slice B ns.length d] w fun e w' => e = .returned (.bool (runsOK xs ns)) ∧ Below w.heap.size w w' := by
  obtain ⟨i0, hi, hz0, hz1, hz2⟩ := info_parts infoInt_
  have hmk : ∀ W : World, (Instr.makeSlice 23 (.int .i64 3) (.int .i64 3)).run Tryz.prog W = .ok (.slice (some ⟨W.heap.size, 0, none⟩) 3 3) (W.alloc (.cells (cells3 St0) 3)) := fun W => by
    have h := run_make_rowN (P := Tryz.prog) 23 3 i0 (.int .i64 0) Tryz.underlying23 hi hz0 .i64 .i64 3 3 (Nat.le_refl _) (by rw [hz2]; omega) (by omega) W
    rw [hz1] at h
    rw [← made3]
    exact h
  have hq : xs.length ≤ 9223372036854775807 := by simpa [maxLen] using hm
  have hqn : ns.length ≤ 9223372036854775807 := by simpa [maxLen] using hmn
  have HA := hide hA; have HB := hide hB; have HIn := hide hin; have HOk := hide hok
  have HBk0 := hide (Blk.new w 3 (cells3 St0))
  clear hA hB hin hok hm hmn
  go_enter Tryz.func55, Tryz.ntmps55
  go_wp2
  clear hmk
  go_loopw [6, 7, 8] (fun i _ _ wr => ∃ (k : Nat) (s : St), k ≤ ns.length ∧ i = .int .i64 k ∧ Hid (runTx xs St0 (ns.take k) = some s) ∧ Hid (Blk wr w.heap.size 3 (cells3 s)) ∧ Below w.heap.size w wr) (fun i _ _ _ => ns.length - (intOf i).toNat)
  case atStart => exact ⟨0, St0, Nat.zero_le _, rfl, rfl, HBk0.out, (Below.refl _ w).alloc (Nat.le_refl _) _⟩
  case round =>
    obtain ⟨k, s, hk, rfl, hR, hS, hb⟩ := hrel
    by_cases hlt : k < ns.length
    · obtain ⟨b0, off0, rfl, hbS0, c0⟩ := at_Int HB.out hb hlt
      obtain ⟨hn0, hn1⟩ := HIn.out _ (List.getElem_mem hlt)
      obtain ⟨m, hm⟩ : ∃ m : Nat, ns[k] = (m : Int) := ⟨ns[k].toNat, by omega⟩
      have hml : m < xs.length := by omega
      rw [hm] at c0
      have HTk := hide (runTx_take xs ns k m hlt hm hml s · hR.out)
      have HSp := hide (runTx_stop xs ns k m hlt hm hml s hR.out)
      obtain ⟨b, off, A2, c2, rfl, hbS, d0, d1, d3, hj1, hj2, hj3⟩ := at_Txn HA.out (Below.refl _ w) hml
      have e1 := (hb.cell (p := ⟨b, off + m * 3 + 1, none⟩) hbS).trans d1
      have HR3 := hide hj3
      have HOk2 := hide (HOk.out _ (List.getElem_mem hml))
      have hq2 : xs[m].Ops.length ≤ 9223372036854775807 := by have := hj1; simp only [maxLen] at hj2; omega
      have HS := hide hS.out
      have HB1 := hide hb
      clear hm hn0 hn1 hR d0 d1 d3 hj1 hj2 hj3 hS
      go_wp2_with fail
      clear hb e1
      go_loopw [8] (fun j wr2 => ∃ (l : Nat) (s' : St), l ≤ xs[m].Ops.length ∧ j = .int .i64 l ∧ Hid (runOps s (xs[m].Ops.take l) = some s') ∧ Hid (Blk wr2 w.heap.size 3 (cells3 s')) ∧ Below w.heap.size w wr2) (fun j _ => xs[m].Ops.length - (intOf j).toNat)
      case atStart => exact ⟨0, s, Nat.zero_le _, rfl, rfl, HS.out, HB1.out⟩
      case round =>
        obtain ⟨l, s', hl, rfl, hR, hS, hb⟩ := hrel
        by_cases hlt2 : l < xs[m].Ops.length
        · obtain ⟨b2, off2, rfl, hbS2, d0, d1, d2⟩ := at_Op HR3.out hb hlt2
          have hpar := opOk_parts (HOk2.out _ (List.getElem_mem hlt2))
          have HTl := hide (runOps_take xs[m].Ops l hlt2 s s' hR.out)
          have HSl := hide (runOps_stop xs[m].Ops l hlt2 s s' hR.out)
          generalize xs[m].Ops[l] = o at d0 d1 d2 hpar HTl HSl
          obtain ⟨kd, ky, vl⟩ := o
          dsimp only at d0 d1 d2 hpar HTl HSl
          obtain ⟨hkd, hky, hv0, hv1, hv2⟩ := hpar
          have p0 := hS.out.cell 0; have p1 := hS.out.cell 1; have p2 := hS.out.cell 2; have g0 := hS.out.frozen 0; have g1 := hS.out.frozen 1; have g2 := hS.out.frozen 2
          simp only [cells3, List.getElem?_toArray, List.getElem?_cons_zero, List.getElem?_cons_succ] at p0 p1 p2
          have HSb := hide hS.out
          clear hR hS hv0 hv1 hv2
          rcases hkd with rfl | rfl
          · cases hne : (s' ky != vl) with
            | true =>
              rcases hky with rfl | rfl | rfl
              · have Hne := hide hne
                go_wp2_with fail
                go_quiet (fail)
                go_wp2_with fail
                go_ret
                exact ⟨ret_bool (by rw [HSp.out (HSl.out (by rw [Hne.out]; rfl))]), below_drewN hb _⟩
              · have Hne := hide hne
                go_wp2_with fail
                go_quiet (fail)
                go_wp2_with fail
                go_ret
                exact ⟨ret_bool (by rw [HSp.out (HSl.out (by rw [Hne.out]; rfl))]), below_drewN hb _⟩
              · have Hne := hide hne
                go_wp2_with fail
                go_quiet (fail)
                go_wp2_with fail
                go_ret
                exact ⟨ret_bool (by rw [HSp.out (HSl.out (by rw [Hne.out]; rfl))]), below_drewN hb _⟩
            | false =>
              rcases hky with rfl | rfl | rfl
              · have Hne := hide hne
                go_wp2_with fail
                go_quiet (fail)
                have HSb2 := hide (show Blk (wr.drewN nq) w.heap.size 3 (cells3 s') from HSb.out)
                have HBb2 := hide (below_drewN hb nq)
                go_wp2_with fail
                go_region
                go_wp2_with fail
                go_roundw
                case rel => exact ⟨l + 1, _, by omega, by go_num, HTl.out (by rw [Hne.out]; rfl), by rw [← cells3_put s' 0 vl (by omega)]; exact HSb2.out.drew_.set_ 0 _, HBb2.out.drew.setCell (p := ⟨w.heap.size, 0, none⟩) (Nat.le_refl _) _⟩
                case measure => simp [intOf]; omega
              · have Hne := hide hne
                go_wp2_with fail
                go_quiet (fail)
                have HSb2 := hide (show Blk (wr.drewN nq) w.heap.size 3 (cells3 s') from HSb.out)
                have HBb2 := hide (below_drewN hb nq)
                go_wp2_with fail
                go_region
                go_wp2_with fail
                go_roundw
                case rel => exact ⟨l + 1, _, by omega, by go_num, HTl.out (by rw [Hne.out]; rfl), by rw [← cells3_put s' 1 vl (by omega)]; exact HSb2.out.drew_.set_ 1 _, HBb2.out.drew.setCell (p := ⟨w.heap.size, 1, none⟩) (Nat.le_refl _) _⟩
                case measure => simp [intOf]; omega
              · have Hne := hide hne
                go_wp2_with fail
                go_quiet (fail)
                have HSb2 := hide (show Blk (wr.drewN nq) w.heap.size 3 (cells3 s') from HSb.out)
                have HBb2 := hide (below_drewN hb nq)
                go_wp2_with fail
                go_region
                go_wp2_with fail
                go_roundw
                case rel => exact ⟨l + 1, _, by omega, by go_num, HTl.out (by rw [Hne.out]; rfl), by rw [← cells3_put s' 2 vl (by omega)]; exact HSb2.out.drew_.set_ 2 _, HBb2.out.drew.setCell (p := ⟨w.heap.size, 2, none⟩) (Nat.le_refl _) _⟩
                case measure => simp [intOf]; omega
          · rcases hky with rfl | rfl | rfl
            · go_wp2_with fail
              go_quiet (fail)
              have HSb2 := hide (show Blk (wr.drewN nq) w.heap.size 3 (cells3 s') from HSb.out)
              have HBb2 := hide (below_drewN hb nq)
              go_wp2_with fail
              go_region
              go_wp2_with fail
              go_roundw
              case rel => exact ⟨l + 1, _, by omega, by go_num, HTl.out rfl, by rw [← cells3_put s' 0 vl (by omega)]; exact HSb2.out.drew_.set_ 0 _, HBb2.out.drew.setCell (p := ⟨w.heap.size, 0, none⟩) (Nat.le_refl _) _⟩
              case measure => simp [intOf]; omega
            · go_wp2_with fail
              go_quiet (fail)
              have HSb2 := hide (show Blk (wr.drewN nq) w.heap.size 3 (cells3 s') from HSb.out)
              have HBb2 := hide (below_drewN hb nq)
              go_wp2_with fail
              go_region
              go_wp2_with fail
              go_roundw
              case rel => exact ⟨l + 1, _, by omega, by go_num, HTl.out rfl, by rw [← cells3_put s' 1 vl (by omega)]; exact HSb2.out.drew_.set_ 1 _, HBb2.out.drew.setCell (p := ⟨w.heap.size, 1, none⟩) (Nat.le_refl _) _⟩
              case measure => simp [intOf]; omega
            · go_wp2_with fail
              go_quiet (fail)
              have HSb2 := hide (show Blk (wr.drewN nq) w.heap.size 3 (cells3 s') from HSb.out)
              have HBb2 := hide (below_drewN hb nq)
              go_wp2_with fail
              go_region
              go_wp2_with fail
              go_roundw
              case rel => exact ⟨l + 1, _, by omega, by go_num, HTl.out rfl, by rw [← cells3_put s' 2 vl (by omega)]; exact HSb2.out.drew_.set_ 2 _, HBb2.out.drew.setCell (p := ⟨w.heap.size, 2, none⟩) (Nat.le_refl _) _⟩
              case measure => simp [intOf]; omega
        · obtain rfl : l = xs[m].Ops.length := by omega
          have hR' := hR.out
          rw [List.take_length] at hR'
          have HR4 := hide (HTk.out s' hR')
          have HS4 := hide hS.out
          clear hR hR' hS
          go_wp2_with fail
          go_roundw
          case rel => exact ⟨k + 1, s', by omega, by go_num, HR4.out, HS4.out, hb⟩
          case measure => simp [intOf]; omega
    · obtain rfl : k = ns.length := by omega
      have HV := hide (show runsOK xs ns = true by unfold runsOK; have h := hR.out; rw [List.take_length] at h; rw [h]; rfl)
      clear hR
      go_wp2
      go_ret
      exact ⟨ret_bool HV.out.symm, hb⟩
end Go.Proofs.YtjiobgfaohldhaaGreat
namespace Go.Proofs.YtjiobgfaohldhaaGreat
open Go.RowKit
set_option linter.unusedVariables false
set_option linter.unusedSimpArgs false

/-- All orders of a list, those first that begin with earlier elements; by places. -/
def permsI : Nat → List Int → List (List Int)
  | 0, _ => [[]]
  | n + 1, l => if l = [] then [[]] else ((List.range l.length).map fun k => (permsI n (l.eraseIdx k)).map fun o => l.getD k 0 :: o).flatten
def perms (l : List Int) : List (List Int) := permsI l.length l
/-- The same by elements. -/
def permsE : Nat → List Int → List (List Int)
  | 0, _ => [[]]
  | n + 1, l => if l = [] then [[]] else (l.map fun x => (permsE n (l.erase x)).map fun o => x :: o).flatten
theorem eraseIdx_nodup {l : List Int} (h : l.Nodup) (k : Nat) (hk : k < l.length) : l.eraseIdx k = l.erase l[k] := by
  induction l generalizing k with
  | nil => simp at hk
  | cons x l ih =>
    cases k with
    | zero => simp
    | succ k =>
      have hk' : k < l.length := by simpa using hk
      have hx : x ≠ l[k] := fun e => (List.nodup_cons.1 h).1 (e ▸ List.getElem_mem hk')
      simp only [List.eraseIdx_cons_succ, List.getElem_cons_succ]
      rw [List.erase_cons, if_neg (by simpa using hx), ih (List.nodup_cons.1 h).2 k hk']
theorem permsI_eq_E : ∀ (n : Nat) (l : List Int), l.Nodup → permsI n l = permsE n l
  | 0, l, _ => rfl
  | n + 1, l, h => by
    unfold permsI permsE
    split
    · rfl
    · congr 1
      apply List.ext_getElem
      · simp
      · intro k h1 h2
        have hk : k < l.length := by simpa using h1
        simp only [List.getElem_map, List.getElem_range]
        rw [eraseIdx_nodup h k hk, permsI_eq_E n _ (h.erase _), List.getD_eq_getElem?_getD, List.getElem?_eq_getElem hk, Option.getD_some]
/-- The search that goes on with the elements that are left, as long as the beginning is good. -/
def dfs (good : List Int → Bool) : Nat → List Int → List Int → Option (List Int)
  | 0, pre, _ => some pre
  | n + 1, pre, l => l.findSome? fun x => if good (pre ++ [x]) then dfs good n (pre ++ [x]) (l.erase x) else none
theorem findSome_flatten {α β γ : Type} (f : α → List β) (p : β → Option γ) : ∀ (l : List α), (l.map f).flatten.findSome? p = l.findSome? fun x => (f x).findSome? p
  | [] => rfl
  | x :: l => by
    simp only [List.map_cons, List.flatten_cons, List.findSome?_append, List.findSome?_cons, findSome_flatten f p l]
    cases (f x).findSome? p <;> rfl
theorem find_as_some {α : Type} (p : α → Bool) : ∀ (l : List α), l.find? p = l.findSome? fun x => if p x then some x else none
  | [] => rfl
  | x :: l => by
    simp only [List.find?_cons, List.findSome?_cons]
    cases p x with
    | true => rfl
    | false => simpa using find_as_some p l
theorem findSome_ext {α β : Type} {f g : α → Option β} : ∀ (l : List α), (∀ x ∈ l, f x = g x) → l.findSome? f = l.findSome? g
  | [], _ => rfl
  | x :: l, h => by
    simp only [List.findSome?_cons, h x List.mem_cons_self, findSome_ext l fun y hy => h y (List.mem_cons_of_mem _ hy)]
theorem findSome_map {α β γ : Type} (f : α → β) (p : β → Option γ) : ∀ (l : List α), (l.map f).findSome? p = l.findSome? fun x => p (f x)
  | [] => rfl
  | x :: l => by simp only [List.map_cons, List.findSome?_cons, findSome_map f p l]
theorem dfs_perms (good : List Int → Bool) (hg : ∀ a b, good (a ++ b) = true → good a = true) : ∀ (n : Nat) (pre l : List Int), n = l.length → good pre = true →
    dfs good n pre l = (permsE n l).findSome? fun o => if good (pre ++ o) then some (pre ++ o) else none
  | 0, pre, l, hn, hp => by
    simp [dfs, permsE, hp]
  | n + 1, pre, l, hn, hp => by
    have hl : l ≠ [] := by rintro rfl; simp at hn
    unfold dfs permsE
    rw [if_neg hl, findSome_flatten]
    apply findSome_ext
    intro x hx
    rw [findSome_map]
    split
    · rename_i hgx
      rw [dfs_perms good hg n (pre ++ [x]) (l.erase x) (by rw [List.length_erase_of_mem hx]; omega) hgx]
      apply findSome_ext
      intro o _
      simp
    · rename_i hgx
      symm
      rw [List.findSome?_eq_none_iff]
      intro o _
      rw [if_neg]
      intro h
      rw [show pre ++ x :: o = (pre ++ [x]) ++ o by simp] at h
      exact hgx (hg _ _ h)
theorem perms_mem : ∀ (n : Nat) (l o : List Int), n = l.length → (o ∈ permsE n l ↔ o.Perm l)
  | 0, l, o, hn => by
    obtain rfl : l = [] := List.eq_nil_of_length_eq_zero hn.symm
    simp [permsE]
  | n + 1, l, o, hn => by
    have hl : l ≠ [] := by rintro rfl; simp at hn
    unfold permsE
    rw [if_neg hl, List.mem_flatten]
    constructor
    · rintro ⟨L, hL, ho⟩
      obtain ⟨x, hx, rfl⟩ := List.mem_map.1 hL
      obtain ⟨o', ho', rfl⟩ := List.mem_map.1 ho
      have h1 := (perms_mem n (l.erase x) o' (by rw [List.length_erase_of_mem hx]; omega)).1 ho'
      exact (h1.cons x).trans (List.perm_cons_erase hx).symm
    · intro h
      cases o with
      | nil => have := h.length_eq; simp at this; exact absurd (List.eq_nil_of_length_eq_zero this.symm) hl
      | cons x o' =>
        have hx : x ∈ l := h.subset List.mem_cons_self
        refine ⟨_, List.mem_map.2 ⟨x, hx, rfl⟩, List.mem_map.2 ⟨o', ?_, rfl⟩⟩
        refine (perms_mem n (l.erase x) o' (by rw [List.length_erase_of_mem hx]; omega)).2 ?_
        exact List.Perm.cons_inv (h.trans (List.perm_cons_erase hx))

/-- The orders that begin with one of the first k elements. -/
def permsK (n : Nat) (l : List Int) (k : Nat) : List (List Int) := ((List.range k).map fun k => (permsI n (l.eraseIdx k)).map fun o => l.getD k 0 :: o).flatten
theorem permsK_succ (n : Nat) (l : List Int) (k : Nat) : permsK n l (k + 1) = permsK n l k ++ (permsI n (l.eraseIdx k)).map fun o => l.getD k 0 :: o := by
  unfold permsK
  rw [List.range_succ, List.map_append, List.flatten_append]
  simp
theorem permsI_succ (n : Nat) (l : List Int) (hl : l ≠ []) : permsI (n + 1) l = permsK n l l.length := by
  rw [permsI, if_neg hl]
  rfl
def fct : Nat → Nat
  | 0 => 1
  | n + 1 => (n + 1) * fct n
theorem permsI_len : ∀ (n : Nat) (l : List Int), l.length = n → (permsI n l).length = fct n
  | 0, l, h => rfl
  | n + 1, l, h => by
    have hl : l ≠ [] := by rintro rfl; simp at h
    have hK : ∀ k, k ≤ l.length → (permsK n l k).length = k * fct n := fun k => by
      induction k with
      | zero => intro _; simp [permsK]
      | succ k ih =>
        intro hk
        rw [permsK_succ, List.length_append, List.length_map, ih (by omega), permsI_len n _ (by rw [List.length_eraseIdx_of_lt (by omega)]; omega), Nat.add_mul]
        omega
    rw [permsI_succ n l hl, hK _ (Nat.le_refl _), h]
    rfl
theorem permsK_len (n : Nat) (l : List Int) (h : l.length = n + 1) (k : Nat) (hk : k ≤ l.length) : (permsK n l k).length = k * fct n := by
  induction k with
  | zero => simp [permsK]
  | succ k ih =>
    rw [permsK_succ, List.length_append, List.length_map, ih (by omega), permsI_len n _ (by rw [List.length_eraseIdx_of_lt (by omega)]; omega), Nat.add_mul]
    omega
theorem fct_le {n : Nat} (h : n ≤ 8) : fct n ≤ 40320 := by
  have : n = 0 ∨ n = 1 ∨ n = 2 ∨ n = 3 ∨ n = 4 ∨ n = 5 ∨ n = 6 ∨ n = 7 ∨ n = 8 := by omega
  rcases this with rfl | rfl | rfl | rfl | rfl | rfl | rfl | rfl | rfl <;> decide
theorem permsI_mem_len : ∀ (n : Nat) (l o : List Int), l.length = n → o ∈ permsI n l → o.length = n
  | 0, l, o, h, ho => by simp [permsI] at ho; subst ho; rfl
  | n + 1, l, o, h, ho => by
    have hl : l ≠ [] := by rintro rfl; simp at h
    rw [permsI_succ n l hl] at ho
    unfold permsK at ho
    rw [List.mem_flatten] at ho
    obtain ⟨L, hL, ho⟩ := ho
    obtain ⟨k, hk, rfl⟩ := List.mem_map.1 hL
    rw [List.mem_range] at hk
    obtain ⟨o', ho', rfl⟩ := List.mem_map.1 ho
    have := permsI_mem_len n _ o' (by rw [List.length_eraseIdx_of_lt hk]; omega) ho'
    simp [this]
/-- Each number is allowed behind those before it. -/
def stepsOK (alw : List Int → Int → Bool) (o : List Int) : Bool := (List.range o.length).all fun k => alw (o.take k) (o.getD k 0)
theorem stepsOK_snoc (alw : List Int → Int → Bool) (o : List Int) (x : Int) : stepsOK alw (o ++ [x]) = (stepsOK alw o && alw o x) := by
  unfold stepsOK
  rw [List.length_append, List.length_singleton, List.range_succ, List.all_append]
  congr 1
  · rw [Bool.eq_iff_iff, List.all_eq_true, List.all_eq_true]
    refine forall_congr' fun k => forall_congr' fun hk => ?_
    rw [List.mem_range] at hk
    rw [List.take_append_of_le_length (by omega)]
    simp [List.getElem?_append_left hk]
  · simp
theorem stepsOK_prefix (alw : List Int → Int → Bool) (a : List Int) : ∀ (b : List Int), stepsOK alw (a ++ b) = true → stepsOK alw a = true := by
  intro b h
  unfold stepsOK at h ⊢
  rw [List.all_eq_true] at h ⊢
  intro k hk
  rw [List.mem_range] at hk
  have := h k (by rw [List.mem_range, List.length_append]; omega)
  rw [List.take_append_of_le_length (by omega)] at this
  simpa [List.getElem?_append_left hk] using this
/-- The search over all numbers, leaving out those that stand already. -/
def dfsA (good : List Int → Bool) (all : List Int) : Nat → List Int → Option (List Int)
  | 0, pre => some pre
  | n + 1, pre => all.findSome? fun x => if pre.contains x then none else if good (pre ++ [x]) then dfsA good all n (pre ++ [x]) else none
theorem filter_erase {all pre : List Int} (hn : all.Nodup) {x : Int} (hx : x ∈ all) (hp : pre.contains x = false) :
    (all.filter fun y => !pre.contains y).erase x = all.filter fun y => !(pre ++ [x]).contains y := by
  have h1 : (all.filter fun y => !pre.contains y).Nodup := hn.filter _
  rw [h1.erase_eq_filter, List.filter_filter]
  apply List.filter_congr
  intro y hy
  rw [Bool.eq_iff_iff]
  simp only [Bool.and_eq_true, bne_iff_ne, Bool.not_eq_true', List.contains_eq_mem, decide_eq_false_iff_not, List.mem_append, List.mem_singleton]
  constructor
  · rintro ⟨h1, h2⟩ (h | h)
    · exact h2 h
    · exact h1 h
  · intro h
    exact ⟨fun e => h (.inr e), fun e => h (.inl e)⟩
theorem findSome_filter {α β : Type} (p : α → Bool) (f : α → Option β) : ∀ (l : List α), (l.filter p).findSome? f = l.findSome? fun x => if p x then f x else none
  | [] => rfl
  | x :: l => by
    rw [List.filter_cons, List.findSome?_cons]
    cases hp : p x with
    | true => simp only [if_true, List.findSome?_cons, findSome_filter p f l]
    | false => simp only [Bool.false_eq_true, if_false, findSome_filter p f l]
theorem dfsA_eq (good : List Int → Bool) (all : List Int) (hn : all.Nodup) : ∀ (n : Nat) (pre : List Int), dfsA good all n pre = dfs good n pre (all.filter fun y => !pre.contains y)
  | 0, pre => rfl
  | n + 1, pre => by
    unfold dfsA dfs
    rw [findSome_filter]
    apply findSome_ext
    intro x hx
    cases hp : pre.contains x with
    | true => simp
    | false =>
      simp only [Bool.false_eq_true, if_false, Bool.not_false, if_true]
      split
      · rw [dfsA_eq good all hn n (pre ++ [x]), filter_erase hn hx hp]
      · rfl
/-- The first order of all of them that is good. -/
def firstGood (good : List Int → Bool) (all : List Int) : Option (List Int) := (perms all).find? good
theorem dfsA_first (good : List Int → Bool) (hg : ∀ a b, good (a ++ b) = true → good a = true) (h0 : good [] = true) (all : List Int) (hn : all.Nodup) : dfsA good all all.length [] = firstGood good all := by
  have h1 : all.filter (fun y => !([] : List Int).contains y) = all := by simp
  rw [dfsA_eq good all hn, h1, dfs_perms good hg _ _ _ rfl h0]
  unfold firstGood perms
  rw [permsI_eq_E _ _ hn, find_as_some]
  apply findSome_ext
  intro o _
  simp
theorem firstGood_perm {good : List Int → Bool} {all o : List Int} (hn : all.Nodup) (h : firstGood good all = some o) : o.Perm all ∧ good o = true := by
  unfold firstGood perms at h
  have h1 := List.mem_of_find?_eq_some h
  rw [permsI_eq_E _ _ hn, perms_mem _ _ _ rfl] at h1
  exact ⟨h1, List.find?_some h⟩
theorem take_all_snoc {α : Type} (p : α → Bool) (l : List α) (k : Nat) (hk : k < l.length) : (l.take (k + 1)).all p = ((l.take k).all p && p l[k]) := by
  rw [List.take_succ_eq_append_getElem hk, List.all_append]
  simp
theorem all_stop {α : Type} (p : α → Bool) (l : List α) (k : Nat) (h : (l.take k).all p = false) : l.all p = false := by
  rw [← List.take_append_drop k l, List.all_append, h]; rfl
/-- The bits of gone are the numbers of pre. -/
def BitsOf (gone : Nat) (pre : List Int) : Prop := gone < 64 ∧ ∀ j : Nat, gone.testBit j = pre.contains (j : Int)
theorem BitsOf.zero : BitsOf 0 [] := ⟨by decide, fun j => by simp⟩
theorem BitsOf.snoc {gone : Nat} {pre : List Int} (h : BitsOf gone pre) (n : Nat) (hn : n < 6) : BitsOf (gone ||| 2 ^ n) (pre ++ [(n : Int)]) := by
  refine ⟨Nat.or_lt_two_pow (n := 6) h.1 (pow6 hn), fun j => ?_⟩
  rw [Nat.testBit_or, h.2 j, Nat.testBit_two_pow]
  rw [Bool.eq_iff_iff]
  simp only [List.contains_iff_mem, List.mem_append, List.mem_singleton, Bool.or_eq_true, decide_eq_true_eq]
  constructor
  · rintro (h | h)
    · exact .inl h
    · exact .inr (by omega)
  · rintro (h | h)
    · exact .inl h
    · exact .inr (by omega)
end Go.Proofs.YtjiobgfaohldhaaGreat
namespace Go.Proofs.YtjiobgfaohldhaaGreat
open Go.RowKit
set_option linter.unusedVariables false
set_option linter.unusedSimpArgs false

def goodR (alw : List Int → Int → Bool) (h : List Txn) (o : List Int) : Bool := runsOK h o && stepsOK alw o
theorem goodR_prefix (alw : List Int → Int → Bool) (h : List Txn) (a b : List Int) (hg : goodR alw h (a ++ b) = true) : goodR alw h a = true := by
  unfold goodR at hg ⊢
  rw [Bool.and_eq_true] at hg ⊢
  exact ⟨runsOK_prefix h a b hg.1, stepsOK_prefix alw a b hg.2⟩
theorem goodR_nil (alw : List Int → Int → Bool) (h : List Txn) : goodR alw h [] = true := rfl
theorem goodR_snoc (alw : List Int → Int → Bool) (h : List Txn) (pre : List Int) (x : Int) (s : St) (hr : runTx h St0 pre = some s) (hs : goodR alw h pre = true) :
    goodR alw h (pre ++ [x]) = ((runOps s ((h[x.toNat]?.map Txn.Ops).getD [])).isSome && alw pre x) := by
  unfold goodR at hs ⊢
  rw [Bool.and_eq_true] at hs
  rw [stepsOK_snoc, hs.2, Bool.true_and]
  congr 1
  unfold runsOK
  rw [runTx_append, hr]
  simp only [Option.bind_some, runTx]
  cases runOps s ((h[x.toNat]?.map Txn.Ops).getD []) <;> rfl
theorem runTx_snoc (h : List Txn) (pre : List Int) (n : Nat) (hn : n < h.length) (s sn : St) (hr : runTx h St0 pre = some s) (h2 : runOps s h[n].Ops = some sn) : runTx h St0 (pre ++ [(n : Int)]) = some sn := by
  rw [runTx_append, hr]
  simp only [Option.bind_some, runTx, Int.toNat_natCast, List.getElem?_eq_getElem hn, Option.map_some, Option.getD_some, h2]
end Go.Proofs.YtjiobgfaohldhaaGreat
namespace Go.Proofs.YtjiobgfaohldhaaGreat
open Go.RowKit
set_option linter.unusedVariables false
set_option linter.unusedSimpArgs false

/-- Blocks of elements of type t, from base on. -/
def Of (W : World) (base : Nat) (t : TypeId) (b : Nat) : Prop := base ≤ b ∧ ∃ cur, Blk W b t cur
theorem Of.old {W : World} {base b : Nat} {t : TypeId} (h : Of W base t b) : Old W b := by obtain ⟨_, cur, hb⟩ := h; exact hb.lt
theorem Of.keep {W W' : World} {base b : Nat} {t : TypeId} (h : Of W base t b) (e : W'.heap[b]? = W.heap[b]?) : Of W' base t b := by
  obtain ⟨h1, cur, hb⟩ := h; exact ⟨h1, cur, hb.of e⟩
theorem Row.takeN {α : Type} {T : Ty α} {w : World} {S : Nat → Prop} {A : Option Addr} {xs : List α} (h : Row T w S A xs) (k : Nat) : Row T w S A (xs.take k) := fun hp => by
  rw [List.length_take] at hp
  obtain ⟨b, off, rfl, hb, hr⟩ := h (by omega)
  refine ⟨b, off, rfl, hb, fun j hj => ?_⟩
  rw [List.length_take] at hj
  obtain ⟨cs, hrel, hcs⟩ := hr j (by omega)
  exact ⟨cs, by rw [List.getElem_take]; exact hrel, hcs⟩
section
variable {P : Program}
end
end Go.Proofs.YtjiobgfaohldhaaGreat
