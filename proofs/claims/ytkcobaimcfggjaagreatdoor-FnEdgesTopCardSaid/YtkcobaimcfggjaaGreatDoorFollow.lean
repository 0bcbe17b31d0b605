/- Running transactions: the program's follow, the reference's l12Runs. The reference's l12Runs. -/
import Derived.Test.YtkcobaimcfggjaaGreatDoorHMath
import Derived.Test.YtkcobaimcfggjaaGreatDoorPut
import Derived.Test.YtkcobaimcfggjaaGreatDoorToA
import Derived.RegionTactic
import Derived.BigQuiet
namespace Go.Proofs.YtkcobaimcfggjaaGreatDoor
open Go.RowKit
set_option linter.unusedVariables false
set_option linter.unusedSimpArgs false

theorem Only.drew_ {S : Nat → Prop} {a b : World} (h : Only S a b) : Only S a b.drew := ⟨h.os, h.tape, h.output, h.size, h.block⟩
theorem Blk.drew_ {w : World} {g : Nat} {t : TypeId} {cs : Array Value} (h : Blk w g t cs) : Blk w.drew g t cs := h
def cells3 (s : St) : Array Value := #[.int .i64 (s 0), .int .i64 (s 1), .int .i64 (s 2)]
theorem put_same (s : St) (k v : Int) (h : s k = v) : s.put k v = s := by
  funext x
  unfold St.put
  split
  · rename_i hx; rw [hx, h]
  · rfl
theorem runOps_append (a b : List Op) : ∀ (s : St), runOps s (a ++ b) = (runOps s a).bind fun s' => runOps s' b := by
  induction a with
  | nil => intro s; rfl
  | cons o r ih =>
    intro s
    simp only [List.cons_append, runOps]
    split
    · rfl
    · exact ih _
theorem runOps_take (ops : List Op) (k : Nat) (hk : k < ops.length) (s s' : St) (h : runOps s (ops.take k) = some s') (hok : (ops[k].Kind == 1 && s' ops[k].Key != ops[k].Value) = false) : runOps s (ops.take (k + 1)) = some (s'.put ops[k].Key ops[k].Value) := by
  rw [List.take_succ_eq_append_getElem hk, runOps_append, h]
  simp only [Option.bind_some, runOps, hok]
  rfl
theorem runOps_stop (ops : List Op) (k : Nat) (hk : k < ops.length) (s s' : St) (h : runOps s (ops.take k) = some s') (hok : (ops[k].Kind == 1 && s' ops[k].Key != ops[k].Value) = true) : runOps s ops = none := by
  have : ops = ops.take k ++ ops[k] :: ops.drop (k + 1) := by rw [← List.drop_eq_getElem_cons hk, List.take_append_drop]
  rw [this, runOps_append, h]
  simp only [Option.bind_some, runOps, hok]
  rfl
theorem cells3_put (s : St) (k v : Int) (h : k = 0 ∨ k = 1 ∨ k = 2) : (cells3 s).setIfInBounds k.toNat (.int .i64 v) = cells3 (s.put k v) := by
  rcases h with rfl | rfl | rfl <;> simp [cells3, St.put]
theorem cells3_get (s : St) (k : Int) (h : k = 0 ∨ k = 1 ∨ k = 2) : (cells3 s)[k.toNat]? = some (.int .i64 (s k)) := by
  rcases h with rfl | rfl | rfl <;> simp [cells3]
set_option maxRecDepth 10000 in
set_option maxHeartbeats 2000000 in
theorem follow_any (t : Txn) (s : St) (A : Option Addr) (c : Nat) (w : World) (bs : Nat) (hm : t.Ops.length ≤ maxLen) (hok : ∀ o ∈ t.Ops, opOk o = true) (hB : Blk w bs 92 (cells3 s)) (hA : Row tOp w (fun b => Old w b ∧ b ≠ bs) A t.Ops) :
    Calls Tryz.prog 73 #[.pointer (some ⟨bs, 0, none⟩), .agg #[.int .i64 t.Session, .slice A t.Ops.length c, .bool t.Done]] w fun e w' => e = .returned (.bool (runOps s t.Ops).isSome) ∧ (∃ s', Blk w' bs 92 (cells3 s') ∧ ∀ s2, runOps s t.Ops = some s2 → s' = s2) ∧ Only (fun b => b = bs) w w' := by
  have hq : t.Ops.length ≤ 9223372036854775807 := by simpa [maxLen] using hm
  have HOk := hide hok
  have hlt0 := hB.lt
  have HB0 := hide (hB.alloc (.cells #[.int .i64 t.Session, .slice A t.Ops.length c, .bool t.Done] 38))
  have HA := hide (fun (W : World) (hW : Only (fun b => b = bs) w W) => hA.mono (w' := W) (S' := Old W) (fun b h => Nat.lt_of_lt_of_le h.1 hW.size) (fun b h => hW.block b h.1 h.2))
  clear hA hok hm hB
  go_enter Tryz.func73, Tryz.ntmps73
  go_wp2
  go_loopw [6, 10, 14, 24] (fun _ i _ _ wr => ∃ (k : Nat) (s' : St), k ≤ t.Ops.length ∧ i = .int .i64 k ∧ Hid (runOps s (t.Ops.take k) = some s') ∧ Hid (Blk wr bs 92 (cells3 s')) ∧ Hid (Only (fun b => b = bs) w wr)) (fun _ i _ _ _ => t.Ops.length - (intOf i).toNat)
  case atStart => exact ⟨0, s, Nat.zero_le _, rfl, rfl, HB0.out, Only.of_alloc _ _⟩
  case round =>
    obtain ⟨k, s', hk, rfl, hR, hB, hO⟩ := hrel
    by_cases hlt : k < t.Ops.length
    · obtain ⟨b2, off2, rfl, hbS2, d0, d1, d2⟩ := at_Op (HA.out wr hO.out) (Below.refl _ wr) hlt
      have hpar := opOk_parts (HOk.out _ (List.getElem_mem hlt))
      have HTk := hide (runOps_take t.Ops k hlt s s' hR.out)
      have HSt := hide (runOps_stop t.Ops k hlt s s' hR.out)
      generalize t.Ops[k] = o at d0 d1 d2 hpar HTk HSt
      obtain ⟨kd, ky, vl⟩ := o
      dsimp only at d0 d1 d2 hpar HTk HSt
      obtain ⟨hkd, hky, hv0, hv1, hv2⟩ := hpar
      have HW := hide (writes_any ⟨kd, ky, vl⟩ (wr.alloc (.cells #[.int .i64 kd, .int .i64 ky, .int .i64 vl] 73)))
      have hB' := hB.out
      have hlt2 := hB'.lt
      have b0 := hB'.cell 0; have b1 := hB'.cell 1; have b2_ := hB'.cell 2; have g0 := hB'.frozen 0; have g1 := hB'.frozen 1; have g2 := hB'.frozen 2
      simp only [cells3, List.getElem?_toArray, List.getElem?_cons_zero, List.getElem?_cons_succ] at b0 b1 b2_
      have HO := hide hO.out
      clear hR hO hB hv0 hv1 hv2
      rcases hkd with rfl | rfl
      · cases hne : (s' ky != vl) with
        | true =>
          rcases hky with rfl | rfl | rfl
          · have Hne := hide hne
            have HN := hide (show (runOps s t.Ops).isSome = false by rw [HSt.out (by rw [Hne.out]; rfl)]; rfl)
            have HN2 := hide (fun s2 (h : runOps s t.Ops = some s2) => (show s' = s2 by rw [HSt.out (by rw [Hne.out]; rfl)] at h; cases h))
            go_wp2_with (go_at_call 136; refine HW.out.mono ?_; rintro e w2 ⟨rfl, hb2⟩; have HB2 := hide (hB'.alloc (.cells #[.int .i64 1, .int .i64 0, .int .i64 vl] 73) |>.below hb2 (hB'.alloc _).lt); have HO2 := hide ((HO.out.trans (Only.of_alloc wr (.cells #[.int .i64 1, .int .i64 0, .int .i64 vl] 73))).trans (Only.of_below hb2)); obtain ⟨hc2, hf2⟩ := bcell hb2; have hz2 : wr.heap.size < w2.heap.size := (by have := hb2.size; simp at this; omega); clear hb2)
            go_region
            all_goals go_wp2
            all_goals go_ret
            all_goals exact ⟨ret_bool HN.out.symm, ⟨s', HB2.out, HN2.out⟩, HO2.out.drew_⟩
          · have Hne := hide hne
            have HN := hide (show (runOps s t.Ops).isSome = false by rw [HSt.out (by rw [Hne.out]; rfl)]; rfl)
            have HN2 := hide (fun s2 (h : runOps s t.Ops = some s2) => (show s' = s2 by rw [HSt.out (by rw [Hne.out]; rfl)] at h; cases h))
            go_wp2_with (go_at_call 136; refine HW.out.mono ?_; rintro e w2 ⟨rfl, hb2⟩; have HB2 := hide (hB'.alloc (.cells #[.int .i64 1, .int .i64 1, .int .i64 vl] 73) |>.below hb2 (hB'.alloc _).lt); have HO2 := hide ((HO.out.trans (Only.of_alloc wr (.cells #[.int .i64 1, .int .i64 1, .int .i64 vl] 73))).trans (Only.of_below hb2)); obtain ⟨hc2, hf2⟩ := bcell hb2; have hz2 : wr.heap.size < w2.heap.size := (by have := hb2.size; simp at this; omega); clear hb2)
            go_region
            all_goals go_wp2
            all_goals go_ret
            all_goals exact ⟨ret_bool HN.out.symm, ⟨s', HB2.out, HN2.out⟩, HO2.out.drew_⟩
          · have Hne := hide hne
            have HN := hide (show (runOps s t.Ops).isSome = false by rw [HSt.out (by rw [Hne.out]; rfl)]; rfl)
            have HN2 := hide (fun s2 (h : runOps s t.Ops = some s2) => (show s' = s2 by rw [HSt.out (by rw [Hne.out]; rfl)] at h; cases h))
            go_wp2_with (go_at_call 136; refine HW.out.mono ?_; rintro e w2 ⟨rfl, hb2⟩; have HB2 := hide (hB'.alloc (.cells #[.int .i64 1, .int .i64 2, .int .i64 vl] 73) |>.below hb2 (hB'.alloc _).lt); have HO2 := hide ((HO.out.trans (Only.of_alloc wr (.cells #[.int .i64 1, .int .i64 2, .int .i64 vl] 73))).trans (Only.of_below hb2)); obtain ⟨hc2, hf2⟩ := bcell hb2; have hz2 : wr.heap.size < w2.heap.size := (by have := hb2.size; simp at this; omega); clear hb2)
            go_region
            all_goals go_wp2
            all_goals go_ret
            all_goals exact ⟨ret_bool HN.out.symm, ⟨s', HB2.out, HN2.out⟩, HO2.out.drew_⟩
        | false =>
          rcases hky with rfl | rfl | rfl
          · have Hne := hide hne
            go_wp2_with (go_at_call 136; refine HW.out.mono ?_; rintro e w2 ⟨rfl, hb2⟩; have HB2 := hide (hB'.alloc (.cells #[.int .i64 1, .int .i64 0, .int .i64 vl] 73) |>.below hb2 (hB'.alloc _).lt); have HO2 := hide ((HO.out.trans (Only.of_alloc wr (.cells #[.int .i64 1, .int .i64 0, .int .i64 vl] 73))).trans (Only.of_below hb2)); obtain ⟨hc2, hf2⟩ := bcell hb2; have hz2 : wr.heap.size < w2.heap.size := (by have := hb2.size; simp at this; omega); clear hb2)
            go_region
            all_goals go_wp2
            all_goals (go_roundw; (case rel => exact ⟨k + 1, _, by omega, by go_num, HTk.out (by rw [Hne.out]; rfl), by rw [put_same s' _ _ (by simpa using Hne.out)]; exact HB2.out, HO2.out.drew_⟩); (case measure => simp [intOf]; omega))
          · have Hne := hide hne
            go_wp2_with (go_at_call 136; refine HW.out.mono ?_; rintro e w2 ⟨rfl, hb2⟩; have HB2 := hide (hB'.alloc (.cells #[.int .i64 1, .int .i64 1, .int .i64 vl] 73) |>.below hb2 (hB'.alloc _).lt); have HO2 := hide ((HO.out.trans (Only.of_alloc wr (.cells #[.int .i64 1, .int .i64 1, .int .i64 vl] 73))).trans (Only.of_below hb2)); obtain ⟨hc2, hf2⟩ := bcell hb2; have hz2 : wr.heap.size < w2.heap.size := (by have := hb2.size; simp at this; omega); clear hb2)
            go_region
            all_goals go_wp2
            all_goals (go_roundw; (case rel => exact ⟨k + 1, _, by omega, by go_num, HTk.out (by rw [Hne.out]; rfl), by rw [put_same s' _ _ (by simpa using Hne.out)]; exact HB2.out, HO2.out.drew_⟩); (case measure => simp [intOf]; omega))
          · have Hne := hide hne
            go_wp2_with (go_at_call 136; refine HW.out.mono ?_; rintro e w2 ⟨rfl, hb2⟩; have HB2 := hide (hB'.alloc (.cells #[.int .i64 1, .int .i64 2, .int .i64 vl] 73) |>.below hb2 (hB'.alloc _).lt); have HO2 := hide ((HO.out.trans (Only.of_alloc wr (.cells #[.int .i64 1, .int .i64 2, .int .i64 vl] 73))).trans (Only.of_below hb2)); obtain ⟨hc2, hf2⟩ := bcell hb2; have hz2 : wr.heap.size < w2.heap.size := (by have := hb2.size; simp at this; omega); clear hb2)
            go_region
            all_goals go_wp2
            all_goals (go_roundw; (case rel => exact ⟨k + 1, _, by omega, by go_num, HTk.out (by rw [Hne.out]; rfl), by rw [put_same s' _ _ (by simpa using Hne.out)]; exact HB2.out, HO2.out.drew_⟩); (case measure => simp [intOf]; omega))
      · rcases hky with rfl | rfl | rfl
        · go_wp2_with (go_at_call 136; refine HW.out.mono ?_; rintro e w2 ⟨rfl, hb2⟩; have HB2 := hide (hB'.alloc (.cells #[.int .i64 2, .int .i64 0, .int .i64 vl] 73) |>.below hb2 (hB'.alloc _).lt); have HO2 := hide ((HO.out.trans (Only.of_alloc wr (.cells #[.int .i64 2, .int .i64 0, .int .i64 vl] 73))).trans (Only.of_below hb2)); obtain ⟨hc2, hf2⟩ := bcell hb2; have hz2 : wr.heap.size < w2.heap.size := (by have := hb2.size; simp at this; omega); clear hb2)
          go_region
          all_goals go_wp2
          all_goals (go_roundw; (case rel => exact ⟨k + 1, _, by omega, by go_num, HTk.out rfl, by rw [← cells3_put s' 0 vl (by omega)]; exact HB2.out.drew_.set_ 0 _, HO2.out.drew_.setCell (p := ⟨bs, 0, none⟩) rfl _⟩); (case measure => simp [intOf]; omega))
        · go_wp2_with (go_at_call 136; refine HW.out.mono ?_; rintro e w2 ⟨rfl, hb2⟩; have HB2 := hide (hB'.alloc (.cells #[.int .i64 2, .int .i64 1, .int .i64 vl] 73) |>.below hb2 (hB'.alloc _).lt); have HO2 := hide ((HO.out.trans (Only.of_alloc wr (.cells #[.int .i64 2, .int .i64 1, .int .i64 vl] 73))).trans (Only.of_below hb2)); obtain ⟨hc2, hf2⟩ := bcell hb2; have hz2 : wr.heap.size < w2.heap.size := (by have := hb2.size; simp at this; omega); clear hb2)
          go_region
          all_goals go_wp2
          all_goals (go_roundw; (case rel => exact ⟨k + 1, _, by omega, by go_num, HTk.out rfl, by rw [← cells3_put s' 1 vl (by omega)]; exact HB2.out.drew_.set_ 1 _, HO2.out.drew_.setCell (p := ⟨bs, 1, none⟩) rfl _⟩); (case measure => simp [intOf]; omega))
        · go_wp2_with (go_at_call 136; refine HW.out.mono ?_; rintro e w2 ⟨rfl, hb2⟩; have HB2 := hide (hB'.alloc (.cells #[.int .i64 2, .int .i64 2, .int .i64 vl] 73) |>.below hb2 (hB'.alloc _).lt); have HO2 := hide ((HO.out.trans (Only.of_alloc wr (.cells #[.int .i64 2, .int .i64 2, .int .i64 vl] 73))).trans (Only.of_below hb2)); obtain ⟨hc2, hf2⟩ := bcell hb2; have hz2 : wr.heap.size < w2.heap.size := (by have := hb2.size; simp at this; omega); clear hb2)
          go_region
          all_goals go_wp2
          all_goals (go_roundw; (case rel => exact ⟨k + 1, _, by omega, by go_num, HTk.out rfl, by rw [← cells3_put s' 2 vl (by omega)]; exact HB2.out.drew_.set_ 2 _, HO2.out.drew_.setCell (p := ⟨bs, 2, none⟩) rfl _⟩); (case measure => simp [intOf]; omega))
    · obtain rfl : k = t.Ops.length := by omega
      have hR' := hR.out
      rw [List.take_length] at hR'
      have HR := hide (show (runOps s t.Ops).isSome = true by rw [hR']; rfl)
      have HS := hide (fun s2 (h : runOps s t.Ops = some s2) => (show s' = s2 by rw [hR'] at h; exact Option.some.inj h))
      clear hR hR'
      go_wp2
      go_ret
      exact ⟨ret_bool HR.out.symm, ⟨s', hB.out, HS.out⟩, hO.out⟩
theorem made3 : madeCells #[.int .i64 0] (3 * 1) = cells3 St0 := by
  apply Array.ext
  · rw [size_madeCells]; rfl
  · intro i h1 h2
    have hi : i = 0 ∨ i = 1 ∨ i = 2 := by have h3 : i < 3 := h2; omega
    rcases hi with rfl | rfl | rfl <;> simp [madeCells, cells3, St0, Nat.mod_one]
theorem runTx_take (h : List Txn) (ns : List Int) (k m : Nat) (hk : k < ns.length) (hm : ns[k] = (m : Int)) (hmh : m < h.length) (s s' : St) (h1 : runTx h St0 (ns.take k) = some s) (h2 : runOps s h[m].Ops = some s') : runTx h St0 (ns.take (k + 1)) = some s' := by
  rw [List.take_succ_eq_append_getElem hk, runTx_append, h1]
  simp only [Option.bind_some, runTx, hm, Int.toNat_natCast, List.getElem?_eq_getElem hmh, Option.map_some, Option.getD_some, h2]
theorem runTx_stop (h : List Txn) (ns : List Int) (k m : Nat) (hk : k < ns.length) (hm : ns[k] = (m : Int)) (hmh : m < h.length) (s : St) (h1 : runTx h St0 (ns.take k) = some s) (h2 : runOps s h[m].Ops = none) : runsOK h ns = false := by
  have : ns = ns.take k ++ ns[k] :: ns.drop (k + 1) := by rw [← List.drop_eq_getElem_cons hk, List.take_append_drop]
  unfold runsOK
  rw [this, runTx_append, h1]
  simp only [Option.bind_some, runTx, hm, Int.toNat_natCast, List.getElem?_eq_getElem hmh, Option.map_some, Option.getD_some, h2]
  rfl
set_option maxRecDepth 10000 in
set_option maxHeartbeats 4000000 in
theorem specRuns (xs : List Txn) (ns : List Int) (A B : Option Addr) (c d : Nat) (w : World) (hm : xs.length ≤ maxLen) (hmn : ns.length ≤ maxLen) (hin : ∀ n ∈ ns, 0 ≤ n ∧ n < xs.length) (hok : ∀ t ∈ xs, ∀ o ∈ t.Ops, opOk o = true) (hA : Row tTxn w (Old w) A xs) (hB : Row tInt w (Old w) B ns) :
    Calls Tryz.prog 79 #[.slice A xs.length c, .slice B ns.length d] w fun e w' => e = .returned (.bool (runsOK xs ns)) ∧ Below w.heap.size w w' := by
  obtain ⟨i0, hi, hz0, hz1, hz2⟩ := info_parts infoInt_
  have hmk : ∀ W : World, (Instr.makeSlice 30 (.int .i64 3) (.int .i64 3)).run Tryz.prog W = .ok (.slice (some ⟨W.heap.size, 0, none⟩) 3 3) (W.alloc (.cells (cells3 St0) 3)) := fun W => by
    have h := run_make_rowN (P := Tryz.prog) 30 3 i0 (.int .i64 0) Tryz.underlying30 hi hz0 .i64 .i64 3 3 (Nat.le_refl _) (by rw [hz2]; omega) (by omega) W
    rw [hz1] at h
    rw [← made3]
    exact h
  have hq : xs.length ≤ 9223372036854775807 := by simpa [maxLen] using hm
  have hqn : ns.length ≤ 9223372036854775807 := by simpa [maxLen] using hmn
  have HA := hide hA; have HB := hide hB; have HIn := hide hin; have HOk := hide hok
  have HBk0 := hide (Blk.new w 3 (cells3 St0))
  clear hA hB hin hok hm hmn
  go_enter Tryz.func79, Tryz.ntmps79
  go_wp2
  clear hmk
  go_loopw [6, 7, 8] (fun i _ _ wr => ∃ (k : Nat) (s : St), k ≤ ns.length ∧ i = .int .i64 k ∧ Hid (runTx xs St0 (ns.take k) = some s) ∧ Hid (Blk wr w.heap.size 3 (cells3 s)) ∧ Below w.heap.size w wr) (fun i _ _ _ => ns.length - (intOf i).toNat)
  case atStart => exact ⟨0, St0, Nat.zero_le _, rfl, rfl, HBk0.out, (Below.refl _ w).alloc (Nat.le_refl _) _⟩
  case round =>
    obtain ⟨k, s, hk, rfl, hR, hS, hb⟩ := hrel
    by_cases hlt : k < ns.length
    · obtain ⟨b0, off0, rfl, hbS0, c0⟩ := at_Int HB.out hb hlt
      obtain ⟨hn0, hn1⟩ := HIn.out _ (List.getElem_mem hlt)
      obtain ⟨m, hm⟩ : ∃ m : Nat, ns[k] = (m : Int) := ⟨ns[k].toNat, by omega⟩
      have hml : m < xs.length := by omega
      rw [hm] at c0
      have HTk := hide (runTx_take xs ns k m hlt hm hml s · hR.out)
      have HSp := hide (runTx_stop xs ns k m hlt hm hml s hR.out)
      obtain ⟨b, off, A2, c2, rfl, hbS, d0, d1, d3, hj1, hj2, hj3⟩ := at_Txn HA.out (Below.refl _ w) hml
      have e1 := (hb.cell (p := ⟨b, off + m * 3 + 1, none⟩) hbS).trans d1
      have HR3 := hide hj3
      have HOk2 := hide (HOk.out _ (List.getElem_mem hml))
      have hq2 : xs[m].Ops.length ≤ 9223372036854775807 := by have := hj1; simp only [maxLen] at hj2; omega
      have HS := hide hS.out
      have HB1 := hide hb
      clear hm hn0 hn1 hR d0 d1 d3 hj1 hj2 hj3 hS
      go_wp2_with fail
      clear hb e1
      go_loopw [8] (fun j wr2 => ∃ (l : Nat) (s' : St), l ≤ xs[m].Ops.length ∧ j = .int .i64 l ∧ Hid (runOps s (xs[m].Ops.take l) = some s') ∧ Hid (Blk wr2 w.heap.size 3 (cells3 s')) ∧ Below w.heap.size w wr2) (fun j _ => xs[m].Ops.length - (intOf j).toNat)
      case atStart => exact ⟨0, s, Nat.zero_le _, rfl, rfl, HS.out, HB1.out⟩
      case round =>
        obtain ⟨l, s', hl, rfl, hR, hS, hb⟩ := hrel
        by_cases hlt2 : l < xs[m].Ops.length
        · obtain ⟨b2, off2, rfl, hbS2, d0, d1, d2⟩ := at_Op HR3.out hb hlt2
          have hpar := opOk_parts (HOk2.out _ (List.getElem_mem hlt2))
          have HTl := hide (runOps_take xs[m].Ops l hlt2 s s' hR.out)
          have HSl := hide (runOps_stop xs[m].Ops l hlt2 s s' hR.out)
          generalize xs[m].Ops[l] = o at d0 d1 d2 hpar HTl HSl
          obtain ⟨kd, ky, vl⟩ := o
          dsimp only at d0 d1 d2 hpar HTl HSl
          obtain ⟨hkd, hky, hv0, hv1, hv2⟩ := hpar
          have p0 := hS.out.cell 0; have p1 := hS.out.cell 1; have p2 := hS.out.cell 2; have g0 := hS.out.frozen 0; have g1 := hS.out.frozen 1; have g2 := hS.out.frozen 2
          simp only [cells3, List.getElem?_toArray, List.getElem?_cons_zero, List.getElem?_cons_succ] at p0 p1 p2
          have HSb := hide hS.out
          clear hR hS hv0 hv1 hv2
          rcases hkd with rfl | rfl
          · cases hne : (s' ky != vl) with
            | true =>
              rcases hky with rfl | rfl | rfl
              · have Hne := hide hne
                go_wp2_with fail
                go_quiet (fail)
                go_wp2_with fail
                go_ret
                exact ⟨ret_bool (by rw [HSp.out (HSl.out (by rw [Hne.out]; rfl))]), below_drewN hb _⟩
              · have Hne := hide hne
                go_wp2_with fail
                go_quiet (fail)
                go_wp2_with fail
                go_ret
                exact ⟨ret_bool (by rw [HSp.out (HSl.out (by rw [Hne.out]; rfl))]), below_drewN hb _⟩
              · have Hne := hide hne
                go_wp2_with fail
                go_quiet (fail)
                go_wp2_with fail
                go_ret
                exact ⟨ret_bool (by rw [HSp.out (HSl.out (by rw [Hne.out]; rfl))]), below_drewN hb _⟩
            | false =>
              rcases hky with rfl | rfl | rfl
              · have Hne := hide hne
                go_wp2_with fail
                go_quiet (fail)
                have HSb2 := hide (show Blk (wr.drewN nq) w.heap.size 3 (cells3 s') from HSb.out)
                have HBb2 := hide (below_drewN hb nq)
                go_wp2_with fail
                go_region
                go_wp2_with fail
                go_roundw
                case rel => exact ⟨l + 1, _, by omega, by go_num, HTl.out (by rw [Hne.out]; rfl), by rw [← cells3_put s' 0 vl (by omega)]; exact HSb2.out.drew_.set_ 0 _, HBb2.out.drew.setCell (p := ⟨w.heap.size, 0, none⟩) (Nat.le_refl _) _⟩
                case measure => simp [intOf]; omega
              · have Hne := hide hne
                go_wp2_with fail
                go_quiet (fail)
                have HSb2 := hide (show Blk (wr.drewN nq) w.heap.size 3 (cells3 s') from HSb.out)
                have HBb2 := hide (below_drewN hb nq)
                go_wp2_with fail
                go_region
                go_wp2_with fail
                go_roundw
                case rel => exact ⟨l + 1, _, by omega, by go_num, HTl.out (by rw [Hne.out]; rfl), by rw [← cells3_put s' 1 vl (by omega)]; exact HSb2.out.drew_.set_ 1 _, HBb2.out.drew.setCell (p := ⟨w.heap.size, 1, none⟩) (Nat.le_refl _) _⟩
                case measure => simp [intOf]; omega
              · have Hne := hide hne
                go_wp2_with fail
                go_quiet (fail)
                have HSb2 := hide (show Blk (wr.drewN nq) w.heap.size 3 (cells3 s') from HSb.out)
                have HBb2 := hide (below_drewN hb nq)
                go_wp2_with fail
                go_region
                go_wp2_with fail
                go_roundw
                case rel => exact ⟨l + 1, _, by omega, by go_num, HTl.out (by rw [Hne.out]; rfl), by rw [← cells3_put s' 2 vl (by omega)]; exact HSb2.out.drew_.set_ 2 _, HBb2.out.drew.setCell (p := ⟨w.heap.size, 2, none⟩) (Nat.le_refl _) _⟩
                case measure => simp [intOf]; omega
          · rcases hky with rfl | rfl | rfl
            · go_wp2_with fail
              go_quiet (fail)
              have HSb2 := hide (show Blk (wr.drewN nq) w.heap.size 3 (cells3 s') from HSb.out)
              have HBb2 := hide (below_drewN hb nq)
              go_wp2_with fail
              go_region
              go_wp2_with fail
              go_roundw
              case rel => exact ⟨l + 1, _, by omega, by go_num, HTl.out rfl, by rw [← cells3_put s' 0 vl (by omega)]; exact HSb2.out.drew_.set_ 0 _, HBb2.out.drew.setCell (p := ⟨w.heap.size, 0, none⟩) (Nat.le_refl _) _⟩
              case measure => simp [intOf]; omega
            · go_wp2_with fail
              go_quiet (fail)
              have HSb2 := hide (show Blk (wr.drewN nq) w.heap.size 3 (cells3 s') from HSb.out)
              have HBb2 := hide (below_drewN hb nq)
              go_wp2_with fail
              go_region
              go_wp2_with fail
              go_roundw
              case rel => exact ⟨l + 1, _, by omega, by go_num, HTl.out rfl, by rw [← cells3_put s' 1 vl (by omega)]; exact HSb2.out.drew_.set_ 1 _, HBb2.out.drew.setCell (p := ⟨w.heap.size, 1, none⟩) (Nat.le_refl _) _⟩
              case measure => simp [intOf]; omega
            · go_wp2_with fail
              go_quiet (fail)
              have HSb2 := hide (show Blk (wr.drewN nq) w.heap.size 3 (cells3 s') from HSb.out)
              have HBb2 := hide (below_drewN hb nq)
              go_wp2_with fail
              go_region
              go_wp2_with fail
              go_roundw
              case rel => exact ⟨l + 1, _, by omega, by go_num, HTl.out rfl, by rw [← cells3_put s' 2 vl (by omega)]; exact HSb2.out.drew_.set_ 2 _, HBb2.out.drew.setCell (p := ⟨w.heap.size, 2, none⟩) (Nat.le_refl _) _⟩
              case measure => simp [intOf]; omega
        · obtain rfl : l = xs[m].Ops.length := by omega
          have hR' := hR.out
          rw [List.take_length] at hR'
          have HR4 := hide (HTk.out s' hR')
          have HS4 := hide hS.out
          clear hR hR' hS
          go_wp2_with fail
          go_roundw
          case rel => exact ⟨k + 1, s', by omega, by go_num, HR4.out, HS4.out, hb⟩
          case measure => simp [intOf]; omega
    · obtain rfl : k = ns.length := by omega
      have HV := hide (show runsOK xs ns = true by unfold runsOK; have h := hR.out; rw [List.take_length] at h; rw [h]; rfl)
      clear hR
      go_wp2
      go_ret
      exact ⟨ret_bool HV.out.symm, hb⟩
end Go.Proofs.YtkcobaimcfggjaaGreatDoor
