/- slices.Collect(slices.Values(x)) at ints: new memory that holds what x holds. The sort of the library at this program: its functions and types by number. Printed by laysort.py. slices.Sorted(slices.Values(x)) at ints: what x holds, sorted, in new memory. Lists that have the same different numbers: the reference's l7Same. Where the numbers ascend, the sorted list is the other one. slices.Equal at ints. The two OrdersValid. The reference's OrdersValid. The two SerialRight. The program's SerialOrders. -/
import Derived.Test.YtkcobaimcfggjaaGreatDoorQToA
import Derived.Test.YtkcobaimcfggjaaGreatDoorProg
import Derived.Test.YtkcobaimcfggjaaGreatDoorQHMath
import Derived.Test.YtkcobaimcfggjaaGreatDoorQInsS
import Derived.Test.YtkcobaimcfggjaaGreatDoorQSearchM
import Derived.Test.YtkcobaimcfggjaaGreatDoorQDone
import Derived.Test.YtkcobaimcfggjaaGreatDoorQComI
import Derived.RangeFuncBox
import Derived.RangeFuncLeaves
import Derived.WalkKit
import Derived.OwnWalkIn
import Derived.TacticsInMore
import Derived.LoopNIn
import Derived.LoopIn
import Derived.Maps.AppendAt
import Derived.Shelf.SortM.Plain
import Derived.Shelf.SortM.SortNone
import Derived.Lib.SlKeysI
import Derived.BigQuiet
namespace Go.Proofs.YtkcobaimcfggjaaGreatDoor
open Go.RowKit
set_option linter.unusedVariables false
set_option linter.unusedSimpArgs false

open Go.Sort Go.Shelf Go.RowKit Go.Maps

attribute [local go_sem] Oper.semAt_some

theorem vals_in (n : Nat) (a : Option Addr) (len cap : Nat) (w : World) :
    CallsIn Fence.wide n Tryz.prog 72 #[.slice a len cap] w fun e w' => e = .returned (.func (.func 135) #[] #[.pointer (some ⟨w.heap.size, 0, none⟩)]) ∧ w' = w.alloc (.cells #[.slice a len cap] 30) := by
  refine callsIn_of_wp Tryz.func72 rfl trivial ?_ rfl
  simp only [Tryz.ntmps72, List.size_toArray, List.length_cons, List.length_nil, Nat.reduceAdd, Nat.reduceSub, Array.replicate_succ, Array.replicate_zero, List.push_toArray, List.append_toArray, List.nil_append, List.cons_append]
  gi_wp2
  go_ret
  exact ⟨rfl, rfl⟩
set_option maxRecDepth 100000 in
set_option maxHeartbeats 2000000 in
/-- The closure that slices.Values hands back yields what the slice holds, in order. -/
theorem vals_stops (n : Nat) (hn : 1 ≤ n) (Bs n₀ : Nat) (zs : List Int) (A : Option Addr) (c : Nat) (hl : zs.length ≤ 1048576) (w : World) (hBs : Bs < w.heap.size) (hn₀ : n₀ ≤ w.heap.size)
    (hc : w.cell? ⟨Bs, 0, none⟩ = some (.slice A zs.length c)) (hA : Row tInt w (fun b => b < n₀) A zs) :
    SeqStopsK Fence.wide n Tryz.prog 135 #[.pointer (some ⟨Bs, 0, none⟩)] (fun x : Int => #[Value.int .i64 x]) (Below n₀) (fun ys => ys = zs) (fun pre => pre <+: zs) zs.length w := fun l J Jx W hW _ _ hY h0 => by
  have hc' := (hW.cell (p := ⟨Bs, 0, none⟩) hBs).trans hc
  have hq : zs.length ≤ 9223372036854775807 := by omega
  have hA' : Row tInt W (fun b => b < n₀) A zs := hA.mono (fun _ h => h) (fun b hb => hW.block b (Nat.lt_of_lt_of_le hb hn₀))
  clear hc hA
  refine callsIn_of_wp Tryz.func135 rfl trivial ?_ rfl
  simp only [Tryz.ntmps135, List.size_toArray, List.length_cons, List.length_nil, Nat.reduceAdd, Nat.reduceSub, Array.replicate_succ, Array.replicate_zero, List.push_toArray, List.append_toArray, List.nil_append, List.cons_append]
  have HA := hide hA'
  clear hA'
  gi_wp2
  gi_loopw [7] (fun i wr => ∃ k : Nat, k ≤ zs.length ∧ i = .int .i64 k ∧ J (zs.take k) wr ∧ Below n₀ W wr)
    (fun i _ => zs.length - (intOf i).toNat)
  case atStart => exact ⟨0, Nat.zero_le _, rfl, h0, Below.refl _ _⟩
  case round =>
    obtain ⟨k, hk, rfl, hJs, hnx⟩ := hrel
    by_cases hlt : k < zs.length
    · obtain ⟨b, off, rfl, hb, hrow⟩ := HA.out (by omega)
      obtain ⟨cs, hcs, hcc⟩ := hrow k hlt
      have hcs' : cs = [.int .i64 zs[k]] := hcs
      subst hcs'
      have hcx := (hnx.cell (p := ⟨b, off + k * 1 + 0, none⟩) hb).trans (hcc 0 _ rfl)
      have hTk := hide (List.take_succ_eq_append_getElem hlt)
      generalize hx : zs[k] = x at hcx hTk
      simp only [Nat.mul_one, Nat.add_zero] at hcx
      obtain ⟨fn, tmps, assign, body, hy, hR⟩ := hY _ x wr hJs (by rw [List.length_take]; omega)
      clear hx hrow hcc hcs
      gi_wp2
      refine hR.mono ?_
      rintro e W3 (⟨rfl, hJ3, hk3⟩ | ⟨rfl, hJx3⟩)
      · gi_wp2
        go_roundw
        case rel => exact ⟨k + 1, by omega, by simp, by rw [hTk.out]; exact hJ3, hnx.trans hk3⟩
        case measure => simp [intOf]; omega
      · gi_wp2
        refine bodyPost_ret (results_none rfl _ _ _) rfl ?_
        exact ⟨⟨_, rfl⟩, .inr ⟨_, by rw [← hTk.out]; exact List.take_prefix _ _, hJx3⟩⟩
    · obtain rfl : k = zs.length := by omega
      rw [List.take_length] at hJs
      gi_wp2
      go_end0
      exact ⟨⟨_, rfl⟩, .inl ⟨_, rfl, hJs⟩⟩
set_option maxRecDepth 100000 in
set_option maxHeartbeats 2000000 in
/-- slices.AppendSeq(nil, slices.Values(zs)). -/
theorem appendVals_in (n : Nat) (hn : 3 ≤ n) (Bs : Nat) (zs : List Int) (A : Option Addr) (c : Nat) (hl : zs.length ≤ 1048576) (w : World) (hBs : Bs < w.heap.size)
    (hc : w.cell? ⟨Bs, 0, none⟩ = some (.slice A zs.length c)) (hA : Row tInt w (Old w) A zs) :
    CallsIn Fence.wide n Tryz.prog 169 #[.slice none 0 0, .func (.func 135) #[] #[.pointer (some ⟨Bs, 0, none⟩)]] w fun e W' => ∃ v, e = .returned v ∧ W'.ownsRow w.heap.size 3 1 v zs.length (zs.map (Value.int .i64)) ∧ Below w.heap.size w W' := by
  have h1 : 1 ≤ n := by omega
  obtain ⟨i0, hi, hz0, hz1, hz2⟩ := info_parts infoInt_
  refine callsIn_of_wp_marks Tryz.func169 rfl trivial ?_ rfl
  simp only [Tryz.ntmps169, List.size_toArray, List.length_cons, List.length_nil, Nat.reduceAdd, Nat.reduceSub, Array.replicate_succ, Array.replicate_zero, List.push_toArray, List.append_toArray, List.nil_append, List.cons_append]
  gi_wp2
  have bO := Boxed.new w 30 (.slice none 0 0)
  have hB0 : Below w.heap.size w (w.alloc (.cells #[.slice none 0 0] 30)) := (Below.refl _ w).alloc (Nat.le_refl _) _
  refine wpIn_rangeFunc_ownG rfl h1 (gf := 135) (lb := #[.pointer (some ⟨Bs, 0, none⟩)]) rfl trivial (enters_of Tryz.func135 (by kernel_rfl) rfl)
    (vals_stops (n - 1) (by omega) Bs w.heap.size zs A c hl (w.alloc (.cells #[.slice none 0 0] 30)) (by simp; omega) (by simp) ((hB0.cell (p := ⟨Bs, 0, none⟩) hBs).trans hc) (hA.mono (fun _ h => h) (fun b hb => hB0.block b hb))) belowK_t (belowK_b (by simp)) (Below.refl _ _) (fun _ => rfl)
    (fun pre W => (∃ v, Boxed W w.heap.size 30 v ∧ W.ownsRow w.heap.size 3 1 v pre.length (pre.map (Value.int .i64)) ∧ (v = .slice none 0 0 ↔ pre = [])) ∧ Below w.heap.size w W)
    (fun _ _ _ => False)
    (OwnFrom.and (Go.Own.from (holdsRow_own w.heap.size w.heap.size 30 3 1 (fun pre => pre.length) (fun pre => pre.map (Value.int .i64)) (fun pre v => v = .slice none 0 0 ↔ pre = [])) _) (ownFrom_below (Nat.le_refl _) (by simp)))
    (fun _ _ _ _ _ hs _ _ => hs)
    ⟨⟨_, bO, World.ownsRow_nil _ _ _ _, by simp⟩, hB0⟩
    (fun x => { tmps := #[.slice none 0 0, .func (.func 135) #[] #[.pointer (some ⟨Bs, 0, none⟩)], .pointer (some ⟨w.heap.size, 0, none⟩), undef, .slice none 0 0, .int .i64 x, .func (.func 135) #[] #[.pointer (some ⟨Bs, 0, none⟩)], .int .i64 x, undef, undef, undef, undef, undef], defers := [] }) ?assign ?body ?done ?stop
  case assign =>
    intro l x W K hK
    gi_wp2
    exact hK
  case body =>
    rintro l pre x W ⟨⟨v, hv, hrow, hnil⟩, hB⟩ hlt
    have hc := hv.cell
    gi_wp2_with (gi_at_builtin; refine wpListIn_append_own _ rfl _ _ 30 rfl w.heap.size 3 i0 (.int .i64 0) 1 8 Tryz.underlying30 hi hz0 hz1 hz2 rfl (by decide) _ _ _ rfl (hrow.alloc _) ⟨W.heap.size, 0, none⟩ 1 1 [.int .i64 x] rfl rfl (cell_one_new _ _ _) (by simp [Value.oneCell']) (by simp only [maxLen]; omega) (by omega) (by have := hB.size; simp; omega) ?_; intro v' w1 hown' hgrow _; obtain ⟨g', cap', rfl⟩ := ownsRow_succ hown'; obtain ⟨hv1, hv2, hr2, hk2, hb2⟩ := hv.appended (by decide) hrow hB.size (Nat.le_refl _) hown' hgrow; have hc1 := hv1.cell; have hf1 := hv1.frozen)
    exact ⟨hk2.from _, hb2, ⟨_, hv2, by simpa using hr2, by simp⟩, hB.trans hb2⟩
  case done =>
    rintro D ys W hD rfl ⟨⟨v, hv, hrow, hnil⟩, hB⟩ hK
    have hc := hv.cell
    gi_wp2
    refine ⟨by simp, .inl ⟨_, _, rfl, run_takeDeferred hK, ?_⟩⟩
    exact ⟨_, results_tmp rfl _ _ _, v, rfl, ownsRow_putObj hrow _ hK rfl, hB.trans (belowK_b (w := w) (Nat.le_refl _) W D _ _ (by simp at hD; omega) hK rfl rfl)⟩
  case stop =>
    rintro D c pre W _ _ h _
    exact h.elim
set_option maxHeartbeats 1000000 in
theorem collectVals_in (n : Nat) (hn : 4 ≤ n) (Bs : Nat) (zs : List Int) (A : Option Addr) (c : Nat) (hl : zs.length ≤ 1048576) (w : World) (hBs : Bs < w.heap.size)
    (hc : w.cell? ⟨Bs, 0, none⟩ = some (.slice A zs.length c)) (hA : Row tInt w (Old w) A zs) :
    CallsIn Fence.wide n Tryz.prog 133 #[.func (.func 135) #[] #[.pointer (some ⟨Bs, 0, none⟩)]] w fun e W' => ∃ v, e = .returned v ∧ W'.ownsRow w.heap.size 3 1 v zs.length (zs.map (Value.int .i64)) ∧ Below w.heap.size w W' := by
  have h1 : 1 ≤ n := by omega
  have HC := hide (appendVals_in (n - 1) (by omega) Bs zs A c hl w hBs hc hA)
  clear hc hA
  refine callsIn_of_wp Tryz.func133 rfl trivial ?_ rfl
  simp only [Tryz.ntmps133, List.size_toArray, List.length_cons, List.length_nil, Nat.reduceAdd, Nat.reduceSub, Array.replicate_succ, Array.replicate_zero, List.push_toArray, List.append_toArray, List.nil_append, List.cons_append]
  have hfS : Fence.wide.fn 169 := trivial
  gi_wp2_with (gi_at_call 169; refine HC.out.mono ?_; rintro e w' ⟨v, rfl, hrow, hb⟩)
  go_ret
  exact ⟨v, rfl, hrow, hb⟩
open Go.Shelf

def sortRen : Ren := ⟨fun | 5 => 134 | 8 => 157 | 7 => 170 | 19 => 185 | 20 => 186 | 10 => 191 | 11 => 192 | 12 => 193 | 13 => 194 | 14 => 195 | 15 => 196 | 16 => 197 | 17 => 198 | 18 => 199 | 30 => 213 | 31 => 204 | 32 => 205 | 33 => 214 | 34 => 215 | 35 => 187 | 40 => 223 | n => n, fun | 23 => 30 | 25 => 3 | 3 => 3 | 32 => 77 | 22 => 30 | 0 => 0 | 44 => 177 | 46 => 179 | 4 => 4 | 36 => 171 | 35 => 170 | 41 => 119 | 5 => 5 | 9 => 9 | 53 => 191 | 57 => 195 | 63 => 208 | 64 => 209 | n => n, fun n => n⟩
set_option maxRecDepth 100000 in
theorem sortLays : SlLaysM.n5 Tryz.prog sortRen where
  mixed := by kernel_rfl
  f5 := ⟨ "slices.Sort[[]int,int]", by decide, Tryz.func134.trans (congrArg some (by kernel_rfl))⟩
  f7 := ⟨ "slices.pdqsortOrdered[int]", by decide, Tryz.func170.trans (congrArg some (by kernel_rfl))⟩
  f8 := Tryz.func157.trans (congrArg some (by kernel_rfl))
  f10 := ⟨ "slices.insertionSortOrdered[int]", by decide, Tryz.func191.trans (congrArg some (by kernel_rfl))⟩
  f11 := ⟨ "slices.heapSortOrdered[int]", by decide, Tryz.func192.trans (congrArg some (by kernel_rfl))⟩
  f12 := ⟨ "slices.breakPatternsOrdered[int]", by decide, Tryz.func193.trans (congrArg some (by kernel_rfl))⟩
  f13 := ⟨ "slices.choosePivotOrdered[int]", by decide, Tryz.func194.trans (congrArg some (by kernel_rfl))⟩
  f14 := ⟨ "slices.reverseRangeOrdered[int]", by decide, Tryz.func195.trans (congrArg some (by kernel_rfl))⟩
  f15 := ⟨ "slices.partialInsertionSortOrdered[int]", by decide, Tryz.func196.trans (congrArg some (by kernel_rfl))⟩
  f16 := ⟨ "cmp.Less[int]", by decide, Tryz.func197.trans (congrArg some (by kernel_rfl))⟩
  f17 := ⟨ "slices.partitionEqualOrdered[int]", by decide, Tryz.func198.trans (congrArg some (by kernel_rfl))⟩
  f18 := ⟨ "slices.partitionOrdered[int]", by decide, Tryz.func199.trans (congrArg some (by kernel_rfl))⟩
  f19 := Tryz.func185.trans (congrArg some (by kernel_rfl))
  f20 := Tryz.func186.trans (congrArg some (by kernel_rfl))
  f30 := ⟨ "slices.siftDownOrdered[int]", by decide, Tryz.func213.trans (congrArg some (by kernel_rfl))⟩
  f31 := Tryz.func204.trans (congrArg some (by kernel_rfl))
  f32 := Tryz.func205.trans (congrArg some (by kernel_rfl))
  f33 := ⟨ "slices.medianAdjacentOrdered[int]", by decide, Tryz.func214.trans (congrArg some (by kernel_rfl))⟩
  f34 := ⟨ "slices.medianOrdered[int]", by decide, Tryz.func215.trans (congrArg some (by kernel_rfl))⟩
  f35 := ⟨ "cmp.isNaN[int]", by decide, Tryz.func187.trans (congrArg some (by kernel_rfl))⟩
  f40 := ⟨ "slices.order2Ordered[int]", by decide, Tryz.func223.trans (congrArg some (by kernel_rfl))⟩
  t0 := Tryz.underlying0
  a0 := Tryz.isAgg0
  z0 := Tryz.sizeOf0
  v0 := Tryz.zeroValue0
  t3 := Tryz.underlying3
  a3 := Tryz.isAgg3
  z3 := Tryz.sizeOf3
  v3 := Tryz.zeroValue3
  t4 := Tryz.underlying4
  a4 := Tryz.isAgg4
  z4 := Tryz.sizeOf4
  v4 := Tryz.zeroValue4
  t5 := Tryz.underlying5
  a5 := Tryz.isAgg5
  z5 := Tryz.sizeOf5
  v5 := Tryz.zeroValue5
  t9 := Tryz.underlying9
  a9 := Tryz.isAgg9
  z9 := Tryz.sizeOf9
  v9 := Tryz.zeroValue9
  t22 := Tryz.underlying30
  a22 := Tryz.isAgg30
  z22 := Tryz.sizeOf30
  v22 := Tryz.zeroValue30
  t23 := Tryz.underlying30
  a23 := Tryz.isAgg30
  z23 := Tryz.sizeOf30
  v23 := Tryz.zeroValue30
  t25 := Tryz.underlying3
  a25 := Tryz.isAgg3
  z25 := Tryz.sizeOf3
  v25 := Tryz.zeroValue3
  t32 := Tryz.underlying77
  a32 := Tryz.isAgg77
  z32 := Tryz.sizeOf77
  v32 := Tryz.zeroValue77
  t35 := Tryz.underlying170
  a35 := Tryz.isAgg170
  z35 := Tryz.sizeOf170
  v35 := Tryz.zeroValue170
  t36 := Tryz.underlying171
  a36 := Tryz.isAgg171
  z36 := Tryz.sizeOf171
  v36 := Tryz.zeroValue171
  t41 := Tryz.underlying119
  a41 := Tryz.isAgg119
  z41 := Tryz.sizeOf119
  v41 := Tryz.zeroValue119
  t44 := Tryz.underlying177
  a44 := Tryz.isAgg177
  z44 := Tryz.sizeOf177
  v44 := Tryz.zeroValue177
  t46 := Tryz.underlying179
  a46 := Tryz.isAgg179
  z46 := Tryz.sizeOf179
  v46 := Tryz.zeroValue179
  t53 := Tryz.underlying191
  a53 := Tryz.isAgg191
  z53 := Tryz.sizeOf191
  v53 := Tryz.zeroValue191
  t57 := Tryz.underlying195
  a57 := Tryz.isAgg195
  z57 := Tryz.sizeOf195
  v57 := Tryz.zeroValue195
  t63 := Tryz.underlying208
  a63 := Tryz.isAgg208
  z63 := Tryz.sizeOf208
  v63 := Tryz.zeroValue208
  t64 := Tryz.underlying209
  a64 := Tryz.isAgg209
  z64 := Tryz.sizeOf209
  v64 := Tryz.zeroValue209
/-- The numbers of a list, ascending. -/
def srt (zs : List Int) : List Int := zs.mergeSort fun x y => decide (x ≤ y)
theorem srt_len (zs : List Int) : (srt zs).length = zs.length := List.length_mergeSort _
theorem srt_perm (zs : List Int) : (srt zs).Perm zs := List.mergeSort_perm _ _
theorem own_of_row {e : TypeId} {base : Nat} {w : World} {zs : List Int} {v : Value} (h : w.ownsRow base e 1 v zs.length (zs.map (Value.int .i64))) : Own tInt e w (fun b => base ≤ b ∧ Old w b) zs v := by
  rcases h.2 with ⟨rfl, h0⟩ | ⟨g, cap, cur, rfl, hb, hg, r1, r2, r3, r4⟩
  · exact .inl ⟨rfl, List.eq_nil_of_length_eq_zero h0⟩
  · have hB : Blk w g e cur := hg
    refine .inr ⟨g, cap, cur, fun _ => False, rfl, ⟨hb, hB.lt⟩, hB, r1, r2, r3, fun b h => h.elim, fun k hk => ⟨[.int .i64 zs[k]], rfl, fun j u hu => ?_⟩⟩
    obtain ⟨hj, rfl⟩ := List.getElem?_eq_some_iff.1 hu
    obtain rfl : j = 0 := by simpa using hj
    have h1 : (cur.toList.take (zs.length * 1))[k]? = (zs.map (Value.int .i64))[k]? := by rw [r4]
    rw [Nat.mul_one, List.getElem?_take_of_lt hk, List.getElem?_map, List.getElem?_eq_getElem hk] at h1
    rw [hB.cell]
    show cur[0 + k * 1 + 0]? = _
    rw [show 0 + k * 1 + 0 = k by omega]
    simpa using h1
set_option maxRecDepth 100000 in
set_option maxHeartbeats 2000000 in
theorem sorted_vals (Bs : Nat) (zs : List Int) (A : Option Addr) (c : Nat) (hl : zs.length ≤ 1048576) (w : World) (hBs : Bs < w.heap.size)
    (hc : w.cell? ⟨Bs, 0, none⟩ = some (.slice A zs.length c)) (hA : Row tInt w (Old w) A zs) :
    Calls Tryz.prog 71 #[.func (.func 135) #[] #[.pointer (some ⟨Bs, 0, none⟩)]] w fun e W' => ∃ v, e = .returned v ∧ Own tInt 3 W' (New w W') (srt zs) v ∧ Below w.heap.size w W' := by
  refine (callsIn_wide (n := 5)).1 ?_
  have h1 : 1 ≤ 5 := by omega
  have HC := hide (collectVals_in 4 (by omega) Bs zs A c hl w hBs hc hA)
  clear hc hA
  refine callsIn_of_wp Tryz.func71 rfl trivial ?_ rfl
  simp only [Tryz.ntmps71, List.size_toArray, List.length_cons, List.length_nil, Nat.reduceAdd, Nat.reduceSub, Array.replicate_succ, Array.replicate_zero, List.push_toArray, List.append_toArray, List.nil_append, List.cons_append]
  have hfC : Fence.wide.fn 133 := trivial
  have hfS : Fence.wide.fn 134 := trivial
  gi_wp2_with (gi_at_call 133; refine HC.out.mono ?_; rintro e W ⟨v, rfl, hrow, hb⟩)
  rcases hrow.2 with ⟨rfl, hz⟩ | ⟨gb, cap, cur, rfl, hbase, hgb, r1, r2, r3, r4⟩
  · have hzs : zs = [] := List.eq_nil_of_length_eq_zero hz
    have cN : CallsIn Fence.wide 4 Tryz.prog 134 #[.slice none 0 0] W fun e w' => e = .returned (.tuple #[]) ∧ w' = W := callsIn_wide.2 (AnyM.slices_Sort_int_none sortLays none 0 W)
    gi_wp2_with (gi_at_call 134; refine cN.mono ?_; rintro e w' ⟨rfl, rfl⟩)
    go_ret
    exact ⟨_, rfl, by rw [hzs]; exact .inl ⟨rfl, by simp [srt]⟩, hb⟩
  · have hH : Holds encZ W gb 0 zs.toArray := holds_of_block_i hgb (by simpa using r4)
    have hgl : gb < W.heap.size := (Array.getElem?_eq_some_iff.1 hgb).1
    have cS : CallsIn Fence.wide 4 Tryz.prog 134 #[.slice (some ⟨gb, 0, none⟩) zs.length cap] W fun e w' => e = .returned (.tuple #[]) ∧ ∃ k os, w' = grow (putRow encZ (Sort.ahead W k) gb 0 (srt zs).toArray) os := callsIn_wide.2 (AnyM.slices_Sort_int sortLays gb 0 cap zs W hH hgl (by omega))
    have hq : zs.length ≤ 9223372036854775807 := by omega
    gi_wp2_with (gi_at_call 134; refine cS.mono ?_; rintro e w' ⟨rfl, nn, os, rfl⟩)
    go_ret
    have hR := ownsRow_sorted_i (n := nn) (os := os) (ts := srt zs) (srt_len zs) hbase hgb r1 r2 r3
    refine ⟨_, rfl, own_of_row (zs := srt zs) ?_, hb.grown (grownBy_sorted_i _) hb.size (fun j hj => by cases hj; exact hbase)⟩
    rw [srt_len]
    exact hR
def sameB (a b : List Int) : Bool := b.all (fun d => a.count d == 1) && decide (a.length = b.length)
theorem same_perm : ∀ (b a : List Int), b.Nodup → (∀ d ∈ b, a.count d = 1) → a.length = b.length → a.Perm b
  | [], a, _, _, hl => by
    have : a = [] := List.eq_nil_of_length_eq_zero hl
    subst this
    exact .refl _
  | d :: b, a, hn, hc, hl => by
    have hd : d ∈ a := List.count_pos_iff.1 (by rw [hc d (List.mem_cons_self)]; omega)
    have hp := List.perm_cons_erase hd
    have hn' := List.nodup_cons.1 hn
    have h2 := same_perm b (a.erase d) hn'.2 (fun e he => by
      rw [List.count_erase_of_ne (by rintro rfl; exact hn'.1 he)]
      exact hc e (List.mem_cons_of_mem _ he)) (by rw [List.length_erase_of_mem hd, hl]; simp)
    exact hp.trans (h2.cons d)
theorem same_iff {a b : List Int} (hn : b.Nodup) : sameB a b = true ↔ a.Perm b := by
  unfold sameB
  rw [Bool.and_eq_true, decide_eq_true_iff, List.all_eq_true]
  refine ⟨fun ⟨h1, h2⟩ => same_perm b a hn (fun d hd => by simpa using h1 d hd) h2, fun hp => ⟨fun d hd => ?_, hp.length_eq⟩⟩
  rw [hp.count_eq, hn.count, if_pos hd]
  rfl
theorem srt_sorted (zs : List Int) : (srt zs).Pairwise (· ≤ ·) :=
  (List.pairwise_mergeSort (le := fun x y : Int => decide (x ≤ y)) (fun a b c h1 h2 => by simp at *; omega) (fun a b => by simp; omega) zs).imp (fun h => by simpa using h)
theorem srt_perm_eq {a b : List Int} (h : a.Perm b) : srt a = srt b :=
  List.Perm.eq_of_pairwise (le := (· ≤ ·)) (fun x y _ _ h1 h2 => by omega) (srt_sorted a) (srt_sorted b) ((srt_perm a).trans (h.trans (srt_perm b).symm))
/-- Sorted lists are one just where one is the other in some order. -/
theorem srt_eq {a b : List Int} : srt a = srt b ↔ a.Perm b :=
  ⟨fun h => (srt_perm a).symm.trans (by rw [h]; exact srt_perm b), srt_perm_eq⟩
theorem srt_self {b : List Int} (hb : b.Pairwise (· ≤ ·)) : srt b = b :=
  List.mergeSort_of_pairwise (hb.imp (fun h => by simpa using h))
theorem doneI_up (h : List Txn) : ∀ k, (doneI h k).Pairwise (· ≤ ·)
  | 0 => List.Pairwise.nil
  | k + 1 => by
    have h1 := doneI_up h k
    by_cases hk : k < h.length
    · rw [doneI_succ h k hk, List.pairwise_append]
      refine ⟨h1, ?_, fun a ha b hb => ?_⟩
      · split
        · exact List.pairwise_singleton _ _
        · exact List.Pairwise.nil
      · have := (doneI_mem h k a ha).2
        split at hb
        · simp only [List.mem_singleton] at hb; omega
        · cases hb
    · rw [show doneI h (k + 1) = doneI h k by rw [doneI, List.getElem?_eq_none (by omega)]; simp]
      exact h1
theorem doneL_up (h : List Txn) : (doneL h).Pairwise (· ≤ ·) := doneI_up h _
/-- What the program asks is what the reference asks. -/
theorem srt_done (h : List Txn) (ns : List Int) : decide (srt ns = doneL h) = sameB ns (doneL h) := by
  rw [Bool.eq_iff_iff, decide_eq_true_iff, same_iff (show (doneL h).Nodup from doneI_nodup h _)]
  rw [← srt_eq, srt_self (doneL_up h)]
/-- Nothing but draws. -/
def Drew (w w' : World) : Prop := ∃ n, w' = w.drewN n
theorem Drew.refl (w : World) : Drew w w := ⟨0, rfl⟩
theorem Drew.step {w w' : World} (h : Drew w w') (m : Nat) : Drew w (w'.drewN m) := by
  obtain ⟨n, rfl⟩ := h
  exact ⟨n + m, World.drewN_drewN _ _ _⟩
theorem Drew.below {w w' : World} (h : Drew w w') : Below w.heap.size w w' := by
  obtain ⟨n, rfl⟩ := h
  exact below_drewN (Below.refl _ _) n
theorem Drew.trans {a b c : World} (h : Drew a b) (k : Drew b c) : Drew a c := by
  obtain ⟨m, rfl⟩ := k
  exact h.step m

set_option maxRecDepth 10000 in
set_option maxHeartbeats 400000 in
theorem equal_Int (xs ys : List Int) (A B : Option Addr) (c d : Nat) (w : World) (hl : xs.length ≤ maxLen) (hl2 : ys.length ≤ maxLen) (hA : Row tInt w (Old w) A xs) (hB : Row tInt w (Old w) B ys) :
    Calls Tryz.prog 70 #[.slice A xs.length c, .slice B ys.length d] w fun e w' => e = .returned (.bool (decide (xs = ys))) ∧ Drew w w' := by
  unfold maxLen at hl hl2
  by_cases hn : xs.length = ys.length
  · have hq : ((xs.length : Int) != (ys.length : Int)) = false := by simp [hn]
    have HN := hide hn
    have hl3 : xs.length ≤ ys.length := by omega
    rw [← hn]
    clear hn hq hl2
    go_enter Tryz.func70, Tryz.ntmps70
    go_wp2
    go_loopw [13] (fun i wr => ∃ k : Nat, k ≤ xs.length ∧ i = .int .i64 k ∧ Hid (∀ j, j < k → xs[j]? = ys[j]?) ∧ Hid (Drew w wr)) (fun i _ => xs.length - (intOf i).toNat)
    case atStart => exact ⟨0, Nat.zero_le _, rfl, (fun j h => absurd h (by omega)), Drew.refl _⟩
    case round =>
      obtain ⟨k, hk, rfl, hI, hD⟩ := hrel
      by_cases hlt : k < xs.length
      · obtain ⟨b, off, rfl, hbS, c0⟩ := at_Int hA hD.out.below hlt
        obtain ⟨b2, off2, rfl, hbS2, d0⟩ := at_Int hB hD.out.below (show k < ys.length by omega)
        clear hA hB
        by_cases he : xs[k] = ys[k]'(by omega)
        · have hx : xs[k]? = ys[k]? := by rw [List.getElem?_eq_getElem hlt, List.getElem?_eq_getElem (by omega), he]
          have HX := hide hx
          have hne : (xs[k] != ys[k]'(by omega)) = false := by simpa using he
          clear hx he
          go_wp2
          go_quiet (fail)
          go_wp2
          go_roundw
          case rel => exact ⟨k + 1, by omega, by go_num, (fun j hj => by rcases Nat.lt_succ_iff_lt_or_eq.1 hj with h | rfl; exact hI.out j h; exact HX.out), hD.out.step _⟩
          case measure => simp [intOf]; omega
        · have HE := hide (show decide (xs = ys) = false by
            rw [decide_eq_false_iff_not]; intro h; subst h; exact he rfl)
          have hne : (xs[k] != ys[k]'(by omega)) = true := by simpa using he
          clear he
          go_wp2
          go_quiet (fail)
          go_wp2
          go_ret
          exact ⟨ret_bool HE.out.symm, hD.out.step _⟩
      · obtain rfl : k = xs.length := by omega
        have HE := hide (show decide (xs = ys) = true by
          rw [decide_eq_true_iff]
          apply List.ext_getElem?
          intro j
          rcases Nat.lt_or_ge j xs.length with h | h
          · exact hI.out j h
          · rw [List.getElem?_eq_none h, List.getElem?_eq_none (by have := HN.out; omega)])
        clear hI hA hB
        go_wp2
        go_ret
        exact ⟨ret_bool HE.out.symm, hD.out⟩
  · have hq : ((xs.length : Int) != (ys.length : Int)) = true := by simp; omega
    have HE := hide (show decide (xs = ys) = false by rw [decide_eq_false_iff_not]; intro h; exact hn (by rw [h]))
    clear hA hB
    go_enter Tryz.func70, Tryz.ntmps70
    go_wp2
    go_ret
    exact ⟨ret_bool HE.out.symm, Drew.refl _⟩
def ordK (h : List Txn) (os : List (List Int)) (n : Nat) : Bool := (List.range n).all fun k => sameB (os.getD k []) (instL h (k : Int))
def ordB (h : List Txn) (os : List (List Int)) : Bool := histV h && (decide (os.length = 3) && ordK h os 3)
theorem ordK_succ (h : List Txn) (os : List (List Int)) (n : Nat) : ordK h os (n + 1) = (ordK h os n && sameB (os.getD n []) (instL h (n : Int))) := by
  unfold ordK
  rw [List.range_succ, List.all_append]
  simp
theorem ordK_stop {h : List Txn} {os : List (List Int)} {k n : Nat} (hk : k < n) (hs : sameB (os.getD k []) (instL h (k : Int)) = false) : ordK h os n = false := by
  unfold ordK
  rw [List.all_eq_false]
  exact ⟨k, List.mem_range.2 hk, by rw [hs]; simp⟩
theorem getD_at {os : List (List Int)} {k : Nat} (hk : k < os.length) : os.getD k [] = os[k] := by
  rw [List.getD_eq_getElem?_getD, List.getElem?_eq_getElem hk]; rfl
theorem srt_same {h : List Txn} (hv : histV h = true) (a : List Int) (key : Int) : decide (srt a = srt (instL h key)) = sameB a (instL h key) := by
  rw [Bool.eq_iff_iff, decide_eq_true_iff, same_iff (instL_nodup hv key), srt_eq]
set_option maxRecDepth 10000 in
set_option maxHeartbeats 4000000 in
theorem implOrdersValid (xs : List Txn) (os : List (List Int)) (A B : Option Addr) (c d : Nat) (w : World) (hm : xs.length ≤ maxLen) (hmo : os.length ≤ 1048576) (hsz : ∀ o ∈ os, o.length ≤ 1048576) (hA : Row tTxn w (Old w) A xs) (hB : Row (tSlice tInt) w (Old w) B os) :
    Calls Tryz.prog 24 #[.slice A xs.length c, .slice B os.length d] w fun e w' => e = .returned (.bool (ordB xs os)) ∧ Below w.heap.size w w' := by
  have HC := hide (implHistoryValid xs A c w hm hA)
  have HSr := hide (show ordB xs os = (histV xs && (decide (os.length = 3) && ordK xs os 3)) from rfl)
  cases hv : histV xs with
  | false =>
    rw [hv] at HC HSr
    clear hv hA hB
    go_enter Tryz.func24, Tryz.ntmps24
    go_wp2_with (go_at_call 66; refine HC.out.mono ?_; rintro e w1 ⟨rfl, hb1⟩; have HB1 := hide hb1; clear hb1)
    go_ret
    exact ⟨ret_bool HSr.out.symm, HB1.out⟩
  | true =>
    by_cases hl : os.length = 3
    · have hx6 : xs.length ≤ 6 := (histV_parts hv).1
      have hVm := fun (a : List Int) (key : Int) => srt_same hv a key
      have HIn := hide (fun (W : World) (key : Int) (hky : key = 0 ∨ key = 1 ∨ key = 2) (hb : Below w.heap.size w W) => implInstalled xs key A c W hv hky (hA.old hb))
      rw [hv] at HC HSr
      have HSr := hide (show ordB xs os = ordK xs os 3 by rw [HSr.out, decide_eq_true hl]; rfl)
      have hli : ((os.length : Int) != 3) = false := by rw [bne_eq_false_iff_eq]; omega
      have HVl := hide (fun (W : World) (A1 : Option Addr) (n d1 : Nat) => (callsIn_wide (n := 1)).1 (vals_in 1 A1 n d1 W))
      have HSo := hide (fun (W : World) (zs : List Int) (A1 : Option Addr) (d1 : Nat) (hz : zs.length ≤ 1048576) (h1 : Row tInt W (Old W) A1 zs) => sorted_vals W.heap.size zs A1 d1 hz (W.alloc (.cells #[.slice A1 zs.length d1] 30)) (by simp) (Boxed.new W _ _).cell (h1.old ((Below.refl _ W).alloc (Nat.le_refl _) _)))
      have HVm := hide hVm
      have HB := hide hB; have HSz := hide hsz
      have hil := fun key : Int => instV_len xs key xs.length
      have HIl := hide hil
      clear hv hA hB hVm hil hsz
      go_enter Tryz.func24, Tryz.ntmps24
      go_wp2_with (go_at_call 66; refine HC.out.mono ?_; rintro e w1 ⟨rfl, hb1⟩; have HB1 := hide hb1; clear hb1)
      have hq3 : os.length ≤ 9223372036854775807 := by omega
      go_loopw [5, 6, 7, 8, 19] (fun _ _ _ _ i wr => ∃ k : Nat, k ≤ os.length ∧ i = .int .i64 k ∧ Hid (ordK xs os k = true) ∧ Hid (Below w.heap.size w wr)) (fun _ _ _ _ i _ => os.length - (intOf i).toNat)
      case atStart => exact ⟨0, Nat.zero_le _, rfl, rfl, HB1.out⟩
      case round =>
        obtain ⟨k, hk, rfl, hK, hb⟩ := hrel
        have HK := hide hK.out; have HBr := hide hb.out
        clear hK hb
        by_cases hlt : k < os.length
        · obtain ⟨b, off, A2, c2, rfl, hbS, d0, hs1, hs2, hs3⟩ := at_IntS HB.out HBr.out hlt
          have hol := HSz.out _ (List.getElem_mem hlt)
          have hkl := HIl.out (k : Int)
          rw [show instV xs (k : Int) xs.length = instL xs (k : Int) from rfl] at hkl
          have HSu := hide (ordK_succ xs os k)
          have HSt := hide (ordK_stop (h := xs) (os := os) (k := k) (n := 3) (by omega))
          rw [getD_at hlt] at HSu HSt
          have HVk := hide (HVm.out os[k] (k : Int))
          have HI1 := hide (fun (W : World) (hb : Below w.heap.size w W) => HIn.out W (k : Int) (by omega) hb)
          have HS1 := hide (HSo.out wr os[k] A2 c2 hol hs3)
          generalize os[k] = O at d0 hs1 hs3 hol HSu HSt HVk HS1
          generalize instL xs (k : Int) = I at hkl HSu HSt HVk HI1
          have hoq : (srt O).length ≤ maxLen := by rw [srt_len]; simp only [maxLen]; omega
          have hiq : (srt I).length ≤ maxLen := by rw [srt_len]; simp only [maxLen]; omega
          have HEq := hide (fun (W : World) (A1 A2 : Option Addr) (c1 c2 : Nat) (h1 : Row tInt W (Old W) A1 (srt O)) (h2 : Row tInt W (Old W) A2 (srt I)) => equal_Int (srt O) (srt I) A1 A2 c1 c2 W hoq hiq h1 h2)
          rw [HVk.out] at HEq
          have tok1 : True := trivial
          have hI6 : I.length ≤ 1048576 := by omega
          cases hs : sameB O I with
          | false =>
            rw [hs] at HEq
            have HF := hide (show ordB xs os = false by rw [HSr.out]; exact HSt.out hs)
            clear hs HSu HSt HVk
            go_wp2_with (first
              | (have _t := tok1; go_at_call 71; refine HS1.out.mono ?_; rintro e w3 ⟨v3, rfl, hO3, hb3⟩; obtain ⟨A3, c3, rfl, h31, h32, h33⟩ := hO3.sl; have HR3 := hide (h33.mono (S' := Old w3) (fun b h => h.2) (fun _ _ => rfl)); have HB3 := hide ((HBr.out.alloc HBr.out.size (.cells #[.slice A2 O.length c2] 30)).trans (hb3.mono (by have := HBr.out.size; simp; omega))); clear hb3 hO3 h33; clear tok1)
              | (go_at_call 80; refine (HI1.out _ HB3.out).mono ?_; rintro e w4 ⟨v4, rfl, hO4, hb4⟩; obtain ⟨A4, c4, rfl, h41, h42, h43⟩ := hO4.sl; have HR4 := hide (h43.mono (S' := Old w4) (fun b h => h.2) (fun _ _ => rfl)); have HR34 := hide (HR3.out.old hb4); have HB4 := hide (HB3.out.trans (hb4.mono HB3.out.size)); clear hb4 hO4 h43)
              | (go_at_call 71; refine (HSo.out w4 I A4 c4 hI6 HR4.out).mono ?_; rintro e w6 ⟨v6, rfl, hO6, hb6⟩; obtain ⟨A6, c6, rfl, h61, h62, h63⟩ := hO6.sl; have HR6 := hide (h63.mono (S' := Old w6) (fun b h => h.2) (fun _ _ => rfl)); have HR36 := hide ((HR34.out.old ((Below.refl _ w4).alloc (Nat.le_refl _) _)).old hb6); have HB6 := hide ((HB4.out.alloc HB4.out.size (.cells #[.slice A4 I.length c4] 30)).trans (hb6.mono (by have := HB4.out.size; simp; omega))); clear hb6 hO6 h63)
              | (go_at_call 72; refine (HVl.out _ _ _ _).mono ?_; rintro e w2 ⟨rfl, rfl⟩)
              | (go_at_call 70; refine (HEq.out _ _ _ _ _ HR36.out HR6.out).mono ?_; rintro e w7 ⟨rfl, hb7⟩; have HB7 := hide (HB6.out.trans (hb7.below.mono HB6.out.size)); clear hb7))
            go_ret
            exact ⟨ret_bool HF.out.symm, HB7.out⟩
          | true =>
            rw [hs] at HEq
            have HK2 := hide (show ordK xs os (k + 1) = true by rw [HSu.out, HK.out, hs]; rfl)
            clear hs HSu HSt HVk
            go_wp2_with (first
              | (have _t := tok1; go_at_call 71; refine HS1.out.mono ?_; rintro e w3 ⟨v3, rfl, hO3, hb3⟩; obtain ⟨A3, c3, rfl, h31, h32, h33⟩ := hO3.sl; have HR3 := hide (h33.mono (S' := Old w3) (fun b h => h.2) (fun _ _ => rfl)); have HB3 := hide ((HBr.out.alloc HBr.out.size (.cells #[.slice A2 O.length c2] 30)).trans (hb3.mono (by have := HBr.out.size; simp; omega))); clear hb3 hO3 h33; clear tok1)
              | (go_at_call 80; refine (HI1.out _ HB3.out).mono ?_; rintro e w4 ⟨v4, rfl, hO4, hb4⟩; obtain ⟨A4, c4, rfl, h41, h42, h43⟩ := hO4.sl; have HR4 := hide (h43.mono (S' := Old w4) (fun b h => h.2) (fun _ _ => rfl)); have HR34 := hide (HR3.out.old hb4); have HB4 := hide (HB3.out.trans (hb4.mono HB3.out.size)); clear hb4 hO4 h43)
              | (go_at_call 71; refine (HSo.out w4 I A4 c4 hI6 HR4.out).mono ?_; rintro e w6 ⟨v6, rfl, hO6, hb6⟩; obtain ⟨A6, c6, rfl, h61, h62, h63⟩ := hO6.sl; have HR6 := hide (h63.mono (S' := Old w6) (fun b h => h.2) (fun _ _ => rfl)); have HR36 := hide ((HR34.out.old ((Below.refl _ w4).alloc (Nat.le_refl _) _)).old hb6); have HB6 := hide ((HB4.out.alloc HB4.out.size (.cells #[.slice A4 I.length c4] 30)).trans (hb6.mono (by have := HB4.out.size; simp; omega))); clear hb6 hO6 h63)
              | (go_at_call 72; refine (HVl.out _ _ _ _).mono ?_; rintro e w2 ⟨rfl, rfl⟩)
              | (go_at_call 70; refine (HEq.out _ _ _ _ _ HR36.out HR6.out).mono ?_; rintro e w7 ⟨rfl, hb7⟩; have HB7 := hide (HB6.out.trans (hb7.below.mono HB6.out.size)); clear hb7))
            go_roundw
            case rel => exact ⟨k + 1, by omega, by go_num, HK2.out, HB7.out⟩
            case measure => simp [intOf]; omega
        · obtain rfl : k = os.length := by omega
          have HF := hide (show ordB xs os = true by rw [HSr.out, ← hl]; exact HK.out)
          go_wp2_with fail
          go_ret
          exact ⟨ret_bool HF.out.symm, HBr.out⟩
    · rw [hv] at HC HSr
      have HSr := hide (show ordB xs os = false by rw [HSr.out, decide_eq_false hl]; rfl)
      have hli : ((os.length : Int) != 3) = true := by rw [bne_iff_ne]; omega
      clear hv hA hB hl
      go_enter Tryz.func24, Tryz.ntmps24
      go_wp2_with (go_at_call 66; refine HC.out.mono ?_; rintro e w1 ⟨rfl, hb1⟩; have HB1 := hide hb1; clear hb1)
      go_ret
      exact ⟨ret_bool HSr.out.symm, HB1.out⟩
end Go.Proofs.YtkcobaimcfggjaaGreatDoor
namespace Go.Proofs.YtkcobaimcfggjaaGreatDoor
open Go.RowKit
set_option linter.unusedVariables false
set_option linter.unusedSimpArgs false

def serB (h : List Txn) (ns : List Int) : Bool := histV h && (sameB ns (doneL h) && runsOK h ns)
theorem same_in {h : List Txn} {ns : List Int} (hs : sameB ns (doneL h) = true) : ∀ n ∈ ns, 0 ≤ n ∧ n < h.length := fun n hn =>
  doneI_mem h _ n (((same_iff (show (doneL h).Nodup from doneI_nodup h _)).1 hs).mem_iff.1 hn)
theorem same_len {h : List Txn} (hv : histV h = true) {ns : List Int} (hs : sameB ns (doneL h) = true) : ns.length ≤ 6 := by
  have h1 := ((same_iff (show (doneL h).Nodup from doneI_nodup h _)).1 hs).length_eq
  have h2 : (doneL h).length ≤ h.length := doneI_len h _
  have := (histV_parts hv).1
  omega
set_option maxRecDepth 10000 in
set_option maxHeartbeats 2000000 in
theorem implSerialRight (xs : List Txn) (ns : List Int) (A B : Option Addr) (c d : Nat) (w : World) (hm : xs.length ≤ maxLen) (hmn : ns.length ≤ 1048576) (hA : Row tTxn w (Old w) A xs) (hN : Row tInt w (Old w) B ns) :
    Calls Tryz.prog 18 #[.slice A xs.length c, .slice B ns.length d] w fun e w' => e = .returned (.bool (serB xs ns)) ∧ Below w.heap.size w w' := by
  have HC := hide (implHistoryValid xs A c w hm hA)
  have HSr := hide (show serB xs ns = (histV xs && (sameB ns (doneL xs) && runsOK xs ns)) from rfl)
  cases hv : histV xs with
  | false =>
    rw [hv] at HC HSr
    clear hv hA hN
    go_enter Tryz.func18, Tryz.ntmps18
    go_wp2_with (go_at_call 66; refine HC.out.mono ?_; rintro e w1 ⟨rfl, hb1⟩; have HB1 := hide hb1; clear hb1)
    go_ret
    exact ⟨ret_bool HSr.out.symm, HB1.out⟩
  | true =>
    have hx6 : xs.length ≤ 6 := (histV_parts hv).1
    have hdl : (doneL xs).length ≤ 6 := Nat.le_trans (doneI_len xs _) hx6
    have HVl := hide (fun (W : World) => (callsIn_wide (n := 1)).1 (vals_in 1 B ns.length d W))
    have HSo := hide (fun (W : World) (hb : Below w.heap.size w W) => sorted_vals W.heap.size ns B d hmn (W.alloc (.cells #[.slice B ns.length d] 30)) (by simp) (Boxed.new W _ _).cell ((hN.old hb).old ((Below.refl _ W).alloc (Nat.le_refl _) _)))
    have HDn := hide (fun (W : World) (hb : Below w.heap.size w W) => implDone xs A c W (by omega) (hA.old hb))
    have HEq := hide (fun (W : World) (A1 A2 : Option Addr) (c1 c2 : Nat) (h1 : Row tInt W (Old W) A1 (srt ns)) (h2 : Row tInt W (Old W) A2 (doneL xs)) => equal_Int (srt ns) (doneL xs) A1 A2 c1 c2 W (by rw [srt_len]; simp only [maxLen]; omega) (by simp only [maxLen]; omega) h1 h2)
    rw [srt_done xs ns] at HEq
    have HIn := hide (fun hs => same_in (h := xs) (ns := ns) hs)
    have HLn := hide (fun hs => same_len hv (ns := ns) hs)
    have HTx := hide (histV_parts hv).2
    have hqn : ns.length ≤ 9223372036854775807 := by omega
    have hq : xs.length ≤ 9223372036854775807 := by omega
    have hsl : (srt ns).length ≤ 9223372036854775807 := by rw [srt_len]; omega
    rw [hv] at HC HSr
    have HA := hide hA; have HN := hide hN
    clear hv hA hN
    generalize srt ns = Sn at HSo HEq hsl
    generalize doneL xs = D at HDn HSr HEq hdl HIn HLn
    cases hs : sameB ns D with
    | false =>
      rw [hs] at HSr HEq
      clear hs HIn HLn
      go_enter Tryz.func18, Tryz.ntmps18
      go_wp2_with (first | (go_at_call 66; refine HC.out.mono ?_; rintro e w1 ⟨rfl, hb1⟩; have HB1 := hide hb1; clear hb1) | (go_at_call 72; refine (HVl.out _).mono ?_; rintro e w2 ⟨rfl, rfl⟩; have HB2 := hide (HB1.out.alloc HB1.out.size (.cells #[.slice B ns.length d] 30))) | (go_at_call 71; refine (HSo.out _ HB1.out).mono ?_; rintro e w3 ⟨v3, rfl, hO3, hb3⟩; obtain ⟨A3, c3, rfl, h31, h32, h33⟩ := hO3.sl; have HR3 := hide (h33.mono (S' := Old w3) (fun b h => h.2) (fun _ _ => rfl)); have HB3 := hide (HB2.out.trans (hb3.mono HB2.out.size)); clear hb3 hO3 h33) | (go_at_call 52; refine (HDn.out _ HB3.out).mono ?_; rintro e w4 ⟨v4, rfl, hO4, hb4⟩; obtain ⟨A4, c4, rfl, h41, h42, h43⟩ := hO4.sl; have HR4 := hide (h43.mono (S' := Old w4) (fun b h => h.2) (fun _ _ => rfl)); have HR34 := hide (HR3.out.old hb4); have HB4 := hide (HB3.out.trans (hb4.mono HB3.out.size)); clear hb4 hO4 h43) | (go_at_call 70; refine (HEq.out _ _ _ _ _ HR34.out HR4.out).mono ?_; rintro e w5 ⟨rfl, hb5⟩; have HB5 := hide (HB4.out.trans (hb5.below.mono HB4.out.size)); clear hb5))
      go_ret
      exact ⟨ret_bool HSr.out.symm, HB5.out⟩
    | true =>
      have HIn := hide (HIn.out hs)
      have hl6 := HLn.out hs
      rw [hs] at HSr HEq
      clear hs HLn
      go_enter Tryz.func18, Tryz.ntmps18
      go_wp2_with (first | (go_at_call 66; refine HC.out.mono ?_; rintro e w1 ⟨rfl, hb1⟩; have HB1 := hide hb1; clear hb1) | (go_at_call 72; refine (HVl.out _).mono ?_; rintro e w2 ⟨rfl, rfl⟩; have HB2 := hide (HB1.out.alloc HB1.out.size (.cells #[.slice B ns.length d] 30))) | (go_at_call 71; refine (HSo.out _ HB1.out).mono ?_; rintro e w3 ⟨v3, rfl, hO3, hb3⟩; obtain ⟨A3, c3, rfl, h31, h32, h33⟩ := hO3.sl; have HR3 := hide (h33.mono (S' := Old w3) (fun b h => h.2) (fun _ _ => rfl)); have HB3 := hide (HB2.out.trans (hb3.mono HB2.out.size)); clear hb3 hO3 h33) | (go_at_call 52; refine (HDn.out _ HB3.out).mono ?_; rintro e w4 ⟨v4, rfl, hO4, hb4⟩; obtain ⟨A4, c4, rfl, h41, h42, h43⟩ := hO4.sl; have HR4 := hide (h43.mono (S' := Old w4) (fun b h => h.2) (fun _ _ => rfl)); have HR34 := hide (HR3.out.old hb4); have HB4 := hide (HB3.out.trans (hb4.mono HB3.out.size)); clear hb4 hO4 h43) | (go_at_call 70; refine (HEq.out _ _ _ _ _ HR34.out HR4.out).mono ?_; rintro e w5 ⟨rfl, hb5⟩; have HB5 := hide (HB4.out.trans (hb5.below.mono HB4.out.size)); clear hb5))
      generalize hW : w5.alloc _ = W
      have hsW : W.heap.size = w5.heap.size + 1 := by rw [← hW]; simp
      have HBk := hide (show Blk W w5.heap.size 92 (cells3 St0) by rw [← hW]; exact Blk.new w5 _ _)
      have HB6 := hide (show Below w.heap.size w W by rw [← hW]; exact HB5.out.alloc HB5.out.size _)
      have hw5 := HB5.out.size
      clear hW
      go_loopw [7, 22] (fun _ i wr => ∃ (k : Nat) (s : St), k ≤ ns.length ∧ i = .int .i64 k ∧ Hid (runTx xs St0 (ns.take k) = some s) ∧ Hid (Blk wr w5.heap.size 92 (cells3 s)) ∧ Hid (Only (fun b => b = w5.heap.size) W wr)) (fun _ i _ => ns.length - (intOf i).toNat)
      case atStart => exact ⟨0, St0, Nat.zero_le _, rfl, rfl, HBk.out, Only.refl _ _⟩
      case round =>
        obtain ⟨k, s, hk, rfl, hR, hBk, hO⟩ := hrel
        have HR := hide hR.out; have HBk := hide hBk.out; have HO := hide hO.out
        have HBr := hide (below_only HB6.out hO.out HB6.out.size (fun i h => by omega))
        clear hR hBk hO
        by_cases hlt : k < ns.length
        · obtain ⟨b0, off0, rfl, hbS0, c0⟩ := at_Int HN.out HBr.out hlt
          obtain ⟨hn0, hn1⟩ := HIn.out _ (List.getElem_mem hlt)
          obtain ⟨m, hme⟩ : ∃ m : Nat, ns[k] = (m : Int) := ⟨ns[k].toNat, by omega⟩
          have hml : m < xs.length := by omega
          have HTk := hide (fun (s' : St) (h2 : runOps s xs[m].Ops = some s') => runTx_take xs ns k m hlt hme hml s s' HR.out h2)
          have HSp := hide (runTx_stop xs ns k m hlt hme hml s HR.out)
          rw [hme] at c0
          obtain ⟨b, off, A2, c2, rfl, hbS, d0, d1, d3, hj1, hj2, hj3⟩ := at_Txn HA.out (Below.refl _ w) hml
          have e0 := (HBr.out.cell (p := ⟨b, off + m * 3, none⟩) hbS).trans d0
          have e1 := (HBr.out.cell (p := ⟨b, off + m * 3 + 1, none⟩) hbS).trans d1
          have e3 := (HBr.out.cell (p := ⟨b, off + m * 3 + 2, none⟩) hbS).trans d3
          have HFo := hide (follow_any xs[m] s A2 c2 wr w5.heap.size (by omega) (txnOk_parts (HTx.out _ (List.getElem_mem hml))).1 HBk.out (hj3.mono (fun b hb => ⟨Nat.lt_of_lt_of_le hb HBr.out.size, by unfold Old at hb; omega⟩) (fun b hb => HBr.out.block b hb)))
          clear hme hn0 hn1 d0 d1 d3 hj3
          cases hro : runOps s xs[m].Ops with
          | none =>
            rw [hro] at HFo
            have HF := hide (show serB xs ns = false by rw [HSr.out, HSp.out hro]; rfl)
            clear hro HTk HSp
            go_wp2_with (go_at_call 73; refine HFo.out.mono ?_; rintro e w7 ⟨rfl, _, hO7⟩; have HO7 := hide hO7; clear hO7)
            go_ret
            exact ⟨ret_bool HF.out.symm, below_only HBr.out HO7.out HBr.out.size (fun i h => by omega)⟩
          | some s2 =>
            have HT2 := hide (HTk.out s2 hro)
            rw [hro] at HFo
            clear hro HTk HSp
            go_wp2_with (go_at_call 73; refine HFo.out.mono ?_; rintro e w7 ⟨rfl, ⟨s3, hB3, hs3⟩, hO7⟩; have hs4 := hs3 s2 rfl; subst hs4; have HB7 := hide hB3; have HO7 := hide hO7; clear hO7 hB3 hs3)
            go_roundw
            case rel => exact ⟨k + 1, s3, by omega, by go_num, HT2.out, HB7.out, HO.out.trans HO7.out⟩
            case measure => simp [intOf]; omega
        · obtain rfl : k = ns.length := by omega
          have HT := hide (show serB xs ns = true by
            have h9 := HR.out
            rw [List.take_length] at h9
            rw [HSr.out, show runsOK xs ns = true by unfold runsOK; rw [h9]; rfl]; rfl)
          clear HR
          go_wp2_with fail
          go_ret
          exact ⟨ret_bool HT.out.symm, HBr.out⟩
end Go.Proofs.YtkcobaimcfggjaaGreatDoor
namespace Go.Proofs.YtkcobaimcfggjaaGreatDoor
open Go.RowKit
set_option linter.unusedVariables false
set_option linter.unusedSimpArgs false

/-- The orders of values of a serial order. -/
def seoR (h : List Txn) (o : List Int) : List (List Int) := if serB h o then instR h o else []
theorem instR_len (h : List Txn) (o : List Int) (ho : o.length ≤ 1048576) : (instR h o).length ≤ 1048576 ∧ ∀ x ∈ instR h o, x.length ≤ 1048576 := by
  refine ⟨by simp [instR], fun x hx => ?_⟩
  unfold instR at hx
  have h0 := instK_len h 0 o
  have h1 := instK_len h 1 o
  have h2 := instK_len h 2 o
  rcases List.mem_cons.1 hx with rfl | hx
  · omega
  · rcases List.mem_cons.1 hx with rfl | hx
    · omega
    · rw [List.mem_singleton] at hx; subst hx; omega
theorem seoR_len (h : List Txn) (o : List Int) (ho : o.length ≤ 1048576) : (seoR h o).length ≤ 1048576 ∧ ∀ x ∈ seoR h o, x.length ≤ 1048576 := by
  unfold seoR
  split
  · exact instR_len h o ho
  · exact ⟨by simp, fun x hx => by cases hx⟩
theorem serB_parts {h : List Txn} {o : List Int} (hs : serB h o = true) : histV h = true ∧ sameB o (doneL h) = true ∧ runsOK h o = true := by
  unfold serB at hs
  rw [Bool.and_eq_true, Bool.and_eq_true] at hs
  exact hs
set_option maxRecDepth 10000 in
set_option maxHeartbeats 1000000 in
theorem implSerialOrders (xs : List Txn) (o : List Int) (A B : Option Addr) (c d : Nat) (w : World) (hm : xs.length ≤ maxLen) (hmo : o.length ≤ 1048576) (hA : Row tTxn w (Old w) A xs) (hN : Row tInt w (Old w) B o) :
    Calls Tryz.prog 20 #[.slice A xs.length c, .slice B o.length d] w fun e w' => ∃ v, e = .returned v ∧ HoldS w' (New w w') (seoR xs o) v ∧ Below w.heap.size w w' := by
  have HC := hide (implSerialRight xs o A B c d w hm hmo hA hN)
  cases hs : serB xs o with
  | false =>
    have HR := hide (show seoR xs o = [] by unfold seoR; rw [hs]; rfl)
    rw [hs] at HC
    clear hs hA hN
    go_enter Tryz.func20, Tryz.ntmps20
    go_wp2_with (go_at_call 18; refine HC.out.mono ?_; rintro e w1 ⟨rfl, hb1⟩; have HB1 := hide hb1; clear hb1)
    go_ret
    exact ⟨_, rfl, by rw [HR.out]; exact HoldS.nil, HB1.out⟩
  | true =>
    have HR := hide (show seoR xs o = instR xs o by unfold seoR; rw [hs]; rfl)
    rw [hs] at HC
    obtain ⟨hv, hsm, hrn⟩ := serB_parts hs
    have hl6 := same_len hv hsm
    have hin := same_in hsm
    have HI := hide (fun W (hb : Below w.heap.size w W) => implInstalls xs o A B c d W hv hin (by omega) (hA.old hb) (hN.old hb))
    clear hs hv hsm hrn hin hA hN
    go_enter Tryz.func20, Tryz.ntmps20
    go_wp2_with fail
    refine HC.out.mono ?_
    rintro e w1 ⟨rfl, hb1⟩
    have HB1 := hide hb1
    have HI1 := hide (HI.out w1 hb1)
    clear hb1 HI
    go_wp2_with (go_at_call 75; refine HI1.out.mono ?_; rintro e w7 ⟨v7, rfl, hS, hb⟩; have HS := hide hS; have HB7 := hide hb; clear hS hb)
    go_ret
    exact ⟨_, rfl, by rw [HR.out]; exact HS.out.mono (fun b h => ⟨Nat.le_trans HB1.out.size h.1, h.2⟩) (fun _ _ => rfl), HB1.out.trans (HB7.out.mono HB1.out.size)⟩
end Go.Proofs.YtkcobaimcfggjaaGreatDoor
