/- slices.Collect(slices.Values(x)) at ints: new memory that holds what x holds. The sort of the library at this program: its functions and types by number. Printed by laysort.py. slices.Sorted(slices.Values(x)) at ints: what x holds, sorted, in new memory. Lists that have the same different numbers: the reference's l7Same. Where the numbers ascend, the sorted list is the other one. slices.Equal at ints. The two OrdersValid. The reference's OrdersValid. -/
import Derived.Test.YtjiobgfaohldhaaGreatQRanges
import Derived.Test.YtjiobgfaohldhaaGreatQToA
import Derived.Test.YtjiobgfaohldhaaGreatProg
import Derived.Test.YtjiobgfaohldhaaGreatQSnapN
import Derived.Test.YtjiobgfaohldhaaGreatQInsS
import Derived.RangeFuncBox
import Derived.RangeFuncLeaves
import Derived.WalkKit
import Derived.OwnWalkIn
import Derived.TacticsInMore
import Derived.LoopNIn
import Derived.LoopIn
import Derived.Maps.AppendAt
import Derived.Shelf.SortM.Plain
import Derived.Shelf.SortM.SortNone
import Derived.Lib.SlKeysI
import Derived.BigQuiet
namespace Go.Proofs.YtjiobgfaohldhaaGreat
open Go.RowKit
set_option linter.unusedVariables false
set_option linter.unusedSimpArgs false

open Go.Sort Go.Shelf Go.RowKit Go.Maps

attribute [local go_sem] Oper.semAt_some

theorem vals_in (n : Nat) (a : Option Addr) (len cap : Nat) (w : World) :
    CallsIn Fence.wide n Tryz.prog 69 #[.slice a len cap] w fun e w' => e = .returned (.func (.func 112) #[] #[.pointer (some ⟨w.heap.size, 0, none⟩)]) ∧ w' = w.alloc (.cells #[.slice a len cap] 23) := by
  refine callsIn_of_wp Tryz.func69 rfl trivial ?_ rfl
  simp only [Tryz.ntmps69, List.size_toArray, List.length_cons, List.length_nil, Nat.reduceAdd, Nat.reduceSub, Array.replicate_succ, Array.replicate_zero, List.push_toArray, List.append_toArray, List.nil_append, List.cons_append]
  gi_wp2
  go_ret
  exact ⟨rfl, rfl⟩
set_option maxRecDepth 100000 in
set_option maxHeartbeats 2000000 in
/-- The closure that slices.Values hands back yields what the slice holds, in order. -/
theorem vals_stops (n : Nat) (hn : 1 ≤ n) (Bs n₀ : Nat) (zs : List Int) (A : Option Addr) (c : Nat) (hl : zs.length ≤ 1048576) (w : World) (hBs : Bs < w.heap.size) (hn₀ : n₀ ≤ w.heap.size)
    (hc : w.cell? ⟨Bs, 0, none⟩ = some (.slice A zs.length c)) (hA : Row tInt w (fun b => b < n₀) A zs) :
    SeqStopsK Fence.wide n Tryz.prog 112 #[.pointer (some ⟨Bs, 0, none⟩)] (fun x : Int => #[Value.int .i64 x]) (Below n₀) (fun ys => ys = zs) (fun pre => pre <+: zs) zs.length w := fun l J Jx W hW _ _ hY h0 => by
  have hc' := (hW.cell (p := ⟨Bs, 0, none⟩) hBs).trans hc
  have hq : zs.length ≤ 9223372036854775807 := by omega
  have hA' : Row tInt W (fun b => b < n₀) A zs := hA.mono (fun _ h => h) (fun b hb => hW.block b (Nat.lt_of_lt_of_le hb hn₀))
  clear hc hA
  refine callsIn_of_wp Tryz.func112 rfl trivial ?_ rfl
  simp only [Tryz.ntmps112, List.size_toArray, List.length_cons, List.length_nil, Nat.reduceAdd, Nat.reduceSub, Array.replicate_succ, Array.replicate_zero, List.push_toArray, List.append_toArray, List.nil_append, List.cons_append]
  have HA := hide hA'
  clear hA'
  gi_wp2
  gi_loopw [7] (fun i wr => ∃ k : Nat, k ≤ zs.length ∧ i = .int .i64 k ∧ J (zs.take k) wr ∧ Below n₀ W wr)
    (fun i _ => zs.length - (intOf i).toNat)
  case atStart => exact ⟨0, Nat.zero_le _, rfl, h0, Below.refl _ _⟩
  case round =>
    obtain ⟨k, hk, rfl, hJs, hnx⟩ := hrel
    by_cases hlt : k < zs.length
    · obtain ⟨b, off, rfl, hb, hrow⟩ := HA.out (by omega)
      obtain ⟨cs, hcs, hcc⟩ := hrow k hlt
      have hcs' : cs = [.int .i64 zs[k]] := hcs
      subst hcs'
      have hcx := (hnx.cell (p := ⟨b, off + k * 1 + 0, none⟩) hb).trans (hcc 0 _ rfl)
      have hTk := hide (List.take_succ_eq_append_getElem hlt)
      generalize hx : zs[k] = x at hcx hTk
      simp only [Nat.mul_one, Nat.add_zero] at hcx
      obtain ⟨fn, tmps, assign, body, hy, hR⟩ := hY _ x wr hJs (by rw [List.length_take]; omega)
      clear hx hrow hcc hcs
      gi_wp2
      refine hR.mono ?_
      rintro e W3 (⟨rfl, hJ3, hk3⟩ | ⟨rfl, hJx3⟩)
      · gi_wp2
        go_roundw
        case rel => exact ⟨k + 1, by omega, by simp, by rw [hTk.out]; exact hJ3, hnx.trans hk3⟩
        case measure => simp [intOf]; omega
      · gi_wp2
        refine bodyPost_ret (results_none rfl _ _ _) rfl ?_
        exact ⟨⟨_, rfl⟩, .inr ⟨_, by rw [← hTk.out]; exact List.take_prefix _ _, hJx3⟩⟩
    · obtain rfl : k = zs.length := by omega
      rw [List.take_length] at hJs
      gi_wp2
      go_end0
      exact ⟨⟨_, rfl⟩, .inl ⟨_, rfl, hJs⟩⟩
set_option maxRecDepth 100000 in
set_option maxHeartbeats 2000000 in
/-- slices.AppendSeq(nil, slices.Values(zs)). -/
theorem appendVals_in (n : Nat) (hn : 3 ≤ n) (Bs : Nat) (zs : List Int) (A : Option Addr) (c : Nat) (hl : zs.length ≤ 1048576) (w : World) (hBs : Bs < w.heap.size)
    (hc : w.cell? ⟨Bs, 0, none⟩ = some (.slice A zs.length c)) (hA : Row tInt w (Old w) A zs) :
    CallsIn Fence.wide n Tryz.prog 137 #[.slice none 0 0, .func (.func 112) #[] #[.pointer (some ⟨Bs, 0, none⟩)]] w fun e W' => ∃ v, e = .returned v ∧ W'.ownsRow w.heap.size 3 1 v zs.length (zs.map (Value.int .i64)) ∧ Below w.heap.size w W' := by
  have h1 : 1 ≤ n := by omega
  obtain ⟨i0, hi, hz0, hz1, hz2⟩ := info_parts infoInt_
  refine callsIn_of_wp_marks Tryz.func137 rfl trivial ?_ rfl
  simp only [Tryz.ntmps137, List.size_toArray, List.length_cons, List.length_nil, Nat.reduceAdd, Nat.reduceSub, Array.replicate_succ, Array.replicate_zero, List.push_toArray, List.append_toArray, List.nil_append, List.cons_append]
  gi_wp2
  have bO := Boxed.new w 23 (.slice none 0 0)
  have hB0 : Below w.heap.size w (w.alloc (.cells #[.slice none 0 0] 23)) := (Below.refl _ w).alloc (Nat.le_refl _) _
  refine wpIn_rangeFunc_ownG rfl h1 (gf := 112) (lb := #[.pointer (some ⟨Bs, 0, none⟩)]) rfl trivial (enters_of Tryz.func112 (by kernel_rfl) rfl)
    (vals_stops (n - 1) (by omega) Bs w.heap.size zs A c hl (w.alloc (.cells #[.slice none 0 0] 23)) (by simp; omega) (by simp) ((hB0.cell (p := ⟨Bs, 0, none⟩) hBs).trans hc) (hA.mono (fun _ h => h) (fun b hb => hB0.block b hb))) belowK_t (belowK_b (by simp)) (Below.refl _ _) (fun _ => rfl)
    (fun pre W => (∃ v, Boxed W w.heap.size 23 v ∧ W.ownsRow w.heap.size 3 1 v pre.length (pre.map (Value.int .i64)) ∧ (v = .slice none 0 0 ↔ pre = [])) ∧ Below w.heap.size w W)
    (fun _ _ _ => False)
    (OwnFrom.and (Go.Own.from (holdsRow_own w.heap.size w.heap.size 23 3 1 (fun pre => pre.length) (fun pre => pre.map (Value.int .i64)) (fun pre v => v = .slice none 0 0 ↔ pre = [])) _) (ownFrom_below (Nat.le_refl _) (by simp)))
    (fun _ _ _ _ _ hs _ _ => hs)
    ⟨⟨_, bO, World.ownsRow_nil _ _ _ _, by simp⟩, hB0⟩
    (fun x => { tmps := #[.slice none 0 0, .func (.func 112) #[] #[.pointer (some ⟨Bs, 0, none⟩)], .pointer (some ⟨w.heap.size, 0, none⟩), undef, .slice none 0 0, .int .i64 x, .func (.func 112) #[] #[.pointer (some ⟨Bs, 0, none⟩)], .int .i64 x, undef, undef, undef, undef, undef], defers := [] }) ?assign ?body ?done ?stop
  case assign =>
    intro l x W K hK
    gi_wp2
    exact hK
  case body =>
    rintro l pre x W ⟨⟨v, hv, hrow, hnil⟩, hB⟩ hlt
    have hc := hv.cell
    gi_wp2_with (gi_at_builtin; refine wpListIn_append_own _ rfl _ _ 23 rfl w.heap.size 3 i0 (.int .i64 0) 1 8 Tryz.underlying23 hi hz0 hz1 hz2 rfl (by decide) _ _ _ rfl (hrow.alloc _) ⟨W.heap.size, 0, none⟩ 1 1 [.int .i64 x] rfl rfl (cell_one_new _ _ _) (by simp [Value.oneCell']) (by simp only [maxLen]; omega) (by omega) (by have := hB.size; simp; omega) ?_; intro v' w1 hown' hgrow _; obtain ⟨g', cap', rfl⟩ := ownsRow_succ hown'; obtain ⟨hv1, hv2, hr2, hk2, hb2⟩ := hv.appended (by decide) hrow hB.size (Nat.le_refl _) hown' hgrow; have hc1 := hv1.cell; have hf1 := hv1.frozen)
    exact ⟨hk2.from _, hb2, ⟨_, hv2, by simpa using hr2, by simp⟩, hB.trans hb2⟩
  case done =>
    rintro D ys W hD rfl ⟨⟨v, hv, hrow, hnil⟩, hB⟩ hK
    have hc := hv.cell
    gi_wp2
    refine ⟨by simp, .inl ⟨_, _, rfl, run_takeDeferred hK, ?_⟩⟩
    exact ⟨_, results_tmp rfl _ _ _, v, rfl, ownsRow_putObj hrow _ hK rfl, hB.trans (belowK_b (w := w) (Nat.le_refl _) W D _ _ (by simp at hD; omega) hK rfl rfl)⟩
  case stop =>
    rintro D c pre W _ _ h _
    exact h.elim
set_option maxHeartbeats 1000000 in
theorem collectVals_in (n : Nat) (hn : 4 ≤ n) (Bs : Nat) (zs : List Int) (A : Option Addr) (c : Nat) (hl : zs.length ≤ 1048576) (w : World) (hBs : Bs < w.heap.size)
    (hc : w.cell? ⟨Bs, 0, none⟩ = some (.slice A zs.length c)) (hA : Row tInt w (Old w) A zs) :
    CallsIn Fence.wide n Tryz.prog 110 #[.func (.func 112) #[] #[.pointer (some ⟨Bs, 0, none⟩)]] w fun e W' => ∃ v, e = .returned v ∧ W'.ownsRow w.heap.size 3 1 v zs.length (zs.map (Value.int .i64)) ∧ Below w.heap.size w W' := by
  have h1 : 1 ≤ n := by omega
  have HC := hide (appendVals_in (n - 1) (by omega) Bs zs A c hl w hBs hc hA)
  clear hc hA
  refine callsIn_of_wp Tryz.func110 rfl trivial ?_ rfl
  simp only [Tryz.ntmps110, List.size_toArray, List.length_cons, List.length_nil, Nat.reduceAdd, Nat.reduceSub, Array.replicate_succ, Array.replicate_zero, List.push_toArray, List.append_toArray, List.nil_append, List.cons_append]
  have hfS : Fence.wide.fn 137 := trivial
  gi_wp2_with (gi_at_call 137; refine HC.out.mono ?_; rintro e w' ⟨v, rfl, hrow, hb⟩)
  go_ret
  exact ⟨v, rfl, hrow, hb⟩
open Go.Shelf

def sortRen : Ren := ⟨fun | 5 => 111 | 8 => 139 | 7 => 138 | 19 => 161 | 20 => 162 | 10 => 152 | 11 => 153 | 12 => 154 | 13 => 155 | 14 => 156 | 15 => 157 | 16 => 158 | 17 => 159 | 18 => 160 | 30 => 175 | 31 => 176 | 32 => 177 | 33 => 178 | 34 => 179 | 35 => 174 | 40 => 184 | n => n, fun | 23 => 23 | 25 => 3 | 3 => 3 | 32 => 103 | 22 => 23 | 0 => 0 | 44 => 169 | 46 => 171 | 4 => 4 | 36 => 163 | 35 => 162 | 41 => 137 | 5 => 5 | 9 => 9 | 53 => 184 | 57 => 188 | 63 => 193 | 64 => 194 | n => n, fun n => n⟩
set_option maxRecDepth 100000 in
theorem sortLays : SlLaysM.n5 Tryz.prog sortRen where
  mixed := by kernel_rfl
  f5 := ⟨ "slices.Sort[[]int,int]", by decide, Tryz.func111.trans (congrArg some (by kernel_rfl))⟩
  f7 := ⟨ "slices.pdqsortOrdered[int]", by decide, Tryz.func138.trans (congrArg some (by kernel_rfl))⟩
  f8 := Tryz.func139.trans (congrArg some (by kernel_rfl))
  f10 := ⟨ "slices.insertionSortOrdered[int]", by decide, Tryz.func152.trans (congrArg some (by kernel_rfl))⟩
  f11 := ⟨ "slices.heapSortOrdered[int]", by decide, Tryz.func153.trans (congrArg some (by kernel_rfl))⟩
  f12 := ⟨ "slices.breakPatternsOrdered[int]", by decide, Tryz.func154.trans (congrArg some (by kernel_rfl))⟩
  f13 := ⟨ "slices.choosePivotOrdered[int]", by decide, Tryz.func155.trans (congrArg some (by kernel_rfl))⟩
  f14 := ⟨ "slices.reverseRangeOrdered[int]", by decide, Tryz.func156.trans (congrArg some (by kernel_rfl))⟩
  f15 := ⟨ "slices.partialInsertionSortOrdered[int]", by decide, Tryz.func157.trans (congrArg some (by kernel_rfl))⟩
  f16 := ⟨ "cmp.Less[int]", by decide, Tryz.func158.trans (congrArg some (by kernel_rfl))⟩
  f17 := ⟨ "slices.partitionEqualOrdered[int]", by decide, Tryz.func159.trans (congrArg some (by kernel_rfl))⟩
  f18 := ⟨ "slices.partitionOrdered[int]", by decide, Tryz.func160.trans (congrArg some (by kernel_rfl))⟩
  f19 := Tryz.func161.trans (congrArg some (by kernel_rfl))
  f20 := Tryz.func162.trans (congrArg some (by kernel_rfl))
  f30 := ⟨ "slices.siftDownOrdered[int]", by decide, Tryz.func175.trans (congrArg some (by kernel_rfl))⟩
  f31 := Tryz.func176.trans (congrArg some (by kernel_rfl))
  f32 := Tryz.func177.trans (congrArg some (by kernel_rfl))
  f33 := ⟨ "slices.medianAdjacentOrdered[int]", by decide, Tryz.func178.trans (congrArg some (by kernel_rfl))⟩
  f34 := ⟨ "slices.medianOrdered[int]", by decide, Tryz.func179.trans (congrArg some (by kernel_rfl))⟩
  f35 := ⟨ "cmp.isNaN[int]", by decide, Tryz.func174.trans (congrArg some (by kernel_rfl))⟩
  f40 := ⟨ "slices.order2Ordered[int]", by decide, Tryz.func184.trans (congrArg some (by kernel_rfl))⟩
  t0 := Tryz.underlying0
  a0 := Tryz.isAgg0
  z0 := Tryz.sizeOf0
  v0 := Tryz.zeroValue0
  t3 := Tryz.underlying3
  a3 := Tryz.isAgg3
  z3 := Tryz.sizeOf3
  v3 := Tryz.zeroValue3
  t4 := Tryz.underlying4
  a4 := Tryz.isAgg4
  z4 := Tryz.sizeOf4
  v4 := Tryz.zeroValue4
  t5 := Tryz.underlying5
  a5 := Tryz.isAgg5
  z5 := Tryz.sizeOf5
  v5 := Tryz.zeroValue5
  t9 := Tryz.underlying9
  a9 := Tryz.isAgg9
  z9 := Tryz.sizeOf9
  v9 := Tryz.zeroValue9
  t22 := Tryz.underlying23
  a22 := Tryz.isAgg23
  z22 := Tryz.sizeOf23
  v22 := Tryz.zeroValue23
  t23 := Tryz.underlying23
  a23 := Tryz.isAgg23
  z23 := Tryz.sizeOf23
  v23 := Tryz.zeroValue23
  t25 := Tryz.underlying3
  a25 := Tryz.isAgg3
  z25 := Tryz.sizeOf3
  v25 := Tryz.zeroValue3
  t32 := Tryz.underlying103
  a32 := Tryz.isAgg103
  z32 := Tryz.sizeOf103
  v32 := Tryz.zeroValue103
  t35 := Tryz.underlying162
  a35 := Tryz.isAgg162
  z35 := Tryz.sizeOf162
  v35 := Tryz.zeroValue162
  t36 := Tryz.underlying163
  a36 := Tryz.isAgg163
  z36 := Tryz.sizeOf163
  v36 := Tryz.zeroValue163
  t41 := Tryz.underlying137
  a41 := Tryz.isAgg137
  z41 := Tryz.sizeOf137
  v41 := Tryz.zeroValue137
  t44 := Tryz.underlying169
  a44 := Tryz.isAgg169
  z44 := Tryz.sizeOf169
  v44 := Tryz.zeroValue169
  t46 := Tryz.underlying171
  a46 := Tryz.isAgg171
  z46 := Tryz.sizeOf171
  v46 := Tryz.zeroValue171
  t53 := Tryz.underlying184
  a53 := Tryz.isAgg184
  z53 := Tryz.sizeOf184
  v53 := Tryz.zeroValue184
  t57 := Tryz.underlying188
  a57 := Tryz.isAgg188
  z57 := Tryz.sizeOf188
  v57 := Tryz.zeroValue188
  t63 := Tryz.underlying193
  a63 := Tryz.isAgg193
  z63 := Tryz.sizeOf193
  v63 := Tryz.zeroValue193
  t64 := Tryz.underlying194
  a64 := Tryz.isAgg194
  z64 := Tryz.sizeOf194
  v64 := Tryz.zeroValue194
/-- The numbers of a list, ascending. -/
def srt (zs : List Int) : List Int := zs.mergeSort fun x y => decide (x ≤ y)
theorem srt_len (zs : List Int) : (srt zs).length = zs.length := List.length_mergeSort _
theorem srt_perm (zs : List Int) : (srt zs).Perm zs := List.mergeSort_perm _ _
theorem own_of_row {e : TypeId} {base : Nat} {w : World} {zs : List Int} {v : Value} (h : w.ownsRow base e 1 v zs.length (zs.map (Value.int .i64))) : Own tInt e w (fun b => base ≤ b ∧ Old w b) zs v := by
  rcases h.2 with ⟨rfl, h0⟩ | ⟨g, cap, cur, rfl, hb, hg, r1, r2, r3, r4⟩
  · exact .inl ⟨rfl, List.eq_nil_of_length_eq_zero h0⟩
  · have hB : Blk w g e cur := hg
    refine .inr ⟨g, cap, cur, fun _ => False, rfl, ⟨hb, hB.lt⟩, hB, r1, r2, r3, fun b h => h.elim, fun k hk => ⟨[.int .i64 zs[k]], rfl, fun j u hu => ?_⟩⟩
    obtain ⟨hj, rfl⟩ := List.getElem?_eq_some_iff.1 hu
    obtain rfl : j = 0 := by simpa using hj
    have h1 : (cur.toList.take (zs.length * 1))[k]? = (zs.map (Value.int .i64))[k]? := by rw [r4]
    rw [Nat.mul_one, List.getElem?_take_of_lt hk, List.getElem?_map, List.getElem?_eq_getElem hk] at h1
    rw [hB.cell]
    show cur[0 + k * 1 + 0]? = _
    rw [show 0 + k * 1 + 0 = k by omega]
    simpa using h1
set_option maxRecDepth 100000 in
set_option maxHeartbeats 2000000 in
theorem sorted_vals (Bs : Nat) (zs : List Int) (A : Option Addr) (c : Nat) (hl : zs.length ≤ 1048576) (w : World) (hBs : Bs < w.heap.size)
    (hc : w.cell? ⟨Bs, 0, none⟩ = some (.slice A zs.length c)) (hA : Row tInt w (Old w) A zs) :
    Calls Tryz.prog 68 #[.func (.func 112) #[] #[.pointer (some ⟨Bs, 0, none⟩)]] w fun e W' => ∃ v, e = .returned v ∧ Own tInt 3 W' (New w W') (srt zs) v ∧ Below w.heap.size w W' := by
  refine (callsIn_wide (n := 5)).1 ?_
  have h1 : 1 ≤ 5 := by omega
  have HC := hide (collectVals_in 4 (by omega) Bs zs A c hl w hBs hc hA)
  clear hc hA
  refine callsIn_of_wp Tryz.func68 rfl trivial ?_ rfl
  simp only [Tryz.ntmps68, List.size_toArray, List.length_cons, List.length_nil, Nat.reduceAdd, Nat.reduceSub, Array.replicate_succ, Array.replicate_zero, List.push_toArray, List.append_toArray, List.nil_append, List.cons_append]
  have hfC : Fence.wide.fn 110 := trivial
  have hfS : Fence.wide.fn 111 := trivial
  gi_wp2_with (gi_at_call 110; refine HC.out.mono ?_; rintro e W ⟨v, rfl, hrow, hb⟩)
  rcases hrow.2 with ⟨rfl, hz⟩ | ⟨gb, cap, cur, rfl, hbase, hgb, r1, r2, r3, r4⟩
  · have hzs : zs = [] := List.eq_nil_of_length_eq_zero hz
    have cN : CallsIn Fence.wide 4 Tryz.prog 111 #[.slice none 0 0] W fun e w' => e = .returned (.tuple #[]) ∧ w' = W := callsIn_wide.2 (AnyM.slices_Sort_int_none sortLays none 0 W)
    gi_wp2_with (gi_at_call 111; refine cN.mono ?_; rintro e w' ⟨rfl, rfl⟩)
    go_ret
    exact ⟨_, rfl, by rw [hzs]; exact .inl ⟨rfl, by simp [srt]⟩, hb⟩
  · have hH : Holds encZ W gb 0 zs.toArray := holds_of_block_i hgb (by simpa using r4)
    have hgl : gb < W.heap.size := (Array.getElem?_eq_some_iff.1 hgb).1
    have cS : CallsIn Fence.wide 4 Tryz.prog 111 #[.slice (some ⟨gb, 0, none⟩) zs.length cap] W fun e w' => e = .returned (.tuple #[]) ∧ ∃ k os, w' = grow (putRow encZ (Sort.ahead W k) gb 0 (srt zs).toArray) os := callsIn_wide.2 (AnyM.slices_Sort_int sortLays gb 0 cap zs W hH hgl (by omega))
    have hq : zs.length ≤ 9223372036854775807 := by omega
    gi_wp2_with (gi_at_call 111; refine cS.mono ?_; rintro e w' ⟨rfl, nn, os, rfl⟩)
    go_ret
    have hR := ownsRow_sorted_i (n := nn) (os := os) (ts := srt zs) (srt_len zs) hbase hgb r1 r2 r3
    refine ⟨_, rfl, own_of_row (zs := srt zs) ?_, hb.grown (grownBy_sorted_i _) hb.size (fun j hj => by cases hj; exact hbase)⟩
    rw [srt_len]
    exact hR
def sameB (a b : List Int) : Bool := b.all (fun d => a.count d == 1) && decide (a.length = b.length)
theorem same_perm : ∀ (b a : List Int), b.Nodup → (∀ d ∈ b, a.count d = 1) → a.length = b.length → a.Perm b
  | [], a, _, _, hl => by
    have : a = [] := List.eq_nil_of_length_eq_zero hl
    subst this
    exact .refl _
  | d :: b, a, hn, hc, hl => by
    have hd : d ∈ a := List.count_pos_iff.1 (by rw [hc d (List.mem_cons_self)]; omega)
    have hp := List.perm_cons_erase hd
    have hn' := List.nodup_cons.1 hn
    have h2 := same_perm b (a.erase d) hn'.2 (fun e he => by
      rw [List.count_erase_of_ne (by rintro rfl; exact hn'.1 he)]
      exact hc e (List.mem_cons_of_mem _ he)) (by rw [List.length_erase_of_mem hd, hl]; simp)
    exact hp.trans (h2.cons d)
theorem same_iff {a b : List Int} (hn : b.Nodup) : sameB a b = true ↔ a.Perm b := by
  unfold sameB
  rw [Bool.and_eq_true, decide_eq_true_iff, List.all_eq_true]
  refine ⟨fun ⟨h1, h2⟩ => same_perm b a hn (fun d hd => by simpa using h1 d hd) h2, fun hp => ⟨fun d hd => ?_, hp.length_eq⟩⟩
  rw [hp.count_eq, hn.count, if_pos hd]
  rfl
theorem count_take7 (l : List Int) (n : Int) (k : Nat) (hk : k < l.length) : (l.take (k + 1)).count n = (l.take k).count n + (if l[k] = n then 1 else 0) := by
  rw [List.take_succ_eq_append_getElem hk, List.count_append]
  congr 1
  split
  · rename_i h; rw [h]; simp
  · rename_i h; exact List.count_eq_zero.2 (by simp; exact fun e => h e.symm)
theorem same_stop {a b : List Int} (k : Nat) (hk : k < b.length) (h : (a.count b[k] == 1) = false) : sameB a b = false := by
  unfold sameB
  rw [show b.all (fun d => a.count d == 1) = false from List.all_eq_false.2 ⟨b[k], List.getElem_mem hk, by simpa using h⟩]
  rfl
set_option maxRecDepth 10000 in
set_option maxHeartbeats 2000000 in
theorem specSame (a b : List Int) (A B : Option Addr) (c d : Nat) (w : World) (ha : a.length ≤ maxLen) (hb : b.length ≤ maxLen) (hA : Row tInt w (Old w) A a) (hB : Row tInt w (Old w) B b) :
    Calls Tryz.prog 53 #[.slice A a.length c, .slice B b.length d] w fun e w' => e = .returned (.bool (sameB a b)) ∧ Below w.heap.size w w' := by
  have hqa : a.length ≤ 9223372036854775807 := by simpa [maxLen] using ha
  have hqb : b.length ≤ 9223372036854775807 := by simpa [maxLen] using hb
  have HA := hide hA; have HB := hide hB
  have HSm := hide (show sameB a b = (b.all (fun d => a.count d == 1) && decide (a.length = b.length)) from rfl)
  clear hA hB ha hb
  go_enter Tryz.func53, Tryz.ntmps53
  go_wp2_with fail
  go_loopw [5, 6, 7] (fun i _ _ wr => ∃ k : Nat, k ≤ b.length ∧ i = .int .i64 k ∧ Hid ((b.take k).all (fun d => a.count d == 1) = true) ∧ Hid (Below w.heap.size w wr)) (fun i _ _ _ => b.length - (intOf i).toNat)
  case atStart => exact ⟨0, Nat.zero_le _, rfl, rfl, Below.refl _ _⟩
  case round =>
    obtain ⟨k, hk, rfl, hN, hbw⟩ := hrel
    have HN := hide hN.out; have Hb := hide hbw.out
    clear hN hbw
    by_cases hlt : k < b.length
    · have HTk := hide (show (b.take (k + 1)).all (fun d => a.count d == 1) = (a.count b[k] == 1) by rw [List.take_succ_eq_append_getElem hlt, List.all_append, HN.out]; simp)
      have HSt := hide (same_stop (a := a) k hlt)
      obtain ⟨bb, offb, rfl, hbSb, _⟩ := at_Int HB.out Hb.out hlt
      have HCell := hide (fun (W : World) (hW : Below w.heap.size w W) => at_Int HB.out hW hlt)
      generalize hy : b[k] = y at HTk HSt HCell
      have HY := hide hy
      clear hy
      go_wp2_with fail
      go_loopw [6, 7] (fun m j wr2 => ∃ (l q : Nat), l ≤ a.length ∧ j = .int .i64 l ∧ m = .int .i64 q ∧ Hid (q = (a.take l).count y) ∧ q ≤ l ∧ Hid (Below w.heap.size w wr2)) (fun _ j _ => a.length - (intOf j).toNat)
      case atStart => exact ⟨0, 0, Nat.zero_le _, rfl, rfl, by simp [Hid], Nat.le_refl _, Hb.out⟩
      case round =>
        obtain ⟨l, q, hl, rfl, rfl, hq, hql, hbw⟩ := hrel
        have Hq := hide hq.out; have Hb2 := hide hbw.out
        clear hq hbw
        by_cases hlt2 : l < a.length
        · obtain ⟨ba, offa, rfl, hbSa, c0⟩ := at_Int HA.out Hb2.out hlt2
          obtain ⟨b', off', hBe, _, d0⟩ := HCell.out _ Hb2.out
          obtain ⟨rfl, rfl⟩ : bb = b' ∧ offb = off' := by simpa using hBe
          have HS := hide (count_take7 a y l hlt2)
          clear hBe
          generalize a[l] = x at c0 HS
          cases he : (x == y) with
          | true =>
            have HS2 := hide (show q + 1 = (a.take (l + 1)).count y by rw [HS.out, if_pos (by simpa using he), Hq.out])
            clear HS
            go_wp2_with fail
            go_quiet (fail)
            go_wp2_with fail
            go_roundw
            case rel => exact ⟨l + 1, q + 1, by omega, by go_num, by go_num, HS2.out, by omega, below_drewN Hb2.out _⟩
            case measure => simp [intOf]; omega
          | false =>
            have HS2 := hide (show q = (a.take (l + 1)).count y by rw [HS.out, if_neg (by simpa using he), ← Hq.out]; rfl)
            clear HS
            go_wp2_with fail
            go_quiet (fail)
            go_wp2_with fail
            go_roundw
            case rel => exact ⟨l + 1, q, by omega, by go_num, rfl, HS2.out, by omega, below_drewN Hb2.out _⟩
            case measure => simp [intOf]; omega
        · obtain rfl : l = a.length := by omega
          have HQ := hide (show q = a.count y by have := Hq.out; rwa [List.take_length] at this)
          clear Hq
          rw [← HQ.out] at HTk HSt
          cases hq1 : (q == 1) with
          | true =>
            have hqi : ((q : Int) != 1) = false := by rw [beq_iff_eq] at hq1; rw [bne_eq_false_iff_eq]; omega
            have HT2 := hide (HTk.out.trans hq1)
            clear hq1 HTk HSt
            go_wp2_with fail
            go_roundw
            case rel => exact ⟨k + 1, by omega, by go_num, HT2.out, Hb2.out⟩
            case measure => simp [intOf]; omega
          | false =>
            have hqi : ((q : Int) != 1) = true := by rw [beq_eq_false_iff_ne] at hq1; rw [bne_iff_ne]; omega
            have HF := hide (HSt.out hq1)
            clear hq1 HTk HSt
            go_wp2_with fail
            go_ret
            exact ⟨ret_bool HF.out.symm, Hb2.out⟩
    · obtain rfl : k = b.length := by omega
      have HT := hide (show sameB a b = ((a.length : Int) == (b.length : Int)) by
        have h9 := HN.out
        rw [List.take_length] at h9
        rw [HSm.out, h9, Bool.true_and, Bool.eq_iff_iff, decide_eq_true_iff, beq_iff_eq]
        omega)
      clear HN HSm
      go_wp2_with fail
      go_ret
      exact ⟨ret_bool HT.out.symm, Hb.out⟩
theorem srt_sorted (zs : List Int) : (srt zs).Pairwise (· ≤ ·) :=
  (List.pairwise_mergeSort (le := fun x y : Int => decide (x ≤ y)) (fun a b c h1 h2 => by simp at *; omega) (fun a b => by simp; omega) zs).imp (fun h => by simpa using h)
theorem srt_perm_eq {a b : List Int} (h : a.Perm b) : srt a = srt b :=
  List.Perm.eq_of_pairwise (le := (· ≤ ·)) (fun x y _ _ h1 h2 => by omega) (srt_sorted a) (srt_sorted b) ((srt_perm a).trans (h.trans (srt_perm b).symm))
/-- Sorted lists are one just where one is the other in some order. -/
theorem srt_eq {a b : List Int} : srt a = srt b ↔ a.Perm b :=
  ⟨fun h => (srt_perm a).symm.trans (by rw [h]; exact srt_perm b), srt_perm_eq⟩
theorem srt_self {b : List Int} (hb : b.Pairwise (· ≤ ·)) : srt b = b :=
  List.mergeSort_of_pairwise (hb.imp (fun h => by simpa using h))
theorem doneI_up (h : List Txn) : ∀ k, (doneI h k).Pairwise (· ≤ ·)
  | 0 => List.Pairwise.nil
  | k + 1 => by
    have h1 := doneI_up h k
    by_cases hk : k < h.length
    · rw [doneI_succ h k hk, List.pairwise_append]
      refine ⟨h1, ?_, fun a ha b hb => ?_⟩
      · split
        · exact List.pairwise_singleton _ _
        · exact List.Pairwise.nil
      · have := (doneI_mem h k a ha).2
        split at hb
        · simp only [List.mem_singleton] at hb; omega
        · cases hb
    · rw [show doneI h (k + 1) = doneI h k by rw [doneI, List.getElem?_eq_none (by omega)]; simp]
      exact h1
theorem doneL_up (h : List Txn) : (doneL h).Pairwise (· ≤ ·) := doneI_up h _
/-- What the program asks is what the reference asks. -/
theorem srt_done (h : List Txn) (ns : List Int) : decide (srt ns = doneL h) = sameB ns (doneL h) := by
  rw [Bool.eq_iff_iff, decide_eq_true_iff, same_iff (show (doneL h).Nodup from doneI_nodup h _)]
  rw [← srt_eq, srt_self (doneL_up h)]
/-- Nothing but draws. -/
def Drew (w w' : World) : Prop := ∃ n, w' = w.drewN n
theorem Drew.refl (w : World) : Drew w w := ⟨0, rfl⟩
theorem Drew.step {w w' : World} (h : Drew w w') (m : Nat) : Drew w (w'.drewN m) := by
  obtain ⟨n, rfl⟩ := h
  exact ⟨n + m, World.drewN_drewN _ _ _⟩
theorem Drew.below {w w' : World} (h : Drew w w') : Below w.heap.size w w' := by
  obtain ⟨n, rfl⟩ := h
  exact below_drewN (Below.refl _ _) n
theorem Drew.trans {a b c : World} (h : Drew a b) (k : Drew b c) : Drew a c := by
  obtain ⟨m, rfl⟩ := k
  exact h.step m

set_option maxRecDepth 10000 in
set_option maxHeartbeats 400000 in
theorem equal_Int (xs ys : List Int) (A B : Option Addr) (c d : Nat) (w : World) (hl : xs.length ≤ maxLen) (hl2 : ys.length ≤ maxLen) (hA : Row tInt w (Old w) A xs) (hB : Row tInt w (Old w) B ys) :
    Calls Tryz.prog 67 #[.slice A xs.length c, .slice B ys.length d] w fun e w' => e = .returned (.bool (decide (xs = ys))) ∧ Drew w w' := by
  unfold maxLen at hl hl2
  by_cases hn : xs.length = ys.length
  · have hq : ((xs.length : Int) != (ys.length : Int)) = false := by simp [hn]
    have HN := hide hn
    have hl3 : xs.length ≤ ys.length := by omega
    rw [← hn]
    clear hn hq hl2
    go_enter Tryz.func67, Tryz.ntmps67
    go_wp2
    go_loopw [13] (fun i wr => ∃ k : Nat, k ≤ xs.length ∧ i = .int .i64 k ∧ Hid (∀ j, j < k → xs[j]? = ys[j]?) ∧ Hid (Drew w wr)) (fun i _ => xs.length - (intOf i).toNat)
    case atStart => exact ⟨0, Nat.zero_le _, rfl, (fun j h => absurd h (by omega)), Drew.refl _⟩
    case round =>
      obtain ⟨k, hk, rfl, hI, hD⟩ := hrel
      by_cases hlt : k < xs.length
      · obtain ⟨b, off, rfl, hbS, c0⟩ := at_Int hA hD.out.below hlt
        obtain ⟨b2, off2, rfl, hbS2, d0⟩ := at_Int hB hD.out.below (show k < ys.length by omega)
        clear hA hB
        by_cases he : xs[k] = ys[k]'(by omega)
        · have hx : xs[k]? = ys[k]? := by rw [List.getElem?_eq_getElem hlt, List.getElem?_eq_getElem (by omega), he]
          have HX := hide hx
          have hne : (xs[k] != ys[k]'(by omega)) = false := by simpa using he
          clear hx he
          go_wp2
          go_quiet (fail)
          go_wp2
          go_roundw
          case rel => exact ⟨k + 1, by omega, by go_num, (fun j hj => by rcases Nat.lt_succ_iff_lt_or_eq.1 hj with h | rfl; exact hI.out j h; exact HX.out), hD.out.step _⟩
          case measure => simp [intOf]; omega
        · have HE := hide (show decide (xs = ys) = false by
            rw [decide_eq_false_iff_not]; intro h; subst h; exact he rfl)
          have hne : (xs[k] != ys[k]'(by omega)) = true := by simpa using he
          clear he
          go_wp2
          go_quiet (fail)
          go_wp2
          go_ret
          exact ⟨ret_bool HE.out.symm, hD.out.step _⟩
      · obtain rfl : k = xs.length := by omega
        have HE := hide (show decide (xs = ys) = true by
          rw [decide_eq_true_iff]
          apply List.ext_getElem?
          intro j
          rcases Nat.lt_or_ge j xs.length with h | h
          · exact hI.out j h
          · rw [List.getElem?_eq_none h, List.getElem?_eq_none (by have := HN.out; omega)])
        clear hI hA hB
        go_wp2
        go_ret
        exact ⟨ret_bool HE.out.symm, hD.out⟩
  · have hq : ((xs.length : Int) != (ys.length : Int)) = true := by simp; omega
    have HE := hide (show decide (xs = ys) = false by rw [decide_eq_false_iff_not]; intro h; exact hn (by rw [h]))
    clear hA hB
    go_enter Tryz.func67, Tryz.ntmps67
    go_wp2
    go_ret
    exact ⟨ret_bool HE.out.symm, Drew.refl _⟩
def ordK (h : List Txn) (os : List (List Int)) (n : Nat) : Bool := (List.range n).all fun k => sameB (os.getD k []) (instL h (k : Int))
def ordB (h : List Txn) (os : List (List Int)) : Bool := histV h && (decide (os.length = 3) && ordK h os 3)
theorem ordK_succ (h : List Txn) (os : List (List Int)) (n : Nat) : ordK h os (n + 1) = (ordK h os n && sameB (os.getD n []) (instL h (n : Int))) := by
  unfold ordK
  rw [List.range_succ, List.all_append]
  simp
theorem ordK_stop {h : List Txn} {os : List (List Int)} {k n : Nat} (hk : k < n) (hs : sameB (os.getD k []) (instL h (k : Int)) = false) : ordK h os n = false := by
  unfold ordK
  rw [List.all_eq_false]
  exact ⟨k, List.mem_range.2 hk, by rw [hs]; simp⟩
theorem getD_at {os : List (List Int)} {k : Nat} (hk : k < os.length) : os.getD k [] = os[k] := by
  rw [List.getD_eq_getElem?_getD, List.getElem?_eq_getElem hk]; rfl
theorem srt_same {h : List Txn} (hv : histV h = true) (a : List Int) (key : Int) : decide (srt a = srt (instL h key)) = sameB a (instL h key) := by
  rw [Bool.eq_iff_iff, decide_eq_true_iff, same_iff (instL_nodup hv key), srt_eq]
set_option maxRecDepth 10000 in
set_option maxHeartbeats 4000000 in
theorem implOrdersValid (xs : List Txn) (os : List (List Int)) (A B : Option Addr) (c d : Nat) (w : World) (hm : xs.length ≤ maxLen) (hmo : os.length ≤ 1048576) (hsz : ∀ o ∈ os, o.length ≤ 1048576) (hA : Row tTxn w (Old w) A xs) (hB : Row (tSlice tInt) w (Old w) B os) :
    Calls Tryz.prog 88 #[.slice A xs.length c, .slice B os.length d] w fun e w' => e = .returned (.bool (ordB xs os)) ∧ Below w.heap.size w w' := by
  have HC := hide (implHistoryValid xs A c w hm hA)
  have HSr := hide (show ordB xs os = (histV xs && (decide (os.length = 3) && ordK xs os 3)) from rfl)
  cases hv : histV xs with
  | false =>
    rw [hv] at HC HSr
    clear hv hA hB
    go_enter Tryz.func88, Tryz.ntmps88
    go_wp2_with (go_at_call 66; refine HC.out.mono ?_; rintro e w1 ⟨rfl, hb1⟩; have HB1 := hide hb1; clear hb1)
    go_ret
    exact ⟨ret_bool HSr.out.symm, HB1.out⟩
  | true =>
    by_cases hl : os.length = 3
    · have hx6 : xs.length ≤ 6 := (histV_parts hv).1
      have hVm := fun (a : List Int) (key : Int) => srt_same hv a key
      have HIn := hide (fun (W : World) (key : Int) (hky : key = 0 ∨ key = 1 ∨ key = 2) (hb : Below w.heap.size w W) => implInstalled xs key A c W hv hky (hA.old hb))
      rw [hv] at HC HSr
      have HSr := hide (show ordB xs os = ordK xs os 3 by rw [HSr.out, decide_eq_true hl]; rfl)
      have hli : ((os.length : Int) != 3) = false := by rw [bne_eq_false_iff_eq]; omega
      have HVl := hide (fun (W : World) (A1 : Option Addr) (n d1 : Nat) => (callsIn_wide (n := 1)).1 (vals_in 1 A1 n d1 W))
      have HSo := hide (fun (W : World) (zs : List Int) (A1 : Option Addr) (d1 : Nat) (hz : zs.length ≤ 1048576) (h1 : Row tInt W (Old W) A1 zs) => sorted_vals W.heap.size zs A1 d1 hz (W.alloc (.cells #[.slice A1 zs.length d1] 23)) (by simp) (Boxed.new W _ _).cell (h1.old ((Below.refl _ W).alloc (Nat.le_refl _) _)))
      have HVm := hide hVm
      have HB := hide hB; have HSz := hide hsz
      have hil := fun key : Int => instV_len xs key xs.length
      have HIl := hide hil
      clear hv hA hB hVm hil hsz
      go_enter Tryz.func88, Tryz.ntmps88
      go_wp2_with (go_at_call 66; refine HC.out.mono ?_; rintro e w1 ⟨rfl, hb1⟩; have HB1 := hide hb1; clear hb1)
      have hq3 : os.length ≤ 9223372036854775807 := by omega
      go_loopw [5, 6, 7, 8, 19] (fun _ _ _ _ i wr => ∃ k : Nat, k ≤ os.length ∧ i = .int .i64 k ∧ Hid (ordK xs os k = true) ∧ Hid (Below w.heap.size w wr)) (fun _ _ _ _ i _ => os.length - (intOf i).toNat)
      case atStart => exact ⟨0, Nat.zero_le _, rfl, rfl, HB1.out⟩
      case round =>
        obtain ⟨k, hk, rfl, hK, hb⟩ := hrel
        have HK := hide hK.out; have HBr := hide hb.out
        clear hK hb
        by_cases hlt : k < os.length
        · obtain ⟨b, off, A2, c2, rfl, hbS, d0, hs1, hs2, hs3⟩ := at_IntS HB.out HBr.out hlt
          have hol := HSz.out _ (List.getElem_mem hlt)
          have hkl := HIl.out (k : Int)
          rw [show instV xs (k : Int) xs.length = instL xs (k : Int) from rfl] at hkl
          have HSu := hide (ordK_succ xs os k)
          have HSt := hide (ordK_stop (h := xs) (os := os) (k := k) (n := 3) (by omega))
          rw [getD_at hlt] at HSu HSt
          have HVk := hide (HVm.out os[k] (k : Int))
          have HI1 := hide (fun (W : World) (hb : Below w.heap.size w W) => HIn.out W (k : Int) (by omega) hb)
          have HS1 := hide (HSo.out wr os[k] A2 c2 hol hs3)
          generalize os[k] = O at d0 hs1 hs3 hol HSu HSt HVk HS1
          generalize instL xs (k : Int) = I at hkl HSu HSt HVk HI1
          have hoq : (srt O).length ≤ maxLen := by rw [srt_len]; simp only [maxLen]; omega
          have hiq : (srt I).length ≤ maxLen := by rw [srt_len]; simp only [maxLen]; omega
          have HEq := hide (fun (W : World) (A1 A2 : Option Addr) (c1 c2 : Nat) (h1 : Row tInt W (Old W) A1 (srt O)) (h2 : Row tInt W (Old W) A2 (srt I)) => equal_Int (srt O) (srt I) A1 A2 c1 c2 W hoq hiq h1 h2)
          rw [HVk.out] at HEq
          have tok1 : True := trivial
          have hI6 : I.length ≤ 1048576 := by omega
          cases hs : sameB O I with
          | false =>
            rw [hs] at HEq
            have HF := hide (show ordB xs os = false by rw [HSr.out]; exact HSt.out hs)
            clear hs HSu HSt HVk
            go_wp2_with (first
              | (have _t := tok1; go_at_call 68; refine HS1.out.mono ?_; rintro e w3 ⟨v3, rfl, hO3, hb3⟩; obtain ⟨A3, c3, rfl, h31, h32, h33⟩ := hO3.sl; have HR3 := hide (h33.mono (S' := Old w3) (fun b h => h.2) (fun _ _ => rfl)); have HB3 := hide ((HBr.out.alloc HBr.out.size (.cells #[.slice A2 O.length c2] 23)).trans (hb3.mono (by have := HBr.out.size; simp; omega))); clear hb3 hO3 h33; clear tok1)
              | (go_at_call 124; refine (HI1.out _ HB3.out).mono ?_; rintro e w4 ⟨v4, rfl, hO4, hb4⟩; obtain ⟨A4, c4, rfl, h41, h42, h43⟩ := hO4.sl; have HR4 := hide (h43.mono (S' := Old w4) (fun b h => h.2) (fun _ _ => rfl)); have HR34 := hide (HR3.out.old hb4); have HB4 := hide (HB3.out.trans (hb4.mono HB3.out.size)); clear hb4 hO4 h43)
              | (go_at_call 68; refine (HSo.out w4 I A4 c4 hI6 HR4.out).mono ?_; rintro e w6 ⟨v6, rfl, hO6, hb6⟩; obtain ⟨A6, c6, rfl, h61, h62, h63⟩ := hO6.sl; have HR6 := hide (h63.mono (S' := Old w6) (fun b h => h.2) (fun _ _ => rfl)); have HR36 := hide ((HR34.out.old ((Below.refl _ w4).alloc (Nat.le_refl _) _)).old hb6); have HB6 := hide ((HB4.out.alloc HB4.out.size (.cells #[.slice A4 I.length c4] 23)).trans (hb6.mono (by have := HB4.out.size; simp; omega))); clear hb6 hO6 h63)
              | (go_at_call 69; refine (HVl.out _ _ _ _).mono ?_; rintro e w2 ⟨rfl, rfl⟩)
              | (go_at_call 67; refine (HEq.out _ _ _ _ _ HR36.out HR6.out).mono ?_; rintro e w7 ⟨rfl, hb7⟩; have HB7 := hide (HB6.out.trans (hb7.below.mono HB6.out.size)); clear hb7))
            go_ret
            exact ⟨ret_bool HF.out.symm, HB7.out⟩
          | true =>
            rw [hs] at HEq
            have HK2 := hide (show ordK xs os (k + 1) = true by rw [HSu.out, HK.out, hs]; rfl)
            clear hs HSu HSt HVk
            go_wp2_with (first
              | (have _t := tok1; go_at_call 68; refine HS1.out.mono ?_; rintro e w3 ⟨v3, rfl, hO3, hb3⟩; obtain ⟨A3, c3, rfl, h31, h32, h33⟩ := hO3.sl; have HR3 := hide (h33.mono (S' := Old w3) (fun b h => h.2) (fun _ _ => rfl)); have HB3 := hide ((HBr.out.alloc HBr.out.size (.cells #[.slice A2 O.length c2] 23)).trans (hb3.mono (by have := HBr.out.size; simp; omega))); clear hb3 hO3 h33; clear tok1)
              | (go_at_call 124; refine (HI1.out _ HB3.out).mono ?_; rintro e w4 ⟨v4, rfl, hO4, hb4⟩; obtain ⟨A4, c4, rfl, h41, h42, h43⟩ := hO4.sl; have HR4 := hide (h43.mono (S' := Old w4) (fun b h => h.2) (fun _ _ => rfl)); have HR34 := hide (HR3.out.old hb4); have HB4 := hide (HB3.out.trans (hb4.mono HB3.out.size)); clear hb4 hO4 h43)
              | (go_at_call 68; refine (HSo.out w4 I A4 c4 hI6 HR4.out).mono ?_; rintro e w6 ⟨v6, rfl, hO6, hb6⟩; obtain ⟨A6, c6, rfl, h61, h62, h63⟩ := hO6.sl; have HR6 := hide (h63.mono (S' := Old w6) (fun b h => h.2) (fun _ _ => rfl)); have HR36 := hide ((HR34.out.old ((Below.refl _ w4).alloc (Nat.le_refl _) _)).old hb6); have HB6 := hide ((HB4.out.alloc HB4.out.size (.cells #[.slice A4 I.length c4] 23)).trans (hb6.mono (by have := HB4.out.size; simp; omega))); clear hb6 hO6 h63)
              | (go_at_call 69; refine (HVl.out _ _ _ _).mono ?_; rintro e w2 ⟨rfl, rfl⟩)
              | (go_at_call 67; refine (HEq.out _ _ _ _ _ HR36.out HR6.out).mono ?_; rintro e w7 ⟨rfl, hb7⟩; have HB7 := hide (HB6.out.trans (hb7.below.mono HB6.out.size)); clear hb7))
            go_roundw
            case rel => exact ⟨k + 1, by omega, by go_num, HK2.out, HB7.out⟩
            case measure => simp [intOf]; omega
        · obtain rfl : k = os.length := by omega
          have HF := hide (show ordB xs os = true by rw [HSr.out, ← hl]; exact HK.out)
          go_wp2_with fail
          go_ret
          exact ⟨ret_bool HF.out.symm, HBr.out⟩
    · rw [hv] at HC HSr
      have HSr := hide (show ordB xs os = false by rw [HSr.out, decide_eq_false hl]; rfl)
      have hli : ((os.length : Int) != 3) = true := by rw [bne_iff_ne]; omega
      clear hv hA hB hl
      go_enter Tryz.func88, Tryz.ntmps88
      go_wp2_with (go_at_call 66; refine HC.out.mono ?_; rintro e w1 ⟨rfl, hb1⟩; have HB1 := hide hb1; clear hb1)
      go_ret
      exact ⟨ret_bool HSr.out.symm, HB1.out⟩
set_option maxRecDepth 10000 in
set_option maxHeartbeats 4000000 in
theorem specOrdersValid (xs : List Txn) (os : List (List Int)) (A B : Option Addr) (c d : Nat) (w : World) (hm : xs.length ≤ maxLen) (ht : opsN xs ≤ 1048576) (hmo : os.length ≤ 1048576) (hsz : ∀ o ∈ os, o.length ≤ 1048576) (hA : Row tTxn w (Old w) A xs) (hB : Row (tSlice tInt) w (Old w) B os) :
    Calls Tryz.prog 61 #[.slice A xs.length c, .slice B os.length d] w fun e w' => e = .returned (.bool (ordB xs os)) ∧ Below w.heap.size w w' := by
  have HCv := hide (fun (W : World) (hb : Below w.heap.size w W) => specHistoryValid xs A c W hm (hA.old hb) ht)
  have HIn := hide (fun (W : World) (key : Int) (hky : key = 0 ∨ key = 1 ∨ key = 2) (hb : Below w.heap.size w W) => specInstalled xs key A c W hm ht hky (hA.old hb))
  have HIr := hide (fun (hv : histV xs = true) (key : Int) => (show insR xs key = instL xs key by unfold insR; rw [if_pos hv]))
  have HIl := hide (show ∀ key : Int, (insR xs key).length ≤ maxLen from fun key => by
    unfold insR
    split
    · exact Nat.le_trans (instV_len xs key xs.length) hm
    · simp)
  have HFf := hide (show histV xs = false → ordB xs os = false from fun h => by unfold ordB; rw [h]; rfl)
  have HFl := hide (show os.length ≠ 3 → ordB xs os = false from fun h => by unfold ordB; rw [decide_eq_false h]; simp)
  have HFk := hide (show ordK xs os 3 = false → ordB xs os = false from fun h => by unfold ordB; rw [h]; simp)
  have HTt := hide (show histV xs = true → os.length = 3 → ordK xs os 3 = true → ordB xs os = true from fun h1 h2 h3 => by unfold ordB; rw [h1, decide_eq_true h2, h3]; rfl)
  have hq3 : os.length ≤ 9223372036854775807 := by omega
  have HB := hide hB; have HSz := hide hsz
  clear hA hB hsz
  go_enter Tryz.func61, Tryz.ntmps61
  go_wp2_with fail
  go_loopw [5] (fun i wr => ∃ k : Nat, k ≤ 3 ∧ k ≤ os.length ∧ i = .int .i64 k ∧ Hid (histV xs = true → ordK xs os k = true) ∧ Hid (Below w.heap.size w wr)) (fun i _ => 3 - (intOf i).toNat)
  case atStart => exact ⟨0, by omega, Nat.zero_le _, rfl, fun _ => rfl, Below.refl _ _⟩
  case round =>
    obtain ⟨k, hk3, hk, rfl, hK, hb⟩ := hrel
    have HK := hide hK.out; have HBr := hide hb.out
    clear hK hb
    by_cases h3 : k < 3
    · have hd3 : decide ((k : Int) ≤ 2) = true := decide_eq_true (by omega)
      by_cases hlt : k < os.length
      · obtain ⟨b, off, A2, c2, hBe, hbS, d0, hs1, hs2, hs3⟩ := at_IntS HB.out HBr.out hlt
        subst hBe
        have hol := HSz.out _ (List.getElem_mem hlt)
        have HSu := hide (ordK_succ xs os k)
        have HSt := hide (ordK_stop (h := xs) (os := os) (k := k) (n := 3) h3)
        rw [getD_at hlt] at HSu HSt
        have HIk := hide (fun hv => HIr.out hv (k : Int))
        have hil := HIl.out (k : Int)
        have HI1 := hide (HIn.out wr.drew (k : Int) (by omega) HBr.out.drew)
        generalize os[k] = O at d0 hs1 hs3 hol HSu HSt
        generalize insR xs (k : Int) = I at HIk hil HI1
        have HSa := hide (fun (W : World) (A1 : Option Addr) (c1 : Nat) (hb : Below wr.heap.size wr W) (h2 : Row tInt W (Old W) A1 I) => specSame O I A2 A1 c2 c1 W (by simp only [maxLen]; omega) hil (hs3.old hb) h2)
        clear hs3
        have hbw : b < wr.heap.size := Nat.lt_of_lt_of_le hbS HBr.out.size
        cases hs : sameB O I with
        | false =>
          have HF := hide (show ordB xs os = false by
            cases hv : histV xs with
            | false => exact HFf.out hv
            | true => exact HFk.out (HSt.out (by rw [← HIk.out hv]; exact hs)))
          rw [hs] at HSa
          clear hs HSu HSt HIk
          go_upto_region 4 with (fail)
          go_region_held3 (fun V => V.cell? ⟨b, off + k, none⟩ = some (.slice A2 O.length c2))
            (first
              | ((try dsimp only); exact d0)
              | ((try dsimp only); exact d4)
              | ((try dsimp only); exact d5)
              | go_keep)
            ((first
              | (go_at_call 50; refine HI1.out.mono ?_; rintro e w4 ⟨v4, rfl, hO4, hb4⟩; obtain ⟨A4, c4, rfl, h41, h42, h43⟩ := hO4.sl; have HR4 := hide (h43.mono (S' := Old w4) (fun b h => h.2) (fun _ _ => rfl)); have HX4 := hide ((Below.refl _ wr).drew.trans hb4); have d4 := (hb4.cell (p := ⟨b, off + k, none⟩) hbw).trans d0; clear hb4 hO4 h43)
              | (go_at_call 53; refine (HSa.out _ _ _ HX4.out HR4.out).mono ?_; rintro e w5 ⟨rfl, hb5⟩; have HX5 := hide (HX4.out.trans (hb5.mono HX4.out.size)); have d5 := (hb5.cell (p := ⟨b, off + k, none⟩) (Nat.lt_of_lt_of_le hbw HX4.out.size)).trans d4; clear hb5)))
          go_wp2_with fail
          go_ret
          exact ⟨ret_bool HF.out.symm, HBr.out.trans (HX5.out.mono HBr.out.size)⟩
        | true =>
          have HK2 := hide (show histV xs = true → ordK xs os (k + 1) = true from fun hv => by rw [HSu.out, HK.out hv, ← HIk.out hv, hs]; rfl)
          rw [hs] at HSa
          clear hs HSu HSt HIk
          go_upto_region 4 with (fail)
          go_region_held3 (fun V => V.cell? ⟨b, off + k, none⟩ = some (.slice A2 O.length c2))
            (first
              | ((try dsimp only); exact d0)
              | ((try dsimp only); exact d4)
              | ((try dsimp only); exact d5)
              | go_keep)
            ((first
              | (go_at_call 50; refine HI1.out.mono ?_; rintro e w4 ⟨v4, rfl, hO4, hb4⟩; obtain ⟨A4, c4, rfl, h41, h42, h43⟩ := hO4.sl; have HR4 := hide (h43.mono (S' := Old w4) (fun b h => h.2) (fun _ _ => rfl)); have HX4 := hide ((Below.refl _ wr).drew.trans hb4); have d4 := (hb4.cell (p := ⟨b, off + k, none⟩) hbw).trans d0; clear hb4 hO4 h43)
              | (go_at_call 53; refine (HSa.out _ _ _ HX4.out HR4.out).mono ?_; rintro e w5 ⟨rfl, hb5⟩; have HX5 := hide (HX4.out.trans (hb5.mono HX4.out.size)); have d5 := (hb5.cell (p := ⟨b, off + k, none⟩) (Nat.lt_of_lt_of_le hbw HX4.out.size)).trans d4; clear hb5)))
          go_wp2_with fail
          go_roundw
          case rel => exact ⟨k + 1, by omega, by omega, by go_num, HK2.out, HBr.out.trans (HX5.out.mono HBr.out.size)⟩
          case measure => simp [intOf]; omega
      · have HCk := hide (HCv.out _ HBr.out)
        have hl3 : ((os.length : Int) == 3) = false := by rw [beq_eq_false_iff_ne]; omega
        have HF := hide (HFl.out (by omega))
        have hlk : decide ((k : Int) < (os.length : Int)) = false := decide_eq_false (by omega)
        cases hv : histV xs with
        | false =>
          rw [hv] at HCk
          clear hv
          go_wp2_with (go_at_call 49; refine HCk.out.mono ?_; rintro e w2 ⟨rfl, hb2⟩; have HB2 := hide (HBr.out.trans (hb2.mono HBr.out.size)); clear hb2)
          go_ret
          exact ⟨ret_bool HF.out.symm, HB2.out⟩
        | true =>
          rw [hv] at HCk
          clear hv
          go_wp2_with (go_at_call 49; refine HCk.out.mono ?_; rintro e w2 ⟨rfl, hb2⟩; have HB2 := hide (HBr.out.trans (hb2.mono HBr.out.size)); clear hb2)
          go_ret
          exact ⟨ret_bool HF.out.symm, HB2.out⟩
    · obtain rfl : k = 3 := by omega
      have HCk := hide (HCv.out _ HBr.out)
      cases hv : histV xs with
      | false =>
        have HF := hide (HFf.out hv)
        rw [hv] at HCk
        clear hv
        go_wp2_with (go_at_call 49; refine HCk.out.mono ?_; rintro e w2 ⟨rfl, hb2⟩; have HB2 := hide (HBr.out.trans (hb2.mono HBr.out.size)); clear hb2)
        go_ret
        exact ⟨ret_bool HF.out.symm, HB2.out⟩
      | true =>
        rw [hv] at HCk
        by_cases hl : os.length = 3
        · have hl3 : ((os.length : Int) == 3) = true := by rw [beq_iff_eq]; omega
          have HT := hide (HTt.out hv hl (HK.out hv))
          clear hv hl
          go_wp2_with (go_at_call 49; refine HCk.out.mono ?_; rintro e w2 ⟨rfl, hb2⟩; have HB2 := hide (HBr.out.trans (hb2.mono HBr.out.size)); clear hb2)
          go_ret
          exact ⟨ret_bool HT.out.symm, HB2.out⟩
        · have hl3 : ((os.length : Int) == 3) = false := by rw [beq_eq_false_iff_ne]; omega
          have HF := hide (HFl.out hl)
          clear hv hl
          go_wp2_with (go_at_call 49; refine HCk.out.mono ?_; rintro e w2 ⟨rfl, hb2⟩; have HB2 := hide (HBr.out.trans (hb2.mono HBr.out.size)); clear hb2)
          go_ret
          exact ⟨ret_bool HF.out.symm, HB2.out⟩
end Go.Proofs.YtjiobgfaohldhaaGreat
