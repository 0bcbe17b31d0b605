/- slices.Collect(slices.Values(x)) at ints: new memory that holds what x holds. The sort of the library at this program: its functions and types by number. Printed by laysort.py. slices.Sorted(slices.Values(x)) at ints: what x holds, sorted, in new memory. -/
import Derived.RangeFuncBox
import Derived.RangeFuncLeaves
import Derived.WalkKit
import Derived.OwnWalkIn
import Derived.TacticsInMore
import Derived.LoopNIn
import Derived.LoopIn
import Derived.Maps.AppendAt
import Derived.Test.YtaaagoppecnmmaaDoorPut
import Derived.Test.YtaaagoppecnmmaaDoorToA
import Derived.Shelf.SortM.Plain
import Derived.Shelf.SortM.SortNone
import Derived.Test.YtaaagoppecnmmaaDoorProg
import Derived.Lib.SlKeysI
namespace Go.Proofs.YtaaagoppecnmmaaDoor
open Go.Sort Go.Shelf Go.RowKit Go.Maps
set_option linter.unusedVariables false
set_option linter.unusedSimpArgs false

attribute [local go_sem] Oper.semAt_some

theorem vals_in (n : Nat) (a : Option Addr) (len cap : Nat) (w : World) :
    CallsIn Fence.wide n Tryd.prog 91 #[.slice a len cap] w fun e w' => e = .returned (.func (.func 142) #[] #[.pointer (some ⟨w.heap.size, 0, none⟩)]) ∧ w' = w.alloc (.cells #[.slice a len cap] 30) := by
  refine callsIn_of_wp Tryd.func91 rfl trivial ?_ rfl
  simp only [Tryd.ntmps91, List.size_toArray, List.length_cons, List.length_nil, Nat.reduceAdd, Nat.reduceSub, Array.replicate_succ, Array.replicate_zero, List.push_toArray, List.append_toArray, List.nil_append, List.cons_append]
  gi_wp2
  go_ret
  exact ⟨rfl, rfl⟩
set_option maxRecDepth 100000 in
set_option maxHeartbeats 2000000 in
/-- The closure that slices.Values hands back yields what the slice holds, in order. -/
theorem vals_stops (n : Nat) (hn : 1 ≤ n) (Bs n₀ : Nat) (zs : List Int) (A : Option Addr) (c : Nat) (hl : zs.length ≤ 1048576) (w : World) (hBs : Bs < w.heap.size) (hn₀ : n₀ ≤ w.heap.size)
    (hc : w.cell? ⟨Bs, 0, none⟩ = some (.slice A zs.length c)) (hA : Row tInt w (fun b => b < n₀) A zs) :
    SeqStopsK Fence.wide n Tryd.prog 142 #[.pointer (some ⟨Bs, 0, none⟩)] (fun x : Int => #[Value.int .i64 x]) (Below n₀) (fun ys => ys = zs) (fun pre => pre <+: zs) zs.length w := fun l J Jx W hW _ _ hY h0 => by
  have hc' := (hW.cell (p := ⟨Bs, 0, none⟩) hBs).trans hc
  have hq : zs.length ≤ 9223372036854775807 := by omega
  have hA' : Row tInt W (fun b => b < n₀) A zs := hA.mono (fun _ h => h) (fun b hb => hW.block b (Nat.lt_of_lt_of_le hb hn₀))
  clear hc hA
  refine callsIn_of_wp Tryd.func142 rfl trivial ?_ rfl
  simp only [Tryd.ntmps142, List.size_toArray, List.length_cons, List.length_nil, Nat.reduceAdd, Nat.reduceSub, Array.replicate_succ, Array.replicate_zero, List.push_toArray, List.append_toArray, List.nil_append, List.cons_append]
  have HA := hide hA'
  clear hA'
  gi_wp2
  gi_loopw [7] (fun i wr => ∃ k : Nat, k ≤ zs.length ∧ i = .int .i64 k ∧ J (zs.take k) wr ∧ Below n₀ W wr)
    (fun i _ => zs.length - (intOf i).toNat)
  case atStart => exact ⟨0, Nat.zero_le _, rfl, h0, Below.refl _ _⟩
  case round =>
    obtain ⟨k, hk, rfl, hJs, hnx⟩ := hrel
    by_cases hlt : k < zs.length
    · obtain ⟨b, off, rfl, hb, hrow⟩ := HA.out (by omega)
      obtain ⟨cs, hcs, hcc⟩ := hrow k hlt
      have hcs' : cs = [.int .i64 zs[k]] := hcs
      subst hcs'
      have hcx := (hnx.cell (p := ⟨b, off + k * 1 + 0, none⟩) hb).trans (hcc 0 _ rfl)
      have hTk := hide (List.take_succ_eq_append_getElem hlt)
      generalize hx : zs[k] = x at hcx hTk
      simp only [Nat.mul_one, Nat.add_zero] at hcx
      obtain ⟨fn, tmps, assign, body, hy, hR⟩ := hY _ x wr hJs (by rw [List.length_take]; omega)
      clear hx hrow hcc hcs
      gi_wp2
      refine hR.mono ?_
      rintro e W3 (⟨rfl, hJ3, hk3⟩ | ⟨rfl, hJx3⟩)
      · gi_wp2
        go_roundw
        case rel => exact ⟨k + 1, by omega, by simp, by rw [hTk.out]; exact hJ3, hnx.trans hk3⟩
        case measure => simp [intOf]; omega
      · gi_wp2
        refine bodyPost_ret (results_none rfl _ _ _) rfl ?_
        exact ⟨⟨_, rfl⟩, .inr ⟨_, by rw [← hTk.out]; exact List.take_prefix _ _, hJx3⟩⟩
    · obtain rfl : k = zs.length := by omega
      rw [List.take_length] at hJs
      gi_wp2
      go_end0
      exact ⟨⟨_, rfl⟩, .inl ⟨_, rfl, hJs⟩⟩
set_option maxRecDepth 100000 in
set_option maxHeartbeats 2000000 in
/-- slices.AppendSeq(nil, slices.Values(zs)). -/
theorem appendVals_in (n : Nat) (hn : 3 ≤ n) (Bs : Nat) (zs : List Int) (A : Option Addr) (c : Nat) (hl : zs.length ≤ 1048576) (w : World) (hBs : Bs < w.heap.size)
    (hc : w.cell? ⟨Bs, 0, none⟩ = some (.slice A zs.length c)) (hA : Row tInt w (Old w) A zs) :
    CallsIn Fence.wide n Tryd.prog 165 #[.slice none 0 0, .func (.func 142) #[] #[.pointer (some ⟨Bs, 0, none⟩)]] w fun e W' => ∃ v, e = .returned v ∧ W'.ownsRow w.heap.size 3 1 v zs.length (zs.map (Value.int .i64)) ∧ Below w.heap.size w W' := by
  have h1 : 1 ≤ n := by omega
  obtain ⟨i0, hi, hz0, hz1, hz2⟩ := info_parts infoInt_
  refine callsIn_of_wp_marks Tryd.func165 rfl trivial ?_ rfl
  simp only [Tryd.ntmps165, List.size_toArray, List.length_cons, List.length_nil, Nat.reduceAdd, Nat.reduceSub, Array.replicate_succ, Array.replicate_zero, List.push_toArray, List.append_toArray, List.nil_append, List.cons_append]
  gi_wp2
  have bO := Boxed.new w 30 (.slice none 0 0)
  have hB0 : Below w.heap.size w (w.alloc (.cells #[.slice none 0 0] 30)) := (Below.refl _ w).alloc (Nat.le_refl _) _
  refine wpIn_rangeFunc_ownG rfl h1 (gf := 142) (lb := #[.pointer (some ⟨Bs, 0, none⟩)]) rfl trivial (enters_of Tryd.func142 (by kernel_rfl) rfl)
    (vals_stops (n - 1) (by omega) Bs w.heap.size zs A c hl (w.alloc (.cells #[.slice none 0 0] 30)) (by simp; omega) (by simp) ((hB0.cell (p := ⟨Bs, 0, none⟩) hBs).trans hc) (hA.mono (fun _ h => h) (fun b hb => hB0.block b hb))) belowK_t (belowK_b (by simp)) (Below.refl _ _) (fun _ => rfl)
    (fun pre W => (∃ v, Boxed W w.heap.size 30 v ∧ W.ownsRow w.heap.size 3 1 v pre.length (pre.map (Value.int .i64)) ∧ (v = .slice none 0 0 ↔ pre = [])) ∧ Below w.heap.size w W)
    (fun _ _ _ => False)
    (OwnFrom.and (Go.Own.from (holdsRow_own w.heap.size w.heap.size 30 3 1 (fun pre => pre.length) (fun pre => pre.map (Value.int .i64)) (fun pre v => v = .slice none 0 0 ↔ pre = [])) _) (ownFrom_below (Nat.le_refl _) (by simp)))
    (fun _ _ _ _ _ hs _ _ => hs)
    ⟨⟨_, bO, World.ownsRow_nil _ _ _ _, by simp⟩, hB0⟩
    (fun x => { tmps := #[.slice none 0 0, .func (.func 142) #[] #[.pointer (some ⟨Bs, 0, none⟩)], .pointer (some ⟨w.heap.size, 0, none⟩), undef, .slice none 0 0, .int .i64 x, .func (.func 142) #[] #[.pointer (some ⟨Bs, 0, none⟩)], .int .i64 x, undef, undef, undef, undef, undef], defers := [] }) ?assign ?body ?done ?stop
  case assign =>
    intro l x W K hK
    gi_wp2
    exact hK
  case body =>
    rintro l pre x W ⟨⟨v, hv, hrow, hnil⟩, hB⟩ hlt
    have hc := hv.cell
    gi_wp2_with (gi_at_builtin; refine wpListIn_append_own _ rfl _ _ 30 rfl w.heap.size 3 i0 (.int .i64 0) 1 8 Tryd.underlying30 hi hz0 hz1 hz2 rfl (by decide) _ _ _ rfl (hrow.alloc _) ⟨W.heap.size, 0, none⟩ 1 1 [.int .i64 x] rfl rfl (cell_one_new _ _ _) (by simp [Value.oneCell']) (by simp only [maxLen]; omega) (by omega) (by have := hB.size; simp; omega) ?_; intro v' w1 hown' hgrow _; obtain ⟨g', cap', rfl⟩ := ownsRow_succ hown'; obtain ⟨hv1, hv2, hr2, hk2, hb2⟩ := hv.appended (by decide) hrow hB.size (Nat.le_refl _) hown' hgrow; have hc1 := hv1.cell; have hf1 := hv1.frozen)
    exact ⟨hk2.from _, hb2, ⟨_, hv2, by simpa using hr2, by simp⟩, hB.trans hb2⟩
  case done =>
    rintro D ys W hD rfl ⟨⟨v, hv, hrow, hnil⟩, hB⟩ hK
    have hc := hv.cell
    gi_wp2
    refine ⟨by simp, .inl ⟨_, _, rfl, run_takeDeferred hK, ?_⟩⟩
    exact ⟨_, results_tmp rfl _ _ _, v, rfl, ownsRow_putObj hrow _ hK rfl, hB.trans (belowK_b (w := w) (Nat.le_refl _) W D _ _ (by simp at hD; omega) hK rfl rfl)⟩
  case stop =>
    rintro D c pre W _ _ h _
    exact h.elim
set_option maxHeartbeats 1000000 in
theorem collectVals_in (n : Nat) (hn : 4 ≤ n) (Bs : Nat) (zs : List Int) (A : Option Addr) (c : Nat) (hl : zs.length ≤ 1048576) (w : World) (hBs : Bs < w.heap.size)
    (hc : w.cell? ⟨Bs, 0, none⟩ = some (.slice A zs.length c)) (hA : Row tInt w (Old w) A zs) :
    CallsIn Fence.wide n Tryd.prog 140 #[.func (.func 142) #[] #[.pointer (some ⟨Bs, 0, none⟩)]] w fun e W' => ∃ v, e = .returned v ∧ W'.ownsRow w.heap.size 3 1 v zs.length (zs.map (Value.int .i64)) ∧ Below w.heap.size w W' := by
  have h1 : 1 ≤ n := by omega
  have HC := hide (appendVals_in (n - 1) (by omega) Bs zs A c hl w hBs hc hA)
  clear hc hA
  refine callsIn_of_wp Tryd.func140 rfl trivial ?_ rfl
  simp only [Tryd.ntmps140, List.size_toArray, List.length_cons, List.length_nil, Nat.reduceAdd, Nat.reduceSub, Array.replicate_succ, Array.replicate_zero, List.push_toArray, List.append_toArray, List.nil_append, List.cons_append]
  have hfS : Fence.wide.fn 165 := trivial
  gi_wp2_with (gi_at_call 165; refine HC.out.mono ?_; rintro e w' ⟨v, rfl, hrow, hb⟩)
  go_ret
  exact ⟨v, rfl, hrow, hb⟩
open Go.Shelf

def sortRen : Ren := ⟨fun | 5 => 141 | 8 => 167 | 7 => 166 | 19 => 180 | 20 => 181 | 10 => 171 | 11 => 172 | 12 => 173 | 13 => 174 | 14 => 175 | 15 => 176 | 16 => 177 | 17 => 178 | 18 => 179 | 30 => 187 | 31 => 188 | 32 => 189 | 33 => 190 | 34 => 191 | 35 => 192 | 40 => 197 | n => n, fun | 23 => 30 | 25 => 3 | 3 => 3 | 32 => 84 | 22 => 30 | 0 => 0 | 44 => 151 | 46 => 153 | 4 => 4 | 36 => 164 | 35 => 163 | 41 => 130 | 5 => 5 | 9 => 9 | 53 => 175 | 57 => 179 | 63 => 185 | 64 => 186 | n => n, fun n => n⟩
set_option maxRecDepth 100000 in
theorem sortLays : SlLaysM.n5 Tryd.prog sortRen where
  mixed := by kernel_rfl
  f5 := ⟨ "slices.Sort[[]int,int]", by decide, Tryd.func141.trans (congrArg some (by kernel_rfl))⟩
  f7 := ⟨ "slices.pdqsortOrdered[int]", by decide, Tryd.func166.trans (congrArg some (by kernel_rfl))⟩
  f8 := Tryd.func167.trans (congrArg some (by kernel_rfl))
  f10 := ⟨ "slices.insertionSortOrdered[int]", by decide, Tryd.func171.trans (congrArg some (by kernel_rfl))⟩
  f11 := ⟨ "slices.heapSortOrdered[int]", by decide, Tryd.func172.trans (congrArg some (by kernel_rfl))⟩
  f12 := ⟨ "slices.breakPatternsOrdered[int]", by decide, Tryd.func173.trans (congrArg some (by kernel_rfl))⟩
  f13 := ⟨ "slices.choosePivotOrdered[int]", by decide, Tryd.func174.trans (congrArg some (by kernel_rfl))⟩
  f14 := ⟨ "slices.reverseRangeOrdered[int]", by decide, Tryd.func175.trans (congrArg some (by kernel_rfl))⟩
  f15 := ⟨ "slices.partialInsertionSortOrdered[int]", by decide, Tryd.func176.trans (congrArg some (by kernel_rfl))⟩
  f16 := ⟨ "cmp.Less[int]", by decide, Tryd.func177.trans (congrArg some (by kernel_rfl))⟩
  f17 := ⟨ "slices.partitionEqualOrdered[int]", by decide, Tryd.func178.trans (congrArg some (by kernel_rfl))⟩
  f18 := ⟨ "slices.partitionOrdered[int]", by decide, Tryd.func179.trans (congrArg some (by kernel_rfl))⟩
  f19 := Tryd.func180.trans (congrArg some (by kernel_rfl))
  f20 := Tryd.func181.trans (congrArg some (by kernel_rfl))
  f30 := ⟨ "slices.siftDownOrdered[int]", by decide, Tryd.func187.trans (congrArg some (by kernel_rfl))⟩
  f31 := Tryd.func188.trans (congrArg some (by kernel_rfl))
  f32 := Tryd.func189.trans (congrArg some (by kernel_rfl))
  f33 := ⟨ "slices.medianAdjacentOrdered[int]", by decide, Tryd.func190.trans (congrArg some (by kernel_rfl))⟩
  f34 := ⟨ "slices.medianOrdered[int]", by decide, Tryd.func191.trans (congrArg some (by kernel_rfl))⟩
  f35 := ⟨ "cmp.isNaN[int]", by decide, Tryd.func192.trans (congrArg some (by kernel_rfl))⟩
  f40 := ⟨ "slices.order2Ordered[int]", by decide, Tryd.func197.trans (congrArg some (by kernel_rfl))⟩
  t0 := Tryd.underlying0
  a0 := Tryd.isAgg0
  z0 := Tryd.sizeOf0
  v0 := Tryd.zeroValue0
  t3 := Tryd.underlying3
  a3 := Tryd.isAgg3
  z3 := Tryd.sizeOf3
  v3 := Tryd.zeroValue3
  t4 := Tryd.underlying4
  a4 := Tryd.isAgg4
  z4 := Tryd.sizeOf4
  v4 := Tryd.zeroValue4
  t5 := Tryd.underlying5
  a5 := Tryd.isAgg5
  z5 := Tryd.sizeOf5
  v5 := Tryd.zeroValue5
  t9 := Tryd.underlying9
  a9 := Tryd.isAgg9
  z9 := Tryd.sizeOf9
  v9 := Tryd.zeroValue9
  t22 := Tryd.underlying30
  a22 := Tryd.isAgg30
  z22 := Tryd.sizeOf30
  v22 := Tryd.zeroValue30
  t23 := Tryd.underlying30
  a23 := Tryd.isAgg30
  z23 := Tryd.sizeOf30
  v23 := Tryd.zeroValue30
  t25 := Tryd.underlying3
  a25 := Tryd.isAgg3
  z25 := Tryd.sizeOf3
  v25 := Tryd.zeroValue3
  t32 := Tryd.underlying84
  a32 := Tryd.isAgg84
  z32 := Tryd.sizeOf84
  v32 := Tryd.zeroValue84
  t35 := Tryd.underlying163
  a35 := Tryd.isAgg163
  z35 := Tryd.sizeOf163
  v35 := Tryd.zeroValue163
  t36 := Tryd.underlying164
  a36 := Tryd.isAgg164
  z36 := Tryd.sizeOf164
  v36 := Tryd.zeroValue164
  t41 := Tryd.underlying130
  a41 := Tryd.isAgg130
  z41 := Tryd.sizeOf130
  v41 := Tryd.zeroValue130
  t44 := Tryd.underlying151
  a44 := Tryd.isAgg151
  z44 := Tryd.sizeOf151
  v44 := Tryd.zeroValue151
  t46 := Tryd.underlying153
  a46 := Tryd.isAgg153
  z46 := Tryd.sizeOf153
  v46 := Tryd.zeroValue153
  t53 := Tryd.underlying175
  a53 := Tryd.isAgg175
  z53 := Tryd.sizeOf175
  v53 := Tryd.zeroValue175
  t57 := Tryd.underlying179
  a57 := Tryd.isAgg179
  z57 := Tryd.sizeOf179
  v57 := Tryd.zeroValue179
  t63 := Tryd.underlying185
  a63 := Tryd.isAgg185
  z63 := Tryd.sizeOf185
  v63 := Tryd.zeroValue185
  t64 := Tryd.underlying186
  a64 := Tryd.isAgg186
  z64 := Tryd.sizeOf186
  v64 := Tryd.zeroValue186
/-- The numbers of a list, ascending. -/
def srt (zs : List Int) : List Int := zs.mergeSort fun x y => decide (x ≤ y)
theorem srt_len (zs : List Int) : (srt zs).length = zs.length := List.length_mergeSort _
theorem srt_perm (zs : List Int) : (srt zs).Perm zs := List.mergeSort_perm _ _
theorem own_of_row {e : TypeId} {base : Nat} {w : World} {zs : List Int} {v : Value} (h : w.ownsRow base e 1 v zs.length (zs.map (Value.int .i64))) : Own tInt e w (fun b => base ≤ b ∧ Old w b) zs v := by
  rcases h.2 with ⟨rfl, h0⟩ | ⟨g, cap, cur, rfl, hb, hg, r1, r2, r3, r4⟩
  · exact .inl ⟨rfl, List.eq_nil_of_length_eq_zero h0⟩
  · have hB : Blk w g e cur := hg
    refine .inr ⟨g, cap, cur, fun _ => False, rfl, ⟨hb, hB.lt⟩, hB, r1, r2, r3, fun b h => h.elim, fun k hk => ⟨[.int .i64 zs[k]], rfl, fun j u hu => ?_⟩⟩
    obtain ⟨hj, rfl⟩ := List.getElem?_eq_some_iff.1 hu
    obtain rfl : j = 0 := by simpa using hj
    have h1 : (cur.toList.take (zs.length * 1))[k]? = (zs.map (Value.int .i64))[k]? := by rw [r4]
    rw [Nat.mul_one, List.getElem?_take_of_lt hk, List.getElem?_map, List.getElem?_eq_getElem hk] at h1
    rw [hB.cell]
    show cur[0 + k * 1 + 0]? = _
    rw [show 0 + k * 1 + 0 = k by omega]
    simpa using h1
set_option maxRecDepth 100000 in
set_option maxHeartbeats 2000000 in
theorem sorted_vals (Bs : Nat) (zs : List Int) (A : Option Addr) (c : Nat) (hl : zs.length ≤ 1048576) (w : World) (hBs : Bs < w.heap.size)
    (hc : w.cell? ⟨Bs, 0, none⟩ = some (.slice A zs.length c)) (hA : Row tInt w (Old w) A zs) :
    Calls Tryd.prog 90 #[.func (.func 142) #[] #[.pointer (some ⟨Bs, 0, none⟩)]] w fun e W' => ∃ v, e = .returned v ∧ Own tInt 3 W' (New w W') (srt zs) v ∧ Below w.heap.size w W' := by
  refine (callsIn_wide (n := 5)).1 ?_
  have h1 : 1 ≤ 5 := by omega
  have HC := hide (collectVals_in 4 (by omega) Bs zs A c hl w hBs hc hA)
  clear hc hA
  refine callsIn_of_wp Tryd.func90 rfl trivial ?_ rfl
  simp only [Tryd.ntmps90, List.size_toArray, List.length_cons, List.length_nil, Nat.reduceAdd, Nat.reduceSub, Array.replicate_succ, Array.replicate_zero, List.push_toArray, List.append_toArray, List.nil_append, List.cons_append]
  have hfC : Fence.wide.fn 140 := trivial
  have hfS : Fence.wide.fn 141 := trivial
  gi_wp2_with (gi_at_call 140; refine HC.out.mono ?_; rintro e W ⟨v, rfl, hrow, hb⟩)
  rcases hrow.2 with ⟨rfl, hz⟩ | ⟨gb, cap, cur, rfl, hbase, hgb, r1, r2, r3, r4⟩
  · have hzs : zs = [] := List.eq_nil_of_length_eq_zero hz
    have cN : CallsIn Fence.wide 4 Tryd.prog 141 #[.slice none 0 0] W fun e w' => e = .returned (.tuple #[]) ∧ w' = W := callsIn_wide.2 (AnyM.slices_Sort_int_none sortLays none 0 W)
    gi_wp2_with (gi_at_call 141; refine cN.mono ?_; rintro e w' ⟨rfl, rfl⟩)
    go_ret
    exact ⟨_, rfl, by rw [hzs]; exact .inl ⟨rfl, by simp [srt]⟩, hb⟩
  · have hH : Holds encZ W gb 0 zs.toArray := holds_of_block_i hgb (by simpa using r4)
    have hgl : gb < W.heap.size := (Array.getElem?_eq_some_iff.1 hgb).1
    have cS : CallsIn Fence.wide 4 Tryd.prog 141 #[.slice (some ⟨gb, 0, none⟩) zs.length cap] W fun e w' => e = .returned (.tuple #[]) ∧ ∃ k os, w' = grow (putRow encZ (Sort.ahead W k) gb 0 (srt zs).toArray) os := callsIn_wide.2 (AnyM.slices_Sort_int sortLays gb 0 cap zs W hH hgl (by omega))
    have hq : zs.length ≤ 9223372036854775807 := by omega
    gi_wp2_with (gi_at_call 141; refine cS.mono ?_; rintro e w' ⟨rfl, nn, os, rfl⟩)
    go_ret
    have hR := ownsRow_sorted_i (n := nn) (os := os) (ts := srt zs) (srt_len zs) hbase hgb r1 r2 r3
    refine ⟨_, rfl, own_of_row (zs := srt zs) ?_, hb.grown (grownBy_sorted_i _) hb.size (fun j hj => by cases hj; exact hbase)⟩
    rw [srt_len]
    exact hR
end Go.Proofs.YtaaagoppecnmmaaDoor
