/- slices.Sorted(slices.Values(x)) at ints: what x holds, sorted, in new memory. -/
import Derived.Test.YtmlbfhknapkhgaaValsI
import Derived.Test.YtmlbfhknapkhgaaSortL
import Derived.Lib.SlKeysI
namespace Go.Proofs.Ytmlbfhknapkhgaa
open Go.RowKit Go.Maps Go.Sort Go.Shelf
set_option linter.unusedVariables false
set_option linter.unusedSimpArgs false

/-- The numbers of a list, ascending. -/
def srt (zs : List Int) : List Int := zs.mergeSort fun x y => decide (x ≤ y)
theorem srt_len (zs : List Int) : (srt zs).length = zs.length := List.length_mergeSort _
theorem srt_perm (zs : List Int) : (srt zs).Perm zs := List.mergeSort_perm _ _
theorem own_of_row {e : TypeId} {base : Nat} {w : World} {zs : List Int} {v : Value} (h : w.ownsRow base e 1 v zs.length (zs.map (Value.int .i64))) : Own tInt e w (fun b => base ≤ b ∧ Old w b) zs v := by
  rcases h.2 with ⟨rfl, h0⟩ | ⟨g, cap, cur, rfl, hb, hg, r1, r2, r3, r4⟩
  · exact .inl ⟨rfl, List.eq_nil_of_length_eq_zero h0⟩
  · have hB : Blk w g e cur := hg
    refine .inr ⟨g, cap, cur, fun _ => False, rfl, ⟨hb, hB.lt⟩, hB, r1, r2, r3, fun b h => h.elim, fun k hk => ⟨[.int .i64 zs[k]], rfl, fun j u hu => ?_⟩⟩
    obtain ⟨hj, rfl⟩ := List.getElem?_eq_some_iff.1 hu
    obtain rfl : j = 0 := by simpa using hj
    have h1 : (cur.toList.take (zs.length * 1))[k]? = (zs.map (Value.int .i64))[k]? := by rw [r4]
    rw [Nat.mul_one, List.getElem?_take_of_lt hk, List.getElem?_map, List.getElem?_eq_getElem hk] at h1
    rw [hB.cell]
    show cur[0 + k * 1 + 0]? = _
    rw [show 0 + k * 1 + 0 = k by omega]
    simpa using h1
set_option maxRecDepth 100000 in
set_option maxHeartbeats 2000000 in
theorem sorted_vals (Bs : Nat) (zs : List Int) (A : Option Addr) (c : Nat) (hl : zs.length ≤ 1048576) (w : World) (hBs : Bs < w.heap.size)
    (hc : w.cell? ⟨Bs, 0, none⟩ = some (.slice A zs.length c)) (hA : Row tInt w (Old w) A zs) :
    Calls Try.prog 131 #[.func (.func 157) #[] #[.pointer (some ⟨Bs, 0, none⟩)]] w fun e W' => ∃ v, e = .returned v ∧ Own tInt 3 W' (New w W') (srt zs) v ∧ Below w.heap.size w W' := by
  refine (callsIn_wide (n := 5)).1 ?_
  have h1 : 1 ≤ 5 := by omega
  have HC := hide (collectVals_in 4 (by omega) Bs zs A c hl w hBs hc hA)
  clear hc hA
  refine callsIn_of_wp Try.func131 rfl trivial ?_ rfl
  simp only [Try.ntmps131, List.size_toArray, List.length_cons, List.length_nil, Nat.reduceAdd, Nat.reduceSub, Array.replicate_succ, Array.replicate_zero, List.push_toArray, List.append_toArray, List.nil_append, List.cons_append]
  have hfC : Fence.wide.fn 155 := trivial
  have hfS : Fence.wide.fn 156 := trivial
  gi_wp2_with (gi_at_call 155; refine HC.out.mono ?_; rintro e W ⟨v, rfl, hrow, hb⟩)
  rcases hrow.2 with ⟨rfl, hz⟩ | ⟨gb, cap, cur, rfl, hbase, hgb, r1, r2, r3, r4⟩
  · have hzs : zs = [] := List.eq_nil_of_length_eq_zero hz
    have cN : CallsIn Fence.wide 4 Try.prog 156 #[.slice none 0 0] W fun e w' => e = .returned (.tuple #[]) ∧ w' = W := callsIn_wide.2 (AnyM.slices_Sort_int_none sortLays none 0 W)
    gi_wp2_with (gi_at_call 156; refine cN.mono ?_; rintro e w' ⟨rfl, rfl⟩)
    go_ret
    exact ⟨_, rfl, by rw [hzs]; exact .inl ⟨rfl, by simp [srt]⟩, hb⟩
  · have hH : Holds encZ W gb 0 zs.toArray := holds_of_block_i hgb (by simpa using r4)
    have hgl : gb < W.heap.size := (Array.getElem?_eq_some_iff.1 hgb).1
    have cS : CallsIn Fence.wide 4 Try.prog 156 #[.slice (some ⟨gb, 0, none⟩) zs.length cap] W fun e w' => e = .returned (.tuple #[]) ∧ ∃ k os, w' = grow (putRow encZ (Sort.ahead W k) gb 0 (srt zs).toArray) os := callsIn_wide.2 (AnyM.slices_Sort_int sortLays gb 0 cap zs W hH hgl (by omega))
    have hq : zs.length ≤ 9223372036854775807 := by omega
    gi_wp2_with (gi_at_call 156; refine cS.mono ?_; rintro e w' ⟨rfl, nn, os, rfl⟩)
    go_ret
    have hR := ownsRow_sorted_i (n := nn) (os := os) (ts := srt zs) (srt_len zs) hbase hgb r1 r2 r3
    refine ⟨_, rfl, own_of_row (zs := srt zs) ?_, hb.grown (grownBy_sorted_i _) hb.size (fun j hj => by cases hj; exact hbase)⟩
    rw [srt_len]
    exact hR
end Go.Proofs.Ytmlbfhknapkhgaa
