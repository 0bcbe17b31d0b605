/- The program's compare of edges. The sort of the library at this program: its functions and types by number. Printed by laysort.py. slices.SortFunc at edges. slices.Compact at edges, in place. The program's 'sorted': edges in their order, each once. -/
import Derived.Test.YtjiobgfaohldhaaGreatQEdgI
import Derived.Test.YtjiobgfaohldhaaGreatProg
import Derived.Test.YtjiobgfaohldhaaGreatQDelOp
import Derived.Shelf.SlSortCmp.WholeK
import Derived.Shelf.SlSortCmp.NoneTotal
namespace Go.Proofs.YtjiobgfaohldhaaGreat
open Go.Sort Go.RowKit
set_option linter.unusedVariables false
set_option linter.unusedSimpArgs false

def cmpI (a b : Int) : Int := if a < b then -1 else if b < a then 1 else 0
def orI (a b c : Int) : Int := if a ≠ 0 then a else if b ≠ 0 then b else c
def cmpE (x y : Edge) : Int := orI (cmpI x.From y.From) (cmpI x.To y.To) (cmpI x.Kind y.Kind)
theorem isNaN_int (x : Int) (w : World) : Calls Tryz.prog 174 #[.int .i64 x] w fun e w' => e = .returned (.bool false) ∧ w = w' := by
  have h : (x != x) = false := by simp
  go_enter Tryz.func174, Tryz.ntmps174
  go_wp2
  go_ret
  exact ⟨rfl, rfl⟩
set_option maxHeartbeats 1000000 in
theorem compare_int (a b : Int) (w : World) : Calls Tryz.prog 148 #[.int .i64 a, .int .i64 b] w fun e w' => e = .returned (.int .i64 (cmpI a b)) ∧ w = w' := by
  have HN := hide (fun x W => isNaN_int x W)
  by_cases h1 : a < b
  · have HR := hide (show cmpI a b = -1 by unfold cmpI; rw [if_pos h1])
    go_enter Tryz.func148, Tryz.ntmps148
    go_wp2_with (go_at_call 174; refine (HN.out _ _).mono ?_; rintro e w' ⟨rfl, rfl⟩)
    go_ret
    exact ⟨ret_int HR.out.symm, rfl⟩
  · by_cases h2 : b < a
    · have HR := hide (show cmpI a b = 1 by unfold cmpI; rw [if_neg h1, if_pos h2])
      go_enter Tryz.func148, Tryz.ntmps148
      go_wp2_with (go_at_call 174; refine (HN.out _ _).mono ?_; rintro e w' ⟨rfl, rfl⟩)
      go_ret
      exact ⟨ret_int HR.out.symm, rfl⟩
    · have HR := hide (show cmpI a b = 0 by unfold cmpI; rw [if_neg h1, if_neg h2])
      go_enter Tryz.func148, Tryz.ntmps148
      go_wp2_with (go_at_call 174; refine (HN.out _ _).mono ?_; rintro e w' ⟨rfl, rfl⟩)
      go_ret
      exact ⟨ret_int HR.out.symm, rfl⟩
def at3 (a b c : Int) : Nat → Int | 0 => a | 1 => b | _ => c
set_option maxHeartbeats 1000000 in
theorem or_int (a b c : Int) (g cp : Nat) (w : World) (hB : Blk w g 3 #[.int .i64 a, .int .i64 b, .int .i64 c]) : Calls Tryz.prog 147 #[.slice (some ⟨g, 0, none⟩) 3 cp] w fun e w' => e = .returned (.int .i64 (orI a b c)) ∧ w = w' := by
  have HC := hide (show ∀ k, k < 3 → w.cell? ⟨g, k, none⟩ = some (.int .i64 (at3 a b c k)) from fun k hk => by
    rw [hB.cell]
    match k, hk with
    | 0, _ => rfl
    | 1, _ => rfl
    | 2, _ => rfl)
  clear hB
  go_enter Tryz.func147, Tryz.ntmps147
  go_wp2_with fail
  go_loopw [5, 8] (fun _ i wr => ∃ k : Nat, k ≤ 3 ∧ i = .int .i64 k ∧ wr = w ∧ Hid (∀ j, j < k → at3 a b c j = 0)) (fun _ i _ => 3 - (intOf i).toNat)
  case atStart => exact ⟨0, Nat.zero_le _, rfl, rfl, fun j h => absurd h (by omega)⟩
  case round =>
    obtain ⟨k, hk, rfl, rfl, hno⟩ := hrel
    have HNo := hide hno.out
    clear hno
    by_cases hlt : k < 3
    · have hki : (k : Int) < 3 := by omega
      have c0 := HC.out k hlt
      have HO := hide (show at3 a b c k ≠ 0 → orI a b c = at3 a b c k from fun h => by
        unfold orI
        match k, hlt with
        | 0, _ => rw [if_pos (show a ≠ 0 from h)]; rfl
        | 1, _ => rw [if_neg (fun h9 : a ≠ 0 => h9 (HNo.out 0 (by omega))), if_pos (show b ≠ 0 from h)]; rfl
        | 2, _ => rw [if_neg (fun h9 : a ≠ 0 => h9 (HNo.out 0 (by omega))), if_neg (fun h9 : b ≠ 0 => h9 (HNo.out 1 (by omega)))]; rfl)
      have HN2 := hide (show at3 a b c k = 0 → ∀ j, j < k + 1 → at3 a b c j = 0 from fun h j hj => by
        rcases Nat.lt_succ_iff_lt_or_eq.1 hj with h1 | rfl
        · exact HNo.out j h1
        · exact h)
      generalize at3 a b c k = y at c0 HO HN2
      by_cases h0 : y = 0
      · subst h0
        have HN3 := hide (HN2.out rfl)
        go_wp2_with fail
        go_roundw
        case rel => exact ⟨k + 1, by omega, by go_num, by first | rfl | trivial, HN3.out⟩
        case measure => simp [intOf]; omega
      · have HR := hide (HO.out h0)
        have hne : (y != 0) = true := by rw [bne_iff_ne]; exact h0
        go_wp2_with fail
        go_ret
        exact ⟨ret_int HR.out.symm, rfl⟩
    · have HR := hide (show orI a b c = 0 by
        unfold orI
        have h0 : a = 0 := HNo.out 0 (by omega)
        have h1 : b = 0 := HNo.out 1 (by omega)
        have h2 : c = 0 := HNo.out 2 (by omega)
        rw [h0, h1, h2]; rfl)
      have hkn : ¬ (k : Int) < 3 := by omega
      go_wp2_with fail
      go_ret
      exact ⟨ret_int HR.out.symm, rfl⟩
def JJ (W : World) (x y : Edge) (L : Nat → Bool) (wz : World) : Prop := ∃ q, wz = grow (W.drewN q) (if L 15 then #[.cells #[.int .i64 x.From, .int .i64 x.To, .int .i64 x.Kind] 86, .cells #[.int .i64 y.From, .int .i64 y.To, .int .i64 y.Kind] 86, .cells #[.int .i64 (cmpI x.From y.From), .int .i64 (cmpI x.To y.To), .int .i64 (cmpI x.Kind y.Kind)] 3] else #[.cells #[.int .i64 x.From, .int .i64 x.To, .int .i64 x.Kind] 86, .cells #[.int .i64 y.From, .int .i64 y.To, .int .i64 y.Kind] 86])
set_option maxRecDepth 10000 in
set_option maxHeartbeats 4000000 in
theorem compare_any (x y : Edge) (W : World) : Calls Tryz.prog 126 #[.agg #[.int .i64 x.From, .int .i64 x.To, .int .i64 x.Kind], .agg #[.int .i64 y.From, .int .i64 y.To, .int .i64 y.Kind]] W fun e w' => e = .returned (.int .i64 (cmpE x y)) ∧ ∃ q os', w' = grow (W.drewN q) os' := by
  have HSz := hide (show ∀ (wa : World) (L : Nat → Bool), L 15 = false → JJ W x y L wa → wa.heap.size = W.heap.size + 1 + 1 from fun wa L hL ⟨q, hq⟩ => by rw [hq, hL]; simp [grow])
  have HCellX := hide (show ∀ (wa : World) (L : Nat → Bool), JJ W x y L wa → ∀ f, f < 3 → wa.cell? ⟨W.heap.size, f, none⟩ = (#[Value.int .i64 x.From, .int .i64 x.To, .int .i64 x.Kind])[f]? from fun wa L ⟨q, hq⟩ f hf => by
    have h : Blk wa W.heap.size 86 #[.int .i64 x.From, .int .i64 x.To, .int .i64 x.Kind] := by unfold Blk; rw [hq]; cases L 15 <;> simp [grow, Array.getElem?_append]
    exact h.cell f)
  have HCellY := hide (show ∀ (wa : World) (L : Nat → Bool), JJ W x y L wa → ∀ f, f < 3 → wa.cell? ⟨W.heap.size + 1, f, none⟩ = (#[Value.int .i64 y.From, .int .i64 y.To, .int .i64 y.Kind])[f]? from fun wa L ⟨q, hq⟩ f hf => by
    have h : Blk wa (W.heap.size + 1) 86 #[.int .i64 y.From, .int .i64 y.To, .int .i64 y.Kind] := by unfold Blk; rw [hq]; cases L 15 <;> simp [grow, Array.getElem?_append]
    exact h.cell f)
  have HPush := hide (show ∀ (wa : World) (L : Nat → Bool), L 15 = false → JJ W x y L wa → JJ W x y (fun j => if j = 15 then true else L j) (wa.alloc (.cells #[.int .i64 (cmpI x.From y.From), .int .i64 (cmpI x.To y.To), .int .i64 (cmpI x.Kind y.Kind)] 3)) from fun wa L hL ⟨q, hq⟩ => by
    refine ⟨q, ?_⟩
    rw [hq, hL, alloc_eq_grow, grow_grow]
    rfl)
  go_enter Tryz.func126, Tryz.ntmps126
  go_upto_region 1 with (fail)
  refine wp_region_facts 16 (JJ W x y) (fun i9 v9 _ => v9 = (fun q9 : Nat => match q9 with | 0 => .pointer (some ⟨W.heap.size, 0, none⟩) | 1 => .int .i64 x.From | 2 => .pointer (some ⟨W.heap.size + 1, 0, none⟩) | 3 => .int .i64 y.From | 4 => .int .i64 (cmpI x.From y.From) | 5 => .pointer (some ⟨W.heap.size, 1, none⟩) | 6 => .int .i64 x.To | 7 => .pointer (some ⟨W.heap.size + 1, 1, none⟩) | 8 => .int .i64 y.To | 9 => .int .i64 (cmpI x.To y.To) | 10 => .pointer (some ⟨W.heap.size, 2, none⟩) | 11 => .int .i64 x.Kind | 12 => .pointer (some ⟨W.heap.size + 1, 2, none⟩) | 13 => .int .i64 y.Kind | 14 => .int .i64 (cmpI x.Kind y.Kind) | 15 => .slice (some ⟨W.heap.size + 1 + 1, 0, none⟩) 3 3 | _ => undef) i9) (fun _ _ _ => True) [some 5, some 6, some 7, some 8, some 9, some 10, some 11, some 12, some 13, some 14, some 15, some 16, some 17, some 18, some 19, some 20] (by kernel_rfl) (by kernel_rfl) (by kernel_rfl) (by kernel_rfl) ?_ ?_ ?_ ?_
  · exact ⟨1, rfl⟩
  · intro i k v wa wb _ _ _ h _; exact h
  · intro i o hi ho a wa L hL hI hc hd K hK
    have hi' : i = 0 ∨ i = 1 ∨ i = 2 ∨ i = 3 ∨ i = 4 ∨ i = 5 ∨ i = 6 ∨ i = 7 ∨ i = 8 ∨ i = 9 ∨ i = 10 ∨ i = 11 ∨ i = 12 ∨ i = 13 ∨ i = 14 ∨ i = 15 := by omega
    clear hi
    rcases hi' with rfl | rfl | rfl | rfl | rfl | rfl | rfl | rfl | rfl | rfl | rfl | rfl | rfl | rfl | rfl | rfl
    all_goals
      simp only [List.getElem?_toArray, List.getElem?_cons_zero, List.getElem?_cons_succ, Option.some.injEq] at ho
      subst ho
      simp only [reduceCtorEq, if_false] at hK
    · have e2 := (hc 2 (by kernel_rfl)).trans rfl
      go_simp
      exact hK _ _ rfl (by obtain ⟨q, hq⟩ := hI; exact ⟨q, by simpa using hq⟩) trivial
    · have e5 : a.tmps.getD 5 undef = .pointer (some ⟨W.heap.size, 0, none⟩) := hd 0 5 (by kernel_rfl)
      have c0 := HCellX.out wa L hI 0 (by decide)
      go_simp
      exact hK _ _ rfl (by obtain ⟨q, hq⟩ := hI; exact ⟨q, by simpa using hq⟩) trivial
    · have e3 := (hc 3 (by kernel_rfl)).trans rfl
      go_simp
      exact hK _ _ rfl (by obtain ⟨q, hq⟩ := hI; exact ⟨q, by simpa using hq⟩) trivial
    · have e7 : a.tmps.getD 7 undef = .pointer (some ⟨W.heap.size + 1, 0, none⟩) := hd 2 7 (by kernel_rfl)
      have c0 := HCellY.out wa L hI 0 (by decide)
      go_simp
      exact hK _ _ rfl (by obtain ⟨q, hq⟩ := hI; exact ⟨q, by simpa using hq⟩) trivial
    · have e6 : a.tmps.getD 6 undef = .int .i64 x.From := hd 1 6 (by kernel_rfl)
      have e8 : a.tmps.getD 8 undef = .int .i64 y.From := hd 3 8 (by kernel_rfl)
      go_simp
      refine (compare_int x.From y.From wa).mono ?_
      rintro e w2 ⟨rfl, rfl⟩
      exact hK _ _ rfl (by obtain ⟨q, hq⟩ := hI; exact ⟨q, by simpa using hq⟩) trivial
    · have e2 := (hc 2 (by kernel_rfl)).trans rfl
      go_simp
      exact hK _ _ rfl (by obtain ⟨q, hq⟩ := hI; exact ⟨q, by simpa using hq⟩) trivial
    · have e10 : a.tmps.getD 10 undef = .pointer (some ⟨W.heap.size, 1, none⟩) := hd 5 10 (by kernel_rfl)
      have c0 := HCellX.out wa L hI 1 (by decide)
      go_simp
      exact hK _ _ rfl (by obtain ⟨q, hq⟩ := hI; exact ⟨q, by simpa using hq⟩) trivial
    · have e3 := (hc 3 (by kernel_rfl)).trans rfl
      go_simp
      exact hK _ _ rfl (by obtain ⟨q, hq⟩ := hI; exact ⟨q, by simpa using hq⟩) trivial
    · have e12 : a.tmps.getD 12 undef = .pointer (some ⟨W.heap.size + 1, 1, none⟩) := hd 7 12 (by kernel_rfl)
      have c0 := HCellY.out wa L hI 1 (by decide)
      go_simp
      exact hK _ _ rfl (by obtain ⟨q, hq⟩ := hI; exact ⟨q, by simpa using hq⟩) trivial
    · have e11 : a.tmps.getD 11 undef = .int .i64 x.To := hd 6 11 (by kernel_rfl)
      have e13 : a.tmps.getD 13 undef = .int .i64 y.To := hd 8 13 (by kernel_rfl)
      go_simp
      refine (compare_int x.To y.To wa).mono ?_
      rintro e w2 ⟨rfl, rfl⟩
      exact hK _ _ rfl (by obtain ⟨q, hq⟩ := hI; exact ⟨q, by simpa using hq⟩) trivial
    · have e2 := (hc 2 (by kernel_rfl)).trans rfl
      go_simp
      exact hK _ _ rfl (by obtain ⟨q, hq⟩ := hI; exact ⟨q, by simpa using hq⟩) trivial
    · have e15 : a.tmps.getD 15 undef = .pointer (some ⟨W.heap.size, 2, none⟩) := hd 10 15 (by kernel_rfl)
      have c0 := HCellX.out wa L hI 2 (by decide)
      go_simp
      exact hK _ _ rfl (by obtain ⟨q, hq⟩ := hI; exact ⟨q, by simpa using hq⟩) trivial
    · have e3 := (hc 3 (by kernel_rfl)).trans rfl
      go_simp
      exact hK _ _ rfl (by obtain ⟨q, hq⟩ := hI; exact ⟨q, by simpa using hq⟩) trivial
    · have e17 : a.tmps.getD 17 undef = .pointer (some ⟨W.heap.size + 1, 2, none⟩) := hd 12 17 (by kernel_rfl)
      have c0 := HCellY.out wa L hI 2 (by decide)
      go_simp
      exact hK _ _ rfl (by obtain ⟨q, hq⟩ := hI; exact ⟨q, by simpa using hq⟩) trivial
    · have e16 : a.tmps.getD 16 undef = .int .i64 x.Kind := hd 11 16 (by kernel_rfl)
      have e18 : a.tmps.getD 18 undef = .int .i64 y.Kind := hd 13 18 (by kernel_rfl)
      go_simp
      refine (compare_int x.Kind y.Kind wa).mono ?_
      rintro e w2 ⟨rfl, rfl⟩
      exact hK _ _ rfl (by obtain ⟨q, hq⟩ := hI; exact ⟨q, by simpa using hq⟩) trivial
    · have e9 : a.tmps.getD 9 undef = .int .i64 (cmpI x.From y.From) := hd 4 9 (by kernel_rfl)
      have e14 : a.tmps.getD 14 undef = .int .i64 (cmpI x.To y.To) := hd 9 14 (by kernel_rfl)
      have e19 : a.tmps.getD 19 undef = .int .i64 (cmpI x.Kind y.Kind) := hd 14 19 (by kernel_rfl)
      have hs := HSz.out wa L hL hI
      rw [Array.getD_eq_getD_getElem?] at e9 e14 e19
      go_simp
      exact hK _ _ rfl (HPush.out wa L hL hI) trivial
  · intro vs wz L hL hI hF
    have f0 : vs 0 = .pointer (some ⟨W.heap.size, 0, none⟩) := hF 0 (by decide)
    have f1 : vs 1 = .int .i64 x.From := hF 1 (by decide)
    have f2 : vs 2 = .pointer (some ⟨W.heap.size + 1, 0, none⟩) := hF 2 (by decide)
    have f3 : vs 3 = .int .i64 y.From := hF 3 (by decide)
    have f4 : vs 4 = .int .i64 (cmpI x.From y.From) := hF 4 (by decide)
    have f5 : vs 5 = .pointer (some ⟨W.heap.size, 1, none⟩) := hF 5 (by decide)
    have f6 : vs 6 = .int .i64 x.To := hF 6 (by decide)
    have f7 : vs 7 = .pointer (some ⟨W.heap.size + 1, 1, none⟩) := hF 7 (by decide)
    have f8 : vs 8 = .int .i64 y.To := hF 8 (by decide)
    have f9 : vs 9 = .int .i64 (cmpI x.To y.To) := hF 9 (by decide)
    have f10 : vs 10 = .pointer (some ⟨W.heap.size, 2, none⟩) := hF 10 (by decide)
    have f11 : vs 11 = .int .i64 x.Kind := hF 11 (by decide)
    have f12 : vs 12 = .pointer (some ⟨W.heap.size + 1, 2, none⟩) := hF 12 (by decide)
    have f13 : vs 13 = .int .i64 y.Kind := hF 13 (by decide)
    have f14 : vs 14 = .int .i64 (cmpI x.Kind y.Kind) := hF 14 (by decide)
    have f15 : vs 15 = .slice (some ⟨W.heap.size + 1 + 1, 0, none⟩) 3 3 := hF 15 (by decide)
    simp only [putD, Act.put, List.setIfInBounds_toArray, List.set_cons_zero, List.set_cons_succ, List.drop_succ_cons, List.drop_zero]
    rw [f0, f1, f2, f3, f4, f5, f6, f7, f8, f9, f10, f11, f12, f13, f14, f15]
    clear hF f0 f1 f2 f3 f4 f5 f6 f7 f8 f9 f10 f11 f12 f13 f14 f15
    have HI := hide hI
    obtain ⟨q, hq⟩ := hI
    rw [hL 15 (by decide), if_pos rfl] at hq
    have HQ := hide hq
    have HB3 := hide (show Blk wz (W.heap.size + 1 + 1) 3 #[.int .i64 (cmpI x.From y.From), .int .i64 (cmpI x.To y.To), .int .i64 (cmpI x.Kind y.Kind)] from by unfold Blk; rw [hq]; show (W.heap ++ _)[W.heap.size + 1 + 1]? = _; rw [Array.getElem?_append_right (by omega), show W.heap.size + 1 + 1 - W.heap.size = 2 by omega]; rfl)
    clear hq
    go_wp2_with fail
    refine (or_int _ _ _ _ _ wz HB3.out).mono ?_
    rintro e w9 ⟨rfl, rfl⟩
    go_wp2_with fail
    go_ret
    exact ⟨rfl, q, _, HQ.out⟩
open Go.Shelf

def sortERen : Ren := ⟨fun | 6 => 125 | 15 => 139 | 14 => 146 | 28 => 161 | 29 => 162 | 20 => 166 | 21 => 167 | 22 => 168 | 23 => 169 | 24 => 170 | 25 => 171 | 26 => 172 | 27 => 173 | 46 => 181 | 47 => 176 | 48 => 177 | 49 => 182 | 50 => 183 | 57 => 185 | n => n, fun | 22 => 53 | 24 => 86 | 25 => 142 | 3 => 3 | 39 => 103 | 0 => 0 | 53 => 169 | 55 => 171 | 4 => 4 | 46 => 163 | 45 => 162 | 50 => 137 | 5 => 5 | 9 => 9 | 66 => 184 | 70 => 188 | 76 => 193 | 77 => 194 | n => n, fun n => n⟩
set_option maxRecDepth 100000 in
theorem sortELays : SlLaysF0.n6 Tryz.prog sortERen where
  mixed := by kernel_rfl
  f6 := ⟨ "slices.SortFunc[[]loop.example/historychecker/impl.Edge,loop.example/historychecker/impl.Edge]", by decide, Tryz.func125.trans (congrArg some (by kernel_rfl))⟩
  f14 := ⟨ "slices.pdqsortCmpFunc[loop.example/historychecker/impl.Edge]", by decide, Tryz.func146.trans (congrArg some (by kernel_rfl))⟩
  f15 := Tryz.func139.trans (congrArg some (by kernel_rfl))
  f20 := ⟨ "slices.insertionSortCmpFunc[loop.example/historychecker/impl.Edge]", by decide, Tryz.func166.trans (congrArg some (by kernel_rfl))⟩
  f21 := ⟨ "slices.heapSortCmpFunc[loop.example/historychecker/impl.Edge]", by decide, Tryz.func167.trans (congrArg some (by kernel_rfl))⟩
  f22 := ⟨ "slices.breakPatternsCmpFunc[loop.example/historychecker/impl.Edge]", by decide, Tryz.func168.trans (congrArg some (by kernel_rfl))⟩
  f23 := ⟨ "slices.choosePivotCmpFunc[loop.example/historychecker/impl.Edge]", by decide, Tryz.func169.trans (congrArg some (by kernel_rfl))⟩
  f24 := ⟨ "slices.reverseRangeCmpFunc[loop.example/historychecker/impl.Edge]", by decide, Tryz.func170.trans (congrArg some (by kernel_rfl))⟩
  f25 := ⟨ "slices.partialInsertionSortCmpFunc[loop.example/historychecker/impl.Edge]", by decide, Tryz.func171.trans (congrArg some (by kernel_rfl))⟩
  f26 := ⟨ "slices.partitionEqualCmpFunc[loop.example/historychecker/impl.Edge]", by decide, Tryz.func172.trans (congrArg some (by kernel_rfl))⟩
  f27 := ⟨ "slices.partitionCmpFunc[loop.example/historychecker/impl.Edge]", by decide, Tryz.func173.trans (congrArg some (by kernel_rfl))⟩
  f28 := Tryz.func161.trans (congrArg some (by kernel_rfl))
  f29 := Tryz.func162.trans (congrArg some (by kernel_rfl))
  f46 := ⟨ "slices.siftDownCmpFunc[loop.example/historychecker/impl.Edge]", by decide, Tryz.func181.trans (congrArg some (by kernel_rfl))⟩
  f47 := Tryz.func176.trans (congrArg some (by kernel_rfl))
  f48 := Tryz.func177.trans (congrArg some (by kernel_rfl))
  f49 := ⟨ "slices.medianAdjacentCmpFunc[loop.example/historychecker/impl.Edge]", by decide, Tryz.func182.trans (congrArg some (by kernel_rfl))⟩
  f50 := ⟨ "slices.medianCmpFunc[loop.example/historychecker/impl.Edge]", by decide, Tryz.func183.trans (congrArg some (by kernel_rfl))⟩
  f57 := ⟨ "slices.order2CmpFunc[loop.example/historychecker/impl.Edge]", by decide, Tryz.func185.trans (congrArg some (by kernel_rfl))⟩
  t0 := Tryz.underlying0
  a0 := Tryz.isAgg0
  z0 := Tryz.sizeOf0
  v0 := Tryz.zeroValue0
  t3 := Tryz.underlying3
  a3 := Tryz.isAgg3
  z3 := Tryz.sizeOf3
  v3 := Tryz.zeroValue3
  t4 := Tryz.underlying4
  a4 := Tryz.isAgg4
  z4 := Tryz.sizeOf4
  v4 := Tryz.zeroValue4
  t5 := Tryz.underlying5
  a5 := Tryz.isAgg5
  z5 := Tryz.sizeOf5
  v5 := Tryz.zeroValue5
  t9 := Tryz.underlying9
  a9 := Tryz.isAgg9
  z9 := Tryz.sizeOf9
  v9 := Tryz.zeroValue9
  t22 := Tryz.underlying53
  a22 := Tryz.isAgg53
  z22 := Tryz.sizeOf53
  v22 := Tryz.zeroValue53
  t25 := Tryz.underlying142
  a25 := Tryz.isAgg142
  z25 := Tryz.sizeOf142
  v25 := Tryz.zeroValue142
  t39 := Tryz.underlying103
  a39 := Tryz.isAgg103
  z39 := Tryz.sizeOf103
  v39 := Tryz.zeroValue103
  t45 := Tryz.underlying162
  a45 := Tryz.isAgg162
  z45 := Tryz.sizeOf162
  v45 := Tryz.zeroValue162
  t46 := Tryz.underlying163
  a46 := Tryz.isAgg163
  z46 := Tryz.sizeOf163
  v46 := Tryz.zeroValue163
  t50 := Tryz.underlying137
  a50 := Tryz.isAgg137
  z50 := Tryz.sizeOf137
  v50 := Tryz.zeroValue137
  t53 := Tryz.underlying169
  a53 := Tryz.isAgg169
  z53 := Tryz.sizeOf169
  v53 := Tryz.zeroValue169
  t55 := Tryz.underlying171
  a55 := Tryz.isAgg171
  z55 := Tryz.sizeOf171
  v55 := Tryz.zeroValue171
  t66 := Tryz.underlying184
  a66 := Tryz.isAgg184
  z66 := Tryz.sizeOf184
  v66 := Tryz.zeroValue184
  t70 := Tryz.underlying188
  a70 := Tryz.isAgg188
  z70 := Tryz.sizeOf188
  v70 := Tryz.zeroValue188
  t76 := Tryz.underlying193
  a76 := Tryz.isAgg193
  z76 := Tryz.sizeOf193
  v76 := Tryz.zeroValue193
  t77 := Tryz.underlying194
  a77 := Tryz.isAgg194
  z77 := Tryz.sizeOf194
  v77 := Tryz.zeroValue194
open Go.Shelf Go.RowKit Go.Sort

instance : Inhabited Edge := ⟨⟨0, 0, 0⟩⟩
def encE (x : Edge) : List Value := [.int .i64 x.From, .int .i64 x.To, .int .i64 x.Kind]
theorem cmpI_lt (a b : Int) : cmpI a b < 0 ↔ a < b := by unfold cmpI; split <;> (try split) <;> omega
theorem cmpI_zero (a b : Int) : cmpI a b = 0 ↔ a = b := by unfold cmpI; split <;> (try split) <;> omega
theorem cmpE_lt (x y : Edge) : cmpE x y < 0 ↔ x.From < y.From ∨ (x.From = y.From ∧ (x.To < y.To ∨ (x.To = y.To ∧ x.Kind < y.Kind))) := by
  unfold cmpE orI
  have a1 := cmpI_lt x.From y.From; have a2 := cmpI_lt x.To y.To; have a3 := cmpI_lt x.Kind y.Kind
  have b1 := cmpI_zero x.From y.From; have b2 := cmpI_zero x.To y.To
  by_cases h1 : cmpI x.From y.From = 0
  · rw [if_neg (by simpa using h1)]
    have e1 := b1.1 h1
    by_cases h2 : cmpI x.To y.To = 0
    · rw [if_neg (by simpa using h2), a3]
      have e2 := b2.1 h2
      omega
    · rw [if_pos h2, a2]
      have e2 : x.To ≠ y.To := fun h => h2 (b2.2 h)
      omega
  · rw [if_pos h1, a1]
    have e1 : x.From ≠ y.From := fun h => h1 (b1.2 h)
    omega
theorem ltE_iff (x y : Edge) : ltOf cmpE x y = true ↔ x.From < y.From ∨ (x.From = y.From ∧ (x.To < y.To ∨ (x.To = y.To ∧ x.Kind < y.Kind))) := by
  unfold ltOf
  rw [decide_eq_true_iff]
  exact cmpE_lt x y
theorem ltE_false (x y : Edge) : ltOf cmpE x y = false ↔ ¬ (x.From < y.From ∨ (x.From = y.From ∧ (x.To < y.To ∨ (x.To = y.To ∧ x.Kind < y.Kind)))) := by
  rw [← ltE_iff]; simp
theorem swoE : SWO (ltOf cmpE) where
  irrefl x := by rw [ltE_false]; omega
  trans x y z h1 h2 := by rw [ltE_iff] at *; omega
  ntrans x y z h1 h2 := by rw [ltE_false] at *; omega
theorem totE (x y : Edge) (h1 : ltOf cmpE x y = false) (h2 : ltOf cmpE y x = false) : x = y := by
  rw [ltE_false] at h1 h2
  cases x; cases y
  simp only at h1 h2
  rw [Edge.mk.injEq]
  omega
def srtE (L : List Edge) : List Edge := L.mergeSort fun x y => !(ltOf cmpE) y x
theorem srtE_len (L : List Edge) : (srtE L).length = L.length := List.length_mergeSort L
theorem srtE_perm (L : List Edge) : (srtE L).Perm L := List.mergeSort_perm L _
theorem aggE (w : World) : (isAgg 86).run Tryz.prog w = .ok true w := by kernel_rfl
theorem sizeE (w : World) : (Go.sizeOf 86).run Tryz.prog w = .ok 3 w := by kernel_rfl
theorem entersE (args : Array Value) (w : World) : (callFunc 126 args).run Tryz.prog w = .ok (.enter 126 args) w := enters_of Tryz.func126 (by kernel_rfl) rfl args w
theorem holdsE {w : World} {S : Nat → Prop} {g : Nat} {e : TypeId} {cur : Array Value} {L : List Edge} (hB : Blk w g e cur) (hr : RowAt tEdge w S g 0 L) : HoldsK encE 3 w g 0 L.toArray := fun j hj => by
  rw [size_flatK, List.size_toArray] at hj
  refine ⟨?_, hB.frozen _⟩
  have hk : j / 3 < L.length := by omega
  obtain ⟨cs, hcs, hc⟩ := hr (j / 3) hk
  obtain rfl := hcs
  rw [get_flatK _ _ _ _ (by simpa using hj)]
  have e1 : L.toArray[j / 3]! = L[j / 3] := by rw [getElem!_pos _ _ (by simpa using hk)]; simp
  rw [e1]
  have hm : j % 3 < 3 := Nat.mod_lt _ (by decide)
  have e2 : (encE L[j / 3])[j % 3]? = some (encE L[j / 3])[j % 3]! := by
    rw [List.getElem!_eq_getElem?_getD, List.getElem?_eq_getElem (show j % 3 < (encE L[j / 3]).length from hm)]; rfl
  have e3 := hc (j % 3) _ e2
  have e4 : 0 + j / 3 * 3 + j % 3 = 0 + j := by omega
  simp only [tEdge, flat] at e3
  rw [e4] at e3
  exact e3
theorem rowE {w : World} {S : Nat → Prop} {g : Nat} {L : List Edge} (h : HoldsK encE 3 w g 0 L.toArray) : RowAt tEdge w S g 0 L := fun k hk => by
  refine ⟨encE L[k], rfl, fun j u hu => ?_⟩
  have hj : j < 3 := by have := (List.getElem?_eq_some_iff.1 hu).1; simpa [encE] using this
  have := (h.cell (i := k) (c := j) (by simpa using hk) hj).1
  have e1 : L.toArray[k]! = L[k] := by rw [getElem!_pos _ _ (by simpa using hk)]; simp
  rw [e1] at this
  have e2 : (encE L[k])[j]! = u := by rw [List.getElem!_eq_getElem?_getD, hu]; rfl
  rw [e2] at this
  exact this
theorem blk_sorted {w : World} {g : Nat} {e : TypeId} {cur : Array Value} (hB : Blk w g e cur) (n : Nat) (d : Array Edge) (os : Array Obj) : ∃ cur', cur'.size = cur.size ∧ Blk (sortWorldK encE 3 w g 0 n d os) g e cur' := by
  refine ⟨putCells id 0 (flatK encE 3 d) cur, by simp [putCells], ?_⟩
  have hlt := hB.lt
  unfold Blk at *
  unfold sortWorldK putRowK putRow mapBlock grow Sort.ahead
  simp only [Array.getElem?_append, Array.size_modify, hlt, if_true, Array.getElem?_modify, hB, Option.map_some, onCells]
theorem only_sorted {w : World} {g : Nat} (hg : g < w.heap.size) (n : Nat) (d : Array Edge) (os : Array Obj) : Only (fun b => b = g) w (sortWorldK encE 3 w g 0 n d os) := by
  refine ⟨rfl, rfl, rfl, ?_, fun i hi hn => ?_⟩
  · unfold sortWorldK putRowK putRow mapBlock grow Sort.ahead
    simp
  · have hne : ¬ g = i := fun h => hn h.symm
    unfold sortWorldK putRowK putRow mapBlock grow Sort.ahead
    simp only [Array.getElem?_append, Array.size_modify, hi, if_true, Array.getElem?_modify, hne, if_false]
theorem sortE_own (W : World) (S : Nat → Prop) (L : List Edge) (v : Value) (hS : ∀ b, S b → Old W b) (hL : L.length ≤ 1048576) (h : Own tEdge 86 W S L v) :
    Calls Tryz.prog 125 #[v, .func (.func 126) #[] #[]] W fun e w' => e = .returned (.tuple #[]) ∧ Own tEdge 86 w' S (srtE L) v ∧ Only S W w' := by
  rcases h with ⟨rfl, rfl⟩ | ⟨g, cap, cur, S', rfl, hg, hB, h1, h2, h3, h4, h5⟩
  · refine Calls.mono (AnyF.slices_SortFunc_none sortELays none 0 _ W) ?_
    rintro e w' ⟨rfl, rfl⟩
    exact ⟨rfl, .inl ⟨rfl, List.eq_nil_of_length_eq_zero (srtE_len [])⟩, Only.refl _ _⟩
  · have hH := holdsE hB h5
    refine Calls.mono (AnyQ.slices_SortFunc_total sortELays 3 aggE sizeE encE (fun _ => rfl) (fun x v hv => by simp [encE] at hv; rcases hv with rfl | rfl | rfl <;> rfl) cmpE swoE 126 #[] g 0 cap L.toArray W entersE (fun m os dk _ x y => compare_any x y _) hH hB.lt (by simp; omega) totE) ?_
    rintro e w' ⟨rfl, n, os, rfl⟩
    obtain ⟨cur', hs', hB'⟩ := blk_sorted hB n (srtE L).toArray os
    refine ⟨rfl, .inr ⟨g, cap, cur', fun _ => False, by rw [srtE_len], hg, hB', by rw [srtE_len]; exact h1, h2, by rw [hs']; exact h3, fun _ h => h.elim, rowE ?_⟩, (only_sorted hB.lt n _ os).mono fun k hk => by rw [hk]; exact hg⟩
    exact holdsK_sortWorldK_c encE 3 W g 0 L.toArray (srtE L).toArray n os hH hB.lt (by simp [srtE_len])
theorem clip_Edge (n : Nat) (A : Option Addr) (c : Nat) (w : World) (hl : n ≤ c) (hc : c ≤ maxLen) :
    Calls Tryz.prog 127 #[.slice A n c] w fun e w' => e = .returned (.slice A n n) ∧ w = w' := by
  unfold maxLen at hc
  have h1 : (0 : Int) ≤ (n : Int) := by omega
  have h2 : (n : Int) ≤ (c : Int) := by omega
  go_enter Tryz.func127, Tryz.ntmps127
  go_wp2
  go_ret
  exact ⟨rfl, rfl⟩
def gE (xs : List Edge) (j : Nat) : Edge := xs.getD j ⟨0, 0, 0⟩
theorem gE_eq {xs : List Edge} {j : Nat} (h : j < xs.length) : gE xs j = xs[j] := by simp [gE, h]
def sameE (x y : Edge) : Bool := x.From == y.From && x.To == y.To && x.Kind == y.Kind
theorem sameE_iff (x y : Edge) : sameE x y = true ↔ x = y := by
  cases x; cases y
  simp [sameE, and_assoc]
/-- What Compact keeps of the first j. -/
def keptE (xs : List Edge) : Nat → List Edge
  | 0 => []
  | j + 1 => keptE xs j ++ (if decide (0 < j) && sameE (gE xs j) (gE xs (j - 1)) then [] else [gE xs j])
theorem keptE_all {xs : List Edge} : ∀ {k : Nat}, k ≤ xs.length → (∀ i, 0 < i → i < k → sameE (gE xs i) (gE xs (i - 1)) = false) → keptE xs k = xs.take k
  | 0, _, _ => rfl
  | k + 1, hk, h => by
    rw [keptE, keptE_all (by omega) (fun i h0 h1 => h i h0 (by omega)), List.take_succ_eq_append_getElem (by omega)]
    congr 1
    by_cases h0 : 0 < k
    · rw [h k h0 (by omega)]; simp [gE_eq (show k < xs.length by omega)]
    · rw [if_neg (by simp [h0])]; simp [gE_eq (show k < xs.length by omega)]
theorem keptE_len (xs : List Edge) : ∀ k, (keptE xs k).length ≤ k
  | 0 => Nat.le_refl _
  | k + 1 => by
    have := keptE_len xs k
    rw [keptE, List.length_append]
    split <;> simp <;> omega
/-- The cells of an edge at place k. -/
def EdAt (cur : Array Value) (k : Nat) (x : Edge) : Prop := OpAt cur k ⟨x.From, x.To, x.Kind⟩
theorem edAt_of_row {w : World} {S : Nat → Prop} {g : Nat} {e : TypeId} {cur : Array Value} {xs : List Edge} (hB : Blk w g e cur) (h : RowAt tEdge w S g 0 xs) : ∀ k, k < xs.length → EdAt cur k (gE xs k) := fun k hk => by
  obtain ⟨cs, hr, hc⟩ := h k hk
  obtain rfl := hr
  have h0 := hc 0 _ rfl; have h1 := hc 1 _ rfl; have h2 := hc 2 _ rfl
  simp only [tEdge, flat, Nat.zero_add, Nat.add_zero] at h0 h1 h2
  rw [hB.cell] at h0 h1 h2
  rw [gE_eq hk]
  exact ⟨h0, h1, h2⟩
theorem row_of_edAt {w : World} {S : Nat → Prop} {g : Nat} {e : TypeId} {cur : Array Value} {xs : List Edge} (hB : Blk w g e cur) (h : ∀ k (hk : k < xs.length), EdAt cur k xs[k]) : RowAt tEdge w S g 0 xs := fun k hk => by
  obtain ⟨h0, h1, h2⟩ := h k hk
  refine ⟨_, rfl, fun j u hu => ?_⟩
  have hj : j < 3 := by have := (List.getElem?_eq_some_iff.1 hu).1; simpa using this
  rw [hB.cell]
  simp only [tEdge, flat, Nat.zero_add]
  match j, hj, hu with
  | 0, _, hu => simp at hu; subst hu; simpa using h0
  | 1, _, hu => simp at hu; subst hu; exact h1
  | 2, _, hu => simp at hu; subst hu; exact h2
theorem zeroEdgeW (w : World) : (zeroValue 86).run Tryz.prog w = .ok (.agg #[.int .i64 0, .int .i64 0, .int .i64 0]) w := by kernel_rfl
/-- Edges that are not the same differ in a part. -/
theorem sameE_false {a b c a' b' c' : Int} (h : sameE ⟨a, b, c⟩ ⟨a', b', c'⟩ = false) : (a == a') = false ∨ ((a == a') = true ∧ (b == b') = false) ∨ ((a == a') = true ∧ (b == b') = true ∧ (c == c') = false) := by
  unfold sameE at h
  simp only at h
  cases h1 : a == a' <;> cases h2 : b == b' <;> cases h3 : c == c' <;> simp [h1, h2, h3] at h ⊢
set_option maxRecDepth 10000 in
set_option maxHeartbeats 1000000 in
theorem compact_own (L : List Edge) (g cap : Nat) (cur : Array Value) (W : World) (hL : L.length ≤ 1048576) (hB : Blk W g 86 cur) (hc : L.length ≤ cap) (hm : cap ≤ maxLen) (hs : cur.size = cap * 3) (hr : ∀ k, k < L.length → EdAt cur k (gE L k)) :
    Calls Tryz.prog 128 #[.slice (some ⟨g, 0, none⟩) L.length cap] W fun e w' => e = .returned (.slice (some ⟨g, 0, none⟩) (keptE L L.length).length cap) ∧ (∃ cur', Blk w' g 86 cur' ∧ ∀ k (hk : k < (keptE L L.length).length), EdAt cur' k (keptE L L.length)[k]) ∧ Only (fun b => b = g) W w' := by
  have hq : L.length ≤ 9223372036854775807 := by omega
  have hcm : cap ≤ 9223372036854775807 := by simpa [maxLen] using hm
  have HB := hide hB; have HR := hide hr; have HS := hide hs
  have HFin := hide (show (∀ i, 0 < i → i < L.length → sameE (gE L i) (gE L (i - 1)) = false) → keptE L L.length = L from fun h => by rw [keptE_all (Nat.le_refl _) h, List.take_length])
  clear hB hr hs hm
  by_cases h2 : L.length < 2
  · have hI : (L.length : Int) < 2 := by omega
    have HE := hide (HFin.out fun i h0 h1 => by omega)
    clear HFin
    go_enter Tryz.func128, Tryz.ntmps128
    go_wp2
    go_ret
    rw [HE.out]
    exact ⟨rfl, ⟨cur, HB.out, fun k hk => by rw [← gE_eq hk]; exact HR.out k hk⟩, Only.refl _ _⟩
  · have hI : ¬ (L.length : Int) < 2 := by omega
    go_enter Tryz.func128, Tryz.ntmps128
    go_wp2
    go_loopw [3] (fun iv wr => ∃ m : Nat, m + 1 ≤ L.length ∧ iv = .int .i64 ((m : Int) + 1) ∧ Hid (∀ i, 0 < i → i < m + 1 → sameE (gE L i) (gE L (i - 1)) = false) ∧ Hid (Blk wr g 86 cur) ∧ Hid (Only (fun b => b = g) W wr)) (fun iv _ => L.length - (intOf iv).toNat)
    case atStart => exact ⟨0, by omega, by first | rfl | go_num, fun i h0 h1 => by omega, HB.out, Only.refl _ _⟩
    case round =>
      obtain ⟨m, hm, rfl, hno, hb, ho⟩ := hrel
      have HNo := hide hno.out; have HBk := hide hb.out; have HO := hide ho.out
      clear hno hb ho
      by_cases hlt : m + 1 < L.length
      · have hki : (m : Int) + 1 < (L.length : Int) := by omega
        have hmw : IntKind.i64.wrap ((m : Int) + 1 - 1) = (m : Int) := by rw [IntKind.wrap_i64]; omega
        have hml : (m : Int) < (L.length : Int) := by omega
        have hm0 : (0 : Int) ≤ (m : Int) + 1 := by omega
        obtain ⟨a0, a1, a2⟩ := HR.out (m + 1) hlt
        obtain ⟨b0, b1, b2⟩ := HR.out m (by omega)
        rw [← HBk.out.cell] at a0 a1 a2 b0 b1 b2
        have HNx := hide (show sameE (gE L (m + 1)) (gE L m) = false → ∀ i, 0 < i → i < m + 1 + 1 → sameE (gE L i) (gE L (i - 1)) = false from fun h i h0 h1 => by
          rcases Nat.lt_succ_iff_lt_or_eq.1 h1 with h3 | rfl
          · exact HNo.out i h0 h3
          · exact h)
        have HKp := hide (show sameE (gE L (m + 1)) (gE L m) = true → keptE L (m + 2) = keptE L (m + 1) from fun h => by
          rw [keptE, if_pos (by simpa using h), List.append_nil])
        have HTk := hide (keptE_all (xs := L) (k := m + 1) (by omega) HNo.out)
        generalize gE L (m + 1) = x at a0 a1 a2 HNx HKp
        generalize gE L m = y at b0 b1 b2 HNx HKp
        obtain ⟨xf, xt, xk⟩ := x
        obtain ⟨yf, yt, yk⟩ := y
        dsimp only at a0 a1 a2 b0 b1 b2
        cases hsm : sameE ⟨xf, xt, xk⟩ ⟨yf, yt, yk⟩ with
        | false =>
          have HN2 := hide (HNx.out hsm)
          have hd := sameE_false hsm
          clear hsm HNx HKp
          rcases hd with h1 | ⟨h1, h3⟩ | ⟨h1, h3, h4⟩
          all_goals
            go_wp2_with fail
            go_quiet (fail)
            go_wp2
            go_roundw
            case rel => exact ⟨m + 1, by omega, by go_num, HN2.out, HBk.out, HO.out.drewN _⟩
            case measure => simp [intOf]; omega
        | true =>
          have HK2 := hide (HKp.out hsm)
          have hxy := (sameE_iff _ _).1 hsm
          rw [Edge.mk.injEq] at hxy
          obtain ⟨rfl, rfl, rfl⟩ := hxy
          clear hsm HNx HKp
          go_wp2_with fail
          go_quiet (fail)
          go_wp2
          go_loopw [3, 5] (fun kv jv wr => ∃ i j : Nat, m + j + 2 ≤ L.length ∧ i ≤ m + 1 + j ∧ kv = .int .i64 i ∧ jv = .int .i64 ((j : Int) + 1) ∧ Hid ((keptE L (m + j + 2)).length = i) ∧ Hid (∃ cur', Blk wr g 86 cur' ∧ cur'.size = cur.size ∧ (∀ k, k < L.length → m + 1 + j ≤ k → EdAt cur' k (gE L k)) ∧ (∀ k (hk : k < (keptE L (m + j + 2)).length), EdAt cur' k (keptE L (m + j + 2))[k])) ∧ Hid (Only (fun b => b = g) W wr)) (fun _ jv _ => L.length - (intOf jv).toNat)
          case atStart =>
            refine ⟨m + 1, 0, by omega, by omega, by go_num, by first | rfl | go_num, ?_, ?_, HO.out.drewN _⟩
            · show _ = _
              rw [show m + 0 + 2 = m + 2 from rfl, HK2.out, HTk.out, List.length_take]; omega
            · refine ⟨cur, HBk.out, rfl, fun k hk _ => HR.out k hk, fun k hk => ?_⟩
              have e : keptE L (m + 0 + 2) = L.take (m + 1) := HK2.out.trans HTk.out
              have hk2 : k < (L.take (m + 1)).length := by rw [← e]; exact hk
              have e3 : (keptE L (m + 0 + 2))[k] = gE L k := by
                rw [List.length_take] at hk2
                simp only [e, List.getElem_take]
                rw [gE_eq (by omega)]
              rw [e3]
              rw [List.length_take] at hk2
              exact HR.out k (by omega)
          case round =>
            obtain ⟨i, j, hj, hi, rfl, rfl, hF, hX, hO2⟩ := hrel
            clear a0 a1 a2 b0 b1 b2
            obtain ⟨cur', hB', hs', hrest, hdone⟩ := hX.out
            have HD := hide hdone
            have HF := hide hF.out
            have HO2 := hide hO2.out
            clear hF hO2 hX hdone
            by_cases hlt2 : m + j + 2 < L.length
            · have hja : (0 : Int) ≤ (j : Int) + 1 := by omega
              have hjb : (j : Int) + 1 < ((L.length - (m + 1) : Nat) : Int) := by omega
              have hjc : (j : Int) < ((L.length - (m + 1) : Nat) : Int) := by omega
              have hjw : IntKind.i64.wrap ((j : Int) + 1 - 1) = (j : Int) := by rw [IntKind.wrap_i64]; omega
              have hil : (i : Int) < (L.length : Int) := by omega
              have hgw : g < wr.heap.size := hB'.lt
              have hzi : i * 3 + 2 < cur'.size := by have := HS.out; omega
              obtain ⟨a0, a1, a2⟩ := hrest (m + j + 2) hlt2 (by omega)
              obtain ⟨b0, b1, b2⟩ := hrest (m + j + 1) (by omega) (by omega)
              obtain ⟨⟨w0, k0⟩, f0⟩ := hB'.there (i := i * 3) (by omega)
              obtain ⟨⟨w1, k1⟩, f1⟩ := hB'.there (i := i * 3 + 1) (by omega)
              obtain ⟨⟨w2, k2⟩, f2⟩ := hB'.there (i := i * 3 + 2) (by omega)
              have HKs := hide (show keptE L (m + j + 3) = keptE L (m + j + 2) ++ (if sameE (gE L (m + j + 2)) (gE L (m + j + 1)) then [] else [gE L (m + j + 2)]) by
                rw [keptE]
                simp only [show 0 < m + j + 2 by omega, decide_true, Bool.true_and]
                rfl)
              have HB' := hide (show Blk wr g 86 cur' ∧ cur'.size = cur.size ∧ (∀ k, k < L.length → m + 1 + j ≤ k → EdAt cur' k (gE L k)) from ⟨hB', hs', hrest⟩)
              rw [← hB'.cell] at a0 a1 a2 b0 b1 b2
              rw [show (m + j + 2) * 3 = (m + 1) * 3 + (j + 1) * 3 by omega] at a0 a1 a2
              rw [show (m + j + 1) * 3 = (m + 1) * 3 + j * 3 by omega] at b0 b1 b2
              clear hB' hs' hrest
              generalize hx : gE L (m + j + 2) = x at a0 a1 a2 HKs
              generalize gE L (m + j + 1) = y at b0 b1 b2 HKs
              have Hx := hide hx
              clear hx
              obtain ⟨xf, xt, xk⟩ := x
              obtain ⟨yf, yt, yk⟩ := y
              dsimp only at a0 a1 a2 b0 b1 b2
              cases hsm : sameE ⟨xf, xt, xk⟩ ⟨yf, yt, yk⟩ with
              | true =>
                rw [hsm] at HKs
                simp only [if_true, List.append_nil] at HKs
                have hxy := (sameE_iff _ _).1 hsm
                rw [Edge.mk.injEq] at hxy
                obtain ⟨rfl, rfl, rfl⟩ := hxy
                clear hsm
                go_wp2_with fail
                go_quiet (fail)
                go_wp2
                go_roundw
                case rel =>
                  refine ⟨i, j + 1, by omega, by omega, rfl, by go_num, by show _ = _; rw [show m + (j + 1) + 2 = m + j + 3 by omega, HKs.out]; exact HF.out, ⟨cur', HB'.out.1, HB'.out.2.1, fun k hk h => HB'.out.2.2 k hk (by omega), ?_⟩, HO2.out.drewN _⟩
                  have hh := HD.out
                  rw [← HKs.out] at hh
                  exact hh
                case measure => simp [intOf]; omega
              | false =>
                rw [hsm] at HKs
                simp only [Bool.false_eq_true, if_false] at HKs
                have hd := sameE_false hsm
                clear hsm
                rcases hd with h1 | ⟨h1, h3⟩ | ⟨h1, h3, h4⟩
                all_goals
                  go_wp2_with fail
                  go_quiet (fail)
                  go_wp2
                  go_roundw
                  case rel =>
                    refine ⟨i + 1, j + 1, by omega, by omega, by go_num, by go_num, ?_, ⟨_, ((HB'.out.1.set_ (i * 3) (.int .i64 xf)).set_ (i * 3 + 1) (.int .i64 xt)).set_ (i * 3 + 2) (.int .i64 xk), by simp [HB'.out.2.1], fun k hk h => opAt_other _ _ _ (HB'.out.2.2 k hk (by omega)) (by omega), fun k hk => ?_⟩, ?_⟩
                    · show _ = _
                      rw [show m + (j + 1) + 2 = m + j + 3 by omega, HKs.out, List.length_append, HF.out]; rfl
                    · have hFl := HF.out
                      have hk2 : k < (keptE L (m + j + 2) ++ [(⟨xf, xt, xk⟩ : Edge)]).length := by rw [← HKs.out]; exact hk
                      have e : (keptE L (m + (j + 1) + 2))[k] = (keptE L (m + j + 2) ++ [(⟨xf, xt, xk⟩ : Edge)])[k] := by
                        have e9 : keptE L (m + (j + 1) + 2) = keptE L (m + j + 2) ++ [(⟨xf, xt, xk⟩ : Edge)] := HKs.out
                        simp only [e9]
                      rw [e]
                      rw [List.length_append, List.length_singleton] at hk2
                      by_cases hki : k < (keptE L (m + j + 2)).length
                      · rw [List.getElem_append_left hki]
                        exact opAt_other _ _ _ (HD.out k hki) (by omega)
                      · obtain rfl : k = i := by omega
                        rw [List.getElem_append_right (by omega)]
                        simp only [hFl, Nat.sub_self, List.getElem_cons_zero]
                        exact opAt_put (o := ⟨xf, xt, xk⟩) hzi
                    · exact ((((HO2.out.drewN _).setCell (p := ⟨g, i * 3, none⟩) rfl _).setCell (p := ⟨g, i * 3 + 1, none⟩) rfl _).setCell (p := ⟨g, i * 3 + 2, none⟩) rfl _)
                  case measure => simp [intOf]; omega
            · have hje : m + j + 2 = L.length := by omega
              have hci : ¬ cap = i := by omega
              obtain ⟨w3, cur3, hcl, hB3, hs3, hk3, ho3⟩ := run_clear_any (P := Tryz.prog) 53 (.agg #[.int .i64 0, .int .i64 0, .int .i64 0]) Tryz.underlying53 zeroEdgeW (by intro u hu; simp [Value.cells] at hu; subst hu; rfl) (i * 3) (L.length - i) (cap - i) (by omega) hB' (by simp only [Value.cells]; show i * 3 + (L.length - i) * 3 ≤ _; have := HS.out; omega)
              have H3 := hide (show Blk w3 g _ cur3 ∧ cur3.size = cur'.size ∧ (∀ j, j < i * 3 → cur3[j]? = cur'[j]?) ∧ Only (fun b => b = g) wr w3 from ⟨hB3, hs3, hk3, ho3⟩)
              have HD2 := hide (show ∀ k (hk : k < (keptE L L.length).length), EdAt cur' k (keptE L L.length)[k] by have h9 := HD.out; rw [hje] at h9; exact h9)
              have HFe := hide (show (keptE L L.length).length = i by rw [← hje]; exact HF.out)
              have hib : (i : Int) ≤ (cap : Int) := by omega
              have hib2 : (i : Int) ≤ (L.length : Int) := by omega
              have hjn : ¬ (j : Int) + 1 < ((L.length - (m + 1) : Nat) : Int) := by omega
              clear hB3 hs3 hk3 ho3 hrest hB' hs' hje HD HF
              go_wp2
              go_ret
              refine ⟨by rw [HFe.out]; rfl, ⟨cur3, H3.out.1, fun k hk => ?_⟩, HO2.out.trans H3.out.2.2.2⟩
              have hki : k < i := by rw [← HFe.out]; exact hk
              obtain ⟨a0, a1, a2⟩ := HD2.out k hk
              exact ⟨(H3.out.2.2.1 _ (by omega)).trans a0, (H3.out.2.2.1 _ (by omega)).trans a1, (H3.out.2.2.1 _ (by omega)).trans a2⟩
      · have HE := hide (HFin.out (fun i h0 h1 => HNo.out i h0 (by omega)))
        have hkn : ¬ (m : Int) + 1 < (L.length : Int) := by omega
        go_wp2_with fail
        go_ret
        rw [HE.out]
        exact ⟨rfl, ⟨cur, HBk.out, fun k hk => by rw [← gE_eq hk]; exact HR.out k hk⟩, HO.out⟩
def ltE (x y : Edge) : Prop := x.From < y.From ∨ (x.From = y.From ∧ (x.To < y.To ∨ (x.To = y.To ∧ x.Kind < y.Kind)))
theorem Edge.ext3 {x y : Edge} (h1 : x.From = y.From) (h2 : x.To = y.To) (h3 : x.Kind = y.Kind) : x = y := by
  cases x; cases y; simp at h1 h2 h3; simp [h1, h2, h3]
theorem ltE_irr {x : Edge} : ¬ ltE x x := by unfold ltE; omega
theorem ltE_trans {x y z : Edge} (h1 : ltE x y) (h2 : ltE y z) : ltE x z := by unfold ltE at *; omega
theorem ltE_tot {x y : Edge} (h1 : ¬ ltE x y) (h2 : ¬ ltE y x) : x = y := by
  unfold ltE at *
  exact Edge.ext3 (by omega) (by omega) (by omega)
/-- Sorted lists with the same members are the same. -/
theorem sorted_eq : ∀ {A B : List Edge}, A.Pairwise ltE → B.Pairwise ltE → (∀ x, x ∈ A ↔ x ∈ B) → A = B
  | [], [], _, _, _ => rfl
  | [], y :: B, _, _, h => absurd ((h y).2 (by simp)) (by simp)
  | x :: A, [], _, _, h => absurd ((h x).1 (by simp)) (by simp)
  | x :: A, y :: B, ha, hb, h => by
    rw [List.pairwise_cons] at ha hb
    have hxy : x = y := by
      rcases List.mem_cons.1 ((h x).1 (by simp)) with h1 | h1
      · exact h1
      · rcases List.mem_cons.1 ((h y).2 (by simp)) with h2 | h2
        · exact h2.symm
        · exact absurd (ltE_trans (hb.1 _ h1) (ha.1 _ h2)) ltE_irr
    subst hxy
    congr 1
    refine sorted_eq ha.2 hb.2 fun z => ?_
    constructor
    · intro hz
      rcases List.mem_cons.1 ((h z).1 (List.mem_cons_of_mem _ hz)) with rfl | h1
      · exact absurd (ha.1 _ hz) ltE_irr
      · exact h1
    · intro hz
      rcases List.mem_cons.1 ((h z).2 (List.mem_cons_of_mem _ hz)) with rfl | h1
      · exact absurd (hb.1 _ hz) ltE_irr
      · exact h1
theorem srtE_pair (L : List Edge) : (srtE L).Pairwise fun x y => ltOf cmpE y x = false := by
  have h := List.pairwise_mergeSort (le := fun x y : Edge => !(ltOf cmpE) y x)
    (fun a b c h1 h2 => by
      simp only [Bool.not_eq_true', ltE_false] at *
      omega)
    (fun a b => by
      cases h : ltOf cmpE b a with
      | false => rfl
      | true =>
        have h2 : ltOf cmpE a b = false := by
          rw [ltE_false]
          rw [ltE_iff] at h
          omega
        simp [h2]) L
  exact h.imp fun h1 => by simpa using h1
theorem keptE_mem {xs : List Edge} {x : Edge} : ∀ {k : Nat}, k ≤ xs.length → (x ∈ keptE xs k ↔ ∃ i, i < k ∧ x = gE xs i)
  | 0, _ => by simp [keptE]
  | k + 1, hk => by
    rw [keptE, List.mem_append, keptE_mem (show k ≤ xs.length by omega)]
    constructor
    · rintro (⟨i, hi, rfl⟩ | h)
      · exact ⟨i, by omega, rfl⟩
      · split at h
        · cases h
        · exact ⟨k, by omega, by simpa using h⟩
    · rintro ⟨i, hi, rfl⟩
      rcases Nat.lt_succ_iff_lt_or_eq.1 hi with h1 | rfl
      · exact .inl ⟨i, h1, rfl⟩
      · split
        · rename_i hc
          simp only [Bool.and_eq_true, decide_eq_true_eq, sameE_iff] at hc
          exact .inl ⟨i - 1, by omega, hc.2⟩
        · exact .inr (by simp)
theorem keptE_pair {xs : List Edge} (h : xs.Pairwise fun x y => ltOf cmpE y x = false) : ∀ {k : Nat}, k ≤ xs.length → (keptE xs k).Pairwise ltE
  | 0, _ => List.Pairwise.nil
  | k + 1, hk => by
    rw [keptE, List.pairwise_append]
    refine ⟨keptE_pair h (by omega), by split <;> simp, fun a ha b hb => ?_⟩
    split at hb
    · cases hb
    · rename_i hc
      simp only [List.mem_singleton] at hb
      subst hb
      obtain ⟨i, hi, rfl⟩ := (keptE_mem (by omega)).1 ha
      have hp : ∀ i j, i < j → j < xs.length → ltOf cmpE (gE xs j) (gE xs i) = false := fun i j hij hj => by
        rw [gE_eq hj, gE_eq (by omega)]
        exact List.pairwise_iff_getElem.1 h i j (by omega) hj hij
      have h1 : ltOf cmpE (gE xs k) (gE xs (k - 1)) = false := hp _ _ (by omega) (by omega)
      have hne : gE xs k ≠ gE xs (k - 1) := fun h9 => hc (by simp only [Bool.and_eq_true, decide_eq_true_eq, sameE_iff]; exact ⟨by omega, h9⟩)
      have h2 : i = k - 1 ∨ ltOf cmpE (gE xs (k - 1)) (gE xs i) = false := by
        rcases Nat.lt_or_ge i (k - 1) with h3 | h3
        · exact .inr (hp _ _ h3 (by omega))
        · exact .inl (by omega)
      have h3 : ltE (gE xs (k - 1)) (gE xs k) := by
        rw [ltE_false] at h1
        exact Classical.byContradiction fun h9 => hne (ltE_tot (x := gE xs k) (y := gE xs (k - 1)) h1 h9)
      rcases h2 with rfl | h2
      · exact h3
      · rw [ltE_false] at h2
        unfold ltE at *
        omega
theorem allEd_pair : allEd.Pairwise ltE := by
  have h : (allEd.Pairwise fun x y : Edge => (decide (x.From < y.From) || (x.From == y.From && (decide (x.To < y.To) || (x.To == y.To && decide (x.Kind < y.Kind))))) = true) := by decide +kernel
  exact h.imp fun h1 => by
    simp only [Bool.or_eq_true, Bool.and_eq_true, decide_eq_true_eq, beq_iff_eq] at h1
    exact h1
theorem allEd_mem {e : Edge} (h : ∃ f t : Nat, e.From = (f : Int) ∧ e.To = (t : Int) ∧ f < 6 ∧ t < 6 ∧ 1 ≤ e.Kind ∧ e.Kind ≤ 4) : e ∈ allEd := by
  obtain ⟨f, t, h1, h2, hf, ht, hk1, hk2⟩ := h
  unfold allEd
  rw [List.mem_flatMap]
  refine ⟨f, List.mem_range.2 hf, ?_⟩
  rw [List.mem_flatMap]
  refine ⟨t, List.mem_range.2 ht, ?_⟩
  have : e.Kind = 1 ∨ e.Kind = 2 ∨ e.Kind = 3 ∨ e.Kind = 4 := by omega
  obtain ⟨a, b, c⟩ := e
  simp only at h1 h2 this
  subst h1; subst h2
  rcases this with rfl | rfl | rfl | rfl <;> simp
theorem hasEd_iff (L : List Edge) (e : Edge) : hasEd L e = true ↔ e ∈ L := by
  unfold hasEd
  rw [List.any_eq_true]
  constructor
  · rintro ⟨x, hx, h⟩
    have := (sameE_iff x e).1 h
    rwa [← this]
  · intro h
    exact ⟨e, h, (sameE_iff e e).2 rfl⟩
theorem canE_mem {L : List Edge} {e : Edge} : e ∈ canE L ↔ e ∈ allEd ∧ e ∈ L := by
  unfold canE
  rw [List.mem_filter, hasEd_iff]
theorem canE_pair (L : List Edge) : (canE L).Pairwise ltE := allEd_pair.filter _
theorem gE_mem {xs : List Edge} {x : Edge} : (∃ i, i < xs.length ∧ x = gE xs i) ↔ x ∈ xs := by
  constructor
  · rintro ⟨i, hi, rfl⟩
    rw [gE_eq hi]; exact List.getElem_mem hi
  · intro h
    obtain ⟨i, hi, rfl⟩ := List.getElem_of_mem h
    exact ⟨i, hi, (gE_eq hi).symm⟩
theorem kept_canE {L : List Edge} (h : ∀ e ∈ L, ∃ f t : Nat, e.From = (f : Int) ∧ e.To = (t : Int) ∧ f < 6 ∧ t < 6 ∧ 1 ≤ e.Kind ∧ e.Kind ≤ 4) : keptE (srtE L) (srtE L).length = canE L := by
  refine sorted_eq (keptE_pair (srtE_pair L) (Nat.le_refl _)) (canE_pair L) fun x => ?_
  rw [keptE_mem (Nat.le_refl _), gE_mem, (srtE_perm L).mem_iff, canE_mem]
  exact ⟨fun hx => ⟨allEd_mem (h x hx), hx⟩, fun hx => hx.2⟩
set_option maxRecDepth 10000 in
set_option maxHeartbeats 1000000 in
theorem compact_any (M : List Edge) (v : Value) (W : World) (S : Nat → Prop) (hM : M.length ≤ 1048576) (h : Own tEdge 86 W S M v) :
    Calls Tryz.prog 128 #[v] W fun e w' => ∃ A c, e = .returned (.slice A (keptE M M.length).length c) ∧ (keptE M M.length).length ≤ c ∧ c ≤ maxLen ∧ Row tEdge w' S A (keptE M M.length) ∧ Only S W w' := by
  rcases h with ⟨rfl, rfl⟩ | ⟨g, cap, cur, S', rfl, hg, hB, h1, h2, h3, h4, h5⟩
  · go_enter Tryz.func128, Tryz.ntmps128
    go_wp2
    go_ret
    exact ⟨none, 0, rfl, Nat.le_refl _, by simp [maxLen], Row.nil, Only.refl _ _⟩
  · refine (compact_own M g cap cur W hM hB h1 h2 h3 (edAt_of_row hB h5)).mono ?_
    rintro e w' ⟨rfl, ⟨cur', hB', hr'⟩, ho⟩
    exact ⟨some ⟨g, 0, none⟩, cap, rfl, Nat.le_trans (keptE_len M _) h1, h2, fun _ => ⟨g, 0, rfl, hg, row_of_edAt hB' hr'⟩, ho.mono fun k hk => by rw [hk]; exact hg⟩
set_option maxRecDepth 10000 in
set_option maxHeartbeats 1000000 in
theorem sortC_holds : SortC := fun W K L v hO hL hE hK => by
  have hlen : L.length ≤ 1048576 := by omega
  have HS := hide (sortE_own W (fun b => K b ∧ Old W b) L v (fun b h => h.2) hlen hO)
  have HE := hide (kept_canE hE)
  have hsl := srtE_len L
  have HLn := hide (show (srtE L).length ≤ 1048576 by omega)
  clear hsl hO hE hL hlen
  generalize hs : srtE L = M at HS HE HLn
  clear hs
  go_enter Tryz.func93, Tryz.ntmps93
  go_wp2_with (first | (go_at_call 125; refine HS.out.mono ?_; rintro e w1 ⟨rfl, hO1, ho1⟩; have HO1 := hide hO1; have Ho1 := hide ho1; clear hO1 ho1) | (go_at_call 128; refine (compact_any M v _ _ HLn.out HO1.out).mono ?_; rintro e w2 ⟨A, c, rfl, hc2, hm2, hr2, ho2⟩; have HR2 := hide hr2; have Ho2 := hide ho2; clear hr2 ho2) | (go_at_call 127; refine (clip_Edge _ _ _ _ hc2 hm2).mono ?_; rintro e w3 ⟨rfl, rfl⟩))
  go_ret
  have ho := Ho1.out.trans Ho2.out
  refine ⟨_, rfl, ⟨A, (keptE M M.length).length, by rw [← HE.out]; rfl, by rw [← HE.out]; exact Nat.le_refl _, Nat.le_trans hc2 hm2, ?_⟩, ho.mono fun _ h => h.1⟩
  have hR := HR2.out
  rw [HE.out] at hR
  exact hR.mono (fun b h => ⟨h.1, Nat.lt_of_lt_of_le h.2 ho.size⟩) fun _ _ => rfl
end Go.Proofs.YtjiobgfaohldhaaGreat
