/- DrawCycleRight and DrawCycleOf: some edges, and some numbers. -/
import Derived.Test.YtnlicjgegclilaaDoorEdgD
import Derived.Test.YtnlicjgegclilaaDoorCycO
namespace Go.Proofs.YtnlicjgegclilaaDoor
open Go.RowKit
set_option linter.unusedVariables false
set_option linter.unusedSimpArgs false

theorem cycO_len (many : Int) (xs : List Edge) : (cycO many xs).length ≤ 7 := by
  unfold cycO
  split
  · rename_i h
    unfold edgesV at h
    simp only [Bool.and_eq_true, inR_iff] at h
    have := cycFrom_len xs many.toNat many.toNat 0
    omega
  · simp
def DrawnCR (w : World) (e : Ending) (w' : World) : Prop := ∃ (many : Int) (xs : List Edge) (ns : List Int) (v u : Value), e = .returned (.tuple #[.int .i64 many, v, u]) ∧ xs.length ≤ 9 ∧ ns.length ≤ 20 ∧ Sl tEdge w' (Old w') xs v ∧ Sl tInt w' (Old w') ns u ∧ Below w.heap.size w w'
theorem Sl.keepLow {α : Type} {T : Ty α} {w w' : World} {lo hi : Nat} {xs : List α} {v : Value} (h : Sl T w (In lo hi) xs v) (hb : ∀ b, lo ≤ b → b < hi → w'.heap[b]? = w.heap[b]?) : Sl T w' (In lo hi) xs v := h.mono (fun _ h => h) (fun b h => hb b h.1 h.2)
theorem sl_one_int (w : World) (a : Int) : Sl tInt (w.alloc (.cells #[.int .i64 a] 3)) (Old (w.alloc (.cells #[.int .i64 a] 3))) [a] (.slice (some ⟨w.heap.size, 0, none⟩) 1 1) :=
  ⟨_, 1, rfl, Nat.le_refl _, by simp [maxLen], fun _ => ⟨_, 0, rfl, by simp [Old], fun k hk => by
    obtain rfl : k = 0 := by simpa using hk
    refine ⟨_, rfl, fun j u hu => ?_⟩
    rw [(Blk.new w _ _).cell]
    simpa [tInt, flat] using hu⟩⟩
theorem sl_two_int (w : World) (a b : Int) : Sl tInt (w.alloc (.cells #[.int .i64 a, .int .i64 b] 3)) (Old (w.alloc (.cells #[.int .i64 a, .int .i64 b] 3))) [a, b] (.slice (some ⟨w.heap.size, 0, none⟩) 2 2) :=
  ⟨_, 2, rfl, Nat.le_refl _, by simp [maxLen], fun _ => ⟨_, 0, rfl, by simp [Old], fun k hk => by
    have hk2 : k < 2 := by simpa using hk
    match k, hk2 with
    | 0, _ =>
      refine ⟨_, rfl, fun j u hu => ?_⟩
      rw [(Blk.new w _ _).cell]
      match j, hu with
      | 0, hu => exact hu
      | j + 1, hu => cases hu
    | 1, _ =>
      refine ⟨_, rfl, fun j u hu => ?_⟩
      rw [(Blk.new w _ _).cell]
      match j, hu with
      | 0, hu => exact hu
      | j + 1, hu => cases hu⟩⟩
set_option maxRecDepth 10000 in
set_option maxHeartbeats 4000000 in
theorem drawCycleRight (bs : List Int) (A : Option Addr) (c : Nat) (w : World) (hl : bs.length ≤ 1048576) (hc : bs.length ≤ c) (hcm : c ≤ maxLen) (hA : Row tByte w (Old w) A bs) :
    Calls Tryd.prog 5 #[.slice A bs.length c] w (DrawnCR w) := by
  obtain ⟨i0, hi, hz0, hz1, hz2⟩ := info_parts infoInt_
  have HC := hide (open_any bs A c w hl hc hcm hA)
  clear hA
  go_enter Tryd.func5, Tryd.ntmps5
  go_wp2_with fail
  refine HC.out.mono ?_
  rintro e w1 ⟨R, rfl, hR0, hr1, hb1⟩
  have HB1 := hide hb1
  have HR1 := hide hr1
  have HRl := hide hr1.lt
  clear hb1 hr1 HC
  go_wp2_with fail
  refine (edges_any _ R 0 9 HR1.out (by omega) (by omega)).mono ?_
  rintro e w2 ⟨many, xs, v, rfl, _, _, hx9, hS, hr2, hg2⟩
  have HB2 := hide (below_gr HB1.out hg2 HB1.out.size hR0)
  have HR2 := hide hr2
  have HS2 := hide (show Sl tEdge w2 (In w1.heap.size w2.heap.size) xs v from hS)
  have HRl2 := hide (show R < w2.heap.size from hr2.lt)
  clear hS hr2 hg2 HR1 HB1
  obtain ⟨A2, c2, rfl, h21, h22, hr2⟩ := HS2.out
  have HC2 := hide (specCycleOf many xs A2 c2 w2 (by simp only [maxLen]; omega) (hr2.mono (fun b h => h.2) (fun _ _ => rfl)))
  clear hr2
  go_wp2_with fail
  refine HC2.out.mono ?_
  rintro e w3 ⟨u, rfl, hO3, hb3⟩
  have hlen := cycO_len many xs
  generalize cycO many xs = ns at hO3 hlen
  have HO3 := hide (show Own tInt 3 w3 (fun b => w2.heap.size ≤ b ∧ Old w3 b) ns u from hO3)
  have HB3 := hide (HB2.out.trans (hb3.mono HB2.out.size))
  have HR3 := hide (HR2.out.below hb3)
  have HS3 := hide (HS2.out.keepLow (fun b _ h => hb3.block b h))
  have HZ3 := hide hb3.size
  clear hO3 hb3 HC2 HR2 HS2 HB2
  go_wp2_with fail
  refine (odd_any _ R _ 3 HR3.out (by omega) (by omega)).mono ?_
  rintro e w4 ⟨bo, rfl, hr4, hg4⟩
  have HR4 := hide hr4
  have HB4 := hide (below_gr HB3.out hg4 HB3.out.size hR0)
  have HO4 := hide (HO3.out.onlyGr hg4 (by have := HRl2.out; omega))
  have HS4 := hide (HS3.out.keepLow (fun b h1 h2 => hg4.block b (Nat.lt_of_lt_of_le h2 HZ3.out) (fun e => by injection e with e; have := HRl.out; omega)))
  have HZ4 := hide (Nat.le_trans HZ3.out hg4.size)
  clear hr4 hg4 HR3 HO3 HB3 HS3 HZ3
  cases bo with
  | false =>
    go_wp2_with fail
    refine bodyPost_ret (v := .tuple #[.int .i64 _, _, _]) (by simp [results, Tryd.results5, go_sem]; exact ⟨rfl, rfl, rfl⟩) rfl ?_
    exact ⟨_, xs, ns, _, _, rfl, hx9, by omega, HS4.out.mono (fun b h => Nat.lt_of_lt_of_le h.2 HZ4.out) (fun _ _ => rfl), (HO4.out.mono (S2 := Old _) (fun _ h => h.2) (fun _ _ => rfl)).sl, HB4.out⟩
  | true =>
    go_wp2_with fail
    refine (pick_any _ R _ 4 HR4.out (by omega)).mono ?_
    rintro e w5 ⟨y, rfl, _, _, hr5, hg5⟩
    have HR5 := hide hr5
    have HB5 := hide (below_gr HB4.out hg5 HB4.out.size hR0)
    have HO5 := hide (HO4.out.onlyGr hg5 (by have := HRl2.out; omega))
    have HS5 := hide (HS4.out.keepLow (fun b h1 h2 => hg5.block b (Nat.lt_of_lt_of_le h2 HZ4.out) (fun e => by injection e with e; have := HRl.out; omega)))
    have HZ5 := hide (Nat.le_trans HZ4.out hg5.size)
    clear hr5 hg5 HR4 HO4 HB4 HS4 HZ4
    cases h0 : (y == 0) with
    | true =>
      go_wp2_with fail
      refine (pick_any _ R _ 6 HR5.out (by omega)).mono ?_
      rintro e w6 ⟨z, rfl, _, _, hr6, hg6⟩
      have HB6 := hide (below_gr HB5.out hg6 HB5.out.size hR0)
      have HO6 := hide (HO5.out.onlyGr hg6 (by have := HRl2.out; omega))
      have HS6 := hide (HS5.out.keepLow (fun b h1 h2 => hg6.block b (Nat.lt_of_lt_of_le h2 HZ5.out) (fun e => by injection e with e; have := HRl.out; omega)))
      have HZ6 := hide (Nat.le_trans HZ5.out hg6.size)
      clear hr6 hg6 HR5 HO5 HB5 HS5 HZ5
      go_wp2_with (at_builtin; refine wpList_put tInt rfl (.tmp 26) (.tmp 29) 24 rfl 3 i0 _ 8 Tryd.underlying24 hi hz0 hz1 hz2 rfl (by decide) (fun b => w2.heap.size ≤ b) (fun _ => False) ns z [.int .i64 z] _ rfl HO6.out _ rfl rfl (fun _ h => h.elim) (fun b hb => Nat.le_trans HZ6.out hb) (by simp only [maxLen]; omega) (by omega) ?_; intro v8 w8 hO_ hK_; have HO8 := hide hO_; have HB8 := hide (below_only HB6.out hK_ HB6.out.size (fun b h => Nat.le_trans (Nat.le_of_lt (Nat.lt_of_le_of_lt hR0 HRl2.out)) h)); have HS8 := hide (HS6.out.keepLow (fun b h1 h2 => hK_.block b (Nat.lt_of_lt_of_le h2 HZ6.out) (fun h => by omega))); have HZ8 := hide (Nat.le_trans HZ6.out hK_.size); clear hO_ hK_)
      refine bodyPost_ret (v := .tuple #[.int .i64 _, _, _]) (by simp [results, Tryd.results5, go_sem]; exact ⟨rfl, rfl, rfl⟩) rfl ?_
      exact ⟨_, xs, _, _, _, rfl, hx9, by simp; omega, HS8.out.mono (fun b h => Nat.lt_of_lt_of_le h.2 HZ8.out) (fun _ _ => rfl), (HO8.out.mono (S2 := Old _) (fun _ h => h.2) (fun _ _ => rfl)).sl, HB8.out⟩
    | false =>
      cases h1 : (y == 1) with
      | true =>
        have HB6 := hide (HB5.out.alloc HB5.out.size (.cells #[.int .i64 0, .int .i64 1] 3))
        have HS6 := hide (HS5.out.keepLow (w' := w5.alloc (.cells #[.int .i64 0, .int .i64 1] 3)) (fun b _ h => Below.heap_alloc _ _ _ (Nat.lt_of_lt_of_le h HZ5.out)))
        have HN6 := hide (sl_two_int w5 0 1)
        have HZ6 := hide (show w2.heap.size ≤ (w5.alloc (.cells #[.int .i64 0, .int .i64 1] 3)).heap.size by have := HZ5.out; simp; omega)
        go_wp2_with fail
        refine bodyPost_ret (v := .tuple #[.int .i64 _, _, _]) (by simp [results, Tryd.results5, go_sem]; exact ⟨rfl, rfl, rfl⟩) rfl ?_
        exact ⟨_, xs, _, _, _, rfl, hx9, by simp, HS6.out.mono (fun b h => Nat.lt_of_lt_of_le h.2 HZ6.out) (fun _ _ => rfl), HN6.out, HB6.out⟩
      | false =>
        cases h2 : (y == 2) with
        | true =>
          obtain ⟨An, cn, rfl, hn1, hn2, hrn⟩ := HO5.out.sl
          have HRn := hide hrn.anyInt
          clear hrn
          go_wp2_with (at_builtin; refine wpList_cat tInt rfl (.tmp 36) (.tmp 37) 24 rfl 3 i0 _ 8 Tryd.underlying24 hi hz0 hz1 hz2 rfl (by decide) (fun b => w2.heap.size ≤ b) (fun _ => False) ns ns _ rfl HO5.out An _ cn rfl rfl HRn.out (fun _ h => h.elim) (fun b hb => Nat.le_trans HZ5.out hb) (by simp only [maxLen]; omega) (by omega) ?_; intro v8 w8 hO_ hK_; have HO8 := hide hO_; have HB8 := hide (below_only HB5.out hK_ HB5.out.size (fun b h => Nat.le_trans (Nat.le_of_lt (Nat.lt_of_le_of_lt hR0 HRl2.out)) h)); have HS8 := hide (HS5.out.keepLow (fun b h1 h2 => hK_.block b (Nat.lt_of_lt_of_le h2 HZ5.out) (fun h => by omega))); have HZ8 := hide (Nat.le_trans HZ5.out hK_.size); clear hO_ hK_)
          refine bodyPost_ret (v := .tuple #[.int .i64 _, _, _]) (by simp [results, Tryd.results5, go_sem]; exact ⟨rfl, rfl, rfl⟩) rfl ?_
          exact ⟨_, xs, _, _, _, rfl, hx9, by simp; omega, HS8.out.mono (fun b h => Nat.lt_of_lt_of_le h.2 HZ8.out) (fun _ _ => rfl), (HO8.out.mono (S2 := Old _) (fun _ h => h.2) (fun _ _ => rfl)).sl, HB8.out⟩
        | false =>
          have HB6 := hide (HB5.out.alloc HB5.out.size (.cells #[.int .i64 0] 3))
          have HS6 := hide (HS5.out.keepLow (w' := w5.alloc (.cells #[.int .i64 0] 3)) (fun b _ h => Below.heap_alloc _ _ _ (Nat.lt_of_lt_of_le h HZ5.out)))
          have HN6 := hide (sl_one_int w5 0)
          have HZ6 := hide (show w2.heap.size ≤ (w5.alloc (.cells #[.int .i64 0] 3)).heap.size by have := HZ5.out; simp; omega)
          go_wp2_with fail
          refine bodyPost_ret (v := .tuple #[.int .i64 _, _, _]) (by simp [results, Tryd.results5, go_sem]; exact ⟨rfl, rfl, rfl⟩) rfl ?_
          exact ⟨_, xs, _, _, _, rfl, hx9, by simp, HS6.out.mono (fun b h => Nat.lt_of_lt_of_le h.2 HZ6.out) (fun _ _ => rfl), HN6.out, HB6.out⟩
end Go.Proofs.YtnlicjgegclilaaDoor
