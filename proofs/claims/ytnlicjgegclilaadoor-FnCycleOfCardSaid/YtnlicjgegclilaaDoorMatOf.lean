/- matrixOf and allOf: the edges of some kinds as bit sets. -/
import Derived.Test.YtnlicjgegclilaaDoorMatrix
import Derived.Laws.Tables
namespace Go.Proofs.YtnlicjgegclilaaDoor
open Go.RowKit
set_option linter.unusedVariables false

theorem infoMat : (Tryd.prog.info? 44).map (·.size) = some 6 := by kernel_rfl
theorem row6_one (M : Nat → Nat) : (row6 M).all (·.oneCell') = true := by simp [row6, Value.oneCell']
theorem setRow_below {B : Nat} {a w : World} {g : Nat} (h : Below B a w) (hg : B ≤ g) (cs : Array Value) : Below B a (w.setRow g cs) :=
  ⟨h.os, h.tape, h.output, by simpa [World.setRow] using h.size, fun k hk => (setRow_other w g k cs (by omega)).trans (h.block k hk)⟩
set_option maxRecDepth 10000 in
set_option maxHeartbeats 1000000 in
theorem matrixOf_any (many : Int) (ks : List Int) (xs : List Edge) (A B : Option Addr) (c d : Nat) (w : World) (hl : xs.length ≤ maxLen) (hlk : ks.length ≤ maxLen) (hA : Row tEdge w (Old w) A xs) (hB : Row tInt w (Old w) B ks)
    (hm : many ≤ 6) (hv : xs.all (edgeOk many) = true) :
    Calls Tryd.prog 31 #[.slice A xs.length c, .slice B ks.length d] w fun e w' => e = .returned (.agg (row6 (matOf ks xs))) ∧ Below w.heap.size w w' := by
  have HLK := hide hlk
  unfold maxLen at hl
  have HA := hide hA; have HB := hide hB; have HV := hide hv
  clear hA hB hv hlk
  go_enter Tryd.func31, Tryd.ntmps31
  go_wp2
  go_loopw [10] (fun i wr => ∃ k : Nat, k ≤ xs.length ∧ i = .int .i64 k ∧ Hid (Blk wr w.heap.size 44 (row6 (fun _ => 0))) ∧ Hid (Blk wr (w.heap.size + 1) 44 (row6 (matOf ks (xs.take k)))) ∧ Below w.heap.size w wr) (fun i _ => xs.length - (intOf i).toNat)
  case atStart => exact ⟨0, Nat.zero_le _, rfl, heap_alloc2_old _ _ _, heap_alloc2_new _ _ _, ((Below.refl _ _).alloc (Nat.le_refl _) _).alloc (by simp) _⟩
  case round =>
    obtain ⟨k, hk, rfl, h4, h5, hb⟩ := hrel
    by_cases hlt : k < xs.length
    · obtain ⟨b, off, rfl, hbS, c0, c1, c2⟩ := at_Edge HA.out hb hlt
      have hS := matOf_succ ks xs k hlt
      have hE := edgeOk_iff (List.all_eq_true.1 HV.out _ (List.getElem_mem hlt))
      have hM := matOf_lt (ks := ks) hm (xs.take k) (fun _ => 0) (List.all_eq_true.2 (fun x hx => List.all_eq_true.1 HV.out x (List.mem_of_mem_take hx))) (fun _ => by decide)
      generalize xs[k] = e at c0 c1 c2 hS hE
      obtain ⟨F, T, Kd⟩ := e
      obtain ⟨⟨he1, he2⟩, ⟨he3, he4⟩, _⟩ := hE
      dsimp only at c0 c1 c2 he1 he2 he3 he4
      obtain ⟨n, rfl⟩ : ∃ n : Nat, F = (n : Int) := ⟨F.toNat, by omega⟩
      obtain ⟨j, rfl⟩ : ∃ j : Nat, T = (j : Int) := ⟨T.toNat, by omega⟩
      have hn6 : n < 6 := by omega
      have hj6 : j < 6 := by omega
      clear he1 he2 he3 he4
      have HM := hide (show ∀ i, matOf ks (xs.take k) i < 64 from hM)
      have HC := hide (contains_Int ks Kd B d (wr.alloc (.cells #[.int .i64 n, .int .i64 j, .int .i64 Kd] 49)) HLK.out (HB.out.old (hb.alloc hb.size _)))
      have HB1 := hide (hb.alloc hb.size (.cells #[.int .i64 n, .int .i64 j, .int .i64 Kd] 49))
      have HS := hide hS
      have H4 := hide (h4.out.alloc (.cells #[.int .i64 n, .int .i64 j, .int .i64 Kd] 49))
      have H5 := hide (h5.out.alloc (.cells #[.int .i64 n, .int .i64 j, .int .i64 Kd] 49))
      clear h4 h5 hM hS
      cases hq : ks.any (fun y => Kd == y) with
      | false =>
        rw [hq] at HC
        have HE := hide (show matOf ks (xs.take (k + 1)) = matOf ks (xs.take k) by rw [HS.out]; unfold stepEdge; simp only; rw [hq]; rfl)
        clear hq
        go_wp2_with (go_at_call 38; refine HC.out.mono ?_; rintro e w' ⟨rfl, rfl⟩)
        go_roundw
        case rel => exact ⟨k + 1, by omega, by go_num, H4.out, by rw [HE.out]; exact H5.out, HB1.out⟩
        case measure => simp [intOf]; omega
      | true =>
        rw [hq] at HC
        have HE := hide (show matOf ks (xs.take (k + 1)) = addEdge (matOf ks (xs.take k)) ⟨n, j, Kd⟩ by rw [HS.out]; unfold stepEdge; simp only; rw [hq]; rfl)
        clear hq
        have hcell := (H5.out.cell n).trans (row6_get _ n hn6)
        have hfro := H5.out.frozen n
        have hor := or_shl (matOf ks (xs.take k) n) j (HM.out n) hj6
        have hnI : (n : Int) < 6 := by omega
        go_wp2_with (go_at_call 38; refine HC.out.mono ?_; rintro e w' ⟨rfl, rfl⟩)
        have z0 : (wr.alloc (.cells #[.int .i64 n, .int .i64 j, .int .i64 Kd] 49)).cell? ⟨wr.heap.size, 0, none⟩ = some (.int .i64 n) := (Blk.new wr _ _).cell 0
        have z1 : (wr.alloc (.cells #[.int .i64 n, .int .i64 j, .int .i64 Kd] 49)).cell? ⟨wr.heap.size, 1, none⟩ = some (.int .i64 j) := (Blk.new wr _ _).cell 1
        generalize wr.alloc (.cells #[.int .i64 n, .int .i64 j, .int .i64 Kd] 49) = W1 at HC H4 H5 HB1 hcell hfro z0 z1 ⊢
        go_still_tail 9, (by kernel_rfl)
        change wpList _ _ _ _ _ W1.drew
        obtain ⟨W2, hW2⟩ : ∃ W2, W1.drew = W2 := ⟨_, rfl⟩
        have H42 := hide (show Blk W2 w.heap.size 44 _ by rw [← hW2]; exact H4.out)
        have H52 := hide (show Blk W2 (w.heap.size + 1) 44 _ by rw [← hW2]; exact H5.out)
        have HB2 := hide (show Below w.heap.size w W2 by rw [← hW2]; exact HB1.out.drew)
        rw [hW2]
        clear hW2
        have hcell2 := (H52.out.cell n).trans (row6_get _ n hn6)
        have hfro2 := H52.out.frozen n
        go_wp2
        go_roundw
        case rel => exact ⟨k + 1, by omega, by go_num, H42.out.far (by simp) _, by rw [HE.out, ← row6_add _ _ n hn6 rfl]; exact H52.out.set_ _ _, Below.setCell HB2.out (by simp) _⟩
        case measure => simp [intOf]; omega
    · obtain rfl : k = xs.length := by omega
      rw [List.take_length] at h5
      go_wp2_with (first | (refine wpList_load_row rfl 44 (.tmp 5) rfl (w.heap.size + 1) rfl 44 _ (0, 0) _ h5.out Tryd.underlying44 rfl infoMat ?_) | (refine wpList_store_row rfl 44 (.tmp 4) (.tmp 28) rfl w.heap.size _ rfl rfl 44 _ h4.out infoMat rfl (row6_one _) ?_))
      exact bodyPost_ret (results_cell_row rfl _ _ w.heap.size 44 _ (0, 0) _ rfl (setRow_heap _ _ _ _ _ _ h4.out) Tryd.underlying44 rfl infoMat) rfl ⟨rfl, setRow_below hb (Nat.le_refl _) _⟩
end Go.Proofs.YtnlicjgegclilaaDoor
