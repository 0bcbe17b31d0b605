/- The law FnDropTxn: dropped transactions leave serial orders. -/
import Derived.Test.YtaaagoppecnmmaaDoorDrawDT
import Derived.Test.YtaaagoppecnmmaaDoorSameH
import Derived.Test.YtaaagoppecnmmaaDoorDropI
import Derived.Test.YtaaagoppecnmmaaDoorDropS
import Derived.Test.YtaaagoppecnmmaaDoorShrM
import Derived.Test.YtaaagoppecnmmaaDoorFindI
namespace Go.Proofs.YtaaagoppecnmmaaDoor
open Go.RowKit
set_option linter.unusedVariables false
set_option linter.unusedSimpArgs false

theorem findF_serD {xs : List Txn} (hv : histV xs = true) : (findF xs).isSome = serX xs := by
  unfold findF serX; rw [if_pos hv]
theorem dropR_len {xs : List Txn} (hx : xs.length ≤ 20) (n : Int) : (dropR xs n).length ≤ 20 := by
  unfold dropR
  split
  · have := dropI_len xs n.toNat xs.length; unfold dropL; omega
  · exact Nat.zero_le _
theorem dropR_ops {xs : List Txn} (hx : ∀ t ∈ xs, t.Ops.length ≤ 20) (n : Int) : ∀ t ∈ dropR xs n, t.Ops.length ≤ 20 := fun t ht => by
  unfold dropR at ht
  split at ht
  · rw [dropL_erase] at ht
    obtain ⟨u, hu, rfl⟩ := List.mem_map.1 ht
    have := hx u (List.mem_of_mem_eraseIdx hu)
    have h2 := List.length_filter_le (keepOp xs n.toNat) u.Ops
    exact Nat.le_trans h2 this
  · cases ht
set_option maxRecDepth 10000 in
set_option maxHeartbeats 4000000 in
theorem lawFnDrop (bs : List Int) (A : Option Addr) (c : Nat) (w : World) (hm : bs.length ≤ maxLen) (hc : bs.length ≤ c) (hcm : c ≤ maxLen) (hA : Row tByte w (Old w) A bs) :
    Calls Tryd.prog 3 #[.slice A bs.length c] w fun e w' => e = .returned (.bool true) ∧ Below w.heap.size w w' := by
  have hq : bs.length ≤ 9223372036854775807 := by simpa [maxLen] using hm
  by_cases hl : bs.length ≤ 1048576
  · have HD := hide (drawDropTxn bs A c w hl hc hcm hA)
    clear hA
    go_enter Tryd.func3, Tryd.ntmps3
    go_wp2_with fail
    refine HD.out.mono ?_
    rintro e w1 ⟨xs, v, n, rfl, hS, ho, hb1⟩
    have HB1 := hide hb1
    clear hb1 HD
    obtain ⟨Ax, cx, rfl, hlex, hcmx, hrx⟩ := ho.oldE
    have Hx1 := hide hrx
    clear hrx ho
    obtain ⟨hxm, hx20, hxo, hxn⟩ := hS.le
    have HDl := hide (dropR_len (xs := xs) (by have := hS.1; omega) n)
    have HDo := hide (dropR_ops hS.2 n)
    have hdm : (dropR xs n).length ≤ maxLen := by have := HDl.out; simp only [maxLen]; omega
    go_wp2_with fail
    refine (implDropTxn xs n _ _ w1 hxm Hx1.out).mono ?_
    rintro e w2 ⟨v2, rfl, hT2, hb⟩
    have Hx2 := hide (Hx1.out.old hb)
    have HB2 := hide (HB1.out.trans (hb.mono HB1.out.size))
    clear hb HB1 Hx1
    obtain ⟨Ay, cy, rfl, hley, hcmy, hry⟩ := hT2.sl.oldE
    have Hy2 := hide hry
    clear hry hT2
    go_wp2_with fail
    refine (specDropTxn xs n _ _ w2 hx20 hxn hxo Hx2.out).mono ?_
    rintro e w3 ⟨v3, rfl, hT3, hb⟩
    have Hx3 := hide (Hx2.out.old hb)
    have Hy3 := hide (Hy2.out.old hb)
    have HB3 := hide (HB2.out.trans (hb.mono HB2.out.size))
    clear hb HB2 Hx2 Hy2
    obtain ⟨Az, cz, rfl, hlez, hcmz, hrz⟩ := hT3.weakTxn.sl.fresh
    have Hz3 := hide hrz
    clear hrz hT3
    go_wp2_with fail
    refine (sameHistory_any (dropR xs n) _ _ _ _ w3 hdm (fun t ht => by have := HDo.out t ht; simp only [maxLen]; omega) Hy3.out Hz3.out).mono ?_
    rintro e w4 ⟨rfl, hb⟩
    have Hx4 := hide (Hx3.out.old hb)
    have Hy4 := hide (Hy3.out.old hb)
    have Hz4 := hide (Hz3.out.old hb)
    have HB4 := hide (HB3.out.trans (hb.mono HB3.out.size))
    clear hb HB3 Hx3 Hy3 Hz3
    cases hbb : dropB xs n with
    | false =>
      have HR0 := hide (show dropR xs n = [] by unfold dropR; rw [hbb]; rfl)
      clear hbb
      rw [HR0.out] at hdm Hy4 Hz4 ⊢
      go_wp2_with fail
      refine (alive_any _).mono ?_
      rintro e w5 ⟨rfl, hb⟩
      have Hx5 := hide (Hx4.out.old hb)
      have Hy5 := hide (Hy4.out.old hb)
      have Hz5 := hide (Hz4.out.old hb)
      have HB5 := hide (HB4.out.trans (hb.mono HB4.out.size))
      clear hb HB4 Hx4 Hy4 Hz4
      go_wp2_with fail
      go_ret
      exact ⟨rfl, HB5.out⟩
    | true =>
      have hr0 : dropR xs n = dropL xs n.toNat := by unfold dropR; rw [hbb]; rfl
      unfold dropB at hbb
      rw [Bool.and_eq_true] at hbb
      have hin := inR_iff.1 hbb.2
      have HV := hide hbb.1
      have HVd := hide (show histV (dropR xs n) = true by rw [hr0]; exact dropL_valid hbb.1 _)
      have HSd := hide (show serX xs = true → serX (dropR xs n) = true from fun h => by rw [hr0]; exact drop_serial hbb.1 h _)
      have hln : (dropR xs n).length + 1 = xs.length := by rw [hr0]; have := dropL_length (h := xs) (n := n.toNat) (by omega); omega
      clear hbb hr0
      generalize dropR xs n = ds at HDl HDo hdm HVd HSd hln Hy4 Hz4 ⊢
      have HLn := hide hln
      have hsub : IntKind.i64.wrap ((xs.length : Int) - 1) = ((ds.length : Nat) : Int) := by rw [IntKind.wrap_i64]; omega
      clear hln
      go_wp2_with fail
      refine (implFindSerial xs _ _ w4 hxm Hx4.out).mono ?_
      rintro e w5 ⟨v5, rfl, _, hb⟩
      rw [findF_serD HV.out]
      have Hx5 := hide (Hx4.out.old hb)
      have Hy5 := hide (Hy4.out.old hb)
      have Hz5 := hide (Hz4.out.old hb)
      have HB5 := hide (HB4.out.trans (hb.mono HB4.out.size))
      clear hb HB4 Hx4 Hy4 Hz4
      go_wp2_with fail
      refine (implFindSerial ds _ _ w5 hdm Hy5.out).mono ?_
      rintro e w6 ⟨v6, rfl, _, hb⟩
      rw [findF_serD HVd.out]
      have Hx6 := hide (Hx5.out.old hb)
      have Hy6 := hide (Hy5.out.old hb)
      have Hz6 := hide (Hz5.out.old hb)
      have HB6 := hide (HB5.out.trans (hb.mono HB5.out.size))
      clear hb HB5 Hx5 Hy5 Hz5
      go_wp2_with fail
      refine (implHistoryValid ds _ _ w6 hdm Hy6.out).mono ?_
      rintro e w7 ⟨rfl, hb⟩
      rw [HVd.out]
      have Hx7 := hide (Hx6.out.old hb)
      have Hy7 := hide (Hy6.out.old hb)
      have Hz7 := hide (Hz6.out.old hb)
      have HB7 := hide (HB6.out.trans (hb.mono HB6.out.size))
      clear hb HB6 Hx6 Hy6 Hz6
      have HSd2 := hide (HSd.out)
      cases hsx : serX xs with
      | false =>
        go_wp2_with fail
        go_ret
        exact ⟨rfl, HB7.out⟩
      | true =>
        rw [HSd2.out hsx]
        go_wp2_with fail
        go_ret
        exact ⟨rfl, HB7.out⟩
  · clear hA
    go_enter Tryd.func3, Tryd.ntmps3
    go_wp2_with fail
    go_ret
    exact ⟨rfl, Below.refl _ _⟩
end Go.Proofs.YtaaagoppecnmmaaDoor
