/- The reference's OpText; ReadOp of the reference. The reference's ReadOp. -/
import Derived.Test.YtjnghnkilnhacaaGreatDoorQVals
import Derived.Test.YtjnghnkilnhacaaGreatDoorQHistS
import Derived.Lib.Strings
namespace Go.Proofs.YtjnghnkilnhacaaGreatDoor
open Go.RowKit
set_option linter.unusedVariables false
set_option linter.unusedSimpArgs false

/-- The text of an operation, "" where it is not valid. -/
def opB (o : Op) : ByteArray := if opOk o then ⟨(opL o).toArray⟩ else ⟨#[]⟩
set_option maxRecDepth 10000 in
set_option maxHeartbeats 1000000 in
theorem specOpText (o : Op) (w : World) : Calls Tryz.prog 47 #[.agg #[.int .i64 o.Kind, .int .i64 o.Key, .int .i64 o.Value]] w fun e w' => e = .returned (.string (opB o)) ∧ Below w.heap.size w w' := by
  have HV := hide (fun W => specOpValid o W)
  have HB := hide ((Below.refl _ w).alloc (Nat.le_refl _) (.cells #[.int .i64 o.Kind, .int .i64 o.Key, .int .i64 o.Value] 46))
  have HX0 := hide (Blk.new w 46 #[.int .i64 o.Kind, .int .i64 o.Key, .int .i64 o.Value])
  cases q1 : opOk o with
  | false =>
    have HO := hide (show opB o = ⟨#[]⟩ by unfold opB; rw [q1]; rfl)
    rw [q1] at HV
    clear q1
    go_enter Tryz.func47, Tryz.ntmps47
    go_upto_region 1 with fail
    generalize w.alloc _ = W at HB HX0 ⊢
    have x0 := HX0.out.cell 0; have x1 := HX0.out.cell 1; have x2 := HX0.out.cell 2
    simp only [List.getElem?_toArray, List.getElem?_cons_zero, List.getElem?_cons_succ] at x0 x1 x2
    go_wp2_with (go_at_call 48; refine (HV.out _).mono ?_; rintro e w1 ⟨rfl, hb1⟩; have HB1 := hide (HB.out.trans (hb1.mono HB.out.size)); clear hb1)
    go_ret
    exact ⟨ret_str HO.out.symm, HB1.out⟩
  | true =>
    obtain ⟨hk, hk0, hv0⟩ := opOk_parts' q1
    have HO0 := hide (show opB o = ⟨(opL o).toArray⟩ by unfold opB; rw [q1]; rfl)
    have HF := hide (opL_form q1)
    rw [q1] at HV
    clear q1
    obtain ⟨K, k, v⟩ := o
    simp only at hk hk0 hv0 HO0 HF HV HB HX0 ⊢
    obtain ⟨k, rfl⟩ : ∃ n : Nat, k = (n : Int) := ⟨k.toNat, by omega⟩
    obtain ⟨v, rfl⟩ : ∃ n : Nat, v = (n : Int) := ⟨v.toNat, by omega⟩
    have hk9 : k < 10 := by omega
    have hv9 : v < 100 := by omega
    have HI1 := l1Number_any k (by omega)
    have HI2 := l1Number_any v hv9
    have hd1 := decL_len k
    have hd2 := decL_len v
    obtain ⟨N1, hN1⟩ : ∃ N : ByteArray, N = ⟨(decL k).toArray⟩ := ⟨_, rfl⟩
    obtain ⟨N2, hN2⟩ : ∃ N : ByteArray, N = ⟨(decL v).toArray⟩ := ⟨_, rfl⟩
    have hs1 : N1.size ≤ 2 := by rw [hN1]; simp [ByteArray.size]; omega
    have hs2 : N2.size ≤ 2 := by rw [hN2]; simp [ByteArray.size]; omega
    rw [← hN1] at HI1
    rw [← hN2] at HI2
    have HI1 := hide HI1; have HI2 := hide HI2
    have hdk : decL k = [UInt8.ofNat (48 + k)] := by unfold decL; rw [if_pos hk9]
    rcases hk with rfl | rfl
    · obtain ⟨L, hL⟩ : ∃ L : ByteArray, L = ⟨#[114]⟩ := ⟨_, rfl⟩
      have hls : L.size = 1 := by rw [hL]; rfl
      have hsl : (ByteArray.mk #[114, 119]).extract 0 1 = L := by rw [hL]; decide +kernel
      have HO := hide (show opB ⟨1, k, v⟩ = L ++ N1 ++ ⟨#[61]⟩ ++ N2 by
        rw [HO0.out, HF.out, hL, hN1, hN2, hdk]
        apply ByteArray.ext
        apply Array.toList_inj.1
        simp)
      have hadd1 : ∀ W, (Op.stringOp .add L N1).run Tryz.prog W = .ok (.string (L ++ N1)) W := fun W => run_string_add_sum _ _ _ (by omega)
      have hadd2 : ∀ W, (Op.stringOp .add (L ++ N1) ⟨#[61]⟩).run Tryz.prog W = .ok (.string (L ++ N1 ++ ⟨#[61]⟩)) W := fun W => run_string_add_sum _ _ _ (by rw [ByteArray.size_append]; have : (⟨#[61]⟩ : ByteArray).size = 1 := rfl; omega)
      have hadd3 : ∀ W, (Op.stringOp .add (L ++ N1 ++ ⟨#[61]⟩) N2).run Tryz.prog W = .ok (.string (L ++ N1 ++ ⟨#[61]⟩ ++ N2)) W := fun W => run_string_add_sum _ _ _ (by rw [ByteArray.size_append, ByteArray.size_append]; have : (⟨#[61]⟩ : ByteArray).size = 1 := rfl; omega)
      clear hL hN1 hN2 hdk
      go_enter Tryz.func47, Tryz.ntmps47
      go_upto_region 1 with fail
      generalize w.alloc _ = W at HB HX0 ⊢
      have x0 := HX0.out.cell 0; have x1 := HX0.out.cell 1; have x2 := HX0.out.cell 2
      simp only [List.getElem?_toArray, List.getElem?_cons_zero, List.getElem?_cons_succ] at x0 x1 x2
      go_upto_region 3 with (go_at_call 48; refine (HV.out _).mono ?_; rintro e w1 ⟨rfl, hb1⟩; have HB1 := hide (HB.out.trans (hb1.mono HB.out.size)); have HX1 := hide (HX0.out.below hb1 HX0.out.lt); clear hb1)
      clear x0 x1 x2
      have HX := hide (fun (W2 : World) (hb : Below w1.heap.size w1 W2) => And.intro ((HX1.out.below hb HX1.out.lt).cell 0) (And.intro ((HX1.out.below hb HX1.out.lt).cell 1) ((HX1.out.below hb HX1.out.lt).cell 2)))
      simp only [List.getElem?_toArray, List.getElem?_cons_zero, List.getElem?_cons_succ] at HX
      refine wp_region_vals 14 (fun W => Below w1.heap.size w1 W) (fun q9 => match q9 with | 0 => .pointer (some ⟨w.heap.size, 0, none⟩) | 1 => .int .i64 1 | 2 => .int .i64 0 | 3 => .pointer (some ⟨w.heap.size, 0, none⟩) | 4 => .int .i64 1 | 5 => .string L | 6 => .pointer (some ⟨w.heap.size, 1, none⟩) | 7 => .int .i64 (k : Int) | 8 => .string N1 | 9 => .string (L ++ N1) | 10 => .string (L ++ N1 ++ ⟨#[61]⟩) | 11 => .pointer (some ⟨w.heap.size, 2, none⟩) | 12 => .int .i64 (v : Int) | 13 => .string N2 | _ => undef) [some 6, some 7, some 8, some 9, some 10, some 11, some 12, some 13, some 14, some 15, some 16, some 17, some 18, some 19] (by kernel_rfl) (by kernel_rfl) (by kernel_rfl) (by kernel_rfl) (by kernel_rfl) ?_ ?_ ?_
      · exact (Below.refl _ w1).drew
      · intro i o hi ho a wa hI hc hd K hK
        have hi' : i = 0 ∨ i = 1 ∨ i = 2 ∨ i = 3 ∨ i = 4 ∨ i = 5 ∨ i = 6 ∨ i = 7 ∨ i = 8 ∨ i = 9 ∨ i = 10 ∨ i = 11 ∨ i = 12 ∨ i = 13 := by omega
        clear hi
        rcases hi' with rfl | rfl | rfl | rfl | rfl | rfl | rfl | rfl | rfl | rfl | rfl | rfl | rfl | rfl
        all_goals
          simp only [List.getElem?_toArray, List.getElem?_cons_zero, List.getElem?_cons_succ, Option.some.injEq] at ho
          subst ho
        · have e1 := (hc 1 (by kernel_rfl)).trans rfl
          go_simp
          exact hK _ hI
        · have e6 : a.tmps.getD 6 undef = .pointer (some ⟨w.heap.size, 0, none⟩) := hd 0 6 (by kernel_rfl)
          obtain ⟨z0, z1, z2⟩ := HX.out wa hI
          go_simp
          exact hK _ hI
        · have e7 : a.tmps.getD 7 undef = .int .i64 1 := hd 1 7 (by kernel_rfl)
          go_simp
          exact hK _ hI
        · have e1 := (hc 1 (by kernel_rfl)).trans rfl
          go_simp
          exact hK _ hI
        · have e9 : a.tmps.getD 9 undef = .pointer (some ⟨w.heap.size, 0, none⟩) := hd 3 9 (by kernel_rfl)
          obtain ⟨z0, z1, z2⟩ := HX.out wa hI
          go_simp
          exact hK _ hI
        · have e8 : a.tmps.getD 8 undef = .int .i64 0 := hd 2 8 (by kernel_rfl)
          have e10 : a.tmps.getD 10 undef = .int .i64 1 := hd 4 10 (by kernel_rfl)
          go_simp
          exact hK _ hI
        · have e1 := (hc 1 (by kernel_rfl)).trans rfl
          go_simp
          exact hK _ hI
        · have e12 : a.tmps.getD 12 undef = .pointer (some ⟨w.heap.size, 1, none⟩) := hd 6 12 (by kernel_rfl)
          obtain ⟨z0, z1, z2⟩ := HX.out wa hI
          go_simp
          exact hK _ hI
        · have e13 : a.tmps.getD 13 undef = .int .i64 (k : Int) := hd 7 13 (by kernel_rfl)
          go_simp
          refine (HI1.out wa).mono ?_
          rintro e w9 ⟨rfl, hb9⟩
          exact hK _ (hI.trans (hb9.mono hI.size))
        · have e11 : a.tmps.getD 11 undef = .string L := hd 5 11 (by kernel_rfl)
          have e14 : a.tmps.getD 14 undef = .string N1 := hd 8 14 (by kernel_rfl)
          have q1 := hadd1 wa
          go_simp
          exact hK _ hI
        · have e15 : a.tmps.getD 15 undef = .string (L ++ N1) := hd 9 15 (by kernel_rfl)
          have q1 := hadd2 wa
          go_simp
          exact hK _ hI
        · have e1 := (hc 1 (by kernel_rfl)).trans rfl
          go_simp
          exact hK _ hI
        · have e17 : a.tmps.getD 17 undef = .pointer (some ⟨w.heap.size, 2, none⟩) := hd 11 17 (by kernel_rfl)
          obtain ⟨z0, z1, z2⟩ := HX.out wa hI
          go_simp
          exact hK _ hI
        · have e18 : a.tmps.getD 18 undef = .int .i64 (v : Int) := hd 12 18 (by kernel_rfl)
          go_simp
          refine (HI2.out wa).mono ?_
          rintro e w9 ⟨rfl, hb9⟩
          exact hK _ (hI.trans (hb9.mono hI.size))
      · intro wz hI
        simp only [putD, Act.put, List.setIfInBounds_toArray, List.set_cons_zero, List.set_cons_succ, List.drop_succ_cons, List.drop_zero]
        have q1 := hadd3 wz
        have HBz := hide (HB1.out.trans (hI.mono HB1.out.size))
        clear hI
        go_wp2_with fail
        go_ret
        exact ⟨ret_str HO.out.symm, HBz.out⟩
    · obtain ⟨L, hL⟩ : ∃ L : ByteArray, L = ⟨#[119]⟩ := ⟨_, rfl⟩
      have hls : L.size = 1 := by rw [hL]; rfl
      have hsl : (ByteArray.mk #[114, 119]).extract 1 2 = L := by rw [hL]; decide +kernel
      have HO := hide (show opB ⟨2, k, v⟩ = L ++ N1 ++ ⟨#[61]⟩ ++ N2 by
        rw [HO0.out, HF.out, hL, hN1, hN2, hdk]
        apply ByteArray.ext
        apply Array.toList_inj.1
        simp)
      have hadd1 : ∀ W, (Op.stringOp .add L N1).run Tryz.prog W = .ok (.string (L ++ N1)) W := fun W => run_string_add_sum _ _ _ (by omega)
      have hadd2 : ∀ W, (Op.stringOp .add (L ++ N1) ⟨#[61]⟩).run Tryz.prog W = .ok (.string (L ++ N1 ++ ⟨#[61]⟩)) W := fun W => run_string_add_sum _ _ _ (by rw [ByteArray.size_append]; have : (⟨#[61]⟩ : ByteArray).size = 1 := rfl; omega)
      have hadd3 : ∀ W, (Op.stringOp .add (L ++ N1 ++ ⟨#[61]⟩) N2).run Tryz.prog W = .ok (.string (L ++ N1 ++ ⟨#[61]⟩ ++ N2)) W := fun W => run_string_add_sum _ _ _ (by rw [ByteArray.size_append, ByteArray.size_append]; have : (⟨#[61]⟩ : ByteArray).size = 1 := rfl; omega)
      clear hL hN1 hN2 hdk
      go_enter Tryz.func47, Tryz.ntmps47
      go_upto_region 1 with fail
      generalize w.alloc _ = W at HB HX0 ⊢
      have x0 := HX0.out.cell 0; have x1 := HX0.out.cell 1; have x2 := HX0.out.cell 2
      simp only [List.getElem?_toArray, List.getElem?_cons_zero, List.getElem?_cons_succ] at x0 x1 x2
      go_upto_region 3 with (go_at_call 48; refine (HV.out _).mono ?_; rintro e w1 ⟨rfl, hb1⟩; have HB1 := hide (HB.out.trans (hb1.mono HB.out.size)); have HX1 := hide (HX0.out.below hb1 HX0.out.lt); clear hb1)
      clear x0 x1 x2
      have HX := hide (fun (W2 : World) (hb : Below w1.heap.size w1 W2) => And.intro ((HX1.out.below hb HX1.out.lt).cell 0) (And.intro ((HX1.out.below hb HX1.out.lt).cell 1) ((HX1.out.below hb HX1.out.lt).cell 2)))
      simp only [List.getElem?_toArray, List.getElem?_cons_zero, List.getElem?_cons_succ] at HX
      refine wp_region_vals 14 (fun W => Below w1.heap.size w1 W) (fun q9 => match q9 with | 0 => .pointer (some ⟨w.heap.size, 0, none⟩) | 1 => .int .i64 2 | 2 => .int .i64 1 | 3 => .pointer (some ⟨w.heap.size, 0, none⟩) | 4 => .int .i64 2 | 5 => .string L | 6 => .pointer (some ⟨w.heap.size, 1, none⟩) | 7 => .int .i64 (k : Int) | 8 => .string N1 | 9 => .string (L ++ N1) | 10 => .string (L ++ N1 ++ ⟨#[61]⟩) | 11 => .pointer (some ⟨w.heap.size, 2, none⟩) | 12 => .int .i64 (v : Int) | 13 => .string N2 | _ => undef) [some 6, some 7, some 8, some 9, some 10, some 11, some 12, some 13, some 14, some 15, some 16, some 17, some 18, some 19] (by kernel_rfl) (by kernel_rfl) (by kernel_rfl) (by kernel_rfl) (by kernel_rfl) ?_ ?_ ?_
      · exact (Below.refl _ w1).drew
      · intro i o hi ho a wa hI hc hd K hK
        have hi' : i = 0 ∨ i = 1 ∨ i = 2 ∨ i = 3 ∨ i = 4 ∨ i = 5 ∨ i = 6 ∨ i = 7 ∨ i = 8 ∨ i = 9 ∨ i = 10 ∨ i = 11 ∨ i = 12 ∨ i = 13 := by omega
        clear hi
        rcases hi' with rfl | rfl | rfl | rfl | rfl | rfl | rfl | rfl | rfl | rfl | rfl | rfl | rfl | rfl
        all_goals
          simp only [List.getElem?_toArray, List.getElem?_cons_zero, List.getElem?_cons_succ, Option.some.injEq] at ho
          subst ho
        · have e1 := (hc 1 (by kernel_rfl)).trans rfl
          go_simp
          exact hK _ hI
        · have e6 : a.tmps.getD 6 undef = .pointer (some ⟨w.heap.size, 0, none⟩) := hd 0 6 (by kernel_rfl)
          obtain ⟨z0, z1, z2⟩ := HX.out wa hI
          go_simp
          exact hK _ hI
        · have e7 : a.tmps.getD 7 undef = .int .i64 2 := hd 1 7 (by kernel_rfl)
          go_simp
          exact hK _ hI
        · have e1 := (hc 1 (by kernel_rfl)).trans rfl
          go_simp
          exact hK _ hI
        · have e9 : a.tmps.getD 9 undef = .pointer (some ⟨w.heap.size, 0, none⟩) := hd 3 9 (by kernel_rfl)
          obtain ⟨z0, z1, z2⟩ := HX.out wa hI
          go_simp
          exact hK _ hI
        · have e8 : a.tmps.getD 8 undef = .int .i64 1 := hd 2 8 (by kernel_rfl)
          have e10 : a.tmps.getD 10 undef = .int .i64 2 := hd 4 10 (by kernel_rfl)
          go_simp
          exact hK _ hI
        · have e1 := (hc 1 (by kernel_rfl)).trans rfl
          go_simp
          exact hK _ hI
        · have e12 : a.tmps.getD 12 undef = .pointer (some ⟨w.heap.size, 1, none⟩) := hd 6 12 (by kernel_rfl)
          obtain ⟨z0, z1, z2⟩ := HX.out wa hI
          go_simp
          exact hK _ hI
        · have e13 : a.tmps.getD 13 undef = .int .i64 (k : Int) := hd 7 13 (by kernel_rfl)
          go_simp
          refine (HI1.out wa).mono ?_
          rintro e w9 ⟨rfl, hb9⟩
          exact hK _ (hI.trans (hb9.mono hI.size))
        · have e11 : a.tmps.getD 11 undef = .string L := hd 5 11 (by kernel_rfl)
          have e14 : a.tmps.getD 14 undef = .string N1 := hd 8 14 (by kernel_rfl)
          have q1 := hadd1 wa
          go_simp
          exact hK _ hI
        · have e15 : a.tmps.getD 15 undef = .string (L ++ N1) := hd 9 15 (by kernel_rfl)
          have q1 := hadd2 wa
          go_simp
          exact hK _ hI
        · have e1 := (hc 1 (by kernel_rfl)).trans rfl
          go_simp
          exact hK _ hI
        · have e17 : a.tmps.getD 17 undef = .pointer (some ⟨w.heap.size, 2, none⟩) := hd 11 17 (by kernel_rfl)
          obtain ⟨z0, z1, z2⟩ := HX.out wa hI
          go_simp
          exact hK _ hI
        · have e18 : a.tmps.getD 18 undef = .int .i64 (v : Int) := hd 12 18 (by kernel_rfl)
          go_simp
          refine (HI2.out wa).mono ?_
          rintro e w9 ⟨rfl, hb9⟩
          exact hK _ (hI.trans (hb9.mono hI.size))
      · intro wz hI
        simp only [putD, Act.put, List.setIfInBounds_toArray, List.set_cons_zero, List.set_cons_succ, List.drop_succ_cons, List.drop_zero]
        have q1 := hadd3 wz
        have HBz := hide (HB1.out.trans (hI.mono HB1.out.size))
        clear hI
        go_wp2_with fail
        go_ret
        exact ⟨ret_str HO.out.symm, HBz.out⟩
end Go.Proofs.YtjnghnkilnhacaaGreatDoor
namespace Go.Proofs.YtjnghnkilnhacaaGreatDoor
open Go.RowKit
set_option linter.unusedVariables false
set_option linter.unusedSimpArgs false

def opV (o : Op) : Value := .agg #[.int .i64 o.Kind, .int .i64 o.Key, .int .i64 o.Value]
/-- What ReadOp answers. -/
def readOV (l : Bs) : Value := .tuple #[opV ((readOpL l).getD ⟨0, 0, 0⟩), .bool (readOpL l).isSome]
/-- Facts of a drawn region in which operation 7 makes a variable. -/
def FAl (lo : Nat) (V : Nat → Value) (i : Nat) (v : Value) (W : World) : Prop :=
  if i = 7 then ∃ p, lo ≤ p ∧ v = .pointer (some ⟨p, 0, none⟩) ∧ Blk W p 46 #[.int .i64 0, .int .i64 0, .int .i64 0] else v = V i
theorem FAl.get {lo : Nat} {V : Nat → Value} {i : Nat} {v : Value} {W : World} (h : FAl lo V i v W) (hi : i ≠ 7) : v = V i := by unfold FAl at h; rwa [if_neg hi] at h
theorem FAl.val {lo : Nat} {V : Nat → Value} {i : Nat} {v : Value} {W : World} (hi : i ≠ 7) (h : v = V i) : FAl lo V i v W := by unfold FAl; rwa [if_neg hi]
theorem FAl.iff7 {lo : Nat} {V : Nat → Value} {v : Value} {W : World} : FAl lo V 7 v W ↔ ∃ p, lo ≤ p ∧ v = .pointer (some ⟨p, 0, none⟩) ∧ Blk W p 46 #[.int .i64 0, .int .i64 0, .int .i64 0] := by unfold FAl; rw [if_pos rfl]
theorem FAl.ev {lo : Nat} {V : Nat → Value} {i : Nat} {v : Value} {W wb : World} (h : FAl lo V i v W) (hb : Below W.heap.size W wb) : FAl lo V i v wb := by
  by_cases hi : i = 7
  · subst hi
    obtain ⟨p, h1, h2, h3⟩ := FAl.iff7.1 h
    exact FAl.iff7.2 ⟨p, h1, h2, h3.below hb h3.lt⟩
  · exact FAl.val hi (h.get hi)
theorem readOpL_short {l : Bs} (h : l.length < 4) : readOpL l = none := by
  cases hr : readOpL l with
  | none => rfl
  | some o =>
    obtain ⟨h1, h2⟩ := readOpL_some hr
    have := (decL_len o.Value.toNat).1
    rw [opL_form h1] at h2
    rw [← h2] at h
    simp at h
    omega
theorem readOpL_bad {l : Bs} (h4 : 4 ≤ l.length) (hb : ¬ (l[2] = 61 ∧ (l[0] = 114 ∨ l[0] = 119))) : readOpL l = none := by
  match l, h4, hb with
  | k :: a :: e :: v, h4, hb =>
    show (if e = 61 ∧ (k = 114 ∨ k = 119) then _ else none) = none
    exact if_neg hb
theorem numI_nat {l : Bs} : (∃ n : Nat, readNum l = some n ∧ numI l = n) ∨ (readNum l = none ∧ numI l = -1) := by
  unfold numI
  cases h : readNum l with
  | none => exact .inr ⟨rfl, rfl⟩
  | some n => exact .inl ⟨n, rfl, rfl⟩
theorem opOk_neg {K k v : Int} (h : k = -1 ∨ v = -1) : opOk ⟨K, k, v⟩ = false := by
  rw [opOk_eq]
  rcases h with rfl | rfl
  · simp [inR]
  · simp [inR]
theorem readOpL_go (k a : UInt8) (v : Bs) (hk : k = 114 ∨ k = 119) :
    readOpL (k :: a :: 61 :: v) = if opOk ⟨if k = 119 then 2 else 1, numI [a], numI v⟩ then some ⟨if k = 119 then 2 else 1, numI [a], numI v⟩ else none := by
  rw [readOpL, if_pos ⟨rfl, hk⟩]
  rcases numI_nat (l := [a]) with ⟨x, hx, hx2⟩ | ⟨hx, hx2⟩
  · rw [show digV a = some x from hx, hx2]
    rcases numI_nat (l := v) with ⟨y, hy, hy2⟩ | ⟨hy, hy2⟩
    · rw [hy, hy2]
    · rw [hy, hy2, opOk_neg (.inr rfl)]; rfl
  · rw [show digV a = none from hx, hx2, opOk_neg (.inl rfl)]; rfl
theorem readOpL_good {l : Bs} (h4 : 4 ≤ l.length) (he : l[2] = 61) (hk : l[0] = 114 ∨ l[0] = 119) :
    readOpL l = if opOk ⟨if l[0] = 119 then 2 else 1, numI ((l.drop 1).take 1), numI (l.drop 3)⟩ then some ⟨if l[0] = 119 then 2 else 1, numI ((l.drop 1).take 1), numI (l.drop 3)⟩ else none := by
  match l, h4, he, hk with
  | k :: a :: e :: v, h4, he, hk =>
    have he : e = 61 := he
    subst he
    exact readOpL_go k a v hk
set_option maxRecDepth 10000 in
set_option maxHeartbeats 4000000 in
theorem specReadOp (s : ByteArray) (w : World) (hs : s.size ≤ 9223372036854775807) : Calls Tryz.prog 61 #[.string s] w fun e w' => e = .returned (readOV s.data.toList) ∧ Below w.heap.size w w' := by
  have HSz := hide (show s.size = s.data.toList.length by rw [Array.length_toList]; rfl)
  have HB0 := hide ((Below.refl _ w).alloc (Nat.le_refl _) (.cells #[.int .i64 0, .int .i64 0, .int .i64 0] 46))
  have HX0 := hide (Blk.new w 46 #[.int .i64 0, .int .i64 0, .int .i64 0])
  have hz0 : w.heap.size < (w.alloc (.cells #[.int .i64 0, .int .i64 0, .int .i64 0] 46)).heap.size := by simp
  by_cases h4 : 4 ≤ s.size
  · have h4s : ¬ (s.size : Int) < 4 := by omega
    have h2s : (2 : Int) ≤ (s.size : Int) := by omega
    have h3s : (3 : Int) ≤ (s.size : Int) := by omega
    have h0i : (0 : Int) < (s.size : Int) := by omega
    have h2i : (2 : Int) < (s.size : Int) := by omega
    have hll : 4 ≤ s.data.toList.length := by rw [← HSz.out]; exact h4
    have hx0 : s.data.toList[0] = s[0]'(by omega) := by rw [Array.getElem_toList]; rfl
    have hx2 : s.data.toList[2] = s[2]'(by omega) := by rw [Array.getElem_toList]; rfl
    by_cases g2 : s[2]'(by omega) = 61
    · have m2 : (((s[2]'(by omega)).toNat : Int) != 61) = false := by rw [bne_eq_false_iff_eq, g2]; rfl
      by_cases g0 : s[0]'(by omega) = 114
      · have m0 : (((s[0]'(by omega)).toNat : Int) != 114) = false := by rw [bne_eq_false_iff_eq, g0]; rfl
        obtain ⟨x, hx⟩ : ∃ x, x = numI ((s.data.toList.drop 1).take 1) := ⟨_, rfl⟩
        obtain ⟨y, hy⟩ : ∃ y, y = numI (s.data.toList.drop 3) := ⟨_, rfl⟩
        have HGd := hide (show readOpL s.data.toList = if opOk ⟨1, x, y⟩ then some ⟨1, x, y⟩ else none by
          rw [readOpL_good hll (by rw [hx2]; exact g2) (by rw [hx0]; exact .inl g0), hx0, hx, hy]; simp only [g0]; rfl)
        have HI1 := hide (fun W => show Calls Tryz.prog 60 #[.string (s.extract 1 2)] W fun e w' => e = .returned (.int .i64 x) ∧ Below W.heap.size W w' from by
          have h := l1Read_any (s.extract 1 2) W (by rw [ByteArray.size_extract]; omega)
          rw [Lib.extract_data] at h
          rw [hx]; exact h)
        have HI2 := hide (fun W => show Calls Tryz.prog 60 #[.string (s.extract 3 s.size)] W fun e w' => e = .returned (.int .i64 y) ∧ Below W.heap.size W w' from by
          have h := l1Read_any (s.extract 3 s.size) W (by rw [ByteArray.size_extract]; omega)
          rw [Lib.extract_data, List.take_of_length_le (by rw [List.length_drop, ← HSz.out]; omega)] at h
          rw [hy]; exact h)
        have HOk := hide (fun W => specOpValid ⟨1, x, y⟩ W)
        have hk0 : ((s[0]'(by omega)).toNat : Int) = 114 := by rw [g0]; rfl
        have hk0b : (((s[0]'(by omega)).toNat : Int) == 119) = false := by rw [hk0]; rfl
        clear g0 g2
        clear hx hy hll hx0 hx2
        go_enter Tryz.func61, Tryz.ntmps61
        go_upto_region 1 with fail
        generalize w.alloc _ = w1 at HB0 HX0 hz0 ⊢
        go_upto_region 3 with fail
        clear hk0
        have HB1 := HB0; have HX1 := HX0
        refine wp_region_facts 8 (fun _ W => Below w1.heap.size w1 W) (FAl w1.heap.size (fun q9 : Nat => match q9 with | 0 => .string s | 1 => .string (s.extract 1 2) | 2 => .int .i64 x | 3 => .string s | 4 => .string (s.extract 3 s.size) | 5 => .int .i64 y | 6 => .agg #[.int .i64 1, .int .i64 x, .int .i64 y] | 7 => undef | _ => undef)) (fun _ a b => Below a.heap.size a b) [some 24, some 25, some 26, some 27, some 28, some 29, some 30, some 4] (by kernel_rfl) (by kernel_rfl) (by kernel_rfl) (by kernel_rfl) ?_ ?_ ?_ ?_
        · exact (Below.refl _ w1).drew
        · intro i k9 v wa wb _ _ _ hF hE; exact hF.ev hE
        · intro i o9 hi ho a wa L9 hL hJ hc hd K hK
          have hi' : i = 0 ∨ i = 1 ∨ i = 2 ∨ i = 3 ∨ i = 4 ∨ i = 5 ∨ i = 6 ∨ i = 7 := by omega
          clear hi
          rcases hi' with rfl | rfl | rfl | rfl | rfl | rfl | rfl | rfl
          all_goals
            simp only [List.getElem?_toArray, List.getElem?_cons_zero, List.getElem?_cons_succ, Option.some.injEq] at ho
            subst ho
            simp only [reduceCtorEq, if_false] at hK
          · have e0 := (hc 0 (by kernel_rfl)).trans rfl
            go_simp
            exact hK _ _ (FAl.val (by decide) rfl) hJ (Below.refl _ _)
          · have e24 : a.tmps.getD 24 undef = .string s := (hd 0 24 (by kernel_rfl)).get (by decide)
            have s2 : (2 : Int) ≤ (s.size : Int) := h2s
            go_simp
            exact hK _ _ (FAl.val (by decide) rfl) hJ (Below.refl _ _)
          · have e25 : a.tmps.getD 25 undef = .string (s.extract 1 2) := (hd 1 25 (by kernel_rfl)).get (by decide)
            go_simp
            refine (HI1.out wa).mono ?_
            rintro e w9 ⟨rfl, hb9⟩
            exact hK _ _ (FAl.val (by decide) rfl) (hJ.trans (hb9.mono hJ.size)) hb9
          · have e0 := (hc 0 (by kernel_rfl)).trans rfl
            go_simp
            exact hK _ _ (FAl.val (by decide) rfl) hJ (Below.refl _ _)
          · have e27 : a.tmps.getD 27 undef = .string s := (hd 3 27 (by kernel_rfl)).get (by decide)
            have s3 : (3 : Int) ≤ (s.size : Int) := h3s
            go_simp
            exact hK _ _ (FAl.val (by decide) rfl) hJ (Below.refl _ _)
          · have e28 : a.tmps.getD 28 undef = .string (s.extract 3 s.size) := (hd 4 28 (by kernel_rfl)).get (by decide)
            go_simp
            refine (HI2.out wa).mono ?_
            rintro e w9 ⟨rfl, hb9⟩
            exact hK _ _ (FAl.val (by decide) rfl) (hJ.trans (hb9.mono hJ.size)) hb9
          · have e26 : a.tmps.getD 26 undef = .int .i64 x := (hd 2 26 (by kernel_rfl)).get (by decide)
            have e29 : a.tmps.getD 29 undef = .int .i64 y := (hd 5 29 (by kernel_rfl)).get (by decide)
            rw [Array.getD_eq_getD_getElem?] at e26 e29
            go_simp
            exact hK _ _ (FAl.val (by decide) rfl) hJ (Below.refl _ _)
          · go_simp
            exact hK _ _ (FAl.iff7.2 ⟨_, hJ.size, rfl, Blk.new _ _ _⟩) (hJ.alloc hJ.size _) ((Below.refl _ wa).alloc (Nat.le_refl _) _)
        · intro vs wz L9 hL hJ hF
          have f6 : vs 6 = .agg #[.int .i64 1, .int .i64 x, .int .i64 y] := (hF 6 (by decide)).get (by decide)
          obtain ⟨p, hp, f7, hBp⟩ := FAl.iff7.1 (hF 7 (by decide))
          simp only [putD, Act.put, List.setIfInBounds_toArray, List.set_cons_zero, List.set_cons_succ, List.drop_succ_cons, List.drop_zero]
          rw [f6, f7]
          have HBp := hide hBp
          have HJ := hide (HB1.out.trans (hJ.mono HB1.out.size))
          have HXz := hide (HX1.out.below hJ HX1.out.lt)
          have c0 := hBp.cell 0; have c1 := hBp.cell 1; have c2 := hBp.cell 2; have d0 := hBp.frozen 0; have d1 := hBp.frozen 1; have d2 := hBp.frozen 2
          simp only [List.getElem?_toArray, List.getElem?_cons_zero, List.getElem?_cons_succ] at c0 c1 c2
          have hpw : w.heap.size < p := by omega
          clear hF f6 f7 hJ hBp
          have hpl := HBp.out.lt
          cases hok : opOk ⟨1, x, y⟩ with
          | true =>
            have HR := hide (show readOV s.data.toList = .tuple #[.agg #[.int .i64 1, .int .i64 x, .int .i64 y], .bool true] by
              unfold readOV; rw [HGd.out, hok]; rfl)
            rw [hok] at HOk
            clear hok
            go_upto_region 6 with fail
            have HBq := hide (show Blk (((wz.setCell ⟨p, 0, none⟩ (.int .i64 1)).setCell ⟨p, 1, none⟩ (.int .i64 x)).setCell ⟨p, 2, none⟩ (.int .i64 y)) p 46 #[.int .i64 1, .int .i64 x, .int .i64 y] from ((HBp.out.set_ 0 _).set_ 1 _).set_ 2 _)
            have HXq := hide (show Blk (((wz.setCell ⟨p, 0, none⟩ (.int .i64 1)).setCell ⟨p, 1, none⟩ (.int .i64 x)).setCell ⟨p, 2, none⟩ (.int .i64 y)) w.heap.size 46 #[.int .i64 0, .int .i64 0, .int .i64 0] from ((HXz.out.far (by simp; omega) _).far (by simp; omega) _).far (by simp; omega) _)
            have HJq := hide (show Below w.heap.size w (((wz.setCell ⟨p, 0, none⟩ (.int .i64 1)).setCell ⟨p, 1, none⟩ (.int .i64 x)).setCell ⟨p, 2, none⟩ (.int .i64 y)) from ((HJ.out.setCell (by simp; omega) _).setCell (by simp; omega) _).setCell (by simp; omega) _)
            clear HBp HXz HJ c0 c1 c2 d0 d1 d2 hpl hk0b
            generalize World.setCell _ _ _ = wq at HBq HXq HJq ⊢
            have c0 := HBq.out.cell 0; have c1 := HBq.out.cell 1; have c2 := HBq.out.cell 2
            simp only [List.getElem?_toArray, List.getElem?_cons_zero, List.getElem?_cons_succ] at c0 c1 c2
            go_wp2_with (go_at_call 48; refine (HOk.out _).mono ?_; rintro e w5 ⟨rfl, hb5⟩; have HJ5 := hide (HJq.out.trans (hb5.mono HJq.out.size)); have HB5 := HBq.out.below hb5 HBq.out.lt; have HX5 := HXq.out.below hb5 HXq.out.lt; have y0 := HB5.cell 0; have y1 := HB5.cell 1; have y2 := HB5.cell 2; have u0 := HX5.cell 0; have u1 := HX5.cell 1; have u2 := HX5.cell 2; have v0 := HX5.frozen 0; have v1 := HX5.frozen 1; have v2 := HX5.frozen 2; simp only [List.getElem?_toArray, List.getElem?_cons_zero, List.getElem?_cons_succ] at y0 y1 y2 u0 u1 u2; clear hb5 HB5 HX5)
            refine bodyPost_ret (v := .tuple #[.agg #[.int .i64 1, .int .i64 x, .int .i64 y], .bool true]) (by simp [results, Tryz.results61, go_sem, u0, u1, u2]) rfl ⟨by rw [HR.out], ?_⟩
            repeat (first | refine Below.setCell ?_ (by simp; try omega) _ | exact HJ5.out)
          | false =>
            have HR := hide (show readOV s.data.toList = .tuple #[.agg #[.int .i64 0, .int .i64 0, .int .i64 0], .bool false] by
              unfold readOV; rw [HGd.out, hok]; rfl)
            rw [hok] at HOk
            clear hok
            go_upto_region 6 with fail
            have HBq := hide (show Blk (((wz.setCell ⟨p, 0, none⟩ (.int .i64 1)).setCell ⟨p, 1, none⟩ (.int .i64 x)).setCell ⟨p, 2, none⟩ (.int .i64 y)) p 46 #[.int .i64 1, .int .i64 x, .int .i64 y] from ((HBp.out.set_ 0 _).set_ 1 _).set_ 2 _)
            have HXq := hide (show Blk (((wz.setCell ⟨p, 0, none⟩ (.int .i64 1)).setCell ⟨p, 1, none⟩ (.int .i64 x)).setCell ⟨p, 2, none⟩ (.int .i64 y)) w.heap.size 46 #[.int .i64 0, .int .i64 0, .int .i64 0] from ((HXz.out.far (by simp; omega) _).far (by simp; omega) _).far (by simp; omega) _)
            have HJq := hide (show Below w.heap.size w (((wz.setCell ⟨p, 0, none⟩ (.int .i64 1)).setCell ⟨p, 1, none⟩ (.int .i64 x)).setCell ⟨p, 2, none⟩ (.int .i64 y)) from ((HJ.out.setCell (by simp; omega) _).setCell (by simp; omega) _).setCell (by simp; omega) _)
            clear HBp HXz HJ c0 c1 c2 d0 d1 d2 hpl hk0b
            generalize World.setCell _ _ _ = wq at HBq HXq HJq ⊢
            have c0 := HBq.out.cell 0; have c1 := HBq.out.cell 1; have c2 := HBq.out.cell 2
            simp only [List.getElem?_toArray, List.getElem?_cons_zero, List.getElem?_cons_succ] at c0 c1 c2
            go_wp2_with (go_at_call 48; refine (HOk.out _).mono ?_; rintro e w5 ⟨rfl, hb5⟩; have HJ5 := hide (HJq.out.trans (hb5.mono HJq.out.size)); have HX5 := HXq.out.below hb5 HXq.out.lt; have u0 := HX5.cell 0; have u1 := HX5.cell 1; have u2 := HX5.cell 2; have v0 := HX5.frozen 0; have v1 := HX5.frozen 1; have v2 := HX5.frozen 2; simp only [List.getElem?_toArray, List.getElem?_cons_zero, List.getElem?_cons_succ] at u0 u1 u2; clear hb5 HX5)
            refine bodyPost_ret (v := .tuple #[.agg #[.int .i64 0, .int .i64 0, .int .i64 0], .bool false]) (by simp [results, Tryz.results61, go_sem, u0, u1, u2]) rfl ⟨by rw [HR.out], ?_⟩
            repeat (first | refine Below.setCell ?_ (by simp; try omega) _ | exact HJ5.out)
      · by_cases g1 : s[0]'(by omega) = 119
        · have m0 : (((s[0]'(by omega)).toNat : Int) != 114) = true := by rw [bne_iff_ne, g1]; decide
          have m1 : (((s[0]'(by omega)).toNat : Int) != 119) = false := by rw [bne_eq_false_iff_eq, g1]; rfl
          replace g0 := g1
          obtain ⟨x, hx⟩ : ∃ x, x = numI ((s.data.toList.drop 1).take 1) := ⟨_, rfl⟩
          obtain ⟨y, hy⟩ : ∃ y, y = numI (s.data.toList.drop 3) := ⟨_, rfl⟩
          have HGd := hide (show readOpL s.data.toList = if opOk ⟨2, x, y⟩ then some ⟨2, x, y⟩ else none by
            rw [readOpL_good hll (by rw [hx2]; exact g2) (by rw [hx0]; exact .inr g0), hx0, hx, hy]; simp only [g0]; rfl)
          have HI1 := hide (fun W => show Calls Tryz.prog 60 #[.string (s.extract 1 2)] W fun e w' => e = .returned (.int .i64 x) ∧ Below W.heap.size W w' from by
            have h := l1Read_any (s.extract 1 2) W (by rw [ByteArray.size_extract]; omega)
            rw [Lib.extract_data] at h
            rw [hx]; exact h)
          have HI2 := hide (fun W => show Calls Tryz.prog 60 #[.string (s.extract 3 s.size)] W fun e w' => e = .returned (.int .i64 y) ∧ Below W.heap.size W w' from by
            have h := l1Read_any (s.extract 3 s.size) W (by rw [ByteArray.size_extract]; omega)
            rw [Lib.extract_data, List.take_of_length_le (by rw [List.length_drop, ← HSz.out]; omega)] at h
            rw [hy]; exact h)
          have HOk := hide (fun W => specOpValid ⟨2, x, y⟩ W)
          have hk0 : ((s[0]'(by omega)).toNat : Int) = 119 := by rw [g0]; rfl
          have hk0b : (((s[0]'(by omega)).toNat : Int) == 119) = true := by rw [hk0]; rfl
          clear g0 g1 g2
          clear hx hy hll hx0 hx2
          go_enter Tryz.func61, Tryz.ntmps61
          go_upto_region 1 with fail
          generalize w.alloc _ = w1 at HB0 HX0 hz0 ⊢
          go_upto_region 3 with fail
          clear hk0
          have HB1 := HB0; have HX1 := HX0
          refine wp_region_facts 8 (fun _ W => Below w1.heap.size w1 W) (FAl w1.heap.size (fun q9 : Nat => match q9 with | 0 => .string s | 1 => .string (s.extract 1 2) | 2 => .int .i64 x | 3 => .string s | 4 => .string (s.extract 3 s.size) | 5 => .int .i64 y | 6 => .agg #[.int .i64 1, .int .i64 x, .int .i64 y] | 7 => undef | _ => undef)) (fun _ a b => Below a.heap.size a b) [some 24, some 25, some 26, some 27, some 28, some 29, some 30, some 4] (by kernel_rfl) (by kernel_rfl) (by kernel_rfl) (by kernel_rfl) ?_ ?_ ?_ ?_
          · exact (Below.refl _ w1).drew
          · intro i k9 v wa wb _ _ _ hF hE; exact hF.ev hE
          · intro i o9 hi ho a wa L9 hL hJ hc hd K hK
            have hi' : i = 0 ∨ i = 1 ∨ i = 2 ∨ i = 3 ∨ i = 4 ∨ i = 5 ∨ i = 6 ∨ i = 7 := by omega
            clear hi
            rcases hi' with rfl | rfl | rfl | rfl | rfl | rfl | rfl | rfl
            all_goals
              simp only [List.getElem?_toArray, List.getElem?_cons_zero, List.getElem?_cons_succ, Option.some.injEq] at ho
              subst ho
              simp only [reduceCtorEq, if_false] at hK
            · have e0 := (hc 0 (by kernel_rfl)).trans rfl
              go_simp
              exact hK _ _ (FAl.val (by decide) rfl) hJ (Below.refl _ _)
            · have e24 : a.tmps.getD 24 undef = .string s := (hd 0 24 (by kernel_rfl)).get (by decide)
              have s2 : (2 : Int) ≤ (s.size : Int) := h2s
              go_simp
              exact hK _ _ (FAl.val (by decide) rfl) hJ (Below.refl _ _)
            · have e25 : a.tmps.getD 25 undef = .string (s.extract 1 2) := (hd 1 25 (by kernel_rfl)).get (by decide)
              go_simp
              refine (HI1.out wa).mono ?_
              rintro e w9 ⟨rfl, hb9⟩
              exact hK _ _ (FAl.val (by decide) rfl) (hJ.trans (hb9.mono hJ.size)) hb9
            · have e0 := (hc 0 (by kernel_rfl)).trans rfl
              go_simp
              exact hK _ _ (FAl.val (by decide) rfl) hJ (Below.refl _ _)
            · have e27 : a.tmps.getD 27 undef = .string s := (hd 3 27 (by kernel_rfl)).get (by decide)
              have s3 : (3 : Int) ≤ (s.size : Int) := h3s
              go_simp
              exact hK _ _ (FAl.val (by decide) rfl) hJ (Below.refl _ _)
            · have e28 : a.tmps.getD 28 undef = .string (s.extract 3 s.size) := (hd 4 28 (by kernel_rfl)).get (by decide)
              go_simp
              refine (HI2.out wa).mono ?_
              rintro e w9 ⟨rfl, hb9⟩
              exact hK _ _ (FAl.val (by decide) rfl) (hJ.trans (hb9.mono hJ.size)) hb9
            · have e26 : a.tmps.getD 26 undef = .int .i64 x := (hd 2 26 (by kernel_rfl)).get (by decide)
              have e29 : a.tmps.getD 29 undef = .int .i64 y := (hd 5 29 (by kernel_rfl)).get (by decide)
              rw [Array.getD_eq_getD_getElem?] at e26 e29
              go_simp
              exact hK _ _ (FAl.val (by decide) rfl) hJ (Below.refl _ _)
            · go_simp
              exact hK _ _ (FAl.iff7.2 ⟨_, hJ.size, rfl, Blk.new _ _ _⟩) (hJ.alloc hJ.size _) ((Below.refl _ wa).alloc (Nat.le_refl _) _)
          · intro vs wz L9 hL hJ hF
            have f6 : vs 6 = .agg #[.int .i64 1, .int .i64 x, .int .i64 y] := (hF 6 (by decide)).get (by decide)
            obtain ⟨p, hp, f7, hBp⟩ := FAl.iff7.1 (hF 7 (by decide))
            simp only [putD, Act.put, List.setIfInBounds_toArray, List.set_cons_zero, List.set_cons_succ, List.drop_succ_cons, List.drop_zero]
            rw [f6, f7]
            have HBp := hide hBp
            have HJ := hide (HB1.out.trans (hJ.mono HB1.out.size))
            have HXz := hide (HX1.out.below hJ HX1.out.lt)
            have c0 := hBp.cell 0; have c1 := hBp.cell 1; have c2 := hBp.cell 2; have d0 := hBp.frozen 0; have d1 := hBp.frozen 1; have d2 := hBp.frozen 2
            simp only [List.getElem?_toArray, List.getElem?_cons_zero, List.getElem?_cons_succ] at c0 c1 c2
            have hpw : w.heap.size < p := by omega
            clear hF f6 f7 hJ hBp
            have hpl := HBp.out.lt
            cases hok : opOk ⟨2, x, y⟩ with
            | true =>
              have HR := hide (show readOV s.data.toList = .tuple #[.agg #[.int .i64 2, .int .i64 x, .int .i64 y], .bool true] by
                unfold readOV; rw [HGd.out, hok]; rfl)
              rw [hok] at HOk
              clear hok
              go_upto_region 6 with fail
              have HBq := hide (show Blk ((((wz.setCell ⟨p, 0, none⟩ (.int .i64 1)).setCell ⟨p, 1, none⟩ (.int .i64 x)).setCell ⟨p, 2, none⟩ (.int .i64 y)).setCell ⟨p, 0, none⟩ (.int .i64 2)) p 46 #[.int .i64 2, .int .i64 x, .int .i64 y] from (((HBp.out.set_ 0 (.int .i64 1)).set_ 1 _).set_ 2 _).set_ 0 _)
              have HXq := hide (show Blk ((((wz.setCell ⟨p, 0, none⟩ (.int .i64 1)).setCell ⟨p, 1, none⟩ (.int .i64 x)).setCell ⟨p, 2, none⟩ (.int .i64 y)).setCell ⟨p, 0, none⟩ (.int .i64 2)) w.heap.size 46 #[.int .i64 0, .int .i64 0, .int .i64 0] from (((HXz.out.far (by simp; omega) _).far (by simp; omega) _).far (by simp; omega) _).far (by simp; omega) _)
              have HJq := hide (show Below w.heap.size w ((((wz.setCell ⟨p, 0, none⟩ (.int .i64 1)).setCell ⟨p, 1, none⟩ (.int .i64 x)).setCell ⟨p, 2, none⟩ (.int .i64 y)).setCell ⟨p, 0, none⟩ (.int .i64 2)) from (((HJ.out.setCell (by simp; omega) _).setCell (by simp; omega) _).setCell (by simp; omega) _).setCell (by simp; omega) _)
              clear HBp HXz HJ c0 c1 c2 d0 d1 d2 hpl hk0b
              generalize World.setCell _ _ _ = wq at HBq HXq HJq ⊢
              have c0 := HBq.out.cell 0; have c1 := HBq.out.cell 1; have c2 := HBq.out.cell 2
              simp only [List.getElem?_toArray, List.getElem?_cons_zero, List.getElem?_cons_succ] at c0 c1 c2
              go_wp2_with (go_at_call 48; refine (HOk.out _).mono ?_; rintro e w5 ⟨rfl, hb5⟩; have HJ5 := hide (HJq.out.trans (hb5.mono HJq.out.size)); have HB5 := HBq.out.below hb5 HBq.out.lt; have HX5 := HXq.out.below hb5 HXq.out.lt; have y0 := HB5.cell 0; have y1 := HB5.cell 1; have y2 := HB5.cell 2; have u0 := HX5.cell 0; have u1 := HX5.cell 1; have u2 := HX5.cell 2; have v0 := HX5.frozen 0; have v1 := HX5.frozen 1; have v2 := HX5.frozen 2; simp only [List.getElem?_toArray, List.getElem?_cons_zero, List.getElem?_cons_succ] at y0 y1 y2 u0 u1 u2; clear hb5 HB5 HX5)
              refine bodyPost_ret (v := .tuple #[.agg #[.int .i64 2, .int .i64 x, .int .i64 y], .bool true]) (by simp [results, Tryz.results61, go_sem, u0, u1, u2]) rfl ⟨by rw [HR.out], ?_⟩
              repeat (first | refine Below.setCell ?_ (by simp; try omega) _ | exact HJ5.out)
            | false =>
              have HR := hide (show readOV s.data.toList = .tuple #[.agg #[.int .i64 0, .int .i64 0, .int .i64 0], .bool false] by
                unfold readOV; rw [HGd.out, hok]; rfl)
              rw [hok] at HOk
              clear hok
              go_upto_region 6 with fail
              have HBq := hide (show Blk ((((wz.setCell ⟨p, 0, none⟩ (.int .i64 1)).setCell ⟨p, 1, none⟩ (.int .i64 x)).setCell ⟨p, 2, none⟩ (.int .i64 y)).setCell ⟨p, 0, none⟩ (.int .i64 2)) p 46 #[.int .i64 2, .int .i64 x, .int .i64 y] from (((HBp.out.set_ 0 (.int .i64 1)).set_ 1 _).set_ 2 _).set_ 0 _)
              have HXq := hide (show Blk ((((wz.setCell ⟨p, 0, none⟩ (.int .i64 1)).setCell ⟨p, 1, none⟩ (.int .i64 x)).setCell ⟨p, 2, none⟩ (.int .i64 y)).setCell ⟨p, 0, none⟩ (.int .i64 2)) w.heap.size 46 #[.int .i64 0, .int .i64 0, .int .i64 0] from (((HXz.out.far (by simp; omega) _).far (by simp; omega) _).far (by simp; omega) _).far (by simp; omega) _)
              have HJq := hide (show Below w.heap.size w ((((wz.setCell ⟨p, 0, none⟩ (.int .i64 1)).setCell ⟨p, 1, none⟩ (.int .i64 x)).setCell ⟨p, 2, none⟩ (.int .i64 y)).setCell ⟨p, 0, none⟩ (.int .i64 2)) from (((HJ.out.setCell (by simp; omega) _).setCell (by simp; omega) _).setCell (by simp; omega) _).setCell (by simp; omega) _)
              clear HBp HXz HJ c0 c1 c2 d0 d1 d2 hpl hk0b
              generalize World.setCell _ _ _ = wq at HBq HXq HJq ⊢
              have c0 := HBq.out.cell 0; have c1 := HBq.out.cell 1; have c2 := HBq.out.cell 2
              simp only [List.getElem?_toArray, List.getElem?_cons_zero, List.getElem?_cons_succ] at c0 c1 c2
              go_wp2_with (go_at_call 48; refine (HOk.out _).mono ?_; rintro e w5 ⟨rfl, hb5⟩; have HJ5 := hide (HJq.out.trans (hb5.mono HJq.out.size)); have HX5 := HXq.out.below hb5 HXq.out.lt; have u0 := HX5.cell 0; have u1 := HX5.cell 1; have u2 := HX5.cell 2; have v0 := HX5.frozen 0; have v1 := HX5.frozen 1; have v2 := HX5.frozen 2; simp only [List.getElem?_toArray, List.getElem?_cons_zero, List.getElem?_cons_succ] at u0 u1 u2; clear hb5 HX5)
              refine bodyPost_ret (v := .tuple #[.agg #[.int .i64 0, .int .i64 0, .int .i64 0], .bool false]) (by simp [results, Tryz.results61, go_sem, u0, u1, u2]) rfl ⟨by rw [HR.out], ?_⟩
              repeat (first | refine Below.setCell ?_ (by simp; try omega) _ | exact HJ5.out)
        · have m0 : (((s[0]'(by omega)).toNat : Int) != 114) = true := by
            rw [bne_iff_ne]; intro e; exact g0 (UInt8.toNat_inj.1 (by show _ = 114; omega))
          have m1 : (((s[0]'(by omega)).toNat : Int) != 119) = true := by
            rw [bne_iff_ne]; intro e; exact g1 (UInt8.toNat_inj.1 (by show _ = 119; omega))
          have HR := hide (show readOV s.data.toList = .tuple #[.agg #[.int .i64 0, .int .i64 0, .int .i64 0], .bool false] by
            unfold readOV; rw [readOpL_bad hll (by rw [hx0, hx2]; exact fun e => e.2.elim g0 g1)]; rfl)
          clear hll hx0 hx2
          clear g0 g1 g2
          go_enter Tryz.func61, Tryz.ntmps61
          go_upto_region 1 with fail
          generalize w.alloc _ = W at HB0 HX0 hz0 ⊢
          have x0 := HX0.out.cell 0; have x1 := HX0.out.cell 1; have x2 := HX0.out.cell 2; have f0 := HX0.out.frozen 0; have f1 := HX0.out.frozen 1; have f2 := HX0.out.frozen 2
          simp only [List.getElem?_toArray, List.getElem?_cons_zero, List.getElem?_cons_succ] at x0 x1 x2
          go_wp2_with fail
          refine bodyPost_ret (v := .tuple #[.agg #[.int .i64 0, .int .i64 0, .int .i64 0], .bool false]) (by simp [results, Tryz.results61, go_sem, x0, x1, x2]) rfl ⟨by rw [HR.out], ?_⟩
          repeat (first | refine Below.setCell ?_ (by simp; try omega) _ | exact HB0.out)
    · have m2 : (((s[2]'(by omega)).toNat : Int) != 61) = true := by
        rw [bne_iff_ne]; intro e; exact g2 (UInt8.toNat_inj.1 (by show _ = 61; omega))
      have HR := hide (show readOV s.data.toList = .tuple #[.agg #[.int .i64 0, .int .i64 0, .int .i64 0], .bool false] by
        unfold readOV; rw [readOpL_bad hll (by rw [hx0, hx2]; exact fun e => g2 e.1)]; rfl)
      clear hll hx0 hx2
      clear g2
      go_enter Tryz.func61, Tryz.ntmps61
      go_upto_region 1 with fail
      generalize w.alloc _ = W at HB0 HX0 hz0 ⊢
      have x0 := HX0.out.cell 0; have x1 := HX0.out.cell 1; have x2 := HX0.out.cell 2; have f0 := HX0.out.frozen 0; have f1 := HX0.out.frozen 1; have f2 := HX0.out.frozen 2
      simp only [List.getElem?_toArray, List.getElem?_cons_zero, List.getElem?_cons_succ] at x0 x1 x2
      go_wp2_with fail
      refine bodyPost_ret (v := .tuple #[.agg #[.int .i64 0, .int .i64 0, .int .i64 0], .bool false]) (by simp [results, Tryz.results61, go_sem, x0, x1, x2]) rfl ⟨by rw [HR.out], ?_⟩
      repeat (first | refine Below.setCell ?_ (by simp; try omega) _ | exact HB0.out)
  · have HR := hide (show readOV s.data.toList = .tuple #[.agg #[.int .i64 0, .int .i64 0, .int .i64 0], .bool false] by
      unfold readOV; rw [readOpL_short (by rw [← HSz.out]; omega)]; rfl)
    have h4s : (s.size : Int) < 4 := by omega
    go_enter Tryz.func61, Tryz.ntmps61
    go_upto_region 1 with fail
    generalize w.alloc _ = W at HB0 HX0 hz0 ⊢
    have x0 := HX0.out.cell 0; have x1 := HX0.out.cell 1; have x2 := HX0.out.cell 2; have f0 := HX0.out.frozen 0; have f1 := HX0.out.frozen 1; have f2 := HX0.out.frozen 2
    simp only [List.getElem?_toArray, List.getElem?_cons_zero, List.getElem?_cons_succ] at x0 x1 x2
    go_wp2_with fail
    refine bodyPost_ret (v := .tuple #[.agg #[.int .i64 0, .int .i64 0, .int .i64 0], .bool false]) (by simp [results, Tryz.results61, go_sem, x0, x1, x2]) rfl ⟨by rw [HR.out], ?_⟩
    repeat (first | refine Below.setCell ?_ (by simp; try omega) _ | exact HB0.out)
end Go.Proofs.YtjnghnkilnhacaaGreatDoor
