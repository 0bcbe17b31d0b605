/- The law of VerdictRight: the program answers as the reference does, for all arguments. -/
import Derived.Test.YtjiobgfaohldhaaGreatQVerS2
import Derived.Test.YtjiobgfaohldhaaGreatQSzC
import Derived.Test.YtjiobgfaohldhaaGreatQAnyOrder
import Derived.Test.YtjiobgfaohldhaaGreatProg
import Derived.Test.YtjiobgfaohldhaaGreatQToA
import Derived.Test.YtjiobgfaohldhaaGreatQAllF
namespace Go.Proofs.YtjiobgfaohldhaaGreat
open Go.RowKit
set_option linter.unusedVariables false
set_option linter.unusedSimpArgs false

section
open Go.ChangeShapes Go.WideShapes
variable {H : Type} {enc : TypeId × Value → H} {P : Program} {w : World} {base : Nat} {spare : Nat → Bool} {held : Bool} {i64 : TypeId}
theorem openVerd {t tl tll tb : TypeId} {f0 f1 f2 : Field} (he : P.underlying t = some (.struct #[f0, f1, f2])) (hl_ : P.underlying tl = some (.slice i64)) (hll : P.underlying tll = some (.slice tl)) (hi : P.underlying i64 = some (.int .i64)) (hb : P.underlying tb = some .bool)
    (hC : P.cellsOf t = 3) (hCl : P.cellsOf tl = 1) (hCll : P.cellsOf tll = 1) (hc : P.cellsOf i64 = 1) (hCb : P.cellsOf tb = 1)
    (h0 : (f0.type, f0.offset) = (tb, 0)) (h1 : (f1.type, f1.offset) = (tl, 1)) (h2 : (f2.type, f2.offset) = (tll, 2)) :
    ∀ n cs y, DataW.trod enc P w base spare held n t cs = some y → ∃ (g : Bool) (o : List Int) (xss : List (List Int)) (v u : Value), cs = [.bool g, v, u] ∧ Sl tInt w (Old w) o v ∧ Sl (tSlice tInt) w (Old w) xss u := fun _ cs _ h => by
  obtain ⟨hl, hf⟩ := fields_of_trod he h
  simp only [Prod.mk.injEq] at h0 h1 h2
  obtain ⟨a, b, c, rfl⟩ := len3 (hl.trans hC)
  obtain ⟨_, _, g0⟩ := hf 0 f0 rfl
  obtain ⟨_, _, g1⟩ := hf 1 f1 rfl
  obtain ⟨_, _, g2⟩ := hf 2 f2 rfl
  rw [h0.1, h0.2, hCb] at g0
  rw [h1.1, h1.2, hCl] at g1
  rw [h2.1, h2.2, hCll] at g2
  obtain ⟨d, rfl⟩ := boolField hb rfl g0
  obtain ⟨o, v, hv, hs1⟩ := sl_of_trod tInt hl_ hc (by decide) (elemInt hi) g1
  obtain ⟨xss, u, hu, hs2⟩ := sl_of_trod (tSlice tInt) hll hCl (by decide) (elemIntS hl_ hc hi) g2
  obtain rfl : b = v := by simpa using hv
  obtain rfl : c = u := by simpa using hu
  exact ⟨d, o, xss, b, c, rfl, hs1, hs2⟩
end
/-- The facts of the drawn regions: some operations make transactions, some a verdict. -/
def FEx (xs : List Txn) (g : Bool) (o : List Int) (cs : List (List Int)) (i1 i2 : Nat) (V : Nat → Value) (i : Nat) (v : Value) (W : World) : Prop :=
  if i = i1 then ∃ A c, v = .slice A xs.length c ∧ Row tTxn W (Old W) A xs
  else if i = i2 then ∃ A c B d, v = .agg #[.bool g, .slice A o.length c, .slice B cs.length d] ∧ Row tInt W (Old W) A o ∧ Row (tSlice tInt) W (Old W) B cs
  else v = V i
section
variable {xs : List Txn} {g : Bool} {o : List Int} {cs : List (List Int)} {i1 i2 : Nat} {V : Nat → Value} {i : Nat} {v : Value} {W : World}
theorem FEx.get (h : FEx xs g o cs i1 i2 V i v W) (hi : i ≠ i1 ∧ i ≠ i2) : v = V i := by
  unfold FEx at h
  rwa [if_neg hi.1, if_neg hi.2] at h
theorem FEx.val (hi : i ≠ i1 ∧ i ≠ i2) (h : v = V i) : FEx xs g o cs i1 i2 V i v W := by
  unfold FEx
  rwa [if_neg hi.1, if_neg hi.2]
theorem FEx.iff1 : FEx xs g o cs i1 i2 V i1 v W ↔ ∃ A c, v = .slice A xs.length c ∧ Row tTxn W (Old W) A xs := by unfold FEx; rw [if_pos rfl]
theorem FEx.iff2 (hn : i2 ≠ i1) : FEx xs g o cs i1 i2 V i2 v W ↔ ∃ A c B d, v = .agg #[.bool g, .slice A o.length c, .slice B cs.length d] ∧ Row tInt W (Old W) A o ∧ Row (tSlice tInt) W (Old W) B cs := by unfold FEx; rw [if_neg hn, if_pos rfl]
theorem FEx.ev {wb : World} (h : FEx xs g o cs i1 i2 V i v W) (hb : Below W.heap.size W wb) : FEx xs g o cs i1 i2 V i v wb := by
  unfold FEx at *
  split
  · rename_i hi
    rw [if_pos hi] at h
    obtain ⟨A, c, rfl, hR⟩ := h
    exact ⟨A, c, rfl, hR.old hb⟩
  · rename_i hi
    rw [if_neg hi] at h
    split
    · rename_i hi2
      rw [if_pos hi2] at h
      obtain ⟨A, c, B, d, rfl, h1, h2⟩ := h
      exact ⟨A, c, B, d, rfl, h1.old hb, h2.old hb⟩
    · rename_i hi2
      rwa [if_neg hi2] at h
end
set_option maxRecDepth 10000 in
set_option maxHeartbeats 4000000 in
theorem lawVerR (xs : List Txn) (A : Option Addr) (c : Nat) (g : Bool) (o : List Int) (cs : List (List Int)) (Ao : Option Addr) (co : Nat) (Ac : Option Addr) (cc : Nat) (w : World) (hm : xs.length ≤ maxLen) (hA : Row tTxn w (Old w) A xs) (hmo : o.length ≤ maxLen) (hAo : Row tInt w (Old w) Ao o) (hmc : cs.length ≤ maxLen) (hAc : Row (tSlice tInt) w (Old w) Ac cs) :
    Calls Tryz.prog 3 #[.slice A xs.length c, .agg #[.bool g, .slice Ao o.length co, .slice Ac cs.length cc]] w fun e w' => e = .returned (.bool true) ∧ Below w.heap.size w w' := by
  have HB0 := hide ((Below.refl _ w).alloc (Nat.le_refl _) (.cells #[.bool g, .slice Ao o.length co, .slice Ac cs.length cc] 26))
  have HX0 := hide (Blk.new w 26 #[.bool g, .slice Ao o.length co, .slice Ac cs.length cc])
  have HA := hide hA; have HAo := hide hAo; have HAc := hide hAc
  have hq : xs.length ≤ 9223372036854775807 := by simpa [maxLen] using hm
  clear hA hAo hAc
  go_enter Tryz.func3, Tryz.ntmps3
  go_upto_region 1 with fail
  generalize w.alloc _ = W at HB0 HX0 ⊢
  have HXv := hide (fun (W2 : World) (hb : Below W.heap.size W W2) => And.intro ((HX0.out.below hb HX0.out.lt).cell 0) (And.intro ((HX0.out.below hb HX0.out.lt).cell 1) ((HX0.out.below hb HX0.out.lt).cell 2)))
  simp only [List.getElem?_toArray, List.getElem?_cons_zero, List.getElem?_cons_succ] at HXv
  have HSz := hide (szTxnS xs A c 1048576 W hm (lens_Txn HA.out) (by omega) (by omega) (HA.out.old HB0.out))
  go_upto_region 3 with (go_at_call 5; refine HSz.out.mono ?_; rintro e w1 ⟨l0, rfl, hr, hb1⟩; have HB1 := hide hb1; have HR := hide hr; clear hr hb1)
  rcases HR.out with rfl | ⟨g0, k0⟩
  · go_wp2_with fail
    go_ret
    exact ⟨rfl, HB0.out.trans (HB1.out.mono HB0.out.size)⟩
  have hl0 : xs.length ≤ 1048576 := by omega
  have hs0 : tot (fun x : Txn => x.Ops.length) xs ≤ 1048576 := by omega
  have HNx := hide (show ∀ x ∈ xs, x.Ops.length ≤ 1048576 from fun x hx => Nat.le_trans (tot_le (fun x : Txn => x.Ops.length) xs x hx) hs0)
  have hl1 : l0 ≤ 1048576 := by omega
  have hl2 : ¬ l0 < 0 := by omega
  have hl3 : decide (l0 < 0) = false := decide_eq_false hl2
  clear k0
  have HB01 := hide (HB0.out.trans (HB1.out.mono HB0.out.size))
  obtain ⟨x0, x1, x2⟩ := HXv.out w1 HB1.out
  have HSv := hide (szVerdict g o cs Ao Ac co cc l0 w1 hmo hmc (lens_IntS HAc.out) g0 hl1 (HAc.out.old HB01.out))
  go_upto_region 6 with (go_at_call 6; refine HSv.out.mono ?_; rintro e w2 ⟨l1, rfl, hr, hb2⟩; have HB2 := hide (HB1.out.trans (hb2.mono HB1.out.size)); have HR2 := hide hr; clear hr hb2)
  have HBB0 := hide (HB0.out.trans (HB2.out.mono HB0.out.size))
  rcases HR2.out with rfl | ⟨g1, hlo, hlc, hnc⟩
  · go_wp2_with fail
    go_ret
    exact ⟨rfl, HBB0.out⟩
  have HNc := hide hnc
  have hl4 : ¬ l1 < 0 := by omega
  have hl5 : decide (l1 < 0) = false := decide_eq_false hl4
  clear hnc x0 x1 x2
  go_upto_region 8 with fail
  have HBB := hide HBB0.out
  have HBx := hide HB2.out
  refine wp_region_facts 4 (fun _ W => Below w2.heap.size w2 W) (FEx xs g o cs 1 3 (fun q9 : Nat => match q9 with | 0 => .slice A xs.length c | 1 => undef | 2 => .agg #[.bool g, .slice Ao o.length co, .slice Ac cs.length cc] | 3 => undef | _ => undef)) (fun _ a b => Below a.heap.size a b) [some 20, some 21, some 22, some 23] (by kernel_rfl) (by kernel_rfl) (by kernel_rfl) (by kernel_rfl) ?_ ?_ ?_ ?_
  · exact (Below.refl _ w2).drew
  · intro i k9 v wa wb _ _ _ hF hE; exact hF.ev hE
  · intro i o9 hi ho a wa L9 hL hJ hc hd K hK
    have hi' : i = 0 ∨ i = 1 ∨ i = 2 ∨ i = 3 := by omega
    clear hi
    rcases hi' with rfl | rfl | rfl | rfl
    all_goals
      simp only [List.getElem?_toArray, List.getElem?_cons_zero, List.getElem?_cons_succ, Option.some.injEq] at ho
      subst ho
      simp only [reduceCtorEq, if_false] at hK
    · have e0 := (hc 0 (by kernel_rfl)).trans rfl
      go_simp
      exact hK _ _ (FEx.val (by decide) rfl) hJ (Below.refl _ _)
    · have e20 : a.tmps.getD 20 undef = .slice A xs.length c := (hd 0 20 (by kernel_rfl)).get (by decide)
      go_simp
      refine (toTxnS xs A c wa hl0 HNx.out (HA.out.old (HBB.out.trans (hJ.mono HBB.out.size)))).mono ?_
      rintro e w9 ⟨v9, rfl, hO9, hb9⟩
      obtain ⟨A9, c9, rfl, _, _, h93⟩ := hO9.weakTxn.sl
      exact hK _ _ (FEx.iff1.2 ⟨A9, c9, rfl, h93.mono (fun b h => h.2) (fun _ _ => rfl)⟩) (hJ.trans (hb9.mono hJ.size)) hb9
    · have e3 := (hc 3 (by kernel_rfl)).trans rfl
      obtain ⟨c90, c91, c92⟩ := HXv.out wa (HBx.out.trans (hJ.mono HBx.out.size))
      go_simp
      exact hK _ _ (FEx.val (by decide) rfl) hJ (Below.refl _ _)
    · have e22 : a.tmps.getD 22 undef = .agg #[.bool g, .slice Ao o.length co, .slice Ac cs.length cc] := (hd 2 22 (by kernel_rfl)).get (by decide)
      go_simp
      refine (toVerdict g o cs Ao Ac co cc wa hlo hlc HNc.out (HAo.out.old (HBB.out.trans (hJ.mono HBB.out.size))) (HAc.out.old (HBB.out.trans (hJ.mono HBB.out.size)))).mono ?_
      rintro e w9 ⟨vo, vc, rfl, h1, h2, hb9⟩
      obtain ⟨A9, c9, rfl, _, _, h3⟩ := h1
      obtain ⟨B9, d9, rfl, _, _, h4⟩ := h2
      exact hK _ _ ((FEx.iff2 (by decide)).2 ⟨A9, c9, B9, d9, rfl, h3.mono (fun b h => h.2) (fun _ _ => rfl), h4.mono (fun b h => h.2) (fun _ _ => rfl)⟩) (hJ.trans (hb9.mono hJ.size)) hb9
  · intro vs wz L9 hL hJ hF
    obtain ⟨A9, c9, f1, hR9⟩ := FEx.iff1.1 (hF 1 (by decide))
    obtain ⟨B9, d9, C9, e9, f3, hS9, hT9⟩ := (FEx.iff2 (by decide)).1 (hF 3 (by decide))
    simp only [putD, Act.put, List.setIfInBounds_toArray, List.set_cons_zero, List.set_cons_succ, List.drop_succ_cons, List.drop_zero]
    rw [f1, f3]
    have HSp := hide (specVerdictRight xs g o cs A9 B9 C9 c9 d9 e9 wz hl0 HNx.out hs0 hlo hlc HNc.out hR9 hS9 hT9)
    have HJ := hide (HBx.out.trans (hJ.mono HBx.out.size))
    clear hF f1 f3 hR9 hS9 hT9 hJ HBB HBx
    obtain ⟨vb, hvb⟩ : ∃ vb, verdB xs ⟨g, o, cs⟩ = vb := ⟨_, rfl⟩
    rw [hvb] at HSp
    have HVb := hide hvb
    have hbb : (vb != vb) = false := by simp
    clear hvb
    go_upto_region 9 with (go_at_call 7; refine HSp.out.mono ?_; rintro e w3 ⟨rfl, hb3⟩; have HB3 := hide (HJ.out.trans (hb3.mono HJ.out.size)); clear hb3)
    have HB03 := hide (HB0.out.trans (HB3.out.mono HB0.out.size))
    have HCx := hide (toTxnS xs A c w3 hl0 HNx.out (HA.out.old HB03.out))
    go_upto_region 10 with (go_at_call 8; refine HCx.out.mono ?_; rintro e w4 ⟨v4, rfl, hO4, hb4⟩; obtain ⟨A4, c4, rfl, _, _, h43⟩ := hO4.weakTxn.sl; have HX4 := hide (h43.mono (S' := Old w4) (fun b h => h.2) (fun _ _ => rfl)); have HB4 := hide (HB3.out.trans (hb4.mono HB3.out.size)); clear hO4 h43 hb4)
    have HB04 := hide (HB0.out.trans (HB4.out.mono HB0.out.size))
    obtain ⟨x0, x1, x2⟩ := HXv.out w4 HB4.out
    have HCv := hide (toVerdict g o cs Ao Ac co cc w4 hlo hlc HNc.out (HAo.out.old HB04.out) (HAc.out.old HB04.out))
    go_upto_region 11 with (go_at_call 9; refine HCv.out.mono ?_; rintro e w5 ⟨vo, vc, rfl, h1, h2, hb5⟩; obtain ⟨A_x, c_x, rfl, _, _, h3⟩ := h1; obtain ⟨A_y, c_y, rfl, _, _, h4⟩ := h2; have HO5 := hide (h3.mono (S' := Old w5) (fun b h => h.2) (fun _ _ => rfl)); have HC5 := hide (h4.mono (S' := Old w5) (fun b h => h.2) (fun _ _ => rfl)); have HX5 := hide (HX4.out.old hb5); have HB5 := hide (HB4.out.trans (hb5.mono HB4.out.size)); clear h3 h4 hb5)
    clear x0 x1 x2
    have hbz := (Below.refl w5.heap.size w5).alloc (Nat.le_refl _) (.cells #[.bool g, .slice A_x o.length c_x, .slice A_y cs.length c_y] 32)
    have HV6 := hide (Blk.new w5 32 #[.bool g, .slice A_x o.length c_x, .slice A_y cs.length c_y])
    have HX6 := hide (HX5.out.old hbz); have HO6 := hide (HO5.out.old hbz); have HC6 := hide (HC5.out.old hbz)
    have HB6 := hide (HB5.out.trans (hbz.mono HB5.out.size))
    clear hbz HX4 HX5 HO5 HC5
    generalize w5.alloc _ = w6 at HV6 HX6 HO6 HC6 HB6 ⊢
    generalize w5.heap.size = g8 at HV6 ⊢
    have y0 := HV6.out.cell 0; have y1 := HV6.out.cell 1; have y2 := HV6.out.cell 2
    simp only [List.getElem?_toArray, List.getElem?_cons_zero, List.getElem?_cons_succ] at y0 y1 y2
    have HIm := hide (implVerdictRight xs g o cs A4 A_x A_y c4 c_x c_y w6 hm (by omega) (by omega) HNc.out HX6.out HO6.out HC6.out)
    rw [HVb.out] at HIm
    go_upto_region 14 with (go_at_call 10; refine HIm.out.mono ?_; rintro e w7 ⟨rfl, hb7⟩; have HX7 := hide (HX6.out.old hb7); have HO7 := hide (HO6.out.old hb7); have HC7 := hide (HC6.out.old hb7); have HV7 := hide (HV6.out.below hb7 HV6.out.lt); have HB7 := hide (HB6.out.trans (hb7.mono HB6.out.size)); clear hb7)
    clear y0 y1 y2 HX6 HO6 HC6 HV6
    have HB07 := hide (HB0.out.trans (HB7.out.mono HB0.out.size))
    have HCy := hide (toTxnS xs A c w7 hl0 HNx.out (HA.out.old HB07.out))
    go_upto_region 16 with (first | (go_at_call 8; refine HCy.out.mono ?_; rintro e w8 ⟨v8, rfl, hO8, hb8⟩; obtain ⟨A8, c8, rfl, _, _, h83⟩ := hO8.weakTxn.sl; have HY8 := hide (h83.mono (S' := Old w8) (fun b h => h.2) (fun _ _ => rfl)); have HX8 := hide (HX7.out.old hb8); have HO8 := hide (HO7.out.old hb8); have HC8 := hide (HC7.out.old hb8); have HV8 := hide (HV7.out.below hb8 HV7.out.lt); have HB8 := hide (HB7.out.trans (hb8.mono HB7.out.size)); clear hO8 h83 hb8) | (go_at_call 11; refine (eqTxnS xs A4 A8 c4 c8 w8 hm (lens_Txn HA.out) HX8.out HY8.out).mono ?_; rintro e w9 ⟨rfl, hb9⟩; have HO9 := hide (HO8.out.old hb9); have HC9 := hide (HC8.out.old hb9); have HV9 := hide (HV8.out.below hb9 HV8.out.lt); have HB9 := hide (HB8.out.trans (hb9.mono HB8.out.size)); clear hb9))
    have HYv := hide (fun (W2 : World) (hb : Below w9.heap.size w9 W2) => And.intro ((HV9.out.below hb HV9.out.lt).cell 0) (And.intro ((HV9.out.below hb HV9.out.lt).cell 1) ((HV9.out.below hb HV9.out.lt).cell 2)))
    simp only [List.getElem?_toArray, List.getElem?_cons_zero, List.getElem?_cons_succ] at HYv
    have HBB := hide (HB0.out.trans (HB9.out.mono HB0.out.size))
    have HBx := hide HB9.out
    refine wp_region_facts 3 (fun _ W => Below w9.heap.size w9 W) (FEx xs g o cs 99 2 (fun q9 : Nat => match q9 with | 0 => .agg #[.bool g, .slice A_x o.length c_x, .slice A_y cs.length c_y] | 1 => .agg #[.bool g, .slice Ao o.length co, .slice Ac cs.length cc] | 2 => undef | _ => undef)) (fun _ a b => Below a.heap.size a b) [some 40, some 41, some 42] (by kernel_rfl) (by kernel_rfl) (by kernel_rfl) (by kernel_rfl) ?_ ?_ ?_ ?_
    · exact (Below.refl _ w9).drew
    · intro i k9 v wa wb _ _ _ hF hE; exact hF.ev hE
    · intro i o9 hi ho a wa L9 hL hJ hc hd K hK
      have hi' : i = 0 ∨ i = 1 ∨ i = 2 := by omega
      clear hi
      rcases hi' with rfl | rfl | rfl
      all_goals
        simp only [List.getElem?_toArray, List.getElem?_cons_zero, List.getElem?_cons_succ, Option.some.injEq] at ho
        subst ho
        simp only [reduceCtorEq, if_false] at hK
      · have e8 := (hc 8 (by kernel_rfl)).trans rfl
        obtain ⟨c90, c91, c92⟩ := HYv.out wa hJ
        go_simp
        exact hK _ _ (FEx.val (by decide) rfl) hJ (Below.refl _ _)
      · have e3 := (hc 3 (by kernel_rfl)).trans rfl
        obtain ⟨c90, c91, c92⟩ := HXv.out wa (HBx.out.trans (hJ.mono HBx.out.size))
        go_simp
        exact hK _ _ (FEx.val (by decide) rfl) hJ (Below.refl _ _)
      · have e41 : a.tmps.getD 41 undef = .agg #[.bool g, .slice Ao o.length co, .slice Ac cs.length cc] := (hd 1 41 (by kernel_rfl)).get (by decide)
        go_simp
        refine (toVerdict g o cs Ao Ac co cc wa hlo hlc HNc.out (HAo.out.old (HBB.out.trans (hJ.mono HBB.out.size))) (HAc.out.old (HBB.out.trans (hJ.mono HBB.out.size)))).mono ?_
        rintro e w9 ⟨vo, vc, rfl, h1, h2, hb9⟩
        obtain ⟨A9, c9, rfl, _, _, h3⟩ := h1
        obtain ⟨B9, d9, rfl, _, _, h4⟩ := h2
        exact hK _ _ ((FEx.iff2 (by decide)).2 ⟨A9, c9, B9, d9, rfl, h3.mono (fun b h => h.2) (fun _ _ => rfl), h4.mono (fun b h => h.2) (fun _ _ => rfl)⟩) (hJ.trans (hb9.mono hJ.size)) hb9
    · intro vs wz L9 hL hJ hF
      have f0 : vs 0 = .agg #[.bool g, .slice A_x o.length c_x, .slice A_y cs.length c_y] := (hF 0 (by decide)).get (by decide)
      obtain ⟨B9, d9, C9, e9, f2, hS9, hT9⟩ := (FEx.iff2 (by decide)).1 (hF 2 (by decide))
      simp only [putD, Act.put, List.setIfInBounds_toArray, List.set_cons_zero, List.set_cons_succ, List.drop_succ_cons, List.drop_zero]
      rw [f0, f2]
      have HEq := hide (eqVerdict g o cs A_x A_y B9 C9 c_x c_y d9 e9 wz hmo hmc (lens_IntS HAc.out) (HO9.out.old hJ) (HC9.out.old hJ) hS9 hT9)
      have HJ := hide (HBB.out.trans (hJ.mono HBB.out.size))
      clear hF f0 f2 hS9 hT9 hJ
      go_wp2_with (go_at_call 12; refine HEq.out.mono ?_; rintro e w10 ⟨rfl, hb10⟩; have HB10 := hide (HJ.out.trans (hb10.mono HJ.out.size)); clear hb10)
      go_ret
      exact ⟨rfl, HB10.out⟩
end Go.Proofs.YtjiobgfaohldhaaGreat
