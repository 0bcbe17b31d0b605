/- The law FnCycleRight: cycles can begin anywhere. -/
import Derived.Test.YtnlicjgegclilaaDoorDrawCR
import Derived.Test.YtnlicjgegclilaaDoorCycRot
import Derived.Test.YtnlicjgegclilaaDoorCycImpl
import Derived.Test.YtnlicjgegclilaaDoorCycle
import Derived.Test.YtnlicjgegclilaaDoorAlive
import Derived.Test.YtnlicjgegclilaaDoorHold
import Derived.Deep.RegionLaw
import Derived.Laws.AppendOwn
import Derived.ArgAppend
namespace Go.Proofs.YtnlicjgegclilaaDoor
open Go.RowKit
set_option linter.unusedVariables false
set_option linter.unusedSimpArgs false

theorem Sl.oldE {α : Type} {T : Ty α} {w' : World} {xs : List α} {v : Value} (h : Sl T w' (Old w') xs v) : ∃ A c, v = .slice A xs.length c ∧ xs.length ≤ c ∧ c ≤ maxLen ∧ Row T w' (Old w') A xs := h
theorem Own.emptyAt_ {α : Type} {T : Ty α} {e : TypeId} {w : World} {S : Nat → Prop} {p : Nat} (hB : Blk w p e #[]) (hp : S p) : Own T e w S ([] : List α) (.slice (some ⟨p, 0, none⟩) 0 0) :=
  .inr ⟨p, 0, #[], fun _ => False, rfl, hp, hB, by simp, by simp [maxLen], by simp, fun _ h => h.elim, fun k hk => absurd hk (by simp)⟩
theorem rowOneQ {e : TypeId} {w : World} {q : Nat} {x : Int} (hB : Blk w q e #[.int .i64 x]) : RowAny tInt w (fun _ => False) (some ⟨q, 0, none⟩) [x] := fun _ =>
  ⟨q, 0, rfl, fun k hk => by
    obtain rfl : k = 0 := by simpa using hk
    refine ⟨[.int .i64 x], rfl, fun j u hu => ?_⟩
    rw [hB.cell]
    simpa [tInt, flat] using hu⟩
theorem cycV_nil (many : Int) (xs : List Edge) : cycV many xs [] = false := by unfold cycV; simp
theorem cycV_one (many : Int) (xs : List Edge) (x : Int) : cycV many xs [x] = false := by unfold cycV; simp
set_option maxRecDepth 10000 in
set_option maxHeartbeats 4000000 in
theorem lawFnCycR (bs : List Int) (A : Option Addr) (c : Nat) (w : World) (hm : bs.length ≤ maxLen) (hc : bs.length ≤ c) (hcm : c ≤ maxLen) (hA : Row tByte w (Old w) A bs) :
    Calls Tryd.prog 3 #[.slice A bs.length c] w fun e w' => e = .returned (.bool true) ∧ Below w.heap.size w w' := by
  have hq : bs.length ≤ 9223372036854775807 := by simpa [maxLen] using hm
  by_cases hl : bs.length ≤ 1048576
  · have HD := hide (drawCycleRight bs A c w hl hc hcm hA)
    clear hA
    go_enter Tryd.func3, Tryd.ntmps3
    go_wp2_with fail
    refine HD.out.mono ?_
    rintro e w1 ⟨a, xs, ns, v, u, rfl, hx9, hn20, ho, hu, hb1⟩
    have HB1 := hide hb1
    clear hb1 HD
    obtain ⟨Ax, cx, rfl, hlex, hcmx, hrx⟩ := ho.oldE
    have Hx1 := hide hrx
    clear hrx ho
    obtain ⟨Ay, cy, rfl, hley, hcmy, hry⟩ := hu.oldE
    have Hy1 := hide hry
    clear hry hu
    have hxm : xs.length ≤ maxLen := by simp only [maxLen]; omega
    have hnm : ns.length ≤ maxLen := by simp only [maxLen]; omega
    go_wp2_with fail
    refine (implCycleRight a xs ns _ _ _ _ w1 hxm hnm Hx1.out Hy1.out).mono ?_
    rintro e w2 ⟨rfl, hb⟩
    have Hx2 := hide (Hx1.out.old hb)
    have Hy2 := hide (Hy1.out.old hb)
    have HB2 := hide (HB1.out.trans (hb.mono HB1.out.size))
    clear hb HB1 Hx1 Hy1
    go_wp2_with fail
    refine (specCycleRight a xs ns _ _ _ _ w2 hxm hnm Hx2.out Hy2.out).mono ?_
    rintro e w3 ⟨rfl, hb⟩
    have Hx3 := hide (Hx2.out.old hb)
    have Hy3 := hide (Hy2.out.old hb)
    have HB3 := hide (HB2.out.trans (hb.mono HB2.out.size))
    clear hb HB2 Hx2 Hy2
    have HNil := hide (cycV_nil a xs)
    cases hcv : cycV a xs ns with
    | false =>
      clear hcv
      go_wp2_with fail
      refine (implCycleRight a xs [] _ none _ 0 w3 hxm (Nat.zero_le _) Hx3.out (fun h => absurd h (by simp))).mono ?_
      rintro e w4 ⟨rfl, hb⟩
      rw [HNil.out]
      have Hx4 := hide (Hx3.out.old hb)
      have Hy4 := hide (Hy3.out.old hb)
      have HB4 := hide (HB3.out.trans (hb.mono HB3.out.size))
      clear hb HB3 Hx3 Hy3
      go_wp2_with fail
      refine (alive_any _).mono ?_
      rintro e w5 ⟨rfl, hb⟩
      have Hx5 := hide (Hx4.out.old hb)
      have Hy5 := hide (Hy4.out.old hb)
      have HB5 := hide (HB4.out.trans (hb.mono HB4.out.size))
      clear hb HB4 Hx4 Hy4
      go_wp2_with fail
      go_ret
      exact ⟨rfl, HB5.out⟩
    | true =>
      cases ns with
      | nil => rw [HNil.out] at hcv; cases hcv
      | cons y l =>
        have HRo := hide (cycV_rot hcv)
        have HOn := hide (cycV_one a xs y)
        clear hcv
        obtain ⟨i0, hi, hz0, hz1, hz2⟩ := info_parts infoInt_
        have eg := enters_of Tryd.func6 (by kernel_rfl) rfl
        have hrest := Hy3.out.cut 1
        obtain ⟨b, off, hAe, hbO, hcs⟩ := Hy3.out (by simp)
        subst hAe
        have hcx : w3.cell? ⟨b, off, none⟩ = some (.int .i64 y) := by
          obtain ⟨cs, e1, e2⟩ := hcs 0 (by simp)
          have e3 : cs = [.int .i64 y] := e1
          subst e3
          simpa using e2 0 _ rfl
        have HR1 := hide (show Row tInt w3 (Old w3) (some ⟨b, off, none⟩) [y] from fun _ => ⟨b, off, rfl, hbO, fun k hk => by
          obtain rfl : k = 0 := by simpa using hk
          exact hcs 0 (by simp)⟩)
        have hbO' : b < w3.heap.size := hbO
        have hly : l.length ≤ 19 := by simp at hn20; omega
        obtain ⟨d, hd⟩ : ∃ d, cy = d + 1 := ⟨cy - 1, by simp at hley; omega⟩
        subst hd
        have h1l : (1 : Int) ≤ (l.length : Int) + 1 := by omega
        have h1d : (1 : Int) ≤ (d : Int) + 1 := by omega
        obtain ⟨Ad, hAd⟩ : ∃ Ad : Option Addr, (if d = 0 then some (⟨b, off, none⟩ : Addr) else some ⟨b, off + 1, none⟩) = Ad := ⟨_, rfl⟩
        have HRl := hide (show Row tInt w3 (Old w3) Ad l from by
          rw [← hAd]
          by_cases h0 : d = 0
          · subst h0
            intro hp
            simp at hley
            subst hley
            cases hp
          · rw [if_neg h0]
            simpa [Go.WideShapes.add_plain, tInt, flat] using hrest)
        have HE1 := hide (Own.empty (T := tInt) (e := 3) w3.drew (fun b => w3.heap.size ≤ b ∧ True) ⟨Nat.le_refl _, trivial⟩)
        have HE2 := hide (Own.emptyAt_ (T := tInt) (S := fun b => (w3.heap.size ≤ b ∧ b ≠ w3.heap.size + 1) ∧ Old ((w3.drew.alloc (.cells #[] 3)).alloc (.cells #[.int .i64 y] 3)) b) ((Blk.new w3.drew 3 #[]).alloc (.cells #[.int .i64 y] 3)) ⟨⟨Nat.le_refl _, by simp⟩, by simp [Old]; omega⟩)
        have HE3 := hide (Own.emptyAt_ (T := tInt) (p := w3.heap.size + 1) (S := fun b => (w3.heap.size ≤ b ∧ b ≠ w3.heap.size) ∧ Old ((w3.drew.alloc (.cells #[.int .i64 y] 3)).alloc (.cells #[] 3)) b) (show Blk ((w3.drew.alloc (.cells #[.int .i64 y] 3)).alloc (.cells #[] 3)) (w3.heap.size + 1) 3 #[] by have := Blk.new (w3.drew.alloc (.cells #[.int .i64 y] 3)) 3 #[]; simpa using this) ⟨⟨by omega, by omega⟩, by simp [Old]⟩)
        have Hq2 : Hid (Blk ((w3.drew.alloc (.cells #[] 3)).alloc (.cells #[.int .i64 y] 3)) (w3.heap.size + 1) 3 #[.int .i64 y]) := hide (by have := Blk.new (w3.drew.alloc (.cells #[] 3)) 3 #[.int .i64 y]; simpa using this)
        have Hq3 := hide (show Blk ((w3.drew.alloc (.cells #[.int .i64 y] 3)).alloc (.cells #[] 3)) w3.heap.size 3 #[.int .i64 y] from (Blk.new w3.drew 3 #[.int .i64 y]).alloc (.cells #[] 3))
        have HWa := hide (show Below w3.heap.size w3 (w3.drew.alloc (.cells #[] 3)) from (Below.refl _ w3).drew.alloc (by simp) _)
        have HWb := hide (show Below w3.heap.size w3 ((w3.drew.alloc (.cells #[] 3)).alloc (.cells #[.int .i64 y] 3)) from ((Below.refl _ w3).drew.alloc (by simp) _).alloc (by simp) _)
        have HWc := hide (show Below w3.heap.size w3 ((w3.drew.alloc (.cells #[.int .i64 y] 3)).alloc (.cells #[] 3)) from ((Below.refl _ w3).drew.alloc (by simp) _).alloc (by simp) _)
        have HRb1 := hide ((HRl.out.mono (w' := w3.drew.alloc (.cells #[] 3)) (S' := fun _ => True) (fun _ _ => trivial) (fun b hb => HWa.out.block b hb)).anyInt)
        have HRb2 := hide ((HRl.out.mono (w' := (w3.drew.alloc (.cells #[] 3)).alloc (.cells #[.int .i64 y] 3)) (S' := fun _ => True) (fun _ _ => trivial) (fun b hb => HWb.out.block b hb)).anyInt)
        have HRb3 := hide ((HRl.out.mono (w' := (w3.drew.alloc (.cells #[.int .i64 y] 3)).alloc (.cells #[] 3)) (S' := fun _ => True) (fun _ _ => trivial) (fun b hb => HWc.out.block b hb)).anyInt)
        have HC1 := hide (fun (v9 : Value) (w9 : World) (hO : Own tInt 3 w9 (fun b => Old w9 b) (l ++ [y]) v9) (hB : Below w3.heap.size w3 w9) => show Calls Tryd.prog 6 #[.int .i64 a, .slice Ax xs.length cx, v9] w9 (fun e w' => e = .returned (.bool true) ∧ Below w9.heap.size w9 w') from by
          obtain ⟨A9, c9, rfl, h91, h92, hR9⟩ := hO.sl
          have := implCycleRight a xs (l ++ [y]) Ax A9 cx c9 w9 hxm (by simp only [List.length_append, List.length_singleton, maxLen]; omega) (Hx3.out.old hB) hR9
          rw [HRo.out] at this
          exact this)
        have HC2 := hide (fun (w9 : World) (hB : Below w3.heap.size w3 w9) => show Calls Tryd.prog 6 #[.int .i64 a, .slice Ax xs.length cx, .slice (some ⟨b, off, none⟩) 1 (d + 1)] w9 (fun e w' => e = .returned (.bool false) ∧ Below w9.heap.size w9 w') from by
          have := implCycleRight a xs [y] Ax (some ⟨b, off, none⟩) cx (d + 1) w9 hxm (by simp [maxLen]) (Hx3.out.old hB) (HR1.out.old hB)
          rw [HOn.out] at this
          exact this)
        have HBn := hide HB3.out
        go_upto_region 9 with (fail)
        go_region_law (first | (refine wp_fn 6 _ (by simp [execOp, resolve, invoke, Act.eval, Act.put, eg]; rfl) (HC2.out _ HBt.out) ?_; rintro e wt ⟨rfl, hbt⟩; refine ⟨_, rfl, ?_⟩; have HBu := hide (HBt.out.trans (hbt.mono HBt.out.size)); clear hbt) | (refine wp_fn 6 _ (by simp [execOp, resolve, invoke, Act.eval, Act.put, eg]; rfl) (HC1.out _ _ HX9.out HY9.out) ?_; rintro e ws ⟨rfl, hbs⟩; refine ⟨_, rfl, ?_⟩; have HBt := hide (HY9.out.trans (hbs.mono HY9.out.size)); clear hbs) | (refine wp_cat tInt (.tmp 45) (.tmp 49) 24 rfl 3 i0 _ 8 Tryd.underlying24 hi hz0 hz1 hz2 rfl (by decide) (fun b => w3.heap.size ≤ b ∧ b ≠ w3.heap.size + 1) (fun _ => False) ([] ++ l) [y] _ (by simp [Act.eval, Act.put]) HO82.out _ 1 1 (by simp [Act.eval, Act.put]) rfl (rowOneQ (Hq2.out.of (HK82.out.block _ (by simp <;> omega) (fun h => h.2 rfl)))) (fun _ h => h.elim) (fun b hb => by have := HK82.out.size; simp at this; omega) (by simp only [maxLen, List.nil_append, List.length_singleton]; omega) (by simp only [List.nil_append, List.length_singleton]; omega) ?_; intro v9 w9 hO_ hK_; have HX9 := hide (show Own tInt 3 w9 (fun b => Old w9 b) (l ++ [y]) v9 from hO_.mono (fun _ h => h.2) (fun _ _ => rfl)); have HY9 := hide (below_only HWb.out (HK82.out.trans hK_) HWb.out.size (fun b h => h.1)); clear hO_ hK_) | (refine wp_cat tInt (.tmp 45) (.tmp 49) 24 rfl 3 i0 _ 8 Tryd.underlying24 hi hz0 hz1 hz2 rfl (by decide) (fun b => w3.heap.size ≤ b ∧ b ≠ w3.heap.size) (fun _ => False) ([] ++ l) [y] _ (by simp [Act.eval, Act.put]) HO83.out _ 1 1 (by simp [Act.eval, Act.put]) rfl (rowOneQ (Hq3.out.of (HK83.out.block _ (by simp <;> omega) (fun h => h.2 rfl)))) (fun _ h => h.elim) (fun b hb => by have := HK83.out.size; simp at this; omega) (by simp only [maxLen, List.nil_append, List.length_singleton]; omega) (by simp only [List.nil_append, List.length_singleton]; omega) ?_; intro v9 w9 hO_ hK_; have HX9 := hide (show Own tInt 3 w9 (fun b => Old w9 b) (l ++ [y]) v9 from hO_.mono (fun _ h => h.2) (fun _ _ => rfl)); have HY9 := hide (below_only HWc.out (HK83.out.trans hK_) HWc.out.size (fun b h => h.1)); clear hO_ hK_) | (refine wp_put tInt (.tmp 45) (.tmp 49) 24 rfl 3 i0 _ 8 Tryd.underlying24 hi hz0 hz1 hz2 rfl (by decide) (fun b => w3.heap.size ≤ b ∧ True) (fun _ => False) ([] ++ l) y _ _ (by simp [Act.eval, Act.put]) HO81.out 1 (by simp [Act.eval, Act.put]) rfl (fun _ h => h.elim) (fun b hb => ⟨Nat.le_trans (by have := HK81.out.size; simp at this; omega) hb, trivial⟩) (by simp only [maxLen, List.nil_append]; omega) (by simp only [List.nil_append]; omega) ?_; intro v9 w9 hO_ hK_; have HX9 := hide (show Own tInt 3 w9 (fun b => Old w9 b) (l ++ [y]) v9 from hO_.mono (fun _ h => h.2) (fun _ _ => rfl)); have HY9 := hide (below_only HWa.out (HK81.out.trans hK_) HWa.out.size (fun b h => h.1)); clear hO_ hK_) | (refine wp_cat tInt (.tmp 42) (.tmp 44) 24 rfl 3 i0 _ 8 Tryd.underlying24 hi hz0 hz1 hz2 rfl (by decide) (fun b => w3.heap.size ≤ b ∧ b ≠ w3.heap.size + 1) (fun _ => False) [] l _ rfl HE2.out _ l.length d (by simp [Act.eval, Act.put]) rfl HRb2.out (fun _ h => h.elim) (fun b hb => by simp at hb; omega) (by simp only [maxLen, List.length_nil]; omega) (by simp only [List.length_nil]; omega) ?_; intro v8 w8 hO_ hK_; have HO82 := hide hO_; have HK82 := hide hK_; have hc8 := ((below_only HWb.out hK_ HWb.out.size (fun b h => h.1)).cell (p := ⟨b, off, none⟩) hbO').trans hcx; clear hO_ hK_) | (refine wp_cat tInt (.tmp 42) (.tmp 44) 24 rfl 3 i0 _ 8 Tryd.underlying24 hi hz0 hz1 hz2 rfl (by decide) (fun b => w3.heap.size ≤ b ∧ b ≠ w3.heap.size) (fun _ => False) [] l _ rfl HE3.out _ l.length d (by simp [Act.eval, Act.put]) rfl HRb3.out (fun _ h => h.elim) (fun b hb => by simp at hb; omega) (by simp only [maxLen, List.length_nil]; omega) (by simp only [List.length_nil]; omega) ?_; intro v8 w8 hO_ hK_; have HO83 := hide hO_; have HK83 := hide hK_; have hc8 := ((below_only HWc.out hK_ HWc.out.size (fun b h => h.1)).cell (p := ⟨b, off, none⟩) hbO').trans hcx; clear hO_ hK_) | (refine wp_cat tInt (.tmp 42) (.tmp 44) 24 rfl 3 i0 _ 8 Tryd.underlying24 hi hz0 hz1 hz2 rfl (by decide) (fun b => w3.heap.size ≤ b ∧ True) (fun _ => False) [] l _ rfl HE1.out _ l.length d (by simp [Act.eval, Act.put]) rfl HRb1.out (fun _ h => h.elim) (fun b hb => ⟨Nat.le_trans (by simp) hb, trivial⟩) (by simp only [maxLen, List.length_nil]; omega) (by simp only [List.length_nil]; omega) ?_; intro v8 w8 hO_ hK_; have HO81 := hide hO_; have HK81 := hide hK_; have hc8 := ((below_only HWa.out hK_ HWa.out.size (fun b h => h.1)).cell (p := ⟨b, off, none⟩) hbO').trans hcx; clear hO_ hK_))
        all_goals
          go_wp2_with fail
          go_ret
          exact ⟨rfl, HBn.out.trans (HBu.out.mono HBn.out.size)⟩
  · clear hA
    go_enter Tryd.func3, Tryd.ntmps3
    go_wp2_with fail
    go_ret
    exact ⟨rfl, Below.refl _ _⟩
end Go.Proofs.YtnlicjgegclilaaDoor
