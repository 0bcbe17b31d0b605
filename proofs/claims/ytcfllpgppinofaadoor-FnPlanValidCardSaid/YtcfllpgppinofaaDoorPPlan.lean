/- The law FnPlanValid: a part of a valid plan is valid; with a draft without steps it is not. -/
import Derived.Test.YtcfllpgppinofaaDoorPlanD
import Derived.Test.YtcfllpgppinofaaDoorAlive
import Derived.Test.YtcfllpgppinofaaDoorPlan
namespace Go.Proofs.YtcfllpgppinofaaDoor
open Go.RowKit
set_option linter.unusedVariables false

theorem planV_drop {xs : List Draft} (k : Nat) (h : planV xs = true) : planV (xs.drop k) = true := by
  unfold planV at h ⊢
  simp only [Bool.and_eq_true, decide_eq_true_eq, List.all_eq_true, List.length_drop] at h ⊢
  exact ⟨by omega, fun x hx => h.2 x (List.mem_of_mem_drop hx)⟩
theorem planV_zero (xs : List Draft) : planV (xs ++ [⟨0, []⟩]) = false := by
  unfold planV
  rw [List.all_append]
  simp [draftOk, inR]

set_option maxRecDepth 10000 in
set_option maxHeartbeats 4000000 in
theorem lawFnPlan (bs : List Int) (A : Option Addr) (c : Nat) (w : World) (hm : bs.length ≤ maxLen) (hc : bs.length ≤ c) (hcm : c ≤ maxLen) (hA : Row tByte w (Old w) A bs) :
    Calls Tryd.prog 6 #[.slice A bs.length c] w fun e w' => e = .returned (.bool true) ∧ Below w.heap.size w w' := by
  have hq : bs.length ≤ 9223372036854775807 := by simpa [maxLen] using hm
  obtain ⟨i0, hi, hz0, hz1, hz2⟩ := info_parts infoDraftD
  by_cases hl : bs.length ≤ 1048576
  · have HD := hide (drawPlan bs A c w hl hc hcm hA)
    clear hA
    go_enter Tryd.func6, Tryd.ntmps6
    go_wp2_with fail
    refine HD.out.mono ?_
    rintro e w1 ⟨xs, v, rfl, hx, ho, hb1⟩
    obtain ⟨A1, c1, rfl, hle, hcm1, hR1⟩ := ho
    have HR1 := hide hR1; have HB1 := hide hb1; clear hR1 hb1
    have hxm : xs.length ≤ maxLen := by simp only [maxLen]; omega
    go_wp2_with fail
    refine (implPlanValid xs A1 c1 w1 hxm HR1.out).mono ?_
    rintro e w1b ⟨rfl, hb2⟩
    have HR1b := hide (HR1.out.old hb2); have HB1b := hide (HB1.out.trans (hb2.mono HB1.out.size)); clear hb2
    go_wp2_with fail
    refine (specPlanValid xs A1 c1 w1b hxm HR1b.out).mono ?_
    rintro e w2 ⟨rfl, hb3⟩
    have HR2 := hide (HR1b.out.old hb3); have HB2 := hide (HB1b.out.trans (hb3.mono HB1b.out.size)); clear hb3
    have HE := hide (show ∀ ys, planV (ys ++ [⟨0, []⟩]) = false from planV_zero)
    have HI := hide (fun (ys : List Draft) (A c W) (hl : ys.length ≤ maxLen) (hA : Row tDraft W (Old W) A ys) => implPlanValid ys A c W hl hA)
    have HAl := hide alive_any
    clear HR1 HB1 HR1b HB1b
    cases hv : planV xs with
    | false =>
      clear hv
      have HR3 := hide HR2.out; have HB3 := hide HB2.out
      clear HR2 HB2
      have HOe := hide (Own.empty (T := tAt w2 (Old w2) tDraft) (e := 49) w2 (fun b => w2.heap.size ≤ b) (Nat.le_refl _))
      have HRy := hide (HR3.out.anyAt (W := w2.alloc (.cells #[] 49)) (fun b hb => Below.heap_alloc _ _ _ hb))
      go_wp2_with (first | (at_builtin; refine wpList_cat (tAt w2 (Old w2) tDraft) rfl (.tmp 27) (.tmp 28) 44 rfl 49 i0 _ 32 Tryd.underlying44 hi hz0 hz1 hz2 rfl Nat.zero_lt_two (fun b => w2.heap.size ≤ b) (fun _ => False) [] xs _ rfl HOe.out _ _ _ rfl rfl HRy.out (fun _ h => h.elim) (fun b hb => Nat.le_trans (by simp) hb) (by skip; simp only [maxLen, List.length_nil]; omega) (by skip; simp only [List.length_nil]; omega) ?_; intro v3 w3 hO_ hK_; have HO3 := hide hO_; have HK3 := hide ((Only.of_alloc (K := fun b => w2.heap.size ≤ b) w2 (.cells #[] 49)).trans hK_); clear hO_ hK_) | (at_builtin; refine wpList_put (tAt w2 (Old w2) tDraft) rfl (.tmp 29) (.tmp 31) 44 rfl 49 i0 _ 32 Tryd.underlying44 hi hz0 hz1 hz2 rfl Nat.zero_lt_two (fun b => w2.heap.size ≤ b) (fun _ => False) ([] ++ xs) ⟨0, []⟩ [.int .i64 0, .slice none 0 0] _ rfl HO3.out _ rfl ⟨_, rfl, none, 0, rfl, Nat.le_refl _, Nat.zero_le _, Row.nil⟩ (fun _ h => h.elim) (fun b hb => Nat.le_trans HK3.out.size hb) (by simp [maxLen]; omega) (by simp; omega) ?_; intro v4 w4 hO_ hK_; have HO4 := hide hO_; have HK4 := hide (HK3.out.trans hK_); clear hO_ hK_))
      obtain ⟨ys, hys⟩ : ∃ ys, ys = [] ++ xs ++ [(⟨0, []⟩ : Draft)] := ⟨_, rfl⟩
      have hv4 := HO4.out.slAt (W := w4) (fun b hb => Nat.lt_of_lt_of_le hb HK4.out.size) (fun b hb => HK4.out.block b hb (fun h => by have hb' : b < w2.heap.size := hb; omega)) (fun b hb => hb.2)
      rw [← hys] at hv4
      have hyl : ys.length ≤ maxLen := by rw [hys]; simp [maxLen]; omega
      have hyf : planV ys = false := by rw [hys]; exact HE.out _
      obtain ⟨A4, c4, rfl, _, _, hR4⟩ := hv4
      have HC := hide (HI.out ys A4 c4 w4 hyl hR4)
      rw [hyf] at HC
      clear hys hyl hyf hR4
      go_wp2_with (first | (go_at_call 28; refine HC.out.mono ?_; rintro e w5 ⟨rfl, hb5⟩; have HB5 := hide hb5; clear hb5) | (go_at_call 23; refine (HAl.out _).mono ?_; rintro e w6 ⟨rfl, hb6⟩; have HB6 := hide hb6; clear hb6))
      go_ret
      exact ⟨rfl, ((below_only HB3.out HK4.out HB3.out.size (fun i hi => Nat.le_trans HB3.out.size hi)).trans (HB5.out.mono (Nat.le_trans HB3.out.size HK4.out.size))).trans (HB6.out.mono (Nat.le_trans (Nat.le_trans HB3.out.size HK4.out.size) HB5.out.size))⟩
    | true =>
      have hd := planV_drop (xs.length / 2) hv
      have hCd : ∀ A' c', Row tDraft w2 (Old w2) A' (xs.drop (xs.length / 2)) → Calls Tryd.prog 28 #[.slice A' (xs.length - xs.length / 2) c'] w2 fun e w' => e = .returned (.bool true) ∧ Below w2.heap.size w2 w' := fun A' c' hR' => by
        have h := implPlanValid (xs.drop (xs.length / 2)) A' c' w2 (by rw [List.length_drop]; simp only [maxLen]; omega) hR'
        rw [hd, List.length_drop] at h
        exact h
      have HCd := hide hCd
      clear hv hd hCd
      by_cases hc0 : c1 = xs.length / 2
      all_goals
        have HCe := hide (show Calls Tryd.prog 28 #[if c1 = xs.length / 2 then .slice A1 (xs.length - xs.length / 2) 0 else .slice (A1.map (fun x => x.add (xs.length / 2 * 2))) (xs.length - xs.length / 2) (c1 - xs.length / 2)] w2 fun e w' => e = .returned (.bool true) ∧ Below w2.heap.size w2 w' by
          by_cases hc1 : c1 = xs.length / 2
          · have hx0 : xs = [] := List.eq_nil_of_length_eq_zero (by omega)
            rw [if_pos hc1]
            exact HCd.out _ _ (by rw [hx0]; exact Row.nil)
          · rw [if_neg hc1]
            exact HCd.out _ _ (HR2.out.cut (xs.length / 2)))
        simp only [hc0, if_true, if_false] at HCe
        have Hc0 := hide hc0
        clear hc0
        go_wp2_with fail
        refine HCe.out.mono ?_
        rintro e wd ⟨rfl, hbd⟩
        have HR3 := hide (HR2.out.old hbd); have HB3 := hide (HB2.out.trans (hbd.mono HB2.out.size))
        clear hbd HCd HCe Hc0
        have HOe := hide (Own.empty (T := tAt wd (Old wd) tDraft) (e := 49) wd (fun b => wd.heap.size ≤ b) (Nat.le_refl _))
        have HRy := hide (HR3.out.anyAt (W := wd.alloc (.cells #[] 49)) (fun b hb => Below.heap_alloc _ _ _ hb))
        go_wp2_with (first | (at_builtin; refine wpList_cat (tAt wd (Old wd) tDraft) rfl (.tmp 27) (.tmp 28) 44 rfl 49 i0 _ 32 Tryd.underlying44 hi hz0 hz1 hz2 rfl Nat.zero_lt_two (fun b => wd.heap.size ≤ b) (fun _ => False) [] xs _ rfl HOe.out _ _ _ rfl rfl HRy.out (fun _ h => h.elim) (fun b hb => Nat.le_trans (by simp) hb) (by skip; simp only [maxLen, List.length_nil]; omega) (by skip; simp only [List.length_nil]; omega) ?_; intro v3 w3 hO_ hK_; have HO3 := hide hO_; have HK3 := hide ((Only.of_alloc (K := fun b => wd.heap.size ≤ b) wd (.cells #[] 49)).trans hK_); clear hO_ hK_) | (at_builtin; refine wpList_put (tAt wd (Old wd) tDraft) rfl (.tmp 29) (.tmp 31) 44 rfl 49 i0 _ 32 Tryd.underlying44 hi hz0 hz1 hz2 rfl Nat.zero_lt_two (fun b => wd.heap.size ≤ b) (fun _ => False) ([] ++ xs) ⟨0, []⟩ [.int .i64 0, .slice none 0 0] _ rfl HO3.out _ rfl ⟨_, rfl, none, 0, rfl, Nat.le_refl _, Nat.zero_le _, Row.nil⟩ (fun _ h => h.elim) (fun b hb => Nat.le_trans HK3.out.size hb) (by simp [maxLen]; omega) (by simp; omega) ?_; intro v4 w4 hO_ hK_; have HO4 := hide hO_; have HK4 := hide (HK3.out.trans hK_); clear hO_ hK_))
        obtain ⟨ys, hys⟩ : ∃ ys, ys = [] ++ xs ++ [(⟨0, []⟩ : Draft)] := ⟨_, rfl⟩
        have hv4 := HO4.out.slAt (W := w4) (fun b hb => Nat.lt_of_lt_of_le hb HK4.out.size) (fun b hb => HK4.out.block b hb (fun h => by have hb' : b < wd.heap.size := hb; omega)) (fun b hb => hb.2)
        rw [← hys] at hv4
        have hyl : ys.length ≤ maxLen := by rw [hys]; simp [maxLen]; omega
        have hyf : planV ys = false := by rw [hys]; exact HE.out _
        obtain ⟨A4, c4, rfl, _, _, hR4⟩ := hv4
        have HC := hide (HI.out ys A4 c4 w4 hyl hR4)
        rw [hyf] at HC
        clear hys hyl hyf hR4
        go_wp2_with (first | (go_at_call 28; refine HC.out.mono ?_; rintro e w5 ⟨rfl, hb5⟩; have HB5 := hide hb5; clear hb5) | (go_at_call 23; refine (HAl.out _).mono ?_; rintro e w6 ⟨rfl, hb6⟩; have HB6 := hide hb6; clear hb6))
        go_ret
        exact ⟨rfl, ((below_only HB3.out HK4.out HB3.out.size (fun i hi => Nat.le_trans HB3.out.size hi)).trans (HB5.out.mono (Nat.le_trans HB3.out.size HK4.out.size))).trans (HB6.out.mono (Nat.le_trans (Nat.le_trans HB3.out.size HK4.out.size) HB5.out.size))⟩
  · clear hA
    go_enter Tryd.func6, Tryd.ntmps6
    go_wp2_with fail
    go_ret
    exact ⟨rfl, Below.refl _ _⟩
end Go.Proofs.YtcfllpgppinofaaDoor
