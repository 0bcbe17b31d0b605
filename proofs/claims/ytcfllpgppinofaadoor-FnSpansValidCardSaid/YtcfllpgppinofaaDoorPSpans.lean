/- The law FnSpansValid: with a span that ends before its beginning, spans are invalid. -/
import Derived.Test.YtcfllpgppinofaaDoorSpansD
import Derived.Test.YtcfllpgppinofaaDoorAlive
import Derived.Test.YtcfllpgppinofaaDoorSpans
namespace Go.Proofs.YtcfllpgppinofaaDoor
open Go.RowKit
set_option linter.unusedVariables false

theorem spansV_bad (m : Int) (xs : List Span) : spansV m (xs ++ [⟨2, 1⟩]) = false := by
  unfold spansV
  rw [List.all_append]
  simp [spanOk, inR]
theorem spansV_many {m : Int} {xs : List Span} (h : spansV m xs = true) : m = (xs.length : Int) := by
  unfold spansV at h
  simp only [Bool.and_eq_true, decide_eq_true_eq] at h
  exact h.1.2.symm

set_option maxRecDepth 10000 in
set_option maxHeartbeats 2000000 in
theorem lawFnSpans (bs : List Int) (A : Option Addr) (c : Nat) (w : World) (hm : bs.length ≤ maxLen) (hc : bs.length ≤ c) (hcm : c ≤ maxLen) (hA : Row tByte w (Old w) A bs) :
    Calls Tryd.prog 5 #[.slice A bs.length c] w fun e w' => e = .returned (.bool true) ∧ Below w.heap.size w w' := by
  have hq : bs.length ≤ 9223372036854775807 := by simpa [maxLen] using hm
  obtain ⟨i0, hi, hz0, hz1, hz2⟩ := info_parts infoSpanD
  by_cases hl : bs.length ≤ 1048576
  · have HD := hide (drawSpans bs A c w hl hc hcm hA)
    clear hA
    go_enter Tryd.func5, Tryd.ntmps5
    go_wp2_with fail
    refine HD.out.mono ?_
    rintro e w1 ⟨many, xs, v, rfl, hx, ho, hb1⟩
    obtain ⟨A1, c1, rfl, hle, hcm1, hR1⟩ := ho.old
    have HR1 := hide hR1; have HB1 := hide hb1; clear ho hR1 hb1
    have hxm : xs.length ≤ maxLen := by simp only [maxLen]; omega
    go_wp2_with fail
    refine (implSpansValid many xs A1 c1 w1 hxm HR1.out).mono ?_
    rintro e w1b ⟨rfl, hb2⟩
    have HR1b := hide (HR1.out.old hb2); have HB1b := hide (HB1.out.trans (hb2.mono HB1.out.size)); clear hb2
    go_wp2_with fail
    refine (specSpansValid many xs A1 c1 w1b hxm HR1b.out).mono ?_
    rintro e w2 ⟨rfl, hb3⟩
    have HR3 := hide (HR1b.out.old hb3); have HB3 := hide (HB1b.out.trans (hb3.mono HB1b.out.size)); clear hb3
    have HE := hide (spansV_bad ((xs.length : Int) + 1) xs)
    have HI := hide (fun (m : Int) (ys : List Span) (A c W) (hl : ys.length ≤ maxLen) (hA : Row tSpan W (Old W) A ys) => implSpansValid m ys A c W hl hA)
    have HAl := hide alive_any
    have HOe := hide (Own.empty (T := tSpan) (e := 43) w2 (fun b => w2.heap.size ≤ b) (Nat.le_refl _))
    have HRy := hide ((HR3.out.old ((Below.refl _ w2).alloc (Nat.le_refl _) (.cells #[] 43))).anySpan)
    have HM := hide (fun h => spansV_many (m := many) (xs := xs) h)
    clear HR1 HB1 HR1b HB1b
    cases hv : spansV many xs
    all_goals
      have HM2 := hide (HM.out)
      rw [hv] at HM2
      clear hv
      go_wp2_with (first | (at_builtin; refine wpList_cat tSpan rfl (.tmp 25) (.tmp 26) 38 rfl 43 i0 _ 16 Tryd.underlying38 hi hz0 hz1 hz2 rfl (by decide) (fun b => w2.heap.size ≤ b) (fun _ => False) [] xs _ rfl HOe.out _ _ _ rfl rfl HRy.out (fun _ h => h.elim) (fun b hb => Nat.le_trans (by simp) hb) (by skip; simp only [maxLen, List.length_nil]; omega) (by skip; simp only [List.length_nil]; omega) ?_; intro v3 w3 hO_ hK_; have HO3 := hide hO_; have HK3 := hide ((Only.of_alloc (K := fun b => w2.heap.size ≤ b) w2 (.cells #[] 43)).trans hK_); clear hO_ hK_) | (at_builtin; refine wpList_put tSpan rfl (.tmp 27) (.tmp 29) 38 rfl 43 i0 _ 16 Tryd.underlying38 hi hz0 hz1 hz2 rfl (by decide) (fun b => w2.heap.size ≤ b) (fun _ => False) ([] ++ xs) ⟨2, 1⟩ _ _ rfl HO3.out _ rfl rfl (fun _ h => h.elim) (fun b hb => Nat.le_trans HK3.out.size hb) (by simp [maxLen]; omega) (by simp; omega) ?_; intro v4 w4 hO_ hK_; have HO4 := hide hO_; have HK4 := hide (HK3.out.trans hK_); clear hO_ hK_))
      obtain ⟨ys, hys⟩ : ∃ ys, ys = [] ++ xs ++ [(⟨2, 1⟩ : Span)] := ⟨_, rfl⟩
      have hv4 := HO4.out.oldRow
      rw [← hys] at hv4
      have hyl : ys.length ≤ maxLen := by rw [hys]; simp [maxLen]; omega
      have hyf : spansV ((xs.length : Int) + 1) ys = false := by rw [hys]; exact HE.out
      obtain ⟨A4, c4, rfl, _, _, hR4⟩ := hv4
      have HC := hide (HI.out ((xs.length : Int) + 1) ys A4 c4 w4 hyl hR4)
      rw [hyf] at HC
      clear hys hyl hyf hR4
      first
        | (have hmm := HM2.out (by trivial)
           subst hmm
           go_wp2_with (first | (go_at_call 25; refine HC.out.mono ?_; rintro e w5 ⟨rfl, hb5⟩; have HB5 := hide hb5; clear hb5) | (go_at_call 23; refine (HAl.out _).mono ?_; rintro e w6 ⟨rfl, hb6⟩; have HB6 := hide hb6; clear hb6))
           go_ret
           exact ⟨rfl, ((below_only HB3.out HK4.out HB3.out.size (fun i hi => Nat.le_trans HB3.out.size hi)).trans (HB5.out.mono (Nat.le_trans HB3.out.size HK4.out.size))).trans (HB6.out.mono (Nat.le_trans (Nat.le_trans HB3.out.size HK4.out.size) HB5.out.size))⟩)
        | (go_wp2_with (first | (go_at_call 25; refine HC.out.mono ?_; rintro e w5 ⟨rfl, hb5⟩; have HB5 := hide hb5; clear hb5) | (go_at_call 23; refine (HAl.out _).mono ?_; rintro e w6 ⟨rfl, hb6⟩; have HB6 := hide hb6; clear hb6))
           go_ret
           exact ⟨rfl, ((below_only HB3.out HK4.out HB3.out.size (fun i hi => Nat.le_trans HB3.out.size hi)).trans (HB5.out.mono (Nat.le_trans HB3.out.size HK4.out.size))).trans (HB6.out.mono (Nat.le_trans (Nat.le_trans HB3.out.size HK4.out.size) HB5.out.size))⟩)
  · clear hA
    go_enter Tryd.func5, Tryd.ntmps5
    go_wp2_with fail
    go_ret
    exact ⟨rfl, Below.refl _ _⟩
end Go.Proofs.YtcfllpgppinofaaDoor
