/- The law FnTogetherSpans: pairs of spans with a time in common are at most all pairs; the order of the spans does not matter. -/
import Derived.Test.YtcfllpgppinofaaDoorSpansD
import Derived.Test.YtcfllpgppinofaaDoorAlive
import Derived.Test.YtcfllpgppinofaaDoorTogetherB
namespace Go.Proofs.YtcfllpgppinofaaDoor
open Go.RowKit
set_option linter.unusedVariables false

theorem meet_comm (a b : Span) : meet a b = meet b a := by
  unfold meet; rw [Bool.and_comm]
theorem cntTo_congr {f g : Nat → Bool} : ∀ n, (∀ j, j < n → f j = g j) → cntTo f n = cntTo g n
  | 0, _ => rfl
  | n + 1, h => by rw [cntTo, cntTo, cntTo_congr n (fun j hj => h j (by omega)), h n (by omega)]
theorem sumTo_congr {f g : Nat → Nat} : ∀ n, (∀ j, j < n → f j = g j) → sumTo f n = sumTo g n
  | 0, _ => rfl
  | n + 1, h => by rw [sumTo, sumTo, sumTo_congr n (fun j hj => h j (by omega)), h n (by omega)]
theorem cntTo_count (xs : List Span) (p : Span → Bool) (f : Nat → Bool) : ∀ n, n ≤ xs.length → (∀ j (h : j < xs.length), j < n → f j = p xs[j]) → cntTo f n = (xs.take n).countP p
  | 0, _, _ => rfl
  | n + 1, hn, h => by
    rw [cntTo, cntTo_count xs p f n (by omega) (fun j hj h1 => h j hj (by omega)), List.take_succ_eq_append_getElem (by omega), List.countP_append, h n (by omega) (by omega), List.countP_cons, List.countP_nil]
    omega
/-- How many pairs meet. -/
def prs (xs : List Span) : Nat := sumTo (cn xs) xs.length
theorem prs_snoc (xs : List Span) (x : Span) : prs (xs ++ [x]) = prs xs + xs.countP (fun y => meet x y) := by
  unfold prs
  rw [List.length_append, List.length_cons, List.length_nil, Nat.zero_add, sumTo]
  have h1 : sumTo (cn (xs ++ [x])) xs.length = sumTo (cn xs) xs.length := sumTo_congr _ fun i hi => by
    unfold cn
    rw [if_pos (by rw [List.length_append]; simp; omega), if_pos hi]
    refine cntTo_congr _ fun j hj => ?_
    rw [mt_eq (by rw [List.length_append]; simp; omega) (by rw [List.length_append]; simp; omega), mt_eq hi (by omega), List.getElem_append_left hi, List.getElem_append_left (by omega)]
  have h2 : cn (xs ++ [x]) xs.length = xs.countP (fun y => meet x y) := by
    unfold cn
    rw [if_pos (by rw [List.length_append]; simp)]
    rw [cntTo_count xs (fun y => meet x y) _ xs.length (Nat.le_refl _) (fun j hj _ => by
      rw [mt_eq (by rw [List.length_append]; simp) (by rw [List.length_append]; simp; omega), List.getElem_append_left hj]; simp), List.take_length]
  rw [h1, h2]
theorem prs_cons (x : Span) (xs : List Span) : prs (x :: xs) = prs xs + xs.countP (fun y => meet x y) := by
  obtain ⟨n, hn⟩ : ∃ n, n = xs.length := ⟨_, rfl⟩
  induction n generalizing xs with
  | zero =>
    have : xs = [] := List.eq_nil_of_length_eq_zero hn.symm
    subst this
    rfl
  | succ n ih =>
    obtain ⟨ys, y, rfl⟩ : ∃ ys y, xs = ys ++ [y] := by
      rcases List.eq_nil_or_concat xs with rfl | ⟨ys, y, h⟩
      · simp at hn
      · exact ⟨ys, y, by simpa using h⟩
    have hl : n = ys.length := by simp at hn; omega
    rw [← List.cons_append, prs_snoc, prs_snoc, ih ys hl, List.countP_cons, List.countP_append, List.countP_cons, List.countP_nil, meet_comm y x]
    omega
theorem prs_reverse (xs : List Span) : prs xs.reverse = prs xs := by
  induction xs with
  | nil => rfl
  | cons x xs ih =>
    rw [List.reverse_cons, prs_snoc, prs_cons, ih, List.countP_reverse]
theorem spansV_reverse (m : Int) (xs : List Span) : spansV m xs.reverse = spansV m xs := by
  unfold spansV
  rw [List.length_reverse, List.all_reverse]
theorem togV_reverse (xs : List Span) : togV xs.reverse = togV xs := by
  have h := prs_reverse xs
  unfold prs at h
  unfold togV
  rw [List.length_reverse, spansV_reverse]
  rw [List.length_reverse] at h
  rw [h]
theorem sumTo_tri (f : Nat → Nat) (h : ∀ i, f i ≤ i) : ∀ n, 2 * sumTo f n ≤ n * (n - 1)
  | 0 => by simp [sumTo]
  | 1 => by have := h 0; simp [sumTo]; omega
  | n + 2 => by
    have h1 := sumTo_tri f h (n + 1)
    have h2 := h (n + 1)
    rw [sumTo]
    simp only [Nat.add_sub_cancel] at h1 ⊢
    rw [show n + 2 - 1 = n + 1 by omega, show (n + 2) * (n + 1) = (n + 1) * n + 2 * (n + 1) by rw [Nat.mul_comm (n + 2), Nat.mul_add, Nat.mul_comm (n + 1) n, Nat.mul_comm 2, Nat.mul_comm n]]
    omega
theorem prs_tri (xs : List Span) : 2 * prs xs ≤ xs.length * (xs.length - 1) := sumTo_tri _ (fun i => by
  unfold cn; split
  · exact cntTo_le _ _
  · omega) _

set_option maxRecDepth 10000 in
set_option maxHeartbeats 4000000 in
theorem lawFnTogether (bs : List Int) (A : Option Addr) (c : Nat) (w : World) (hm : bs.length ≤ maxLen) (hc : bs.length ≤ c) (hcm : c ≤ maxLen) (hA : Row tByte w (Old w) A bs) :
    Calls Tryd.prog 7 #[.slice A bs.length c] w fun e w' => e = .returned (.bool true) ∧ Below w.heap.size w w' := by
  have hq : bs.length ≤ 9223372036854775807 := by simpa [maxLen] using hm
  obtain ⟨i0, hi, hz0, hz1, hz2⟩ := info_parts infoSpanD
  by_cases hl : bs.length ≤ 1048576
  · have HD := hide (drawTogether bs A c w hl hc hcm hA)
    clear hA
    go_enter Tryd.func7, Tryd.ntmps7
    go_wp2_with fail
    refine HD.out.mono ?_
    rintro e w1 ⟨xs, v, rfl, hx, ho, hb1⟩
    obtain ⟨A1, c1, rfl, hle, hcm1, hR1⟩ := ho.old
    have HR1 := hide hR1; have HB1 := hide hb1; clear ho hR1 hb1
    have hxm : xs.length ≤ maxLen := by simp only [maxLen]; omega
    go_wp2_with fail
    refine (implTogetherSpans xs A1 c1 w1 hxm hle hcm1 HR1.out).mono ?_
    rintro e w1b ⟨rfl, hb2⟩
    have HR1b := hide (HR1.out.old hb2); have HB1b := hide (HB1.out.trans (hb2.mono HB1.out.size)); clear hb2
    go_wp2_with fail
    refine (specTogetherSpans xs A1 c1 w1b (by omega) HR1b.out).mono ?_
    rintro e w2 ⟨rfl, hb3⟩
    have HR3 := hide (HR1b.out.old hb3); have HB3 := hide (HB1b.out.trans (hb3.mono HB1b.out.size)); clear hb3
    have HAl := hide alive_any
    clear HR1 HB1 HR1b HB1b
    cases hv : spansV xs.length xs with
    | false =>
      have ht : togV xs = -1 := by unfold togV; rw [hv]; rfl
      rw [ht]
      clear hv ht
      go_wp2_with (go_at_call 23; refine (HAl.out _).mono ?_; rintro e w6 ⟨rfl, hb6⟩)
      go_ret
      exact ⟨rfl, HB3.out.trans (hb6.mono HB3.out.size)⟩
    | true =>
      have h6 := spansV_len hv
      obtain ⟨S, hS⟩ : ∃ S, S = prs xs := ⟨_, rfl⟩
      have ht : togV xs = (S : Int) := by rw [hS]; unfold togV; rw [hv]; rfl
      have htr : togV xs.reverse = (S : Int) := (togV_reverse xs).trans ht
      have htri := prs_tri xs
      rw [← hS] at htri
      have HTr := hide htr
      have HTri := hide htri
      have hS15 : (S : Int) ≤ 15 := by
        have h1 : xs.length * (xs.length - 1) ≤ 6 * 5 := Nat.mul_le_mul h6 (by omega)
        omega
      have hS0 : (0 : Int) ≤ (S : Int) := by omega
      obtain ⟨M, hM1, hM2, hM3⟩ : ∃ M : Nat, (xs.length : Int) * ((xs.length : Int) - 1) = (M : Int) ∧ 2 * S ≤ M ∧ M ≤ 30 := ⟨xs.length * (xs.length - 1), by
        rcases Nat.eq_zero_or_pos xs.length with h0 | h0
        · rw [h0]; rfl
        · rw [Int.natCast_mul, Int.natCast_sub h0]; rfl, htri, show _ ≤ 6 * 5 from Nat.mul_le_mul h6 (by omega)⟩
      have hMw : wrap64 ((xs.length : Int) * ((xs.length : Int) - 1)) = (M : Int) := by rw [hM1]; exact IntWalk.wrap64_in _ (by omega)
      have hM4 : 2 * (S : Int) ≤ (M : Int) := by omega
      rw [ht]
      clear hv ht htr hS htri
      have HOe := hide (Own.empty (T := tSpan) (e := 43) w2 (fun b => w2.heap.size ≤ b) (Nat.le_refl _))
      have HKe := hide (Only.of_alloc (K := fun b => w2.heap.size ≤ b) w2 (.cells #[] 43))
      go_wp2_with fail
      go_loopw [5, 6] (fun v kk wr => ∃ j : Nat, j ≤ xs.length ∧ Hid (kk = .int .i64 ((j : Int) - 1)) ∧ Hid (Own tSpan 43 wr (fun b => w2.heap.size ≤ b ∧ Old wr b) (xs.drop j).reverse v) ∧ Hid (Only (fun b => w2.heap.size ≤ b) w2 wr)) (fun _ kk _ => (intOf kk + 1).toNat)
      case atStart => exact ⟨xs.length, Nat.le_refl _, rfl, by rw [List.drop_length]; exact HOe.out, HKe.out⟩
      case round =>
        obtain ⟨j, hj, hkk, hO, hK⟩ := hrel
        clear HOe HKe
        rcases j with _ | i
        · obtain rfl := hkk.out
          clear hkk
          clear hM1 hM2
          have hO0 := hO.out.oldRow
          rw [List.drop_zero] at hO0
          obtain ⟨ys, hys⟩ : ∃ ys, ys = xs.reverse := ⟨_, rfl⟩
          have hyt : togV ys = (S : Int) := by rw [hys]; exact HTr.out
          have hyl : ys.length ≤ maxLen := by rw [hys, List.length_reverse]; exact hxm
          rw [← hys] at hO0
          obtain ⟨A4, c4, rfl, hle4, hcm4, hR4⟩ := hO0
          have HC := hide (implTogetherSpans ys A4 c4 wr hyl hle4 hcm4 hR4)
          rw [hyt] at HC
          have HB4 := hide (below_only HB3.out hK.out HB3.out.size (fun i hi => Nat.le_trans HB3.out.size hi))
          have HZ := hide (Nat.le_trans HB3.out.size hK.out.size)
          clear hys hyt hyl hR4 hO hK
          go_wp2_with (go_at_call 31; refine HC.out.mono ?_; rintro e w6 ⟨rfl, hb6⟩)
          go_ret
          exact ⟨rfl, HB4.out.trans (hb6.mono HZ.out)⟩
        · obtain ⟨ki, hki⟩ : ∃ z : Int, z = i := ⟨_, rfl⟩
          have hkk2 := hkk.out
          rw [show (((i + 1 : Nat) : Int) - 1) = (i : Int) by omega] at hkk2
          subst hkk2
          clear hkk hki
          have hil : i < xs.length := by omega
          have hb2 : Below w2.heap.size w2 w2 := Below.refl _ _
          obtain ⟨b, off, rfl, hbS, c0, c1⟩ := at_Span (w := w2) HR3.out (hK.out.below) hil
          have HT := hide (show (xs.drop (i + 1)).reverse ++ [xs[i]] = (xs.drop i).reverse by rw [List.drop_eq_getElem_cons hil, List.reverse_cons])
          go_wp2_with (at_builtin; refine wpList_put tSpan rfl (.tmp 33) (.tmp 38) 38 rfl 43 i0 _ 16 Tryd.underlying38 hi hz0 hz1 hz2 rfl (by decide) (fun b => w2.heap.size ≤ b) (fun _ => False) (xs.drop (i + 1)).reverse xs[i] _ _ rfl hO.out _ rfl rfl (fun _ h => h.elim) (fun b hb => Nat.le_trans hK.out.size hb) (by simp only [maxLen, List.length_reverse, List.length_drop]; omega) (by simp only [List.length_reverse, List.length_drop]; omega) ?_; intro v5 w5 hO_ hK_; have HO5 := hide hO_; have HK5 := hide (hK.out.trans hK_); clear hO_ hK_)
          rw [HT.out] at HO5
          go_roundw
          case rel => exact ⟨i, by omega, rfl, HO5.out, HK5.out⟩
          case measure => simp [intOf]
  · clear hA
    go_enter Tryd.func7, Tryd.ntmps7
    go_wp2_with fail
    go_ret
    exact ⟨rfl, Below.refl _ _⟩
end Go.Proofs.YtcfllpgppinofaaDoor
