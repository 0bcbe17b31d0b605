/- TogetherSpans of the program and of the reference answer alike. -/
import Derived.Test.YtcfllpgppinofaaDoorSpans
namespace Go.Proofs.YtcfllpgppinofaaDoor
open Go.RowKit

def cntTo (f : Nat → Bool) : Nat → Nat
  | 0 => 0
  | n + 1 => cntTo f n + (if f n then 1 else 0)
def sumTo (f : Nat → Nat) : Nat → Nat
  | 0 => 0
  | n + 1 => sumTo f n + f n
theorem cntTo_le (f : Nat → Bool) : ∀ n, cntTo f n ≤ n
  | 0 => Nat.le_refl _
  | n + 1 => by have := cntTo_le f n; simp only [cntTo]; split <;> omega
theorem sumTo_le (f : Nat → Nat) (B : Nat) (h : ∀ i, f i ≤ B) : ∀ n, sumTo f n ≤ n * B
  | 0 => by simp [sumTo]
  | n + 1 => by have := sumTo_le f B h n; have := h n; simp only [sumTo]; rw [Nat.add_mul]; omega
def meet (a b : Span) : Bool := decide (a.From ≤ b.To) && decide (b.From ≤ a.To)
def mt (xs : List Span) (i j : Nat) : Bool := match xs[i]?, xs[j]? with
  | some a, some b => meet a b
  | _, _ => false
theorem mt_eq {xs : List Span} {i j : Nat} (hi : i < xs.length) (hj : j < xs.length) : mt xs i j = meet xs[i] xs[j] := by
  unfold mt; rw [List.getElem?_eq_getElem hi, List.getElem?_eq_getElem hj]
def cn (xs : List Span) (i : Nat) : Nat := if i < xs.length then cntTo (mt xs i) i else 0
theorem cn_le (xs : List Span) (i : Nat) : cn xs i ≤ xs.length := by
  unfold cn; split
  · have := cntTo_le (mt xs i) i; omega
  · omega
def togV (xs : List Span) : Int := if spansV xs.length xs then (sumTo (cn xs) xs.length : Nat) else -1

theorem cnt_step {f : Nat → Bool} {l : Nat} {b : Bool} (h : f l = b) : cntTo f (l + 1) = cntTo f l + (if b then 1 else 0) := by rw [cntTo, h]
theorem val_cast {a b : Nat} {x : Int} (h : x = (a : Int)) (e : a = b) : Value.int .i64 x = .int .i64 (b : Int) := by rw [h, e]

set_option maxRecDepth 10000 in
set_option maxHeartbeats 1000000 in
theorem specTogetherSpans (xs : List Span) (A : Option Addr) (c : Nat) (w : World) (hl : xs.length ≤ 2097152) (hA : Row tSpan w (Old w) A xs) :
    Calls Tryd.prog 32 #[.slice A xs.length c] w fun e w' => e = .returned (.int .i64 (togV xs)) ∧ Below w.heap.size w w' := by
  have HA := hide hA
  clear hA
  go_enter Tryd.func32, Tryd.ntmps32
  go_wp2
  go_loopw [3, 4] (fun m i wr => ∃ k : Nat, k ≤ xs.length ∧ i = .int .i64 k ∧ m = .int .i64 (sumTo (cn xs) k : Nat) ∧ Below w.heap.size w wr) (fun _ i _ => xs.length - (intOf i).toNat)
  case atStart => exact ⟨0, Nat.zero_le _, rfl, rfl, Below.refl _ _⟩
  case round =>
    obtain ⟨k, hk, rfl, rfl, hb⟩ := hrel
    have hM : sumTo (cn xs) k ≤ k * 2097152 := Nat.le_trans (sumTo_le _ _ (cn_le xs) k) (Nat.mul_le_mul_left _ hl)
    by_cases hlt : k < xs.length
    · go_wp2
      obtain ⟨wo, rfl⟩ : ∃ wo : World, wo = wr := ⟨_, rfl⟩
      go_loopw [3, 5] (fun m j wr2 => ∃ l : Nat, l ≤ k ∧ j = .int .i64 l ∧ m = .int .i64 ((sumTo (cn xs) k + cntTo (mt xs k) l : Nat) : Int) ∧ Below w.heap.size w wr2) (fun _ j _ => k - (intOf j).toNat)
      case atStart => exact ⟨0, Nat.zero_le _, rfl, rfl, hb⟩
      case round =>
        obtain ⟨l, hlk, rfl, rfl, hb2⟩ := hrel
        have hC := cntTo_le (mt xs k) l
        by_cases hlt2 : l < k
        · obtain ⟨b, off, rfl, hbS, c0, c1⟩ := at_Span HA.out hb2 hlt
          obtain ⟨b', off', hbe, hbS', d0, d1⟩ := at_Span HA.out hb2 (show l < xs.length by omega)
          have hbe' : b = b' ∧ off = off' := by simpa using hbe
          obtain ⟨rfl, rfl⟩ := hbe'
          clear hbe
          have HE := hide (mt_eq hlt (show l < xs.length by omega))
          by_cases h1 : xs[k].From ≤ xs[l].To
          · have h1' : decide (xs[k].From ≤ xs[l].To) = true := by simpa using h1
            by_cases h2 : xs[l].From ≤ xs[k].To
            · have h2' : decide (xs[l].From ≤ xs[k].To) = true := by simpa using h2
              have HM := hide (show mt xs k l = true by rw [HE.out]; unfold meet; rw [h1', h2']; rfl)
              go_wp2
              go_quiet (fail)
              go_wp2
              go_roundw
              case rel => exact ⟨l + 1, by omega, by go_num, val_cast (a := sumTo (cn xs) k + cntTo (mt xs k) l + 1) (by omega) (by rw [cnt_step HM.out]; rfl), below_drewN hb2 _⟩
              case measure => simp [intOf]; omega
            · have h2' : decide (xs[l].From ≤ xs[k].To) = false := by simpa using h2
              have HM := hide (show mt xs k l = false by rw [HE.out]; unfold meet; rw [h2', Bool.and_false])
              go_wp2
              go_quiet (fail)
              go_wp2
              go_roundw
              case rel => exact ⟨l + 1, by omega, by go_num, val_cast (a := sumTo (cn xs) k + cntTo (mt xs k) l) (by omega) (by rw [cnt_step HM.out]; rfl), below_drewN hb2 _⟩
              case measure => simp [intOf]; omega
          · have h1' : decide (xs[k].From ≤ xs[l].To) = false := by simpa using h1
            have HM := hide (show mt xs k l = false by rw [HE.out]; unfold meet; rw [h1', Bool.false_and])
            go_wp2
            go_quiet (fail)
            go_wp2
            go_roundw
            case rel => exact ⟨l + 1, by omega, by go_num, val_cast (a := sumTo (cn xs) k + cntTo (mt xs k) l) (by omega) (by rw [cnt_step HM.out]; rfl), below_drewN hb2 _⟩
            case measure => simp [intOf]; omega
        · obtain rfl : l = k := by omega
          have HS := hide (show sumTo (cn xs) (l + 1) = sumTo (cn xs) l + cntTo (mt xs l) l by rw [sumTo]; unfold cn; rw [if_pos hlt])
          go_wp2
          go_roundw
          case rel => exact ⟨l + 1, by omega, by go_num, val_cast (by omega) HS.out.symm, hb2⟩
          case measure => simp [intOf]; omega
    · obtain rfl : k = xs.length := by omega
      have HC := hide (specSpansValid xs.length xs A c wr (by simp only [maxLen]; omega) (HA.out.old hb))
      cases hv : spansV xs.length xs with
      | true =>
        have HV := hide (show togV xs = (sumTo (cn xs) xs.length : Nat) by unfold togV; rw [hv]; rfl)
        go_wp2_with (go_at_call 26; refine HC.out.mono ?_; rintro e w' ⟨rfl, hb'⟩)
        go_ret
        exact ⟨ret_int HV.out.symm, hb.trans (hb'.mono hb.size)⟩
      | false =>
        have HV := hide (show togV xs = -1 by unfold togV; rw [hv]; rfl)
        go_wp2_with (go_at_call 26; refine HC.out.mono ?_; rintro e w' ⟨rfl, hb'⟩)
        go_ret
        exact ⟨ret_int HV.out.symm, hb.trans (hb'.mono hb.size)⟩
end Go.Proofs.YtcfllpgppinofaaDoor
