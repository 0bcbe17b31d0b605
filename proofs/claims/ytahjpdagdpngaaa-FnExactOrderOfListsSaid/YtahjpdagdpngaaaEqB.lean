/- Comparing equal data of the laws package answers true: calls, lists of lists, drafts. -/
import Derived.Test.YtahjpdagdpngaaaProg
import Derived.Test.YtahjpdagdpngaaaBase
import Derived.Test.YtahjpdagdpngaaaElems
import Derived.Test.YtahjpdagdpngaaaEqA
namespace Go.Proofs.Ytahjpdagdpngaaa
open Go.RowKit

set_option maxHeartbeats 400000 in
theorem eqCall (x : Call) (w : World) :
    Calls Try.prog 66 #[.agg #[.int .i64 x.Kind, .int .i64 x.Value, .int .i64 x.When.From, .int .i64 x.When.To], .agg #[.int .i64 x.Kind, .int .i64 x.Value, .int .i64 x.When.From, .int .i64 x.When.To]] w fun e w' => e = .returned (.bool true) ∧ Below w.heap.size w w' := by
  go_enter Try.func66, Try.ntmps66
  go_wp2_with (go_at_call 61; refine (eqSpan x.When _).mono ?_; rintro e w' ⟨rfl, hb'⟩; have HB := hide hb'; clear hb')
  go_ret
  exact ⟨rfl, (((Below.refl _ w).alloc (Nat.le_refl _) _).alloc (by simp) _).trans (HB.out.mono (by simp; omega))⟩
set_option maxRecDepth 10000 in
set_option maxHeartbeats 400000 in
theorem eqCallS (xs : List Call) (A B : Option Addr) (c d : Nat) (w : World) (hl : xs.length ≤ maxLen) (hA : Row tCall w (Old w) A xs) (hB : Row tCall w (Old w) B xs) :
    Calls Try.prog 28 #[.slice A xs.length c, .slice B xs.length d] w fun e w' => e = .returned (.bool true) ∧ Below w.heap.size w w' := by
  unfold maxLen at hl
  go_enter Try.func28, Try.ntmps28
  go_wp2
  go_loopw [5] (fun i wr => ∃ k : Nat, k ≤ xs.length ∧ i = .int .i64 k ∧ Below w.heap.size w wr) (fun i _ => xs.length - (intOf i).toNat)
  case atStart => exact ⟨0, Nat.zero_le _, rfl, Below.refl _ _⟩
  case round =>
    obtain ⟨k, hk, rfl, hb⟩ := hrel
    by_cases hlt : k < xs.length
    · obtain ⟨b, off, rfl, hbS, c0_, c1_, c2_, c3_⟩ := at_Call hA hb hlt
      obtain ⟨b2, off2, rfl, hbS2, d0_, d1_, d2_, d3_⟩ := at_Call hB hb hlt
      clear hA hB
      go_wp2
      go_still_tail 8, (by kernel_rfl)
      have hbd : Below wr.heap.size wr wr.drew := (Below.refl _ _).drew
      change wpList _ _ _ _ _ wr.drew
      have hcall := (eqCall xs[k] wr.drew)
      have hb2 : Below w.heap.size w wr.drew := hb.drew
      clear hbd
      generalize wr.drew = w2 at hb2 hcall ⊢
      have HC := hide hcall
      clear hcall
      go_wp2_with (go_at_call 66; refine HC.out.mono ?_; rintro e w' ⟨rfl, hb'⟩)
      go_roundw
      case rel => exact ⟨k + 1, by omega, by go_num, hb2.trans (hb'.mono hb2.size)⟩
      case measure => simp [intOf]; omega
    · clear hA hB
      go_wp2
      go_ret
      exact ⟨rfl, hb⟩
set_option maxRecDepth 10000 in
set_option maxHeartbeats 400000 in
theorem eqIntSS (xs : List (List Int)) (A B : Option Addr) (c d : Nat) (w : World) (hl : xs.length ≤ maxLen) (hn : ∀ x ∈ xs, x.length ≤ maxLen) (hA : Row (tSlice tInt) w (Old w) A xs) (hB : Row (tSlice tInt) w (Old w) B xs) :
    Calls Try.prog 33 #[.slice A xs.length c, .slice B xs.length d] w fun e w' => e = .returned (.bool true) ∧ Below w.heap.size w w' := by
  unfold maxLen at hl
  go_enter Try.func33, Try.ntmps33
  go_wp2
  go_loopw [5] (fun i wr => ∃ k : Nat, k ≤ xs.length ∧ i = .int .i64 k ∧ Below w.heap.size w wr) (fun i _ => xs.length - (intOf i).toNat)
  case atStart => exact ⟨0, Nat.zero_le _, rfl, Below.refl _ _⟩
  case round =>
    obtain ⟨k, hk, rfl, hb⟩ := hrel
    by_cases hlt : k < xs.length
    · have hi0 := hn xs[k] (List.getElem_mem hlt)
      obtain ⟨b, off, A3, c3, rfl, hbS, c0_, hi1, hi2, hi3⟩ := at_IntS hA hb hlt
      obtain ⟨b2, off2, A4, c4, rfl, hbS2, d0_, hj1, hj2, hj3⟩ := at_IntS hB hb hlt
      clear hA hB hn
      have HI := hide hi3; clear hi3; have HJ := hide hj3; clear hj3
      go_wp2
      go_still_tail 8, (by kernel_rfl)
      have hbd : Below wr.heap.size wr wr.drew := (Below.refl _ _).drew
      change wpList _ _ _ _ _ wr.drew
      have hcall := (eqIntS xs[k] A3 A4 c3 c4 wr.drew hi0 (HI.out.old hbd) (HJ.out.old hbd))
      have hb2 : Below w.heap.size w wr.drew := hb.drew
      clear hbd
      generalize wr.drew = w2 at hb2 hcall ⊢
      have HC := hide hcall
      clear hcall
      go_wp2_with (go_at_call 16; refine HC.out.mono ?_; rintro e w' ⟨rfl, hb'⟩)
      go_roundw
      case rel => exact ⟨k + 1, by omega, by go_num, hb2.trans (hb'.mono hb2.size)⟩
      case measure => simp [intOf]; omega
    · clear hA hB hn
      go_wp2
      go_ret
      exact ⟨rfl, hb⟩
set_option maxHeartbeats 400000 in
theorem eqDraft (x : Draft) (w : World) (A B : Option Addr) (c d : Nat) (hl : x.Steps.length ≤ maxLen) (hA : Row tOp w (Old w) A x.Steps) (hB : Row tOp w (Old w) B x.Steps) :
    Calls Try.prog 77 #[.agg #[.int .i64 x.Session, .slice A x.Steps.length c], .agg #[.int .i64 x.Session, .slice B x.Steps.length d]] w fun e w' => e = .returned (.bool true) ∧ Below w.heap.size w w' := by
  go_enter Try.func77, Try.ntmps77
  go_wp2_with (go_at_call 101; refine (eqOpS x.Steps A B c d _ hl (hA.old (((Below.refl _ w).alloc (Nat.le_refl _) _).alloc (by simp) _)) (hB.old (((Below.refl _ w).alloc (Nat.le_refl _) _).alloc (by simp) _))).mono ?_; rintro e w' ⟨rfl, hb'⟩; have HB := hide hb'; clear hb'; clear hA hB)
  go_ret
  exact ⟨rfl, (((Below.refl _ w).alloc (Nat.le_refl _) _).alloc (by simp) _).trans (HB.out.mono (by simp; omega))⟩
set_option maxRecDepth 10000 in
set_option maxHeartbeats 400000 in
theorem eqDraftS (xs : List Draft) (A B : Option Addr) (c d : Nat) (w : World) (hl : xs.length ≤ maxLen) (hn : ∀ x ∈ xs, x.Steps.length ≤ maxLen) (hA : Row tDraft w (Old w) A xs) (hB : Row tDraft w (Old w) B xs) :
    Calls Try.prog 38 #[.slice A xs.length c, .slice B xs.length d] w fun e w' => e = .returned (.bool true) ∧ Below w.heap.size w w' := by
  unfold maxLen at hl
  go_enter Try.func38, Try.ntmps38
  go_wp2
  go_loopw [5] (fun i wr => ∃ k : Nat, k ≤ xs.length ∧ i = .int .i64 k ∧ Below w.heap.size w wr) (fun i _ => xs.length - (intOf i).toNat)
  case atStart => exact ⟨0, Nat.zero_le _, rfl, Below.refl _ _⟩
  case round =>
    obtain ⟨k, hk, rfl, hb⟩ := hrel
    by_cases hlt : k < xs.length
    · have hi0 := hn xs[k] (List.getElem_mem hlt)
      obtain ⟨b, off, A3, c3, rfl, hbS, c0_, c1_, hi1, hi2, hi3⟩ := at_Draft hA hb hlt
      obtain ⟨b2, off2, A4, c4, rfl, hbS2, d0_, d1_, hj1, hj2, hj3⟩ := at_Draft hB hb hlt
      clear hA hB hn
      have HI := hide hi3; clear hi3; have HJ := hide hj3; clear hj3
      go_wp2
      go_still_tail 8, (by kernel_rfl)
      have hbd : Below wr.heap.size wr wr.drew := (Below.refl _ _).drew
      change wpList _ _ _ _ _ wr.drew
      have hcall := (eqDraft xs[k] wr.drew A3 A4 c3 c4 hi0 (HI.out.old hbd) (HJ.out.old hbd))
      have hb2 : Below w.heap.size w wr.drew := hb.drew
      clear hbd
      generalize wr.drew = w2 at hb2 hcall ⊢
      have HC := hide hcall
      clear hcall
      go_wp2_with (go_at_call 77; refine HC.out.mono ?_; rintro e w' ⟨rfl, hb'⟩)
      go_roundw
      case rel => exact ⟨k + 1, by omega, by go_num, hb2.trans (hb'.mono hb2.size)⟩
      case measure => simp [intOf]; omega
    · clear hA hB hn
      go_wp2
      go_ret
      exact ⟨rfl, hb⟩
end Go.Proofs.Ytahjpdagdpngaaa
