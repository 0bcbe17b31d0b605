/- The reference's copies of histories: l1OwnTxnList. -/
import Derived.Test.YtmlbfhknapkhgaaOwnTxn
namespace Go.Proofs.Ytmlbfhknapkhgaa
open Go.RowKit
set_option linter.unusedVariables false

theorem New.of_K {w w' : World} {α : Type} {T : Ty α} {e : TypeId} {xs : List α} {v : Value} (h : Own T e w' (fun b => w.heap.size ≤ b ∧ Old w' b) xs v) : Own T e w' (New w w') xs v := h
theorem take_snoc' {α : Type} (xs : List α) (k : Nat) (h : k < xs.length) : xs.take (k + 1) = xs.take k ++ [xs[k]] := List.take_succ_eq_append_getElem h
set_option maxRecDepth 10000 in
set_option maxHeartbeats 1000000 in
theorem ownTxnList (xs : List Txn) (A : Option Addr) (c : Nat) (w : World) (hm : xs.length ≤ 1048576) (hn : ∀ x ∈ xs, x.Ops.length ≤ 1048576) (hA : Row tTxn w (Old w) A xs) :
    Calls Try.prog 48 #[.slice A xs.length c] w fun e w' => ∃ v, e = .returned v ∧ Own (tTxnO 68) 66 w' (New w w') xs v ∧ Below w.heap.size w w' := by
  obtain ⟨i0, hi, hz0, hz1, hz2⟩ := info_parts infoTxn_
  have HA := hide hA
  have HN := hide hn
  clear hA hn
  go_enter Try.func48, Try.ntmps48
  go_wp2
  go_loopw [3, 4] (fun v i wr => ∃ k : Nat, k ≤ xs.length ∧ i = .int .i64 k ∧ Hid (Own (tTxnO 68) 66 wr (fun b => w.heap.size ≤ b ∧ Old wr b) (xs.take k) v) ∧ Below w.heap.size w wr) (fun _ i _ => xs.length - (intOf i).toNat)
  case atStart => exact ⟨0, Nat.zero_le _, rfl, Own.empty w (fun b => w.heap.size ≤ b) (Nat.le_refl _), (Below.refl _ _).alloc (Nat.le_refl _) _⟩
  case round =>
    obtain ⟨k, hk, rfl, hO, hb⟩ := hrel
    by_cases hlt : k < xs.length
    · obtain ⟨b, off, A2, c2, rfl, hbS, c0, c1, c3, hi1, hi2, hi3⟩ := at_Txn HA.out hb hlt
      have HC := hide (ownTxn xs[k] A2 c2 wr (HN.out _ (List.getElem_mem hlt)) hi3)
      have HS := hide (take_snoc' xs k hlt)
      have HB := hide hb
      have HL := hide (own_lt (B := wr.heap.size) hO.out (fun b h => h.2))
      clear hi1 hi2 hi3
      go_wp2_with (first | (go_at_call 103; refine HC.out.mono ?_; rintro e w' ⟨v2, rfl, hO2, hb2⟩; have HO2 := hide hO2; have HB2 := hide hb2; have HO1 := hide (hO.out.onlyBelow hb2); clear hO2 hb2 hO) | (at_builtin; refine wpList_put (tTxnO 68) rfl (.tmp 12) (.tmp 18) 24 rfl 66 i0 _ 40 Try.underlying24 hi hz0 hz1 hz2 rfl (by decide) (fun b => w.heap.size ≤ b) (New wr w') (xs.take k) xs[k] [.int .i64 xs[k].Session, v2, .bool xs[k].Done] _ rfl HO1.out _ rfl ⟨_, rfl, HO2.out⟩ (fun b h => ⟨Nat.le_trans HB.out.size h.1, h.2, fun e => by have := HL.out b e; have := h.1; omega⟩) (fun b hb => Nat.le_trans (Nat.le_trans HB.out.size HB2.out.size) hb) (by rw [List.length_take]; simp only [maxLen]; omega) (by rw [List.length_take]; omega) ?_; intro v3 w3 hO_ hK_; have HO3 := hide hO_; have HK3 := hide hK_; clear hO_ hK_))
      go_roundw
      case rel => exact ⟨k + 1, by omega, by go_num, by rw [HS.out]; exact HO3.out, below_only (HB.out.trans (HB2.out.mono HB.out.size)) HK3.out (Nat.le_trans HB.out.size HB2.out.size) (fun _ h => h)⟩
      case measure => simp [intOf]; omega
    · obtain rfl : k = xs.length := by omega
      have HS := hide (show xs.take xs.length = xs from List.take_length)
      go_wp2
      go_ret
      exact ⟨_, rfl, by have := hO.out; rw [HS.out] at this; exact this, hb⟩
end Go.Proofs.Ytmlbfhknapkhgaa
