/- The reference's l2Copy: a history in memory of its own. -/
import Derived.Test.YtaaagoppecnmmaaDoorOwnList
import Derived.Test.YtaaagoppecnmmaaDoorHold
import Derived.Laws.AppendOwn
import Derived.ArgAppend
import Derived.Deep.RegionLaw
namespace Go.Proofs.YtaaagoppecnmmaaDoor
open Go.RowKit
set_option linter.unusedVariables false
set_option linter.unusedSimpArgs false

set_option maxRecDepth 10000 in
set_option maxHeartbeats 8000000 in
theorem specCopy (xs : List Txn) (A : Option Addr) (c : Nat) (w : World) (hm : xs.length ≤ 1048576) (hn : ∀ x ∈ xs, x.Ops.length ≤ 1048576) (hA : Row tTxn w (Old w) A xs) :
    Calls Tryd.prog 77 #[.slice A xs.length c] w fun e w' => ∃ v, e = .returned v ∧ Own (tTxnO 71) 42 w' (New w w') xs v ∧ Below w.heap.size w w' := by
  obtain ⟨i0, hi, hz0, hz1, hz2⟩ := info_parts infoTxn_
  obtain ⟨i1, hi1, hz01, hz11, hz21⟩ := info_parts infoOpT
  have HA := hide hA
  have HN := hide hn
  clear hA hn
  go_enter Tryd.func77, Tryd.ntmps77
  go_wp2_with fail
  go_loopw [3, 4] (fun v i wr => ∃ k : Nat, k ≤ xs.length ∧ i = .int .i64 k ∧ Hid (Own (tTxnO 71) 42 wr (fun b => w.heap.size ≤ b ∧ Old wr b) (xs.take k) v) ∧ Below w.heap.size w wr) (fun _ i _ => xs.length - (intOf i).toNat)
  case atStart => exact ⟨0, Nat.zero_le _, rfl, Own.empty w (fun b => w.heap.size ≤ b) (Nat.le_refl _), (Below.refl _ _).alloc (Nat.le_refl _) _⟩
  case round =>
    obtain ⟨k, hk, rfl, hO, hb⟩ := hrel
    by_cases hlt : k < xs.length
    · obtain ⟨b, off, A2, c2, rfl, hbS, c0, c1, c3, hi1', hi2', hi3'⟩ := at_Txn HA.out hb hlt
      have hml := HN.out _ (List.getElem_mem hlt)
      have HS := hide (take_snoc' xs k hlt)
      have HB := hide hb
      have HL := hide (own_lt (B := wr.heap.size) hO.out (fun b h => h.2))
      have HOe := hide (Own.empty (T := tOp) (e := 71) wr.drew (fun b => wr.heap.size ≤ b) (Nat.le_refl _))
      have HR := hide ((hi3'.mono (w' := wr.drew.alloc (.cells #[] 71)) (S' := Old wr) (fun _ h => h) (fun b hb => Below.heap_alloc _ _ _ hb)).anyOp)
      have hzb : b < wr.heap.size := Nat.lt_of_lt_of_le hbS hb.size
      have HO := hide hO.out
      have HC0 := hide c0; have HC3 := hide c3
      have hz : xs[k].Ops.length ≤ 9223372036854775807 := by omega
      clear hi1' hi2' hi3' hO hbS
      go_wp2_with fail
      go_region_law (first | (refine wp_cat tOp (.tmp 18) (.tmp 23) 40 rfl 71 i1 _ 24 Tryd.underlying40 hi1 hz01 hz11 hz21 rfl (by decide) (fun b => wr.heap.size ≤ b) (fun _ => False) [] xs[k].Ops _ rfl HOe.out A2 _ c2 (by simp [Act.eval, Act.put]) rfl HR.out (fun _ h => h.elim) (fun b hb => Nat.le_trans (by simp) hb) (by simp only [maxLen, List.length_nil]; omega) (by simp only [List.length_nil]; omega) ?_; intro v8 w8 hO_ hK_; rw [List.nil_append] at hO_; obtain ⟨A8, c8, rfl, h81, h82, _⟩ := hO_.sl; have hB8 := below_only ((Below.refl _ wr).drew.alloc (by simp) (.cells #[] 71)) hK_ (by simp) (fun b h => h); have HO8 := hide hO_; have HB8 := hide hB8; have hc0 := (hB8.cell (p := ⟨b, off + k * 3, none⟩) hzb).trans HC0.out; have hc3 := (hB8.cell (p := ⟨b, off + k * 3 + 2, none⟩) hzb).trans HC3.out; clear hO_ hK_ hB8) | (refine wp_put (tTxnO 71) (.tmp 12) (.tmp 31) 23 rfl 42 i0 _ 40 Tryd.underlying23 hi hz0 hz1 hz2 rfl (by decide) (fun b => w.heap.size ≤ b) (fun b => wr.heap.size ≤ b ∧ Old w8 b) (xs.take k) xs[k] [.int .i64 xs[k].Session, .slice A8 xs[k].Ops.length c8, .bool xs[k].Done] _ (by simp [Act.eval, Act.put]) (HO.out.onlyBelow HB8.out) 1 (by simp [Act.eval, Act.put]) ⟨_, rfl, HO8.out⟩ (fun b h => ⟨Nat.le_trans HB.out.size h.1, h.2, fun e => by have := HL.out b e; have := h.1; omega⟩) (fun b hb => Nat.le_trans (Nat.le_trans HB.out.size HB8.out.size) hb) (by rw [List.length_take]; simp only [maxLen]; omega) (by rw [List.length_take]; omega) ?_; intro v9 w9 hO_ hK_; have HO9 := hide hO_; have HK9 := hide hK_; clear hO_ hK_))
      all_goals
        go_wp2_with fail
        go_roundw
        case rel => exact ⟨k + 1, by omega, by go_num, by rw [HS.out]; exact HO9.out, below_only (HB.out.trans (HB8.out.mono HB.out.size)) HK9.out (Nat.le_trans HB.out.size HB8.out.size) (fun _ h => h)⟩
        case measure => simp [intOf]; omega
    · obtain rfl : k = xs.length := by omega
      have HS := hide (show xs.take xs.length = xs from List.take_length)
      go_wp2_with fail
      go_ret
      exact ⟨_, rfl, by have := hO.out; rw [HS.out] at this; exact this, hb⟩
end Go.Proofs.YtaaagoppecnmmaaDoor
