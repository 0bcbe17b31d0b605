/- TogetherSpans of the program answers as told by togV. -/
import Derived.Test.YtcfllpgppinofaaDoorTogether
namespace Go.Proofs.YtcfllpgppinofaaDoor
open Go.RowKit

theorem spanOk_le {s : Span} (h : spanOk s = true) : s.From ≤ s.To := by
  simp only [spanOk, Bool.and_eq_true, inR_iff] at h
  omega
theorem spansV_each {many : Int} {xs : List Span} (h : spansV many xs = true) {k : Nat} (hk : k < xs.length) : spanOk xs[k] = true := by
  simp only [spansV, Bool.and_eq_true, List.all_eq_true] at h
  exact h.2 _ (List.getElem_mem hk)
theorem spansV_len {many : Int} {xs : List Span} (h : spansV many xs = true) : xs.length ≤ 6 := by
  simp only [spansV, Bool.and_eq_true, inR_iff, decide_eq_true_eq] at h
  omega

set_option maxRecDepth 10000 in
set_option maxHeartbeats 1000000 in
theorem implTogetherSpans (xs : List Span) (A : Option Addr) (c : Nat) (w : World) (hm : xs.length ≤ maxLen) (hle : xs.length ≤ c) (hcm : c ≤ maxLen) (hA : Row tSpan w (Old w) A xs) :
    Calls Tryd.prog 31 #[.slice A xs.length c] w fun e w' => e = .returned (.int .i64 (togV xs)) ∧ Below w.heap.size w w' := by
  have HC := hide (implSpansValid xs.length xs A c w hm hA)
  have HA := hide hA
  clear hA
  cases hv : spansV xs.length xs with
  | false =>
    have HV := hide (show togV xs = -1 by unfold togV; rw [hv]; rfl)
    go_enter Tryd.func31, Tryd.ntmps31
    go_wp2_with (go_at_call 25; refine HC.out.mono ?_; rintro e w' ⟨rfl, hb'⟩)
    go_ret
    exact ⟨ret_int HV.out.symm, hb'⟩
  | true =>
    have HV := hide (show togV xs = (sumTo (cn xs) xs.length : Nat) by unfold togV; rw [hv]; rfl)
    have HEach : Hid (∀ k (hk : k < xs.length), spanOk xs[k] = true) := fun k hk => spansV_each hv hk
    have hl := spansV_len hv
    clear hm
    unfold maxLen at hcm
    go_enter Tryd.func31, Tryd.ntmps31
    go_wp2_with (go_at_call 25; refine HC.out.mono ?_; rintro e w1 ⟨rfl, hb1⟩)
    clear hv
    go_loopw [3, 15] (fun m i wr => ∃ k : Nat, k ≤ xs.length ∧ i = .int .i64 k ∧ m = .int .i64 (sumTo (cn xs) k : Nat) ∧ Below w.heap.size w wr) (fun _ i _ => xs.length - (intOf i).toNat)
    case atStart => exact ⟨0, Nat.zero_le _, rfl, rfl, hb1⟩
    case round =>
      obtain ⟨k, hk, rfl, rfl, hb⟩ := hrel
      have hM : sumTo (cn xs) k ≤ k * 6 := Nat.le_trans (sumTo_le _ _ (cn_le xs) k) (Nat.mul_le_mul_left _ hl)
      clear hb1
      by_cases hlt : k < xs.length
      · have hOk := spanOk_le (HEach.out k hlt)
        obtain ⟨b, off, rfl, hbS, c0, c1⟩ := at_Span HA.out hb hlt
        have hkc : (k : Int) ≤ (c : Int) := by omega
        go_wp2
        have HBo := hide (show Below w.heap.size w (wr.alloc (Obj.cells #[Value.int IntKind.i64 xs[k].From, Value.int IntKind.i64 xs[k].To] 43)) from hb.alloc hb.size _)
        have HK := hide (Blk.new wr 43 #[Value.int IntKind.i64 xs[k].From, Value.int IntKind.i64 xs[k].To])
        obtain ⟨wo, rfl⟩ : ∃ wo : World, wo = wr := ⟨_, rfl⟩
        clear c0 c1 hb
        go_loopw [3, 24] (fun m j wr2 => ∃ l : Nat, l ≤ k ∧ j = .int .i64 l ∧ m = .int .i64 ((sumTo (cn xs) k + cntTo (mt xs k) l : Nat) : Int) ∧ Below w.heap.size w wr2 ∧ Hid (Blk wr2 wo.heap.size 43 #[Value.int IntKind.i64 xs[k].From, Value.int IntKind.i64 xs[k].To]) ∧ wo.heap.size < wr2.heap.size) (fun _ j _ => k - (intOf j).toNat)
        case atStart => exact ⟨0, Nat.zero_le _, rfl, rfl, HBo.out, HK.out, by simp⟩
        case round =>
          obtain ⟨l, hlk, rfl, rfl, hb2, HK2, hz⟩ := hrel
          have hC := cntTo_le (mt xs k) l
          clear HBo HK
          by_cases hlt2 : l < k
          · obtain ⟨b', off', hbe, hbS', d0, d1⟩ := at_Span HA.out hb2 (show l < xs.length by omega)
            have hbe' : b = b' ∧ off = off' := by simpa using hbe
            obtain ⟨rfl, rfl⟩ := hbe'
            clear hbe
            have hOk2 := spanOk_le (HEach.out l (by omega))
            have k0 : wr.cell? ⟨wo.heap.size, 0, none⟩ = some (Value.int IntKind.i64 xs[k].From) := HK2.out.cell 0
            have k1 : wr.cell? ⟨wo.heap.size, 1, none⟩ = some (Value.int IntKind.i64 xs[k].To) := HK2.out.cell 1
            have HE := hide (mt_eq hlt (show l < xs.length by omega))
            go_wp2
            · have h := ‹(if xs[k].From < xs[l].From then xs[l].From else xs[k].From) ≤ if xs[l].To < xs[k].To then xs[l].To else xs[k].To›
              have HM := hide (show mt xs k l = true by rw [HE.out]; simp only [meet, Bool.and_eq_true, decide_eq_true_eq]; split at h <;> split at h <;> omega)
              go_roundw
              case rel => exact ⟨l + 1, by omega, by go_num, val_cast (a := sumTo (cn xs) k + cntTo (mt xs k) l + 1) (by omega) (by rw [cnt_step HM.out]; rfl), hb2.alloc hb2.size _, HK2.out.alloc _, by simp; omega⟩
              case measure => simp [intOf]; omega
            · have h := ‹(if xs[l].To < xs[k].To then xs[l].To else xs[k].To) < if xs[k].From < xs[l].From then xs[l].From else xs[k].From›
              have HM := hide (show mt xs k l = false by rw [HE.out]; rw [← Bool.not_eq_true]; simp only [meet, Bool.and_eq_true, decide_eq_true_eq]; split at h <;> split at h <;> omega)
              go_roundw
              case rel => exact ⟨l + 1, by omega, by go_num, val_cast (a := sumTo (cn xs) k + cntTo (mt xs k) l) (by omega) (by rw [cnt_step HM.out]; rfl), hb2.alloc hb2.size _, HK2.out.alloc _, by simp; omega⟩
              case measure => simp [intOf]; omega
          · obtain rfl : l = k := by omega
            have HS := hide (show sumTo (cn xs) (l + 1) = sumTo (cn xs) l + cntTo (mt xs l) l by rw [sumTo]; unfold cn; rw [if_pos hlt])
            go_wp2
            go_roundw
            case rel => exact ⟨l + 1, by omega, by go_num, val_cast (by omega) HS.out.symm, hb2⟩
            case measure => simp [intOf]; omega
      · obtain rfl : k = xs.length := by omega
        go_wp2
        go_ret
        exact ⟨ret_int HV.out.symm, hb⟩
end Go.Proofs.YtcfllpgppinofaaDoor
