/- The program's ShrinkBad, with its serial and copyHistory. -/
import Derived.Test.YtaaagoppecnmmaaDoorFindI
import Derived.Test.YtaaagoppecnmmaaDoorShrM
import Derived.Test.YtaaagoppecnmmaaDoorDropped
import Derived.Test.YtaaagoppecnmmaaDoorHolds
namespace Go.Proofs.YtaaagoppecnmmaaDoor
open Go.RowKit
set_option linter.unusedVariables false
set_option linter.unusedSimpArgs false

set_option maxRecDepth 10000 in
theorem serial_any (h : List Txn) (A : Option Addr) (c : Nat) (w : World) (hv : histV h = true) (hA : Row tTxn w (Old w) A h) :
    Calls Tryd.prog 74 #[.slice A h.length c] w fun e w' => e = .returned (.bool (serF h).isSome) ∧ Below w.heap.size w w' := by
  have HF := hide (firstSerial_any h A c w (fun _ _ => true) 58 #[] hv hA (enters_of Tryd.func58 (by kernel_rfl) rfl)
    (fun W pre gone n hn hbt _ hb => (anyone_any gone n W).mono fun e w' ⟨h1, h2⟩ => ⟨h1, by rw [← h2]; exact Below.refl _ _⟩))
  rw [serF_good] at HF
  clear hA hv
  go_enter Tryd.func74, Tryd.ntmps74
  go_wp2_with (go_at_call 57; refine HF.out.mono ?_; rintro e w' ⟨v, rfl, _, hb⟩)
  go_ret
  exact ⟨rfl, hb⟩

set_option maxRecDepth 10000 in
set_option maxHeartbeats 2000000 in
theorem copyHist (xs : List Txn) (A : Option Addr) (c : Nat) (w : World) (h6 : xs.length ≤ 6) (hn : ∀ x ∈ xs, x.Ops.length ≤ 1048576) (hA : Row tTxn w (Old w) A xs) :
    Calls Tryd.prog 75 #[.slice A xs.length c] w fun e w' => ∃ v, e = .returned v ∧ FreshTxns w w' xs v ∧ Below w.heap.size w w' := by
  obtain ⟨i0, hi, hz0, hz1, hz2⟩ := info_parts infoTxn_
  have HA := hide hA
  have HN := hide hn
  have hmk : ∀ W : World, (Instr.makeSlice 23 (.int .i64 0) (.int .i64 (xs.length : Int))).run Tryd.prog W = .ok (.slice (some ⟨W.heap.size, 0, none⟩) 0 xs.length) (W.alloc (.cells (madeCells (Value.cells (.agg #[.int .i64 0, .slice none 0 0, .bool false])) (xs.length * 3)) 42)) := fun W => by
    have h := run_make_rowN (P := Tryd.prog) 23 42 i0 _ Tryd.underlying23 hi hz0 .i64 .i64 0 xs.length (Nat.zero_le _) (by rw [hz2]; omega) (by omega) W
    rw [hz1] at h
    exact h
  have HO0 : Hid (NewTxns w.heap.size (w.alloc (.cells (madeCells (Value.cells (.agg #[.int .i64 0, .slice none 0 0, .bool false])) (xs.length * 3)) 42)) (xs.take 0) (.slice (some ⟨w.heap.size, 0, none⟩) 0 xs.length) []) :=
    ⟨rfl, Own.made w _ xs.length (by rw [size_madeCells]; rfl) (by simp only [maxLen]; omega) ⟨Nat.le_refl _, by simp [Old]⟩, List.Pairwise.nil, fun p hp => by cases hp⟩
  clear hA hn
  go_enter Tryd.func75, Tryd.ntmps75
  go_wp2_with fail
  clear hmk
  go_loopw [3, 5, 11] (fun v _ i wr => ∃ (k : Nat) (ps : List (Txn × Nat)), k ≤ xs.length ∧ i = .int .i64 k ∧ Hid (NewTxns w.heap.size wr (xs.take k) v ps) ∧ Below w.heap.size w wr) (fun _ _ i _ => xs.length - (intOf i).toNat)
  case atStart => exact ⟨0, [], Nat.zero_le _, rfl, HO0.out, (Below.refl _ w).alloc (Nat.le_refl _) _⟩
  case round =>
    obtain ⟨k, ps, hk, rfl, hO, hb⟩ := hrel
    clear HO0
    by_cases hlt : k < xs.length
    · obtain ⟨b, off, A3, c3, rfl, hbS, d0, d1, d3, hj1, hj2, hj3⟩ := at_Txn HA.out hb hlt
      have HC := hide (copyTxn xs[k] A3 c3 (wr.alloc (.cells #[.int .i64 xs[k].Session, .slice A3 xs[k].Ops.length c3, .bool xs[k].Done] 42)) (HN.out _ (List.getElem_mem hlt)) (hj3.old ((Below.refl _ _).alloc (Nat.le_refl _) _)))
      have HB := hide hb
      have HL := hide (own_lt (B := wr.heap.size) hO.out.2.1 (fun b h => h.2))
      have HS := hide (take_snoc' xs k hlt)
      have HP := hide hO.out
      have hpl := congrArg List.length hO.out.1
      rw [List.length_map, List.length_take] at hpl
      have hps : ps.length ≤ 6 := by omega
      clear hj1 hj2 hj3 hb hO hbS hpl
      go_wp2_with (first | (go_at_call 109; refine HC.out.mono ?_; rintro e w3 ⟨v3, g3, rfl, hH3, hg3, hb3⟩; obtain ⟨A4, c4, hv4, hc4, hm4, _⟩ := id hH3; subst hv4; have HH3 := hide hH3; have HG3 := hide hg3; have HB3 := hide (((Below.refl _ wr).alloc (Nat.le_refl _) (.cells #[.int .i64 xs[k].Session, .slice A3 xs[k].Ops.length c3, .bool xs[k].Done] 42)).trans (hb3.mono (by simp))); clear hH3 hg3 hb3) | (at_builtin; refine wpList_put (tTxnB 71) rfl (.tmp 15) (.tmp 18) 23 rfl 42 i0 _ 40 Tryd.underlying23 hi hz0 hz1 hz2 rfl (by decide) (fun b => w.heap.size ≤ b) (New (wr.alloc (.cells #[.int .i64 xs[k].Session, .slice A3 xs[k].Ops.length c3, .bool xs[k].Done] 42)) w3) ps (xs[k], g3) [.int .i64 xs[k].Session, .slice A4 xs[k].Ops.length c4, .bool xs[k].Done] _ rfl (HP.out.2.1.onlyBelow HB3.out) 1 rfl ⟨_, rfl, HH3.out⟩ (fun b h => ⟨by have := HB.out.size; have h1 := h.1; simp at h1; omega, h.2, fun e => by have := HL.out b e; have h1 := h.1; simp at h1; omega⟩) (fun b hb => Nat.le_trans (Nat.le_trans HB.out.size HB3.out.size) hb) (by simp only [maxLen]; omega) (by omega) ?_; intro v7 w7 hO_ hK_; have HO8 := hide hO_; have HK8 := hide hK_; clear hO_ hK_))
      go_roundw
      case rel =>
        refine ⟨k + 1, ps ++ [(xs[k], g3)], by omega, by go_num, ⟨by rw [HS.out, List.map_append, HP.out.1]; rfl, HO8.out, HP.out.2.2.1.snoc (fun q hq => by have := HP.out.2.2.2 q hq; have h1 := HG3.out.1; simp at h1; show q.2 < g3; omega), fun p hp => ?_⟩, below_only (HB.out.trans (HB3.out.mono HB.out.size)) HK8.out (Nat.le_trans HB.out.size HB3.out.size) (fun _ h => h)⟩
        rcases List.mem_append.1 hp with hp | hp
        · have := HP.out.2.2.2 p hp; have := HB3.out.size; have := HK8.out.size; omega
        · simp at hp; subst hp; have := HG3.out.2; have := HK8.out.size; show g3 < _; omega
      case measure => simp [intOf]; omega
    · obtain rfl : k = xs.length := by omega
      have HP := hide hO.out
      have HB := hide hb
      clear hO hb
      go_wp2_with fail
      go_ret
      obtain ⟨g, hg, _⟩ := HP.out.2.1.hold
      exact ⟨_, rfl, ⟨ps, g, by rw [HP.out.1, List.take_length], hg.mono (fun b h => h) (fun _ _ => rfl), HP.out.2.2.1⟩, HB.out⟩

theorem HoldT.nil {w : World} {S : Nat → Prop} : HoldT w S [] (.slice none 0 0) := ⟨[], 0, rfl, Hold.nil 0, List.Pairwise.nil⟩
set_option maxRecDepth 10000 in
set_option maxHeartbeats 2000000 in
theorem implShrinkBad (xs : List Txn) (A : Option Addr) (c : Nat) (w : World) (hm : xs.length ≤ maxLen) (hA : Row tTxn w (Old w) A xs) :
    Calls Tryd.prog 25 #[.slice A xs.length c] w fun e w' => ∃ v, e = .returned (.tuple #[v, .bool (badB xs)]) ∧ HoldT w' (New w w') (badR xs) v ∧ Below w.heap.size w w' := by
  have HH := hide (implHistoryValid xs A c w hm hA)
  have HA := hide hA
  clear hA hm
  cases hv : histV xs with
  | false =>
    have HB := hide (show badB xs = false by unfold badB; rw [hv]; rfl)
    have HR := hide (show badR xs = [] by unfold badR; rw [HB.out]; rfl)
    rw [hv] at HH
    clear hv
    go_enter Tryd.func25, Tryd.ntmps25
    go_wp2_with (go_at_call 18; refine HH.out.mono ?_; rintro e w' ⟨rfl, hb'⟩)
    go_ret2
    exact ⟨_, by rw [HB.out]; rfl, by rw [HR.out]; exact HoldT.nil, hb'⟩
  | true =>
    have HSe := hide (fun (W : World) (hb : Below w.heap.size w W) => serial_any xs A c W hv (HA.out.old hb))
    obtain ⟨h6, ho6, _⟩ := hist_small hv
    cases hs : serX xs with
    | true =>
      have HB := hide (show badB xs = false by unfold badB; rw [hv, hs]; rfl)
      have HR := hide (show badR xs = [] by unfold badR; rw [HB.out]; rfl)
      unfold serX at hs
      rw [hs] at HSe
      rw [hv] at HH
      clear hv hs
      go_enter Tryd.func25, Tryd.ntmps25
      go_wp2_with (first | (go_at_call 18; refine HH.out.mono ?_; rintro e w1 ⟨rfl, hb1⟩; have HB1 := hide hb1; clear hb1) | (go_at_call 74; refine (HSe.out _ HB1.out).mono ?_; rintro e w2 ⟨rfl, hb2⟩; have HB2 := hide (HB1.out.trans (hb2.mono HB1.out.size)); clear hb2))
      go_ret2
      exact ⟨_, by rw [HB.out]; rfl, by rw [HR.out]; exact HoldT.nil, HB2.out⟩
    | false =>
      have HB := hide (show badB xs = true by unfold badB; rw [hv, hs]; rfl)
      have HR := hide (show badR xs = shrT xs xs.length by unfold badR; rw [HB.out]; rfl)
      have HCp := hide (fun (W : World) (hb : Below w.heap.size w W) => copyHist xs A c W h6 (fun x hx => by have := ho6 x hx; omega) (HA.out.old hb))
      have HV := hide (shr_valid hv)
      unfold serX at hs
      rw [hs] at HSe
      rw [hv] at HH
      clear hv hs ho6
      go_enter Tryd.func25, Tryd.ntmps25
      go_wp2_with (first | (go_at_call 18; refine HH.out.mono ?_; rintro e w1 ⟨rfl, hb1⟩; have HB1 := hide hb1; clear hb1) | (go_at_call 74; refine (HSe.out _ HB1.out).mono ?_; rintro e w2 ⟨rfl, hb2⟩; have HB2 := hide (HB1.out.trans (hb2.mono HB1.out.size)); clear hb2) | (go_at_call 75; refine (HCp.out _ HB2.out).mono ?_; rintro e w3 ⟨v3, rfl, hF3, hb3⟩; have HF3 := hide (hF3.holdT.mono (S' := In w.heap.size w3.heap.size) (fun b h => ⟨Nat.le_trans HB2.out.size h.1, h.2⟩) (fun _ _ => rfl)); have HB3 := hide (HB2.out.trans (hb3.mono HB2.out.size)); clear hF3 hb3))
      go_loopw [4, 5, 6] (fun v n _ wr => ∃ (j : Nat) (z : Int), j ≤ xs.length ∧ z = (xs.length : Int) - 1 - (j : Int) ∧ n = .int .i64 z ∧ Hid (HoldT wr (In w.heap.size wr.heap.size) (shrT xs j) v) ∧ Hid (Below w.heap.size w wr)) (fun _ n _ _ => (intOf n + 1).toNat)
      case atStart => exact ⟨0, (xs.length : Int) - 1, Nat.zero_le _, by omega, by go_num, HF3.out, HB3.out⟩
      case round =>
        obtain ⟨j, z, hj, hz, rfl, hH, hb⟩ := hrel
        by_cases hlt : j < xs.length
        · obtain ⟨m, rfl⟩ : ∃ m : Nat, z = (m : Int) := ⟨xs.length - 1 - j, by omega⟩
          have hmj : m = xs.length - 1 - j := by omega
          have HLn := hide (shr_len (xs := xs) j hj)
          have hml : m < (shrT xs j).length := by have := HLn.out; omega
          have HSh := hide (show shrT xs (j + 1) = shrStep (shrT xs j) m by rw [hmj]; rfl)
          have HVj := hide (HV.out j)
          have HVd := hide (dropL_valid (HV.out j) m)
          have Hb := hide hb.out
          have HHd := hide hH.out
          obtain ⟨A2, c2, rfl, h21, h22, hR2⟩ := hH.out.sl
          have HR2 := hide (show Row tTxn wr (Old wr) A2 (shrT xs j) from fun hp => Row.mono (w' := wr) (S' := Old wr) hR2 (fun b h => h.2) (fun _ _ => rfl) hp)
          generalize shrT xs j = T at *
          have HDr := hide (dropped_any T m A2 c2 wr hml HVj.out HR2.out)
          have hz1 : (m : Int) - 1 = (xs.length : Int) - 1 - ((j + 1 : Nat) : Int) := by omega
          have Hz1 := hide hz1
          have hm6 : m ≤ 6 := by omega
          clear hH hb hR2 hmj hz1 hz
          cases hs : serX (dropL T m) with
          | true =>
            have HN := hide (show shrT xs (j + 1) = T from HSh.out.trans (shrStep_t hs))
            have Hs := hide (show (serF (dropL T m)).isSome = true from hs)
            clear hs
            go_wp2_with (first | (go_at_call 50; refine HDr.out.mono ?_; rintro e w4 ⟨v4, rfl, hF4, hb4⟩; obtain ⟨A4, c4, rfl, h41, h42, hR4⟩ := hF4.sl; have HR4 := hide hR4; have HB4 := hide hb4; clear hF4 hb4 hR4) | (go_at_call 74; refine (serial_any _ A4 c4 w4 HVd.out HR4.out).mono ?_; rw [Hs.out]; rintro e w5 ⟨rfl, hb5⟩; have HB5 := hide (HB4.out.trans (hb5.mono HB4.out.size)); clear hb5))
            go_roundw
            case rel => exact ⟨j + 1, (m : Int) - 1, hlt, Hz1.out, by go_num, by rw [HN.out]; exact HHd.out.mono (fun b h => ⟨h.1, Nat.lt_of_lt_of_le h.2 HB5.out.size⟩) (fun b h => HB5.out.block b h.2), Hb.out.trans (HB5.out.mono Hb.out.size)⟩
            case measure => simp [intOf]
          | false =>
            have HN := hide (show shrT xs (j + 1) = dropL T m from HSh.out.trans (shrStep_f hs))
            have Hs := hide (show (serF (dropL T m)).isSome = false from hs)
            clear hs
            go_wp2_with (first | (go_at_call 50; refine HDr.out.mono ?_; rintro e w4 ⟨v4, rfl, hF4, hb4⟩; obtain ⟨A4, c4, rfl, h41, h42, hR4⟩ := hF4.sl; have HF4 := hide hF4.holdT; have HR4 := hide hR4; have HB4 := hide hb4; clear hF4 hb4 hR4) | (go_at_call 74; refine (serial_any _ A4 c4 w4 HVd.out HR4.out).mono ?_; rw [Hs.out]; rintro e w5 ⟨rfl, hb5⟩; have HB5 := hide (HB4.out.trans (hb5.mono HB4.out.size)); have HBy := hide hb5; clear hb5))
            go_roundw
            case rel => exact ⟨j + 1, (m : Int) - 1, hlt, Hz1.out, by go_num, by rw [HN.out]; exact HF4.out.mono (fun b h => ⟨Nat.le_trans Hb.out.size h.1, Nat.lt_of_lt_of_le h.2 HBy.out.size⟩) (fun b h => HBy.out.block b h.2), Hb.out.trans (HB5.out.mono Hb.out.size)⟩
            case measure => simp [intOf]
        · obtain rfl : j = xs.length := by omega
          obtain rfl : z = -1 := by omega
          have HHd := hide hH.out
          have Hb := hide hb.out
          clear hH hb hz
          go_wp2_with fail
          go_ret2
          exact ⟨_, by rw [HB.out]; rfl, by rw [HR.out]; exact HHd.out, Hb.out⟩
end Go.Proofs.YtaaagoppecnmmaaDoor
