/- The reference's search for the first right schedule: l13Find, FindSnapshot. -/
import Derived.Test.YtaaagoppecnmmaaDoorHold
import Derived.Test.YtaaagoppecnmmaaDoorSnapS
namespace Go.Proofs.YtaaagoppecnmmaaDoor
open Go.RowKit
set_option linter.unusedVariables false
set_option linter.unusedSimpArgs false

def stepS (h : List Txn) (f : Nat) (p : List Int) (d : Int) : Option (List Int) := if p.count d = 2 then none else dfsS h f (p ++ [d])
theorem dfsS_false {h : List Txn} {p : List Int} (hr : l13R h p = false) : ∀ f, dfsS h f p = none
  | 0 => by rw [dfsS, hr]; rfl
  | f + 1 => by rw [dfsS, hr]; rfl
set_option maxRecDepth 10000 in
set_option maxHeartbeats 4000000 in
theorem find13_any (h : List Txn) (A : Option Addr) (c : Nat) (hv : histV h = true) (D : List Int) (hD : D = doneL h) (n : Nat) : ∀ (pre : List Int) (B C : Option Addr) (d f : Nat) (w : World) (lo : Nat), 2 * D.length = pre.length + n →
    (∀ x ∈ pre, 0 ≤ x ∧ x < h.length) → pre.length ≤ d → d ≤ maxLen → D.length ≤ f → f ≤ maxLen → lo ≤ w.heap.size → Row tTxn w (Old w) A h → Row tInt w (In lo w.heap.size) B pre → Row tInt w (Old w) C D →
    Calls Tryd.prog 85 #[.slice A h.length c, .slice C D.length f, .slice B pre.length d] w (FindPost (dfsS h n pre) lo w) := by
  obtain ⟨i0, hi, hz0, hz1, hz2⟩ := info_parts infoInt_
  have eg := enters_of Tryd.func85 (by kernel_rfl) rfl
  have hD6 : D.length ≤ 6 := by rw [hD]; exact Nat.le_trans (doneI_len h _) (histV_parts hv).1
  have HDi := hide (fun x (hx : x ∈ D) => doneI_mem h _ x (hD ▸ hx))
  have HDe := hide hD
  clear hD
  induction n with
  | zero =>
    intro pre B C d f w lo hn hpi hpd hdm hrf hfm hlo hA hB hC
    have HRu := hide (specRuns13 h pre A B c d w hv (by omega) hpd hdm hpi hA (hB.mono (fun b hb => hb.2) (fun _ _ => rfl)))
    have HB := hide hB
    have hl0 : ((pre.length : Int) == 2 * (D.length : Int)) = true := by rw [beq_iff_eq]; omega
    unfold maxLen at hdm hfm
    clear hA hB hC hpi hn
    cases hr : l13R h pre with
    | false =>
      have HL := hide (dfsS_false hr 0)
      rw [hr] at HRu
      clear hr
      go_enter Tryd.func85, Tryd.ntmps85
      go_wp2_with (go_at_call 83; refine HRu.out.mono ?_; rintro e w1 ⟨rfl, hb1⟩; have HB1 := hide hb1; clear hb1)
      go_ret2
      unfold FindPost
      rw [HL.out]
      exact ⟨_, rfl, Sl.zero_, HB1.out.trans ((Below.refl _ _).alloc (Nat.le_refl _) _ |>.mono HB1.out.size)⟩
    | true =>
      have HL := hide (show dfsS h 0 pre = some pre by rw [dfsS, hr]; rfl)
      rw [hr] at HRu
      clear hr
      go_enter Tryd.func85, Tryd.ntmps85
      go_wp2_with (go_at_call 83; refine HRu.out.mono ?_; rintro e w1 ⟨rfl, hb1⟩; have HB1 := hide hb1; clear hb1)
      go_ret2
      unfold FindPost
      rw [HL.out]
      exact ⟨_, rfl, ⟨B, d, rfl, hpd, by simp only [maxLen]; omega, HB.out.mono (fun b hb => ⟨hb.1, Nat.lt_of_lt_of_le hb.2 HB1.out.size⟩) (fun b hb => HB1.out.block b hb.2)⟩, HB1.out⟩
  | succ n ih =>
    intro pre B C d f w lo hn hpi hpd hdm hrf hfm hlo hA hB hC
    have HRu := hide (specRuns13 h pre A B c d w hv (by omega) hpd hdm hpi hA (hB.mono (fun b hb => hb.2) (fun _ _ => rfl)))
    have HA := hide hA; have HB := hide hB; have HC := hide hC
    have HPi := hide hpi
    have hl0 : ((pre.length : Int) == 2 * (D.length : Int)) = false := by rw [beq_eq_false_iff_ne]; omega
    have hdm' := hide hdm; have hfm' := hide hfm
    have HCn := hide (fun (W : World) (x : Int) (hb : Below w.heap.size w W) => l13Count_pure pre x B d W (by simp only [maxLen]; omega) ((hB.mono (fun b hb => hb.2) (fun _ _ => rfl)).old hb))
    unfold maxLen at hdm hfm
    have Hn := hide hn
    have hp6 : pre.length ≤ 12 := by omega
    clear hA hB hC hpi hn
    cases hr : l13R h pre with
    | false =>
      have HL := hide (dfsS_false hr (n + 1))
      rw [hr] at HRu
      clear hr
      go_enter Tryd.func85, Tryd.ntmps85
      go_wp2_with (go_at_call 83; refine HRu.out.mono ?_; rintro e w1 ⟨rfl, hb1⟩; have HB1 := hide hb1; clear hb1)
      go_ret2
      unfold FindPost
      rw [HL.out]
      exact ⟨_, rfl, Sl.zero_, HB1.out.trans ((Below.refl _ _).alloc (Nat.le_refl _) _ |>.mono HB1.out.size)⟩
    | true =>
      have HL := hide (show dfsS h (n + 1) pre = D.findSome? (stepS h n pre) by rw [dfsS, hr, HDe.out]; rfl)
      rw [hr] at HRu
      clear hr
      go_enter Tryd.func85, Tryd.ntmps85
      go_wp2_with (go_at_call 83; refine HRu.out.mono ?_; rintro e w1 ⟨rfl, hb1⟩; have HB1 := hide hb1; clear hb1)
      go_loopw [8, 9, 10] (fun i _ _ wr => ∃ k : Nat, k ≤ D.length ∧ i = .int .i64 k ∧ Hid ((D.take k).findSome? (stepS h n pre) = none) ∧ Hid (Below w.heap.size w wr)) (fun i _ _ _ => D.length - (intOf i).toNat)
      case atStart => exact ⟨0, Nat.zero_le _, rfl, rfl, HB1.out⟩
      case round =>
        obtain ⟨k, hk, rfl, hN, hb0⟩ := hrel
        have hb := hb0.out
        by_cases hlt : k < D.length
        · have HFt := hide (find_take_some _ D k hlt hN.out)
          obtain ⟨b, off, rfl, hbS, hcx⟩ := at_Int HC.out hb hlt
          have Hb := hide hb
          have HLb := hide hbS
          have HCx := hide (HCn.out wr D[k] hb)
          have HStp := hide (show stepS h n pre D[k] = if pre.count D[k] = 2 then none else dfsS h n (pre ++ [D[k]]) from rfl)
          by_cases hc2 : pre.count D[k] = 2
          · have hci : (((pre.count D[k] : Nat) : Int) == 2) = true := by rw [beq_iff_eq]; omega
            have HG := hide (HFt.out.1 (HStp.out.trans (if_pos hc2)))
            clear hc2 hb hb0 hN
            go_wp2_with (go_at_call 81; refine HCx.out.mono ?_; rintro e w' ⟨rfl, rfl⟩)
            go_roundw
            case rel => exact ⟨k + 1, by omega, by go_num, HG.out, Hb.out⟩
            case measure => simp [intOf]; omega
          have hci : (((pre.count D[k] : Nat) : Int) == 2) = false := by rw [beq_eq_false_iff_ne]; omega
          have HStp := hide (HStp.out.trans (if_neg hc2))
          clear hc2 hN hb0
          go_upto_region 9 with (go_at_call 81; refine HCx.out.mono ?_; rintro e w' ⟨rfl, rfl⟩)
          obtain ⟨w4, hw4⟩ : ∃ w4, w4 = wr := ⟨_, rfl⟩
          rw [← hw4] at hb Hb hcx ⊢
          clear hw4
          have HB4 := hide hb
          have hzb : b < w4.heap.size := Nat.lt_of_lt_of_le HLb.out HB4.out.size
          have HI := hide (fun (v9 : Value) (w9 : World) (hx : XOne 3 w4 w9 (pre ++ [D[k]]) v9) => show Calls Tryd.prog 85 #[.slice A h.length c, .slice (some ⟨b, off, none⟩) D.length f, v9] w9 (FindPost (dfsS h n (pre ++ [D[k]])) w4.heap.size w9) from by
            obtain ⟨h1, h2⟩ := hx
            obtain ⟨A9, c9, rfl, h91, h92, hR9⟩ := h1.sl
            exact ih (pre ++ [D[k]]) A9 (some ⟨b, off, none⟩) c9 f w9 w4.heap.size (by rw [List.length_append, List.length_singleton]; have := Hn.out; omega)
              (fun x hx => by rcases List.mem_append.1 hx with hx | hx; exact HPi.out x hx; rw [List.mem_singleton] at hx; subst hx; exact HDi.out _ (List.getElem_mem hlt))
              h91 h92 hrf hfm'.out h2.size (HA.out.old (HB4.out.trans (h2.mono HB4.out.size))) (hR9.mono (fun b h => h) (fun _ _ => rfl)) (HC.out.old (HB4.out.trans (h2.mono HB4.out.size))))
          clear hb
          have HRb := hide (HB.out.mono (w' := w4) (S' := Old w4) (fun b h => Nat.lt_of_lt_of_le h.2 HB4.out.size) (fun b h => HB4.out.block b h.2))
          have HE1 := hide (Own.empty (T := tInt) (e := 3) w4.drew (fun b => w4.heap.size ≤ b ∧ True) ⟨Nat.le_refl _, trivial⟩)
          have HE2 := hide (Own.emptyAt (T := tInt) (S := fun b => (w4.heap.size ≤ b ∧ b ≠ w4.heap.size + 1) ∧ Old ((w4.drew.alloc (.cells #[] 3)).alloc (.cells #[.int .i64 D[k]] 3)) b) ((Blk.new w4.drew 3 #[]).alloc (.cells #[.int .i64 D[k]] 3)) ⟨⟨Nat.le_refl _, by simp⟩, by simp [Old]; omega⟩)
          have HE3 := hide (Own.emptyAt (T := tInt) (p := w4.heap.size + 1) (S := fun b => (w4.heap.size ≤ b ∧ b ≠ w4.heap.size) ∧ Old ((w4.drew.alloc (.cells #[.int .i64 D[k]] 3)).alloc (.cells #[] 3)) b) (show Blk ((w4.drew.alloc (.cells #[.int .i64 D[k]] 3)).alloc (.cells #[] 3)) (w4.heap.size + 1) 3 #[] by have := Blk.new (w4.drew.alloc (.cells #[.int .i64 D[k]] 3)) 3 #[]; simpa using this) ⟨⟨by omega, by omega⟩, by simp [Old]⟩)
          have Hq2 : Hid (Blk ((w4.drew.alloc (.cells #[] 3)).alloc (.cells #[.int .i64 D[k]] 3)) (w4.heap.size + 1) 3 #[.int .i64 D[k]]) := hide (by have := Blk.new (w4.drew.alloc (.cells #[] 3)) 3 #[.int .i64 D[k]]; simpa using this)
          have Hq3 := hide (show Blk ((w4.drew.alloc (.cells #[.int .i64 D[k]] 3)).alloc (.cells #[] 3)) w4.heap.size 3 #[.int .i64 D[k]] from (Blk.new w4.drew 3 #[.int .i64 D[k]]).alloc (.cells #[] 3))
          have HWa := hide (show Below w4.heap.size w4 (w4.drew.alloc (.cells #[] 3)) from (Below.refl _ w4).drew.alloc (by simp) _)
          have HWb := hide (show Below w4.heap.size w4 ((w4.drew.alloc (.cells #[] 3)).alloc (.cells #[.int .i64 D[k]] 3)) from ((Below.refl _ w4).drew.alloc (by simp) _).alloc (by simp) _)
          have HWc := hide (show Below w4.heap.size w4 ((w4.drew.alloc (.cells #[.int .i64 D[k]] 3)).alloc (.cells #[] 3)) from ((Below.refl _ w4).drew.alloc (by simp) _).alloc (by simp) _)
          have HRb1 := hide ((HRb.out.mono (w' := w4.drew.alloc (.cells #[] 3)) (S' := fun _ => True) (fun _ _ => trivial) (fun b hb => HWa.out.block b hb)).anyInt)
          have HRb2 := hide ((HRb.out.mono (w' := (w4.drew.alloc (.cells #[] 3)).alloc (.cells #[.int .i64 D[k]] 3)) (S' := fun _ => True) (fun _ _ => trivial) (fun b hb => HWb.out.block b hb)).anyInt)
          have HRb3 := hide ((HRb.out.mono (w' := (w4.drew.alloc (.cells #[.int .i64 D[k]] 3)).alloc (.cells #[] 3)) (S' := fun _ => True) (fun _ _ => trivial) (fun b hb => HWc.out.block b hb)).anyInt)
          go_region_law (first | (refine wp_fn 85 _ (by simp [execOp, resolve, invoke, Act.eval, Act.put, eg]; rfl) (HI.out _ _ HX9.out) ?_; rintro e w10 ⟨v10, rfl, hS_, hb_⟩; refine ⟨_, rfl, ?_⟩; have HS10 := hide hS_; have HB10 := hide hb_; clear hS_ hb_) | (refine wp_cat tInt (.tmp 41) (.tmp 46) 30 rfl 3 i0 _ 8 Tryd.underlying30 hi hz0 hz1 hz2 rfl (by decide) (fun b => w4.heap.size ≤ b ∧ b ≠ w4.heap.size + 1) (fun _ => False) ([] ++ pre) [D[k]] _ (by simp [Act.eval, Act.put]) HO82.out _ 1 1 (by simp [Act.eval, Act.put]) rfl (rowOne (Hq2.out.of (HK82.out.block _ (by simp <;> omega) (fun h => h.2 rfl)))) (fun _ h => h.elim) (fun b hb => by have := HK82.out.size; simp at this; omega) (by simp only [maxLen, List.nil_append, List.length_singleton]; omega) (by simp only [List.nil_append, List.length_singleton]; omega) ?_; intro v9 w9 hO_ hK_; have HX9 := hide (one_way hO_ HWb.out HK82.out hK_); clear hO_ hK_) | (refine wp_cat tInt (.tmp 41) (.tmp 46) 30 rfl 3 i0 _ 8 Tryd.underlying30 hi hz0 hz1 hz2 rfl (by decide) (fun b => w4.heap.size ≤ b ∧ b ≠ w4.heap.size) (fun _ => False) ([] ++ pre) [D[k]] _ (by simp [Act.eval, Act.put]) HO83.out _ 1 1 (by simp [Act.eval, Act.put]) rfl (rowOne (Hq3.out.of (HK83.out.block _ (by simp <;> omega) (fun h => h.2 rfl)))) (fun _ h => h.elim) (fun b hb => by have := HK83.out.size; simp at this; omega) (by simp only [maxLen, List.nil_append, List.length_singleton]; omega) (by simp only [List.nil_append, List.length_singleton]; omega) ?_; intro v9 w9 hO_ hK_; have HX9 := hide (one_way hO_ HWc.out HK83.out hK_); clear hO_ hK_) | (refine wp_put tInt (.tmp 41) (.tmp 46) 30 rfl 3 i0 _ 8 Tryd.underlying30 hi hz0 hz1 hz2 rfl (by decide) (fun b => w4.heap.size ≤ b ∧ True) (fun _ => False) ([] ++ pre) D[k] _ _ (by simp [Act.eval, Act.put]) HO81.out 1 (by simp [Act.eval, Act.put]) rfl (fun _ h => h.elim) (fun b hb => ⟨Nat.le_trans (by have := HK81.out.size; simp at this; omega) hb, trivial⟩) (by simp only [maxLen, List.nil_append]; omega) (by simp only [List.nil_append]; omega) ?_; intro v9 w9 hO_ hK_; have HX9 := hide (one_way hO_ HWa.out HK81.out hK_); clear hO_ hK_) | (refine wp_cat tInt (.tmp 39) (.tmp 40) 30 rfl 3 i0 _ 8 Tryd.underlying30 hi hz0 hz1 hz2 rfl (by decide) (fun b => w4.heap.size ≤ b ∧ b ≠ w4.heap.size + 1) (fun _ => False) [] pre _ rfl HE2.out _ pre.length d (by simp [Act.eval, Act.put]) rfl HRb2.out (fun _ h => h.elim) (fun b hb => by simp at hb; omega) (by simp only [maxLen, List.length_nil]; omega) (by simp only [List.length_nil]; omega) ?_; intro v8 w8 hO_ hK_; have HO82 := hide hO_; have HK82 := hide hK_; have hc8 := ((below_only HWb.out hK_ HWb.out.size (fun b h => h.1)).cell (p := ⟨b, off + k, none⟩) hzb).trans hcx; clear hO_ hK_) | (refine wp_cat tInt (.tmp 39) (.tmp 40) 30 rfl 3 i0 _ 8 Tryd.underlying30 hi hz0 hz1 hz2 rfl (by decide) (fun b => w4.heap.size ≤ b ∧ b ≠ w4.heap.size) (fun _ => False) [] pre _ rfl HE3.out _ pre.length d (by simp [Act.eval, Act.put]) rfl HRb3.out (fun _ h => h.elim) (fun b hb => by simp at hb; omega) (by simp only [maxLen, List.length_nil]; omega) (by simp only [List.length_nil]; omega) ?_; intro v8 w8 hO_ hK_; have HO83 := hide hO_; have HK83 := hide hK_; have hc8 := ((below_only HWc.out hK_ HWc.out.size (fun b h => h.1)).cell (p := ⟨b, off + k, none⟩) hzb).trans hcx; clear hO_ hK_) | (refine wp_cat tInt (.tmp 39) (.tmp 40) 30 rfl 3 i0 _ 8 Tryd.underlying30 hi hz0 hz1 hz2 rfl (by decide) (fun b => w4.heap.size ≤ b ∧ True) (fun _ => False) [] pre _ rfl HE1.out _ pre.length d (by simp [Act.eval, Act.put]) rfl HRb1.out (fun _ h => h.elim) (fun b hb => ⟨Nat.le_trans (by simp) hb, trivial⟩) (by simp only [maxLen, List.length_nil]; omega) (by simp only [List.length_nil]; omega) ?_; intro v8 w8 hO_ hK_; have HO81 := hide hO_; have HK81 := hide hK_; have hc8 := ((below_only HWa.out hK_ HWa.out.size (fun b h => h.1)).cell (p := ⟨b, off + k, none⟩) hzb).trans hcx; clear hO_ hK_))
          all_goals
            have HBr := hide (Hb.out.trans ((HX9.out.2.trans (HB10.out.mono HX9.out.2.size)).mono Hb.out.size))
            cases hl : dfsS h n (pre ++ [D[k]]) with
            | none =>
              have HG := hide (HFt.out.1 (HStp.out.trans hl))
              rw [hl] at HS10
              clear hl
              go_wp2_with fail
              go_roundw
              case rel => exact ⟨k + 1, by omega, by go_num, HG.out, HBr.out⟩
              case measure => simp [intOf]; omega
            | some y =>
              have HG := hide (HL.out.trans (HFt.out.2 y (HStp.out.trans hl)))
              rw [hl] at HS10
              clear hl
              go_wp2_with fail
              go_ret2
              unfold FindPost
              rw [HG.out]
              exact ⟨_, rfl, HS10.out.mono (fun b h => ⟨Nat.le_trans hlo (Nat.le_trans HB4.out.size h.1), h.2⟩) (fun _ _ => rfl), HBr.out⟩
        · obtain rfl : k = D.length := by omega
          have HLn2 := hide (show dfsS h (n + 1) pre = none by rw [HL.out]; have := hN.out; rwa [List.take_length] at this)
          have Hb := hide hb
          clear hN hb0 hb
          go_wp2_with fail
          go_ret2
          unfold FindPost
          rw [HLn2.out]
          exact ⟨_, rfl, Sl.zero_, Hb.out.trans ((Below.refl _ _).alloc (Nat.le_refl _) _ |>.mono Hb.out.size)⟩
end Go.Proofs.YtaaagoppecnmmaaDoor
