/- The reference's search for the first serial order: l12Find, FindSerial. The reference's FindSerial: the first right serial order. The two SerialRight. All valid orders of a history; verdicts: what they say together. Plain laws. -/
import Derived.Test.YtjiobgfaohldhaaGreatQNest2
import Derived.Test.YtjiobgfaohldhaaGreatQDone
import Derived.Test.YtjiobgfaohldhaaGreatQAllF
import Derived.Test.YtjiobgfaohldhaaGreatQContC
import Derived.Test.YtjiobgfaohldhaaGreatQOrdS
import Derived.Test.YtjiobgfaohldhaaGreatQSnapN
import Derived.Test.YtjiobgfaohldhaaGreatQGraph
import Derived.Laws.AppendOwn
import Derived.ArgAppend
import Derived.Deep.RegionLaw
namespace Go.Proofs.YtjiobgfaohldhaaGreat
open Go.RowKit
set_option linter.unusedVariables false
set_option linter.unusedSimpArgs false

def l12F (h : List Txn) (n : Nat) (pre rest : List Int) : Option (List Int) := if runsOK h pre then dfs (runsOK h) n pre rest else none
theorem l12F_succ (h : List Txn) (n : Nat) (pre rest : List Int) (hr : runsOK h pre = true) : l12F h (n + 1) pre rest = rest.findSome? fun x => l12F h n (pre ++ [x]) (rest.erase x) := by
  unfold l12F
  rw [if_pos hr]
  rfl
set_option maxRecDepth 10000 in
set_option maxHeartbeats 4000000 in
theorem find_any (h : List Txn) (A : Option Addr) (c : Nat) (hm : h.length ≤ maxLen) (hok : ∀ t ∈ h, ∀ o ∈ t.Ops, opOk o = true) (n : Nat) : ∀ (pre rest : List Int) (B C : Option Addr) (d f : Nat) (w : World) (lo : Nat), rest.length = n → pre.length + n ≤ 6 → rest.Nodup →
    (∀ x ∈ pre, 0 ≤ x ∧ x < h.length) → (∀ x ∈ rest, 0 ≤ x ∧ x < h.length) → pre.length ≤ d → d ≤ maxLen → rest.length ≤ f → f ≤ maxLen → lo ≤ w.heap.size → Row tTxn w (Old w) A h → Row tInt w (In lo w.heap.size) B pre → Row tInt w (Old w) C rest →
    Calls Tryz.prog 75 #[.slice A h.length c, .slice B pre.length d, .slice C rest.length f] w (FindPost (l12F h n pre rest) lo w) := by
  obtain ⟨i0, hi, hz0, hz1, hz2⟩ := info_parts infoInt_
  have eg := enters_of Tryz.func75 (by kernel_rfl) rfl
  induction n with
  | zero =>
    intro pre rest B C d f w lo hl hn hnd hpi hri hpd hdm hrf hfm hlo hA hB hC
    have HRu := hide (specRuns h pre A B c d w hm (by simp only [maxLen]; omega) hpi hok hA (hB.mono (fun b hb => hb.2) (fun _ _ => rfl)))
    have HB := hide hB
    have hl0 : ((rest.length : Int) == 0) = true := by rw [beq_iff_eq]; omega
    unfold maxLen at hdm hfm
    clear hA hB hC hpi hri
    cases hr : runsOK h pre with
    | false =>
      have HL := hide (show l12F h 0 pre rest = none by unfold l12F; rw [hr]; rfl)
      rw [hr] at HRu
      clear hr
      go_enter Tryz.func75, Tryz.ntmps75
      go_wp2_with (go_at_call 55; refine HRu.out.mono ?_; rintro e w1 ⟨rfl, hb1⟩; have HB1 := hide hb1; clear hb1)
      go_ret2
      unfold FindPost
      rw [HL.out]
      exact ⟨_, rfl, Sl.zero_, HB1.out.trans ((Below.refl _ _).alloc (Nat.le_refl _) _ |>.mono HB1.out.size)⟩
    | true =>
      have HL := hide (show l12F h 0 pre rest = some pre by unfold l12F; rw [hr]; rfl)
      rw [hr] at HRu
      clear hr
      go_enter Tryz.func75, Tryz.ntmps75
      go_wp2_with (go_at_call 55; refine HRu.out.mono ?_; rintro e w1 ⟨rfl, hb1⟩; have HB1 := hide hb1; clear hb1)
      go_ret2
      unfold FindPost
      rw [HL.out]
      exact ⟨_, rfl, ⟨B, d, rfl, hpd, by simp only [maxLen]; omega, HB.out.mono (fun b hb => ⟨hb.1, Nat.lt_of_lt_of_le hb.2 HB1.out.size⟩) (fun b hb => HB1.out.block b hb.2)⟩, HB1.out⟩
  | succ n ih =>
    intro pre rest B C d f w lo hl hn hnd hpi hri hpd hdm hrf hfm hlo hA hB hC
    have HRu := hide (specRuns h pre A B c d w hm (by simp only [maxLen]; omega) hpi hok hA (hB.mono (fun b hb => hb.2) (fun _ _ => rfl)))
    have HA := hide hA; have HB := hide hB; have HC := hide hC
    have HPi := hide hpi; have HRi := hide hri; have HND := hide hnd
    have hl0 : ((rest.length : Int) == 0) = false := by rw [beq_eq_false_iff_ne]; omega
    unfold maxLen at hdm hfm
    have HLn := hide hl
    have Hn := hide hn
    have hr6 : rest.length ≤ 6 := by omega
    have hp6 : pre.length ≤ 6 := by omega
    clear hA hB hC hpi hri hnd hl hn
    cases hr : runsOK h pre with
    | false =>
      have HL := hide (show l12F h (n + 1) pre rest = none by unfold l12F; rw [hr]; rfl)
      rw [hr] at HRu
      clear hr
      go_enter Tryz.func75, Tryz.ntmps75
      go_wp2_with (go_at_call 55; refine HRu.out.mono ?_; rintro e w1 ⟨rfl, hb1⟩; have HB1 := hide hb1; clear hb1)
      go_ret2
      unfold FindPost
      rw [HL.out]
      exact ⟨_, rfl, Sl.zero_, HB1.out.trans ((Below.refl _ _).alloc (Nat.le_refl _) _ |>.mono HB1.out.size)⟩
    | true =>
      have HL := hide (l12F_succ h n pre rest hr)
      rw [hr] at HRu
      clear hr
      go_enter Tryz.func75, Tryz.ntmps75
      go_wp2_with (go_at_call 55; refine HRu.out.mono ?_; rintro e w1 ⟨rfl, hb1⟩; have HB1 := hide hb1; clear hb1)
      go_loopw [8, 9, 10, 11] (fun i _ _ _ wr => ∃ k : Nat, k ≤ rest.length ∧ i = .int .i64 k ∧ Hid ((rest.take k).findSome? (fun x => l12F h n (pre ++ [x]) (rest.erase x)) = none) ∧ Hid (Below w.heap.size w wr)) (fun i _ _ _ _ => rest.length - (intOf i).toNat)
      case atStart => exact ⟨0, Nat.zero_le _, rfl, rfl, HB1.out⟩
      case round =>
        obtain ⟨k, hk, rfl, hN, hb0⟩ := hrel
        have hb := hb0.out
        by_cases hlt : k < rest.length
        · have HFt := hide (find_take_some _ rest k hlt hN.out)
          obtain ⟨b, off, rfl, hbS, hcx⟩ := at_Int HC.out hb hlt
          have hk1 : (k : Int) ≤ (f : Int) := by omega
          have hk2 : (k : Int) + 1 ≤ (rest.length : Int) := by omega
          have hk3 : (0 : Int) ≤ (k : Int) + 1 := by omega
          have HOe := hide (Own.empty (T := tInt) (e := 3) wr.drew (fun b => wr.heap.size ≤ b) (Nat.le_refl _))
          have hRw := (HC.out.old hb).mono (w' := wr.drew.alloc (.cells #[] 3)) (S' := fun _ => True) (fun _ _ => trivial) (fun b hb => Below.heap_alloc _ _ _ hb)
          have HR1 := hide (hRw.takeN k).anyInt
          have HT := hide (show (rest.take k).length = k by rw [List.length_take]; omega)
          have HT2 := hide (show rest.take k ++ rest.drop (k + 1) = rest.erase rest[k] from by rw [← eraseIdx_nodup HND.out k hlt]; exact (List.eraseIdx_eq_take_drop_succ _ _).symm)
          have HD := hide (show (rest.drop (k + 1)).length = rest.length - (k + 1) from List.length_drop)
          obtain ⟨A2, hA2, hrow2⟩ : ∃ A2 : Option Addr, (if f = k + 1 then (some ⟨b, off, none⟩ : Option Addr) else some ⟨b, off + (k + 1), none⟩) = A2 ∧ Row tInt wr (Old wr) A2 (rest.drop (k + 1)) := by
            refine ⟨_, rfl, ?_⟩
            split
            · rw [List.drop_of_length_le (by omega)]; exact Row.nil
            · have := (HC.out.old hb).cut (k + 1)
              simpa [Addr.add, tInt, flat] using this
          have HR2 := hide hrow2
          have HLb := hide hbS
          have Hcx := hide hcx
          clear hRw hrow2 hcx
          have hs : IntKind.i64.wrap ((k : Int) + 1) = (k : Int) + 1 := by rw [IntKind.wrap_i64]; omega
          have Hb := hide hb
          go_upto_region 8 with (fail)
          go_region_law (first | (refine wp_cat tInt (.tmp 27) (.tmp 30) 23 rfl 3 i0 _ 8 Tryz.underlying23 hi hz0 hz1 hz2 rfl (by decide) (fun b => wr.heap.size ≤ b) (fun _ => False) [] (rest.take k) _ rfl HOe.out _ k f (by simp [Act.eval, Act.put]) HT.out.symm HR1.out (fun _ h => h.elim) (fun b hb => Nat.le_trans (by simp) hb) (by rw [HT.out]; simp only [maxLen, List.length_nil]; omega) (by rw [HT.out]; simp only [List.length_nil]; omega) ?_; intro v3 w3 hO_ hK_; have HO3 := hide hO_; have HK3 := hide hK_; clear hO_ hK_) | (refine wp_cat tInt (.tmp 31) (.tmp 35) 23 rfl 3 i0 _ 8 Tryz.underlying23 hi hz0 hz1 hz2 rfl (by decide) (fun b => wr.heap.size ≤ b) (fun _ => False) ([] ++ rest.take k) (rest.drop (k + 1)) _ rfl HO3.out A2 _ (f - (k + 1)) (by simp [Act.eval, Act.put]) HD.out.symm ((HR2.out.mono (w' := w3) (S' := fun _ => True) (fun _ _ => trivial) (fun x hx => (HK3.out.block x (Nat.lt_of_lt_of_le hx (by simp)) (by unfold Old at hx; omega)).trans (Below.heap_alloc _ _ _ hx))).anyInt) (fun _ h => h.elim) (fun b hb => by have := HK3.out.size; simp at this; omega) (by rw [List.nil_append, HT.out, HD.out]; simp only [maxLen]; omega) (by rw [List.nil_append, HT.out, HD.out]; omega) ?_; intro v4 w4 hO_ hK_; have HO4 := hide hO_; have HK4 := hide hK_; clear hO_ hK_))
          have HB41 := hide (show Below wr.heap.size wr w4 from below_only ((Below.refl _ wr).drew.alloc (by simp) (.cells #[] 3)) (HK3.out.trans HK4.out) (by simp) (fun i hi => hi))
          have HB4 := hide (show Below w.heap.size w w4 from Hb.out.trans (HB41.out.mono Hb.out.size))
          have hO4 := HO4.out
          rw [List.nil_append, HT2.out] at hO4
          obtain ⟨A4, c4, rfl, h41, h42, hR4⟩ := hO4.sl
          have HR4 := hide hR4
          have hlen : (rest.erase rest[k]).length = n := by rw [← eraseIdx_nodup HND.out k hlt, List.length_eraseIdx_of_lt hlt]; have := HLn.out; omega
          have HI := hide (fun (v9 : Value) (w9 : World) (hx : XOne 3 w4 w9 (pre ++ [rest[k]]) v9) => show Calls Tryz.prog 75 #[.slice A h.length c, v9, .slice A4 (rest.erase rest[k]).length c4] w9 (FindPost (l12F h n (pre ++ [rest[k]]) (rest.erase rest[k])) w4.heap.size w9) from by
            obtain ⟨h1, h2⟩ := hx
            obtain ⟨A9, c9, rfl, h91, h92, hR9⟩ := h1.sl
            exact ih (pre ++ [rest[k]]) (rest.erase rest[k]) A9 A4 c9 c4 w9 w4.heap.size hlen (by rw [List.length_append, List.length_singleton]; have := Hn.out; omega) (HND.out.erase _)
              (fun x hx => by rcases List.mem_append.1 hx with hx | hx; exact HPi.out x hx; rw [List.mem_singleton] at hx; subst hx; exact HRi.out _ (List.getElem_mem hlt)) (fun x hx => HRi.out x (List.mem_of_mem_erase hx))
              h91 h92 h41 h42 h2.size (HA.out.old (HB4.out.trans (h2.mono HB4.out.size))) (hR9.mono (fun b h => h) (fun _ _ => rfl)) (hR4.mono (fun b h => Nat.lt_of_lt_of_le h.2 h2.size) (fun b h => h2.block b h.2)))
          have hzb : b < w4.heap.size := Nat.lt_of_lt_of_le HLb.out HB4.out.size
          have hcx : w4.cell? ⟨b, off + k, none⟩ = some (.int .i64 rest[k]) := (HB41.out.cell (p := ⟨b, off + k, none⟩) (Nat.lt_of_lt_of_le HLb.out Hb.out.size)).trans Hcx.out
          clear hO4 hlen HO3 HO4 HR1 HR2 HOe hA2 hs hR4
          generalize hE : (rest.erase rest[k]) = E at *
          have HRb := hide (HB.out.mono (w' := w4) (S' := Old w4) (fun b h => Nat.lt_of_lt_of_le h.2 HB4.out.size) (fun b h => HB4.out.block b h.2))
          have HE1 := hide (Own.empty (T := tInt) (e := 3) w4.drew (fun b => w4.heap.size ≤ b ∧ True) ⟨Nat.le_refl _, trivial⟩)
          have HE2 := hide (Own.emptyAt (T := tInt) (S := fun b => (w4.heap.size ≤ b ∧ b ≠ w4.heap.size + 1) ∧ Old ((w4.drew.alloc (.cells #[] 3)).alloc (.cells #[.int .i64 rest[k]] 3)) b) ((Blk.new w4.drew 3 #[]).alloc (.cells #[.int .i64 rest[k]] 3)) ⟨⟨Nat.le_refl _, by simp⟩, by simp [Old]; omega⟩)
          have HE3 := hide (Own.emptyAt (T := tInt) (p := w4.heap.size + 1) (S := fun b => (w4.heap.size ≤ b ∧ b ≠ w4.heap.size) ∧ Old ((w4.drew.alloc (.cells #[.int .i64 rest[k]] 3)).alloc (.cells #[] 3)) b) (show Blk ((w4.drew.alloc (.cells #[.int .i64 rest[k]] 3)).alloc (.cells #[] 3)) (w4.heap.size + 1) 3 #[] by have := Blk.new (w4.drew.alloc (.cells #[.int .i64 rest[k]] 3)) 3 #[]; simpa using this) ⟨⟨by omega, by omega⟩, by simp [Old]⟩)
          have Hq2 : Hid (Blk ((w4.drew.alloc (.cells #[] 3)).alloc (.cells #[.int .i64 rest[k]] 3)) (w4.heap.size + 1) 3 #[.int .i64 rest[k]]) := hide (by have := Blk.new (w4.drew.alloc (.cells #[] 3)) 3 #[.int .i64 rest[k]]; simpa using this)
          have Hq3 := hide (show Blk ((w4.drew.alloc (.cells #[.int .i64 rest[k]] 3)).alloc (.cells #[] 3)) w4.heap.size 3 #[.int .i64 rest[k]] from (Blk.new w4.drew 3 #[.int .i64 rest[k]]).alloc (.cells #[] 3))
          have HWa := hide (show Below w4.heap.size w4 (w4.drew.alloc (.cells #[] 3)) from (Below.refl _ w4).drew.alloc (by simp) _)
          have HWb := hide (show Below w4.heap.size w4 ((w4.drew.alloc (.cells #[] 3)).alloc (.cells #[.int .i64 rest[k]] 3)) from ((Below.refl _ w4).drew.alloc (by simp) _).alloc (by simp) _)
          have HWc := hide (show Below w4.heap.size w4 ((w4.drew.alloc (.cells #[.int .i64 rest[k]] 3)).alloc (.cells #[] 3)) from ((Below.refl _ w4).drew.alloc (by simp) _).alloc (by simp) _)
          have HRb1 := hide ((HRb.out.mono (w' := w4.drew.alloc (.cells #[] 3)) (S' := fun _ => True) (fun _ _ => trivial) (fun b hb => HWa.out.block b hb)).anyInt)
          have HRb2 := hide ((HRb.out.mono (w' := (w4.drew.alloc (.cells #[] 3)).alloc (.cells #[.int .i64 rest[k]] 3)) (S' := fun _ => True) (fun _ _ => trivial) (fun b hb => HWb.out.block b hb)).anyInt)
          have HRb3 := hide ((HRb.out.mono (w' := (w4.drew.alloc (.cells #[.int .i64 rest[k]] 3)).alloc (.cells #[] 3)) (S' := fun _ => True) (fun _ _ => trivial) (fun b hb => HWc.out.block b hb)).anyInt)
          go_upto_region 9 with (fail)
          go_region_law (first | (refine wp_fn 75 _ (by simp [execOp, resolve, invoke, Act.eval, Act.put, eg]; rfl) (HI.out _ _ HX9.out) ?_; rintro e w10 ⟨v10, rfl, hS_, hb_⟩; refine ⟨_, rfl, ?_⟩; have HS10 := hide hS_; have HB10 := hide hb_; clear hS_ hb_) | (refine wp_cat tInt (.tmp 41) (.tmp 46) 23 rfl 3 i0 _ 8 Tryz.underlying23 hi hz0 hz1 hz2 rfl (by decide) (fun b => w4.heap.size ≤ b ∧ b ≠ w4.heap.size + 1) (fun _ => False) ([] ++ pre) [rest[k]] _ (by simp [Act.eval, Act.put]) HO82.out _ 1 1 (by simp [Act.eval, Act.put]) rfl (rowOne (Hq2.out.of (HK82.out.block _ (by simp <;> omega) (fun h => h.2 rfl)))) (fun _ h => h.elim) (fun b hb => by have := HK82.out.size; simp at this; omega) (by simp only [maxLen, List.nil_append, List.length_singleton]; omega) (by simp only [List.nil_append, List.length_singleton]; omega) ?_; intro v9 w9 hO_ hK_; have HX9 := hide (one_way hO_ HWb.out HK82.out hK_); clear hO_ hK_) | (refine wp_cat tInt (.tmp 41) (.tmp 46) 23 rfl 3 i0 _ 8 Tryz.underlying23 hi hz0 hz1 hz2 rfl (by decide) (fun b => w4.heap.size ≤ b ∧ b ≠ w4.heap.size) (fun _ => False) ([] ++ pre) [rest[k]] _ (by simp [Act.eval, Act.put]) HO83.out _ 1 1 (by simp [Act.eval, Act.put]) rfl (rowOne (Hq3.out.of (HK83.out.block _ (by simp <;> omega) (fun h => h.2 rfl)))) (fun _ h => h.elim) (fun b hb => by have := HK83.out.size; simp at this; omega) (by simp only [maxLen, List.nil_append, List.length_singleton]; omega) (by simp only [List.nil_append, List.length_singleton]; omega) ?_; intro v9 w9 hO_ hK_; have HX9 := hide (one_way hO_ HWc.out HK83.out hK_); clear hO_ hK_) | (refine wp_put tInt (.tmp 41) (.tmp 46) 23 rfl 3 i0 _ 8 Tryz.underlying23 hi hz0 hz1 hz2 rfl (by decide) (fun b => w4.heap.size ≤ b ∧ True) (fun _ => False) ([] ++ pre) rest[k] _ _ (by simp [Act.eval, Act.put]) HO81.out 1 (by simp [Act.eval, Act.put]) rfl (fun _ h => h.elim) (fun b hb => ⟨Nat.le_trans (by have := HK81.out.size; simp at this; omega) hb, trivial⟩) (by simp only [maxLen, List.nil_append]; omega) (by simp only [List.nil_append]; omega) ?_; intro v9 w9 hO_ hK_; have HX9 := hide (one_way hO_ HWa.out HK81.out hK_); clear hO_ hK_) | (refine wp_cat tInt (.tmp 39) (.tmp 40) 23 rfl 3 i0 _ 8 Tryz.underlying23 hi hz0 hz1 hz2 rfl (by decide) (fun b => w4.heap.size ≤ b ∧ b ≠ w4.heap.size + 1) (fun _ => False) [] pre _ rfl HE2.out _ pre.length d (by simp [Act.eval, Act.put]) rfl HRb2.out (fun _ h => h.elim) (fun b hb => by simp at hb; omega) (by simp only [maxLen, List.length_nil]; omega) (by simp only [List.length_nil]; omega) ?_; intro v8 w8 hO_ hK_; have HO82 := hide hO_; have HK82 := hide hK_; have hc8 := ((below_only HWb.out hK_ HWb.out.size (fun b h => h.1)).cell (p := ⟨b, off + k, none⟩) hzb).trans hcx; clear hO_ hK_) | (refine wp_cat tInt (.tmp 39) (.tmp 40) 23 rfl 3 i0 _ 8 Tryz.underlying23 hi hz0 hz1 hz2 rfl (by decide) (fun b => w4.heap.size ≤ b ∧ b ≠ w4.heap.size) (fun _ => False) [] pre _ rfl HE3.out _ pre.length d (by simp [Act.eval, Act.put]) rfl HRb3.out (fun _ h => h.elim) (fun b hb => by simp at hb; omega) (by simp only [maxLen, List.length_nil]; omega) (by simp only [List.length_nil]; omega) ?_; intro v8 w8 hO_ hK_; have HO83 := hide hO_; have HK83 := hide hK_; have hc8 := ((below_only HWc.out hK_ HWc.out.size (fun b h => h.1)).cell (p := ⟨b, off + k, none⟩) hzb).trans hcx; clear hO_ hK_) | (refine wp_cat tInt (.tmp 39) (.tmp 40) 23 rfl 3 i0 _ 8 Tryz.underlying23 hi hz0 hz1 hz2 rfl (by decide) (fun b => w4.heap.size ≤ b ∧ True) (fun _ => False) [] pre _ rfl HE1.out _ pre.length d (by simp [Act.eval, Act.put]) rfl HRb1.out (fun _ h => h.elim) (fun b hb => ⟨Nat.le_trans (by simp) hb, trivial⟩) (by simp only [maxLen, List.length_nil]; omega) (by simp only [List.length_nil]; omega) ?_; intro v8 w8 hO_ hK_; have HO81 := hide hO_; have HK81 := hide hK_; have hc8 := ((below_only HWa.out hK_ HWa.out.size (fun b h => h.1)).cell (p := ⟨b, off + k, none⟩) hzb).trans hcx; clear hO_ hK_))
          all_goals
            have HBr := hide (Hb.out.trans ((HB41.out.trans ((HX9.out.2.trans (HB10.out.mono HX9.out.2.size)).mono HB41.out.size)).mono Hb.out.size))
            cases hl : l12F h n (pre ++ [rest[k]]) E with
            | none =>
              have HG := hide (HFt.out.1 hl)
              rw [hl] at HS10
              clear hl
              go_wp2_with fail
              go_roundw
              case rel => exact ⟨k + 1, by omega, by go_num, HG.out, HBr.out⟩
              case measure => simp [intOf]; omega
            | some y =>
              have HG := hide (HL.out.trans (HFt.out.2 y hl))
              rw [hl] at HS10
              clear hl
              go_wp2_with fail
              go_ret2
              unfold FindPost
              rw [HG.out]
              exact ⟨_, rfl, HS10.out.mono (fun b h => ⟨Nat.le_trans hlo (Nat.le_trans HB4.out.size h.1), h.2⟩) (fun _ _ => rfl), HBr.out⟩
        · obtain rfl : k = rest.length := by omega
          have HLn2 := hide (show l12F h (n + 1) pre rest = none by rw [HL.out]; have := hN.out; rwa [List.take_length] at this)
          have Hb := hide hb
          clear hN hb0 hb
          go_wp2_with fail
          go_ret2
          unfold FindPost
          rw [HLn2.out]
          exact ⟨_, rfl, Sl.zero_, Hb.out.trans ((Below.refl _ _).alloc (Nat.le_refl _) _ |>.mono Hb.out.size)⟩
def serF (xs : List Txn) : Option (List Int) := firstGood (runsOK xs) (doneL xs)
def findF (xs : List Txn) : Option (List Int) := if histV xs then serF xs else none
theorem l12F_all (xs : List Txn) : l12F xs (doneL xs).length [] (doneL xs) = serF xs := by
  unfold l12F
  rw [if_pos (show runsOK xs [] = true from rfl), dfs_perms (runsOK xs) (runsOK_prefix xs) _ _ _ rfl rfl]
  unfold serF firstGood perms
  rw [permsI_eq_E (doneL xs).length (doneL xs) (doneI_nodup xs _), find_as_some]
  apply findSome_ext
  intro o _
  simp
set_option maxRecDepth 10000 in
set_option maxHeartbeats 1000000 in
theorem specFindSerial (xs : List Txn) (A : Option Addr) (c : Nat) (w : World) (hm : xs.length ≤ maxLen) (ht : opsN xs ≤ 1048576) (hA : Row tTxn w (Old w) A xs) :
    Calls Tryz.prog 36 #[.slice A xs.length c] w (FindPost (findF xs) w.heap.size w) := by
  have HC := hide (specHistoryValid xs A c w hm hA ht)
  have HD := hide (fun (W : World) (hb : Below w.heap.size w W) => specDoneTxns xs A c W hm ht (hA.old hb))
  have HA := hide hA
  have HM := hide hm
  clear hA hm ht
  cases hv : histV xs with
  | false =>
    have HF := hide (show findF xs = none by unfold findF; rw [hv]; rfl)
    rw [hv] at HC
    clear hv
    go_enter Tryz.func36, Tryz.ntmps36
    go_wp2_with (go_at_call 49; refine HC.out.mono ?_; rintro e w2 ⟨rfl, hb2⟩)
    go_ret2
    unfold FindPost
    rw [HF.out]
    exact ⟨_, rfl, Sl.zero_, hb2.trans ((Below.refl _ w2).alloc (Nat.le_refl _) _ |>.mono hb2.size)⟩
  | true =>
    have h6 := (histV_parts hv).1
    have hts := (histV_parts hv).2
    have HF := hide (show findF xs = l12F xs (doneL xs).length [] (doneL xs) by unfold findF; rw [hv, l12F_all]; rfl)
    have hDl : (doneL xs).length ≤ 6 := Nat.le_trans (doneI_len xs _) h6
    have HDr := hide (show doneR xs = doneL xs by unfold doneR; rw [hv]; rfl)
    have HFi := hide (fun (B C : Option Addr) (f : Nat) (W : World) (lo : Nat) => find_any xs A c HM.out (fun t ht => (txnOk_parts (hts t ht)).1) (doneL xs).length [] (doneL xs) B C 0 f W lo rfl (by simpa using hDl) (doneI_nodup xs _) (fun x hx => by cases hx) (fun x hx => doneI_mem xs _ x hx) (Nat.le_refl _) (by simp [maxLen]))
    rw [hv] at HC
    clear hv hts
    rw [HDr.out] at HD
    go_enter Tryz.func36, Tryz.ntmps36
    go_wp2_with (first | (go_at_call 49; refine HC.out.mono ?_; rintro e w1 ⟨rfl, hb1⟩; have HB1 := hide (hb1.trans ((Below.refl _ w1).alloc (Nat.le_refl _) (.cells #[] 3) |>.mono hb1.size)); clear hb1) | (go_at_call 54; refine (HD.out _ HB1.out).mono ?_; rintro e w2 ⟨v2, rfl, hO2, hb2⟩; obtain ⟨A2, c2, rfl, h21, h22, h23⟩ := hO2.sl; have HB2 := hide (HB1.out.trans (hb2.mono HB1.out.size)); have HR2 := hide h23; clear hO2 hb2 h23) | (go_at_call 75; refine (HFi.out _ A2 c2 w2 w.heap.size h21 h22 HB2.out.size (HA.out.old HB2.out) Row.nil (HR2.out.mono (fun b h => h.2) (fun _ _ => rfl))).mono ?_; rintro e w3 ⟨v3, rfl, hS3, hb3⟩))
    go_ret2
    unfold FindPost
    rw [HF.out]
    exact ⟨_, rfl, hS3, HB2.out.trans (hb3.mono HB2.out.size)⟩
end Go.Proofs.YtjiobgfaohldhaaGreat
namespace Go.Proofs.YtjiobgfaohldhaaGreat
open Go.RowKit
set_option linter.unusedVariables false
set_option linter.unusedSimpArgs false

def serB (h : List Txn) (ns : List Int) : Bool := histV h && (sameB ns (doneL h) && runsOK h ns)
theorem same_in {h : List Txn} {ns : List Int} (hs : sameB ns (doneL h) = true) : ∀ n ∈ ns, 0 ≤ n ∧ n < h.length := fun n hn =>
  doneI_mem h _ n (((same_iff (show (doneL h).Nodup from doneI_nodup h _)).1 hs).mem_iff.1 hn)
theorem same_len {h : List Txn} (hv : histV h = true) {ns : List Int} (hs : sameB ns (doneL h) = true) : ns.length ≤ 6 := by
  have h1 := ((same_iff (show (doneL h).Nodup from doneI_nodup h _)).1 hs).length_eq
  have h2 : (doneL h).length ≤ h.length := doneI_len h _
  have := (histV_parts hv).1
  omega
set_option maxRecDepth 10000 in
set_option maxHeartbeats 2000000 in
theorem specSerialRight (xs : List Txn) (ns : List Int) (A B : Option Addr) (c d : Nat) (w : World) (hm : xs.length ≤ maxLen) (ht : opsN xs ≤ 1048576) (hmn : ns.length ≤ maxLen) (hA : Row tTxn w (Old w) A xs) (hN : Row tInt w (Old w) B ns) :
    Calls Tryz.prog 22 #[.slice A xs.length c, .slice B ns.length d] w fun e w' => e = .returned (.bool (serB xs ns)) ∧ Below w.heap.size w w' := by
  have HC := hide (specHistoryValid xs A c w hm hA ht)
  have HSr := hide (show serB xs ns = (histV xs && (sameB ns (doneL xs) && runsOK xs ns)) from rfl)
  have HDn := hide (fun (W : World) (hb : Below w.heap.size w W) => specDoneTxns xs A c W hm ht (hA.old hb))
  cases hv : histV xs with
  | false =>
    rw [hv] at HC HSr
    clear hv hA hN
    go_enter Tryz.func22, Tryz.ntmps22
    go_wp2_with (go_at_call 49; refine HC.out.mono ?_; rintro e w1 ⟨rfl, hb1⟩; have HB1 := hide hb1; clear hb1)
    go_ret
    exact ⟨ret_bool HSr.out.symm, HB1.out⟩
  | true =>
    have hdl : (doneL xs).length ≤ 6 := Nat.le_trans (doneI_len xs _) (histV_parts hv).1
    have HSa := hide (fun (W : World) (A1 : Option Addr) (c1 : Nat) (hb : Below w.heap.size w W) (h1 : Row tInt W (Old W) A1 (doneL xs)) => specSame ns (doneL xs) B A1 d c1 W hmn (by simp only [maxLen]; omega) (hN.old hb) h1)
    have HRn := hide (fun (hs : sameB ns (doneL xs) = true) (W : World) (hb : Below w.heap.size w W) => specRuns xs ns A B c d W hm hmn (same_in hs) (fun t htx => (txnOk_parts ((histV_parts hv).2 t htx)).1) (hA.old hb) (hN.old hb))
    rw [hv] at HC HSr
    rw [show doneR xs = doneL xs by unfold doneR; rw [hv]; rfl] at HDn
    clear hv hA hN
    generalize doneL xs = D at HDn HSr HSa HRn hdl
    cases hs : sameB ns D with
    | false =>
      rw [hs] at HSr HSa
      clear hs HRn
      go_enter Tryz.func22, Tryz.ntmps22
      go_wp2_with (first | (go_at_call 49; refine HC.out.mono ?_; rintro e w1 ⟨rfl, hb1⟩; have HB1 := hide hb1; clear hb1) | (go_at_call 54; refine (HDn.out _ HB1.out).mono ?_; rintro e w2 ⟨v2, rfl, hO2, hb2⟩; obtain ⟨A2, c2, rfl, h21, h22, h23⟩ := hO2.sl; have HR2 := hide (h23.mono (S' := Old w2) (fun b h => h.2) (fun _ _ => rfl)); have HB2 := hide (HB1.out.trans (hb2.mono HB1.out.size)); clear hb2 hO2 h23) | (go_at_call 53; refine (HSa.out _ _ _ HB2.out HR2.out).mono ?_; rintro e w3 ⟨rfl, hb3⟩; have HB3 := hide (HB2.out.trans (hb3.mono HB2.out.size)); clear hb3))
      go_ret
      exact ⟨ret_bool HSr.out.symm, HB3.out⟩
    | true =>
      have HRn := hide (HRn.out hs)
      rw [hs] at HSr HSa
      clear hs
      go_enter Tryz.func22, Tryz.ntmps22
      go_wp2_with (first | (go_at_call 49; refine HC.out.mono ?_; rintro e w1 ⟨rfl, hb1⟩; have HB1 := hide hb1; clear hb1) | (go_at_call 54; refine (HDn.out _ HB1.out).mono ?_; rintro e w2 ⟨v2, rfl, hO2, hb2⟩; obtain ⟨A2, c2, rfl, h21, h22, h23⟩ := hO2.sl; have HR2 := hide (h23.mono (S' := Old w2) (fun b h => h.2) (fun _ _ => rfl)); have HB2 := hide (HB1.out.trans (hb2.mono HB1.out.size)); clear hb2 hO2 h23) | (go_at_call 53; refine (HSa.out _ _ _ HB2.out HR2.out).mono ?_; rintro e w3 ⟨rfl, hb3⟩; have HB3 := hide (HB2.out.trans (hb3.mono HB2.out.size)); clear hb3) | (go_at_call 55; refine (HRn.out _ HB3.out).mono ?_; rintro e w4 ⟨rfl, hb4⟩; have HB4 := hide (HB3.out.trans (hb4.mono HB3.out.size)); clear hb4))
      go_ret
      exact ⟨ret_bool HSr.out.symm, HB4.out⟩
set_option maxRecDepth 10000 in
set_option maxHeartbeats 2000000 in
theorem implSerialRight (xs : List Txn) (ns : List Int) (A B : Option Addr) (c d : Nat) (w : World) (hm : xs.length ≤ maxLen) (hmn : ns.length ≤ 1048576) (hA : Row tTxn w (Old w) A xs) (hN : Row tInt w (Old w) B ns) :
    Calls Tryz.prog 30 #[.slice A xs.length c, .slice B ns.length d] w fun e w' => e = .returned (.bool (serB xs ns)) ∧ Below w.heap.size w w' := by
  have HC := hide (implHistoryValid xs A c w hm hA)
  have HSr := hide (show serB xs ns = (histV xs && (sameB ns (doneL xs) && runsOK xs ns)) from rfl)
  cases hv : histV xs with
  | false =>
    rw [hv] at HC HSr
    clear hv hA hN
    go_enter Tryz.func30, Tryz.ntmps30
    go_wp2_with (go_at_call 66; refine HC.out.mono ?_; rintro e w1 ⟨rfl, hb1⟩; have HB1 := hide hb1; clear hb1)
    go_ret
    exact ⟨ret_bool HSr.out.symm, HB1.out⟩
  | true =>
    have hx6 : xs.length ≤ 6 := (histV_parts hv).1
    have hdl : (doneL xs).length ≤ 6 := Nat.le_trans (doneI_len xs _) hx6
    have HVl := hide (fun (W : World) => (callsIn_wide (n := 1)).1 (vals_in 1 B ns.length d W))
    have HSo := hide (fun (W : World) (hb : Below w.heap.size w W) => sorted_vals W.heap.size ns B d hmn (W.alloc (.cells #[.slice B ns.length d] 23)) (by simp) (Boxed.new W _ _).cell ((hN.old hb).old ((Below.refl _ W).alloc (Nat.le_refl _) _)))
    have HDn := hide (fun (W : World) (hb : Below w.heap.size w W) => implDone xs A c W (by omega) (hA.old hb))
    have HEq := hide (fun (W : World) (A1 A2 : Option Addr) (c1 c2 : Nat) (h1 : Row tInt W (Old W) A1 (srt ns)) (h2 : Row tInt W (Old W) A2 (doneL xs)) => equal_Int (srt ns) (doneL xs) A1 A2 c1 c2 W (by rw [srt_len]; simp only [maxLen]; omega) (by simp only [maxLen]; omega) h1 h2)
    rw [srt_done xs ns] at HEq
    have HIn := hide (fun hs => same_in (h := xs) (ns := ns) hs)
    have HLn := hide (fun hs => same_len hv (ns := ns) hs)
    have HTx := hide (histV_parts hv).2
    have hqn : ns.length ≤ 9223372036854775807 := by omega
    have hq : xs.length ≤ 9223372036854775807 := by omega
    have hsl : (srt ns).length ≤ 9223372036854775807 := by rw [srt_len]; omega
    rw [hv] at HC HSr
    have HA := hide hA; have HN := hide hN
    clear hv hA hN
    generalize srt ns = Sn at HSo HEq hsl
    generalize doneL xs = D at HDn HSr HEq hdl HIn HLn
    cases hs : sameB ns D with
    | false =>
      rw [hs] at HSr HEq
      clear hs HIn HLn
      go_enter Tryz.func30, Tryz.ntmps30
      go_wp2_with (first | (go_at_call 66; refine HC.out.mono ?_; rintro e w1 ⟨rfl, hb1⟩; have HB1 := hide hb1; clear hb1) | (go_at_call 69; refine (HVl.out _).mono ?_; rintro e w2 ⟨rfl, rfl⟩; have HB2 := hide (HB1.out.alloc HB1.out.size (.cells #[.slice B ns.length d] 23))) | (go_at_call 68; refine (HSo.out _ HB1.out).mono ?_; rintro e w3 ⟨v3, rfl, hO3, hb3⟩; obtain ⟨A3, c3, rfl, h31, h32, h33⟩ := hO3.sl; have HR3 := hide (h33.mono (S' := Old w3) (fun b h => h.2) (fun _ _ => rfl)); have HB3 := hide (HB2.out.trans (hb3.mono HB2.out.size)); clear hb3 hO3 h33) | (go_at_call 70; refine (HDn.out _ HB3.out).mono ?_; rintro e w4 ⟨v4, rfl, hO4, hb4⟩; obtain ⟨A4, c4, rfl, h41, h42, h43⟩ := hO4.sl; have HR4 := hide (h43.mono (S' := Old w4) (fun b h => h.2) (fun _ _ => rfl)); have HR34 := hide (HR3.out.old hb4); have HB4 := hide (HB3.out.trans (hb4.mono HB3.out.size)); clear hb4 hO4 h43) | (go_at_call 67; refine (HEq.out _ _ _ _ _ HR34.out HR4.out).mono ?_; rintro e w5 ⟨rfl, hb5⟩; have HB5 := hide (HB4.out.trans (hb5.below.mono HB4.out.size)); clear hb5))
      go_ret
      exact ⟨ret_bool HSr.out.symm, HB5.out⟩
    | true =>
      have HIn := hide (HIn.out hs)
      have hl6 := HLn.out hs
      rw [hs] at HSr HEq
      clear hs HLn
      go_enter Tryz.func30, Tryz.ntmps30
      go_wp2_with (first | (go_at_call 66; refine HC.out.mono ?_; rintro e w1 ⟨rfl, hb1⟩; have HB1 := hide hb1; clear hb1) | (go_at_call 69; refine (HVl.out _).mono ?_; rintro e w2 ⟨rfl, rfl⟩; have HB2 := hide (HB1.out.alloc HB1.out.size (.cells #[.slice B ns.length d] 23))) | (go_at_call 68; refine (HSo.out _ HB1.out).mono ?_; rintro e w3 ⟨v3, rfl, hO3, hb3⟩; obtain ⟨A3, c3, rfl, h31, h32, h33⟩ := hO3.sl; have HR3 := hide (h33.mono (S' := Old w3) (fun b h => h.2) (fun _ _ => rfl)); have HB3 := hide (HB2.out.trans (hb3.mono HB2.out.size)); clear hb3 hO3 h33) | (go_at_call 70; refine (HDn.out _ HB3.out).mono ?_; rintro e w4 ⟨v4, rfl, hO4, hb4⟩; obtain ⟨A4, c4, rfl, h41, h42, h43⟩ := hO4.sl; have HR4 := hide (h43.mono (S' := Old w4) (fun b h => h.2) (fun _ _ => rfl)); have HR34 := hide (HR3.out.old hb4); have HB4 := hide (HB3.out.trans (hb4.mono HB3.out.size)); clear hb4 hO4 h43) | (go_at_call 67; refine (HEq.out _ _ _ _ _ HR34.out HR4.out).mono ?_; rintro e w5 ⟨rfl, hb5⟩; have HB5 := hide (HB4.out.trans (hb5.below.mono HB4.out.size)); clear hb5))
      generalize hW : w5.alloc _ = W
      have hsW : W.heap.size = w5.heap.size + 1 := by rw [← hW]; simp
      have HBk := hide (show Blk W w5.heap.size 95 (cells3 St0) by rw [← hW]; exact Blk.new w5 _ _)
      have HB6 := hide (show Below w.heap.size w W by rw [← hW]; exact HB5.out.alloc HB5.out.size _)
      have hw5 := HB5.out.size
      clear hW
      go_loopw [7, 22] (fun _ i wr => ∃ (k : Nat) (s : St), k ≤ ns.length ∧ i = .int .i64 k ∧ Hid (runTx xs St0 (ns.take k) = some s) ∧ Hid (Blk wr w5.heap.size 95 (cells3 s)) ∧ Hid (Only (fun b => b = w5.heap.size) W wr)) (fun _ i _ => ns.length - (intOf i).toNat)
      case atStart => exact ⟨0, St0, Nat.zero_le _, rfl, rfl, HBk.out, Only.refl _ _⟩
      case round =>
        obtain ⟨k, s, hk, rfl, hR, hBk, hO⟩ := hrel
        have HR := hide hR.out; have HBk := hide hBk.out; have HO := hide hO.out
        have HBr := hide (below_only HB6.out hO.out HB6.out.size (fun i h => by omega))
        clear hR hBk hO
        by_cases hlt : k < ns.length
        · obtain ⟨b0, off0, rfl, hbS0, c0⟩ := at_Int HN.out HBr.out hlt
          obtain ⟨hn0, hn1⟩ := HIn.out _ (List.getElem_mem hlt)
          obtain ⟨m, hme⟩ : ∃ m : Nat, ns[k] = (m : Int) := ⟨ns[k].toNat, by omega⟩
          have hml : m < xs.length := by omega
          have HTk := hide (fun (s' : St) (h2 : runOps s xs[m].Ops = some s') => runTx_take xs ns k m hlt hme hml s s' HR.out h2)
          have HSp := hide (runTx_stop xs ns k m hlt hme hml s HR.out)
          rw [hme] at c0
          obtain ⟨b, off, A2, c2, rfl, hbS, d0, d1, d3, hj1, hj2, hj3⟩ := at_Txn HA.out (Below.refl _ w) hml
          have e0 := (HBr.out.cell (p := ⟨b, off + m * 3, none⟩) hbS).trans d0
          have e1 := (HBr.out.cell (p := ⟨b, off + m * 3 + 1, none⟩) hbS).trans d1
          have e3 := (HBr.out.cell (p := ⟨b, off + m * 3 + 2, none⟩) hbS).trans d3
          have HFo := hide (follow_any xs[m] s A2 c2 wr w5.heap.size (by omega) (txnOk_parts (HTx.out _ (List.getElem_mem hml))).1 HBk.out (hj3.mono (fun b hb => ⟨Nat.lt_of_lt_of_le hb HBr.out.size, by unfold Old at hb; omega⟩) (fun b hb => HBr.out.block b hb)))
          clear hme hn0 hn1 d0 d1 d3 hj3
          cases hro : runOps s xs[m].Ops with
          | none =>
            rw [hro] at HFo
            have HF := hide (show serB xs ns = false by rw [HSr.out, HSp.out hro]; rfl)
            clear hro HTk HSp
            go_wp2_with (go_at_call 71; refine HFo.out.mono ?_; rintro e w7 ⟨rfl, _, hO7⟩; have HO7 := hide hO7; clear hO7)
            go_ret
            exact ⟨ret_bool HF.out.symm, below_only HBr.out HO7.out HBr.out.size (fun i h => by omega)⟩
          | some s2 =>
            have HT2 := hide (HTk.out s2 hro)
            rw [hro] at HFo
            clear hro HTk HSp
            go_wp2_with (go_at_call 71; refine HFo.out.mono ?_; rintro e w7 ⟨rfl, ⟨s3, hB3, hs3⟩, hO7⟩; have hs4 := hs3 s2 rfl; subst hs4; have HB7 := hide hB3; have HO7 := hide hO7; clear hO7 hB3 hs3)
            go_roundw
            case rel => exact ⟨k + 1, s3, by omega, by go_num, HT2.out, HB7.out, HO.out.trans HO7.out⟩
            case measure => simp [intOf]; omega
        · obtain rfl : k = ns.length := by omega
          have HT := hide (show serB xs ns = true by
            have h9 := HR.out
            rw [List.take_length] at h9
            rw [HSr.out, show runsOK xs ns = true by unfold runsOK; rw [h9]; rfl]; rfl)
          clear HR
          go_wp2_with fail
          go_ret
          exact ⟨ret_bool HT.out.symm, HBr.out⟩
end Go.Proofs.YtjiobgfaohldhaaGreat
namespace Go.Proofs.YtjiobgfaohldhaaGreat
open Go.RowKit
set_option linter.unusedVariables false
set_option linter.unusedSimpArgs false

/-- One more key's orders. -/
def stepO (out : List (List (List Int))) (l : List Int) : List (List (List Int)) := out.flatMap fun b => (permsI l.length l).map fun o => b ++ [o]
/-- The orders of the first k keys. -/
def partO (h : List Txn) : Nat → List (List (List Int))
  | 0 => [[]]
  | k + 1 => stepO (partO h k) (instL h (k : Int))
/-- How many orders the first k keys have. -/
def manyK (h : List Txn) : Nat → Nat
  | 0 => 1
  | k + 1 => manyK h k * fct (instL h (k : Int)).length
def firstL (h : List Txn) : List (List Int) := [instL h 0, instL h 1, instL h 2]
def allO (h : List Txn) : List (List (List Int)) := if histV h && decide (manyK h 3 ≤ 200) then partO h 3 else []
theorem stepO_mem {out : List (List (List Int))} {l : List Int} {x : List (List Int)} : x ∈ stepO out l ↔ ∃ b ∈ out, ∃ o ∈ permsI l.length l, x = b ++ [o] := by
  unfold stepO
  simp only [List.mem_flatMap, List.mem_map]
  constructor
  · rintro ⟨b, hb, o, ho, rfl⟩; exact ⟨b, hb, o, ho, rfl⟩
  · rintro ⟨b, hb, o, ho, rfl⟩; exact ⟨b, hb, o, ho, rfl⟩
theorem stepO_len (out : List (List (List Int))) (l : List Int) : (stepO out l).length = out.length * fct l.length := by
  unfold stepO
  induction out with
  | nil => simp
  | cons b r ih => rw [List.flatMap_cons, List.length_append, ih, List.length_map, permsI_len _ _ rfl, List.length_cons, Nat.add_mul]; omega
theorem partO_len (h : List Txn) : ∀ k, (partO h k).length = manyK h k
  | 0 => rfl
  | k + 1 => by rw [partO, stepO_len, partO_len h k]; rfl
theorem fct_pos : ∀ n, 0 < fct n
  | 0 => by decide
  | n + 1 => Nat.mul_pos (Nat.succ_pos n) (fct_pos n)
theorem manyK_pos (h : List Txn) : ∀ k, 0 < manyK h k
  | 0 => Nat.one_pos
  | k + 1 => Nat.mul_pos (manyK_pos h k) (fct_pos _)
theorem manyK_mono (h : List Txn) (k : Nat) : manyK h k ≤ manyK h (k + 1) := Nat.le_mul_of_pos_right _ (fct_pos _)
theorem allO_ok {h : List Txn} : allO h ≠ [] ↔ histV h = true ∧ manyK h 3 ≤ 200 := by
  unfold allO
  constructor
  · intro hne
    split at hne
    · rename_i hc
      simpa using hc
    · exact absurd rfl hne
  · rintro ⟨h1, h2⟩
    rw [if_pos (by simp [h1, h2])]
    intro he
    have := partO_len h 3
    rw [he] at this
    have := manyK_pos h 3
    simp at *
    omega
theorem allO_eq {h : List Txn} (hne : allO h ≠ []) : allO h = partO h 3 := by
  obtain ⟨h1, h2⟩ := allO_ok.1 hne
  unfold allO
  rw [if_pos (by simp [h1, h2])]
theorem allO_len (h : List Txn) : (allO h).length ≤ 200 := by
  unfold allO
  split
  · rename_i hc
    rw [partO_len]
    simp only [Bool.and_eq_true, decide_eq_true_eq] at hc
    exact hc.2
  · simp
/-! ### Serial orders, levels, verdicts -/
theorem findF_some {h : List Txn} {o : List Int} (hf : findF h = some o) : histV h = true ∧ o.Perm (doneL h) ∧ runsOK h o = true := by
  unfold findF at hf
  split at hf
  · rename_i hv
    exact ⟨hv, firstGood_perm (doneI_nodup h h.length) hf⟩
  · cases hf
/-- A verdict. -/
structure Verd where
  Good : Bool
  Order : List Int
  Cycles : List (List Int)
def cycsB (h : List Txn) (all : List (List (List Int))) (cs : List (List Int)) (n : Nat) : Bool := (List.range n).all fun k => cycV (h.length : Int) (edgR h (all.getD k [])) (cs.getD k [])
def verdB (h : List Txn) (v : Verd) : Bool := !(allO h).isEmpty && (if v.Good then serB h v.Order && v.Cycles.isEmpty else (v.Order.isEmpty && (if readsB h then v.Cycles.length == (allO h).length && cycsB h (allO h) v.Cycles (allO h).length else v.Cycles.isEmpty)))
def cycsO (h : List Txn) : List (List Int) := (allO h).map fun os => cycO (h.length : Int) (edgR h os)
def verdO (h : List Txn) : Option Verd := if (allO h).isEmpty then none else match findF h with
  | some o => some ⟨true, o, []⟩
  | none => some ⟨false, [], if readsB h then cycsO h else []⟩
end Go.Proofs.YtjiobgfaohldhaaGreat
