/- The reference's search for the first right schedule: l13Find, FindSnapshot. The program's search for schedules: the function literal of FindSnapshot. The program's FindSnapshot. The reference's FindSnapshot, and both answers in the form that the law asks for. l20Schedule: some schedule. DrawSnapshotRight: some history, and some schedule. DrawCommitOrders: some history, and some schedule. -/
import Derived.Test.YtkcobaimcfggjaaGreatDoorHold
import Derived.Test.YtkcobaimcfggjaaGreatDoorSnapS
import Derived.Laws.EntriesVeiled
import Derived.Test.YtkcobaimcfggjaaGreatDoorDrawSer
import Derived.Deep.RegionLaw
namespace Go.Proofs.YtkcobaimcfggjaaGreatDoor
open Go.RowKit
set_option linter.unusedVariables false
set_option linter.unusedSimpArgs false

def stepS13 (h : List Txn) (f : Nat) (p : List Int) (d : Int) : Option (List Int) := if p.count d = 2 then none else dfsS h f (p ++ [d])
theorem dfsS_false {h : List Txn} {p : List Int} (hr : l13R h p = false) : ∀ f, dfsS h f p = none
  | 0 => by rw [dfsS, hr]; rfl
  | f + 1 => by rw [dfsS, hr]; rfl
set_option maxRecDepth 10000 in
set_option maxHeartbeats 4000000 in
theorem find13_any (h : List Txn) (A : Option Addr) (c : Nat) (hv : histV h = true) (D : List Int) (hD : D = doneL h) (n : Nat) : ∀ (pre : List Int) (B C : Option Addr) (d f : Nat) (w : World) (lo : Nat), 2 * D.length = pre.length + n →
    (∀ x ∈ pre, 0 ≤ x ∧ x < h.length) → pre.length ≤ d → d ≤ maxLen → D.length ≤ f → f ≤ maxLen → lo ≤ w.heap.size → Row tTxn w (Old w) A h → Row tInt w (In lo w.heap.size) B pre → Row tInt w (Old w) C D →
    Calls Tryz.prog 200 #[.slice A h.length c, .slice C D.length f, .slice B pre.length d] w (FindPost (dfsS h n pre) lo w) := by
  obtain ⟨i0, hi, hz0, hz1, hz2⟩ := info_parts infoInt_
  have eg := enters_of Tryz.func200 (by kernel_rfl) rfl
  have hD6 : D.length ≤ 6 := by rw [hD]; exact Nat.le_trans (doneI_len h _) (histV_parts hv).1
  have HDi := hide (fun x (hx : x ∈ D) => doneI_mem h _ x (hD ▸ hx))
  have HDe := hide hD
  clear hD
  induction n with
  | zero =>
    intro pre B C d f w lo hn hpi hpd hdm hrf hfm hlo hA hB hC
    have HRu := hide (specRuns13 h pre A B c d w hv (by omega) hpd hdm hpi hA (hB.mono (fun b hb => hb.2) (fun _ _ => rfl)))
    have HB := hide hB
    have hl0 : ((pre.length : Int) == 2 * (D.length : Int)) = true := by rw [beq_iff_eq]; omega
    unfold maxLen at hdm hfm
    clear hA hB hC hpi hn
    cases hr : l13R h pre with
    | false =>
      have HL := hide (dfsS_false hr 0)
      rw [hr] at HRu
      clear hr
      go_enter Tryz.func200, Tryz.ntmps200
      go_wp2_with (go_at_call 99; refine HRu.out.mono ?_; rintro e w1 ⟨rfl, hb1⟩; have HB1 := hide hb1; clear hb1)
      go_ret2
      unfold FindPost
      rw [HL.out]
      exact ⟨_, rfl, Sl.zero_, HB1.out.trans ((Below.refl _ _).alloc (Nat.le_refl _) _ |>.mono HB1.out.size)⟩
    | true =>
      have HL := hide (show dfsS h 0 pre = some pre by rw [dfsS, hr]; rfl)
      rw [hr] at HRu
      clear hr
      go_enter Tryz.func200, Tryz.ntmps200
      go_wp2_with (go_at_call 99; refine HRu.out.mono ?_; rintro e w1 ⟨rfl, hb1⟩; have HB1 := hide hb1; clear hb1)
      go_ret2
      unfold FindPost
      rw [HL.out]
      exact ⟨_, rfl, ⟨B, d, rfl, hpd, by simp only [maxLen]; omega, HB.out.mono (fun b hb => ⟨hb.1, Nat.lt_of_lt_of_le hb.2 HB1.out.size⟩) (fun b hb => HB1.out.block b hb.2)⟩, HB1.out⟩
  | succ n ih =>
    intro pre B C d f w lo hn hpi hpd hdm hrf hfm hlo hA hB hC
    have HRu := hide (specRuns13 h pre A B c d w hv (by omega) hpd hdm hpi hA (hB.mono (fun b hb => hb.2) (fun _ _ => rfl)))
    have HA := hide hA; have HB := hide hB; have HC := hide hC
    have HPi := hide hpi
    have hl0 : ((pre.length : Int) == 2 * (D.length : Int)) = false := by rw [beq_eq_false_iff_ne]; omega
    have hdm' := hide hdm; have hfm' := hide hfm
    have HCn := hide (fun (W : World) (x : Int) (hb : Below w.heap.size w W) => l13Count_pure pre x B d W (by simp only [maxLen]; omega) ((hB.mono (fun b hb => hb.2) (fun _ _ => rfl)).old hb))
    unfold maxLen at hdm hfm
    have Hn := hide hn
    have hp6 : pre.length ≤ 12 := by omega
    clear hA hB hC hpi hn
    cases hr : l13R h pre with
    | false =>
      have HL := hide (dfsS_false hr (n + 1))
      rw [hr] at HRu
      clear hr
      go_enter Tryz.func200, Tryz.ntmps200
      go_wp2_with (go_at_call 99; refine HRu.out.mono ?_; rintro e w1 ⟨rfl, hb1⟩; have HB1 := hide hb1; clear hb1)
      go_ret2
      unfold FindPost
      rw [HL.out]
      exact ⟨_, rfl, Sl.zero_, HB1.out.trans ((Below.refl _ _).alloc (Nat.le_refl _) _ |>.mono HB1.out.size)⟩
    | true =>
      have HL := hide (show dfsS h (n + 1) pre = D.findSome? (stepS13 h n pre) by rw [dfsS, hr, HDe.out]; rfl)
      rw [hr] at HRu
      clear hr
      go_enter Tryz.func200, Tryz.ntmps200
      go_wp2_with (go_at_call 99; refine HRu.out.mono ?_; rintro e w1 ⟨rfl, hb1⟩; have HB1 := hide hb1; clear hb1)
      go_loopw [8, 9, 10] (fun i _ _ wr => ∃ k : Nat, k ≤ D.length ∧ i = .int .i64 k ∧ Hid ((D.take k).findSome? (stepS13 h n pre) = none) ∧ Hid (Below w.heap.size w wr)) (fun i _ _ _ => D.length - (intOf i).toNat)
      case atStart => exact ⟨0, Nat.zero_le _, rfl, rfl, HB1.out⟩
      case round =>
        obtain ⟨k, hk, rfl, hN, hb0⟩ := hrel
        have hb := hb0.out
        by_cases hlt : k < D.length
        · have HFt := hide (find_take_some _ D k hlt hN.out)
          obtain ⟨b, off, rfl, hbS, hcx⟩ := at_Int HC.out hb hlt
          have Hb := hide hb
          have HLb := hide hbS
          have HCx := hide (HCn.out wr D[k] hb)
          have HStp := hide (show stepS13 h n pre D[k] = if pre.count D[k] = 2 then none else dfsS h n (pre ++ [D[k]]) from rfl)
          by_cases hc2 : pre.count D[k] = 2
          · have hci : (((pre.count D[k] : Nat) : Int) == 2) = true := by rw [beq_iff_eq]; omega
            have HG := hide (HFt.out.1 (HStp.out.trans (if_pos hc2)))
            clear hc2 hb hb0 hN
            go_wp2_with (go_at_call 97; refine HCx.out.mono ?_; rintro e w' ⟨rfl, rfl⟩)
            go_roundw
            case rel => exact ⟨k + 1, by omega, by go_num, HG.out, Hb.out⟩
            case measure => simp [intOf]; omega
          have hci : (((pre.count D[k] : Nat) : Int) == 2) = false := by rw [beq_eq_false_iff_ne]; omega
          have HStp := hide (HStp.out.trans (if_neg hc2))
          clear hc2 hN hb0
          go_upto_region 9 with (go_at_call 97; refine HCx.out.mono ?_; rintro e w' ⟨rfl, rfl⟩)
          obtain ⟨w4, hw4⟩ : ∃ w4, w4 = wr := ⟨_, rfl⟩
          rw [← hw4] at hb Hb hcx ⊢
          clear hw4
          have HB4 := hide hb
          have hzb : b < w4.heap.size := Nat.lt_of_lt_of_le HLb.out HB4.out.size
          have HI := hide (fun (v9 : Value) (w9 : World) (hx : XOne 3 w4 w9 (pre ++ [D[k]]) v9) => show Calls Tryz.prog 200 #[.slice A h.length c, .slice (some ⟨b, off, none⟩) D.length f, v9] w9 (FindPost (dfsS h n (pre ++ [D[k]])) w4.heap.size w9) from by
            obtain ⟨h1, h2⟩ := hx
            obtain ⟨A9, c9, rfl, h91, h92, hR9⟩ := h1.sl
            exact ih (pre ++ [D[k]]) A9 (some ⟨b, off, none⟩) c9 f w9 w4.heap.size (by rw [List.length_append, List.length_singleton]; have := Hn.out; omega)
              (fun x hx => by rcases List.mem_append.1 hx with hx | hx; exact HPi.out x hx; rw [List.mem_singleton] at hx; subst hx; exact HDi.out _ (List.getElem_mem hlt))
              h91 h92 hrf hfm'.out h2.size (HA.out.old (HB4.out.trans (h2.mono HB4.out.size))) (hR9.mono (fun b h => h) (fun _ _ => rfl)) (HC.out.old (HB4.out.trans (h2.mono HB4.out.size))))
          clear hb
          have HRb := hide (HB.out.mono (w' := w4) (S' := Old w4) (fun b h => Nat.lt_of_lt_of_le h.2 HB4.out.size) (fun b h => HB4.out.block b h.2))
          have HE1 := hide (Own.empty (T := tInt) (e := 3) w4.drew (fun b => w4.heap.size ≤ b ∧ True) ⟨Nat.le_refl _, trivial⟩)
          have HE2 := hide (Own.emptyAt (T := tInt) (S := fun b => (w4.heap.size ≤ b ∧ b ≠ w4.heap.size + 1) ∧ Old ((w4.drew.alloc (.cells #[] 3)).alloc (.cells #[.int .i64 D[k]] 3)) b) ((Blk.new w4.drew 3 #[]).alloc (.cells #[.int .i64 D[k]] 3)) ⟨⟨Nat.le_refl _, by simp⟩, by simp [Old]; omega⟩)
          have HE3 := hide (Own.emptyAt (T := tInt) (p := w4.heap.size + 1) (S := fun b => (w4.heap.size ≤ b ∧ b ≠ w4.heap.size) ∧ Old ((w4.drew.alloc (.cells #[.int .i64 D[k]] 3)).alloc (.cells #[] 3)) b) (show Blk ((w4.drew.alloc (.cells #[.int .i64 D[k]] 3)).alloc (.cells #[] 3)) (w4.heap.size + 1) 3 #[] by have := Blk.new (w4.drew.alloc (.cells #[.int .i64 D[k]] 3)) 3 #[]; simpa using this) ⟨⟨by omega, by omega⟩, by simp [Old]⟩)
          have Hq2 : Hid (Blk ((w4.drew.alloc (.cells #[] 3)).alloc (.cells #[.int .i64 D[k]] 3)) (w4.heap.size + 1) 3 #[.int .i64 D[k]]) := hide (by have := Blk.new (w4.drew.alloc (.cells #[] 3)) 3 #[.int .i64 D[k]]; simpa using this)
          have Hq3 := hide (show Blk ((w4.drew.alloc (.cells #[.int .i64 D[k]] 3)).alloc (.cells #[] 3)) w4.heap.size 3 #[.int .i64 D[k]] from (Blk.new w4.drew 3 #[.int .i64 D[k]]).alloc (.cells #[] 3))
          have HWa := hide (show Below w4.heap.size w4 (w4.drew.alloc (.cells #[] 3)) from (Below.refl _ w4).drew.alloc (by simp) _)
          have HWb := hide (show Below w4.heap.size w4 ((w4.drew.alloc (.cells #[] 3)).alloc (.cells #[.int .i64 D[k]] 3)) from ((Below.refl _ w4).drew.alloc (by simp) _).alloc (by simp) _)
          have HWc := hide (show Below w4.heap.size w4 ((w4.drew.alloc (.cells #[.int .i64 D[k]] 3)).alloc (.cells #[] 3)) from ((Below.refl _ w4).drew.alloc (by simp) _).alloc (by simp) _)
          have HRb1 := hide ((HRb.out.mono (w' := w4.drew.alloc (.cells #[] 3)) (S' := fun _ => True) (fun _ _ => trivial) (fun b hb => HWa.out.block b hb)).anyInt)
          have HRb2 := hide ((HRb.out.mono (w' := (w4.drew.alloc (.cells #[] 3)).alloc (.cells #[.int .i64 D[k]] 3)) (S' := fun _ => True) (fun _ _ => trivial) (fun b hb => HWb.out.block b hb)).anyInt)
          have HRb3 := hide ((HRb.out.mono (w' := (w4.drew.alloc (.cells #[.int .i64 D[k]] 3)).alloc (.cells #[] 3)) (S' := fun _ => True) (fun _ _ => trivial) (fun b hb => HWc.out.block b hb)).anyInt)
          go_region_law (first | (refine wp_fn 200 _ (by simp [execOp, resolve, invoke, Act.eval, Act.put, eg]; rfl) (HI.out _ _ HX9.out) ?_; rintro e w10 ⟨v10, rfl, hS_, hb_⟩; refine ⟨_, rfl, ?_⟩; have HS10 := hide hS_; have HB10 := hide hb_; clear hS_ hb_) | (refine wp_cat tInt (.tmp 41) (.tmp 46) 30 rfl 3 i0 _ 8 Tryz.underlying30 hi hz0 hz1 hz2 rfl (by decide) (fun b => w4.heap.size ≤ b ∧ b ≠ w4.heap.size + 1) (fun _ => False) ([] ++ pre) [D[k]] _ (by simp [Act.eval, Act.put]) HO82.out _ 1 1 (by simp [Act.eval, Act.put]) rfl (rowOne (Hq2.out.of (HK82.out.block _ (by simp <;> omega) (fun h => h.2 rfl)))) (fun _ h => h.elim) (fun b hb => by have := HK82.out.size; simp at this; omega) (by simp only [maxLen, List.nil_append, List.length_singleton]; omega) (by simp only [List.nil_append, List.length_singleton]; omega) ?_; intro v9 w9 hO_ hK_; have HX9 := hide (one_way hO_ HWb.out HK82.out hK_); clear hO_ hK_) | (refine wp_cat tInt (.tmp 41) (.tmp 46) 30 rfl 3 i0 _ 8 Tryz.underlying30 hi hz0 hz1 hz2 rfl (by decide) (fun b => w4.heap.size ≤ b ∧ b ≠ w4.heap.size) (fun _ => False) ([] ++ pre) [D[k]] _ (by simp [Act.eval, Act.put]) HO83.out _ 1 1 (by simp [Act.eval, Act.put]) rfl (rowOne (Hq3.out.of (HK83.out.block _ (by simp <;> omega) (fun h => h.2 rfl)))) (fun _ h => h.elim) (fun b hb => by have := HK83.out.size; simp at this; omega) (by simp only [maxLen, List.nil_append, List.length_singleton]; omega) (by simp only [List.nil_append, List.length_singleton]; omega) ?_; intro v9 w9 hO_ hK_; have HX9 := hide (one_way hO_ HWc.out HK83.out hK_); clear hO_ hK_) | (refine wp_put tInt (.tmp 41) (.tmp 46) 30 rfl 3 i0 _ 8 Tryz.underlying30 hi hz0 hz1 hz2 rfl (by decide) (fun b => w4.heap.size ≤ b ∧ True) (fun _ => False) ([] ++ pre) D[k] _ _ (by simp [Act.eval, Act.put]) HO81.out 1 (by simp [Act.eval, Act.put]) rfl (fun _ h => h.elim) (fun b hb => ⟨Nat.le_trans (by have := HK81.out.size; simp at this; omega) hb, trivial⟩) (by simp only [maxLen, List.nil_append]; omega) (by simp only [List.nil_append]; omega) ?_; intro v9 w9 hO_ hK_; have HX9 := hide (one_way hO_ HWa.out HK81.out hK_); clear hO_ hK_) | (refine wp_cat tInt (.tmp 39) (.tmp 40) 30 rfl 3 i0 _ 8 Tryz.underlying30 hi hz0 hz1 hz2 rfl (by decide) (fun b => w4.heap.size ≤ b ∧ b ≠ w4.heap.size + 1) (fun _ => False) [] pre _ rfl HE2.out _ pre.length d (by simp [Act.eval, Act.put]) rfl HRb2.out (fun _ h => h.elim) (fun b hb => by simp at hb; omega) (by simp only [maxLen, List.length_nil]; omega) (by simp only [List.length_nil]; omega) ?_; intro v8 w8 hO_ hK_; have HO82 := hide hO_; have HK82 := hide hK_; have hc8 := ((below_only HWb.out hK_ HWb.out.size (fun b h => h.1)).cell (p := ⟨b, off + k, none⟩) hzb).trans hcx; clear hO_ hK_) | (refine wp_cat tInt (.tmp 39) (.tmp 40) 30 rfl 3 i0 _ 8 Tryz.underlying30 hi hz0 hz1 hz2 rfl (by decide) (fun b => w4.heap.size ≤ b ∧ b ≠ w4.heap.size) (fun _ => False) [] pre _ rfl HE3.out _ pre.length d (by simp [Act.eval, Act.put]) rfl HRb3.out (fun _ h => h.elim) (fun b hb => by simp at hb; omega) (by simp only [maxLen, List.length_nil]; omega) (by simp only [List.length_nil]; omega) ?_; intro v8 w8 hO_ hK_; have HO83 := hide hO_; have HK83 := hide hK_; have hc8 := ((below_only HWc.out hK_ HWc.out.size (fun b h => h.1)).cell (p := ⟨b, off + k, none⟩) hzb).trans hcx; clear hO_ hK_) | (refine wp_cat tInt (.tmp 39) (.tmp 40) 30 rfl 3 i0 _ 8 Tryz.underlying30 hi hz0 hz1 hz2 rfl (by decide) (fun b => w4.heap.size ≤ b ∧ True) (fun _ => False) [] pre _ rfl HE1.out _ pre.length d (by simp [Act.eval, Act.put]) rfl HRb1.out (fun _ h => h.elim) (fun b hb => ⟨Nat.le_trans (by simp) hb, trivial⟩) (by simp only [maxLen, List.length_nil]; omega) (by simp only [List.length_nil]; omega) ?_; intro v8 w8 hO_ hK_; have HO81 := hide hO_; have HK81 := hide hK_; have hc8 := ((below_only HWa.out hK_ HWa.out.size (fun b h => h.1)).cell (p := ⟨b, off + k, none⟩) hzb).trans hcx; clear hO_ hK_))
          all_goals
            have HBr := hide (Hb.out.trans ((HX9.out.2.trans (HB10.out.mono HX9.out.2.size)).mono Hb.out.size))
            cases hl : dfsS h n (pre ++ [D[k]]) with
            | none =>
              have HG := hide (HFt.out.1 (HStp.out.trans hl))
              rw [hl] at HS10
              clear hl
              go_wp2_with fail
              go_roundw
              case rel => exact ⟨k + 1, by omega, by go_num, HG.out, HBr.out⟩
              case measure => simp [intOf]; omega
            | some y =>
              have HG := hide (HL.out.trans (HFt.out.2 y (HStp.out.trans hl)))
              rw [hl] at HS10
              clear hl
              go_wp2_with fail
              go_ret2
              unfold FindPost
              rw [HG.out]
              exact ⟨_, rfl, HS10.out.mono (fun b h => ⟨Nat.le_trans hlo (Nat.le_trans HB4.out.size h.1), h.2⟩) (fun _ _ => rfl), HBr.out⟩
        · obtain rfl : k = D.length := by omega
          have HLn2 := hide (show dfsS h (n + 1) pre = none by rw [HL.out]; have := hN.out; rwa [List.take_length] at this)
          have Hb := hide hb
          clear hN hb0 hb
          go_wp2_with fail
          go_ret2
          unfold FindPost
          rw [HLn2.out]
          exact ⟨_, rfl, Sl.zero_, Hb.out.trans ((Below.refl _ _).alloc (Nat.le_refl _) _ |>.mono Hb.out.size)⟩
theorem infoSnap_ : (Tryz.prog.info? 148).map (·.size) = some 26 := by kernel_rfl
theorem snapC_size (S : SS) (bg cm : Nat) : (snapC S bg cm).size = 26 := by simp [snapC]
theorem snapC_one (S : SS) (bg cm : Nat) : (snapC S bg cm).all (·.oneCell') = true := by
  rw [Array.all_eq_true]
  intro i hi
  simp only [snapC, Array.getElem_ofFn]
  unfold sF
  split
  · rfl
  · split
    · rfl
    · split
      · rfl
      · split <;> rfl
theorem Only.setRow {S : Nat → Prop} {a b : World} (h : Only S a b) {g : Nat} (hg : S g ∨ a.heap.size ≤ g) (cs : Array Value) : Only S a (b.setRow g cs) :=
  ⟨h.os, h.tape, h.output, by simpa [World.setRow] using h.size, fun i hi hn => (setRow_other _ _ _ _ (by rintro rfl; rcases hg with hg | hg; exact hn hg; omega)).trans (h.block i hi hn)⟩
theorem Below.setRow_ {B : Nat} {a w : World} {g : Nat} (h : Below B a w) (hg : B ≤ g) (cs : Array Value) : Below B a (w.setRow g cs) :=
  ⟨h.os, h.tape, h.output, by simpa [World.setRow] using h.size, fun i hi => (setRow_other _ _ _ _ (by omega)).trans (h.block i hi)⟩
def stepN (h : List Txn) (f : Nat) (pre : List Int) (S : SS) (d : Int) : Option (List Int) := (snapNext h S d).bind fun S' => dfsN h f (pre ++ [d]) S'
def SnPost (h : List Txn) (all : List Int) (bo g : Nat) (pre : List Int) (S : SS) (f : Nat) (W : World) (e : Ending) (w' : World) : Prop :=
  match dfsN h f pre S with
  | none => e = .returned (.bool false) ∧ Only (Ko bo g) W w' ∧ Ord bo g (2 * all.length) pre w'
  | some o => e = .returned (.bool true) ∧ Only (Ko bo g) W w' ∧ Ord bo g (2 * all.length) o w' ∧ o.length = 2 * all.length
/-- The first right schedule of a history with at most four committed transactions. -/
def snapFst (h : List Txn) : Option (List Int) := if histV h && fineB h && decide ((doneL h).length ≤ 4) then dfsN h (2 * (doneL h).length) [] SS0 else none
def snapB (xs : List Txn) : Bool := (snapFst xs).isSome
def snapRR (xs : List Txn) : List Int := (snapFst xs).getD []
theorem dfsN_len (h : List Txn) : ∀ (f : Nat) (p : List Int) (S : SS) (o : List Int), dfsN h f p S = some o → o.length = p.length + f
  | 0, p, S, o, e => by cases e; rfl
  | f + 1, p, S, o, e => by
    rw [dfsN] at e
    obtain ⟨d, _, hd⟩ := List.exists_of_findSome?_eq_some e
    cases hn : snapNext h S d with
    | none => rw [hn] at hd; cases hd
    | some S' =>
      rw [hn] at hd
      have := dfsN_len h f (p ++ [d]) S' o hd
      rw [List.length_append, List.length_singleton] at this
      omega
theorem snapRR_len (xs : List Txn) : (snapRR xs).length ≤ 1048576 := by
  unfold snapRR snapFst
  split
  · rename_i hc
    simp only [Bool.and_eq_true, decide_eq_true_eq] at hc
    cases hd : dfsN xs (2 * (doneL xs).length) [] SS0 with
    | none => simp
    | some o =>
      have := dfsN_len _ _ _ _ _ hd
      simp at this ⊢
      omega
  · simp
set_option maxRecDepth 10000 in
set_option maxHeartbeats 2000000 in
theorem specFindSnapshot (xs : List Txn) (A : Option Addr) (c : Nat) (w : World) (hm : xs.length ≤ maxLen) (ht : opsN xs ≤ 1048576) (hA : Row tTxn w (Old w) A xs) :
    Calls Tryz.prog 173 #[.slice A xs.length c] w fun e w' => ∃ v, e = .returned (.tuple #[v, .bool (snapB xs)]) ∧ Sl tInt w' (New w w') (snapRR xs) v ∧ Below w.heap.size w w' := by
  have HD := hide (specDoneTxns xs A c w hm ht hA)
  have HC := hide (fun (W : World) (hb : Below w.heap.size w W) => specHistoryValid xs A c W hm (hA.old hb) ht)
  have HA := hide hA
  have HSB := hide (show snapB xs = (snapFst xs).isSome from rfl)
  have HSR := hide (show snapRR xs = (snapFst xs).getD [] from rfl)
  cases hv : histV xs with
  | false =>
    have HF := hide (show snapFst xs = none by unfold snapFst; rw [hv]; rfl)
    rw [hv] at HC
    rw [show doneR xs = [] by unfold doneR; rw [hv]; rfl] at HD
    clear hv hA
    go_enter Tryz.func173, Tryz.ntmps173
    go_wp2_with (first | (go_at_call 78; refine HD.out.mono ?_; rintro e w1 ⟨v1, rfl, hO1, hb1⟩; obtain ⟨A1, c1, rfl, h11, h12, h13⟩ := hO1.sl; have HB1 := hide hb1; clear hb1 hO1 h13) | (go_at_call 65; refine (HC.out _ HB1.out).mono ?_; rintro e w2 ⟨rfl, hb2⟩; have HB2 := hide (HB1.out.trans (hb2.mono HB1.out.size)); clear hb2))
    go_ret2
    exact ⟨_, by rw [HSB.out, HF.out]; rfl, by rw [HSR.out, HF.out]; exact Sl.zero_, HB2.out.alloc HB2.out.size _⟩
  | true =>
    have HBo := hide (fun (W : World) (hb : Below w.heap.size w W) => specBadOwn xs A c W hv hm ht (hA.old hb))
    have hdl : (doneL xs).length ≤ 6 := Nat.le_trans (doneI_len xs _) (histV_parts hv).1
    have HFi := hide (show fineB xs = ((badS xs).length == 0) from rfl)
    have HSf := hide (show snapFst xs = if fineB xs && decide ((doneL xs).length ≤ 4) then dfsS xs (2 * (doneL xs).length) [] else none by unfold snapFst; rw [hv, dfs_snap xs _ [] SS0 rfl, Bool.true_and])
    have HFd := hide (fun (B C : Option Addr) (f : Nat) (W : World) (lo : Nat) => find13_any xs A c hv (doneL xs) rfl (2 * (doneL xs).length) [] B C 0 f W lo (by simp) (fun x hx => by cases hx) (Nat.le_refl _) (by simp [maxLen]))
    rw [hv] at HC
    rw [show doneR xs = doneL xs by unfold doneR; rw [hv]; rfl] at HD
    clear hv hA
    generalize doneL xs = D at HD HSf HFd hdl
    generalize badS xs = Bd at HBo HFi
    by_cases h4 : D.length ≤ 4
    · have h4i : decide ((4 : Int) < (D.length : Int)) = false := decide_eq_false (by omega)
      cases hf : (Bd.length == 0) with
      | false =>
        have hfi : decide ((0 : Int) < (Bd.length : Int)) = true := by rw [beq_eq_false_iff_ne] at hf; exact decide_eq_true (by omega)
        have hfn : decide (0 < Bd.length) = true := by rw [beq_eq_false_iff_ne] at hf; exact decide_eq_true (by omega)
        have HF := hide (show snapFst xs = none by rw [HSf.out, HFi.out, hf]; rfl)
        clear hf h4
        go_enter Tryz.func173, Tryz.ntmps173
        go_wp2_with (first | (go_at_call 78; refine HD.out.mono ?_; rintro e w1 ⟨v1, rfl, hO1, hb1⟩; obtain ⟨A1, c1, rfl, h11, h12, h13⟩ := hO1.sl; have HB1 := hide hb1; clear hb1 hO1 h13) | (go_at_call 65; refine (HC.out _ HB1.out).mono ?_; rintro e w2 ⟨rfl, hb2⟩; have HB2 := hide (HB1.out.trans (hb2.mono HB1.out.size)); clear hb2) | (go_at_call 98; refine (HBo.out _ HB2.out).mono ?_; rintro e w3 ⟨v3, rfl, hO3, hb3⟩; obtain ⟨A3, c3, rfl, h31, h32, _⟩ := hO3.sl; have HB3 := hide (HB2.out.trans (hb3.mono HB2.out.size)); clear hb3 hO3))
        go_ret2
        exact ⟨_, by rw [HSB.out, HF.out]; rfl, by rw [HSR.out, HF.out]; exact Sl.zero_, HB3.out.alloc HB3.out.size _⟩
      | true =>
        have hfi : decide ((0 : Int) < (Bd.length : Int)) = false := by rw [beq_iff_eq] at hf; exact decide_eq_false (by omega)
        have hfn : decide (0 < Bd.length) = false := by rw [beq_iff_eq] at hf; exact decide_eq_false (by omega)
        have HF := hide (show snapFst xs = dfsS xs (2 * D.length) [] by rw [HSf.out, HFi.out, hf, decide_eq_true h4]; rfl)
        clear hf h4
        go_enter Tryz.func173, Tryz.ntmps173
        go_wp2_with (first | (go_at_call 78; refine HD.out.mono ?_; rintro e w1 ⟨v1, rfl, hO1, hb1⟩; obtain ⟨A1, c1, rfl, h11, h12, h13⟩ := hO1.sl; have HR1 := hide h13; have HB1 := hide hb1; clear hb1 hO1 h13) | (go_at_call 65; refine (HC.out _ HB1.out).mono ?_; rintro e w2 ⟨rfl, hb2⟩; have HB2 := hide (HB1.out.trans (hb2.mono HB1.out.size)); have HR2 := hide (HR1.out.mono (fun _ h => h) (fun b h => hb2.block b h.2)); have hw12 := hb2.size; clear hb2) | (go_at_call 98; refine (HBo.out _ HB2.out).mono ?_; rintro e w3 ⟨v3, rfl, hO3, hb3⟩; obtain ⟨A3, c3, rfl, h31, h32, _⟩ := hO3.sl; have hB3 := HB2.out.trans (hb3.mono HB2.out.size); have hz3 := hb3.size; have HR3 := hide (HR2.out.mono (w' := w3.alloc (.cells #[] 3)) (S' := Old (w3.alloc (.cells #[] 3))) (fun b h => by have := h.2; unfold Old; simp; omega) (fun b h => (Below.heap_alloc _ _ _ (by have := h.2; omega)).trans (hb3.block b (by have := h.2; omega)))); have HB3 := hide (hB3.alloc hB3.size (.cells #[] 3)); clear hb3 hO3 hB3) | (go_at_call 200; refine (HFd.out _ A1 c1 _ w.heap.size h11 h12 HB3.out.size (HA.out.old HB3.out) Row.nil HR3.out).mono ?_; rintro e w4 ⟨v4, rfl, hS4, hb4⟩))
        go_ret2
        exact ⟨_, by rw [HSB.out, HF.out]; rfl, by rw [HSR.out, HF.out]; exact hS4, HB3.out.trans (hb4.mono HB3.out.size)⟩
    · have h4i : decide ((4 : Int) < (D.length : Int)) = true := decide_eq_true (by omega)
      have HF := hide (show snapFst xs = none by rw [HSf.out, decide_eq_false h4, Bool.and_false]; rfl)
      clear h4
      go_enter Tryz.func173, Tryz.ntmps173
      go_wp2_with (first | (go_at_call 78; refine HD.out.mono ?_; rintro e w1 ⟨v1, rfl, hO1, hb1⟩; obtain ⟨A1, c1, rfl, h11, h12, h13⟩ := hO1.sl; have HB1 := hide hb1; clear hb1 hO1 h13) | (go_at_call 65; refine (HC.out _ HB1.out).mono ?_; rintro e w2 ⟨rfl, hb2⟩; have HB2 := hide (HB1.out.trans (hb2.mono HB1.out.size)); clear hb2))
      go_ret2
      exact ⟨_, by rw [HSB.out, HF.out]; rfl, by rw [HSR.out, HF.out]; exact Sl.zero_, HB2.out.alloc HB2.out.size _⟩
theorem snapRR_len24 (xs : List Txn) : (snapRR xs).length ≤ 100 := by
  unfold snapRR snapFst
  split
  · rename_i hc
    simp only [Bool.and_eq_true, decide_eq_true_eq] at hc
    cases hd : dfsN xs (2 * (doneL xs).length) [] SS0 with
    | none => simp
    | some o =>
      have := dfsN_len _ _ _ _ _ hd
      simp at this ⊢
      omega
  · simp
theorem row_two {w : World} (x : Int) : RowAny tInt (w.alloc (.cells #[.int .i64 x, .int .i64 x] 3)) (fun _ => False) (some ⟨w.heap.size, 0, none⟩) [x, x] := fun _ => ⟨_, 0, rfl, fun k hk => by
  have hk2 : k < 2 := by simpa using hk
  refine ⟨_, rfl, fun j u hu => ?_⟩
  rw [(Blk.new w _ _).cell]
  match k, hk2 with
  | 0, _ =>
    match j, hu with
    | 0, hu => exact hu
    | j + 1, hu => simp at hu
  | 1, _ =>
    match j, hu with
    | 0, hu => exact hu
    | j + 1, hu => simp at hu⟩
set_option maxRecDepth 10000 in
set_option maxHeartbeats 8000000 in
theorem schedule_any (w : World) (R P : Nat) (xs : List Txn) (A : Option Addr) (c : Nat) (h : Rd w R P) (hP : P ≤ 5000) (hx : HistS xs) (hA : Row tTxn w (fun b => R < b ∧ Old w b) A xs) :
    Calls Tryz.prog 144 #[.pointer (some ⟨R, 0, none⟩), .slice A xs.length c] w (DrawnI w R (P + 6)) := by
  obtain ⟨i0, hi, hz0, hz1, hz2⟩ := info_parts infoInt_
  obtain ⟨hxm, hx20, hxo, hxn⟩ := hx.le
  have HlR := hide h.lt
  have HP := hide hP
  have HR0 := hide h
  have HA := hide hA
  have HD0 := hide (doneR_len xs (by have := hx.1; omega))
  have HF := hide (specFindSnapshot xs A c w hxm hxo (hA.mono (fun b hb => hb.2) (fun _ _ => rfl)))
  have HFl := hide (snapRR_len24 xs)
  clear h hP hA
  go_enter Tryz.func144, Tryz.ntmps144
  go_wp2_with fail
  refine HF.out.mono ?_
  rintro e w1 ⟨v1, rfl, hS1, hb1⟩
  obtain ⟨A1, c1, rfl, hle1, hcm1, hr1⟩ := hS1
  have HY1 := hide (show Row tInt w1 (fun b => w.heap.size ≤ b ∧ Old w1 b) A1 _ from hr1)
  have HR1 := hide (HR0.out.below hb1)
  have HG1 := hide (Gr.of_below hb1 (R := R))
  have HA1 := hide (HA.out.mono (w' := w1) (S' := fun b => R < b ∧ b < w1.heap.size) (fun b hb => ⟨hb.1, Nat.lt_of_lt_of_le hb.2 hb1.size⟩) (fun b hb => hb1.block b hb.2))
  clear hr1 hb1 HR0 HA HF
  cases hff : snapB xs
  focus
    clear HFl HY1 hff hle1 hcm1
    obtain ⟨w2, hw2⟩ : ∃ w2, w2 = w1 := ⟨_, rfl⟩
    rw [← hw2] at HR1 HG1 HA1 ⊢
    have HR2 := hide (HR1.out.up (Q := P + 1) (by omega))
    have HG2 := hide HG1.out
    have HA2 := hide HA1.out
    have HZ := hide (Nat.le_refl 0)
    clear HR1 HG1 HA1 hw2
  rotate_left
  focus
    go_wp2_with fail
    refine (pick_any _ R _ 4 HR1.out (by have := HP.out; omega)).mono ?_
    rintro e w2 ⟨z2, rfl, _, _, hr2, hg2⟩
    have HY2 := hide (HY1.out.mono (w' := w2) (S' := fun b => w.heap.size ≤ b ∧ Old w2 b) (fun b hb => ⟨hb.1, Nat.lt_of_lt_of_le hb.2 hg2.size⟩) (fun b hb => hg2.block b hb.2 (fun e => by injection e with e; have := HlR.out; have := hb.1; omega)))
    have HA2 := hide (HA1.out.mono (w' := w2) (S' := fun b => R < b ∧ b < w2.heap.size) (fun b hb => ⟨hb.1, Nat.lt_of_lt_of_le hb.2 hg2.size⟩) (fun b hb => hg2.block b hb.2 (fun e => by injection e with e; have := hb.1; omega)))
    have HR2 := hide hr2
    have HG2 := hide (gr_trans HG1.out hg2)
    clear hr2 hg2 HY1 HA1 HR1 HG1 hff
    by_cases h2 : z2 = 0
    focus
      have h2' : (z2 == 0) = true := by simp [h2]
      clear h2 HFl HY2 hle1 hcm1
      have HZ := hide (Nat.le_refl 0)
    rotate_left
    focus
      have h2' : (z2 == 0) = false := by simp [h2]
      clear h2
      obtain ⟨wA, hwA⟩ : ∃ wA, wA = w2 := ⟨_, rfl⟩
      rw [← hwA] at HY2 HR2 HG2 ⊢
      have HY := hide HY2.out
      have HRA := hide HR2.out
      have HGA := hide HG2.out
      have hyl := HFl.out
      generalize snapRR xs = ys at HY hyl hle1 ⊢
      obtain ⟨A5, hA5⟩ : ∃ A5, A5 = A1 := ⟨_, rfl⟩
      obtain ⟨c5, hc5⟩ : ∃ c5, c5 = c1 := ⟨_, rfl⟩
      rw [← hA5] at HY ⊢
      rw [← hc5]
      clear HY2 HR2 HG2 HA2 hwA hA5 hc5 hle1 hcm1 HFl
      all_goals
        have HOe := hide (Own.empty (T := tInt) (e := 3) wA (fun b => w.heap.size ≤ b) HGA.out.size)
        have HRy := hide ((HY.out.mono (w' := wA.alloc (.cells #[] 3)) (S' := fun b => w.heap.size ≤ b ∧ Old wA b) (fun _ h => h) (fun b hb => Below.heap_alloc _ _ _ hb.2)).anyInt)
        go_upto_region 10 with (at_builtin; refine wpList_cat tInt rfl (.tmp 43) (.tmp 44) 30 rfl 3 i0 _ 8 Tryz.underlying30 hi hz0 hz1 hz2 rfl (by decide) (fun b => w.heap.size ≤ b) (fun _ => False) [] ys _ rfl HOe.out A5 _ c5 rfl rfl HRy.out (fun _ h => h.elim) (fun b hb => Nat.le_trans HGA.out.size (Nat.le_trans (by simp) hb)) (by skip; simp only [maxLen, List.length_nil]; omega) (by skip; simp only [List.length_nil]; omega) ?_; intro v8 w8 hO_ hK_; have HO8 := hide (show Own tInt 3 w8 (fun b => w.heap.size ≤ b ∧ Old w8 b) ys v8 by simpa using hO_); have HR8 := hide ((HRA.out.alloc (.cells #[] 3)).only hK_ (fun b hb => Nat.lt_of_lt_of_le HlR.out hb)); have HG8 := hide (gr_only (gr_alloc HGA.out (.cells #[] 3)) hK_ (fun b hb => hb)); obtain ⟨A8, c8, hv8⟩ : ∃ A c, v8 = .slice A ys.length c := (by obtain ⟨A, c, h, _⟩ := HO8.out.sl; exact ⟨A, c, h⟩); obtain ⟨n8, hn8⟩ : ∃ n8, n8 = ys.length := ⟨_, rfl⟩; rw [← hn8] at hv8; subst hv8; have HN8 := hide hn8; have hn8l : n8 ≤ 100 := (by omega); clear hO_ hK_ hn8)
        clear HOe HRy HRA HGA HY
        clear hyl
        by_cases h1 : (1 : Int) < n8
        focus
          obtain ⟨g, cg, hge, hgS⟩ := HO8.out.form (by have := HN8.out; omega)
          rw [← HN8.out] at hge
          injection hge with hge1 _ hge2
          subst hge1
          subst hge2
          have hgw := hgS.1
          clear hgS
          go_wp2_with fail
          refine (pick_any _ R _ 2 HR8.out (by have := HP.out; omega)).mono ?_
          rintro e w9 ⟨z9, rfl, _, _, hr9, hg9⟩
          have HR9 := hide hr9
          have HG9 := hide (gr_trans HG8.out hg9)
          have HO9 := hide (Own.onlyGr HO8.out hg9 (by have := HlR.out; omega))
          clear hr9 hg9 HR8 HG8 HO8
          by_cases h9 : z9 = 0
          focus
            have h9' : (z9 == 0) = true := by simp [h9]
            clear h9
            go_wp2_with fail
            refine (pick_any _ R _ _ HR9.out (by have := HP.out; omega)).mono ?_
            rintro e wB ⟨q3, rfl, a3, b3, hrB, hgB⟩
            have hb3 := b3 (by omega)
            obtain ⟨q, rfl⟩ : ∃ n : Nat, q3 = (n : Int) := ⟨q3.toNat, by omega⟩
            have hq0 : q < ys.length := by have := HN8.out; omega
            have hq1 : q + 1 < ys.length := by have := HN8.out; omega
            have HOB := hide (Own.onlyGr HO9.out hgB (by have := HlR.out; omega))
            have HGB := hide (gr_trans HG9.out hgB)
            have HRB := hide hrB
            have k0 := (HOB.out.cellInt hq0).1
            have k1 := (HOB.out.cellInt hq1).1
            have f0 := (HOB.out.cellInt hq0).2
            have f1 := (HOB.out.cellInt hq1).2
            generalize ys[q] = a0 at k0
            generalize ys[q + 1] = a1 at k1
            have HOC := hide ((HOB.out.setInt hq0 a1).setInt (k := q + 1) (by rw [List.length_set]; exact hq1) a0)
            have HGC := hide (gr_setCell (gr_setCell HGB.out (p := ⟨g, q, none⟩) (.inr hgw) (.int .i64 a1)) (p := ⟨g, q + 1, none⟩) (.inr hgw) (.int .i64 a0))
            have HRC := hide ((HRB.out.far (p := ⟨g, q, none⟩) (by have := HlR.out; show R < g; omega) (.int .i64 a1)).far (p := ⟨g, q + 1, none⟩) (by have := HlR.out; show R < g; omega) (.int .i64 a0))
            have hql : (q : Int) + 1 < n8 := by omega
            have hql2 : (q : Int) < n8 := by omega
            clear b3 hb3 hrB hgB HO9 HR9 HG9 HGB HRB
            go_wp2_with fail
            refine (odd_any _ R _ 9 HRC.out (by have := HP.out; omega) (by decide)).mono ?_
            rintro e wD ⟨vD, rfl, hrD, hgD⟩
            have HRD := hide (hrD.up (Q := P + 5) (by omega))
            have HGD := hide (gr_trans HGC.out hgD)
            have HOD := hide (show Own tInt 3 wD (fun b => w.heap.size ≤ b ∧ Old wD b) ((ys.set q a1).set (q + 1) a0) (.slice (some ⟨g, 0, none⟩) n8 c8) from
              HOC.out.mono (fun b hb => ⟨hb.1, by have h1 := hb.2; have h2 := hgD.size; simp [World.setCell] at h2; unfold Old at h1 ⊢; omega⟩) (fun b hb => hgD.block b (by have h1 := hb.2; simp [World.setCell]; exact h1) (fun e => by injection e with e; have := HlR.out; have := hb.1; omega)))
            have HZl := hide (show ((ys.set q a1).set (q + 1) a0).length = n8 by rw [List.length_set, List.length_set]; exact HN8.out.symm)
            generalize (ys.set q a1).set (q + 1) a0 = zs at HOD HZl
            clear hrD hgD HOB HOC HGC HRC k0 k1 f0 f1 hq0 hq1
          rotate_left
          focus
            have h9' : (z9 == 0) = false := by simp [h9]
            clear h9
            go_wp2_with fail
            refine (odd_any _ R _ 9 HR9.out (by have := HP.out; omega) (by decide)).mono ?_
            rintro e wD ⟨vD, rfl, hrD, hgD⟩
            have HRD := hide (hrD.up (Q := P + 5) (by omega))
            have HGD := hide (gr_trans HG9.out hgD)
            have HOD := hide (Own.onlyGr HO9.out hgD (by have := HlR.out; omega))
            obtain ⟨zs, hzs⟩ : ∃ zs, zs = ys := ⟨_, rfl⟩
            have HOD := hide (show Own tInt 3 wD (fun b => w.heap.size ≤ b ∧ Old wD b) zs (.slice (some ⟨g, 0, none⟩) n8 c8) by rw [hzs]; exact HOD.out)
            have HZl := hide (show zs.length = n8 by rw [hzs]; exact HN8.out.symm)
            clear hrD hgD HR9 HG9 HO9 hzs
        rotate_left 2
        focus
          go_wp2_with fail
          refine (odd_any _ R _ 9 HR8.out (by have := HP.out; omega) (by decide)).mono ?_
          rintro e wD ⟨vD, rfl, hrD, hgD⟩
          have HRD := hide (hrD.up (Q := P + 5) (by omega))
          have HGD := hide (gr_trans HG8.out hgD)
          have HOD := hide (Own.onlyGr HO8.out hgD (by have := HlR.out; omega))
          obtain ⟨zs, hzs⟩ : ∃ zs, zs = ys := ⟨_, rfl⟩
          have HOD := hide (show Own tInt 3 wD (fun b => w.heap.size ≤ b ∧ Old wD b) zs (.slice A8 n8 c8) by rw [hzs]; exact HOD.out)
          have HZl := hide (show zs.length = n8 by rw [hzs]; exact HN8.out.symm)
          clear hrD hgD HR8 HG8 HO8 hzs
        all_goals
          cases vD with
          | false =>
            go_wp2_with fail
            go_ret
            exact ⟨zs, _, rfl, by have := HZl.out; omega, HOD.out.sl.mono (fun b hb => hb) (fun _ _ => rfl), HRD.out.up (by omega), HGD.out⟩
          | true =>
            go_wp2_with fail
            refine (pick_any _ R _ 4 HRD.out (by have := HP.out; omega)).mono ?_
            rintro e wE ⟨y, rfl, _, _, hrE, hgE⟩
            have HRE := hide hrE
            have HGE := hide (gr_trans HGD.out hgE)
            have HOE := hide (Own.onlyGr HOD.out hgE (by have := HlR.out; omega))
            clear hrE hgE HRD HGD HOD
            go_wp2_with (at_builtin; refine wpList_put tInt rfl (.tmp 78) (.tmp 81) 30 rfl 3 i0 _ 8 Tryz.underlying30 hi hz0 hz1 hz2 rfl (by decide) (fun b => w.heap.size ≤ b) (fun _ => False) zs y [.int .i64 y] _ rfl HOE.out _ rfl rfl (fun _ h => h.elim) (fun b hb => Nat.le_trans HGE.out.size hb) (by have := HZl.out; simp only [maxLen]; omega) (by have := HZl.out; omega) ?_; intro vF wF hO_ hK_; have HOF := hide hO_; have HRF := hide (HRE.out.only hK_ (fun b hb => Nat.lt_of_lt_of_le HlR.out hb)); have HGF := hide (gr_only HGE.out hK_ (fun b hb => hb)); clear hO_ hK_)
            go_ret
            exact ⟨zs ++ [y], vF, rfl, by have := HZl.out; simp; omega, HOF.out.sl.mono (fun b hb => hb) (fun _ _ => rfl), HRF.out.up (by omega), HGF.out⟩
  all_goals
    have HOe := hide (Own.empty (T := tInt) (e := 3) w2 (fun b => b = w2.heap.size) rfl)
    have HA3 := hide (HA2.out.mono (w' := w2.alloc (.cells #[] 3)) (S' := Old (w2.alloc (.cells #[] 3))) (fun b hb => Nat.lt_of_lt_of_le hb.2 (by simp)) (fun b hb => Below.heap_alloc _ _ _ hb.2))
    have HR3 := hide (HR2.out.alloc (.cells #[] 3))
    have HG3 := hide (gr_alloc HG2.out (.cells #[] 3))
    have HZ2 := hide (show w2.heap.size < (w2.alloc (.cells #[] 3)).heap.size by simp)
    have HGW := hide HG2.out.size
    clear HA2 HR2 HG2
    go_upto_region 4 with (fail)
    go_wp2_with fail
    refine (specDoneTxns xs A c _ hxm hxo HA3.out).mono ?_
    rintro e w3 ⟨v3, rfl, hO3, hb3⟩
    obtain ⟨A3, c3, rfl, hle3, hcm3, hr3⟩ := hO3.sl.fresh
    have HL3 := hide (show Row tInt w3 (fun b => w2.heap.size < b ∧ b < w3.heap.size) A3 (doneR xs) from by
      obtain ⟨A', c', hv', _, _, hr'⟩ := hO3.sl
      injection hv' with hv1 _ _
      subst hv1
      exact hr'.mono (fun b hb => ⟨Nat.lt_of_lt_of_le HZ2.out hb.1, hb.2⟩) (fun _ _ => rfl))
    have HO3 := hide (Own.onlyBelow HOe.out hb3)
    have HR4 := hide (HR3.out.below hb3)
    have HG4 := hide (gr_below HG3.out hb3)
    have hnl : (doneR xs).length ≤ 20 := HD0.out
    have HW2 := hide (show w2.heap.size < w3.heap.size from Nat.lt_of_lt_of_le HZ2.out hb3.size)
    generalize doneR xs = ls at HL3 hnl hle3 ⊢
    clear hr3 hO3 hb3 HOe HA3 HR3 HG3 HZ2 HZ
    have HKR := hide (show R < w.heap.size ∧ w.heap.size ≤ w2.heap.size ∧ w2.heap.size < w3.heap.size from ⟨HlR.out, HGW.out, HW2.out⟩)
    have HO3 := hide (show Own tInt 3 w3 (fun b => (b = w2.heap.size ∨ w3.heap.size ≤ b) ∧ Old w3 b) [] (.slice (some ⟨w2.heap.size, 0, none⟩) 0 0) from HO3.out.mono (fun b hb => ⟨.inl hb.1, hb.2⟩) (fun _ _ => rfl))
    have HN3 := hide (show Only (fun b => b = w2.heap.size ∨ w3.heap.size ≤ b) w3 w3 from ⟨rfl, rfl, rfl, Nat.le_refl _, fun _ _ _ => rfl⟩)
    go_wp2_with fail
    go_loopw [5, 8] (fun v k wr => ∃ (kk : Nat) (zs : List Int) (vo : Value), vo = v ∧ kk ≤ ls.length ∧ k = .int .i64 kk ∧ Hid (zs.length ≤ 2 * kk) ∧ Hid (Own tInt 3 wr (fun b => (b = w2.heap.size ∨ w3.heap.size ≤ b) ∧ Old wr b) zs v) ∧ Hid (Only (fun b => b = w2.heap.size ∨ w3.heap.size ≤ b) w3 wr)) (fun _ k _ => ls.length - (intOf k).toNat)
    case atStart => exact ⟨0, [], _, rfl, Nat.zero_le _, rfl, Nat.zero_le _, HO3.out, HN3.out⟩
    case round =>
      obtain ⟨kk, zs, vo, rfl, hkk, rfl, hzl, hO, hN⟩ := hrel
      clear HO3 HN3
      by_cases hlt : kk < ls.length
      · have HLk := hide (HL3.out.mono (w' := wr) (fun _ h => h) (fun b hb => hN.out.block b hb.2 (fun e => by have := hb.1; have := hb.2; omega)))
        obtain ⟨b, off, hAe, hbS, hrow⟩ := HLk.out (by omega)
        subst hAe
        obtain ⟨cs, hrr, hcs⟩ := hrow kk hlt
        obtain rfl : cs = [.int .i64 ls[kk]] := hrr
        have c0 : wr.cell? ⟨b, off + kk, none⟩ = some (.int .i64 ls[kk]) := by simpa [tInt, flat] using hcs 0 _ rfl
        generalize ls[kk] = x at c0
        have hki : (kk : Int) < (ls.length : Int) := by omega
        have HOw := hide hO.out
        have HNw := hide hN.out
        have HZw := hide hzl.out
        clear hO hN hzl hrow hcs hbS HLk
        have HOk := hide (show Own tInt 3 (wr.drew.alloc (.cells #[.int .i64 x, .int .i64 x] 3)) (fun b => (b = w2.heap.size ∨ w3.heap.size ≤ b) ∧ Old (wr.drew.alloc (.cells #[.int .i64 x, .int .i64 x] 3)) b) zs vo from HOw.out.mono (fun b hb => ⟨hb.1, Nat.lt_of_lt_of_le hb.2 (by rw [World.size_alloc]; exact Nat.le_succ _)⟩) (fun b hb => Below.heap_alloc wr.drew _ _ hb.2))
        have HNd := hide (show Only (fun b => b = w2.heap.size ∨ w3.heap.size ≤ b) w3 (wr.drew.alloc (.cells #[.int .i64 x, .int .i64 x] 3)) from (HNw.out.drewN 1).trans (Only.of_alloc _ _))
        have HRt := hide (show RowAny tInt (wr.drew.alloc (.cells #[.int .i64 x, .int .i64 x] 3)) (fun _ => False) (some ⟨wr.heap.size, 0, none⟩) [x, x] from row_two (w := wr.drew) x)
        clear HOw HNw
        obtain ⟨Av, cv, hve, _⟩ : ∃ A c, vo = .slice A zs.length c ∧ True := by obtain ⟨A, c, h, _⟩ := HOk.out.sl; exact ⟨A, c, h, trivial⟩
        obtain ⟨nz, hnz⟩ : ∃ n, n = zs.length := ⟨_, rfl⟩
        rw [← hnz] at hve
        subst hve
        clear hnz
        go_wp2_with fail
        go_region_law (refine wp_cat tInt (.tmp 32) (.tmp 41) 30 rfl 3 i0 _ 8 Tryz.underlying30 hi hz0 hz1 hz2 rfl (by decide) (fun b => b = w2.heap.size ∨ w3.heap.size ≤ b) (fun _ => False) zs [x, x] _ (by simp [Act.eval, Act.put]) HOk.out _ 2 2 (by simp [Act.eval, Act.put]) rfl HRt.out (fun _ h => h.elim) (fun b hb => .inr (Nat.le_trans HNd.out.size hb)) (by have := HZw.out; simp only [maxLen, List.length_cons, List.length_nil]; omega) (by have := HZw.out; simp only [List.length_cons, List.length_nil]; omega) ?_; intro v8 w8 hO_ hK_; have HO8 := hide hO_; have HN8 := hide (HNd.out.trans hK_); clear hO_ hK_)
        all_goals
          go_wp2_with fail
          go_roundw
          case rel => exact ⟨kk + 1, zs ++ [x, x], _, rfl, by omega, by go_num, by have := HZw.out; show _ ≤ _; simp; omega, HO8.out, HN8.out⟩
          case measure => simp [intOf]; omega
      · obtain rfl : kk = ls.length := by omega
        obtain ⟨wA, hwA⟩ : ∃ wA, wA = wr := ⟨_, rfl⟩
        rw [← hwA] at hO hN ⊢
        obtain ⟨A5, c5, hv5, hle5, hcm5, hr5⟩ := hO.out.sl
        have HY := hide (show Row tInt wA (fun b => w.heap.size ≤ b ∧ Old wA b) A5 zs from hr5.mono (fun b hb => ⟨by have := HKR.out; rcases hb.1 with h | h <;> omega, hb.2⟩) (fun _ _ => rfl))
        have HRA := hide (HR4.out.only hN.out (fun b hb => by have := HKR.out; rcases hb with h | h <;> omega))
        have HGA := hide (gr_only HG4.out hN.out (fun b hb => by have := HKR.out; rcases hb with h | h <;> omega))
        have hyl : zs.length ≤ 100 := by have := hzl.out; omega
        subst hv5
        obtain ⟨ys, hys⟩ : ∃ ys, ys = zs := ⟨_, rfl⟩
        rw [← hys] at HY hyl hle5 ⊢
        clear hO hN hzl hr5 hys hwA HL3 HR4 HG4 hle3 hcm3
        all_goals
          have HOe := hide (Own.empty (T := tInt) (e := 3) wA (fun b => w.heap.size ≤ b) HGA.out.size)
          have HRy := hide ((HY.out.mono (w' := wA.alloc (.cells #[] 3)) (S' := fun b => w.heap.size ≤ b ∧ Old wA b) (fun _ h => h) (fun b hb => Below.heap_alloc _ _ _ hb.2)).anyInt)
          go_upto_region 10 with (at_builtin; refine wpList_cat tInt rfl (.tmp 43) (.tmp 44) 30 rfl 3 i0 _ 8 Tryz.underlying30 hi hz0 hz1 hz2 rfl (by decide) (fun b => w.heap.size ≤ b) (fun _ => False) [] ys _ rfl HOe.out A5 _ c5 rfl rfl HRy.out (fun _ h => h.elim) (fun b hb => Nat.le_trans HGA.out.size (Nat.le_trans (by simp) hb)) (by skip; simp only [maxLen, List.length_nil]; omega) (by skip; simp only [List.length_nil]; omega) ?_; intro v8 w8 hO_ hK_; have HO8 := hide (show Own tInt 3 w8 (fun b => w.heap.size ≤ b ∧ Old w8 b) ys v8 by simpa using hO_); have HR8 := hide ((HRA.out.alloc (.cells #[] 3)).only hK_ (fun b hb => Nat.lt_of_lt_of_le HlR.out hb)); have HG8 := hide (gr_only (gr_alloc HGA.out (.cells #[] 3)) hK_ (fun b hb => hb)); obtain ⟨A8, c8, hv8⟩ : ∃ A c, v8 = .slice A ys.length c := (by obtain ⟨A, c, h, _⟩ := HO8.out.sl; exact ⟨A, c, h⟩); obtain ⟨n8, hn8⟩ : ∃ n8, n8 = ys.length := ⟨_, rfl⟩; rw [← hn8] at hv8; subst hv8; have HN8 := hide hn8; have hn8l : n8 ≤ 100 := (by omega); clear hO_ hK_ hn8)
          clear HOe HRy HRA HGA HY
          clear hyl
          by_cases h1 : (1 : Int) < n8
          focus
            obtain ⟨g, cg, hge, hgS⟩ := HO8.out.form (by have := HN8.out; omega)
            rw [← HN8.out] at hge
            injection hge with hge1 _ hge2
            subst hge1
            subst hge2
            have hgw := hgS.1
            clear hgS
            go_wp2_with fail
            refine (pick_any _ R _ 2 HR8.out (by have := HP.out; omega)).mono ?_
            rintro e w9 ⟨z9, rfl, _, _, hr9, hg9⟩
            have HR9 := hide hr9
            have HG9 := hide (gr_trans HG8.out hg9)
            have HO9 := hide (Own.onlyGr HO8.out hg9 (by have := HlR.out; omega))
            clear hr9 hg9 HR8 HG8 HO8
            by_cases h9 : z9 = 0
            focus
              have h9' : (z9 == 0) = true := by simp [h9]
              clear h9
              go_wp2_with fail
              refine (pick_any _ R _ _ HR9.out (by have := HP.out; omega)).mono ?_
              rintro e wB ⟨q3, rfl, a3, b3, hrB, hgB⟩
              have hb3 := b3 (by omega)
              obtain ⟨q, rfl⟩ : ∃ n : Nat, q3 = (n : Int) := ⟨q3.toNat, by omega⟩
              have hq0 : q < ys.length := by have := HN8.out; omega
              have hq1 : q + 1 < ys.length := by have := HN8.out; omega
              have HOB := hide (Own.onlyGr HO9.out hgB (by have := HlR.out; omega))
              have HGB := hide (gr_trans HG9.out hgB)
              have HRB := hide hrB
              have k0 := (HOB.out.cellInt hq0).1
              have k1 := (HOB.out.cellInt hq1).1
              have f0 := (HOB.out.cellInt hq0).2
              have f1 := (HOB.out.cellInt hq1).2
              generalize ys[q] = a0 at k0
              generalize ys[q + 1] = a1 at k1
              have HOC := hide ((HOB.out.setInt hq0 a1).setInt (k := q + 1) (by rw [List.length_set]; exact hq1) a0)
              have HGC := hide (gr_setCell (gr_setCell HGB.out (p := ⟨g, q, none⟩) (.inr hgw) (.int .i64 a1)) (p := ⟨g, q + 1, none⟩) (.inr hgw) (.int .i64 a0))
              have HRC := hide ((HRB.out.far (p := ⟨g, q, none⟩) (by have := HlR.out; show R < g; omega) (.int .i64 a1)).far (p := ⟨g, q + 1, none⟩) (by have := HlR.out; show R < g; omega) (.int .i64 a0))
              have hql : (q : Int) + 1 < n8 := by omega
              have hql2 : (q : Int) < n8 := by omega
              clear b3 hb3 hrB hgB HO9 HR9 HG9 HGB HRB
              go_wp2_with fail
              refine (odd_any _ R _ 9 HRC.out (by have := HP.out; omega) (by decide)).mono ?_
              rintro e wD ⟨vD, rfl, hrD, hgD⟩
              have HRD := hide (hrD.up (Q := P + 5) (by omega))
              have HGD := hide (gr_trans HGC.out hgD)
              have HOD := hide (show Own tInt 3 wD (fun b => w.heap.size ≤ b ∧ Old wD b) ((ys.set q a1).set (q + 1) a0) (.slice (some ⟨g, 0, none⟩) n8 c8) from
                HOC.out.mono (fun b hb => ⟨hb.1, by have h1 := hb.2; have h2 := hgD.size; simp [World.setCell] at h2; unfold Old at h1 ⊢; omega⟩) (fun b hb => hgD.block b (by have h1 := hb.2; simp [World.setCell]; exact h1) (fun e => by injection e with e; have := HlR.out; have := hb.1; omega)))
              have HZl := hide (show ((ys.set q a1).set (q + 1) a0).length = n8 by rw [List.length_set, List.length_set]; exact HN8.out.symm)
              generalize (ys.set q a1).set (q + 1) a0 = zs at HOD HZl
              clear hrD hgD HOB HOC HGC HRC k0 k1 f0 f1 hq0 hq1
            rotate_left
            focus
              have h9' : (z9 == 0) = false := by simp [h9]
              clear h9
              go_wp2_with fail
              refine (odd_any _ R _ 9 HR9.out (by have := HP.out; omega) (by decide)).mono ?_
              rintro e wD ⟨vD, rfl, hrD, hgD⟩
              have HRD := hide (hrD.up (Q := P + 5) (by omega))
              have HGD := hide (gr_trans HG9.out hgD)
              have HOD := hide (Own.onlyGr HO9.out hgD (by have := HlR.out; omega))
              obtain ⟨zs, hzs⟩ : ∃ zs, zs = ys := ⟨_, rfl⟩
              have HOD := hide (show Own tInt 3 wD (fun b => w.heap.size ≤ b ∧ Old wD b) zs (.slice (some ⟨g, 0, none⟩) n8 c8) by rw [hzs]; exact HOD.out)
              have HZl := hide (show zs.length = n8 by rw [hzs]; exact HN8.out.symm)
              clear hrD hgD HR9 HG9 HO9 hzs
          rotate_left 2
          focus
            go_wp2_with fail
            refine (odd_any _ R _ 9 HR8.out (by have := HP.out; omega) (by decide)).mono ?_
            rintro e wD ⟨vD, rfl, hrD, hgD⟩
            have HRD := hide (hrD.up (Q := P + 5) (by omega))
            have HGD := hide (gr_trans HG8.out hgD)
            have HOD := hide (Own.onlyGr HO8.out hgD (by have := HlR.out; omega))
            obtain ⟨zs, hzs⟩ : ∃ zs, zs = ys := ⟨_, rfl⟩
            have HOD := hide (show Own tInt 3 wD (fun b => w.heap.size ≤ b ∧ Old wD b) zs (.slice A8 n8 c8) by rw [hzs]; exact HOD.out)
            have HZl := hide (show zs.length = n8 by rw [hzs]; exact HN8.out.symm)
            clear hrD hgD HR8 HG8 HO8 hzs
          all_goals
            cases vD with
            | false =>
              go_wp2_with fail
              go_ret
              exact ⟨zs, _, rfl, by have := HZl.out; omega, HOD.out.sl.mono (fun b hb => hb) (fun _ _ => rfl), HRD.out.up (by omega), HGD.out⟩
            | true =>
              go_wp2_with fail
              refine (pick_any _ R _ 4 HRD.out (by have := HP.out; omega)).mono ?_
              rintro e wE ⟨y, rfl, _, _, hrE, hgE⟩
              have HRE := hide hrE
              have HGE := hide (gr_trans HGD.out hgE)
              have HOE := hide (Own.onlyGr HOD.out hgE (by have := HlR.out; omega))
              clear hrE hgE HRD HGD HOD
              go_wp2_with (at_builtin; refine wpList_put tInt rfl (.tmp 78) (.tmp 81) 30 rfl 3 i0 _ 8 Tryz.underlying30 hi hz0 hz1 hz2 rfl (by decide) (fun b => w.heap.size ≤ b) (fun _ => False) zs y [.int .i64 y] _ rfl HOE.out _ rfl rfl (fun _ h => h.elim) (fun b hb => Nat.le_trans HGE.out.size hb) (by have := HZl.out; simp only [maxLen]; omega) (by have := HZl.out; omega) ?_; intro vF wF hO_ hK_; have HOF := hide hO_; have HRF := hide (HRE.out.only hK_ (fun b hb => Nat.lt_of_lt_of_le HlR.out hb)); have HGF := hide (gr_only HGE.out hK_ (fun b hb => hb)); clear hO_ hK_)
              go_ret
              exact ⟨zs ++ [y], vF, rfl, by have := HZl.out; simp; omega, HOF.out.sl.mono (fun b hb => hb) (fun _ _ => rfl), HRF.out.up (by omega), HGF.out⟩
def DrawnHI (w : World) (e : Ending) (w' : World) : Prop := ∃ (xs : List Txn) (o : List Int) (v u : Value), e = .returned (.tuple #[v, u]) ∧ HistS xs ∧ o.length ≤ 101 ∧ Sl tTxn w' (Old w') xs v ∧ Sl tInt w' (Old w') o u ∧ Below w.heap.size w w'
set_option maxRecDepth 10000 in
set_option maxHeartbeats 2000000 in
theorem drawSnapshotRight (bs : List Int) (A : Option Addr) (c : Nat) (w : World) (hl : bs.length ≤ 1048576) (hc : bs.length ≤ c) (hcm : c ≤ maxLen) (hA : Row tByte w (Old w) A bs) :
    Calls Tryz.prog 93 #[.slice A bs.length c] w (DrawnHI w) := by
  have HC := hide (open_any bs A c w hl hc hcm hA)
  clear hA
  go_enter Tryz.func93, Tryz.ntmps93
  go_wp2_with fail
  refine HC.out.mono ?_
  rintro e w1 ⟨R, rfl, hR0, hr1, hb1⟩
  have HB1 := hide hb1
  have HR1 := hide hr1
  have HRw := hide hR0
  have HRl := hide hr1.lt
  clear hb1 hr1 hR0 HC
  go_wp2_with fail
  refine (history_any _ R 0 4 12 HR1.out (by omega) (by omega) (by omega) (by omega)).mono ?_
  rintro e w4 ⟨xs, v, rfl, hx, ho, hS, hr4, hg4⟩
  have HX := hide (show HistS xs from ⟨hx, ho⟩)
  have HS4 := hide hS
  have HR4 := hide hr4
  have HG4 := hide hg4
  clear hx ho hS hr4 hg4 HR1
  obtain ⟨A4, c4, rfl, h41, h42, hr4⟩ := HS4.out
  have HC := hide (schedule_any w4 R _ xs A4 c4 HR4.out (by omega) HX.out (hr4.mono (fun b hb => ⟨Nat.lt_of_lt_of_le HRl.out hb.1, hb.2⟩) (fun _ _ => rfl)))
  have HT4 := hide hr4
  clear hr4 HS4 HR4
  go_wp2_with fail
  refine HC.out.mono ?_
  rintro e w5 ⟨o, u, rfl, hol, hS5, hr5, hg5⟩
  go_wp2_with fail
  go_ret2
  exact ⟨xs, o, _, u, rfl, HX.out, hol, (Sl.grNew ⟨A4, c4, rfl, h41, h42, HT4.out⟩ hg5 HRl.out).newOld, hS5.newOld, below_gr HB1.out (gr_trans HG4.out hg5) HB1.out.size HRw.out⟩
theorem drawCommitOrders (bs : List Int) (A : Option Addr) (c : Nat) (w : World) (hl : bs.length ≤ 1048576) (hc : bs.length ≤ c) (hcm : c ≤ maxLen) (hA : Row tByte w (Old w) A bs) :
    Calls Tryz.prog 32 #[.slice A bs.length c] w (DrawnHI w) := by
  have HD := hide (drawSnapshotRight bs A c w hl hc hcm hA)
  clear hA
  go_enter Tryz.func32, Tryz.ntmps32
  go_wp2_with (go_at_call 93; refine HD.out.mono ?_; rintro e w1 ⟨xs, o, v, u, rfl, hS, hol, ho, hu, hb1⟩; have HO := hide ho; have HU := hide hu; have HB := hide hb1; clear ho hu hb1)
  go_ret2
  exact ⟨xs, o, v, u, rfl, hS, hol, HO.out, HU.out, HB.out⟩
end Go.Proofs.YtkcobaimcfggjaaGreatDoor
