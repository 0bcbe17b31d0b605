/- Comparing equal data of the laws package answers true. Comparing equal data of the laws package answers true: transactions. The law of ReadHistory: the program answers as the reference does, for all arguments, in memory of its own. -/
import Derived.Test.YtjnghnkilnhacaaGreatDoorProg
import Derived.Test.YtjnghnkilnhacaaGreatDoorQElems
import Derived.Test.YtjnghnkilnhacaaGreatDoorQPHistT
import Derived.Test.YtjnghnkilnhacaaGreatDoorQHoldX
namespace Go.Proofs.YtjnghnkilnhacaaGreatDoor
open Go.RowKit

theorem eqOp (x : Op) (w : World) :
    Calls Tryz.prog 82 #[.agg #[.int .i64 x.Kind, .int .i64 x.Key, .int .i64 x.Value], .agg #[.int .i64 x.Kind, .int .i64 x.Key, .int .i64 x.Value]] w fun e w' => e = .returned (.bool true) ∧ Below w.heap.size w w' := by
  go_enter Tryz.func82, Tryz.ntmps82
  go_wp2
  go_ret
  exact ⟨rfl, ((Below.refl _ _).alloc (Nat.le_refl _) _).alloc (by simp) _⟩
set_option maxRecDepth 10000 in
set_option maxHeartbeats 400000 in
theorem eqOpS (xs : List Op) (A B : Option Addr) (c d : Nat) (w : World) (hl : xs.length ≤ maxLen) (hA : Row tOp w (Old w) A xs) (hB : Row tOp w (Old w) B xs) :
    Calls Tryz.prog 62 #[.slice A xs.length c, .slice B xs.length d] w fun e w' => e = .returned (.bool true) ∧ Below w.heap.size w w' := by
  unfold maxLen at hl
  go_enter Tryz.func62, Tryz.ntmps62
  go_wp2
  go_loopw [5] (fun i wr => ∃ k : Nat, k ≤ xs.length ∧ i = .int .i64 k ∧ Below w.heap.size w wr) (fun i _ => xs.length - (intOf i).toNat)
  case atStart => exact ⟨0, Nat.zero_le _, rfl, Below.refl _ _⟩
  case round =>
    obtain ⟨k, hk, rfl, hb⟩ := hrel
    by_cases hlt : k < xs.length
    · obtain ⟨b, off, rfl, hbS, c0_, c1_, c2_⟩ := at_Op hA hb hlt
      obtain ⟨b2, off2, rfl, hbS2, d0_, d1_, d2_⟩ := at_Op hB hb hlt
      clear hA hB
      go_wp2
      go_still_tail 8, (by kernel_rfl)
      have hbd : Below wr.heap.size wr wr.drew := (Below.refl _ _).drew
      change wpList _ _ _ _ _ wr.drew
      have hcall := (eqOp xs[k] wr.drew)
      have hb2 : Below w.heap.size w wr.drew := hb.drew
      clear hbd
      generalize wr.drew = w2 at hb2 hcall ⊢
      have HC := hide hcall
      clear hcall
      go_wp2_with (go_at_call 82; refine HC.out.mono ?_; rintro e w' ⟨rfl, hb'⟩)
      go_roundw
      case rel => exact ⟨k + 1, by omega, by go_num, hb2.trans (hb'.mono hb2.size)⟩
      case measure => simp [intOf]; omega
    · clear hA hB
      go_wp2
      go_ret
      exact ⟨rfl, hb⟩
end Go.Proofs.YtjnghnkilnhacaaGreatDoor
namespace Go.Proofs.YtjnghnkilnhacaaGreatDoor
open Go.RowKit

set_option maxHeartbeats 400000 in
theorem eqTxn (x : Txn) (w : World) (A B : Option Addr) (c d : Nat) (hl : x.Ops.length ≤ maxLen) (hA : Row tOp w (Old w) A x.Ops) (hB : Row tOp w (Old w) B x.Ops) :
    Calls Tryz.prog 32 #[.agg #[.int .i64 x.Session, .slice A x.Ops.length c, .bool x.Done], .agg #[.int .i64 x.Session, .slice B x.Ops.length d, .bool x.Done]] w fun e w' => e = .returned (.bool true) ∧ Below w.heap.size w w' := by
  go_enter Tryz.func32, Tryz.ntmps32
  go_wp2_with (go_at_call 62; refine (eqOpS x.Ops A B c d _ hl (hA.old (((Below.refl _ w).alloc (Nat.le_refl _) _).alloc (by simp) _)) (hB.old (((Below.refl _ w).alloc (Nat.le_refl _) _).alloc (by simp) _))).mono ?_; rintro e w' ⟨rfl, hb'⟩; have HB := hide hb'; clear hb'; clear hA hB; obtain ⟨hc, hf⟩ := bcell HB.out; have hz : w.heap.size + 2 ≤ w'.heap.size := (by have := HB.out.size; simpa using this))
  go_ret
  exact ⟨rfl, (((Below.refl _ w).alloc (Nat.le_refl _) _).alloc (by simp) _).trans (HB.out.mono (by simp; omega))⟩
set_option maxRecDepth 10000 in
set_option maxHeartbeats 400000 in
theorem eqTxnS (xs : List Txn) (A B : Option Addr) (c d : Nat) (w : World) (hl : xs.length ≤ maxLen) (hn : ∀ x ∈ xs, x.Ops.length ≤ maxLen) (hA : Row tTxn w (Old w) A xs) (hB : Row tTxn w (Old w) B xs) :
    Calls Tryz.prog 14 #[.slice A xs.length c, .slice B xs.length d] w fun e w' => e = .returned (.bool true) ∧ Below w.heap.size w w' := by
  unfold maxLen at hl
  go_enter Tryz.func14, Tryz.ntmps14
  go_wp2
  go_loopw [5] (fun i wr => ∃ k : Nat, k ≤ xs.length ∧ i = .int .i64 k ∧ Below w.heap.size w wr) (fun i _ => xs.length - (intOf i).toNat)
  case atStart => exact ⟨0, Nat.zero_le _, rfl, Below.refl _ _⟩
  case round =>
    obtain ⟨k, hk, rfl, hb⟩ := hrel
    by_cases hlt : k < xs.length
    · have hi0 := hn xs[k] (List.getElem_mem hlt)
      obtain ⟨b, off, A3, c3, rfl, hbS, c0_, c1_, c2_, hi1, hi2, hi3⟩ := at_Txn hA hb hlt
      obtain ⟨b2, off2, A4, c4, rfl, hbS2, d0_, d1_, d2_, hj1, hj2, hj3⟩ := at_Txn hB hb hlt
      clear hA hB hn
      have HI := hide hi3; clear hi3; have HJ := hide hj3; clear hj3
      go_wp2
      go_still_tail 8, (by kernel_rfl)
      have hbd : Below wr.heap.size wr wr.drew := (Below.refl _ _).drew
      change wpList _ _ _ _ _ wr.drew
      have hcall := (eqTxn xs[k] wr.drew A3 A4 c3 c4 hi0 (HI.out.old hbd) (HJ.out.old hbd))
      have hb2 : Below w.heap.size w wr.drew := hb.drew
      clear hbd
      generalize wr.drew = w2 at hb2 hcall ⊢
      have HC := hide hcall
      clear hcall
      go_wp2_with (go_at_call 32; refine HC.out.mono ?_; rintro e w' ⟨rfl, hb'⟩)
      go_roundw
      case rel => exact ⟨k + 1, by omega, by go_num, hb2.trans (hb'.mono hb2.size)⟩
      case measure => simp [intOf]; omega
    · clear hA hB hn
      go_wp2
      go_ret
      exact ⟨rfl, hb⟩
end Go.Proofs.YtjnghnkilnhacaaGreatDoor
namespace Go.Proofs.YtjnghnkilnhacaaGreatDoor
open Go.RowKit
set_option linter.unusedVariables false
set_option linter.unusedSimpArgs false

theorem rdH_len (l : Bs) : (rdH l).length ≤ 6 ∧ ∀ x ∈ rdH l, x.Ops.length ≤ 6 := by
  unfold rdH
  cases h : readHL l with
  | none => exact ⟨by simp, fun x hx => by cases hx⟩
  | some t =>
    obtain ⟨h1, h2⟩ := histV_parts (readHL_some h).1
    exact ⟨h1, fun x hx => (txnOk_parts' (h2 x hx)).2.2⟩
/-- The reference's list below n, marked memory S. -/
structure TH (w W : World) (S : Nat → Prop) (n : Nat) (A : Option Addr) (xs : List Txn) : Prop where
  r0 : Row tTxn W (fun b => b < n) A xs
  nn : n ≤ W.heap.size
  sw : ∀ b, S b → w.heap.size ≤ b ∧ n ≤ b ∧ b < W.heap.size
  bel : Below w.heap.size w W
section
variable {w W W' : World} {S : Nat → Prop} {n : Nat} {A : Option Addr} {xs : List Txn}
theorem TH.below (h : TH w W S n A xs) (hb : Below W.heap.size W W') : TH w W' S n A xs :=
  ⟨h.r0.mono (fun _ h => h) (fun b hl => hb.block b (Nat.lt_of_lt_of_le hl h.nn)), Nat.le_trans h.nn hb.size,
    fun b hs => by obtain ⟨h1, h2, h3⟩ := h.sw b hs; exact ⟨h1, h2, Nat.lt_of_lt_of_le h3 hb.size⟩, h.bel.trans (hb.mono h.bel.size)⟩
theorem TH.only (h : TH w W S n A xs) (ho : Only S W W') : TH w W' S n A xs :=
  ⟨h.r0.mono (fun _ h => h) (fun b hl => ho.block b (Nat.lt_of_lt_of_le hl h.nn) (fun e => Nat.lt_irrefl _ (Nat.lt_of_lt_of_le hl (h.sw b e).2.1))), Nat.le_trans h.nn ho.size,
    fun b hs => by obtain ⟨h1, h2, h3⟩ := h.sw b hs; exact ⟨h1, h2, Nat.lt_of_lt_of_le h3 ho.size⟩, below_only h.bel ho h.bel.size (fun i hi => (h.sw i hi).1)⟩
theorem TH.row (h : TH w W S n A xs) : Row tTxn W (Old W) A xs := h.r0.mono (fun b hl => Nat.lt_of_lt_of_le hl h.nn) (fun _ _ => rfl)
theorem TH.old (h : TH w W S n A xs) : ∀ b, S b → Old W b := fun b hs => (h.sw b hs).2.2
end
set_option maxRecDepth 10000 in
set_option maxHeartbeats 4000000 in
theorem lawRdH (s : ByteArray) (w : World) (hE : ErrOk w) :
    Calls Tryz.prog 4 #[.string s] w fun e w' => e = .returned (.bool true) ∧ Below w.heap.size w w' := by
  by_cases hl : s.size ≤ 1048576
  rotate_left
  · clear hE
    go_enter Tryz.func4, Tryz.ntmps4
    go_wp2_with fail
    go_ret
    exact ⟨rfl, Below.refl _ _⟩
  have HI := hide (fun (W : World) (h : ErrOk W) => implReadHistory s W hl h)
  have HSp := hide (fun (W : World) => specReadHistory s W hl)
  have HE := hide hE
  obtain ⟨hxl, hxo⟩ := rdH_len s.data.toList
  clear hE
  generalize rdH s.data.toList = xs at HI HSp hxl hxo
  generalize (readHL s.data.toList).isSome = ok at HI HSp
  have HXo := hide hxo
  clear hxo
  have hbb : (ok != ok) = false := by simp
  obtain ⟨rr, hrr⟩ : ∃ rr : Int, rr = kAt 1 (lensT xs) xs.length := ⟨_, rfl⟩
  have hr0 : ¬ rr < 0 := by have := kAt_ge 1 (lensT xs) xs.length; omega
  have hr1 : decide (rr < 0) = false := decide_eq_false hr0
  have HRr := hide hrr
  clear hrr
  go_enter Tryz.func4, Tryz.ntmps4
  go_upto_region 4 with (go_at_call 13; refine (HSp.out _).mono ?_; rintro e w1 ⟨v0, rfl, hS, hb⟩; obtain ⟨A0, c0, rfl, _, _, hR⟩ := hS; have HR0 := hide hR; have HB1 := hide hb; clear hb hR)
  have HE1 := hide (HE.out.below HB1.out)
  go_upto_region 5 with (go_at_call 11; refine (HI.out _ HE1.out).mono ?_; rintro e w2 ⟨v1, rfl, hH, hb⟩; have hH2 := hH.sl; obtain ⟨A1, c1, rfl, _, _, _⟩ := hH2; have HH1 := hide hH; have HT2 := hide (show TH w w2 (New w1 w2) w1.heap.size A0 xs from ⟨HR0.out.mono (fun b h => h.2) (fun b h => hb.block b h.2), hb.size, fun b h => ⟨Nat.le_trans HB1.out.size h.1, h.1, h.2⟩, HB1.out.trans (hb.mono HB1.out.size)⟩); clear hH hb)
  clear HR0 HB1 HE1
  generalize New w1 w2 = S at HH1 HT2
  generalize w1.heap.size = n at HT2
  have HQ := hide (eqTxnS xs A1 A0 c1 c0 w2 (by simp only [maxLen]; omega) (fun x hx => by have := HXo.out x hx; simp only [maxLen]; omega) (HH1.out.sl.row.mono (fun b hb => HT2.out.old b hb) (fun _ _ => rfl)) HT2.out.row)
  go_upto_region 7 with (go_at_call 14; refine HQ.out.mono ?_; rintro e w5 ⟨rfl, hb⟩; have HT5 := hide (HT2.out.below hb); have HH5 := hide (HH1.out.mono (fun _ h => h) (fun b h => hb.block b (HT2.out.old b h))); clear hb)
  clear HQ HT2 HH1
  have HM := markTxn_hold xs 1 A1 c1 w5 S (by omega) (fun x hx => by have := HXo.out x hx; omega) (by omega) (by omega) HH5.out
  rw [← HRr.out] at HM
  have HM := hide HM
  clear HH5
  go_upto_region 9 with (go_at_call 15; refine HM.out.mono ?_; rintro e w6 ⟨gs, rfl, ho, hk⟩; have HT6 := hide (HT5.out.only ho); have HK := hide hk; clear ho hk)
  clear HM HT5
  have HHl := heldTxn_list xs gs 1 A1 c1 w6 S (by omega) (fun x hx => by have := HXo.out x hx; omega) (by omega) (by omega) HK.out
  rw [← HRr.out] at HHl
  have HHl := hide HHl
  go_upto_region 15 with (go_at_call 16; refine HHl.out.mono ?_; rintro e w7 ⟨rfl, rfl⟩)
  clear HHl
  have HE7 := hide (HE.out.below HT6.out.bel)
  go_upto_region 16 with (go_at_call 11; refine (HI.out _ HE7.out).mono ?_; rintro e w8 ⟨v2, rfl, hH, hb⟩; have hH2 := hH.sl; obtain ⟨A2, c2, rfl, _, _, hR2⟩ := hH2; have HR2 := hide (hR2.mono (S' := Old w8) (fun b h => h.2) (fun _ _ => rfl)); have HT8 := hide (HT6.out.below hb); have HK8 := hide (HK.out.keep (fun b h => hb.block b (HT6.out.old b h))); clear hH hb hR2)
  clear HK HT6 HE7
  have HQ := hide (eqTxnS xs A2 A0 c2 c0 w8 (by simp only [maxLen]; omega) (fun x hx => by have := HXo.out x hx; simp only [maxLen]; omega) HR2.out HT8.out.row)
  go_upto_region 18 with (go_at_call 14; refine HQ.out.mono ?_; rintro e w10 ⟨rfl, hb⟩; have HT10 := hide (HT8.out.below hb); have HK := hide (HK8.out.keep (fun b h => hb.block b (HT8.out.old b h))); clear hb)
  clear HQ HT8 HK8 HR2
  have HHl := heldTxn_list xs gs 1 A1 c1 w10 S (by omega) (fun x hx => by have := HXo.out x hx; omega) (by omega) (by omega) HK.out
  rw [← HRr.out] at HHl
  have HHl := hide HHl
  go_wp2_with (go_at_call 16; refine HHl.out.mono ?_; rintro e w11 ⟨rfl, rfl⟩)
  go_ret
  exact ⟨rfl, HT10.out.bel⟩
end Go.Proofs.YtjnghnkilnhacaaGreatDoor
