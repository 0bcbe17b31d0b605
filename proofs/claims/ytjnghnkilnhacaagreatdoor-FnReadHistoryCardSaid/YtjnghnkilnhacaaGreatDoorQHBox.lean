/- The reference's TxnText. The conversions of the laws package make new memory that reads as their argument: ints, spans, operations, edges. l20Turns and DrawScheduleValid: some list of numbers, in memory of the call's own. A variable of the call's own beside a slice that grows and a reader that goes on. One round of l20History: the transaction that grows, the values seen, the values stored, the history so far and the reader. l20Op: some operation. -/
import Derived.Test.YtjnghnkilnhacaaGreatDoorQTxtR
import Derived.Test.YtjnghnkilnhacaaGreatDoorQTxtH
import Derived.Test.YtjnghnkilnhacaaGreatDoorProg
import Derived.Test.YtjnghnkilnhacaaGreatDoorQElems
import Derived.Test.YtjnghnkilnhacaaGreatDoorQTabT
namespace Go.Proofs.YtjnghnkilnhacaaGreatDoor
open Go.RowKit
set_option linter.unusedVariables false
set_option linter.unusedSimpArgs false

/-- The text of a transaction, "" where it is not valid. -/
def txnB (t : Txn) : ByteArray := if txnOk t then ⟨(txnL t).toArray⟩ else ⟨#[]⟩
theorem joinTail_snoc (w : Bs) : ∀ (ws : List Bs), Lib.joinTail [32] (ws ++ [w]) = Lib.joinTail [32] ws ++ 32 :: w
  | [] => by simp [Lib.joinTail]
  | v :: ws => by
    have ih := joinTail_snoc w ws
    simp only [Lib.joinTail] at ih ⊢
    simp [ih]
theorem join_snoc (w : Bs) : ∀ (ws : List Bs), ws ≠ [] → Lib.join (ws ++ [w]) [32] = Lib.join ws [32] ++ 32 :: w
  | [], h => absurd rfl h
  | v :: ws, _ => by
    rw [List.cons_append, Lib.join_cons, Lib.join_cons, joinTail_snoc, List.append_assoc]
theorem data_app (a b : ByteArray) : (a ++ b).data.toList = a.data.toList ++ b.data.toList := by rw [ByteArray.data_append]; simp
/-- The text with the first k operations. -/
def prefL (t : Txn) (k : Nat) : Bs := Lib.join ((115 :: decL t.Session.toNat) :: (if t.Done then [111, 107] else [111, 102, 102]) :: (t.Ops.take k).map opL) [32]
theorem prefL_zero (t : Txn) : prefL t 0 = 115 :: (decL t.Session.toNat ++ (if t.Done then [32, 111, 107] else [32, 111, 102, 102])) := by
  unfold prefL
  rw [List.take_zero, List.map_nil, Lib.join_cons]
  cases t.Done <;> rfl
theorem prefL_succ (t : Txn) (k : Nat) (hk : k < t.Ops.length) : prefL t (k + 1) = prefL t k ++ 32 :: opL t.Ops[k] := by
  unfold prefL
  rw [List.take_succ_eq_append_getElem hk, List.map_append, ← List.cons_append, ← List.cons_append]
  exact join_snoc _ _ (by simp)
theorem prefL_all (t : Txn) : prefL t t.Ops.length = txnL t := by unfold prefL txnL txnW; rw [List.take_length]
theorem opL_len {o : Op} (h : opOk o = true) : (opL o).length ≤ 5 := by
  rw [opL_form h]
  have := (decL_len o.Value.toNat).2
  simp
  omega
theorem prefL_len {t : Txn} (h : txnOk t = true) : ∀ k, k ≤ t.Ops.length → (prefL t k).length ≤ 7 + 6 * k
  | 0, _ => by
    have := (decL_len t.Session.toNat).2
    rw [prefL_zero]
    cases t.Done <;> simp <;> omega
  | k + 1, hk => by
    have ih := prefL_len h k (by omega)
    have := opL_len ((txnOk_parts' h).1 _ (List.getElem_mem (show k < t.Ops.length by omega)))
    rw [prefL_succ t k (by omega), List.length_append, List.length_cons]
    omega
theorem ba_list {s : ByteArray} {l : Bs} (h : s.data.toList = l) : s = ⟨l.toArray⟩ := by subst h; rfl
theorem ba_size {s : ByteArray} {l : Bs} (h : s.data.toList = l) : s.size = l.length := by subst h; rw [Array.length_toList]; rfl
set_option maxRecDepth 10000 in
set_option maxHeartbeats 4000000 in
theorem specTxnText (t : Txn) (A : Option Addr) (c : Nat) (w : World) (hm : t.Ops.length ≤ maxLen) (hA : Row tOp w (Old w) A t.Ops) : Calls Tryz.prog 23 #[.agg #[.int .i64 t.Session, .slice A t.Ops.length c, .bool t.Done]] w fun e w' => e = .returned (.string (txnB t)) ∧ Below w.heap.size w w' := by
  have HB0 := hide ((Below.refl _ w).alloc (Nat.le_refl _) (.cells #[.int .i64 t.Session, .slice A t.Ops.length c, .bool t.Done] 41))
  have HX0 := hide (Blk.new w 41 #[.int .i64 t.Session, .slice A t.Ops.length c, .bool t.Done])
  have HV := hide (specTxnValid t A c _ hm (hA.old HB0.out))
  have HA := hide hA
  have hq : t.Ops.length ≤ 9223372036854775807 := by simpa [maxLen] using hm
  clear hA hm
  cases q1 : txnOk t with
  | false =>
    have HR := hide (show txnB t = ⟨#[]⟩ by unfold txnB; rw [q1]; rfl)
    rw [q1] at HV
    clear q1
    go_enter Tryz.func23, Tryz.ntmps23
    go_upto_region 1 with fail
    generalize w.alloc _ = W at HB0 HX0 HV ⊢
    have x0 := HX0.out.cell 0; have x1 := HX0.out.cell 1; have x2 := HX0.out.cell 2
    simp only [List.getElem?_toArray, List.getElem?_cons_zero, List.getElem?_cons_succ] at x0 x1 x2
    go_wp2_with (go_at_call 24; refine HV.out.mono ?_; rintro e w1 ⟨rfl, hb1⟩; have HB1 := hide (HB0.out.trans (hb1.mono HB0.out.size)); clear hb1)
    go_ret
    exact ⟨ret_str HR.out.symm, HB1.out⟩
  | true =>
    have HR := hide (show txnB t = ⟨(txnL t).toArray⟩ by unfold txnB; rw [q1]; rfl)
    have HOk := hide q1
    obtain ⟨ho, hs, hl6⟩ := txnOk_parts' q1
    have HOo := hide ho
    rw [q1] at HV
    clear q1 ho
    obtain ⟨n, hn⟩ : ∃ n : Nat, t.Session = (n : Int) := ⟨t.Session.toNat, by omega⟩
    have HI := l1Number_any n (by omega)
    have hd1 := decL_len n
    obtain ⟨N, hN⟩ : ∃ N : ByteArray, N = ⟨(decL n).toArray⟩ := ⟨_, rfl⟩
    have hs1 : N.size ≤ 2 := by rw [hN]; simp [ByteArray.size]; omega
    rw [← hN] at HI
    have HI := hide HI
    have HP0 := prefL_zero t
    rw [hn] at HB0 HX0 HV HP0 ⊢
    simp only [Int.toNat_natCast] at HP0
    have HNl := hide (show N.data.toList = decL n by rw [hN])
    clear hn hs hN
    have hadd1 : ∀ W, (Op.stringOp .add ⟨#[115]⟩ N).run Tryz.prog W = .ok (.string (⟨#[115]⟩ ++ N)) W := fun W => run_string_add_sum _ _ _ (by have : (⟨#[115]⟩ : ByteArray).size = 1 := rfl; omega)
    have hadd2 : ∀ W, (Op.stringOp .add (⟨#[115]⟩ ++ N) ⟨#[32, 111, 102, 102]⟩).run Tryz.prog W = .ok (.string (⟨#[115]⟩ ++ N ++ ⟨#[32, 111, 102, 102]⟩)) W := fun W => run_string_add_sum _ _ _ (by rw [ByteArray.size_append]; have : (⟨#[115]⟩ : ByteArray).size = 1 := rfl; have : (⟨#[32, 111, 102, 102]⟩ : ByteArray).size = 4 := rfl; omega)
    have hadd3 : ∀ W, (Op.stringOp .add (⟨#[115]⟩ ++ N) ⟨#[32, 111, 107]⟩).run Tryz.prog W = .ok (.string (⟨#[115]⟩ ++ N ++ ⟨#[32, 111, 107]⟩)) W := fun W => run_string_add_sum _ _ _ (by rw [ByteArray.size_append]; have : (⟨#[115]⟩ : ByteArray).size = 1 := rfl; have : (⟨#[32, 111, 107]⟩ : ByteArray).size = 3 := rfl; omega)
    have HS0 := hide (show ∃ S0 : ByteArray, S0.data.toList = prefL t 0 ∧ ((t.Done = true → ⟨#[115]⟩ ++ N ++ ⟨#[32, 111, 107]⟩ = S0) ∧ (t.Done = false → ⟨#[115]⟩ ++ N ++ ⟨#[32, 111, 102, 102]⟩ = S0)) by
      cases hd : t.Done with
      | true =>
        refine ⟨⟨#[115]⟩ ++ N ++ ⟨#[32, 111, 107]⟩, ?_, fun _ => rfl, fun h => absurd h (by simp)⟩
        rw [HP0, hd, data_app, data_app, HNl.out]; rfl
      | false =>
        refine ⟨⟨#[115]⟩ ++ N ++ ⟨#[32, 111, 102, 102]⟩, ?_, fun h => absurd h (by simp), fun _ => rfl⟩
        rw [HP0, hd, data_app, data_app, HNl.out]; rfl)
    clear HP0 HNl
    generalize hdn : t.Done = dn at HB0 HX0 HV HS0 ⊢
    clear hdn
    go_enter Tryz.func23, Tryz.ntmps23
    go_upto_region 1 with fail
    generalize w.alloc _ = W at HB0 HX0 HV ⊢
    have HXv := hide (fun (W2 : World) (hb : Below W.heap.size W W2) => And.intro ((HX0.out.below hb HX0.out.lt).cell 0) (And.intro ((HX0.out.below hb HX0.out.lt).cell 1) ((HX0.out.below hb HX0.out.lt).cell 2)))
    simp only [List.getElem?_toArray, List.getElem?_cons_zero, List.getElem?_cons_succ] at HXv
    obtain ⟨x0, x1, x2⟩ := HXv.out W (Below.refl _ _)
    go_upto_region 3 with (go_at_call 24; refine HV.out.mono ?_; rintro e w1 ⟨rfl, hb1⟩; have HW1 := hide hb1; clear hb1)
    clear x0 x1 x2
    obtain ⟨x0, x1, x2⟩ := HXv.out w1 HW1.out
    have hEnd : ∀ (w2 : World) (S0 : ByteArray), S0.data.toList = prefL t 0 → Below W.heap.size W w2 → True := fun _ _ _ _ => trivial
    cases dn with
    | true =>
      obtain ⟨S0, hS0, hS1, _⟩ := HS0.out
      have hS1 := hS1 rfl
      have HSs := hide hS0
      clear hS0
      rw [hS1] at hadd3
      clear hS1 hEnd
      go_upto_region 4 with (go_at_call 46; refine (HI.out _).mono ?_; rintro e w2 ⟨rfl, hb2⟩; have HW2 := hide (HW1.out.trans (hb2.mono HW1.out.size)); clear hb2)
      clear x0 x1 x2
      obtain ⟨x0, x1, x2⟩ := HXv.out w2 HW2.out
      go_upto_region 7 with (go_at_call 46; refine (HI.out _).mono ?_; rintro e w3 ⟨rfl, hb3⟩; have HW3 := hide (HW2.out.trans (hb3.mono HW2.out.size)); clear hb3)
      clear x0 x1 x2 hadd1 hadd2 hadd3
      replace HW2 := HW3
      go_loopw [3, 4] (fun out i wr => ∃ (k : Nat) (S : ByteArray), k ≤ t.Ops.length ∧ i = .int .i64 k ∧ out = .string S ∧ Hid (S.data.toList = prefL t k) ∧ Hid (Below W.heap.size W wr)) (fun _ i _ => t.Ops.length - (intOf i).toNat)
      case atStart => exact ⟨0, _, Nat.zero_le _, rfl, rfl, HSs.out, HW2.out⟩
      case round =>
        obtain ⟨k, S, hk, rfl, rfl, hS, hb⟩ := hrel
        have HS := hide hS.out; have HWr := hide hb.out
        clear hS hb
        obtain ⟨x0, x1, x2⟩ := HXv.out wr HWr.out
        have HBw := hide (HB0.out.trans (HWr.out.mono HB0.out.size))
        have hSz : S.size ≤ 100 := by
          rw [ba_size HS.out]
          have := prefL_len HOk.out k hk
          omega
        by_cases hlt : k < t.Ops.length
        · have hki : (k : Int) < (t.Ops.length : Int) := by omega
          have hok := HOo.out _ (List.getElem_mem hlt)
          have HSu := hide (prefL_succ t k hlt)
          obtain ⟨b, off, rfl, hbS, d0, d1, d2⟩ := at_Op HA.out HBw.out hlt
          have HOt := specOpText t.Ops[k]
          obtain ⟨O, hO⟩ : ∃ O : ByteArray, O = opB t.Ops[k] := ⟨_, rfl⟩
          have HOl := hide (show O.data.toList = opL t.Ops[k] by rw [hO]; unfold opB; rw [if_pos hok])
          have hOz : O.size ≤ 5 := by rw [ba_size HOl.out]; exact opL_len hok
          rw [← hO] at HOt
          have HOt := hide HOt
          clear hO hok
          generalize t.Ops[k] = o at d0 d1 d2 HOt HOl HSu
          have ha1 : ∀ W, (Op.stringOp .add S ⟨#[32]⟩).run Tryz.prog W = .ok (.string (S ++ ⟨#[32]⟩)) W := fun W => run_string_add_sum _ _ _ (by have : (⟨#[32]⟩ : ByteArray).size = 1 := rfl; omega)
          have ha2 : ∀ W, (Op.stringOp .add (S ++ ⟨#[32]⟩) O).run Tryz.prog W = .ok (.string (S ++ ⟨#[32]⟩ ++ O)) W := fun W => run_string_add_sum _ _ _ (by rw [ByteArray.size_append]; have : (⟨#[32]⟩ : ByteArray).size = 1 := rfl; omega)
          have HSn := hide (show (S ++ ⟨#[32]⟩ ++ O).data.toList = prefL t (k + 1) by rw [data_app, data_app, HSu.out, HS.out, HOl.out]; simp)
          go_wp2_with (go_at_call 47; refine (HOt.out _).mono ?_; rintro e w5 ⟨rfl, hb5⟩; have HW5 := hide (HWr.out.trans (hb5.mono HWr.out.size)); clear hb5)
          go_roundw
          case rel => exact ⟨k + 1, _, by omega, by go_num, rfl, HSn.out, HW5.out⟩
          case measure => simp [intOf]; omega
        · obtain rfl : k = t.Ops.length := by omega
          have HE := hide (show S = ⟨(txnL t).toArray⟩ from ba_list (by rw [HS.out, prefL_all]))
          go_wp2_with fail
          go_ret
          exact ⟨ret_str (by rw [HR.out, HE.out]), HBw.out⟩
    | false =>
      obtain ⟨S0, hS0, _, hS1⟩ := HS0.out
      have hS1 := hS1 rfl
      have HSs := hide hS0
      clear hS0
      rw [hS1] at hadd2
      clear hS1 hadd3 hEnd
      go_upto_region 4 with (go_at_call 46; refine (HI.out _).mono ?_; rintro e w2 ⟨rfl, hb2⟩; have HW2 := hide (HW1.out.trans (hb2.mono HW1.out.size)); clear hb2)
      clear x0 x1 x2 hadd1 hadd2
      obtain ⟨x0, x1, x2⟩ := HXv.out w2 HW2.out
      go_upto_region 7 with fail
      clear x0 x1 x2
      go_loopw [3, 4] (fun out i wr => ∃ (k : Nat) (S : ByteArray), k ≤ t.Ops.length ∧ i = .int .i64 k ∧ out = .string S ∧ Hid (S.data.toList = prefL t k) ∧ Hid (Below W.heap.size W wr)) (fun _ i _ => t.Ops.length - (intOf i).toNat)
      case atStart => exact ⟨0, _, Nat.zero_le _, rfl, rfl, HSs.out, HW2.out⟩
      case round =>
        obtain ⟨k, S, hk, rfl, rfl, hS, hb⟩ := hrel
        have HS := hide hS.out; have HWr := hide hb.out
        clear hS hb
        obtain ⟨x0, x1, x2⟩ := HXv.out wr HWr.out
        have HBw := hide (HB0.out.trans (HWr.out.mono HB0.out.size))
        have hSz : S.size ≤ 100 := by
          rw [ba_size HS.out]
          have := prefL_len HOk.out k hk
          omega
        by_cases hlt : k < t.Ops.length
        · have hki : (k : Int) < (t.Ops.length : Int) := by omega
          have hok := HOo.out _ (List.getElem_mem hlt)
          have HSu := hide (prefL_succ t k hlt)
          obtain ⟨b, off, rfl, hbS, d0, d1, d2⟩ := at_Op HA.out HBw.out hlt
          have HOt := specOpText t.Ops[k]
          obtain ⟨O, hO⟩ : ∃ O : ByteArray, O = opB t.Ops[k] := ⟨_, rfl⟩
          have HOl := hide (show O.data.toList = opL t.Ops[k] by rw [hO]; unfold opB; rw [if_pos hok])
          have hOz : O.size ≤ 5 := by rw [ba_size HOl.out]; exact opL_len hok
          rw [← hO] at HOt
          have HOt := hide HOt
          clear hO hok
          generalize t.Ops[k] = o at d0 d1 d2 HOt HOl HSu
          have ha1 : ∀ W, (Op.stringOp .add S ⟨#[32]⟩).run Tryz.prog W = .ok (.string (S ++ ⟨#[32]⟩)) W := fun W => run_string_add_sum _ _ _ (by have : (⟨#[32]⟩ : ByteArray).size = 1 := rfl; omega)
          have ha2 : ∀ W, (Op.stringOp .add (S ++ ⟨#[32]⟩) O).run Tryz.prog W = .ok (.string (S ++ ⟨#[32]⟩ ++ O)) W := fun W => run_string_add_sum _ _ _ (by rw [ByteArray.size_append]; have : (⟨#[32]⟩ : ByteArray).size = 1 := rfl; omega)
          have HSn := hide (show (S ++ ⟨#[32]⟩ ++ O).data.toList = prefL t (k + 1) by rw [data_app, data_app, HSu.out, HS.out, HOl.out]; simp)
          go_wp2_with (go_at_call 47; refine (HOt.out _).mono ?_; rintro e w5 ⟨rfl, hb5⟩; have HW5 := hide (HWr.out.trans (hb5.mono HWr.out.size)); clear hb5)
          go_roundw
          case rel => exact ⟨k + 1, _, by omega, by go_num, rfl, HSn.out, HW5.out⟩
          case measure => simp [intOf]; omega
        · obtain rfl : k = t.Ops.length := by omega
          have HE := hide (show S = ⟨(txnL t).toArray⟩ from ba_list (by rw [HS.out, prefL_all]))
          go_wp2_with fail
          go_ret
          exact ⟨ret_str (by rw [HR.out, HE.out]), HBw.out⟩
end Go.Proofs.YtjnghnkilnhacaaGreatDoor
namespace Go.Proofs.YtjnghnkilnhacaaGreatDoor
open Go.RowKit

theorem infoInt_ : (Tryz.prog.info? 3).map (fun i => (i.zero, i.size, i.bytes)) = some (some (.int .i64 0), 1, 8) := by kernel_rfl
end Go.Proofs.YtjnghnkilnhacaaGreatDoor
namespace Go.Proofs.YtjnghnkilnhacaaGreatDoor
open Go.RowKit
set_option linter.unusedVariables false
set_option linter.unusedSimpArgs false

structure Box {α : Type} (T : Ty α) (e : TypeId) (w W : World) (R P : Nat) (K : Nat → Prop) (xs : List α) (v : Value) (B : Nat) (t : TypeId) (cs : Array Value) : Prop where
  rd : Rd W R P
  gr : Gr w W R
  own : Own T e W (fun b => K b ∧ b < B) xs v
  blk : Blk W B t cs
  ge : w.heap.size ≤ B
  rlt : R < w.heap.size
section
variable {α : Type} {T : Ty α} {e : TypeId} {w W W' : World} {R P : Nat} {K : Nat → Prop} {xs : List α} {v : Value} {B : Nat} {t : TypeId} {cs : Array Value}
theorem Box.pick (h : Box T e w W R P K xs v B t cs) {Q : Nat} (hr : Rd W' R Q) (hg : Gr W W' R) (hK : ∀ b, K b → w.heap.size ≤ b) : Box T e w W' R Q K xs v B t cs :=
  ⟨hr, gr_trans h.gr hg, h.own.mono (fun _ h => h) (fun b hb => hg.block b (Nat.lt_trans hb.2 h.blk.lt) (fun e => by injection e with e; have := hK b hb.1; have := h.rlt; omega)),
    h.blk.of (hg.block B h.blk.lt (fun e => by injection e with e; have := h.ge; have := h.rlt; omega)), h.ge, h.rlt⟩
theorem Box.alloc (h : Box T e w W R P K xs v B t cs) (o : Obj) : Box T e w (W.alloc o) R P K xs v B t cs :=
  ⟨h.rd.alloc o, gr_alloc h.gr o, h.own.mono (fun _ h => h) (fun b hb => Below.heap_alloc _ _ _ (Nat.lt_trans hb.2 h.blk.lt)), h.blk.alloc o, h.ge, h.rlt⟩
theorem Box.set (h : Box T e w W R P K xs v B t cs) (i : Nat) (u : Value) : Box T e w (W.setCell ⟨B, i, none⟩ u) R P K xs v B t (cs.setIfInBounds i u) :=
  ⟨h.rd.far (p := ⟨B, i, none⟩) (Nat.lt_of_lt_of_le h.rlt h.ge) u, gr_setCell h.gr (p := ⟨B, i, none⟩) (.inr h.ge) u,
    h.own.mono (fun _ h => h) (fun b hb => Below.heap_setCell _ _ _ b (Nat.ne_of_lt hb.2)), h.blk.set_ i u, h.ge, h.rlt⟩
theorem Box.up (h : Box T e w W R P K xs v B t cs) {Q : Nat} (hq : P ≤ Q) : Box T e w W R Q K xs v B t cs := ⟨h.rd.up hq, h.gr, h.own, h.blk, h.ge, h.rlt⟩
end
/-- One value after the other goes into a block, from place o on. -/
def setRow (w : World) (g : Nat) : Nat → List Value → World
  | _, [] => w
  | o, u :: r => setRow (w.setCell ⟨g, o, none⟩ u) g (o + 1) r
theorem setRow_far (g : Nat) : ∀ (cs : List Value) (w : World) (o b : Nat), b ≠ g → (setRow w g o cs).heap[b]? = w.heap[b]?
  | [], w, o, b, _ => rfl
  | u :: r, w, o, b, hb => by rw [setRow, setRow_far g r _ _ b hb]; exact Below.heap_setCell _ _ _ _ hb
theorem setRow_size (g : Nat) : ∀ (cs : List Value) (w : World) (o : Nat), (setRow w g o cs).heap.size = w.heap.size
  | [], w, o => rfl
  | u :: r, w, o => by rw [setRow, setRow_size g r]; simp [World.setCell]
theorem setRow_gr {a : World} {R g : Nat} (hg : a.heap.size ≤ g) : ∀ (cs : List Value) (w : World) (o : Nat), Gr a w R → Gr a (setRow w g o cs) R
  | [], w, o, h => h
  | u :: r, w, o, h => setRow_gr hg r _ _ (gr_setCell h (p := ⟨g, o, none⟩) (.inr hg) u)
theorem setRow_blk {g : Nat} {e : TypeId} : ∀ (cs : List Value) (w : World) (o : Nat) (cur : Array Value), Blk w g e cur → o + cs.length ≤ cur.size →
    ∃ cur', Blk (setRow w g o cs) g e cur' ∧ cur'.size = cur.size ∧ (∀ i, i < o ∨ o + cs.length ≤ i → cur'[i]? = cur[i]?) ∧ ∀ j u, cs[j]? = some u → cur'[o + j]? = some u
  | [], w, o, cur, h, _ => ⟨cur, h, rfl, fun _ _ => rfl, fun j u hu => by simp at hu⟩
  | x :: r, w, o, cur, h, hs => by
    rw [List.length_cons] at hs
    obtain ⟨cur', h1, h2, h3, h4⟩ := setRow_blk r _ (o + 1) _ (h.set_ o x) (by rw [Array.size_setIfInBounds]; omega)
    refine ⟨cur', h1, by rw [h2, Array.size_setIfInBounds], fun i hi => ?_, fun j u hu => ?_⟩
    · rw [List.length_cons] at hi
      rw [h3 i (by omega), Array.getElem?_setIfInBounds_ne (by omega)]
    · cases j with
      | zero =>
        simp only [List.getElem?_cons_zero, Option.some.injEq] at hu
        rw [Nat.add_zero, h3 o (by omega), ← hu]
        simp [show o < cur.size by omega]
      | succ j =>
        rw [List.getElem?_cons_succ] at hu
        have := h4 j u hu
        rwa [show o + 1 + j = o + (j + 1) by omega] at this
section
variable {α : Type} {T : Ty α} {e : TypeId} {w w' : World} {S : Nat → Prop} {xs : List α} {v : Value} {g c n : Nat}
theorem Own.form (h : Own T e w S xs v) (h0 : 0 < xs.length) : ∃ g c, v = .slice (some ⟨g, 0, none⟩) xs.length c ∧ S g := by
  rcases h with ⟨rfl, rfl⟩ | ⟨g, cap, cur, S', rfl, hg, _⟩
  · cases h0
  · exact ⟨g, cap, rfl, hg⟩
theorem Own.el (h : Own T e w S xs (.slice (some ⟨g, 0, none⟩) n c)) {k : Nat} (hk : k < xs.length) : ∃ cs, T.rel w (fun b => S b ∧ b ≠ g) xs[k] cs ∧ (∀ j u, cs[j]? = some u → w.cell? ⟨g, k * T.size + j, none⟩ = some u) ∧ ∀ i, w.frozen? ⟨g, i, none⟩ = false := by
  rcases h with ⟨h, rfl⟩ | ⟨g', cap, cur, S', he, hg, hB, h1, h2, h3, h4, h5⟩
  · cases hk
  · injection he with e1 e2 e3
    injection e1 with e1
    injection e1 with e1
    subst e1
    obtain ⟨cs, hr, hcs⟩ := h5 k hk
    exact ⟨cs, T.mono hr h4 (fun _ _ => rfl), fun j u hu => by have := hcs j u hu; rwa [Nat.zero_add] at this, fun i => hB.frozen i⟩
theorem Own.setEl (h : Own T e w S xs (.slice (some ⟨g, 0, none⟩) n c)) {k : Nat} (hk : k < xs.length) {x : α} {cs : List Value} (hx : T.rel w (fun b => S b ∧ b ≠ g) x cs) :
    Own T e (setRow w g (k * T.size) cs) S (xs.set k x) (.slice (some ⟨g, 0, none⟩) n c) := by
  rcases h with ⟨h, rfl⟩ | ⟨g', cap, cur, S', he, hg, hB, h1, h2, h3, h4, h5⟩
  · cases hk
  · injection he with e1 e2 e3
    injection e1 with e1
    injection e1 with e1
    subst e1
    subst e2
    subst e3
    have hl := T.len hx
    have hm : k * T.size + T.size ≤ c * T.size := by rw [← Nat.succ_mul]; exact Nat.mul_le_mul_right _ (by omega)
    obtain ⟨cur', g1, g2, g3, g4⟩ := setRow_blk cs w (k * T.size) cur hB (by rw [hl, h3]; exact hm)
    refine .inr ⟨g, c, cur', fun b => S b ∧ b ≠ g, by rw [List.length_set], hg, g1, by rw [List.length_set]; exact h1, h2, by rw [g2, h3], fun _ h => h, fun i hi => ?_⟩
    rw [List.length_set] at hi
    by_cases hik : k = i
    · subst hik
      refine ⟨cs, ?_, fun j u hu => ?_⟩
      · rw [List.getElem_set_self]
        exact T.mono hx (fun _ h => h) (fun b hb => setRow_far g cs w _ b hb.2)
      · rw [g1.cell, Nat.zero_add]
        exact g4 j u hu
    · obtain ⟨cs', hr, hcs⟩ := h5 i hi
      refine ⟨cs', ?_, fun j u hu => ?_⟩
      · rw [List.getElem_set_ne hik]
        exact T.mono hr h4 (fun b hb => setRow_far g cs w _ b (h4 b hb).2)
      · have hj : j < T.size := by rw [← T.len hr]; exact (List.getElem?_eq_some_iff.1 hu).1
        have := hcs j u hu
        rw [hB.cell] at this
        rw [g1.cell, g3 _ ?_]
        · exact this
        · rw [hl, Nat.zero_add]
          rcases Nat.lt_or_ge i k with h6 | h6
          · have : i * T.size + T.size ≤ k * T.size := by rw [← Nat.succ_mul]; exact Nat.mul_le_mul_right _ (by omega)
            omega
          · have : k * T.size + T.size ≤ i * T.size := by rw [← Nat.succ_mul]; exact Nat.mul_le_mul_right _ (by omega)
            omega
end
theorem Own.cellInt {e : TypeId} {w : World} {S : Nat → Prop} {xs : List Int} {g c n : Nat} (h : Own tInt e w S xs (.slice (some ⟨g, 0, none⟩) n c)) {k : Nat} (hk : k < xs.length) : w.cell? ⟨g, k, none⟩ = some (.int .i64 xs[k]) ∧ w.frozen? ⟨g, k, none⟩ = false := by
  obtain ⟨cs, hr, hc, hf⟩ := h.el hk
  have h1 : cs = [.int .i64 xs[k]] := hr
  subst h1
  have := hc 0 _ rfl
  rw [show k * tInt.size + 0 = k from Nat.mul_one k] at this
  exact ⟨this, hf k⟩
theorem Own.setInt {e : TypeId} {w : World} {S : Nat → Prop} {xs : List Int} {g c n : Nat} (h : Own tInt e w S xs (.slice (some ⟨g, 0, none⟩) n c)) {k : Nat} (hk : k < xs.length) (y : Int) : Own tInt e (w.setCell ⟨g, k, none⟩ (.int .i64 y)) S (xs.set k y) (.slice (some ⟨g, 0, none⟩) n c) := by
  have := h.setEl hk (x := y) (cs := [.int .i64 y]) rfl
  rw [show k * tInt.size = k from Nat.mul_one k] at this
  exact this

/-- The history so far lies below lo and apart from the stored values, the new transaction at B. -/
structure HB (w W : World) (R P gs lo : Nat) (xs : List Txn) (v : Value) (ss : List Int) (sv : Value) (B : Nat) (cs : Array Value) : Prop where
  rd : Rd W R P
  gr : Gr w W R
  own : Own tTxn 41 W (fun b => (w.heap.size ≤ b ∧ b ≠ gs) ∧ b < lo) xs v
  st : Sl tInt W (fun b => b = gs) ss sv
  blk : Blk W B 41 cs
  gse : w.heap.size ≤ gs
  gsl : gs < lo
  ge : lo ≤ B
  rlt : R < w.heap.size
section
variable {w W W' : World} {R P gs lo : Nat} {xs : List Txn} {v : Value} {ss : List Int} {sv : Value} {B : Nat} {cs : Array Value}
theorem HB.up (h : HB w W R P gs lo xs v ss sv B cs) {Q : Nat} (hq : P ≤ Q) : HB w W R Q gs lo xs v ss sv B cs := ⟨h.rd.up hq, h.gr, h.own, h.st, h.blk, h.gse, h.gsl, h.ge, h.rlt⟩
theorem HB.pick (h : HB w W R P gs lo xs v ss sv B cs) {Q : Nat} (hr : Rd W' R Q) (hg : Gr W W' R) : HB w W' R Q gs lo xs v ss sv B cs :=
  have hl := h.blk.lt; have h1 := h.gse; have h2 := h.gsl; have h3 := h.ge; have h4 := h.rlt
  ⟨hr, gr_trans h.gr hg, h.own.mono (fun _ h => h) (fun b hb => hg.block b (by have := hb.2; omega) (fun e => by injection e with e; have := hb.1.1; omega)),
    h.st.mono (fun _ h => h) (fun b hb => hg.block b (by omega) (fun e => by injection e with e; omega)), h.blk.of (hg.block B hl (fun e => by injection e with e; omega)), h1, h2, h3, h4⟩
theorem HB.only (h : HB w W R P gs lo xs v ss sv B cs) {K : Nat → Prop} (k : Only K W W') (hK : ∀ b, K b → lo ≤ b ∧ b ≠ B) : HB w W' R P gs lo xs v ss sv B cs :=
  have hl := h.blk.lt; have h1 := h.gse; have h2 := h.gsl; have h3 := h.ge; have h4 := h.rlt
  ⟨h.rd.only k (fun b hb => by have := hK b hb; omega), gr_only h.gr k (fun b hb => by have := hK b hb; omega), h.own.mono (fun _ h => h) (fun b hb => k.block b (by have := hb.2; omega) (fun e => by have := hK b e; have := hb.2; omega)),
    h.st.mono (fun _ h => h) (fun b hb => k.block b (by omega) (fun e => by have := hK b e; omega)), h.blk.of (k.block B hl (fun e => (hK B e).2 rfl)), h1, h2, h3, h4⟩
theorem HB.alloc (h : HB w W R P gs lo xs v ss sv B cs) (o : Obj) : HB w (W.alloc o) R P gs lo xs v ss sv B cs :=
  h.only (K := fun b => W.heap.size ≤ b) (Only.of_alloc W o) (fun b hb => by have := h.blk.lt; have := h.ge; omega)
theorem HB.drew (h : HB w W R P gs lo xs v ss sv B cs) : HB w W.drew R P gs lo xs v ss sv B cs :=
  ⟨h.rd.keep fun _ _ => rfl, gr_drewN h.gr 1, h.own.mono (fun _ h => h) (fun _ _ => rfl), h.st.mono (fun _ h => h) (fun _ _ => rfl), h.blk.of rfl, h.gse, h.gsl, h.ge, h.rlt⟩
theorem HB.far (h : HB w W R P gs lo xs v ss sv B cs) {p : Addr} (hp : lo ≤ p.block) (hB : p.block ≠ B) (u : Value) : HB w (W.setCell p u) R P gs lo xs v ss sv B cs :=
  h.only (K := fun b => b = p.block) ⟨rfl, rfl, rfl, by simp [World.setCell], fun i hi hn => Below.heap_setCell _ _ _ _ hn⟩ (fun b hb => by subst hb; exact ⟨hp, hB⟩)
theorem HB.set (h : HB w W R P gs lo xs v ss sv B cs) (i : Nat) (u : Value) : HB w (W.setCell ⟨B, i, none⟩ u) R P gs lo xs v ss sv B (cs.setIfInBounds i u) :=
  have hl := h.blk.lt; have h1 := h.gse; have h2 := h.gsl; have h3 := h.ge; have h4 := h.rlt
  ⟨h.rd.far (p := ⟨B, i, none⟩) (by show R < B; omega) u, gr_setCell h.gr (p := ⟨B, i, none⟩) (.inr (by show _ ≤ B; omega)) u,
    h.own.mono (fun _ h => h) (fun b hb => Below.heap_setCell _ _ _ b (by have := hb.2; show b ≠ B; omega)), h.st.mono (fun _ h => h) (fun b hb => Below.heap_setCell _ _ _ b (by show b ≠ B; omega)), h.blk.set_ i u, h1, h2, h3, h4⟩
end
theorem Own.alone {e : TypeId} {w : World} {S : Nat → Prop} {xs : List Int} {g c n : Nat} (h : Own tInt e w S xs (.slice (some ⟨g, 0, none⟩) n c)) : Own tInt e w (fun b => b = g) xs (.slice (some ⟨g, 0, none⟩) n c) := by
  rcases h with ⟨h, rfl⟩ | ⟨g', cap, cur, S', he, hg, hB, h1, h2, h3, h4, h5⟩
  · cases h
  · injection he with e1 e2 e3
    injection e1 with e1
    injection e1 with e1
    subst e1
    subst e2
    subst e3
    exact .inr ⟨g, c, cur, fun _ => False, rfl, rfl, hB, h1, h2, h3, fun _ h => h.elim, fun k hk => h5 k hk⟩
/-- Beside it the values seen, in block gq, and the operations so far. -/
structure HC (w W : World) (R P gs lo : Nat) (xs : List Txn) (v : Value) (ss : List Int) (sv : Value) (B : Nat) (cs : Array Value) (gq cq : Nat) (qs : List Int) (st : List Op) (u : Value) : Prop where
  hb : HB w W R P gs lo xs v ss sv B cs
  hq : Own tInt 3 W (fun b => b = gq) qs (.slice (some ⟨gq, 0, none⟩) 3 cq)
  hu : Own tOp 46 W (fun b => (lo ≤ b ∧ b ≠ B ∧ b ≠ gq) ∧ Old W b) st u
  lt : B < gq ∧ gq < W.heap.size
section
variable {w W W' : World} {R P gs lo : Nat} {xs : List Txn} {v : Value} {ss : List Int} {sv : Value} {B : Nat} {cs : Array Value} {gq cq : Nat} {qs : List Int} {st : List Op} {u : Value}
theorem HC.up (h : HC w W R P gs lo xs v ss sv B cs gq cq qs st u) {Q : Nat} (hq : P ≤ Q) : HC w W R Q gs lo xs v ss sv B cs gq cq qs st u := ⟨h.hb.up hq, h.hq, h.hu, h.lt⟩
theorem HC.pick (h : HC w W R P gs lo xs v ss sv B cs gq cq qs st u) {Q : Nat} (hr : Rd W' R Q) (hg : Gr W W' R) : HC w W' R Q gs lo xs v ss sv B cs gq cq qs st u :=
  have h1 := h.hb.gse; have h2 := h.hb.gsl; have h3 := h.hb.ge; have h4 := h.hb.rlt; have h5 := h.lt
  ⟨h.hb.pick hr hg, h.hq.mono (fun _ h => h) (fun b hb => hg.block b (by omega) (fun e => by injection e with e; omega)), Own.onlyGr h.hu hg (fun k => by omega), ⟨h5.1, Nat.lt_of_lt_of_le h5.2 hg.size⟩⟩
theorem HC.alloc (h : HC w W R P gs lo xs v ss sv B cs gq cq qs st u) (o : Obj) : HC w (W.alloc o) R P gs lo xs v ss sv B cs gq cq qs st u :=
  have h5 := h.lt
  ⟨h.hb.alloc o, h.hq.mono (fun _ h => h) (fun b hb => Below.heap_alloc _ _ _ (by omega)), h.hu.mono (fun b hb => ⟨hb.1, Nat.lt_of_lt_of_le hb.2 (by simp)⟩) (fun b hb => Below.heap_alloc _ _ _ hb.2), ⟨h5.1, Nat.lt_of_lt_of_le h5.2 (by simp)⟩⟩
theorem HC.drew (h : HC w W R P gs lo xs v ss sv B cs gq cq qs st u) : HC w W.drew R P gs lo xs v ss sv B cs gq cq qs st u :=
  ⟨h.hb.drew, h.hq.mono (fun _ h => h) (fun _ _ => rfl), h.hu.mono (fun _ h => h) (fun _ _ => rfl), h.lt⟩
/-- A value is seen. -/
theorem HC.see (h : HC w W R P gs lo xs v ss sv B cs gq cq qs st u) {k : Nat} (hk : k < qs.length) (y : Int) : HC w (W.setCell ⟨gq, k, none⟩ (.int .i64 y)) R P gs lo xs v ss sv B cs gq cq (qs.set k y) st u :=
  have h3 := h.hb.ge; have h5 := h.lt
  ⟨h.hb.far (p := ⟨gq, k, none⟩) (by show lo ≤ gq; omega) (by show gq ≠ B; omega) _, h.hq.setInt hk y, h.hu.mono (fun b hb => ⟨hb.1, by have := hb.2; simpa [Old, World.setCell] using this⟩) (fun b hb => Below.heap_setCell _ _ _ b hb.1.2.2), ⟨h5.1, by simpa [World.setCell] using h5.2⟩⟩
/-- The operations have grown. -/
theorem HC.put (h : HC w W R P gs lo xs v ss sv B cs gq cq qs st u) (k : Only (fun b => lo ≤ b ∧ b ≠ B ∧ b ≠ gq) W W') {st' : List Op} {u' : Value} (hu : Own tOp 46 W' (fun b => (lo ≤ b ∧ b ≠ B ∧ b ≠ gq) ∧ Old W' b) st' u') : HC w W' R P gs lo xs v ss sv B cs gq cq qs st' u' :=
  have h5 := h.lt
  ⟨h.hb.only k (fun b hb => ⟨hb.1, hb.2.1⟩), h.hq.mono (fun _ h => h) (fun b hb => k.block b (by omega) (fun e => e.2.2 hb)), hu, ⟨h5.1, Nat.lt_of_lt_of_le h5.2 k.size⟩⟩
theorem HC.set (h : HC w W R P gs lo xs v ss sv B cs gq cq qs st u) (i : Nat) (x : Value) : HC w (W.setCell ⟨B, i, none⟩ x) R P gs lo xs v ss sv B (cs.setIfInBounds i x) gq cq qs st u :=
  have h5 := h.lt
  ⟨h.hb.set i x, h.hq.mono (fun _ h => h) (fun b hb => Below.heap_setCell _ _ _ b (by show b ≠ B; omega)), h.hu.mono (fun b hb => ⟨hb.1, by have := hb.2; simpa [Old, World.setCell] using this⟩) (fun b hb => Below.heap_setCell _ _ _ b hb.1.2.1), ⟨h5.1, by simpa [World.setCell] using h5.2⟩⟩
theorem HC.out_old (h : HC w W R P gs lo xs v ss sv B cs gq cq qs st u) : Own tTxn 41 W (fun b => (w.heap.size ≤ b ∧ b ≠ gs) ∧ Old W b) xs v :=
  have h3 := h.hb.ge; have h5 := h.lt
  h.hb.own.mono (fun b hb => ⟨hb.1, by have := hb.2; show b < _; omega⟩) (fun _ _ => rfl)
theorem HC.out_new (h : HC w W R P gs lo xs v ss sv B cs gq cq qs st u) : Own tTxn 41 W (fun b => (w.heap.size ≤ b ∧ b ≠ gq) ∧ Old W b) xs v :=
  have h3 := h.hb.ge; have h5 := h.lt
  h.hb.own.mono (fun b hb => ⟨⟨hb.1.1, by have := hb.2; omega⟩, by have := hb.2; show b < _; omega⟩) (fun _ _ => rfl)
theorem HC.row (h : HC w W R P gs lo xs v ss sv B cs gq cq qs st u) (s : Int) (d : Bool) : tTxn.rel W (fun b => (lo ≤ b ∧ b ≠ B ∧ b ≠ gq) ∧ Old W b) ⟨s, st, d⟩ [.int .i64 s, u, .bool d] := ⟨u, rfl, h.hu.sl⟩
end
def sevenOps : Array Value := #[.int .i64 0, .int .i64 0, .int .i64 0, .int .i64 3, .int .i64 0, .int .i64 1, .int .i64 1, .int .i64 3, .int .i64 0, .int .i64 1, .int .i64 (-1), .int .i64 0, .int .i64 1, .int .i64 0, .int .i64 100, .int .i64 2, .int .i64 0, .int .i64 0, .int .i64 1, .int .i64 0, .int .i64 (-1)]
/-- Some operation. -/
def DrawnOp (w : World) (R P : Nat) (e : Ending) (w' : World) : Prop := ∃ a b c : Int, e = .returned (.agg #[.int .i64 a, .int .i64 b, .int .i64 c]) ∧ Rd w' R P ∧ Gr w w' R
set_option maxRecDepth 10000 in
set_option maxHeartbeats 4000000 in
theorem op_any (w : World) (R P : Nat) (n : Int) (h : Rd w R P) (hP : P ≤ 5000) (hn : n ≤ 1000000) :
    Calls Tryz.prog 37 #[.pointer (some ⟨R, 0, none⟩), .int .i64 n] w (DrawnOp w R (P + 7)) := by
  have HR0 := hide (h.alloc (.cells #[.int .i64 0, .int .i64 0, .int .i64 0] 46))
  have HB0 := hide (Blk.new w 46 #[.int .i64 0, .int .i64 0, .int .i64 0])
  have HG0 := hide (gr_alloc (gr_refl w R) (.cells #[.int .i64 0, .int .i64 0, .int .i64 0] 46))
  have HlR := hide h.lt
  have HP := hide hP
  clear h hP
  go_enter Tryz.func37, Tryz.ntmps37
  go_wp2_with fail
  refine (pick_any _ R P 2 HR0.out (by have := HP.out; omega)).mono ?_
  rintro e w1 ⟨y1, rfl, a1, b1, hr1, hg1⟩
  have hb1 := b1 (by decide)
  have HR1 := hide hr1; have HG1 := hide (gr_trans HG0.out hg1)
  have HB1 := hide (HB0.out.of (hg1.block _ (by simp) (fun e => by injection e with e; have := HlR.out; omega)))
  have HZ1 := hide (show w.heap.size < w1.heap.size by have := hg1.size; simp at this; omega)
  clear hr1 hg1 b1 HR0 HG0 HB0
  go_wp2_with fail
  refine (pick_any _ R _ 3 HR1.out (by have := HP.out; omega)).mono ?_
  rintro e w2 ⟨y2, rfl, a2, b2, hr2, hg2⟩
  have HR2 := hide hr2; have HG2 := hide (gr_trans HG1.out hg2)
  have HB2 := hide (HB1.out.of (hg2.block _ HZ1.out (fun e => by injection e with e; have := HlR.out; omega)))
  have HZ2 := hide (Nat.lt_of_lt_of_le HZ1.out hg2.size)
  clear hr2 hg2 b2 HR1 HG1 HB1 HZ1
  go_wp2_with fail
  refine (pick_any _ R _ 9 HR2.out (by have := HP.out; omega)).mono ?_
  rintro e w3 ⟨y3, rfl, a3, b3, hr3, hg3⟩
  have hb3 := b3 (by decide)
  have HR3 := hide hr3; have HG3 := hide (gr_trans HG2.out hg3)
  have HB3 := hide (HB2.out.of (hg3.block _ HZ2.out (fun e => by injection e with e; have := HlR.out; omega)))
  have HZ3 := hide (Nat.lt_of_lt_of_le HZ2.out hg3.size)
  clear hr3 hg3 b3 HR2 HG2 HB2 HZ2
  go_wp2_with fail
  refine (pick_any _ R _ 99 HR3.out (by have := HP.out; omega)).mono ?_
  rintro e w4 ⟨y4, rfl, a4, b4, hr4, hg4⟩
  have hb4 := b4 (by decide)
  have HR4 := hide (hr4.alloc (.cells #[.int .i64 (1 + y3), .int .i64 (1 + y4), .int .i64 0] 3)); have HG4 := hide (gr_alloc (gr_trans HG3.out hg4) (.cells #[.int .i64 (1 + y3), .int .i64 (1 + y4), .int .i64 0] 3))
  have HB4 := hide ((HB3.out.of (hg4.block _ HZ3.out (fun e => by injection e with e; have := HlR.out; omega))).alloc (.cells #[.int .i64 (1 + y3), .int .i64 (1 + y4), .int .i64 0] 3))
  have HC4 := hide (Blk.new w4 3 #[.int .i64 (1 + y3), .int .i64 (1 + y4), .int .i64 0])
  have HZ4 := hide (show w.heap.size < w4.heap.size from Nat.lt_of_lt_of_le HZ3.out hg4.size)
  clear hr4 hg4 b4 HR3 HG3 HB3 HZ3
  go_wp2_with fail
  refine (pick_any _ R _ 3 HR4.out (by have := HP.out; omega)).mono ?_
  rintro e w5 ⟨y5, rfl, a5, b5, hr5, hg5⟩
  have hb5 := b5 (by decide)
  obtain ⟨yn, rfl⟩ : ∃ n : Nat, y5 = (n : Int) := ⟨y5.toNat, by omega⟩
  have hyn : yn < 3 := by omega
  have HB5 := hide (HB4.out.of (hg5.block _ (by have := HZ4.out; simp; omega) (fun e => by injection e with e; have := HlR.out; omega)))
  have hC5 := HC4.out.of (hg5.block _ (by simp) (fun e => by injection e with e; have := HlR.out; have := HZ4.out; omega))
  obtain ⟨z, hz⟩ : ∃ z : Int, w5.cell? ⟨w4.heap.size, yn, none⟩ = some (.int .i64 z) := by
    rw [hC5.cell]
    match yn, hyn with
    | 0, _ => exact ⟨_, rfl⟩
    | 1, _ => exact ⟨_, rfl⟩
    | 2, _ => exact ⟨_, rfl⟩
  have HG5 := hide (gr_trans HG4.out hg5)
  have HR5 := hide hr5
  have HZ5 := hide (show w.heap.size < w5.heap.size by have h1 := HZ4.out; have h2 := hg5.size; simp at h2; omega)
  obtain ⟨k1, hk1⟩ : ∃ k, k = 1 + y1 := ⟨_, rfl⟩
  rw [← hk1]
  clear hr5 hg5 b5 a5 hb5 HR4 HG4 HB4 HC4 HZ4 hC5 a2 a3 a4 hb3 hb4 hk1 a1 hb1
  have HB6 := hide (HB5.out.alloc (.cells #[.int .i64 k1, .int .i64 y2, .int .i64 z] 46))
  have HX6 := hide (Blk.new w5 46 #[.int .i64 k1, .int .i64 y2, .int .i64 z])
  have HR6 := hide (HR5.out.alloc (.cells #[.int .i64 k1, .int .i64 y2, .int .i64 z] 46))
  have HG6 := hide (gr_alloc HG5.out (.cells #[.int .i64 k1, .int .i64 y2, .int .i64 z] 46))
  have HZ6 := hide (show w5.heap.size < (w5.alloc (.cells #[.int .i64 k1, .int .i64 y2, .int .i64 z] 46)).heap.size by simp)
  clear HB5 HR5 HG5
  go_upto_region 2 with (fail)
  generalize hW : World.alloc w5 _ = W6 at HB6 HX6 HR6 HG6 HZ6 ⊢
  clear hW hz
  by_cases hk : k1 = 2 ∧ z = 0
  focus
    obtain ⟨rfl, rfl⟩ := hk
    have c0 := HX6.out.cell 0
    have c2 := HX6.out.cell 2
    have f2 := HX6.out.frozen 2
    simp only [List.getElem?_toArray, List.getElem?_cons_zero, List.getElem?_cons_succ] at c0 c2
    go_wp2_with fail
    refine (odd_any _ R (P + 5) n (HR6.out.far (p := ⟨w5.heap.size, 2, none⟩) (by have := HlR.out; have := HZ5.out; show R < w5.heap.size; omega) (.int .i64 99)) (by have := HP.out; omega) hn).mono ?_
    rintro e w7 ⟨v, rfl, hr7, hg7⟩
    have HX7 := hide ((HX6.out.set_ 2 (.int .i64 99)).of (hg7.block _ (by have := HZ6.out; simpa [World.setCell] using this) (fun e => by injection e with e; have := HlR.out; have := HZ5.out; omega)))
    have HB7 := hide ((HB6.out.far (p := ⟨w5.heap.size, 2, none⟩) (by have := HZ5.out; show w.heap.size ≠ w5.heap.size; omega) (.int .i64 99)).of (hg7.block _ (by have := HZ6.out; have := HZ5.out; have := HB6.out.lt; simpa [World.setCell] using this) (fun e => by injection e with e; have := HlR.out; omega)))
    have HG7 := hide (gr_trans (gr_setCell HG6.out (p := ⟨w5.heap.size, 2, none⟩) (.inr (by have := HZ5.out; show w.heap.size ≤ w5.heap.size; omega)) (.int .i64 99)) hg7)
    have HR7 := hide hr7
    obtain ⟨x0, x1, x2, HX7⟩ : ∃ x0 x1 x2 : Int, Hid (Blk w7 w5.heap.size 46 #[.int .i64 x0, .int .i64 x1, .int .i64 x2]) := ⟨_, _, _, HX7.out⟩
    clear hr7 hg7 HB6 HX6 HR6 HG6 HZ6 c0 c2 f2
  rotate_left
  focus
    have hq : (k1 == 2 && z == 0) = false := by
      cases e1 : (k1 == 2) with
      | false => rfl
      | true =>
        cases e2 : (z == 0) with
        | false => rfl
        | true => exact absurd ⟨by simpa using e1, by simpa using e2⟩ hk
    have c0 := HX6.out.cell 0
    have c2 := HX6.out.cell 2
    simp only [List.getElem?_toArray, List.getElem?_cons_zero, List.getElem?_cons_succ] at c0 c2
    clear hk
    cases e1 : (k1 == 2)
    all_goals
      rw [e1] at hq
      simp only [Bool.true_and, Bool.false_and] at hq
      go_wp2_with fail
      refine (odd_any _ R (P + 5) n HR6.out (by have := HP.out; omega) hn).mono ?_
      rintro e w7 ⟨v, rfl, hr7, hg7⟩
      have HX7 := hide (HX6.out.of (hg7.block _ HZ6.out (fun e => by injection e with e; have := HlR.out; have := HZ5.out; omega)))
      have HB7 := hide (HB6.out.of (hg7.block _ HB6.out.lt (fun e => by injection e with e; have := HlR.out; omega)))
      have HG7 := hide (gr_trans HG6.out hg7)
      have HR7 := hide hr7
      obtain ⟨x0, x1, x2, HX7⟩ : ∃ x0 x1 x2 : Int, Hid (Blk w7 w5.heap.size 46 #[.int .i64 x0, .int .i64 x1, .int .i64 x2]) := ⟨_, _, _, HX7.out⟩
      clear hr7 hg7 HB6 HX6 HR6 HG6 HZ6 c0 c2 e1 hq
  all_goals
    cases v with
    | true =>
      have HB8 := hide (HB7.out.alloc (.cells sevenOps 46))
      have HS8 := hide (Blk.new w7 46 sevenOps)
      have HR8 := hide (HR7.out.alloc (.cells sevenOps 46))
      have HG8 := hide (gr_alloc HG7.out (.cells sevenOps 46))
      have HZ8 := hide HB7.out.lt
      clear HX7 HB7 HR7 HG7
      unfold sevenOps at HB8 HS8 HR8 HG8
      go_wp2_with fail
      refine (pick_any _ R _ 7 HR8.out (by have := HP.out; omega)).mono ?_
      rintro e w9 ⟨y9, rfl, a9, b9, hr9, hg9⟩
      have hb9 := b9 (by decide)
      obtain ⟨yn9, rfl⟩ : ∃ n : Nat, y9 = (n : Int) := ⟨y9.toNat, by omega⟩
      have hyn9 : yn9 < 7 := by omega
      have hS9 := HS8.out.of (hg9.block _ (by simp) (fun e => by injection e with e; have := HlR.out; have := HZ8.out; omega))
      have hB9 := HB8.out.of (hg9.block _ (by have := HZ8.out; simp; omega) (fun e => by injection e with e; have := HlR.out; omega))
      obtain ⟨q0, q1, q2, hq0, hq1, hq2⟩ : ∃ q0 q1 q2 : Int, w9.cell? ⟨w7.heap.size, yn9 * 3, none⟩ = some (.int .i64 q0) ∧ w9.cell? ⟨w7.heap.size, yn9 * 3 + 1, none⟩ = some (.int .i64 q1) ∧ w9.cell? ⟨w7.heap.size, yn9 * 3 + 2, none⟩ = some (.int .i64 q2) := by
        rw [hS9.cell, hS9.cell, hS9.cell]
        match yn9, hyn9 with
        | 0, _ => exact ⟨_, _, _, rfl, rfl, rfl⟩
        | 1, _ => exact ⟨_, _, _, rfl, rfl, rfl⟩
        | 2, _ => exact ⟨_, _, _, rfl, rfl, rfl⟩
        | 3, _ => exact ⟨_, _, _, rfl, rfl, rfl⟩
        | 4, _ => exact ⟨_, _, _, rfl, rfl, rfl⟩
        | 5, _ => exact ⟨_, _, _, rfl, rfl, rfl⟩
        | 6, _ => exact ⟨_, _, _, rfl, rfl, rfl⟩
      have HG9 := hide (gr_trans HG8.out hg9)
      have HR9 := hide hr9
      have g0 := hB9.cell 0
      have g1 := hB9.cell 1
      have g2 := hB9.cell 2
      have f0 := hB9.frozen 0
      have f1 := hB9.frozen 1
      have f2 := hB9.frozen 2
      simp only [List.getElem?_toArray, List.getElem?_cons_zero, List.getElem?_cons_succ] at g0 g1 g2
      clear HB8 HS8 HR8 HG8 hr9 hg9 hS9 hB9 b9 hb9 a9
      go_wp2_with fail
      refine bodyPost_ret (v := .agg #[.int .i64 q0, .int .i64 q1, .int .i64 q2]) (by simp [results, Tryz.results37, go_sem, g0, g1, g2]) rfl ⟨_, _, _, rfl, ?_, ?_⟩
      · exact (((HR9.out.far (p := ⟨w.heap.size, 0, none⟩) HlR.out _).far (p := ⟨w.heap.size, 1, none⟩) HlR.out _).far (p := ⟨w.heap.size, 2, none⟩) HlR.out _)
      · exact gr_setCell (gr_setCell (gr_setCell HG9.out (p := ⟨w.heap.size, 0, none⟩) (.inr (Nat.le_refl _)) _) (p := ⟨w.heap.size, 1, none⟩) (.inr (Nat.le_refl _)) _) (p := ⟨w.heap.size, 2, none⟩) (.inr (Nat.le_refl _)) _
    | false =>
      have g0 := HB7.out.cell 0
      have g1 := HB7.out.cell 1
      have g2 := HB7.out.cell 2
      have f0 := HB7.out.frozen 0
      have f1 := HB7.out.frozen 1
      have f2 := HB7.out.frozen 2
      have h0 := HX7.out.cell 0
      have h1 := HX7.out.cell 1
      have h2 := HX7.out.cell 2
      simp only [List.getElem?_toArray, List.getElem?_cons_zero, List.getElem?_cons_succ] at g0 g1 g2 h0 h1 h2
      go_wp2_with fail
      refine bodyPost_ret (v := .agg #[.int .i64 x0, .int .i64 x1, .int .i64 x2]) (by simp [results, Tryz.results37, go_sem, g0, g1, g2]) rfl ⟨_, _, _, rfl, ?_, ?_⟩
      · exact ((((HR7.out.up (Q := P + 7) (by omega)).far (p := ⟨w.heap.size, 0, none⟩) HlR.out _).far (p := ⟨w.heap.size, 1, none⟩) HlR.out _).far (p := ⟨w.heap.size, 2, none⟩) HlR.out _)
      · exact gr_setCell (gr_setCell (gr_setCell HG7.out (p := ⟨w.heap.size, 0, none⟩) (.inr (Nat.le_refl _)) _) (p := ⟨w.heap.size, 1, none⟩) (.inr (Nat.le_refl _)) _) (p := ⟨w.heap.size, 2, none⟩) (.inr (Nat.le_refl _)) _
end Go.Proofs.YtjnghnkilnhacaaGreatDoor
