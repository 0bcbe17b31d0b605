/- The program's dropped and DropTxn. -/
import Derived.Test.YtaaagoppecnmmaaDoorDelOp
import Derived.Test.YtaaagoppecnmmaaDoorTab
import Derived.Test.YtaaagoppecnmmaaDoorDropM
namespace Go.Proofs.YtaaagoppecnmmaaDoor
open Go.RowKit Go.Maps
set_option linter.unusedVariables false
set_option linter.unusedSimpArgs false

instance : DecidableEq Op := fun a b =>
  if h : a.Kind = b.Kind ∧ a.Key = b.Key ∧ a.Value = b.Value then .isTrue (by cases a; cases b; simp at h; obtain ⟨rfl, rfl, rfl⟩ := h; rfl) else .isFalse fun e => h (by subst e; exact ⟨rfl, rfl, rfl⟩)
theorem cellsO : Tryd.prog.cellsOf 71 = 3 := by kernel_rfl
theorem keyTypeO : Tryd.prog.keyType 71 = true := by kernel_rfl
theorem laidOutO : laidOutB Tryd.prog = true := by kernel_rfl
theorem sizeO : ∃ m, Tryd.prog.types.size = m + 1 := ⟨Tryd.prog.types.size - 1, by kernel_rfl⟩
theorem cellsIO : Tryd.prog.cellsOf 3 = 1 := by kernel_rfl
theorem lawO : WideMaps.KeyLaw Tryd.prog 71 := deep_law_laid laidOutO (m := 2) (by omega) (of_decide_eq_true (by kernel_rfl)) (by kernel_rfl) (by rw [Tryd.underlying71])
def litO (o : Op) : Lit := .string (keyBytes [.int .i64 o.Kind, .int .i64 o.Key, .int .i64 o.Value])
def okO (o : Op) : Prop := (Lit.int .i64 o.Kind).wf = true ∧ (Lit.int .i64 o.Key).wf = true ∧ (Lit.int .i64 o.Value).wf = true
theorem keyO (o : Op) (h : okO o) : keyOf Tryd.prog 71 (.agg #[.int .i64 o.Kind, .int .i64 o.Key, .int .i64 o.Value]) = some (litO o) := by
  obtain ⟨ha, hb, hc⟩ := h
  obtain ⟨m, hm⟩ := sizeO
  have hk := keyTypeO
  unfold keyOf
  simp only [Tryd.underlying71]
  rw [if_pos (by simp [hk, Value.formed, Tryd.underlying71, cellsO]), hm]
  unfold Program.keyLits
  simp only [Tryd.underlying71, Value.cells]
  rw [if_pos (by rw [cellsO]; simp)]
  simp [Program.keyLits, Tryd.underlying3, ha, hb, hc, cellsIO, litO]
def opKey : KeyKit Tryd.prog 71 Op where
  keyed := Keyed.of_law lawO
  val o := .agg #[.int .i64 o.Kind, .int .i64 o.Key, .int .i64 o.Value]
  lit := litO
  ok := okO
  of := keyO
  inj x y hx hy h := by
    have h1 := lawO.inj (keyO x hx) (by rw [h]; exact keyO y hy)
    cases x; cases y; simp at h1; obtain ⟨rfl, rfl, rfl⟩ := h1; rfl
  isKey x := by simp [litO, WideAt.IsKeyLit]
theorem zeroBoolW (w : World) : (zeroValue 4).run Tryd.prog w = .ok (.bool false) w := by kernel_rfl
noncomputable def boolE : ElKit Tryd.prog 4 Bool := boolEl Tryd.underlying4 zeroBoolW
theorem okO_of {o : Op} (h : opOk o = true) : okO o := by
  have := opOk_parts h
  exact ⟨wf_small (by omega) (by omega), wf_small (by omega) (by omega), wf_small (by omega) (by omega)⟩
/-- The reads that go with the writes. -/
def goneF (ops : List Op) (o : Op) : Option Bool := if ops.any (fun q => q.Kind == 2 && decide (o = ⟨1, q.Key, q.Value⟩)) then some true else none
theorem goneF_get (ops : List Op) (o : Op) : (goneF ops o).getD false = (o.Kind == 1 && ops.any (isW o.Key o.Value)) := by
  unfold goneF
  rw [Bool.eq_iff_iff]
  constructor
  · intro h
    split at h
    · rename_i ha
      obtain ⟨q, hq, h1⟩ := List.any_eq_true.1 ha
      simp only [Bool.and_eq_true, beq_iff_eq, decide_eq_true_eq] at h1
      obtain ⟨h2, rfl⟩ := h1
      simp only [beq_self_eq_true, Bool.true_and]
      rw [List.any_eq_true]
      exact ⟨q, hq, by simp [isW, h2]⟩
    · cases h
  · intro h
    rw [Bool.and_eq_true, List.any_eq_true] at h
    obtain ⟨h1, q, hq, h2⟩ := h
    simp only [isW, Bool.and_eq_true, beq_iff_eq] at h1 h2
    rw [if_pos]
    · rfl
    · rw [List.any_eq_true]
      refine ⟨q, hq, ?_⟩
      simp only [Bool.and_eq_true, beq_iff_eq, decide_eq_true_eq]
      refine ⟨h2.1.1, ?_⟩
      cases o
      simp at h1 h2 ⊢
      omega
theorem goneF_snoc (ops : List Op) (l : Nat) (hl : l < ops.length) : goneF (ops.take (l + 1)) = if ops[l].Kind == 2 then (fun y => if y = ⟨1, ops[l].Key, ops[l].Value⟩ then some true else goneF (ops.take l) y) else goneF (ops.take l) := by
  funext y
  unfold goneF
  rw [List.take_succ_eq_append_getElem hl, List.any_append]
  cases hk : ops[l].Kind == 2 with
  | false => simp [hk]
  | true =>
    by_cases hy : y = ⟨1, ops[l].Key, ops[l].Value⟩
    · simp [hk, hy]
    · simp [hk, hy]
/-- The literal that asks the map. -/
theorem gone_any (o : Op) (w : World) (bx bm n : Nat) (f : Op → Option Bool) (ho : okO o) (hx : Blk w bx 115 #[.map (some bm)]) (hT : TabG opKey boolE w bm n f) :
    Calls Tryd.prog 112 #[.agg #[.int .i64 o.Kind, .int .i64 o.Key, .int .i64 o.Value], .pointer (some ⟨bx, 0, none⟩)] w fun e w' => e = .returned (.bool ((f o).getD false)) ∧ Below w.heap.size w w' := by
  have hx2 := hx.alloc (.cells #[.int .i64 o.Kind, .int .i64 o.Key, .int .i64 o.Value] 71)
  have c0 := hx2.cell 0
  simp only [List.getElem?_toArray, List.getElem?_cons_zero, List.getElem?_cons_succ] at c0
  have HT := hide (hT.keep (w' := w.alloc (.cells #[.int .i64 o.Kind, .int .i64 o.Key, .int .i64 o.Value] 71)) (Below.heap_alloc _ _ _ hT.lt))
  clear hx hT hx2
  go_enter Tryd.func112, Tryd.ntmps112
  go_wp2_with (at_lookup; refine wpList_tab_look _ rfl (.tmp 4) (.tmp 5) 115 rfl Tryd.underlying115 bm n f rfl HT.out o ho rfl ?_)
  go_ret
  exact ⟨rfl, (Below.refl _ w).alloc (Nat.le_refl _) _⟩

/-- Transactions whose operations lie in new blocks, in order. -/
def NewTxns (lo : Nat) (w : World) (xs : List Txn) (v : Value) (ps : List (Txn × Nat)) : Prop :=
  ps.map Prod.fst = xs ∧ Own (tTxnB 71) 42 w (fun b => lo ≤ b ∧ Old w b) ps v ∧ Up ps ∧ ∀ p ∈ ps, p.2 < w.heap.size
/-- What a function hands back that makes a history. -/
def FreshTxns (w w' : World) (xs : List Txn) (v : Value) : Prop :=
  ∃ ps g, ps.map Prod.fst = xs ∧ Hold (tTxnB 71) 42 w' (New w w') ps v g ∧ Up ps
theorem FreshTxns.sl {w w' : World} {xs : List Txn} {v : Value} (h : FreshTxns w w' xs v) : Sl tTxn w' (Old w') xs v := by
  obtain ⟨ps, g, rfl, h1, _⟩ := h
  exact h1.old.txnB
set_option maxRecDepth 10000 in
set_option maxHeartbeats 2000000 in
theorem dropped_any (xs : List Txn) (n : Nat) (A : Option Addr) (c : Nat) (w : World) (hn : n < xs.length) (hv : histV xs = true) (hA : Row tTxn w (Old w) A xs) :
    Calls Tryd.prog 50 #[.slice A xs.length c, .int .i64 n] w fun e w' => ∃ v, e = .returned v ∧ FreshTxns w w' (dropL xs n) v ∧ Below w.heap.size w w' := by
  obtain ⟨i0, hi, hz0, hz1, hz2⟩ := info_parts infoTxn_
  obtain ⟨h6, hts⟩ := histV_parts hv
  have HA := hide hA
  have HT := hide hts
  have hmm := @run_makeMap Tryd.prog
  have hmf : ∀ (fn : Fn) (first cap : Array Value) (w : World), (Instr.makeFunc fn first cap).run Tryd.prog w = .ok (.func fn first cap) w := fun _ _ _ _ => rfl
  have hmk : ∀ W : World, (Instr.makeSlice 23 (.int .i64 0) (.int .i64 (xs.length : Int))).run Tryd.prog W = .ok (.slice (some ⟨W.heap.size, 0, none⟩) 0 xs.length) (W.alloc (.cells (madeCells (Value.cells (.agg #[.int .i64 0, .slice none 0 0, .bool false])) (xs.length * 3)) 42)) := fun W => by
    have h := run_make_rowN (P := Tryd.prog) 23 42 i0 _ Tryd.underlying23 hi hz0 .i64 .i64 0 xs.length (Nat.zero_le _) (by rw [hz2]; omega) (by omega) W
    rw [hz1] at h
    exact h
  have hlen : xs[n].Ops.length ≤ 6 := (txnOk_parts (hts _ (List.getElem_mem hn))).2
  have HOpsN := hide (show opsAt xs n = xs[n].Ops from opsAt_eq hn)
  have HOk := hide (txnOk_parts (hts _ (List.getElem_mem hn))).1
  obtain ⟨b, off, A2, c2, rfl, hbS, c0, c1, c3, hi1, hi2, hi3⟩ := at_Txn HA.out (Below.refl _ w) hn
  have e1 : ((w.alloc (.map #[] 0)).alloc (.cells #[.map (some w.heap.size)] 115)).cell? ⟨b, off + n * 3 + 1, none⟩ = some (.slice A2 xs[n].Ops.length c2) :=
    (((Below.refl _ w).alloc (Nat.le_refl _) _).alloc (by simp) _).cell (p := ⟨b, off + n * 3 + 1, none⟩) hbS |>.trans c1
  have HR := hide hi3
  have hq : xs.length ≤ 9223372036854775807 := by omega
  have hq2 : xs[n].Ops.length ≤ 9223372036854775807 := by omega
  clear hA hts c0 c1 c3 hi3 hi2
  go_enter Tryd.func50, Tryd.ntmps50
  go_wp2
  go_loopw [7, 18] (fun _ i wr => ∃ l m : Nat, l ≤ xs[n].Ops.length ∧ i = .int .i64 l ∧ m ≤ l ∧ Hid (TabG opKey boolE wr w.heap.size m (goneF (xs[n].Ops.take l))) ∧ Hid (Blk wr (w.heap.size + 1) 115 #[.map (some w.heap.size)]) ∧ Below w.heap.size w wr) (fun _ i _ => xs[n].Ops.length - (intOf i).toNat)
  case atStart =>
    refine ⟨0, 0, Nat.zero_le _, rfl, Nat.le_refl _, ((TabG.made w).keep (w' := _) (Below.heap_alloc _ _ _ (by simp))).congr (fun x _ => by simp [goneF]), ?_, ((Below.refl _ w).alloc (Nat.le_refl _) _).alloc (by simp) _⟩
    have := Blk.new (w.alloc (.map #[] 0)) 115 #[.map (some w.heap.size)]
    rw [World.size_alloc] at this
    exact this
  case round =>
    obtain ⟨l, m, hl, rfl, hm, hT, hX, hb⟩ := hrel
    by_cases hlt : l < xs[n].Ops.length
    · obtain ⟨b2, off2, rfl, hbS2, d0, d1, d2⟩ := at_Op HR.out hb hlt
      have hok := okO_of (HOk.out _ (List.getElem_mem hlt))
      have hok1 : okO ⟨1, xs[n].Ops[l].Key, xs[n].Ops[l].Value⟩ := ⟨show (Lit.int .i64 1).wf = true by decide, hok.2.1, hok.2.2⟩
      have HS := hide (goneF_snoc xs[n].Ops l hlt)
      have hz : w.heap.size + 1 < wr.heap.size := hX.out.lt
      have HW := hide (writes_any xs[n].Ops[l] (wr.alloc (.cells #[.int .i64 xs[n].Ops[l].Kind, .int .i64 xs[n].Ops[l].Key, .int .i64 xs[n].Ops[l].Value] 71)))
      have HB := hide hb
      clear hok hmk hmm
      cases hkd : (xs[n].Ops[l].Kind == 2) with
      | false =>
        rw [hkd] at HW HS
        simp only [Bool.false_eq_true, if_false] at HS
        clear hkd
        go_wp2_with (go_at_call 108; refine HW.out.mono ?_; rintro e w2 ⟨rfl, hb2⟩; have HB2 := hide hb2; clear hb2)
        go_roundw
        case rel => exact ⟨l + 1, m, by omega, by go_num, by omega, by rw [HS.out]; exact (hT.out.keep (Below.heap_alloc _ _ _ hT.out.lt)).keep (HB2.out.block _ (Nat.lt_of_lt_of_le hT.out.lt (by simp))), (hX.out.alloc _).below HB2.out (hX.out.alloc _).lt, (HB.out.alloc HB.out.size _).trans (HB2.out.mono (Nat.le_trans HB.out.size (by simp)))⟩
        case measure => simp [intOf]; omega
      | true =>
        rw [hkd] at HW HS
        simp only [if_true] at HS
        clear hkd
        go_wp2_with (first | (go_at_call 108; refine HW.out.mono ?_; rintro e w2 ⟨rfl, hb2⟩; have HB2 := hide hb2; obtain ⟨hc2, hf2⟩ := bcell hb2; have hz2 : wr.heap.size < w2.heap.size := (by have := hb2.size; simp at this; omega); have HX2 := hide ((hX.out.alloc (.cells #[.int .i64 xs[n].Ops[l].Kind, .int .i64 xs[n].Ops[l].Key, .int .i64 xs[n].Ops[l].Value] 71)).below hb2 (hX.out.alloc _).lt); have hx0 := HX2.out.cell 0; simp only [List.getElem?_toArray, List.getElem?_cons_zero, List.getElem?_cons_succ] at hx0; have HT2 := hide ((hT.out.keep (w' := wr.alloc (.cells #[.int .i64 xs[n].Ops[l].Kind, .int .i64 xs[n].Ops[l].Key, .int .i64 xs[n].Ops[l].Value] 71)) (Below.heap_alloc _ _ _ hT.out.lt)).keep (hb2.block _ (Nat.lt_of_lt_of_le hT.out.lt (by simp)))); have HB3 := hide ((HB.out.alloc HB.out.size (.cells #[.int .i64 xs[n].Ops[l].Kind, .int .i64 xs[n].Ops[l].Key, .int .i64 xs[n].Ops[l].Value] 71)).trans (hb2.mono (Nat.le_trans HB.out.size (by simp)))); clear hb2) | (at_mapUpdate; refine wpList_tab_put (KK := opKey) (EE := boolE) _ rfl (.tmp 24) (.tmp 29) (.const (.bool true)) 115 rfl Tryd.underlying115 w.heap.size m _ rfl HT2.out (by simp only [maxLen]; omega) ⟨1, xs[n].Ops[l].Key, xs[n].Ops[l].Value⟩ hok1 true trivial rfl rfl ?_; intro w3 hT3 hg3; have HT3 := hide hT3; have HG3 := hide hg3; clear hT3 hg3))
        go_roundw
        case rel => exact ⟨l + 1, m + 1, by omega, by go_num, by omega, by rw [HS.out]; exact HT3.out, HX2.out.of (HG3.out.block _ HX2.out.lt (fun e => by injection e with e; omega)), below_tab HB3.out HG3.out (Nat.le_refl _) HB3.out.size⟩
        case measure => simp [intOf]; omega
    · obtain rfl : l = xs[n].Ops.length := by omega
      obtain ⟨wo, hwo⟩ : ∃ wo : World, wo = wr := ⟨_, rfl⟩
      rw [← hwo] at hT hX hb ⊢
      clear hwo
      have hT' := hT.out
      rw [List.take_length] at hT'
      have HT1 := hide hT'
      have hm6 : m ≤ 6 := by omega
      have hlo : w.heap.size + 1 < wo.heap.size := hX.out.lt
      have HB1 := hide hb
      have HX1 := hide hX.out
      have HO0 : Hid (NewTxns wo.heap.size (wo.alloc (.cells (madeCells (Value.cells (.agg #[.int .i64 0, .slice none 0 0, .bool false])) (xs.length * 3)) 42)) (dropI xs n 0) (.slice (some ⟨wo.heap.size, 0, none⟩) 0 xs.length) []) :=
        ⟨rfl, Own.made wo _ xs.length (by rw [size_madeCells]; rfl) (by simp only [maxLen]; omega) ⟨Nat.le_refl _, by simp [Old]⟩, List.Pairwise.nil, fun p hp => by cases hp⟩
      clear hT hT' hX hb e1 hm HR
      go_wp2
      clear hmk
      obtain ⟨lo, hlo2⟩ : ∃ lo, lo = wo.heap.size := ⟨_, rfl⟩
      have HT2 := hide (HT1.out.keep (w' := wo.alloc (.cells (madeCells (Value.cells (.agg #[.int .i64 0, .slice none 0 0, .bool false])) (xs.length * 3)) 42)) (Below.heap_alloc _ _ _ HT1.out.lt))
      have HX2 := hide (HX1.out.alloc (.cells (madeCells (Value.cells (.agg #[.int .i64 0, .slice none 0 0, .bool false])) (xs.length * 3)) 42))
      have HB2 := hide (HB1.out.alloc HB1.out.size (.cells (madeCells (Value.cells (.agg #[.int .i64 0, .slice none 0 0, .bool false])) (xs.length * 3)) 42))
      go_loopw [8, 9, 10, 36] (fun v _ _ i wr => ∃ (k : Nat) (ps : List (Txn × Nat)), k ≤ xs.length ∧ i = .int .i64 k ∧ Hid (NewTxns wo.heap.size wr (dropI xs n k) v ps) ∧ Hid (TabG opKey boolE wr w.heap.size m (goneF xs[n].Ops)) ∧ Hid (Blk wr (w.heap.size + 1) 115 #[.map (some w.heap.size)]) ∧ Below w.heap.size w wr ∧ wo.heap.size < wr.heap.size) (fun _ _ _ i _ => xs.length - (intOf i).toNat)
      case atStart => exact ⟨0, [], Nat.zero_le _, rfl, HO0.out, HT2.out, HX2.out, HB2.out, by simp⟩
      case round =>
        obtain ⟨k, ps, hk, rfl, hO, hT, hX, hb, hsz⟩ := hrel
        clear HO0 HT2 HX2 HB2
        by_cases hlt : k < xs.length
        · obtain ⟨b', off', A3, c3, hbe, hbS', d0, d1, d3, hj1, hj2, hj3⟩ := at_Txn HA.out hb hlt
          obtain ⟨rfl, rfl⟩ : b = b' ∧ off = off' := by simpa using hbe
          clear hbe hbS'
          have HS := hide (dropI_succ xs n k hlt)
          by_cases hkn : k = n
          · have hkn' : ((k : Int) == (n : Int)) = true := by rw [beq_iff_eq]; omega
            rw [if_pos hkn, List.append_nil] at HS
            clear hkn
            go_wp2
            go_roundw
            case rel => exact ⟨k + 1, ps, by omega, by go_num, by rw [HS.out]; exact ⟨hO.out.1, hO.out.2.1.onlyBelow ((Below.refl _ _).alloc (Nat.le_refl _) _), hO.out.2.2.1, fun p hp => Nat.lt_of_lt_of_le (hO.out.2.2.2 p hp) (by simp)⟩, hT.out.keep (Below.heap_alloc _ _ _ hT.out.lt), hX.out.alloc _, hb.alloc hb.size _, Nat.lt_of_lt_of_le hsz (by simp)⟩
            case measure => simp [intOf]; omega
          · have hkn' : ((k : Int) == (n : Int)) = false := by rw [beq_eq_false_iff_ne]; omega
            rw [if_neg hkn] at HS
            clear hkn
            have HC := hide (copyTxn xs[k] A3 c3 (wr.alloc (.cells #[.int .i64 xs[k].Session, .slice A3 xs[k].Ops.length c3, .bool xs[k].Done] 42)) (by have := (txnOk_parts (HT.out _ (List.getElem_mem hlt))).2; omega) (hj3.old ((Below.refl _ _).alloc (Nat.le_refl _) _)))
            have HBx := hide (Blk.new wr 42 #[.int .i64 xs[k].Session, .slice A3 xs[k].Ops.length c3, .bool xs[k].Done])
            have HB := hide hb
            have HZ := hide hsz
            clear hj1 hj2 hj3 hb hsz
            have HL := hide (own_lt (B := wr.heap.size) hO.out.2.1 (fun b h => h.2))
            go_wp2_with fail
            refine HC.out.mono ?_
            rintro e w3 ⟨v3, g3, rfl, hH3, hg3, hb3⟩
            obtain ⟨A4, c4, hv4, hc4, hm4, _⟩ := id hH3
            subst hv4
            have hBx3 := HBx.out.below hb3 HBx.out.lt
            have q0 := hBx3.cell 0; have q1 := hBx3.cell 1; have q2 := hBx3.cell 2
            have f0 := hBx3.frozen 0; have f1 := hBx3.frozen 1; have f2 := hBx3.frozen 2
            simp only [List.getElem?_toArray, List.getElem?_cons_zero, List.getElem?_cons_succ] at q0 q1 q2
            have HBx3 := hide hBx3; have HH3 := hide hH3; have HG3 := hide hg3; have HB3 := hide hb3
            clear hBx3 hH3 hg3 hb3 d0 d1 d3
            go_upto_region 14 with (fail)
            generalize hW : World.setCell _ _ _ = W
            have hBx4 : Blk W wr.heap.size 42 #[.int .i64 xs[k].Session, .slice A4 xs[k].Ops.length c4, .bool xs[k].Done] := by
              rw [← hW]; exact ((HBx3.out.set_ 0 (.int .i64 xs[k].Session)).set_ 1 (.slice A4 xs[k].Ops.length c4)).set_ 2 (.bool xs[k].Done)
            have hfar : ∀ b, b ≠ wr.heap.size → W.heap[b]? = w3.heap[b]? := fun b hb => by
              rw [← hW, Below.heap_setCell _ _ _ _ hb, Below.heap_setCell _ _ _ _ hb, Below.heap_setCell _ _ _ _ hb]
            have hsW : W.heap.size = w3.heap.size := by rw [← hW]; simp [World.setCell]
            have hbW : Below wr.heap.size wr W := by
              rw [← hW]
              exact (((((Below.refl _ wr).alloc (Nat.le_refl _) _).trans (HB3.out.mono (by simp))).setCell (p := ⟨wr.heap.size, 0, none⟩) (Nat.le_refl _) _).setCell (p := ⟨wr.heap.size, 1, none⟩) (Nat.le_refl _) _).setCell (p := ⟨wr.heap.size, 2, none⟩) (Nat.le_refl _) _
            clear hW q0 q1 q2 f0 f1 f2
            have hg3 : wr.heap.size < g3 ∧ g3 < W.heap.size := ⟨by have := HG3.out.1; simp at this; omega, by rw [hsW]; exact HG3.out.2⟩
            have hH4 : Hold tOp 71 W (In (wr.heap.size + 1) W.heap.size) xs[k].Ops (.slice A4 xs[k].Ops.length c4) g3 := HH3.out.mono (fun b h => ⟨by have := h.1; simp at this; omega, by rw [hsW]; exact h.2⟩) (fun b h => hfar b (by have := h.1; simp at this; omega))
            have HF := hide (fun b (hb : b ≠ wr.heap.size) => hfar b hb)
            have HT4 := hide (hT.out.keep (hbW.block _ hT.out.lt))
            have HX4 := hide (hX.out.below hbW hX.out.lt)
            have hx41 := HX4.out.lt
            have hD := (delFunc_Op xs[k].Ops A4 c4 W g3 (In (wr.heap.size + 1) W.heap.size) 112 #[.pointer (some ⟨w.heap.size + 1, 0, none⟩)] (fun o => (goneF xs[n].Ops o).getD false) (enters_of Tryd.func112 (by kernel_rfl) rfl) (by have := (txnOk_parts (HT.out _ (List.getElem_mem hlt))).2; omega) hH4 (fun b h => h.2)
              (fun x hx W2 h2 => gone_any x W2 (w.heap.size + 1) w.heap.size m (goneF xs[n].Ops) (okO_of ((txnOk_parts (HT.out _ (List.getElem_mem hlt))).1 x hx)) (HX4.out.of (h2.block _ HX4.out.lt (by have := HZ.out; omega))) (HT4.out.keep (h2.block _ HT4.out.lt (by have := HZ.out; omega)))))
            rw [show xs[k].Ops.filter (fun o => !(goneF xs[n].Ops o).getD false) = (dropT xs n xs[k]).Ops by unfold dropT keepOp; rw [HOpsN.out]; simp only [goneF_get]] at hD
            have hDl : (dropT xs n xs[k]).Ops.length ≤ xs[k].Ops.length := List.length_filter_le _ _
            have HDT := hide (show (dropT xs n xs[k]).Session = xs[k].Session ∧ (dropT xs n xs[k]).Done = xs[k].Done from ⟨rfl, rfl⟩)
            generalize dropT xs n xs[k] = dt at hD HS hDl HDT
            have HD := hide hD
            clear hD
            have hx1 := hBx4.cell 1
            simp only [List.getElem?_toArray, List.getElem?_cons_zero, List.getElem?_cons_succ] at hx1
            have HBx4 := hide hBx4; have HBW := hide hbW; have HSW := hide hsW
            clear hBx4 hbW hfar hsW HBx3 HH3 HG3 HC HBx
            go_wp2_with fail
            refine HD.out.mono ?_
            rintro e w5 ⟨rfl, hH5, hO5⟩
            have hBx5 := HBx4.out.of (hO5.block _ HBx4.out.lt (by omega))
            have q0 := hBx5.cell 0; have q1 := hBx5.cell 1; have q2 := hBx5.cell 2
            have f1 := hBx5.frozen 1
            simp only [List.getElem?_toArray, List.getElem?_cons_zero, List.getElem?_cons_succ] at q0 q1 q2
            have hz5 : wr.heap.size < w5.heap.size := hBx5.lt
            have hh5 : Hold tOp 71 (w5.setCell ⟨wr.heap.size, 1, none⟩ (.slice A4 dt.Ops.length dt.Ops.length)) (In (wr.heap.size + 1) W.heap.size) dt.Ops (.slice A4 dt.Ops.length dt.Ops.length) g3 := hH5.clip.mono (fun _ h => h) (fun b h => Below.heap_setCell _ _ _ _ (by have := h.1; show b ≠ wr.heap.size; omega))
            have HH6 := hide hh5
            have hO6 : Only (fun b => wo.heap.size ≤ b ∧ wr.heap.size ≤ b) wr (w5.setCell ⟨wr.heap.size, 1, none⟩ (.slice A4 dt.Ops.length dt.Ops.length)) :=
              ((Only.of_below (HBW.out)).trans (hO5.mono (fun b h => ⟨by have := HZ.out; omega, by omega⟩))).setCell (p := ⟨wr.heap.size, 1, none⟩) ⟨Nat.le_of_lt HZ.out, Nat.le_refl _⟩ _
            have hs6 : (w5.setCell ⟨wr.heap.size, 1, none⟩ (.slice A4 dt.Ops.length dt.Ops.length)).heap.size = w5.heap.size := by simp [World.setCell]
            have hO7 := hide (hO.out.2.1.only hO6 (fun b h => ⟨h.2, fun e => by have := h.2; unfold Old at this; omega⟩))
            have HO6 := hide hO6; have HO5 := hide hO5
            have hW5 : W.heap.size ≤ w5.heap.size := hO5.size
            have HPS := hide hO.out.2.2
            have HPF := hide hO.out.1
            have HS6 := hide hs6
            have Hg3 := hide hg3
            have hps : ps.length ≤ k := by have h1 := congrArg List.length hO.out.1; rw [List.length_map] at h1; have := dropI_len xs n k; omega
            have hcl : dt.Ops.length ≤ c4 := by omega
            clear hh5 hO6 hs6 hO5 hH5 HD HF hBx5 hO
            go_wp2_with (first | (go_at_call 110; refine (clip_Op _ _ _ _ hcl hm4).mono ?_; rintro e w' ⟨rfl, rfl⟩) | (at_builtin; refine wpList_put (tTxnB 71) rfl (.tmp 52) (.tmp 54) 23 rfl 42 i0 _ 40 Tryd.underlying23 hi hz0 hz1 hz2 rfl (by decide) (fun b => wo.heap.size ≤ b) (In (wr.heap.size + 1) W.heap.size) ps (dt, g3) [.int .i64 xs[k].Session, .slice A4 dt.Ops.length dt.Ops.length, .bool xs[k].Done] _ rfl (hO7.out.mono (fun b h => ⟨h.1, by have := h.2; have := HS6.out; unfold Old at *; omega⟩) (fun _ _ => rfl)) 1 (by rw [HS6.out]; rfl) ⟨_, by rw [HDT.out.1, HDT.out.2], HH6.out⟩ (fun b h => ⟨by have := HZ.out; have := h.1; omega, by have := HS6.out; have := h.2; unfold Old; omega, fun e => by have := HL.out b e; have := h.1; omega⟩) (fun b hb => by have := HS6.out; have := HZ.out; omega) (by simp only [maxLen]; omega) (by omega) ?_; intro v7 w7 hO_ hK_; have HO8 := hide hO_; have HK8 := hide hK_; clear hO_ hK_))
            have HSz := hide HK8.out.size
            have H67 := hide (HO6.out.mono (S' := fun b => wo.heap.size ≤ b) (fun b h => h.1) |>.trans HK8.out)
            go_roundw
            case rel =>
              refine ⟨k + 1, ps ++ [(dt, g3)], by omega, by go_num, ⟨by rw [HS.out, List.map_append, HPF.out]; rfl, HO8.out, HPS.out.1.snoc (fun q hq => by have := HPS.out.2 q hq; have := Hg3.out.1; show q.2 < g3; omega), fun p hp => ?_⟩, hT.out.keep (H67.out.block _ hT.out.lt (by omega)), hX.out.of (H67.out.block _ hX.out.lt (by omega)), ?_, ?_⟩
              · rcases List.mem_append.1 hp with hp | hp
                · have := HPS.out.2 p hp; have := HSz.out; have := HS6.out; omega
                · simp at hp; subst hp; have := Hg3.out.2; have := HSz.out; have := HS6.out; show g3 < _; omega
              · exact below_only HB.out H67.out HB.out.size (fun i hi => by omega)
              · have := HSz.out; have := HS6.out; have := HZ.out; omega
            case measure => simp [intOf]; omega
        · obtain rfl : k = xs.length := by omega
          have HO := hide (show NewTxns wo.heap.size wr (dropL xs n) _ ps from hO.out)
          have hnt := HO.out.2.1.sl
          obtain ⟨A9, c9, rfl, h91, h92, _⟩ := hnt
          have hpl : ps.length ≤ 9223372036854775807 := by simp only [maxLen] at h92; omega
          have hB9 := hide hb
          have H92 := hide h92
          clear hO hb hT hX h92
          go_wp2_with (go_at_call 113; refine (clip_Txn _ _ _ _ h91 H92.out).mono ?_; rintro e w' ⟨rfl, rfl⟩)
          go_ret
          obtain ⟨g, hg, _⟩ := HO.out.2.1.hold
          exact ⟨_, rfl, ⟨ps, g, HO.out.1, hg.clip.mono (fun b h => ⟨by have := h.1; omega, h.2⟩) (fun _ _ => rfl), HO.out.2.2.1⟩, hB9.out⟩
end Go.Proofs.YtaaagoppecnmmaaDoor
