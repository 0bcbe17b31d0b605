/- The program's HistoryValid. Plain laws on histories: committed transactions, last writes, first reads, runs. The program's TxnText. The program's ReadOp. -/
import Derived.Test.YtjnghnkilnhacaaGreatDoorQWriters
import Derived.Test.YtjnghnkilnhacaaGreatDoorQHBox
import Derived.Test.YtjnghnkilnhacaaGreatDoorQTabT
import Derived.Test.YtjnghnkilnhacaaGreatDoorQTxtR
namespace Go.Proofs.YtjnghnkilnhacaaGreatDoor
open Go.RowKit Go.Maps
set_option linter.unusedVariables false
set_option linter.unusedSimpArgs false

theorem num_count (p : Op → Bool) : ∀ (h : List Txn) (i : Nat), (num h i).countP (fun q => p q.2) = tot (fun x : Txn => x.Ops.countP p) h
  | [], i => rfl
  | t :: r, i => by
    have h1 := num_count p r (i + 1)
    simp only [num, List.countP_append, List.countP_map, h1, tot, List.map_cons, List.sum_cons]
    rfl
theorem num_mem {h : List Txn} : ∀ {i : Nat} {q : Nat × Op}, q ∈ num h i → ∃ t ∈ h, q.2 ∈ t.Ops := by
  induction h with
  | nil => intro i q hq; cases hq
  | cons t r ih =>
    intro i q hq
    rcases List.mem_append.1 hq with hq | hq
    · obtain ⟨o, ho, rfl⟩ := List.mem_map.1 hq
      exact ⟨t, List.mem_cons_self, ho⟩
    · obtain ⟨t', ht, ho⟩ := ih hq
      exact ⟨t', List.mem_cons_of_mem _ ht, ho⟩
theorem mem_num {h : List Txn} : ∀ {i : Nat} {t : Txn} {o : Op}, t ∈ h → o ∈ t.Ops → ∃ n, (n, o) ∈ num h i := by
  induction h with
  | nil => intro i t o ht; cases ht
  | cons t0 r ih =>
    intro i t o ht ho
    rcases List.mem_cons.1 ht with rfl | ht
    · exact ⟨i, List.mem_append_left _ (List.mem_map.2 ⟨o, ho, rfl⟩)⟩
    · obtain ⟨n, hn⟩ := ih (i := i + 1) ht ho
      exact ⟨n, List.mem_append_right _ hn⟩
theorem look_none {l : List (Nat × Op)} {x y : Int} : look l x y = none ↔ l.countP (fun q => isW x y q.2) = 0 := by
  unfold look
  rw [Option.map_eq_none_iff, List.find?_eq_none, List.countP_eq_zero]
theorem fresh_iff (l : List (Nat × Op)) : Fresh l ↔ ∀ q ∈ l, q.2.Kind = 2 → l.countP (fun r => isW q.2.Key q.2.Value r.2) ≤ 1 := by
  constructor
  · intro hF q hq hk
    have hc : ∀ i, i ≤ l.length → (l.take i).countP (fun r => isW q.2.Key q.2.Value r.2) ≤ 1 := by
      intro i
      induction i with
      | zero => intro _; simp
      | succ i ih =>
        intro hi
        rw [countP_take _ _ _ (by omega)]
        have h1 := ih (by omega)
        split
        · rename_i hw
          have hw2 := hw
          simp only [isW, Bool.and_eq_true, beq_iff_eq] at hw2
          have h2 := hF i (by omega) hw2.1.1
          rw [hw2.1.2, hw2.2, look_none] at h2
          omega
        · omega
    have := hc l.length (Nat.le_refl _)
    rwa [List.take_length] at this
  · intro h i hi hk
    have h1 := h l[i] (List.getElem_mem hi) hk
    rw [look_none]
    have h2 := countP_take (fun r : Nat × Op => isW l[i].2.Key l[i].2.Value r.2) l i hi
    rw [if_pos (by simp [isW, hk])] at h2
    have h3 := (List.take_sublist (i + 1) l).countP_le (p := fun r : Nat × Op => isW l[i].2.Key l[i].2.Value r.2)
    omega
theorem fresh_hist {xs : List Txn} (hl : xs.length ≤ 6) (hv : ∀ t ∈ xs, txnOk t = true) : Fresh (num xs 0) ↔ histV xs = true := by
  rw [fresh_iff]
  unfold histV
  simp only [Bool.and_eq_true, List.all_eq_true, decide_eq_true_eq, hl, and_true]
  constructor
  · intro h t ht
    unfold txnFine
    rw [hv t ht, Bool.true_and, List.all_eq_true]
    intro o ho
    obtain ⟨n, hn⟩ := mem_num (i := 0) ht ho
    have h1 : o.Kind = 2 → (num xs 0).countP (fun r => isW o.Key o.Value r.2) ≤ 1 := h _ hn
    unfold opFine
    by_cases hk : o.Kind = 2
    · have h2 := h1 hk
      rw [num_count] at h2
      have h3 : ¬ 1 < writesN xs o.Key o.Value := by unfold writesN; omega
      simp [h3]
    · simp [hk]
  · intro h q hq hk
    obtain ⟨t, ht, ho⟩ := num_mem hq
    have h1 := h t ht
    unfold txnFine at h1
    rw [Bool.and_eq_true, List.all_eq_true] at h1
    have h2 := h1.2 _ ho
    unfold opFine at h2
    rw [num_count]
    simp only [hk, beq_self_eq_true, Bool.true_and, Bool.not_eq_true', decide_eq_false_iff_not] at h2
    unfold writesN at h2
    omega
set_option maxRecDepth 10000 in
set_option maxHeartbeats 1000000 in
theorem implHistoryValid (xs : List Txn) (A : Option Addr) (c : Nat) (w : World) (hm : xs.length ≤ maxLen) (hA : Row tTxn w (Old w) A xs) :
    Calls Tryz.prog 20 #[.slice A xs.length c] w fun e w' => e = .returned (.bool (histV xs)) ∧ Below w.heap.size w w' := by
  by_cases h6 : xs.length ≤ 6
  · have hcont := hide (cont_Txn xs A c w 39 #[] (fun x => !txnOk x) (enters_of Tryz.func39 (by kernel_rfl) rfl) hm hA
      (fun x _ cs hr W hW => by
        obtain ⟨v, rfl, A2, c2, rfl, h1, h2, h3⟩ := hr
        exact (txnLit x A2 c2 W (Nat.le_trans h1 h2) (h3.old hW)).mono (by rintro e w' ⟨rfl, hb⟩; exact ⟨rfl, hW.trans (hb.mono hW.size)⟩)))
    have hm' : xs.length ≤ 9223372036854775807 := by omega
    cases hq : xs.any (fun x => !txnOk x) with
    | true =>
      have HR := hide (show histV xs = false by
        obtain ⟨t, ht, h1⟩ := List.any_eq_true.1 hq
        cases hv : histV xs with
        | false => rfl
        | true =>
          unfold histV at hv
          simp only [Bool.and_eq_true, List.all_eq_true] at hv
          have h2 := hv.1 t ht
          unfold txnFine at h2
          rw [Bool.and_eq_true] at h2
          rw [h2.1] at h1
          cases h1)
      rw [hq] at hcont
      clear hA hq hm
      go_enter Tryz.func20, Tryz.ntmps20
      go_wp2_with (go_at_call 38; refine hcont.out.mono ?_; rintro e w' ⟨rfl, hb'⟩)
      go_ret
      exact ⟨ret_bool HR.out.symm, hb'⟩
    | false =>
      have hv : ∀ t ∈ xs, txnOk t = true := fun t ht => by
        have := List.any_eq_false.1 hq t ht
        simpa using this
      have HF := hide (fresh_hist h6 hv)
      have HW := hide (fun W (hb : Below w.heap.size w W) => writers_any xs A c W h6 (hA.old hb) hv)
      rw [hq] at hcont
      clear hA hq hv hm
      go_enter Tryz.func20, Tryz.ntmps20
      go_wp2_with (go_at_call 38; refine hcont.out.mono ?_; rintro e w' ⟨rfl, hb'⟩; have HB := hide hb'; clear hb')
      refine (HW.out _ HB.out).mono ?_
      rintro e w2 ⟨h, hb2⟩
      have HB2 := hide (HB.out.trans (hb2.mono HB.out.size))
      clear hb2
      rcases h with ⟨b, n, rfl, hF, _, _⟩ | ⟨rfl, hF⟩
      · have HR := hide (show histV xs = true from HF.out.1 hF)
        clear hF
        go_wp2_with fail
        go_ret
        exact ⟨ret_bool HR.out.symm, HB2.out⟩
      · have HR := hide (show histV xs = false by cases hv : histV xs with | false => rfl | true => exact absurd (HF.out.2 hv) hF)
        clear hF
        go_wp2_with fail
        go_ret
        exact ⟨ret_bool HR.out.symm, HB2.out⟩
  · have HR := hide (show histV xs = false by unfold histV; simp [h6])
    have h6' : (6 : Int) < (xs.length : Int) := by omega
    clear hA
    unfold maxLen at hm
    go_enter Tryz.func20, Tryz.ntmps20
    go_wp2
    go_ret
    exact ⟨ret_bool HR.out.symm, Below.refl _ _⟩
/-- What keys hold. -/
abbrev St := Int → Int
def St.put (s : St) (key value : Int) : St := fun k => if k = key then value else s k
theorem histV_parts {h : List Txn} (hv : histV h = true) : h.length ≤ 6 ∧ ∀ t ∈ h, txnOk t = true := by
  unfold histV at hv
  simp only [Bool.and_eq_true, List.all_eq_true, decide_eq_true_eq] at hv
  refine ⟨hv.2, fun t ht => ?_⟩
  have := hv.1 t ht
  unfold txnFine at this
  rw [Bool.and_eq_true] at this
  exact this.1
end Go.Proofs.YtjnghnkilnhacaaGreatDoor
namespace Go.Proofs.YtjnghnkilnhacaaGreatDoor
open Go.RowKit
set_option linter.unusedVariables false
set_option linter.unusedSimpArgs false

theorem itoaS_dec : ∀ n : Fin 100, (itoaS n.val).data.toList = decL n.val := by decide +kernel
theorem itoaS_eq {n : Nat} (h : n < 100) : itoaS n = ⟨(decL n).toArray⟩ := ba_list (itoaS_dec ⟨n, h⟩)
theorem opText_eq (o : Op) : opText o = opB o := by
  unfold opText opB
  by_cases h : opOk o = true
  · rw [if_pos h, if_pos h]
    obtain ⟨h1, h2, h3⟩ := opOk_parts' h
    apply ba_list
    rw [data_app, data_app, data_app, itoaS_eq (by omega), itoaS_eq (by omega), opL]
    rcases h1 with h1 | h1 <;> rw [letterS, h1] <;> simp
  · rw [if_neg h, if_neg h]
theorem own_two {W : World} {g : Nat} {a b : ByteArray} {K : Nat → Prop} (hB : Blk W g 9 #[.string a, .string b]) (hK : K g) : Own tStr 9 W (fun x => K x ∧ Old W x) [a, b] (.slice (some ⟨g, 0, none⟩) 2 2) :=
  .inr ⟨g, 2, _, fun _ => False, rfl, ⟨hK, hB.lt⟩, hB, Nat.le_refl _, by simp [maxLen], rfl, fun _ h => h.elim, fun k hk => by
    have hk2 : k < 2 := by simpa using hk
    match k, hk2 with
    | 0, _ =>
      refine ⟨[.string a], rfl, fun j u hu => ?_⟩
      obtain ⟨rfl, rfl⟩ : j = 0 ∧ u = .string a := by
        cases j with
        | zero => exact ⟨rfl, by simpa using hu.symm⟩
        | succ j => simp at hu
      exact hB.cell 0
    | 1, _ =>
      refine ⟨[.string b], rfl, fun j u hu => ?_⟩
      obtain ⟨rfl, rfl⟩ : j = 0 ∧ u = .string b := by
        cases j with
        | zero => exact ⟨rfl, by simpa using hu.symm⟩
        | succ j => simp at hu
      exact hB.cell 1⟩
/-- The words with the first k operations. -/
def prefW (t : Txn) (k : Nat) : List Bs := (115 :: decL t.Session.toNat) :: (if t.Done then [111, 107] else [111, 102, 102]) :: (t.Ops.take k).map opL
theorem prefW_succ (t : Txn) (k : Nat) (hk : k < t.Ops.length) : prefW t (k + 1) = prefW t k ++ [opL t.Ops[k]] := by
  unfold prefW
  rw [List.take_succ_eq_append_getElem hk, List.map_append]; rfl
theorem prefW_all (t : Txn) : prefW t t.Ops.length = txnW t := by unfold prefW txnW; rw [List.take_length]
theorem prefW_len (t : Txn) (k : Nat) (hk : k ≤ t.Ops.length) : (prefW t k).length = k + 2 := by unfold prefW; simp; omega
set_option maxRecDepth 10000 in
set_option maxHeartbeats 4000000 in
theorem implTxnText (t : Txn) (A : Option Addr) (c : Nat) (w : World) (hm : t.Ops.length ≤ maxLen) (hA : Row tOp w (Old w) A t.Ops) : Calls Tryz.prog 21 #[.agg #[.int .i64 t.Session, .slice A t.Ops.length c, .bool t.Done]] w fun e w' => e = .returned (.string (txnB t)) ∧ Below w.heap.size w w' := by
  obtain ⟨i0, hi, hz0, hz1, hz2⟩ := info_parts infoStr_
  have HB0 := hide ((Below.refl _ w).alloc (Nat.le_refl _) (.cells #[.int .i64 t.Session, .slice A t.Ops.length c, .bool t.Done] 41))
  have HX0 := hide (Blk.new w 41 #[.int .i64 t.Session, .slice A t.Ops.length c, .bool t.Done])
  have HV := hide (implTxnValid t A c _ hm (hA.old HB0.out))
  have HA := hide hA
  have hq : t.Ops.length ≤ 9223372036854775807 := by simpa [maxLen] using hm
  clear hA hm
  cases q1 : txnOk t with
  | false =>
    have HR := hide (show txnB t = ⟨#[]⟩ by unfold txnB; rw [q1]; rfl)
    rw [q1] at HV
    clear q1
    go_enter Tryz.func21, Tryz.ntmps21
    go_upto_region 1 with fail
    generalize w.alloc _ = W at HB0 HX0 HV ⊢
    have x0 := HX0.out.cell 0; have x1 := HX0.out.cell 1; have x2 := HX0.out.cell 2
    simp only [List.getElem?_toArray, List.getElem?_cons_zero, List.getElem?_cons_succ] at x0 x1 x2
    go_wp2_with (go_at_call 40; refine HV.out.mono ?_; rintro e w1 ⟨rfl, hb1⟩; have HB1 := hide (HB0.out.trans (hb1.mono HB0.out.size)); clear hb1)
    go_ret
    exact ⟨ret_str HR.out.symm, HB1.out⟩
  | true =>
    have HR := hide (show txnB t = ⟨(txnL t).toArray⟩ by unfold txnB; rw [q1]; rfl)
    have HOk := hide q1
    obtain ⟨ho, hs, hl6⟩ := txnOk_parts' q1
    have HOo := hide ho
    rw [q1] at HV
    clear q1 ho
    obtain ⟨n, hn⟩ : ∃ n : Nat, t.Session = (n : Int) := ⟨t.Session.toNat, by omega⟩
    have hd1 := decL_len n
    obtain ⟨N, hN⟩ : ∃ N : ByteArray, N = itoaS n := ⟨_, rfl⟩
    have HI := itoa_any n (by omega)
    rw [← hN] at HI
    have HI := hide HI
    have HNl := hide (show N.data.toList = decL n by rw [hN, itoaS_eq (by omega)])
    have hs1 : N.size ≤ 2 := by rw [ba_size HNl.out]; omega
    have HP0 := hide (show prefW t 0 = [115 :: decL n, if t.Done then [111, 107] else [111, 102, 102]] by unfold prefW; rw [hn]; rfl)
    rw [hn] at HB0 HX0 HV ⊢
    clear hn hs hN
    have hadd1 : ∀ W, (Op.stringOp .add ⟨#[115]⟩ N).run Tryz.prog W = .ok (.string (⟨#[115]⟩ ++ N)) W := fun W => run_string_add_sum _ _ _ (by have : (⟨#[115]⟩ : ByteArray).size = 1 := rfl; omega)
    generalize hdn : t.Done = dn at HB0 HX0 HV HP0 ⊢
    clear hdn
    go_enter Tryz.func21, Tryz.ntmps21
    go_upto_region 1 with fail
    generalize w.alloc _ = W at HB0 HX0 HV ⊢
    have HXv := hide (fun (W2 : World) (hb : Below W.heap.size W W2) => And.intro ((HX0.out.below hb HX0.out.lt).cell 0) (And.intro ((HX0.out.below hb HX0.out.lt).cell 1) ((HX0.out.below hb HX0.out.lt).cell 2)))
    simp only [List.getElem?_toArray, List.getElem?_cons_zero, List.getElem?_cons_succ] at HXv
    obtain ⟨x0, x1, x2⟩ := HXv.out W (Below.refl _ _)
    go_upto_region 3 with (go_at_call 40; refine HV.out.mono ?_; rintro e w1 ⟨rfl, hb1⟩; have HW1 := hide hb1; clear hb1)
    clear x0 x1 x2
    obtain ⟨x0, x1, x2⟩ := HXv.out w1 HW1.out
    have HW2 := hide (HW1.out.alloc HW1.out.size (.cells #[.string (⟨#[115]⟩ ++ N), .string ⟨#[111, 102, 102]⟩] 9))
    have HV2 := hide (Blk.new w1 9 #[.string (⟨#[115]⟩ ++ N), .string ⟨#[111, 102, 102]⟩])
    go_upto_region 4 with (go_at_call 42; refine (HI.out _).mono ?_; rintro e w' ⟨rfl, rfl⟩)
    clear x0 x1 x2
    have hgl : w1.heap.size < (w1.alloc (.cells #[.string (⟨#[115]⟩ ++ N), .string ⟨#[111, 102, 102]⟩] 9)).heap.size := by simp
    generalize w1.alloc _ = w2 at HW2 HV2 hgl ⊢
    obtain ⟨x0, x1, x2⟩ := HXv.out w2 HW2.out
    cases dn with
    | true =>
      have y1 := HV2.out.cell 1; have q1 := HV2.out.frozen 1
      simp only [List.getElem?_toArray, List.getElem?_cons_zero, List.getElem?_cons_succ] at y1
      go_upto_region 6 with fail
      clear y1 q1 x0 x1 x2
      have HO3 := hide (own_two (K := fun b => W.heap.size ≤ b) (show Blk (w2.setCell ⟨w1.heap.size, 1, none⟩ (.string ⟨#[111, 107]⟩)) w1.heap.size 9 #[.string (⟨#[115]⟩ ++ N), .string ⟨#[111, 107]⟩] from HV2.out.set_ 1 _) HW1.out.size)
      have HW3 := hide (HW2.out.setCell (p := ⟨w1.heap.size, 1, none⟩) HW1.out.size (.string ⟨#[111, 107]⟩))
      have HL3 := hide (show ([⟨#[115]⟩ ++ N, ⟨#[111, 107]⟩] : List ByteArray).map (·.data.toList) = prefW t 0 by rw [HP0.out]; simp [data_app, HNl.out])
      generalize World.setCell _ _ _ = w3 at HO3 HW3 ⊢
      obtain ⟨x0, x1, x2⟩ := HXv.out w3 HW3.out
      go_upto_region 7 with fail
      clear x0 x1 x2
      go_loopw [3, 5, 21] (fun ws _ i wr => ∃ (k : Nat) (xs : List ByteArray) (v : Value), ws = v ∧ k ≤ t.Ops.length ∧ i = .int .i64 k ∧ Hid (xs.map (·.data.toList) = prefW t k) ∧ Hid (Own tStr 9 wr (fun b => W.heap.size ≤ b ∧ Old wr b) xs v) ∧ Hid (Below W.heap.size W wr)) (fun _ _ i _ => t.Ops.length - (intOf i).toNat)
      case atStart => exact ⟨0, _, _, rfl, Nat.zero_le _, rfl, HL3.out, HO3.out, HW3.out⟩
      case round =>
        obtain ⟨k, xs, v, rfl, hk, rfl, hL, hO, hb⟩ := hrel
        have HL := hide hL.out; have HO := hide hO.out; have HWr := hide hb.out
        clear hL hO hb HO3 HL3 HW3
        have HBw := hide (HB0.out.trans (HWr.out.mono HB0.out.size))
        have HXl := hide (show xs.length = k + 2 by have h := congrArg List.length HL.out; rw [List.length_map, prefW_len t k hk] at h; exact h)
        by_cases hlt : k < t.Ops.length
        · have hki : (k : Int) < (t.Ops.length : Int) := by omega
          have HSu := hide (prefW_succ t k hlt)
          have hok := HOo.out _ (List.getElem_mem hlt)
          obtain ⟨b, off, rfl, hbS, d0, d1, d2⟩ := at_Op HA.out HBw.out hlt
          have HOt := opText_any t.Ops[k]
          obtain ⟨O, hOe⟩ : ∃ O : ByteArray, O = opText t.Ops[k] := ⟨_, rfl⟩
          have HOl := hide (show O.data.toList = opL t.Ops[k] by rw [hOe, opText_eq]; unfold opB; rw [if_pos hok])
          rw [← hOe] at HOt
          have HOt := hide HOt
          clear hOe hok
          generalize t.Ops[k] = o at d0 d1 d2 HOt HOl HSu
          go_upto_region 9 with fail
          have HO4 := hide (HO.out.onlyBelow ((Below.refl wr.heap.size wr).alloc (Nat.le_refl _) (.cells #[.int .i64 o.Kind, .int .i64 o.Key, .int .i64 o.Value] 46)))
          have HW4 := hide (HWr.out.alloc HWr.out.size (.cells #[.int .i64 o.Kind, .int .i64 o.Key, .int .i64 o.Value] 46))
          have HV4 := hide (Blk.new wr 46 #[.int .i64 o.Kind, .int .i64 o.Key, .int .i64 o.Value])
          clear d0 d1 d2 HO
          generalize wr.alloc _ = w4 at HO4 HW4 HV4 ⊢
          have z0 := HV4.out.cell 0; have z1 := HV4.out.cell 1; have z2 := HV4.out.cell 2
          simp only [List.getElem?_toArray, List.getElem?_cons_zero, List.getElem?_cons_succ] at z0 z1 z2
          have HSn := hide (show (xs ++ [O]).map (·.data.toList) = prefW t (k + 1) by rw [HSu.out, List.map_append, HL.out, List.map_cons, HOl.out]; rfl)
          go_wp2_with (first | (go_at_call 26; refine (HOt.out _).mono ?_; rintro e w5 ⟨rfl, hb5⟩; have HO5 := hide (HO4.out.onlyBelow hb5); have HW5 := hide (HW4.out.trans (hb5.mono HW4.out.size)); clear hb5) | (at_builtin; refine wpList_put tStr rfl (.tmp 25) (.tmp 28) 38 rfl 9 i0 _ 16 Tryz.underlying38 hi hz0 hz1 hz2 rfl (by decide) (fun b => W.heap.size ≤ b) (fun _ => False) xs O [.string O] _ rfl HO5.out _ rfl rfl (fun _ h => h.elim) (fun b hb => Nat.le_trans HW5.out.size hb) (by have := HXl.out; simp only [maxLen]; omega) (by have := HXl.out; omega) ?_; intro v6 w6 hO_ hK_; have HO6 := hide hO_; have HW6 := hide (below_only HW5.out hK_ HW5.out.size (fun i hi => hi)); clear hO_ hK_))
          go_roundw
          case rel => exact ⟨k + 1, xs ++ [O], _, rfl, by omega, by go_num, HSn.out, HO6.out, HW6.out⟩
          case measure => simp [intOf]; omega
        · obtain rfl : k = t.Ops.length := by omega
          have HLa := hide (HL.out.trans (prefW_all t))
          obtain ⟨A9, c9, rfl, hle9, hcm9, hR9⟩ := HO.out.sl
          have HJ := join_any xs ⟨#[32]⟩ A9 c9 wr hle9 (hR9.mono (fun b h => h.2) (fun _ _ => rfl)) (by have := HXl.out; omega) (by
            rw [HLa.out]
            show (txnL t).length ≤ _
            have := prefL_len HOk.out t.Ops.length (Nat.le_refl _)
            rw [prefL_all] at this
            omega)
          rw [HLa.out] at HJ
          have HJ := hide HJ
          clear hR9
          go_wp2_with (go_at_call 22; refine HJ.out.mono ?_; rintro e w9 ⟨rfl, hb9⟩; have HB9 := hide (HBw.out.trans (hb9.mono HBw.out.size)); clear hb9)
          go_ret
          exact ⟨ret_str (by rw [HR.out]; rfl), HB9.out⟩
    | false =>
      have HO3 := hide (own_two (K := fun b => W.heap.size ≤ b) HV2.out HW1.out.size)
      have HW3 := HW2
      have HL3 := hide (show ([⟨#[115]⟩ ++ N, ⟨#[111, 102, 102]⟩] : List ByteArray).map (·.data.toList) = prefW t 0 by rw [HP0.out]; simp [data_app, HNl.out])
      go_upto_region 6 with fail
      clear x0 x1 x2
      obtain ⟨w3, hw3⟩ : ∃ w3, w3 = w2 := ⟨_, rfl⟩
      rw [← hw3] at HO3 HW3 ⊢
      clear hw3
      obtain ⟨x0, x1, x2⟩ := HXv.out w3 HW3.out
      go_upto_region 7 with fail
      clear x0 x1 x2
      go_loopw [3, 5, 21] (fun ws _ i wr => ∃ (k : Nat) (xs : List ByteArray) (v : Value), ws = v ∧ k ≤ t.Ops.length ∧ i = .int .i64 k ∧ Hid (xs.map (·.data.toList) = prefW t k) ∧ Hid (Own tStr 9 wr (fun b => W.heap.size ≤ b ∧ Old wr b) xs v) ∧ Hid (Below W.heap.size W wr)) (fun _ _ i _ => t.Ops.length - (intOf i).toNat)
      case atStart => exact ⟨0, _, _, rfl, Nat.zero_le _, rfl, HL3.out, HO3.out, HW3.out⟩
      case round =>
        obtain ⟨k, xs, v, rfl, hk, rfl, hL, hO, hb⟩ := hrel
        have HL := hide hL.out; have HO := hide hO.out; have HWr := hide hb.out
        clear hL hO hb HO3 HL3 HW3
        have HBw := hide (HB0.out.trans (HWr.out.mono HB0.out.size))
        have HXl := hide (show xs.length = k + 2 by have h := congrArg List.length HL.out; rw [List.length_map, prefW_len t k hk] at h; exact h)
        by_cases hlt : k < t.Ops.length
        · have hki : (k : Int) < (t.Ops.length : Int) := by omega
          have HSu := hide (prefW_succ t k hlt)
          have hok := HOo.out _ (List.getElem_mem hlt)
          obtain ⟨b, off, rfl, hbS, d0, d1, d2⟩ := at_Op HA.out HBw.out hlt
          have HOt := opText_any t.Ops[k]
          obtain ⟨O, hOe⟩ : ∃ O : ByteArray, O = opText t.Ops[k] := ⟨_, rfl⟩
          have HOl := hide (show O.data.toList = opL t.Ops[k] by rw [hOe, opText_eq]; unfold opB; rw [if_pos hok])
          rw [← hOe] at HOt
          have HOt := hide HOt
          clear hOe hok
          generalize t.Ops[k] = o at d0 d1 d2 HOt HOl HSu
          go_upto_region 9 with fail
          have HO4 := hide (HO.out.onlyBelow ((Below.refl wr.heap.size wr).alloc (Nat.le_refl _) (.cells #[.int .i64 o.Kind, .int .i64 o.Key, .int .i64 o.Value] 46)))
          have HW4 := hide (HWr.out.alloc HWr.out.size (.cells #[.int .i64 o.Kind, .int .i64 o.Key, .int .i64 o.Value] 46))
          have HV4 := hide (Blk.new wr 46 #[.int .i64 o.Kind, .int .i64 o.Key, .int .i64 o.Value])
          clear d0 d1 d2 HO
          generalize wr.alloc _ = w4 at HO4 HW4 HV4 ⊢
          have z0 := HV4.out.cell 0; have z1 := HV4.out.cell 1; have z2 := HV4.out.cell 2
          simp only [List.getElem?_toArray, List.getElem?_cons_zero, List.getElem?_cons_succ] at z0 z1 z2
          have HSn := hide (show (xs ++ [O]).map (·.data.toList) = prefW t (k + 1) by rw [HSu.out, List.map_append, HL.out, List.map_cons, HOl.out]; rfl)
          go_wp2_with (first | (go_at_call 26; refine (HOt.out _).mono ?_; rintro e w5 ⟨rfl, hb5⟩; have HO5 := hide (HO4.out.onlyBelow hb5); have HW5 := hide (HW4.out.trans (hb5.mono HW4.out.size)); clear hb5) | (at_builtin; refine wpList_put tStr rfl (.tmp 25) (.tmp 28) 38 rfl 9 i0 _ 16 Tryz.underlying38 hi hz0 hz1 hz2 rfl (by decide) (fun b => W.heap.size ≤ b) (fun _ => False) xs O [.string O] _ rfl HO5.out _ rfl rfl (fun _ h => h.elim) (fun b hb => Nat.le_trans HW5.out.size hb) (by have := HXl.out; simp only [maxLen]; omega) (by have := HXl.out; omega) ?_; intro v6 w6 hO_ hK_; have HO6 := hide hO_; have HW6 := hide (below_only HW5.out hK_ HW5.out.size (fun i hi => hi)); clear hO_ hK_))
          go_roundw
          case rel => exact ⟨k + 1, xs ++ [O], _, rfl, by omega, by go_num, HSn.out, HO6.out, HW6.out⟩
          case measure => simp [intOf]; omega
        · obtain rfl : k = t.Ops.length := by omega
          have HLa := hide (HL.out.trans (prefW_all t))
          obtain ⟨A9, c9, rfl, hle9, hcm9, hR9⟩ := HO.out.sl
          have HJ := join_any xs ⟨#[32]⟩ A9 c9 wr hle9 (hR9.mono (fun b h => h.2) (fun _ _ => rfl)) (by have := HXl.out; omega) (by
            rw [HLa.out]
            show (txnL t).length ≤ _
            have := prefL_len HOk.out t.Ops.length (Nat.le_refl _)
            rw [prefL_all] at this
            omega)
          rw [HLa.out] at HJ
          have HJ := hide HJ
          clear hR9
          go_wp2_with (go_at_call 22; refine HJ.out.mono ?_; rintro e w9 ⟨rfl, hb9⟩; have HB9 := hide (HBw.out.trans (hb9.mono HBw.out.size)); clear hb9)
          go_ret
          exact ⟨ret_str (by rw [HR.out]; rfl), HB9.out⟩
end Go.Proofs.YtjnghnkilnhacaaGreatDoor
namespace Go.Proofs.YtjnghnkilnhacaaGreatDoor
open Go.RowKit
set_option linter.unusedVariables false
set_option linter.unusedSimpArgs false

theorem atoi_dec' : ∀ n : Fin 100, Lib.atoiAll (decL n.val) = .ok (n.val : Int) := by decide +kernel
theorem atoi_dec {n : Nat} (h : n < 100) : Lib.atoiAll (decL n) = .ok (n : Int) := atoi_dec' ⟨n, h⟩
/-- The program's reading: the text of what was read must be the text. -/
theorem readOpL_via {l : Bs} {n : Int} {ev : Value} (h4 : 4 ≤ l.length) (ha : AtoiV (l.drop 3) n ev) :
    readOpL l = if (opB ⟨if l[0] = 119 then 2 else 1, (l[1].toNat : Int) - 48, n⟩).data.toList = l then some ⟨if l[0] = 119 then 2 else 1, (l[1].toNat : Int) - 48, n⟩ else none := by
  by_cases hb : (opB ⟨if l[0] = 119 then 2 else 1, (l[1].toNat : Int) - 48, n⟩).data.toList = l
  · rw [if_pos hb]
    unfold opB at hb
    by_cases hok : opOk ⟨if l[0] = 119 then 2 else 1, (l[1].toNat : Int) - 48, n⟩ = true
    · rw [if_pos hok] at hb
      have := readOpL_of hok
      have hb : opL ⟨if l[0] = 119 then 2 else 1, (l[1].toNat : Int) - 48, n⟩ = l := hb
      rw [hb] at this
      exact this
    · rw [if_neg hok] at hb
      exfalso
      have hb : ([] : Bs) = l := hb
      rw [← hb] at h4
      simp at h4
  · rw [if_neg hb]
    cases hr : readOpL l with
    | none => rfl
    | some o =>
      exfalso
      obtain ⟨hok, hl⟩ := readOpL_some hr
      obtain ⟨h1, h2, h3⟩ := opOk_parts' hok
      have hf := opL_form hok
      rw [hl] at hf
      obtain ⟨k, a, e, v, rfl⟩ : ∃ k a e v, l = k :: a :: e :: v := by
        match l, h4 with
        | k :: a :: e :: v, _ => exact ⟨k, a, e, v, rfl⟩
      injection hf with e1 hf
      injection hf with e2 hf
      injection hf with e3 e4
      have hv : (k :: a :: e :: v).drop 3 = v := rfl
      rw [hv, e4] at ha
      unfold AtoiV at ha
      rw [atoi_dec (by omega)] at ha
      obtain ⟨hn, _⟩ := ha
      apply hb
      have ha2 : ((k :: a :: e :: v)[1].toNat : Int) - 48 = o.Key := by
        show ((a.toNat : Int)) - 48 = o.Key
        rw [e2]
        have : (UInt8.ofNat (48 + o.Key.toNat)).toNat = 48 + o.Key.toNat := by simp; omega
        rw [this]; omega
      have hk2 : (if (k :: a :: e :: v)[0] = 119 then (2 : Int) else 1) = o.Kind := by
        show (if k = 119 then (2 : Int) else 1) = o.Kind
        rw [e1]
        rcases h1 with h1 | h1 <;> rw [h1] <;> rfl
      have hn2 : n = o.Value := by rw [hn]; omega
      rw [hk2, ha2, hn2]
      unfold opB
      rw [if_pos hok]
      exact hl
theorem readOV_some {l : Bs} {o : Op} (h : readOpL l = some o) : readOV l = .tuple #[.agg #[.int .i64 o.Kind, .int .i64 o.Key, .int .i64 o.Value], .bool true] := by unfold readOV; rw [h]; rfl
theorem readOV_none {l : Bs} (h : readOpL l = none) : readOV l = .tuple #[.agg #[.int .i64 0, .int .i64 0, .int .i64 0], .bool false] := by unfold readOV; rw [h]; rfl
set_option maxRecDepth 10000 in
set_option maxHeartbeats 4000000 in
theorem implReadOp (s : ByteArray) (w : World) (hs : s.size ≤ 281474976710656) (hE : ErrOk w) : Calls Tryz.prog 56 #[.string s] w fun e w' => e = .returned (readOV s.data.toList) ∧ Below w.heap.size w w' := by
  have HSz := hide (show s.size = s.data.toList.length by rw [Array.length_toList]; rfl)
  have HE := hide hE
  have HB0 := hide ((Below.refl _ w).alloc (Nat.le_refl _) (.cells #[.int .i64 0, .int .i64 0, .int .i64 0] 46))
  have HX0 := hide (Blk.new w 46 #[.int .i64 0, .int .i64 0, .int .i64 0])
  have hz0 : w.heap.size < (w.alloc (.cells #[.int .i64 0, .int .i64 0, .int .i64 0] 46)).heap.size := by simp
  clear hE
  by_cases h4 : 4 ≤ s.size
  · have h4s : ¬ (s.size : Int) < 4 := by omega
    have h3s : (3 : Int) ≤ (s.size : Int) := by omega
    have h0i : (0 : Int) < (s.size : Int) := by omega
    have h1i : (1 : Int) < (s.size : Int) := by omega
    have hll : 4 ≤ s.data.toList.length := by rw [← HSz.out]; exact h4
    have hx0 : s.data.toList[0] = s[0]'(by omega) := by rw [Array.getElem_toList]; rfl
    have hx1 : s.data.toList[1] = s[1]'(by omega) := by rw [Array.getElem_toList]; rfl
    obtain ⟨x, hx⟩ : ∃ x : Int, x = ((s[1]'(by omega)).toNat : Int) - 48 := ⟨_, rfl⟩
    have hlt9 : (s[1]'(by omega)).toNat < 256 := UInt8.toNat_lt _
    have hwr0 : wrap64 ((s[1]'(by omega)).toNat : Int) = ((s[1]'(by omega)).toNat : Int) := by unfold wrap64; omega
    have hwr : wrap64 x = x := by rw [hx]; unfold wrap64; omega
    have hx9 : ((s[1]'(by omega)).toNat : Int) - 48 = x := hx.symm
    by_cases g0 : s[0]'(by omega) = 119
    · have hk0b : (((s[0]'(by omega)).toNat : Int) == 119) = true := by rw [g0]; rfl
      have HGd := hide (fun (n : Int) (ev : Value) (ha : AtoiV (s.data.toList.drop 3) n ev) => show readOpL s.data.toList = if (opB ⟨2, x, n⟩).data.toList = s.data.toList then some ⟨2, x, n⟩ else none by
        have h9 := readOpL_via hll ha
        rw [hx0, hx1, hx9, if_pos g0] at h9
        exact h9)
      have HAt := hide (fun W (hE : ErrOk W) => show Calls Tryz.prog 79 #[.string (s.extract 3 s.size)] W fun e w' => ∃ n ev, e = .returned (.tuple #[.int .i64 n, ev]) ∧ AtoiV (s.data.toList.drop 3) n ev ∧ Below W.heap.size W w' from by
        have h := atoi_any (s.extract 3 s.size) W hE (by rw [ByteArray.size_extract]; omega)
        rw [Lib.extract_data, List.take_of_length_le (by rw [List.length_drop, ← HSz.out]; omega)] at h
        exact h)
      have HSl := hide (ByteArray.toList_eq s)
      clear g0 hx hll hx0 hx1 hlt9
      go_enter Tryz.func56, Tryz.ntmps56
      go_upto_region 1 with fail
      generalize w.alloc _ = w1 at HB0 HX0 hz0 ⊢
      go_upto_region 6 with fail
      have HV2 := hide (Blk.new w1 46 #[.int .i64 2, .int .i64 x, .int .i64 0])
      have HX2 := hide (HX0.out.alloc (.cells #[.int .i64 2, .int .i64 x, .int .i64 0] 46))
      have HB2 := hide (HB0.out.alloc HB0.out.size (.cells #[.int .i64 2, .int .i64 x, .int .i64 0] 46))
      clear HB0 HX0 hwr hwr0 hx9
      generalize w1.alloc _ = w2 at HV2 HX2 HB2 ⊢
      have hp : w.heap.size < w1.heap.size := hz0
      generalize hpe : w1.heap.size = p at HV2 hp ⊢
      clear hpe hz0
      have c2 := HV2.out.cell 2; have d2 := HV2.out.frozen 2
      simp only [List.getElem?_toArray, List.getElem?_cons_zero, List.getElem?_cons_succ] at c2
      go_upto_region 7 with (go_at_call 79; refine (HAt.out _ (HE.out.below HB2.out)).mono ?_; rintro e w3 ⟨n, ev, rfl, hav, hb3⟩; have HR := hide (HGd.out n ev hav); have HV3 := hide (HV2.out.below hb3 HV2.out.lt); have HX3 := hide (HX2.out.below hb3 HX2.out.lt); have HB3 := hide (HB2.out.trans (hb3.mono HB2.out.size)); have e2 := HV3.out.cell 2; have f2 := HV3.out.frozen 2; simp only [List.getElem?_toArray, List.getElem?_cons_zero, List.getElem?_cons_succ] at e2; clear hb3 hav c2 d2)
      have HV4 := hide (show Blk (w3.setCell ⟨p, 2, none⟩ (.int .i64 n)) p 46 #[.int .i64 2, .int .i64 x, .int .i64 n] from HV3.out.set_ 2 _)
      have HX4 := hide (HX3.out.far (p := ⟨p, 2, none⟩) (by simp only; omega) (.int .i64 n))
      have HB4 := hide (HB3.out.setCell (p := ⟨p, 2, none⟩) (by simp only; omega) (.int .i64 n))
      clear e2 f2 HV3 HX3 HB3
      generalize w3.setCell _ _ = w4 at HV4 HX4 HB4 ⊢
      have HOt := opText_any ⟨2, x, n⟩
      obtain ⟨T, hT⟩ : ∃ T : ByteArray, T = opText ⟨2, x, n⟩ := ⟨_, rfl⟩
      rw [← opText_eq, ← hT] at HR
      rw [← hT] at HOt
      have HTl := hide (ByteArray.toList_eq T)
      have HOt := hide HOt
      clear hT
      have y0 := HV4.out.cell 0; have y1 := HV4.out.cell 1; have y2 := HV4.out.cell 2
      simp only [List.getElem?_toArray, List.getElem?_cons_zero, List.getElem?_cons_succ] at y0 y1 y2
      by_cases hd : T.data.toList = s.data.toList
      · have hb1 : (T.toList == s.toList) = true := by rw [beq_iff_eq, HTl.out, HSl.out, hd]
        have hb2 : T.toList = s.toList := by rw [HTl.out, HSl.out, hd]
        have hb3 : (T.toList != s.toList) = false := by rw [bne_eq_false_iff_eq, hb2]
        have HRr := hide (show readOV s.data.toList = .tuple #[.agg #[.int .i64 2, .int .i64 x, .int .i64 n], .bool true] from readOV_some (o := ⟨2, x, n⟩) (by rw [HR.out, if_pos hd]))
        clear hd
        go_wp2_with (go_at_call 26; refine (HOt.out _).mono ?_; rintro e w5 ⟨rfl, hb5⟩; have HB5 := hide (HB4.out.trans (hb5.mono HB4.out.size)); have HV5 := HV4.out.below hb5 HV4.out.lt; have HX5 := HX4.out.below hb5 HX4.out.lt; have z0 := HV5.cell 0; have z1 := HV5.cell 1; have z2 := HV5.cell 2; have u0 := HX5.cell 0; have u1 := HX5.cell 1; have u2 := HX5.cell 2; have v0 := HX5.frozen 0; have v1 := HX5.frozen 1; have v2 := HX5.frozen 2; simp only [List.getElem?_toArray, List.getElem?_cons_zero, List.getElem?_cons_succ] at z0 z1 z2 u0 u1 u2; clear hb5 HV5 HX5 y0 y1 y2)
        refine bodyPost_ret (v := .tuple #[.agg #[.int .i64 2, .int .i64 x, .int .i64 n], .bool true]) (by simp [results, Tryz.results56, go_sem, u0, u1, u2]) rfl ⟨by rw [HRr.out], ?_⟩
        repeat (first | refine Below.setCell ?_ (by simp; try omega) _ | exact HB5.out)
      · have hb1 : (T.toList == s.toList) = false := by rw [beq_eq_false_iff_ne, HTl.out, HSl.out]; exact hd
        have hb2 : ¬ T.toList = s.toList := by rw [HTl.out, HSl.out]; exact hd
        have hb3 : (T.toList != s.toList) = true := by rw [bne_iff_ne]; exact hb2
        have HRr := hide (show readOV s.data.toList = .tuple #[.agg #[.int .i64 0, .int .i64 0, .int .i64 0], .bool false] from readOV_none (by rw [HR.out, if_neg hd]))
        clear hd
        go_wp2_with (go_at_call 26; refine (HOt.out _).mono ?_; rintro e w5 ⟨rfl, hb5⟩; have HB5 := hide (HB4.out.trans (hb5.mono HB4.out.size)); have HV5 := HV4.out.below hb5 HV4.out.lt; have HX5 := HX4.out.below hb5 HX4.out.lt; have z0 := HV5.cell 0; have z1 := HV5.cell 1; have z2 := HV5.cell 2; have u0 := HX5.cell 0; have u1 := HX5.cell 1; have u2 := HX5.cell 2; have v0 := HX5.frozen 0; have v1 := HX5.frozen 1; have v2 := HX5.frozen 2; simp only [List.getElem?_toArray, List.getElem?_cons_zero, List.getElem?_cons_succ] at z0 z1 z2 u0 u1 u2; clear hb5 HV5 HX5 y0 y1 y2)
        refine bodyPost_ret (v := .tuple #[.agg #[.int .i64 0, .int .i64 0, .int .i64 0], .bool false]) (by simp [results, Tryz.results56, go_sem, u0, u1, u2]) rfl ⟨by rw [HRr.out], ?_⟩
        repeat (first | refine Below.setCell ?_ (by simp; try omega) _ | exact HB5.out)
    · have hk0b : (((s[0]'(by omega)).toNat : Int) == 119) = false := by
        rw [beq_eq_false_iff_ne]; intro e; exact g0 (by have h9 : (s[0]'(by omega)).toNat = 119 := by omega
                                                        exact UInt8.toNat_inj.1 h9)
      have HGd := hide (fun (n : Int) (ev : Value) (ha : AtoiV (s.data.toList.drop 3) n ev) => show readOpL s.data.toList = if (opB ⟨1, x, n⟩).data.toList = s.data.toList then some ⟨1, x, n⟩ else none by
        have h9 := readOpL_via hll ha
        rw [hx0, hx1, hx9, if_neg g0] at h9
        exact h9)
      have HAt := hide (fun W (hE : ErrOk W) => show Calls Tryz.prog 79 #[.string (s.extract 3 s.size)] W fun e w' => ∃ n ev, e = .returned (.tuple #[.int .i64 n, ev]) ∧ AtoiV (s.data.toList.drop 3) n ev ∧ Below W.heap.size W w' from by
        have h := atoi_any (s.extract 3 s.size) W hE (by rw [ByteArray.size_extract]; omega)
        rw [Lib.extract_data, List.take_of_length_le (by rw [List.length_drop, ← HSz.out]; omega)] at h
        exact h)
      have HSl := hide (ByteArray.toList_eq s)
      clear g0 hx hll hx0 hx1 hlt9
      go_enter Tryz.func56, Tryz.ntmps56
      go_upto_region 1 with fail
      generalize w.alloc _ = w1 at HB0 HX0 hz0 ⊢
      go_upto_region 6 with fail
      have HV2 := hide (Blk.new w1 46 #[.int .i64 1, .int .i64 x, .int .i64 0])
      have HX2 := hide (HX0.out.alloc (.cells #[.int .i64 1, .int .i64 x, .int .i64 0] 46))
      have HB2 := hide (HB0.out.alloc HB0.out.size (.cells #[.int .i64 1, .int .i64 x, .int .i64 0] 46))
      clear HB0 HX0 hwr hwr0 hx9
      generalize w1.alloc _ = w2 at HV2 HX2 HB2 ⊢
      have hp : w.heap.size < w1.heap.size := hz0
      generalize hpe : w1.heap.size = p at HV2 hp ⊢
      clear hpe hz0
      have c2 := HV2.out.cell 2; have d2 := HV2.out.frozen 2
      simp only [List.getElem?_toArray, List.getElem?_cons_zero, List.getElem?_cons_succ] at c2
      go_upto_region 7 with (go_at_call 79; refine (HAt.out _ (HE.out.below HB2.out)).mono ?_; rintro e w3 ⟨n, ev, rfl, hav, hb3⟩; have HR := hide (HGd.out n ev hav); have HV3 := hide (HV2.out.below hb3 HV2.out.lt); have HX3 := hide (HX2.out.below hb3 HX2.out.lt); have HB3 := hide (HB2.out.trans (hb3.mono HB2.out.size)); have e2 := HV3.out.cell 2; have f2 := HV3.out.frozen 2; simp only [List.getElem?_toArray, List.getElem?_cons_zero, List.getElem?_cons_succ] at e2; clear hb3 hav c2 d2)
      have HV4 := hide (show Blk (w3.setCell ⟨p, 2, none⟩ (.int .i64 n)) p 46 #[.int .i64 1, .int .i64 x, .int .i64 n] from HV3.out.set_ 2 _)
      have HX4 := hide (HX3.out.far (p := ⟨p, 2, none⟩) (by simp only; omega) (.int .i64 n))
      have HB4 := hide (HB3.out.setCell (p := ⟨p, 2, none⟩) (by simp only; omega) (.int .i64 n))
      clear e2 f2 HV3 HX3 HB3
      generalize w3.setCell _ _ = w4 at HV4 HX4 HB4 ⊢
      have HOt := opText_any ⟨1, x, n⟩
      obtain ⟨T, hT⟩ : ∃ T : ByteArray, T = opText ⟨1, x, n⟩ := ⟨_, rfl⟩
      rw [← opText_eq, ← hT] at HR
      rw [← hT] at HOt
      have HTl := hide (ByteArray.toList_eq T)
      have HOt := hide HOt
      clear hT
      have y0 := HV4.out.cell 0; have y1 := HV4.out.cell 1; have y2 := HV4.out.cell 2
      simp only [List.getElem?_toArray, List.getElem?_cons_zero, List.getElem?_cons_succ] at y0 y1 y2
      by_cases hd : T.data.toList = s.data.toList
      · have hb1 : (T.toList == s.toList) = true := by rw [beq_iff_eq, HTl.out, HSl.out, hd]
        have hb2 : T.toList = s.toList := by rw [HTl.out, HSl.out, hd]
        have hb3 : (T.toList != s.toList) = false := by rw [bne_eq_false_iff_eq, hb2]
        have HRr := hide (show readOV s.data.toList = .tuple #[.agg #[.int .i64 1, .int .i64 x, .int .i64 n], .bool true] from readOV_some (o := ⟨1, x, n⟩) (by rw [HR.out, if_pos hd]))
        clear hd
        go_wp2_with (go_at_call 26; refine (HOt.out _).mono ?_; rintro e w5 ⟨rfl, hb5⟩; have HB5 := hide (HB4.out.trans (hb5.mono HB4.out.size)); have HV5 := HV4.out.below hb5 HV4.out.lt; have HX5 := HX4.out.below hb5 HX4.out.lt; have z0 := HV5.cell 0; have z1 := HV5.cell 1; have z2 := HV5.cell 2; have u0 := HX5.cell 0; have u1 := HX5.cell 1; have u2 := HX5.cell 2; have v0 := HX5.frozen 0; have v1 := HX5.frozen 1; have v2 := HX5.frozen 2; simp only [List.getElem?_toArray, List.getElem?_cons_zero, List.getElem?_cons_succ] at z0 z1 z2 u0 u1 u2; clear hb5 HV5 HX5 y0 y1 y2)
        refine bodyPost_ret (v := .tuple #[.agg #[.int .i64 1, .int .i64 x, .int .i64 n], .bool true]) (by simp [results, Tryz.results56, go_sem, u0, u1, u2]) rfl ⟨by rw [HRr.out], ?_⟩
        repeat (first | refine Below.setCell ?_ (by simp; try omega) _ | exact HB5.out)
      · have hb1 : (T.toList == s.toList) = false := by rw [beq_eq_false_iff_ne, HTl.out, HSl.out]; exact hd
        have hb2 : ¬ T.toList = s.toList := by rw [HTl.out, HSl.out]; exact hd
        have hb3 : (T.toList != s.toList) = true := by rw [bne_iff_ne]; exact hb2
        have HRr := hide (show readOV s.data.toList = .tuple #[.agg #[.int .i64 0, .int .i64 0, .int .i64 0], .bool false] from readOV_none (by rw [HR.out, if_neg hd]))
        clear hd
        go_wp2_with (go_at_call 26; refine (HOt.out _).mono ?_; rintro e w5 ⟨rfl, hb5⟩; have HB5 := hide (HB4.out.trans (hb5.mono HB4.out.size)); have HV5 := HV4.out.below hb5 HV4.out.lt; have HX5 := HX4.out.below hb5 HX4.out.lt; have z0 := HV5.cell 0; have z1 := HV5.cell 1; have z2 := HV5.cell 2; have u0 := HX5.cell 0; have u1 := HX5.cell 1; have u2 := HX5.cell 2; have v0 := HX5.frozen 0; have v1 := HX5.frozen 1; have v2 := HX5.frozen 2; simp only [List.getElem?_toArray, List.getElem?_cons_zero, List.getElem?_cons_succ] at z0 z1 z2 u0 u1 u2; clear hb5 HV5 HX5 y0 y1 y2)
        refine bodyPost_ret (v := .tuple #[.agg #[.int .i64 0, .int .i64 0, .int .i64 0], .bool false]) (by simp [results, Tryz.results56, go_sem, u0, u1, u2]) rfl ⟨by rw [HRr.out], ?_⟩
        repeat (first | refine Below.setCell ?_ (by simp; try omega) _ | exact HB5.out)
  · have h4s : (s.size : Int) < 4 := by omega
    have HRr := hide (show readOV s.data.toList = .tuple #[.agg #[.int .i64 0, .int .i64 0, .int .i64 0], .bool false] from readOV_none (readOpL_short (by rw [← HSz.out]; omega)))
    go_enter Tryz.func56, Tryz.ntmps56
    go_upto_region 1 with fail
    generalize w.alloc _ = w1 at HB0 HX0 hz0 ⊢
    have u0 := HX0.out.cell 0; have u1 := HX0.out.cell 1; have u2 := HX0.out.cell 2; have v0 := HX0.out.frozen 0; have v1 := HX0.out.frozen 1; have v2 := HX0.out.frozen 2
    simp only [List.getElem?_toArray, List.getElem?_cons_zero, List.getElem?_cons_succ] at u0 u1 u2
    go_wp2_with fail
    refine bodyPost_ret (v := .tuple #[.agg #[.int .i64 0, .int .i64 0, .int .i64 0], .bool false]) (by simp [results, Tryz.results56, go_sem, u0, u1, u2]) rfl ⟨by rw [HRr.out], ?_⟩
    repeat (first | refine Below.setCell ?_ (by simp; try omega) _ | exact HB0.out)
end Go.Proofs.YtjnghnkilnhacaaGreatDoor
