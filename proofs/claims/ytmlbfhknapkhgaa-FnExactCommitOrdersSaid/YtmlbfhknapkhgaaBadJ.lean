/- The program's BadReads, of the kind BadOwn. -/
import Derived.Test.YtmlbfhknapkhgaaBadI
import Derived.Test.YtmlbfhknapkhgaaBadT
import Derived.Test.YtmlbfhknapkhgaaSnapM
namespace Go.Proofs.Ytmlbfhknapkhgaa
open Go.RowKit Go.Maps
set_option linter.unusedVariables false
set_option linter.unusedSimpArgs false

def badL (h : List Txn) (l : List Int) : List Span := l.flatMap fun n => ownE n (opsOf h n) (opsOf h n).length
theorem badL_take (h : List Txn) (l : List Int) (k : Nat) (hk : k < l.length) : badL h (l.take (k + 1)) = badL h (l.take k) ++ ownE l[k] (opsOf h l[k]) (opsOf h l[k]).length := by
  unfold badL
  rw [List.take_succ_eq_append_getElem hk, List.flatMap_append]
  simp
theorem opsOf_nat {h : List Txn} {n : Nat} (hn : n < h.length) : opsOf h (n : Int) = h[n].Ops := by
  unfold opsOf
  rw [Int.toNat_natCast, List.getElem?_eq_getElem hn]; rfl
theorem badL_len {h : List Txn} (hv : ∀ t ∈ h, t.Ops.length ≤ 6) : ∀ (l : List Int), (badL h l).length ≤ 6 * l.length
  | [] => Nat.le_refl _
  | n :: r => by
    have h1 := badL_len hv r
    unfold badL at h1 ⊢
    rw [List.flatMap_cons, List.length_append, List.length_cons]
    have h2 := ownE_len n (opsOf h n) (opsOf h n).length
    have h3 : (opsOf h n).length ≤ 6 := by
      unfold opsOf
      cases hh : h[n.toNat]? with
      | none => simp
      | some t => exact hv t (List.mem_of_getElem? hh)
    omega
theorem bad_same (h : List Txn) : ∀ k, k ≤ h.length → (ownEs h k).filter (fun x => dnI h x.From) = badL h (doneI h k)
  | 0, _ => rfl
  | k + 1, hk => by
    rw [ownEs_succ h k (by omega), List.filter_append, bad_same h k (by omega), doneI_succ h k (by omega)]
    have hd : dnI h (k : Int) = h[k].Done := by unfold dnI; rw [Int.toNat_natCast, List.getElem?_eq_getElem (by omega)]; rfl
    have hf : (ownE k h[k].Ops h[k].Ops.length).filter (fun x => dnI h x.From) = if h[k].Done then ownE k h[k].Ops h[k].Ops.length else [] := by
      split
      · rename_i h1
        exact List.filter_eq_self.2 fun x hx => by rw [ownE_who _ _ _ x hx, hd, h1]
      · rename_i h1
        exact List.filter_eq_nil_iff.2 fun x hx => by rw [ownE_who _ _ _ x hx, hd]; simpa using h1
    rw [hf]
    unfold badL
    rw [List.flatMap_append]
    congr 1
    split
    · simp [opsOf_nat (h := h) (n := k) (by omega)]
    · rfl
theorem badS_eq (h : List Txn) : badS h = badL h (doneL h) := bad_same h h.length (Nat.le_refl _)
set_option maxRecDepth 10000 in
set_option maxHeartbeats 2000000 in
theorem implBadOwn (xs : List Txn) (A : Option Addr) (c : Nat) (w : World) (hv : histV xs = true) (hm : xs.length ≤ maxLen) (hA : Row tTxn w (Old w) A xs) :
    Calls Try.prog 126 #[.slice A xs.length c, .int .i64 4] w fun e w' => ∃ v, e = .returned v ∧ Sl tSpan w' (New w w') (badS xs) v ∧ Below w.heap.size w w' := by
  obtain ⟨i0, hi, hz0, hz1, hz2⟩ := info_parts infoPlace_
  have hx6 : xs.length ≤ 6 := (histV_parts hv).1
  have hmk : ∀ (W : World), (Instr.makeSlice 82 (.int .i64 0) (.int .i64 0)).run Try.prog W = .ok (.slice (some ⟨W.heap.size, 0, none⟩) 0 0) (W.alloc (.cells (madeCells (Value.cells (.agg #[.int .i64 0, .int .i64 0])) (0 * 2)) 128)) := fun W => by
    have h := run_make_rowN (P := Try.prog) 82 128 i0 _ Try.underlying82 hi hz0 .i64 .i64 0 0 (Nat.zero_le _) (by rw [hz2]; omega) (by omega) W
    rw [hz1] at h
    exact h
  have HC1 := hide (implHistoryValid xs A c w hm hA)
  have HDn := hide (fun (W : World) (hb : Below w.heap.size w W) => implDone xs A c W (by omega) (hA.old hb))
  have HV := hide (histV_parts hv).2
  have HLn := hide (fun l => badL_len (h := xs) (fun t ht => (txnOk_parts ((histV_parts hv).2 t ht)).2) l)
  have HQ := hide (badS_eq xs)
  have HA := hide hA
  have hq : xs.length ≤ 9223372036854775807 := by simpa [maxLen] using hm
  rw [hv] at HC1
  have HMem := hide (fun x (hx : x ∈ doneL xs) => doneI_mem xs _ x hx)
  have hdl : (doneL xs).length ≤ 6 := Nat.le_trans (doneI_len xs _) hx6
  clear hA hm hv
  generalize doneL xs = D at HDn HQ HMem hdl
  have hqD : D.length ≤ 9223372036854775807 := by omega
  go_enter Try.func126, Try.ntmps126
  go_upto_region 4 with (first | (go_at_call 53; refine HC1.out.mono ?_; rintro e w2 ⟨rfl, hb2⟩; have HB2 := hide hb2; clear hb2) | (go_at_call 54; refine (within _ _ _ _).mono ?_; rintro e w' ⟨rfl, rfl⟩))
  generalize hW : World.alloc _ _ = W
  have HB3 := hide (show Below w.heap.size w W by rw [← hW]; exact HB2.out.alloc HB2.out.size _)
  have hsW : W.heap.size = w2.heap.size + 1 := by rw [← hW]; simp
  have hw2 := HB2.out.size
  have HBk := hide (show Blk W w2.heap.size 128 #[] by rw [← hW]; have h0 : ∀ z : Array Value, madeCells z 0 = #[] := fun z => Array.eq_empty_of_size_eq_zero (by rw [size_madeCells]); rw [h0]; exact Blk.new w2 _ _)
  clear hW hmk
  go_wp2_with (go_at_call 66; refine (HDn.out _ HB3.out).mono ?_; rintro e w3 ⟨v3, rfl, hO3, hb3⟩; obtain ⟨A3, c3, rfl, h31, h32, _⟩ := hO3.sl; have HR3 := hide hO3.sl.row; have HB4 := hide (HB3.out.trans (hb3.mono HB3.out.size)); have HBk3 := hide (HBk.out.below hb3 HBk.out.lt); have hw3 := hb3.size; clear hO3 hb3)
  go_loopw [5, 7, 22] (fun v _ i wr => ∃ k : Nat, k ≤ D.length ∧ i = .int .i64 k ∧ Hid (Own tSpan 128 wr (fun b => (b = w2.heap.size ∨ w3.heap.size ≤ b) ∧ Old wr b) (badL xs (D.take k)) v) ∧ Hid (Below w.heap.size w wr) ∧ Hid (Only (fun b => b = w2.heap.size ∨ w3.heap.size ≤ b) w3 wr)) (fun _ _ i _ => D.length - (intOf i).toNat)
  case atStart => exact ⟨0, by omega, rfl, .inr ⟨w2.heap.size, 0, #[], fun _ => False, rfl, ⟨.inl rfl, HBk3.out.lt⟩, HBk3.out, by simp [badL], by simp [maxLen], rfl, fun _ h => h.elim, fun j hj => absurd hj (by simp [badL])⟩, HB4.out, Only.refl _ _⟩
  case round =>
    obtain ⟨k, hk, rfl, hO, hb, hK⟩ := hrel
    have HO := hide hO.out; have HB := hide hb.out; have HK := hide hK.out
    have hR := HR3.out.mono (w' := wr) (S' := Old wr) (fun b h => Nat.lt_of_lt_of_le h.2 hK.out.size) (fun b h => hK.out.block b h.2 (by have h1 := h.1; have h2 := h.2; omega))
    clear hO hb hK
    by_cases hlt : k < D.length
    · obtain ⟨b0, off0, hA3, hbS0, e0⟩ := at_Int hR (Below.refl _ _) hlt
      subst hA3
      obtain ⟨hn0, hn1⟩ := HMem.out _ (List.getElem_mem hlt)
      obtain ⟨n, hn⟩ : ∃ n : Nat, D[k] = (n : Int) := ⟨D[k].toNat, by omega⟩
      have hnl : n < xs.length := by omega
      have HS := hide (show badL xs (D.take (k + 1)) = badL xs (D.take k) ++ ownE n xs[n].Ops xs[n].Ops.length by rw [badL_take xs D k hlt, hn, opsOf_nat hnl])
      have hfl : (badL xs (D.take k)).length ≤ 6 * k := Nat.le_trans (HLn.out _) (by rw [List.length_take]; omega)
      rw [hn] at e0
      obtain ⟨b, off, A2, c2, hA2, hbS, d0, d1, d3, hj1, hj2, hj3⟩ := at_Txn HA.out HB.out hnl
      subst hA2
      have htx := HV.out _ (List.getElem_mem hnl)
      have ho6 := (txnOk_parts htx).2
      have hel := ownE_len (n : Int) xs[n].Ops xs[n].Ops.length
      have HE := hide (implOwnErrors xs[n] n A2 c2 wr ho6 (txnOk_parts htx).1 hj3)
      have hz3 := HK.out.size
      clear hR hn hn0 hn1 htx hj3
      generalize ownE (n : Int) xs[n].Ops xs[n].Ops.length = E at HE HS hel
      go_wp2_with (first | (go_at_call 153; refine HE.out.mono ?_; rintro e w5 ⟨v5, rfl, hO5, hb5⟩; obtain ⟨A5, c5, rfl, h51, h52, h53⟩ := hO5.sl; have HR5 := hide h53; have HO5 := hide (HO.out.onlyBelow hb5); have HL5 := hide (own_lt (B := wr.heap.size) HO.out (fun b h => h.2)); have HB5 := hide (HB.out.trans (hb5.mono HB.out.size)); have HK5 := hide (HK.out.trans (Only.of_below hb5)); have hz5 := hb5.size; clear hO5 hb5 h53) | (at_builtin; refine wpList_cat tSpan rfl (.tmp 28) (.tmp 34) 82 rfl 128 i0 _ 16 Try.underlying82 hi hz0 hz1 (by assumption) rfl (by decide) (fun b => b = w2.heap.size ∨ w3.heap.size ≤ b) (fun _ => False) (badL xs (D.take k)) E _ rfl HO5.out A5 _ c5 rfl rfl HR5.out.anySpan (fun _ h => h.elim) (fun b hb => .inr (by omega)) (by simp only [maxLen]; omega) (by omega) ?_; intro v6 w6 hO_ hK_; have HO6 := hide hO_; have HK6 := hide hK_; clear hO_ hK_))
      go_roundw
      case rel => exact ⟨k + 1, by omega, by go_num, by rw [HS.out]; exact HO6.out, below_only HB5.out HK6.out HB5.out.size (fun i h => by omega), HK5.out.trans HK6.out⟩
      case measure => simp [intOf]; omega
    · obtain rfl : k = D.length := by omega
      have HO1 := hide (show Own tSpan 128 wr (fun b => (b = w2.heap.size ∨ w3.heap.size ≤ b) ∧ Old wr b) (badS xs) u5 by have := HO.out; rw [List.take_length] at this; rw [HQ.out]; exact this)
      obtain ⟨A7, c7, rfl, h71, h72, _⟩ := HO1.out.sl
      clear HO hR
      go_wp2_with fail
      go_ret
      exact ⟨_, rfl, ⟨A7, _, rfl, Nat.le_refl _, Nat.le_trans h71 h72, HO1.out.sl.row.mono (fun b h => ⟨by have := h.1; omega, h.2⟩) (fun _ _ => rfl)⟩, HB.out⟩
/-- Committed transactions read what they did themselves. -/
def fineB (h : List Txn) : Bool := (badS h).length == 0
theorem implOwnFine (xs : List Txn) (A : Option Addr) (c : Nat) (w : World) (hv : histV xs = true) (hm : xs.length ≤ maxLen) (hA : Row tTxn w (Old w) A xs) :
    Calls Try.prog 74 #[.slice A xs.length c] w fun e w' => e = .returned (.bool (fineB xs)) ∧ Below w.heap.size w w' := by
  have HC := hide (implBadOwn xs A c w hv hm hA)
  have HF := hide (show fineB xs = ((badS xs).length == 0) from rfl)
  clear hA hv hm
  generalize badS xs = B at HC HF
  go_enter Try.func74, Try.ntmps74
  go_wp2_with (go_at_call 126; refine HC.out.mono ?_; rintro e w3 ⟨v3, rfl, hO3, hb3⟩; obtain ⟨A3, c3, rfl, h31, h32, _⟩ := hO3; have HB3 := hide hb3; clear hb3)
  go_ret
  have hqq : ((B.length : Int) == 0) = fineB xs := by rw [HF.out, Bool.eq_iff_iff, beq_iff_eq, beq_iff_eq]; omega
  exact ⟨ret_bool hqq, HB3.out⟩
end Go.Proofs.Ytmlbfhknapkhgaa
