/- The law FnReadHistory: accepted texts are canonical. -/
import Derived.Test.YtjnghnkilnhacaaGreatDoorQPHistT
import Derived.Test.YtjnghnkilnhacaaGreatDoorQLawRdH
namespace Go.Proofs.YtjnghnkilnhacaaGreatDoor
open Go.RowKit
set_option linter.unusedVariables false
set_option linter.unusedSimpArgs false

set_option maxRecDepth 10000 in
set_option maxHeartbeats 2000000 in
theorem drawReadHistory (bs : List Int) (A : Option Addr) (c : Nat) (w : World) (hl : bs.length ≤ 1048576) (hc : bs.length ≤ c) (hcm : c ≤ maxLen) (hA : Row tByte w (Old w) A bs) :
    Calls Tryz.prog 17 #[.slice A bs.length c] w fun e w' => ∃ s : ByteArray, e = .returned (.string s) ∧ s.size ≤ 1000 ∧ Below w.heap.size w w' := by
  have HC := hide (open_any bs A c w hl hc hcm hA)
  clear hA
  go_enter Tryz.func17, Tryz.ntmps17
  go_upto_region 3 with (first | (go_at_call 19; refine HC.out.mono ?_; rintro e w1 ⟨R, rfl, hR0, hr1, hb1⟩; have HR1 := hide hr1; have HRw := hide hR0; have HB1 := hide hb1; clear hR0 hr1 hb1) | (go_at_call 18; refine (history_any w1 R 0 4 0 HR1.out (by omega) (by omega) (by omega) (by omega)).mono ?_; rintro e w2 ⟨xs, v, rfl, hx, ho, hS, hr2, hg2⟩; obtain ⟨A2, c2, rfl, h2, h3, h4⟩ := hS; have HXs := hide (HistS.le (show HistS xs from ⟨hx, ho⟩)); have HTx := hide (specHistoryText xs A2 c2 w2 HXs.out.1 (h4.mono (fun b hb => hb.2) (fun _ _ => rfl)) HXs.out.2.2.1 (fun t ht => by have := HXs.out.2.2.2 t ht; simp only [maxLen]; omega)); have HTz := hide (histB_size xs); have HR2 := hide hr2; have HB2 := hide (below_gr HB1.out hg2 HB1.out.size HRw.out); clear hx ho h4 hr2 hg2 h2 h3) | (go_at_call 8; refine HTx.out.mono ?_; rintro e w3 ⟨rfl, hb3⟩; have HR3 := hide (HR2.out.below hb3); have HB3 := hide (HB2.out.trans (hb3.mono HB2.out.size)); clear hb3))
  have hSz := HTz.out
  generalize histB xs = S at hSz ⊢
  clear HTx HTz HR2 HB2 HR1 HB1 HC HXs
  go_wp2_with fail
  refine (odd_any w3 R _ 3 HR3.out (by omega) (by omega)).mono ?_
  rintro e w4 ⟨v4, rfl, hr4, hg4⟩
  have HR4 := hide hr4
  have HB4 := hide (below_gr HB3.out hg4 HB3.out.size HRw.out)
  have HZ4 := hide (Nat.lt_of_lt_of_le HR3.out.lt hg4.size)
  clear hr4 hg4 HR3 HB3
  cases v4 with
  | false =>
    go_wp2_with fail
    go_ret
    exact ⟨S, rfl, by omega, HB4.out⟩
  | true =>
    have hs2 : (⟨#[59, 32]⟩ : ByteArray).size = 2 := rfl
    have hs3 : (⟨#[32, 59]⟩ : ByteArray).size = 2 := rfl
    have hadd : ∀ W, (Op.stringOp .add S ⟨#[59, 32]⟩).run Tryz.prog W = .ok (.string (S ++ ⟨#[59, 32]⟩)) W := fun W => run_string_add_sum _ _ _ (by omega)
    have hadd2 : ∀ W, (Op.stringOp .add S ⟨#[32, 59]⟩).run Tryz.prog W = .ok (.string (S ++ ⟨#[32, 59]⟩)) W := fun W => run_string_add_sum _ _ _ (by omega)
    have HV5 := hide (Blk.new w4 9 #[.string ⟨#[]⟩, .string ⟨#[59]⟩, .string ⟨#[59, 32]⟩, .string ⟨#[115, 48, 32, 111, 107, 59, 32]⟩, .string ⟨#[115, 48, 32, 111, 107, 59, 115, 49, 32, 111, 107]⟩, .string ⟨#[115, 48, 32, 111, 107, 32, 119, 48, 61, 49, 59, 32, 115, 49, 32, 111, 107, 32, 119, 48, 61, 49]⟩, .string ⟨#[115, 48, 32, 111, 107, 59, 32, 115, 48, 32, 111, 107, 59, 32, 115, 48, 32, 111, 107, 59, 32, 115, 48, 32, 111, 107, 59, 32, 115, 48, 32, 111, 107, 59, 32, 115, 48, 32, 111, 107, 59, 32, 115, 48, 32, 111, 107]⟩, .string (S ++ ⟨#[59, 32]⟩), .string (S ++ ⟨#[32, 59]⟩), .string ⟨#[115, 48, 32, 111, 107, 59, 32, 115, 49, 32, 111, 102, 102, 32, 114, 50, 61, 48]⟩])
    have HR5 := hide (HR4.out.alloc (.cells #[.string ⟨#[]⟩, .string ⟨#[59]⟩, .string ⟨#[59, 32]⟩, .string ⟨#[115, 48, 32, 111, 107, 59, 32]⟩, .string ⟨#[115, 48, 32, 111, 107, 59, 115, 49, 32, 111, 107]⟩, .string ⟨#[115, 48, 32, 111, 107, 32, 119, 48, 61, 49, 59, 32, 115, 49, 32, 111, 107, 32, 119, 48, 61, 49]⟩, .string ⟨#[115, 48, 32, 111, 107, 59, 32, 115, 48, 32, 111, 107, 59, 32, 115, 48, 32, 111, 107, 59, 32, 115, 48, 32, 111, 107, 59, 32, 115, 48, 32, 111, 107, 59, 32, 115, 48, 32, 111, 107, 59, 32, 115, 48, 32, 111, 107]⟩, .string (S ++ ⟨#[59, 32]⟩), .string (S ++ ⟨#[32, 59]⟩), .string ⟨#[115, 48, 32, 111, 107, 59, 32, 115, 49, 32, 111, 102, 102, 32, 114, 50, 61, 48]⟩] 9))
    have HB5 := hide (HB4.out.alloc HB4.out.size (.cells #[.string ⟨#[]⟩, .string ⟨#[59]⟩, .string ⟨#[59, 32]⟩, .string ⟨#[115, 48, 32, 111, 107, 59, 32]⟩, .string ⟨#[115, 48, 32, 111, 107, 59, 115, 49, 32, 111, 107]⟩, .string ⟨#[115, 48, 32, 111, 107, 32, 119, 48, 61, 49, 59, 32, 115, 49, 32, 111, 107, 32, 119, 48, 61, 49]⟩, .string ⟨#[115, 48, 32, 111, 107, 59, 32, 115, 48, 32, 111, 107, 59, 32, 115, 48, 32, 111, 107, 59, 32, 115, 48, 32, 111, 107, 59, 32, 115, 48, 32, 111, 107, 59, 32, 115, 48, 32, 111, 107, 59, 32, 115, 48, 32, 111, 107]⟩, .string (S ++ ⟨#[59, 32]⟩), .string (S ++ ⟨#[32, 59]⟩), .string ⟨#[115, 48, 32, 111, 107, 59, 32, 115, 49, 32, 111, 102, 102, 32, 114, 50, 61, 48]⟩] 9))
    have hz5 : w4.heap.size < (w4.alloc (.cells #[.string ⟨#[]⟩, .string ⟨#[59]⟩, .string ⟨#[59, 32]⟩, .string ⟨#[115, 48, 32, 111, 107, 59, 32]⟩, .string ⟨#[115, 48, 32, 111, 107, 59, 115, 49, 32, 111, 107]⟩, .string ⟨#[115, 48, 32, 111, 107, 32, 119, 48, 61, 49, 59, 32, 115, 49, 32, 111, 107, 32, 119, 48, 61, 49]⟩, .string ⟨#[115, 48, 32, 111, 107, 59, 32, 115, 48, 32, 111, 107, 59, 32, 115, 48, 32, 111, 107, 59, 32, 115, 48, 32, 111, 107, 59, 32, 115, 48, 32, 111, 107, 59, 32, 115, 48, 32, 111, 107, 59, 32, 115, 48, 32, 111, 107]⟩, .string (S ++ ⟨#[59, 32]⟩), .string (S ++ ⟨#[32, 59]⟩), .string ⟨#[115, 48, 32, 111, 107, 59, 32, 115, 49, 32, 111, 102, 102, 32, 114, 50, 61, 48]⟩] 9)).heap.size := by simp
    go_wp2_with fail
    refine (pick_any _ R _ 10 HR5.out (by omega)).mono ?_
    rintro e w6 ⟨k, rfl, hk0, hk1, hr6, hg6⟩
    obtain ⟨q, rfl⟩ : ∃ n : Nat, k = (n : Int) := ⟨k.toNat, by omega⟩
    have hq : q < 10 := by have := hk1 (by omega); omega
    have hV6 := HV5.out.of (hg6.block _ hz5 (fun e => by injection e with e; have := HZ4.out; omega))
    obtain ⟨z, hz, hzs⟩ : ∃ z : ByteArray, w6.cell? ⟨w4.heap.size, q, none⟩ = some (.string z) ∧ z.size ≤ 1000 := by
      rw [hV6.cell]
      have hl2 : (S ++ ⟨#[59, 32]⟩).size ≤ 1000 := by rw [ByteArray.size_append]; omega
      have hl3 : (S ++ ⟨#[32, 59]⟩).size ≤ 1000 := by rw [ByteArray.size_append]; omega
      match q, hq with
      | 0, _ | 1, _ | 2, _ | 3, _ | 4, _ | 5, _ | 6, _ | 9, _ => exact ⟨_, rfl, by decide⟩
      | 7, _ => exact ⟨_, rfl, hl2⟩
      | 8, _ => exact ⟨_, rfl, hl3⟩
    have HB6 := hide (below_gr HB5.out hg6 HB5.out.size HRw.out)
    clear hk0 hk1 hr6 hg6 HV5 HR5 HB5 HR4 HB4 hV6 hadd hadd2
    go_wp2_with fail
    go_ret
    exact ⟨z, rfl, hzs, HB6.out⟩
theorem readHL_text {s : ByteArray} {h : List Txn} (hh : readHL s.data.toList = some h) : histB h = s := by
  obtain ⟨h1, h2⟩ := readHL_some hh
  unfold histB
  rw [h2]
set_option maxRecDepth 10000 in
set_option maxHeartbeats 4000000 in
theorem lawFnReadHist (bs : List Int) (A : Option Addr) (c : Nat) (w : World) (hm : bs.length ≤ maxLen) (hc : bs.length ≤ c) (hcm : c ≤ maxLen) (hA : Row tByte w (Old w) A bs) (hE : ErrOk w) :
    Calls Tryz.prog 5 #[.slice A bs.length c] w fun e w' => e = .returned (.bool true) ∧ Below w.heap.size w w' := by
  have hq : bs.length ≤ 9223372036854775807 := by simpa [maxLen] using hm
  by_cases hl : bs.length ≤ 1048576
  · have HD := hide (drawReadHistory bs A c w hl hc hcm hA)
    have HE := hide hE
    clear hA hE
    go_enter Tryz.func5, Tryz.ntmps5
    go_upto_region 4 with (go_at_call 17; refine HD.out.mono ?_; rintro e w1 ⟨s, rfl, hs, hb⟩; have HSz := hide hs; have HB1 := hide hb; clear hs hb)
    have hsz := HSz.out
    have hq2 : s.size ≤ 9223372036854775807 := by omega
    have hs1 : (⟨#[59]⟩ : ByteArray).size = 1 := rfl
    have HRI := hide (fun (W : World) (h : ErrOk W) => implReadHistory s W (by omega) h)
    have HRS := hide (fun (W : World) => specReadHistory s W (by omega))
    obtain ⟨s2, hs2⟩ : ∃ s2 : ByteArray, s ++ ⟨#[59]⟩ = s2 := ⟨_, rfl⟩
    have hadd : ∀ W, (Op.stringOp .add s ⟨#[59]⟩).run Tryz.prog W = .ok (.string (s ++ ⟨#[59]⟩)) W := fun W => run_string_add_sum _ _ _ (by omega)
    have HR2 := hide (fun (W : World) (h : ErrOk W) => implReadHistory (s ++ ⟨#[59]⟩) W (by rw [ByteArray.size_append]; omega) h)
    have hmo : readHL (s ++ ⟨#[59]⟩).data.toList = none := by rw [data_app]; exact readHL_semi _
    have HR2 := HR2.out
    rw [hmo, hs2] at HR2
    rw [hs2] at hadd
    have HR2 := hide HR2
    clear hmo hs2 hs1
    have HTx := hide (fun (t : List Txn) (h : readHL s.data.toList = some t) => readHL_text (s := s) h)
    have HRz := hide (fun (h : readHL s.data.toList = none) => show rdH s.data.toList = [] from by unfold rdH; rw [h]; rfl)
    have HRy := hide (fun (t : List Txn) (h : readHL s.data.toList = some t) => show rdH s.data.toList = t from by unfold rdH; rw [h]; rfl)
    obtain ⟨hxl, hxo⟩ := rdH_len s.data.toList
    generalize hrt : rdH s.data.toList = xs at HRI HRS hxl hxo HRz HRy
    have hxm : xs.length ≤ maxLen := by simp only [maxLen]; omega
    have hql : xs.length ≤ 9223372036854775807 := by omega
    have HXn := hide (show ∀ t ∈ xs, t.Ops.length ≤ maxLen from fun t ht => by have := hxo t ht; simp only [maxLen]; omega)
    have HE1 := hide (HE.out.below HB1.out)
    obtain ⟨ok, hok⟩ : ∃ ok, (readHL s.data.toList).isSome = ok := ⟨_, rfl⟩
    have HRI := HRI.out; have HRS := HRS.out
    rw [hok] at HRI HRS
    have HRI := hide HRI; have HRS := hide HRS
    have HOk := hide hok
    clear hok hrt HD hxo
    go_upto_region 5 with (go_at_call 11; refine (HRI.out w1 HE1.out).mono ?_; rintro e w3 ⟨v, rfl, hH, hb⟩; obtain ⟨A1, c1, rfl, _, _, hR⟩ := hH.sl; have HR3 := hide (hR.mono (S' := Old w3) (fun b h => h.2) (fun _ _ => rfl)); have HB3 := hide (HB1.out.trans (hb.mono HB1.out.size)); clear hH hb hR)
    go_upto_region 6 with (go_at_call 13; refine (HRS.out w3).mono ?_; rintro e w5 ⟨v, rfl, hS, hb⟩; obtain ⟨A4, c4, rfl, _, _, hR⟩ := hS; have HR5 := hide (hR.mono (S' := Old w5) (fun b h => h.2) (fun _ _ => rfl)); have HR6 := hide (HR3.out.old hb); have HB5 := hide (HB3.out.trans (hb.mono HB3.out.size)); clear hb hR)
    have HSm := hide (sameHistory_any xs A1 A4 c1 c4 w5 hxm HXn.out HR6.out HR5.out)
    have hoo : (ok != ok) = false := by simp
    go_upto_region 8 with (go_at_call 12; refine HSm.out.mono ?_; rintro e w7 ⟨rfl, hb⟩; have HR7 := hide (HR6.out.old hb); have HB7 := hide (HB5.out.trans (hb.mono HB5.out.size)); clear hb)
    clear HR3 HB3 HR5 HB5 HR6 HSm HE1 HB1
    cases ok with
    | false =>
      have hn : readHL s.data.toList = none := by have := HOk.out; cases h : readHL s.data.toList with | none => rfl | some _ => rw [h] at this; cases this
      have hz := HRz.out hn
      subst hz
      clear hn
      go_wp2_with (go_at_call 10; refine (alive_any w7).mono ?_; rintro e w8 ⟨rfl, hb⟩; have HB8 := hide (HB7.out.trans (hb.mono HB7.out.size)); clear hb)
      go_ret
      exact ⟨rfl, HB8.out⟩
    | true =>
      have HTe := hide (show histB xs = s from by
        have := HOk.out
        cases h : readHL s.data.toList with
        | none => rw [h] at this; cases this
        | some t' => rw [HRy.out t' h]; exact HTx.out t' h)
      have HE7 := hide (HE.out.below HB7.out)
      go_upto_region 11 with (go_at_call 11; refine (HR2.out w7 HE7.out).mono ?_; rintro e w9 ⟨v, rfl, hH, hb⟩; obtain ⟨A8, c8, rfl, _, _, _⟩ := hH.sl; have HB8 := hide hb; clear hH hb)
      have HT9 := implHistoryText xs A1 c1 w9 hxm (HR7.out.old HB8.out)
      rw [HTe.out] at HT9
      have HT9 := hide HT9
      have hss : (s.toList == s.toList) = true := by simp
      have HB9 := hide (HB7.out.trans (HB8.out.mono HB7.out.size))
      go_wp2_with (go_at_call 7; refine HT9.out.mono ?_; rintro e w10 ⟨rfl, hb⟩; have HB10 := hide (HB9.out.trans (hb.mono HB9.out.size)); clear hb)
      go_ret
      exact ⟨rfl, HB10.out⟩
  · clear hA hE
    go_enter Tryz.func5, Tryz.ntmps5
    go_wp2_with fail
    go_ret
    exact ⟨rfl, Below.refl _ _⟩
end Go.Proofs.YtjnghnkilnhacaaGreatDoor
