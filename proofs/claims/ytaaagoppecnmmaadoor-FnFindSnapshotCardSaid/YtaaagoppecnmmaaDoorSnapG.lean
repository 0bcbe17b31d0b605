/- The program's FindSnapshot. -/
import Derived.Test.YtaaagoppecnmmaaDoorSnapF
import Derived.Laws.EntriesVeiled
namespace Go.Proofs.YtaaagoppecnmmaaDoor
open Go.RowKit
set_option linter.unusedVariables false
set_option linter.unusedSimpArgs false

/-- The first right schedule of a history with at most four committed transactions. -/
def snapFst (h : List Txn) : Option (List Int) := if histV h && fineB h && decide ((doneL h).length ≤ 4) then dfsN h (2 * (doneL h).length) [] SS0 else none
set_option maxRecDepth 10000 in
set_option maxHeartbeats 4000000 in
theorem implFindSnapshot (h : List Txn) (A : Option Addr) (c : Nat) (w : World) (hm : h.length ≤ maxLen) (hA : Row tTxn w (Old w) A h) :
    Calls Tryd.prog 32 #[.slice A h.length c] w fun e w' => ∃ v, e = .returned (.tuple #[v, .bool (snapFst h).isSome]) ∧ (∃ g, Hold tInt 3 w' (New w w') ((snapFst h).getD []) v g) ∧ Below w.heap.size w w' := by
  obtain ⟨i0, hi, hz0, hz1, hz2⟩ := info_parts infoInt_
  have hmf : ∀ (fn : Fn) (first cap : Array Value) (w : World), (Instr.makeFunc fn first cap).run Tryd.prog w = .ok (.func fn first cap) w := fun _ _ _ _ => rfl
  obtain ⟨wA, hwA⟩ : ∃ wA, wA = w.alloc (.cells #[.slice A h.length c] 23) := ⟨_, rfl⟩
  have HbA := hide (show Below w.heap.size w wA by rw [hwA]; exact (Below.refl _ w).alloc (Nat.le_refl _) _)
  have hsA : wA.heap.size = w.heap.size + 1 := by rw [hwA]; simp
  have HH := hide (show Blk wA w.heap.size 23 #[.slice A h.length c] by rw [hwA]; exact Blk.new w _ _)
  have HC := hide (implHistoryValid h A c wA hm (hA.mono (fun b hb => Nat.lt_of_lt_of_le hb HbA.out.size) (fun b hb => HbA.out.block b hb)))
  have HA := hide hA
  have c0 := HH.out.cell 0
  simp only [List.getElem?_toArray, List.getElem?_cons_zero, List.getElem?_cons_succ] at c0
  clear hA
  go_enter Tryd.func32, Tryd.ntmps32
  go_upto_region 1 with (fail)
  rw [← hwA]
  clear hwA
  cases hv : histV h with
  | false =>
    have HF := hide (show snapFst h = none by unfold snapFst; rw [hv]; rfl)
    rw [hv] at HC
    clear hv
    go_wp2_with (go_at_call 18; refine HC.out.mono ?_; rintro e w1 ⟨rfl, hb1⟩; have HB1 := hide (HbA.out.trans (hb1.mono HbA.out.size)); clear hb1)
    go_ret2
    exact ⟨_, by rw [HF.out]; rfl, ⟨0, by rw [HF.out]; exact Hold.nil 0⟩, HB1.out⟩
  | true =>
    have hx6 : h.length ≤ 6 := (histV_parts hv).1
    have HFi := hide (fun (W : World) (hb : Below w.heap.size w W) => implOwnFine h A c W hv hm (HA.out.old hb))
    have HDn := hide (fun (W : World) (hb : Below w.heap.size w W) => implDone h A c W (by omega) (HA.out.old hb))
    have Hv := hide hv
    have hdl : (doneL h).length ≤ 6 := Nat.le_trans (doneI_len h _) hx6
    rw [hv] at HC
    have CALLH : True := trivial
    cases hfi : fineB h with
    | false =>
      have HF := hide (show snapFst h = none by unfold snapFst; rw [hv, hfi]; rfl)
      rw [hfi] at HFi
      clear hfi hv
      go_wp2_with (first | (go_at_call 18; refine HC.out.mono ?_; rintro e w1 ⟨rfl, hb1⟩; have HB1 := hide (HbA.out.trans (hb1.mono HbA.out.size)); have d0 := (hb1.cell (p := ⟨w.heap.size, 0, none⟩) HH.out.lt).trans c0; clear hb1) | (go_at_call 79; refine (HFi.out _ HB1.out).mono ?_; rintro e w2 ⟨rfl, hb2⟩; have HB2 := hide (HB1.out.trans (hb2.mono HB1.out.size)); clear hb2))
      go_ret2
      exact ⟨_, by rw [HF.out]; rfl, ⟨0, by rw [HF.out]; exact Hold.nil 0⟩, HB2.out⟩
    | true =>
      rw [hfi] at HFi
      by_cases h4 : (doneL h).length ≤ 4
      · have HF := hide (show snapFst h = dfsN h (2 * (doneL h).length) [] SS0 by unfold snapFst; rw [hv, hfi, decide_eq_true h4]; rfl)
        have h4i : decide ((4 : Int) < ((doneL h).length : Int)) = false := decide_eq_false (by omega)
        have hmk : ∀ W : World, (Instr.makeSlice 30 (.int .i64 0) (.int .i64 (2 * ((doneL h).length : Int)))).run Tryd.prog W = .ok (.slice (some ⟨W.heap.size, 0, none⟩) 0 (2 * (doneL h).length)) (W.alloc (.cells (madeCells #[.int .i64 0] (2 * (doneL h).length * 1)) 3)) := fun W => by
          have h9 := run_make_rowN (P := Tryd.prog) 30 3 i0 (.int .i64 0) Tryd.underlying30 hi hz0 .i64 .i64 0 (2 * (doneL h).length) (Nat.zero_le _) (by rw [hz2]; omega) (by omega) W
          rw [hz1] at h9
          rw [show (2 * ((doneL h).length : Int)) = ((2 * (doneL h).length : Nat) : Int) by omega]
          exact h9
        clear hfi hv
        go_upto_region 9 with (first | (go_at_call 18; refine HC.out.mono ?_; rintro e w1 ⟨rfl, hb1⟩; have HB1 := hide (HbA.out.trans (hb1.mono HbA.out.size)); have HH1 := hide (HH.out.below hb1 HH.out.lt); have d0 := HH1.out.cell 0; simp only [List.getElem?_toArray, List.getElem?_cons_zero, List.getElem?_cons_succ] at d0; clear hb1) | (go_at_call 79; refine (HFi.out _ HB1.out).mono ?_; rintro e w2 ⟨rfl, hb2⟩; have HB2 := hide (HB1.out.trans (hb2.mono HB1.out.size)); have HH2 := hide (HH1.out.below hb2 HH1.out.lt); have d1 := HH2.out.cell 0; simp only [List.getElem?_toArray, List.getElem?_cons_zero, List.getElem?_cons_succ] at d1; clear hb2) | (go_at_call 73; refine (HDn.out _ HB2.out).mono ?_; rintro e w3 ⟨v3, rfl, hO3, hb3⟩; obtain ⟨A3, c3, rfl, h31, h32, _⟩ := hO3.sl; have HO3 := hide hO3; have HB3 := hide (HB2.out.trans (hb3.mono HB2.out.size)); have HH3 := hide (HH2.out.below hb3 HH2.out.lt); have hw23 := hb3.size; clear hb3 hO3))
        generalize hW0 : World.alloc _ _ = w0
        have hba : Blk w0 w3.heap.size 30 #[.slice A3 (doneL h).length c3] := by rw [← hW0]; exact (((Blk.new w3 _ _).alloc _).alloc _).alloc _
        have hbg : Blk w0 (w3.heap.size + 1) 3 (madeCells #[.int .i64 0] (2 * (doneL h).length)) := by
          rw [← hW0]
          have := ((Blk.new (w3.alloc (.cells #[.slice A3 (doneL h).length c3] 30)) 3 (madeCells #[.int .i64 0] (2 * (doneL h).length))).alloc (.cells #[.slice (some ⟨w3.heap.size + 1, 0, none⟩) 0 (2 * (doneL h).length)] 30))
          rw [World.size_alloc] at this
          exact this.alloc _
        have hbo : Blk w0 (w3.heap.size + 1 + 1) 30 #[.slice (some ⟨w3.heap.size + 1, 0, none⟩) 0 (2 * (doneL h).length)] := by
          rw [← hW0]
          have := Blk.new ((w3.alloc (.cells #[.slice A3 (doneL h).length c3] 30)).alloc (.cells (madeCells #[.int .i64 0] (2 * (doneL h).length)) 3)) 30 #[.slice (some ⟨w3.heap.size + 1, 0, none⟩) 0 (2 * (doneL h).length)]
          rw [World.size_alloc, World.size_alloc] at this
          exact this.alloc _
        have hbf : Blk w0 (w3.heap.size + 1 + 1 + 1) 99 #[.func (.func 84) #[] #[.pointer (some ⟨w3.heap.size + 1 + 1, 0, none⟩), .pointer (some ⟨w3.heap.size, 0, none⟩), .pointer (some ⟨w.heap.size, 0, none⟩), .pointer (some ⟨w3.heap.size + 1 + 1 + 1, 0, none⟩)]] := by
          rw [← hW0]
          have := Blk.new (((w3.alloc (.cells #[.slice A3 (doneL h).length c3] 30)).alloc (.cells (madeCells #[.int .i64 0] (2 * (doneL h).length)) 3)).alloc (.cells #[.slice (some ⟨w3.heap.size + 1, 0, none⟩) 0 (2 * (doneL h).length)] 30)) 99 #[.func (.func 84) #[] #[.pointer (some ⟨w3.heap.size + 1 + 1, 0, none⟩), .pointer (some ⟨w3.heap.size, 0, none⟩), .pointer (some ⟨w.heap.size, 0, none⟩), .pointer (some ⟨w3.heap.size + 1 + 1 + 1, 0, none⟩)]]
          rw [World.size_alloc, World.size_alloc, World.size_alloc] at this
          exact this
        have hb03 : Below w3.heap.size w3 w0 := by rw [← hW0]; exact ((((Below.refl _ w3).alloc (Nat.le_refl _) _).alloc (by simp) _).alloc (by simp; omega) _).alloc (by simp; omega) _
        have hs0 : w0.heap.size = w3.heap.size + 4 := by rw [← hW0]; simp
        clear hW0 hmk
        have hb0w : Below w.heap.size w w0 := HB3.out.trans (hb03.mono HB3.out.size)
        have hw3 := HB3.out.size
        have hwh := HH3.out.lt
        have C : SeaN h (doneL h) w0 (w3.heap.size + 1 + 1) (w3.heap.size + 1) w3.heap.size w.heap.size (w3.heap.size + 1 + 1 + 1) A3 A c3 c := {
          kl := fun b hb => by rcases hb with hb | hb <;> omega
          ne := by omega
          vall := ⟨hba, fun hb => by rcases hb with hb | hb <;> omega⟩
          vh := ⟨HH3.out.below hb03 HH3.out.lt, fun hb => by rcases hb with hb | hb <;> omega⟩
          vf := ⟨hbf, fun hb => by rcases hb with hb | hb <;> omega⟩
          rall := HO3.out.sl.row.mono (fun b hb => ⟨Nat.lt_of_lt_of_le hb.2 hb03.size, fun hk => by have h1 := hb.2; rcases hk with hk | hk <;> omega⟩) (fun b hb => hb03.block b hb.2)
          rh := HA.out.mono (fun b hb => ⟨Nat.lt_of_lt_of_le hb hb0w.size, fun hk => by unfold Old at hb; rcases hk with hk | hk <;> omega⟩) (fun b hb => hb0w.block b hb)
          hv := Hv.out
          hall := rfl
          ef := enters_of Tryd.func84 (by kernel_rfl) rfl }
        have hOrd : Ord (w3.heap.size + 1 + 1) (w3.heap.size + 1) (2 * (doneL h).length) [] w0 := ⟨hbo, _, hbg, by rw [size_madeCells], fun j hj => absurd hj (by simp)⟩
        have hF := fromN C (2 * (doneL h).length) [] SS0 0 0 w0 (by simp) rfl Bits1.zero Bits2.zero (Only.refl _ _) hOrd
        rw [snapC_zero] at hF
        have hf0 := hbf.cell 0
        simp only [List.getElem?_toArray, List.getElem?_cons_zero, List.getElem?_cons_succ] at hf0
        have eg := C.ef
        have HB0 := hide hb0w
        have HS0 := hide hs0
        have Hw3 := hide hw3
        unfold SnPost at hF
        rw [← HF.out] at hF
        clear hba hbg hbo hbf hb03 hs0 hb0w hw3 C hOrd HF
        cases hd : snapFst h with
        | none =>
          rw [hd] at hF
          have HF := hide hF
          have HX := hide hd
          clear hF hd
          go_wp2_with (go_at_fn 84; refine HF.out.mono ?_; rintro e w7 ⟨rfl, hK7, _⟩; have HK7 := hide hK7; clear hK7)
          go_ret2
          exact ⟨_, by rw [HX.out]; rfl, ⟨0, by rw [HX.out]; exact Hold.nil 0⟩, below_only HB0.out HK7.out HB0.out.size (fun i hi => by have := Hw3.out; rcases hi with hi | hi <;> omega)⟩
        | some o =>
          rw [hd] at hF
          have HF := hide hF
          have HX := hide hd
          clear hF hd
          go_wp2_with (go_at_fn 84; refine HF.out.mono ?_; rintro e w7 ⟨rfl, hK7, hO7, hL7⟩; have HK7 := hide hK7; have HO7 := hide hO7; have HL7 := hide hL7; have u1 := hO7.var.cell 0; simp only [List.getElem?_toArray, List.getElem?_cons_zero, List.getElem?_cons_succ] at u1; clear hK7 hO7 hL7)
          go_ret2
          have hl := HL7.out
          have hgl := HO7.out.glt
          have h3 := Hw3.out
          obtain ⟨cur, hcur, hcs, hcv⟩ := HO7.out.row
          rw [HX.out]
          refine ⟨_, rfl, ⟨w3.heap.size + 1, some ⟨w3.heap.size + 1, 0, none⟩, 2 * (doneL h).length, rfl, Nat.le_of_eq hl, by simp only [maxLen]; omega, fun hp => ⟨rfl, ⟨by omega, hgl⟩, ⟨cur, hcur, by rw [hcs]; show o.length * 1 ≤ _; omega⟩, fun _ => False, fun b hb => hb.elim, fun k hk => ⟨_, rfl, fun j u hu => ?_⟩⟩⟩, below_only HB0.out HK7.out HB0.out.size (fun i hi => by rcases hi with hi | hi <;> omega)⟩
          obtain ⟨hj, rfl⟩ := List.getElem?_eq_some_iff.1 hu
          have hj0 : j = 0 := by simpa using hj
          subst hj0
          rw [hcur.cell]
          have := hcv k hk
          simpa [tInt, flat] using this
      · have HF := hide (show snapFst h = none by unfold snapFst; rw [hv, hfi, decide_eq_false h4]; rfl)
        have h4i : decide ((4 : Int) < ((doneL h).length : Int)) = true := decide_eq_true (by omega)
        clear hfi hv
        go_wp2_with (first | (go_at_call 18; refine HC.out.mono ?_; rintro e w1 ⟨rfl, hb1⟩; have HB1 := hide (HbA.out.trans (hb1.mono HbA.out.size)); have HH1 := hide (HH.out.below hb1 HH.out.lt); have d0 := HH1.out.cell 0; simp only [List.getElem?_toArray, List.getElem?_cons_zero, List.getElem?_cons_succ] at d0; clear hb1) | (go_at_call 79; refine (HFi.out _ HB1.out).mono ?_; rintro e w2 ⟨rfl, hb2⟩; have HB2 := hide (HB1.out.trans (hb2.mono HB1.out.size)); have HH2 := hide (HH1.out.below hb2 HH1.out.lt); have d1 := HH2.out.cell 0; simp only [List.getElem?_toArray, List.getElem?_cons_zero, List.getElem?_cons_succ] at d1; clear hb2) | (go_at_call 73; refine (HDn.out _ HB2.out).mono ?_; rintro e w3 ⟨v3, rfl, hO3, hb3⟩; obtain ⟨A3, c3, rfl, h31, h32, _⟩ := hO3.sl; have HO3 := hide hO3; have HB3 := hide (HB2.out.trans (hb3.mono HB2.out.size)); have HH3 := hide (HH2.out.below hb3 HH2.out.lt); have hw23 := hb3.size; clear hb3 hO3))
        go_ret2
        exact ⟨_, by rw [HF.out]; rfl, ⟨0, by rw [HF.out]; exact Hold.nil 0⟩, HB3.out.alloc HB3.out.size _⟩
end Go.Proofs.YtaaagoppecnmmaaDoor
