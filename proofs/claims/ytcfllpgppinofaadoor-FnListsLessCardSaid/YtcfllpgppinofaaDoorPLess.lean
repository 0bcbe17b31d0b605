/- The law FnListsLess: if lists agree, they do without the first one, and their order does not change, unless it is the longest one. -/
import Derived.Test.YtcfllpgppinofaaDoorPLongest
import Derived.Test.YtcfllpgppinofaaDoorOrder
namespace Go.Proofs.YtcfllpgppinofaaDoor
open Go.RowKit
set_option linter.unusedVariables false

theorem better_start : ∀ (rest : List (List Int)) (a b : List Int), b.length ≤ a.length → (rest.foldl better a).length ≠ a.length → rest.foldl better a = rest.foldl better b
  | [], a, b, _, h => absurd rfl h
  | y :: rest, a, b, hb, h => by
    rw [List.foldl_cons, List.foldl_cons]
    rw [List.foldl_cons] at h
    by_cases hy : a.length < y.length
    · have h1 : better a y = y := by unfold better; rw [if_pos hy]
      have h2 : better b y = y := by unfold better; rw [if_pos (by omega)]
      rw [h1, h2]
    · have h1 : better a y = a := by unfold better; rw [if_neg hy]
      rw [h1] at h ⊢
      refine better_start rest a _ ?_ h
      unfold better; split <;> omega
theorem longest_drop (ls : List (List Int)) (h : 0 < ls.length) (hne : ls[0].length ≠ (longestL ls).length) : longestL (ls.drop 1) = longestL ls := by
  cases ls with
  | nil => simp at h
  | cons x rest =>
    have e : longestL (x :: rest) = rest.foldl better (better [] x) := rfl
    have hb : (better [] x).length = x.length := by
      unfold better
      split
      · rfl
      · rename_i h; simp at h; simp [h]
    rw [e] at hne ⊢
    exact (better_start rest (better [] x) [] (by simp) (by rw [hb]; exact fun he => hne he.symm)).symm
theorem listsV_drop1 {xs : List (List Int)} (k : Nat) (h : listsV xs = true) : listsV (xs.drop k) = true := by
  unfold listsV at h ⊢
  simp only [Bool.and_eq_true, decide_eq_true_eq, List.all_eq_true, List.length_drop] at h ⊢
  exact ⟨by omega, fun x hx => h.2 x (List.mem_of_mem_drop hx)⟩
theorem orderOk_drop {ls : List (List Int)} (h : OrderOk ls) : OrderOk (ls.drop 1) := by
  have hv := orderOk_valid h
  have hA : AgreeTo ls ls.length 0 := by
    rcases h with ⟨h1, ha, _⟩ | ⟨_, _, _, hA⟩ | ⟨_, k, l, _, _, _, ha, _⟩
    · cases ha
    · exact hA
    · omega
  refine .inr (.inl ⟨listsV_drop1 1 hv, rfl, rfl, fun i j hi hj hij _ => ?_⟩)
  rw [List.getElem_drop, List.getElem_drop]
  rw [List.length_drop] at hi hj
  exact hA (1 + i) (1 + j) (by omega) (by omega) (by omega) (.inl (by omega))
theorem same_or {ls : List (List Int)} (hv : listsV ls = true) (h : 0 < ls.length) (hne : ¬ (ls[0].length = (longestR ls).length)) : longestR (ls.drop 1) = longestR ls := by
  have h2 := listsV_drop1 1 hv
  unfold longestR at hne ⊢
  rw [hv] at hne ⊢
  rw [h2]
  exact longest_drop ls h hne

set_option maxRecDepth 10000 in
set_option maxHeartbeats 4000000 in
theorem lawFnLess (bs : List Int) (A : Option Addr) (c : Nat) (w : World) (hm : bs.length ≤ maxLen) (hc : bs.length ≤ c) (hcm : c ≤ maxLen) (hA : Row tByte w (Old w) A bs) :
    Calls Tryd.prog 12 #[.slice A bs.length c] w fun e w' => e = .returned (.bool true) ∧ Below w.heap.size w w' := by
  have hq : bs.length ≤ 9223372036854775807 := by simpa [maxLen] using hm
  by_cases hl : bs.length ≤ 1048576
  · have HD := hide (drawOrder bs A c w hl hc hcm hA)
    clear hA
    go_enter Tryd.func12, Tryd.ntmps12
    go_wp2_with fail
    refine HD.out.mono ?_
    rintro e w1 ⟨ls, v, rfl, hx, ho, hb1⟩
    obtain ⟨A1, c1, rfl, hle, hcm1, hR1⟩ := ho
    have HR1 := hide hR1; have HB1 := hide hb1; clear hR1 hb1
    have hxm : ls.length ≤ maxLen := by simp only [maxLen]; omega
    go_wp2_with fail
    refine (implOrderOfLists ls A1 c1 w1 hxm HR1.out).mono ?_
    rintro e w2 ⟨⟨ok, v2, rfl, hok, hf2⟩, hb2⟩
    obtain ⟨X, hX⟩ : ∃ X, X = if ok then longestR ls else [] := ⟨_, rfl⟩
    have hXl : X.length ≤ 8 := by rw [hX]; cases ok <;> simp [longestR_len]
    rw [← hX] at hf2
    have HX := hide hX
    clear hX
    obtain ⟨A2, c2, rfl, hr2⟩ := hf2.old
    have HF2 := hide hr2
    have HR2 := hide (HR1.out.old hb2); have HB2 := hide (HB1.out.trans (hb2.mono HB1.out.size)); clear hb2 hf2 hr2
    go_wp2_with fail
    refine (specOrderOfLists ls A1 c1 w2 hxm HR2.out).mono ?_
    rintro e w3 ⟨⟨fine, v3, rfl, hfine, hf3⟩, hb3⟩
    have hof : fine = ok := by rw [Bool.eq_iff_iff, hfine, hok]
    subst hof
    rw [← HX.out] at hf3
    obtain ⟨A3, c3, rfl, hr3⟩ := hf3.old
    have HF3 := hide hr3
    have HF2b := hide (HF2.out.old hb3)
    have HR3 := hide (HR2.out.old hb3); have HB3 := hide (HB2.out.trans (hb3.mono HB2.out.size)); clear hb3 hf3 hr3
    have HOk := hide hok
    clear hfine hok
    have hlm : X.length ≤ maxLen := by simp only [maxLen]; omega
    go_wp2_with fail
    refine (sameInts_any X X A2 A3 c2 c3 w3 hlm hlm HF2b.out HF3.out).mono ?_
    rintro e w4 ⟨rfl, hb4⟩
    have HF4 := hide (HF2b.out.old hb4)
    have HR4 := hide (HR3.out.old hb4); have HB4 := hide (HB3.out.trans (hb4.mono HB3.out.size)); clear hb4
    rw [decide_eq_true (rfl : X = X)]
    have HAl := hide alive_any
    clear HF2 HF2b HF3 HR1 HR2 HR3 HB1 HB2 HB3
    cases fine with
    | false =>
      go_wp2_with (go_at_call 23; refine (HAl.out _).mono ?_; rintro e w7 ⟨rfl, hb7⟩; have HB7 := hide (HB4.out.trans (hb7.mono HB4.out.size)); clear hb7)
      go_ret
      exact ⟨rfl, HB7.out⟩
    | true =>
      by_cases h0 : ls.length = 0
      · have h0' : ((ls.length : Int) == 0) = true := by simp [h0]
        clear h0
        go_wp2_with (go_at_call 23; refine (HAl.out _).mono ?_; rintro e w7 ⟨rfl, hb7⟩; have HB7 := hide (HB4.out.trans (hb7.mono HB4.out.size)); clear hb7)
        go_ret
        exact ⟨rfl, HB7.out⟩
      · have h0' : ((ls.length : Int) == 0) = false := by rw [beq_eq_false_iff_ne]; omega
        have hlen1 : 1 ≤ ls.length := by omega
        have hOk : OrderOk ls := HOk.out.1 rfl
        have HOd := hide (orderOk_drop hOk)
        have HVl := hide (orderOk_valid hOk)
        have hXe : X = longestR ls := HX.out.trans (if_pos rfl)
        have HXe := hide hXe
        have hCd : ∀ A' c', Row (tSlice tInt) w4 (Old w4) A' (ls.drop 1) → Calls Tryd.prog 47 #[.slice A' (ls.length - 1) c'] w4 fun e w' => (∃ (ok : Bool) (v : Value), e = .returned (.tuple #[v, .bool ok]) ∧ OrderAns (ls.drop 1) w4 w' ok v) ∧ Below w4.heap.size w4 w' := fun A' c' hR' => by
          have h := implOrderOfLists (ls.drop 1) A' c' w4 (by rw [List.length_drop]; simp only [maxLen]; omega) hR'
          rw [List.length_drop] at h
          exact h
        have HCd := hide hCd
        have HSm := hide (show ¬ (ls[0].length = X.length) → longestR (ls.drop 1) = X by rw [hXe]; exact same_or HVl.out hlen1)
        clear h0 hOk hXe hCd
        by_cases hc0 : c1 = 1
        all_goals
          have HCe := hide (show Calls Tryd.prog 47 #[if c1 = 1 then .slice A1 (ls.length - 1) 0 else .slice (A1.map (fun x => x.add 1)) (ls.length - 1) (c1 - 1)] w4 fun e w' => (∃ (ok : Bool) (v : Value), e = .returned (.tuple #[v, .bool ok]) ∧ OrderAns (ls.drop 1) w4 w' ok v) ∧ Below w4.heap.size w4 w' by
            by_cases hc1 : c1 = 1
            · have hx0 : ls.drop 1 = [] := List.drop_eq_nil_of_le (by omega)
              rw [if_pos hc1]
              exact HCd.out _ _ (by rw [hx0]; exact Row.nil)
            · rw [if_neg hc1]
              have h := HR4.out.cut 1
              exact HCd.out _ _ h)
          simp only [hc0, if_true, if_false] at HCe
          have Hc0 := hide hc0
          clear hc0
          go_wp2_with fail
          refine HCe.out.mono ?_
          rintro e w5 ⟨⟨good, v5, rfl, hgood, hf5⟩, hb5⟩
          have hgt : good = true := hgood.2 HOd.out
          subst hgt
          obtain ⟨A5, c5, rfl, hr5⟩ := hf5.old
          have HF5 := hide hr5
          have HF4b := hide (HF4.out.old hb5)
          have HR5 := hide (HR4.out.old hb5); have HB5 := hide (HB4.out.trans (hb5.mono HB4.out.size))
          clear hb5 hf5 hr5 hgood
          obtain ⟨b, off, A6, c6, hAe, hbS, d0, _, _, _⟩ := at_IntS (w := w5) HR5.out (Below.refl _ _) (k := 0) hlen1
          subst hAe
          clear hbS
          rw [Nat.add_zero] at d0
          obtain ⟨Z, hZ⟩ : ∃ Z, Z = longestR (ls.drop 1) := ⟨_, rfl⟩
          have hZl : Z.length ≤ 8 := by rw [hZ]; exact longestR_len _
          simp only [if_true] at HF5
          rw [if_pos rfl, ← hZ]
          rw [← hZ] at HF5 HSm
          clear hZ
          generalize ls[0].length = n0 at d0 HSm
          by_cases hn0 : n0 = X.length
          · have hn0I : (n0 : Int) = (X.length : Int) := by omega
            subst hn0
            go_wp2_with fail
            go_ret
            exact ⟨rfl, HB5.out⟩
          · have hZX := HSm.out hn0
            have hn0I : ¬ (n0 : Int) = (X.length : Int) := by omega
            have HS := hide (sameInts_any Z X A5 A2 c5 c2 w5 (by simp only [maxLen]; omega) hlm HF5.out HF4b.out)
            rw [decide_eq_true hZX] at HS
            clear hZX hn0
            go_wp2_with (go_at_call 41; refine HS.out.mono ?_; rintro e w8 ⟨rfl, hb8⟩; have HB8 := hide (HB5.out.trans (hb8.mono HB5.out.size)); clear hb8)
            go_ret
            exact ⟨rfl, HB8.out⟩
  · clear hA
    go_enter Tryd.func12, Tryd.ntmps12
    go_wp2_with fail
    go_ret
    exact ⟨rfl, Below.refl _ _⟩
end Go.Proofs.YtcfllpgppinofaaDoor
