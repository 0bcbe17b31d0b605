/- The longest list: what the program and the reference answer, in memory of their own. -/
import Derived.Test.YtcfllpgppinofaaDoorListsAgree
import Derived.Test.YtcfllpgppinofaaDoorMark
import Derived.Test.YtcfllpgppinofaaDoorBuild
import Derived.Test.YtcfllpgppinofaaDoorToA
namespace Go.Proofs.YtcfllpgppinofaaDoor
open Go.RowKit
set_option linter.unusedVariables false

/-- The longest list so far; the first one of several. -/
def better (best x : List Int) : List Int := if best.length < x.length then x else best
def longestL (ls : List (List Int)) : List Int := ls.foldl better []
theorem longest_take {ls : List (List Int)} {k : Nat} (h : k < ls.length) : longestL (ls.take (k + 1)) = better (longestL (ls.take k)) ls[k] := by
  unfold longestL
  rw [List.take_succ_eq_append_getElem h, List.foldl_append]
  rfl
theorem longest_len (ls : List (List Int)) (B : Nat) (h : ∀ x ∈ ls, x.length ≤ B) : (longestL ls).length ≤ B := by
  unfold longestL
  have : ∀ (l : List (List Int)) (a : List Int), a.length ≤ B → (∀ x ∈ l, x.length ≤ B) → (l.foldl better a).length ≤ B := by
    intro l
    induction l with
    | nil => intro a ha _; exact ha
    | cons x l ih =>
      intro a ha hl
      rw [List.foldl_cons]
      apply ih
      · unfold better; split
        · exact hl x (by simp)
        · exact ha
      · intro y hy; exact hl y (by simp [hy])
  exact this ls [] (by simp) h

set_option maxRecDepth 10000 in
set_option maxHeartbeats 400000 in
theorem clone_Int (xs : List Int) (A : Option Addr) (c : Nat) (w : World) (hl : xs.length ≤ 2097152) (hA : Row tInt w (Old w) A xs) :
    Calls Tryd.prog 104 #[.slice A xs.length c] w fun e w' => ∃ v, e = .returned v ∧ Own tInt 3 w' (New w w') xs v ∧ Below w.heap.size w w' := by
  obtain ⟨i0, hi, hz0, hz1, hz2⟩ := info_parts infoInt_
  have qT : ∀ (w : World) (a : Option Addr) (n c n' c' : Nat), (binOp .eql 23 (.slice a n c) (.slice none n' c')).run Tryd.prog w = .ok (.bool a.isNone) w := fun w a n c n' c' => Lib.run_eql_slice_nil w _ _ a n c n' c' Tryd.underlying23
  rcases A with _ | A
  · have hnil : xs = [] := by
      rcases Nat.eq_zero_or_pos xs.length with h | h
      · exact List.eq_nil_of_length_eq_zero h
      · obtain ⟨b, off, hb, _⟩ := hA h; cases hb
    have HN := hide hnil
    clear hnil hA
    go_enter Tryd.func104, Tryd.ntmps104
    go_wp2
    go_ret
    exact ⟨_, rfl, by rw [HN.out]; exact Own.nil_, Below.refl _ _⟩
  · have HO := hide (Own.made (T := tInt) (e := 3) w (S := fun b => b = w.heap.size) #[] 0 (by simp) (by simp [maxLen]) rfl)
    have HR := hide ((hA.mono (w' := w.alloc (.cells #[] 3)) (S' := Old w) (fun _ h => h) (fun b h => Below.heap_alloc _ _ _ h)).anyInt)
    clear hA
    go_enter Tryd.func104, Tryd.ntmps104
    go_wp2_with (at_builtin; refine wpList_app tInt rfl (.tmp 5) (.tmp 6) 23 rfl 3 i0 _ 8 Tryd.underlying23 hi hz0 hz1 hz2 rfl (by decide) (fun b => b = w.heap.size) (fun _ => False) (fun b => w.heap.size ≤ b) [] xs _ rfl HO.out _ xs.length c rfl rfl HR.out (by simp only [maxLen, List.length_nil]; omega) (by simp only [List.length_nil]; omega) (fun b h => by subst h; simp [Old]) (fun b h => h.elim) (fun b h => by omega) (fun b h => h.elim) (by simp) ?_; intro v' w' hO2 hg2; have HO2 := hide hO2; have HG := hide hg2; clear hO2 hg2)
    go_ret
    refine ⟨v', rfl, HO2.out, ((Below.refl _ w).alloc (Nat.le_refl _) _).grown HG.out (by simp) (fun k hk => ?_)⟩
    have hk2 : some w.heap.size = some k := hk
    injection hk2 with hk3
    exact Nat.le_of_eq hk3

theorem clip_Int (n : Nat) (A : Option Addr) (c : Nat) (w : World) (hl : n ≤ c) (hc : c ≤ maxLen) :
    Calls Tryd.prog 103 #[.slice A n c] w fun e w' => e = .returned (.slice A n n) ∧ w = w' := by
  unfold maxLen at hc
  have h1 : (0 : Int) ≤ (n : Int) := by omega
  have h2 : (n : Int) ≤ (c : Int) := by omega
  go_enter Tryd.func103, Tryd.ntmps103
  go_wp2
  go_ret
  exact ⟨rfl, rfl⟩

set_option maxRecDepth 10000 in
set_option maxHeartbeats 400000 in
theorem longest_any (ls : List (List Int)) (A : Option Addr) (c : Nat) (w : World) (hl : ls.length ≤ 8) (hs : ∀ x ∈ ls, x.length ≤ 8) (hA : Row (tSlice tInt) w (Old w) A ls) :
    Calls Tryd.prog 80 #[.slice A ls.length c] w fun e w' => ∃ A', e = .returned (.slice A' (longestL ls).length (longestL ls).length) ∧ Room w' (New w w') 3 A' (longestL ls).length ∧ Row tInt w' (New w w') A' (longestL ls) ∧ Below w.heap.size w w' := by
  have HA := hide hA
  clear hA
  go_enter Tryd.func80, Tryd.ntmps80
  go_wp2
  go_loopw [3, 8] (fun v i wr => ∃ (k : Nat) (A2 : Option Addr) (n2 c2 : Nat), k ≤ ls.length ∧ i = .int .i64 k ∧ v = .slice A2 n2 c2 ∧ n2 ≤ 8 ∧ n2 ≤ c2 ∧ c2 ≤ 9223372036854775807 ∧ Hid ((longestL (ls.take k)).length = n2) ∧ Hid (Row tInt w (Old w) A2 (longestL (ls.take k))) ∧ wr = w) (fun _ i _ => ls.length - (intOf i).toNat)
  case atStart => exact ⟨0, none, 0, 0, Nat.zero_le _, rfl, rfl, by omega, by omega, by omega, rfl, Row.nil, rfl⟩
  case round =>
    obtain ⟨k, A2, n2, c2, hk, rfl, rfl, hn2, hnc, hc2, hN, hR, rfl⟩ := hrel
    by_cases hlt : k < ls.length
    · obtain ⟨b, off, A3, c3, rfl, hbS, c0, hi1, hi2, hi3⟩ := at_IntS HA.out (Below.refl _ _) hlt
      have HR3 := hide hi3
      have h8 := hs _ (List.getElem_mem hlt)
      have hi2' : c3 ≤ 9223372036854775807 := by simpa [maxLen] using hi2
      have HT := hide (longest_take hlt)
      clear hi2 hi3
      by_cases hb : n2 < ls[k].length
      · have HE := hide (show longestL (ls.take (k + 1)) = ls[k] by rw [HT.out]; unfold better; rw [hN.out, if_pos hb])
        go_wp2
        go_roundw
        case rel => exact ⟨k + 1, A3, ls[k].length, c3, by omega, by go_num, rfl, by omega, hi1, hi2', by show _ = _; rw [HE.out], by show Row _ _ _ _ _; rw [HE.out]; exact HR3.out, trivial⟩
        case measure => simp [intOf]; omega
      · have HE := hide (show longestL (ls.take (k + 1)) = longestL (ls.take k) by rw [HT.out]; unfold better; rw [hN.out, if_neg hb])
        go_wp2
        go_roundw
        case rel => exact ⟨k + 1, A2, n2, c2, by omega, by go_num, rfl, by omega, hnc, hc2, by show _ = _; rw [HE.out]; exact hN.out, by show Row _ _ _ _ _; rw [HE.out]; exact hR.out, trivial⟩
        case measure => simp [intOf]; omega
    · obtain rfl : k = ls.length := by omega
      have hN' := hN.out
      have hR' := hR.out
      rw [List.take_length] at hN' hR'
      subst hN'
      have HC := hide (clone_Int (longestL ls) A2 c2 wr (by omega) hR')
      clear hN hR hR'
      go_wp2_with (first | (go_at_call 104; refine HC.out.mono ?_; rintro e w' ⟨v, rfl, hO, hb'⟩; obtain ⟨A4, c4, rfl, hq1, hq2, hq3⟩ := hO.sl; have HO := hide hO; have HB := hide hb'; have HQ2 := hide hq2; clear hO hb' hq2 hq3) | (go_at_call 103; refine (clip_Int _ _ _ _ hq1 HQ2.out).mono ?_; rintro e w' ⟨rfl, rfl⟩))
      go_ret
      exact ⟨A4, rfl, HO.out.room, HO.out.row, HB.out⟩

/-- A list of numbers in new memory. -/
def Fresh (w w' : World) (xs : List Int) (v : Value) : Prop :=
  ∃ A c, v = .slice A xs.length c ∧ Room w' (New w w') 3 A xs.length ∧ Row tInt w' (New w w') A xs
theorem Own.fresh {w w' : World} {xs : List Int} {v : Value} (h : Own tInt 3 w' (New w w') xs v) : Fresh w w' xs v := by
  obtain ⟨A, c, rfl, _, _, hR⟩ := h.sl
  exact ⟨A, c, rfl, h.room, hR⟩
theorem Fresh.nil {w w' : World} : Fresh w w' [] (.slice none 0 0) := ⟨none, 0, rfl, fun h => absurd h (by simp), Row.nil⟩
theorem Fresh.from_ {w0 w w' : World} {xs : List Int} {v : Value} (h : Fresh w w' xs v) (hs : w0.heap.size ≤ w.heap.size) : Fresh w0 w' xs v := by
  obtain ⟨A, c, rfl, hR, hr⟩ := h
  refine ⟨A, c, rfl, fun hp => ?_, hr.mono (fun b h => ⟨Nat.le_trans hs h.1, h.2⟩) (fun _ _ => rfl)⟩
  obtain ⟨g, cur, hA, hg, hB, hl⟩ := hR hp
  exact ⟨g, cur, hA, ⟨Nat.le_trans hs hg.1, hg.2⟩, hB, hl⟩
def longestR (ls : List (List Int)) : List Int := if listsV ls then longestL ls else []

theorem implLongestList (ls : List (List Int)) (A : Option Addr) (c : Nat) (w : World) (hm : ls.length ≤ maxLen) (hA : Row (tSlice tInt) w (Old w) A ls) :
    Calls Tryd.prog 40 #[.slice A ls.length c] w fun e w' => ∃ v, e = .returned v ∧ Fresh w w' (longestR ls) v ∧ Below w.heap.size w w' := by
  have HC := hide (implListsValid ls A c w hm hA)
  have HA := hide hA
  clear hA
  cases hv : listsV ls with
  | false =>
    rw [hv] at HC
    have HV := hide (show longestR ls = [] by unfold longestR; rw [hv]; rfl)
    clear hv
    go_enter Tryd.func40, Tryd.ntmps40
    go_wp2_with (go_at_call 37; refine HC.out.mono ?_; rintro e w' ⟨rfl, hb'⟩)
    go_ret
    exact ⟨_, rfl, by rw [HV.out]; exact Fresh.nil, hb'⟩
  | true =>
    rw [hv] at HC
    have HV := hide (show longestR ls = longestL ls by unfold longestR; rw [hv]; rfl)
    have HS := hide (listsV_short hv)
    clear hv
    go_enter Tryd.func40, Tryd.ntmps40
    go_wp2_with (first | (go_at_call 37; refine HC.out.mono ?_; rintro e w1 ⟨rfl, hb1⟩; have HB1 := hide hb1; clear hb1) | (go_at_call 80; refine (longest_any ls A c _ HS.out.1 HS.out.2 (HA.out.old HB1.out)).mono ?_; rintro e w2 ⟨A', rfl, hq⟩; have HQ := hide hq; clear hq))
    go_ret
    refine ⟨_, rfl, ?_, HB1.out.trans (HQ.out.2.2.mono HB1.out.size)⟩
    rw [HV.out]
    exact Fresh.from_ ⟨A', _, rfl, HQ.out.1, HQ.out.2.1⟩ HB1.out.size

set_option maxRecDepth 10000 in
set_option maxHeartbeats 1000000 in
theorem specLongestList (ls : List (List Int)) (A : Option Addr) (c : Nat) (w : World) (hm : ls.length ≤ maxLen) (hA : Row (tSlice tInt) w (Old w) A ls) :
    Calls Tryd.prog 42 #[.slice A ls.length c] w fun e w' => ∃ v, e = .returned v ∧ Fresh w w' (longestR ls) v ∧ Below w.heap.size w w' := by
  obtain ⟨i0, hi, hz0, hz1, hz2⟩ := info_parts infoInt_
  have HA := hide hA
  have hm' : ls.length ≤ 9223372036854775807 := by simpa [maxLen] using hm
  have HM := hide hm
  clear hA hm
  cases hv : listsV ls with
  | false =>
    have HV := hide (show longestR ls = [] by unfold longestR; rw [hv]; rfl)
    have hB0 : Below w.heap.size w (w.alloc (.cells #[] 3)) := (Below.refl _ _).alloc (Nat.le_refl _) _
    have hC := specListsValid ls A c _ HM.out (HA.out.old hB0)
    rw [hv] at hC
    have HC := hide hC
    have HO := hide (Own.made (T := tInt) (e := 3) w (S := New w (w.alloc (.cells #[] 3))) #[] 0 (by simp) (by simp [maxLen]) ⟨Nat.le_refl _, by simp⟩)
    have HB0 := hide hB0
    clear hv hC hB0
    go_enter Tryd.func42, Tryd.ntmps42
    go_wp2
    by_cases h0 : 0 < ls.length
    · refine wp_loop_rounds 1 ?_
      rw [rounds_succ]
      go_wp2_with (go_at_call 38; refine HC.out.mono ?_; rintro e w' ⟨rfl, hb'⟩; have HB1 := hide hb'; clear hb')
      go_ret
      refine ⟨_, rfl, ?_, HB0.out.trans (HB1.out.mono (by simp))⟩
      rw [HV.out]
      exact (HO.out.mono (S2 := New w w') (fun b h => ⟨h.1, Nat.lt_of_lt_of_le h.2 HB1.out.size⟩) (fun b h => HB1.out.block b h.2)).fresh
    · refine wp_loop_rounds 1 ?_
      rw [rounds_succ]
      go_wp2
      go_ret
      refine ⟨_, rfl, ?_, HB0.out⟩
      rw [HV.out]
      exact HO.out.fresh
  | true =>
    have HV := hide (show longestR ls = longestL ls by unfold longestR; rw [hv]; rfl)
    have HS := hide (listsV_short hv).2
    have hl := (listsV_short hv).1
    have HCC : Hid (∀ W, Below w.heap.size w W → Calls Tryd.prog 38 #[.slice A ls.length c] W fun e w' => e = .returned (.bool true) ∧ Below W.heap.size W w') := fun W hW => by
      have := specListsValid ls A c W HM.out (HA.out.old hW)
      rwa [hv] at this
    clear hv
    go_enter Tryd.func42, Tryd.ntmps42
    go_wp2
    go_loopw [3, 4] (fun v i wr => ∃ (k : Nat) (A2 : Option Addr) (n2 c2 : Nat), k ≤ ls.length ∧ i = .int .i64 k ∧ v = .slice A2 n2 c2 ∧ n2 ≤ 8 ∧ Hid ((longestL (ls.take k)).length = n2) ∧ Hid (Own tInt 3 wr (In w.heap.size wr.heap.size) (longestL (ls.take k)) (.slice A2 n2 c2)) ∧ Below w.heap.size w wr) (fun _ i _ => ls.length - (intOf i).toNat)
    case atStart => exact ⟨0, some ⟨w.heap.size, 0, none⟩, 0, 0, Nat.zero_le _, rfl, rfl, by omega, rfl, Own.made w #[] 0 (by simp) (by simp [maxLen]) ⟨Nat.le_refl _, by simp⟩, (Below.refl _ _).alloc (Nat.le_refl _) _⟩
    case round =>
      obtain ⟨k, A2, n2, c2, hk, rfl, rfl, hn2, hN, hO, hb⟩ := hrel
      by_cases hlt : k < ls.length
      · have HC := hide (HCC.out wr hb)
        have hlt' : (k : Int) < (ls.length : Int) := by omega
        have hd : decide ((k : Int) < (ls.length : Int)) = true := by simpa using hlt
        have h8 := HS.out _ (List.getElem_mem hlt)
        have HT := hide (longest_take hlt)
        obtain ⟨b0, off0, A30, c30, hA0, _, _, _, _, _⟩ := at_IntS HA.out hb hlt
        subst hA0
        go_wp2_with (first | (go_at_call 38; refine HC.out.mono ?_; rintro e w2 ⟨rfl, hb2⟩; obtain ⟨b, off, A3, c3, hbe, hbS, c0, hi1, hi2, hi3⟩ := at_IntS HA.out (hb.trans (hb2.mono hb.size)) hlt; obtain ⟨rfl, rfl⟩ := (show b0 = b ∧ off0 = off by simpa using hbe); have HB2 := hide (hb.trans (hb2.mono hb.size)); have HW2 := hide hb2; have hi2' : c3 ≤ 9223372036854775807 := (by simpa [maxLen] using hi2); have e0 : ∀ o, (w2.alloc o).cell? ⟨b0, off0 + k, none⟩ = some (.slice A3 ls[k].length c3) := (fun o => (World.cell?_alloc_lt w2 o ⟨b0, off0 + k, none⟩ (Nat.lt_of_lt_of_le hbS HB2.out.size)).trans c0); have HR3 := hide (hi3.anyInt); have HO2 := hide (Own.made (T := tInt) (e := 3) w2 (S := fun b => b = w2.heap.size) #[] 0 (by simp) (by simp [maxLen]) rfl); have HR4 : Hid (RowAny tInt (w2.alloc (.cells #[] 3)) (fun _ => False) A3 ls[k]) := (hi3.mono (w' := w2.alloc (.cells #[] 3)) (S' := Old w2) (fun _ h => h) (fun b h => Below.heap_alloc _ _ _ h)).anyInt; clear hbe hb2 hi2 hi3) | (at_builtin; refine wpList_app tInt rfl (.tmp 24) (.tmp 28) 23 rfl 3 i0 _ 8 Tryd.underlying23 hi hz0 hz1 hz2 rfl (by decide) (fun b => b = w2.heap.size) (fun _ => False) (fun b => w2.heap.size ≤ b) [] ls[k] _ rfl HO2.out _ ls[k].length c3 rfl rfl HR4.out (by simp only [maxLen, List.length_nil]; omega) (by simp only [List.length_nil]; omega) (fun b h => by subst h; simp [Old]) (fun b h => h.elim) (fun b h => by omega) (fun b h => h.elim) (by simp) ?_; intro v' w' hO3 hg3; have HG := hide hg3; rw [List.nil_append] at hO3; obtain ⟨A5, c5, rfl, _, _, _⟩ := hO3.sl; have HO3 := hide hO3; clear hO3 hg3))
        · have hlt2 : n2 < ls[k].length := by assumption
          have HE := hide (show longestL (ls.take (k + 1)) = ls[k] by rw [HT.out]; unfold better; rw [hN.out, if_pos hlt2])
          have HB5 := hide (show Below w.heap.size w w' from (HB2.out.alloc HB2.out.size _).grown HG.out (Nat.le_trans HB2.out.size (by simp)) (fun j hj => by have hj2 : some w2.heap.size = some j := hj; injection hj2 with hj3; exact hj3 ▸ HB2.out.size))
          go_roundw
          case rel => exact ⟨k + 1, A5, ls[k].length, c5, by omega, by go_num, rfl, by omega, by show _ = _; rw [HE.out], by show Own _ _ _ _ _ _; rw [HE.out]; exact HO3.out.mono (fun b h => ⟨Nat.le_trans HB2.out.size h.1, h.2⟩) (fun _ _ => rfl), HB5.out⟩
          case measure => simp [intOf]; omega
        · have hlt2 : ¬ n2 < ls[k].length := by assumption
          have HE := hide (show longestL (ls.take (k + 1)) = longestL (ls.take k) by rw [HT.out]; unfold better; rw [hN.out, if_neg hlt2])
          go_roundw
          case rel => exact ⟨k + 1, A2, n2, c2, by omega, by go_num, rfl, by omega, by show _ = _; rw [HE.out]; exact hN.out, by show Own _ _ _ _ _ _; rw [HE.out]; exact hO.out.mono (fun b h => ⟨h.1, Nat.lt_of_lt_of_le h.2 HW2.out.size⟩) (fun b h => HW2.out.block b h.2), HB2.out⟩
          case measure => simp [intOf]; omega
      · obtain rfl : k = ls.length := by omega
        have hd : decide (((ls.length : Nat) : Int) < (ls.length : Int)) = false := by simp
        have hO' := hO.out
        have hN' := hN.out
        rw [List.take_length] at hO' hN'
        subst hN'
        have HO := hide hO'
        clear hO hN hO'
        go_wp2
        go_ret
        refine ⟨_, rfl, ?_, hb⟩
        rw [HV.out]
        exact Own.fresh HO.out
end Go.Proofs.YtcfllpgppinofaaDoor
