/- The law FnListsValid: a part of valid lists is valid; with a list that has 0 they are not. -/
import Derived.Test.YtcfllpgppinofaaDoorListsD
import Derived.Test.YtcfllpgppinofaaDoorAlive
import Derived.Test.YtcfllpgppinofaaDoorListsB
namespace Go.Proofs.YtcfllpgppinofaaDoor
open Go.RowKit
set_option linter.unusedVariables false

theorem listsV_drop {xs : List (List Int)} (k : Nat) (h : listsV xs = true) : listsV (xs.drop k) = true := by
  unfold listsV at h ⊢
  simp only [Bool.and_eq_true, decide_eq_true_eq, List.all_eq_true, List.length_drop] at h ⊢
  exact ⟨by omega, fun x hx => h.2 x (List.mem_of_mem_drop hx)⟩
theorem listsV_zero (xs : List (List Int)) : listsV (xs ++ [[0]]) = false := by
  unfold listsV
  rw [List.all_append]
  have : listV [0] = false := by decide
  simp [this]

set_option maxRecDepth 10000 in
set_option maxHeartbeats 4000000 in
theorem lawFnLists (bs : List Int) (A : Option Addr) (c : Nat) (w : World) (hm : bs.length ≤ maxLen) (hc : bs.length ≤ c) (hcm : c ≤ maxLen) (hA : Row tByte w (Old w) A bs) :
    Calls Tryd.prog 9 #[.slice A bs.length c] w fun e w' => e = .returned (.bool true) ∧ Below w.heap.size w w' := by
  have hq : bs.length ≤ 9223372036854775807 := by simpa [maxLen] using hm
  obtain ⟨i0, hi, hz0, hz1, hz2⟩ := info_parts infoIntSD
  by_cases hl : bs.length ≤ 1048576
  · have HD := hide (drawLists bs A c w hl hc hcm hA)
    clear hA
    go_enter Tryd.func9, Tryd.ntmps9
    go_wp2_with fail
    refine HD.out.mono ?_
    rintro e w1 ⟨xs, v, rfl, hx, ho, hb1⟩
    obtain ⟨A1, c1, rfl, hle, hcm1, hR1⟩ := ho
    have HR1 := hide hR1; have HB1 := hide hb1; clear hR1 hb1
    have hxm : xs.length ≤ maxLen := by simp only [maxLen]; omega
    go_wp2_with fail
    refine (implListsValid xs A1 c1 w1 hxm HR1.out).mono ?_
    rintro e w1b ⟨rfl, hb2⟩
    have HR1b := hide (HR1.out.old hb2); have HB1b := hide (HB1.out.trans (hb2.mono HB1.out.size)); clear hb2
    go_wp2_with fail
    refine (specListsValid xs A1 c1 w1b hxm HR1b.out).mono ?_
    rintro e w2 ⟨rfl, hb3⟩
    have HR2 := hide (HR1b.out.old hb3); have HB2 := hide (HB1b.out.trans (hb3.mono HB1b.out.size)); clear hb3
    have HE := hide (show ∀ ys, listsV (ys ++ [[0]]) = false from listsV_zero)
    have HI := hide (fun (ys : List (List Int)) (A c W) (hl : ys.length ≤ maxLen) (hA : Row (tSlice tInt) W (Old W) A ys) => implListsValid ys A c W hl hA)
    have HAl := hide alive_any
    clear HR1 HB1 HR1b HB1b
    cases hv : listsV xs with
    | false =>
      clear hv
      have HR3 := hide HR2.out; have HB3 := hide HB2.out
      clear HR2 HB2
      have HOe := hide (Own.empty (T := tAt w2 (Old w2) (tSlice tInt)) (e := 23) w2 (fun b => w2.heap.size ≤ b) (Nat.le_refl _))
      have HRy := hide (HR3.out.anyAt (W := w2.alloc (.cells #[] 23)) (fun b hb => Below.heap_alloc _ _ _ hb))
      have OBJ3 : ∀ (w3 : World) (v3 : Value), Only (fun b => w2.heap.size ≤ b) w2 w3 → Own (tAt w2 (Old w2) (tSlice tInt)) 23 w3 (fun b => w2.heap.size ≤ b ∧ Old w3 b) ([] ++ xs) v3 →
          Own (tAt (w3.alloc (.cells #[.int .i64 0] 3)) (fun b => b < w2.heap.size ∨ b = w3.heap.size) (tSlice tInt)) 23 (w3.alloc (.cells #[.int .i64 0] 3)) (fun b => (w2.heap.size ≤ b ∧ b ≠ w3.heap.size) ∧ Old (w3.alloc (.cells #[.int .i64 0] 3)) b) ([] ++ xs) v3 := fun w3 v3 hK hO =>
        (hO.mono (w' := w3.alloc (.cells #[.int .i64 0] 3)) (S2 := fun b => (w2.heap.size ≤ b ∧ b ≠ w3.heap.size) ∧ Old (w3.alloc (.cells #[.int .i64 0] 3)) b) (fun b hb => ⟨⟨hb.1, Nat.ne_of_lt hb.2⟩, Nat.lt_of_lt_of_le hb.2 (by simp)⟩) (fun b hb => Below.heap_alloc _ _ _ hb.2)).reAt
          (fun b hb => .inl hb) (fun b hb => (Below.heap_alloc _ _ _ (Nat.lt_of_lt_of_le hb hK.size)).trans (hK.block b hb (fun h => by have hb' : b < w2.heap.size := hb; omega)))
      have OBJY : ∀ w3 : World, (tSlice tInt).rel (w3.alloc (.cells #[.int .i64 0] 3)) (fun b => b < w2.heap.size ∨ b = w3.heap.size) [0] [.slice (some ⟨w3.heap.size, 0, none⟩) 1 1] := fun w3 => ⟨_, rfl, _, 1, rfl, Nat.le_refl _, by simp [maxLen], fun _ => ⟨_, 0, rfl, .inr rfl, fun k hk => by
        obtain rfl : k = 0 := by simpa using hk
        refine ⟨_, rfl, fun j u hu => ?_⟩
        obtain ⟨hj, rfl⟩ := List.getElem?_eq_some_iff.1 hu
        have hj0 : j = 0 := by simpa using hj
        subst hj0
        rw [(Blk.new w3 _ _).cell]
        rfl⟩⟩
      have HOBJ3 := hide OBJ3
      have HOBJY := hide OBJY
      clear OBJ3 OBJY
      go_wp2_with (first | (at_builtin; refine wpList_cat (tAt w2 (Old w2) (tSlice tInt)) rfl (.tmp 27) (.tmp 28) 56 rfl 23 i0 _ 24 Tryd.underlying56 hi hz0 hz1 hz2 rfl Nat.zero_lt_one (fun b => w2.heap.size ≤ b) (fun _ => False) [] xs _ rfl HOe.out _ _ _ rfl rfl HRy.out (fun _ h => h.elim) (fun b hb => Nat.le_trans (by simp) hb) (by simp only [maxLen, List.length_nil]; omega) (by simp only [List.length_nil]; omega) ?_; intro v3 w3 hO_ hK_; have HK3 := hide ((Only.of_alloc (K := fun b => w2.heap.size ≤ b) w2 (.cells #[] 23)).trans hK_); have HZO := hide (HOBJ3.out w3 _ HK3.out hO_); have HY := hide (HOBJY.out w3); clear hO_ hK_) | (at_builtin; refine wpList_put (tAt (w3.alloc (.cells #[.int .i64 0] 3)) (fun b => b < w2.heap.size ∨ b = w3.heap.size) (tSlice tInt)) rfl (.tmp 29) (.tmp 31) 56 rfl 23 i0 _ 24 Tryd.underlying56 hi hz0 hz1 hz2 rfl Nat.zero_lt_one (fun b => w2.heap.size ≤ b ∧ b ≠ w3.heap.size) (fun _ => False) ([] ++ xs) [0] [.slice (some ⟨w3.heap.size, 0, none⟩) 1 1] _ rfl HZO.out 1 (show Value.slice (some ⟨w3.heap.size + 1, 0, none⟩) 1 1 = .slice (some ⟨(w3.alloc (.cells #[.int .i64 0] 3)).heap.size, 0, none⟩) 1 1 by simp) HY.out (fun _ h => h.elim) (fun b hb => by have := HK3.out.size; simp at hb; exact ⟨by omega, by omega⟩) (by simp [maxLen]; omega) (by simp; omega) ?_; intro v4 w4 hO_ hK_; have HO4 := hide hO_; have HK4a := hide hK_; have HK4 := hide (HK3.out.trans ((Only.of_alloc (K := fun b => w2.heap.size ≤ b) w3 (.cells #[.int .i64 0] 3)).trans (hK_.mono (fun _ h => h.1)))); clear hO_ hK_))
      obtain ⟨ys, hys⟩ : ∃ ys, ys = [] ++ xs ++ [[(0 : Int)]] := ⟨_, rfl⟩
      have hv4 := HO4.out.slAt (W := w4) (fun b hb => by have := HK3.out.size; have := HK4a.out.size; simp at this; show b < _; omega) (fun b hb => HK4a.out.block b (by have := HK3.out.size; simp; omega) (fun h => by have := HK3.out.size; omega)) (fun b hb => hb.2)
      rw [← hys] at hv4
      have hyl : ys.length ≤ maxLen := by rw [hys]; simp [maxLen]; omega
      have hyf : listsV ys = false := by rw [hys]; exact HE.out _
      obtain ⟨A4, c4, rfl, _, _, hR4⟩ := hv4
      have HC := hide (HI.out ys A4 c4 w4 hyl hR4)
      rw [hyf] at HC
      clear hys hyl hyf hR4
      go_wp2_with (first | (go_at_call 37; refine HC.out.mono ?_; rintro e w5 ⟨rfl, hb5⟩; have HB5 := hide hb5; clear hb5) | (go_at_call 23; refine (HAl.out _).mono ?_; rintro e w6 ⟨rfl, hb6⟩; have HB6 := hide hb6; clear hb6))
      go_ret
      exact ⟨rfl, ((below_only HB3.out HK4.out HB3.out.size (fun i hi => Nat.le_trans HB3.out.size hi)).trans (HB5.out.mono (Nat.le_trans HB3.out.size HK4.out.size))).trans (HB6.out.mono (Nat.le_trans (Nat.le_trans HB3.out.size HK4.out.size) HB5.out.size))⟩
    | true =>
      have hd := listsV_drop (xs.length / 2) hv
      have hCd : ∀ A' c', Row (tSlice tInt) w2 (Old w2) A' (xs.drop (xs.length / 2)) → Calls Tryd.prog 37 #[.slice A' (xs.length - xs.length / 2) c'] w2 fun e w' => e = .returned (.bool true) ∧ Below w2.heap.size w2 w' := fun A' c' hR' => by
        have h := implListsValid (xs.drop (xs.length / 2)) A' c' w2 (by rw [List.length_drop]; simp only [maxLen]; omega) hR'
        rw [hd, List.length_drop] at h
        exact h
      have HCd := hide hCd
      clear hv hd hCd
      by_cases hc0 : c1 = xs.length / 2
      all_goals
        have HCe := hide (show Calls Tryd.prog 37 #[if c1 = xs.length / 2 then .slice A1 (xs.length - xs.length / 2) 0 else .slice (A1.map (fun x => x.add (xs.length / 2))) (xs.length - xs.length / 2) (c1 - xs.length / 2)] w2 fun e w' => e = .returned (.bool true) ∧ Below w2.heap.size w2 w' by
          by_cases hc1 : c1 = xs.length / 2
          · have hx0 : xs = [] := List.eq_nil_of_length_eq_zero (by omega)
            rw [if_pos hc1]
            exact HCd.out _ _ (by rw [hx0]; exact Row.nil)
          · rw [if_neg hc1]
            have h := HR2.out.cut (xs.length / 2)
            rw [show xs.length / 2 * (tSlice tInt).size = xs.length / 2 from Nat.mul_one _] at h
            exact HCd.out _ _ h)
        simp only [hc0, if_true, if_false] at HCe
        have Hc0 := hide hc0
        clear hc0
        go_wp2_with fail
        refine HCe.out.mono ?_
        rintro e wd ⟨rfl, hbd⟩
        have HR3 := hide (HR2.out.old hbd); have HB3 := hide (HB2.out.trans (hbd.mono HB2.out.size))
        clear hbd HCd HCe Hc0
        have HOe := hide (Own.empty (T := tAt wd (Old wd) (tSlice tInt)) (e := 23) wd (fun b => wd.heap.size ≤ b) (Nat.le_refl _))
        have HRy := hide (HR3.out.anyAt (W := wd.alloc (.cells #[] 23)) (fun b hb => Below.heap_alloc _ _ _ hb))
        have OBJ3 : ∀ (w3 : World) (v3 : Value), Only (fun b => wd.heap.size ≤ b) wd w3 → Own (tAt wd (Old wd) (tSlice tInt)) 23 w3 (fun b => wd.heap.size ≤ b ∧ Old w3 b) ([] ++ xs) v3 →
            Own (tAt (w3.alloc (.cells #[.int .i64 0] 3)) (fun b => b < wd.heap.size ∨ b = w3.heap.size) (tSlice tInt)) 23 (w3.alloc (.cells #[.int .i64 0] 3)) (fun b => (wd.heap.size ≤ b ∧ b ≠ w3.heap.size) ∧ Old (w3.alloc (.cells #[.int .i64 0] 3)) b) ([] ++ xs) v3 := fun w3 v3 hK hO =>
          (hO.mono (w' := w3.alloc (.cells #[.int .i64 0] 3)) (S2 := fun b => (wd.heap.size ≤ b ∧ b ≠ w3.heap.size) ∧ Old (w3.alloc (.cells #[.int .i64 0] 3)) b) (fun b hb => ⟨⟨hb.1, Nat.ne_of_lt hb.2⟩, Nat.lt_of_lt_of_le hb.2 (by simp)⟩) (fun b hb => Below.heap_alloc _ _ _ hb.2)).reAt
            (fun b hb => .inl hb) (fun b hb => (Below.heap_alloc _ _ _ (Nat.lt_of_lt_of_le hb hK.size)).trans (hK.block b hb (fun h => by have hb' : b < wd.heap.size := hb; omega)))
        have OBJY : ∀ w3 : World, (tSlice tInt).rel (w3.alloc (.cells #[.int .i64 0] 3)) (fun b => b < wd.heap.size ∨ b = w3.heap.size) [0] [.slice (some ⟨w3.heap.size, 0, none⟩) 1 1] := fun w3 => ⟨_, rfl, _, 1, rfl, Nat.le_refl _, by simp [maxLen], fun _ => ⟨_, 0, rfl, .inr rfl, fun k hk => by
          obtain rfl : k = 0 := by simpa using hk
          refine ⟨_, rfl, fun j u hu => ?_⟩
          obtain ⟨hj, rfl⟩ := List.getElem?_eq_some_iff.1 hu
          have hj0 : j = 0 := by simpa using hj
          subst hj0
          rw [(Blk.new w3 _ _).cell]
          rfl⟩⟩
        have HOBJ3 := hide OBJ3
        have HOBJY := hide OBJY
        clear OBJ3 OBJY
        go_wp2_with (first | (at_builtin; refine wpList_cat (tAt wd (Old wd) (tSlice tInt)) rfl (.tmp 27) (.tmp 28) 56 rfl 23 i0 _ 24 Tryd.underlying56 hi hz0 hz1 hz2 rfl Nat.zero_lt_one (fun b => wd.heap.size ≤ b) (fun _ => False) [] xs _ rfl HOe.out _ _ _ rfl rfl HRy.out (fun _ h => h.elim) (fun b hb => Nat.le_trans (by simp) hb) (by simp only [maxLen, List.length_nil]; omega) (by simp only [List.length_nil]; omega) ?_; intro v3 w3 hO_ hK_; have HK3 := hide ((Only.of_alloc (K := fun b => wd.heap.size ≤ b) wd (.cells #[] 23)).trans hK_); have HZO := hide (HOBJ3.out w3 _ HK3.out hO_); have HY := hide (HOBJY.out w3); clear hO_ hK_) | (at_builtin; refine wpList_put (tAt (w3.alloc (.cells #[.int .i64 0] 3)) (fun b => b < wd.heap.size ∨ b = w3.heap.size) (tSlice tInt)) rfl (.tmp 29) (.tmp 31) 56 rfl 23 i0 _ 24 Tryd.underlying56 hi hz0 hz1 hz2 rfl Nat.zero_lt_one (fun b => wd.heap.size ≤ b ∧ b ≠ w3.heap.size) (fun _ => False) ([] ++ xs) [0] [.slice (some ⟨w3.heap.size, 0, none⟩) 1 1] _ rfl HZO.out 1 (show Value.slice (some ⟨w3.heap.size + 1, 0, none⟩) 1 1 = .slice (some ⟨(w3.alloc (.cells #[.int .i64 0] 3)).heap.size, 0, none⟩) 1 1 by simp) HY.out (fun _ h => h.elim) (fun b hb => by have := HK3.out.size; simp at hb; exact ⟨by omega, by omega⟩) (by simp [maxLen]; omega) (by simp; omega) ?_; intro v4 w4 hO_ hK_; have HO4 := hide hO_; have HK4a := hide hK_; have HK4 := hide (HK3.out.trans ((Only.of_alloc (K := fun b => wd.heap.size ≤ b) w3 (.cells #[.int .i64 0] 3)).trans (hK_.mono (fun _ h => h.1)))); clear hO_ hK_))
        obtain ⟨ys, hys⟩ : ∃ ys, ys = [] ++ xs ++ [[(0 : Int)]] := ⟨_, rfl⟩
        have hv4 := HO4.out.slAt (W := w4) (fun b hb => by have := HK3.out.size; have := HK4a.out.size; simp at this; show b < _; omega) (fun b hb => HK4a.out.block b (by have := HK3.out.size; simp; omega) (fun h => by have := HK3.out.size; omega)) (fun b hb => hb.2)
        rw [← hys] at hv4
        have hyl : ys.length ≤ maxLen := by rw [hys]; simp [maxLen]; omega
        have hyf : listsV ys = false := by rw [hys]; exact HE.out _
        obtain ⟨A4, c4, rfl, _, _, hR4⟩ := hv4
        have HC := hide (HI.out ys A4 c4 w4 hyl hR4)
        rw [hyf] at HC
        clear hys hyl hyf hR4
        go_wp2_with (first | (go_at_call 37; refine HC.out.mono ?_; rintro e w5 ⟨rfl, hb5⟩; have HB5 := hide hb5; clear hb5) | (go_at_call 23; refine (HAl.out _).mono ?_; rintro e w6 ⟨rfl, hb6⟩; have HB6 := hide hb6; clear hb6))
        go_ret
        exact ⟨rfl, ((below_only HB3.out HK4.out HB3.out.size (fun i hi => Nat.le_trans HB3.out.size hi)).trans (HB5.out.mono (Nat.le_trans HB3.out.size HK4.out.size))).trans (HB6.out.mono (Nat.le_trans (Nat.le_trans HB3.out.size HK4.out.size) HB5.out.size))⟩
  · clear hA
    go_enter Tryd.func9, Tryd.ntmps9
    go_wp2_with fail
    go_ret
    exact ⟨rfl, Below.refl _ _⟩
end Go.Proofs.YtcfllpgppinofaaDoor
