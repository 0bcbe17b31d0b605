/- The program's TopOrder. -/
import Derived.Test.YtkcobaimcfggjaaGreatDoorCycI
import Derived.Test.YtkcobaimcfggjaaGreatDoorGraph
import Derived.Test.YtkcobaimcfggjaaGreatDoorHold
import Derived.Test.YtkcobaimcfggjaaGreatDoorToA
namespace Go.Proofs.YtkcobaimcfggjaaGreatDoor
open Go.RowKit
set_option linter.unusedVariables false
set_option linter.unusedSimpArgs false

/-- What TopOrder answers. -/
def topR (many : Int) (xs : List Edge) : Option (List Nat × Nat) := if edgesV many xs then topD (edgE xs) many.toNat many.toNat else none
def topL (r : Option (List Nat × Nat)) : List Int := (r.map fun s => s.1.map fun n : Nat => (n : Int)).getD []
theorem topD_none {E : Nat → Nat → Bool} {many k : Nat} (h : topD E many k = none) : ∀ d, topD E many (k + d) = none
  | 0 => h
  | d + 1 => by
    rw [show k + (d + 1) = k + d + 1 by omega, topD, topD_none h d]
    rfl
theorem shr_zero (a j : Nat) (ha : a < 64) : (bits .and .u64 ((a : Int) / 2 ^ j) 1 == 0) = !a.testBit j := by
  rw [shr_and a j ha]
  cases a.testBit j <;> rfl
/-- What stands while the order is gathered. -/
structure Tp (M : Nat → Nat) (w wr : World) (g gO : Nat) (L : List Int) (v : Value) : Prop where
  m : Blk wr g 79 (row6 M)
  o : Own tInt 3 wr (fun b => gO ≤ b ∧ Old wr b) L v
  b : Below w.heap.size w wr
  lt : g < gO
  le : w.heap.size ≤ g
  sz : gO ≤ wr.heap.size
section
variable {M : Nat → Nat} {w wr w' : World} {g gO : Nat} {L : List Int} {v : Value}
theorem Tp.below (h : Tp M w wr g gO L v) (hb : Below wr.heap.size wr w') : Tp M w w' g gO L v :=
  ⟨h.m.below hb h.m.lt, h.o.mono (fun b hb' => ⟨hb'.1, Nat.lt_of_lt_of_le hb'.2 hb.size⟩) (fun b hb' => hb.block b hb'.2), h.b.trans (hb.mono h.b.size), h.lt, h.le, Nat.le_trans h.sz hb.size⟩
theorem Tp.put {L' : List Int} {v' : Value} (h : Tp M w wr g gO L v) (hq : Own tInt 3 w' (fun b => gO ≤ b ∧ Old w' b) L' v') (ho : Only (fun b => gO ≤ b) wr w') : Tp M w w' g gO L' v' :=
  ⟨h.m.of (ho.block _ h.m.lt (by have := h.lt; omega)), hq, below_only h.b ho h.b.size (fun b hb => by have := h.lt; have := h.le; omega), h.lt, h.le, Nat.le_trans h.sz ho.size⟩
end
set_option maxRecDepth 10000 in
set_option maxHeartbeats 4000000 in
theorem implTopOrder (many : Int) (xs : List Edge) (A : Option Addr) (c : Nat) (w : World) (hl : xs.length ≤ maxLen) (hA : Row tEdge w (Old w) A xs) :
    Calls Tryz.prog 14 #[.int .i64 many, .slice A xs.length c] w fun e w' => ∃ v, e = .returned (.tuple #[v, .bool (topR many xs).isSome]) ∧ Own tInt 3 w' (New w w') (topL (topR many xs)) v ∧ Below w.heap.size w w' := by
  obtain ⟨i0, hi, hz0, hz1, hz2⟩ := info_parts infoInt_
  have HE := hide (implEdgesValid many xs A c w hl hA)
  have HL := hide hl
  have HA := hide hA
  clear hl hA
  cases hv : edgesV many xs with
  | false =>
    have HR := hide (show topR many xs = none by unfold topR; rw [hv]; rfl)
    rw [hv] at HE
    clear hv
    rw [HR.out]
    go_enter Tryz.func14, Tryz.ntmps14
    go_wp2_with (go_at_call 60; refine HE.out.mono ?_; rintro e w1 ⟨rfl, hb1⟩)
    go_ret2
    exact ⟨_, rfl, .inl ⟨rfl, rfl⟩, hb1⟩
  | true =>
    have hv2 := hv
    unfold edgesV at hv2
    simp only [Bool.and_eq_true, decide_eq_true_eq] at hv2
    obtain ⟨⟨hv3, _⟩, hv4⟩ := hv2
    obtain ⟨hm0, hm6⟩ := inR_iff.1 hv3
    obtain ⟨n, rfl⟩ : ∃ n : Nat, many = (n : Int) := ⟨many.toNat, by omega⟩
    have hn6 : n ≤ 6 := by omega
    have HR := hide (show topR (n : Int) xs = topD (edgE xs) n n by unfold topR; rw [hv]; rfl)
    have HAl := hide hv4
    have HMl : Hid (∀ i, matOf [1, 2, 3, 4] xs i < 64) := matOf_lt hm6 xs (fun _ => 0) hv4 (fun _ => by decide)
    have HME := hide (show ∀ i j : Nat, (matOf [1, 2, 3, 4] xs i).testBit j = edgE xs i j from fun i j => allOf_bit hv4 i j)
    have HEin := hide (edgE_in hv4)
    have hmk : ∀ W : World, (Instr.makeSlice 30 (.int .i64 0) (.int .i64 (n : Int))).run Tryz.prog W = .ok (.slice (some ⟨W.heap.size, 0, none⟩) 0 n) (W.alloc (.cells (madeCells (Value.cells (.int .i64 0)) (n * 1)) 3)) := fun W => by
      have h := run_make_rowN (P := Tryz.prog) 30 3 i0 _ Tryz.underlying30 hi hz0 .i64 .i64 0 n (Nat.zero_le _) (by rw [hz2]; omega) (by omega) W
      rw [hz1] at h
      exact h
    rw [hv] at HE
    have HMk := hide hmk
    clear hv hv3 hv4 hmk
    generalize edgE xs = E at HR HME HEin
    rw [HR.out]
    clear HR
    go_enter Tryz.func14, Tryz.ntmps14
    go_upto_region 4 with (first | (go_at_call 60; refine HE.out.mono ?_; rintro e w1 ⟨rfl, hb1⟩; have HB1 := hide hb1; clear hb1) | (go_at_call 61; refine (allOf_any n xs A c w1 HL.out (HA.out.old HB1.out) hm6 HAl.out).mono ?_; rintro e w2 ⟨rfl, hb2⟩; have HB2 := hide (HB1.out.trans (hb2.mono HB1.out.size)); clear hb2) | (refine wpList_store_row rfl 79 (.tmp 6) (.tmp 18) rfl w2.heap.size _ rfl rfl 79 _ (Blk.new w2 _ _) infoMat rfl (row6_one _) ?_))
    generalize hW3 : World.setRow _ _ _ = W3
    have HX := hide (show Blk W3 w2.heap.size 79 (row6 (matOf [1, 2, 3, 4] xs)) by rw [← hW3]; exact setRow_heap _ _ _ _ _ _ (Blk.new w2 _ _))
    have HB3 := hide (show Below w.heap.size w W3 by rw [← hW3]; exact setRow_below (HB2.out.alloc HB2.out.size _) HB2.out.size _)
    have HG := hide HB2.out.size
    clear hW3
    generalize matOf [1, 2, 3, 4] xs = M at HX HMl HME ⊢
    generalize w2.heap.size = g at HX HG ⊢
    clear HB1 HB2
    have hmk := HMk.out W3
    have HT0 := hide (show Tp M w (W3.alloc (.cells (madeCells (Value.cells (.int .i64 0)) (n * 1)) 3)) g W3.heap.size [] (.slice (some ⟨W3.heap.size, 0, none⟩) 0 n) from
      ⟨HX.out.alloc _, Own.made (T := tInt) (e := 3) W3 (madeCells (Value.cells (.int .i64 0)) (n * 1)) n (by rw [size_madeCells]; rfl) (by simp only [maxLen]; omega) ⟨Nat.le_refl _, by simp [Old]⟩, HB3.out.alloc HB3.out.size _, HX.out.lt, HG.out, by simp⟩)
    generalize madeCells (Value.cells (.int .i64 0)) (n * 1) = Mc at hmk HT0
    obtain ⟨gO, hgO⟩ : ∃ gO, gO = W3.heap.size := ⟨_, rfl⟩
    clear HX HB3 HMk
    go_wp2_with fail
    clear hmk
    go_loopw [7, 8, 9, 10, 11, 12, 22] (fun v gn _ _ _ _ c wr => ∃ (k : Nat) (s : List Nat × Nat) (vo : Value), vo = v ∧ k ≤ n ∧ c = .int .i64 k ∧ gn = .int .u64 (s.2 : Nat) ∧ Hid (topD E n k = some s) ∧ Hid (Tp M w wr g W3.heap.size (s.1.map fun n : Nat => (n : Int)) v)) (fun _ _ _ _ _ _ c _ => n - (intOf c).toNat)
    case atStart => exact ⟨0, ([], 0), _, rfl, Nat.zero_le _, rfl, rfl, rfl, HT0.out⟩
    case round =>
      obtain ⟨k, s, vo, rfl, hk, rfl, rfl, htd, hT⟩ := hrel
      have HTd := hide htd.out; have HT := hide hT.out
      clear htd hT HT0
      have HOk := hide (topD_ok HEin.out k s HTd.out)
      have hs64 : s.2 < 64 := Nat.lt_pow_two_of_testBit s.2 (n := 6) (fun j hj => by
        rw [HOk.out.bits]
        simp only [decide_eq_false_iff_not]
        intro hm
        have := HOk.out.below j hm
        omega)
      have hsl : s.1.length = k := HOk.out.len
      by_cases hlt : k < n
      · have hki : (k : Int) < (n : Int) := by omega
        obtain ⟨L, gn⟩ := s
        dsimp only at HT hs64 hsl
        go_wp2_with fail
        go_loopw [9, 10, 11, 12] (fun nx ix _ _ wr => ∃ d : Nat, d ≤ n ∧ ix = .int .i64 ((n : Int) - 1 - d) ∧ nx = .int .i64 (nextD E gn n d) ∧ Hid (Tp M w wr g W3.heap.size (L.map fun n : Nat => (n : Int)) vo)) (fun _ ix _ _ _ => ((intOf ix) + 1).toNat)
        case atStart => exact ⟨0, Nat.zero_le _, by go_num, rfl, HT.out⟩
        case round =>
          obtain ⟨d, hd, rfl, rfl, hT⟩ := hrel
          have HT := hide hT.out
          clear hT
          have HNd := hide (show nextD E gn n (d + 1) = if freeK E gn (n - 1 - d) n = true then ((n - 1 - d : Nat) : Int) else nextD E gn n d from rfl)
          obtain ⟨nx, hnx⟩ : ∃ nx, nextD E gn n d = nx := ⟨_, rfl⟩
          have hHn := hide hnx
          rw [hnx] at HNd ⊢
          clear hnx
          by_cases hlt2 : d < n
          · obtain ⟨i, hii⟩ : ∃ i : Nat, i = n - 1 - d := ⟨_, rfl⟩
            have hie : (n : Int) - 1 - (d : Int) = (i : Int) := by omega
            have HI := hide (show i + d + 1 = n by omega)
            rw [← hii] at HNd
            rw [hie]
            have hi6 : i < 6 := by omega
            have hi0 : (0 : Int) ≤ (i : Int) := by omega
            have hsh := shr_zero gn i hs64
            have HF0 := hide (show freeK E gn i 0 = !gn.testBit i by unfold freeK; simp)
            clear hii hie
            rw [← HF0.out] at hsh
            go_wp2_with fail
            go_loopw [11, 12, 36] (fun fr _ c wr => ∃ m : Nat, m ≤ n ∧ c = .int .i64 m ∧ fr = .bool (freeK E gn i m) ∧ Hid (Tp M w wr g W3.heap.size (L.map fun n : Nat => (n : Int)) vo)) (fun _ _ c _ => n - (intOf c).toNat)
            case atStart => exact ⟨0, Nat.zero_le _, rfl, rfl, HT.out⟩
            case round =>
              obtain ⟨m, hm, rfl, rfl, hT⟩ := hrel
              have HT3 := hide hT.out
              clear hT HT hsh HF0
              by_cases hlt3 : m < n
              · have hmi : (m : Int) < (n : Int) := by omega
                have hm6' : m < 6 := by omega
                have HS := hide (freeK_succ E gn i m)
                cases hf : freeK E gn i m with
                | false =>
                  rw [hf] at HS
                  have HS2 := hide (show freeK E gn i (m + 1) = false from HS.out)
                  clear hf HS
                  go_wp2_with fail
                  go_roundw
                  case rel => exact ⟨m + 1, by omega, by go_num, by rw [HS2.out], HT3.out⟩
                  case measure => simp [intOf]; omega
                | true =>
                  rw [hf] at HS
                  have hsh2 := shr_eq gn m hs64
                  cases hg : gn.testBit m with
                  | true =>
                    rw [hg] at HS hsh2
                    have HS2 := hide (show freeK E gn i (m + 1) = true from HS.out)
                    clear hf HS hg
                    go_wp2_with fail
                    go_roundw
                    case rel => exact ⟨m + 1, by omega, by go_num, by rw [HS2.out], HT3.out⟩
                    case measure => simp [intOf]; omega
                  | false =>
                    rw [hg] at HS hsh2
                    cases he : E m i with
                    | false =>
                      rw [he] at HS
                      have HS2 := hide (show freeK E gn i (m + 1) = true from HS.out)
                      have HQ := hide (show (M m).testBit i = false from (HME.out m i).trans he)
                      clear hf HS hg he
                      have m0 := (HT3.out.m.cell 0).trans (row6_get M 0 (by decide))
                      have m1 := (HT3.out.m.cell 1).trans (row6_get M 1 (by decide))
                      have m2 := (HT3.out.m.cell 2).trans (row6_get M 2 (by decide))
                      have m3 := (HT3.out.m.cell 3).trans (row6_get M 3 (by decide))
                      have m4 := (HT3.out.m.cell 4).trans (row6_get M 4 (by decide))
                      have m5 := (HT3.out.m.cell 5).trans (row6_get M 5 (by decide))
                      go_wp2_with (first | (go_at_call 62; refine (has_ M m i hm6' hi6 (HMl.out _) _).mono ?_; rintro e w4 ⟨rfl, hb4⟩; have HT4 := hide (HT3.out.below hb4); clear hb4; rw [HQ.out]))
                      go_roundw
                      case rel => exact ⟨m + 1, by omega, by go_num, by rw [HS2.out], HT4.out⟩
                      case measure => simp [intOf]; omega
                    | true =>
                      rw [he] at HS
                      have HS2 := hide (show freeK E gn i (m + 1) = false from HS.out)
                      have HQ := hide (show (M m).testBit i = true from (HME.out m i).trans he)
                      clear hf HS hg he
                      have m0 := (HT3.out.m.cell 0).trans (row6_get M 0 (by decide))
                      have m1 := (HT3.out.m.cell 1).trans (row6_get M 1 (by decide))
                      have m2 := (HT3.out.m.cell 2).trans (row6_get M 2 (by decide))
                      have m3 := (HT3.out.m.cell 3).trans (row6_get M 3 (by decide))
                      have m4 := (HT3.out.m.cell 4).trans (row6_get M 4 (by decide))
                      have m5 := (HT3.out.m.cell 5).trans (row6_get M 5 (by decide))
                      go_wp2_with (first | (go_at_call 62; refine (has_ M m i hm6' hi6 (HMl.out _) _).mono ?_; rintro e w4 ⟨rfl, hb4⟩; have HT4 := hide (HT3.out.below hb4); clear hb4; rw [HQ.out]))
                      go_roundw
                      case rel => exact ⟨m + 1, by omega, by go_num, by rw [HS2.out], HT4.out⟩
                      case measure => simp [intOf]; omega
              · have hmn : ¬ (m : Int) < (n : Int) := by omega
                have HM := hide (show m = n by omega)
                cases hf : freeK E gn i m with
                | true =>
                  have HN2 := hide (show nextD E gn n (d + 1) = (i : Int) by rw [HNd.out, ← HM.out, hf, if_pos rfl])
                  clear hf
                  go_wp2_with fail
                  go_roundw
                  case rel => exact ⟨d + 1, by omega, by have := HI.out; first | go_num | (congr 1; omega), by rw [HN2.out], HT3.out⟩
                  case measure => have := HI.out; simp [intOf] <;> omega
                | false =>
                  have HN2 := hide (show nextD E gn n (d + 1) = nx by rw [HNd.out, ← HM.out, hf, if_neg (by simp)])
                  clear hf
                  go_wp2_with fail
                  go_roundw
                  case rel => exact ⟨d + 1, by omega, by have := HI.out; first | go_num | (congr 1; omega), by rw [HN2.out], HT3.out⟩
                  case measure => have := HI.out; simp [intOf] <;> omega
          · have hdn : d = n := by omega
            have hie : (n : Int) - 1 - (d : Int) = -1 := by omega
            rw [hie]
            have HSp := hide (nextD_spec E gn n n (Nat.le_refl _))
            have HTk := hide (show topD E n (k + 1) = if nextD E gn n n < 0 then none else some (L ++ [(nextD E gn n n).toNat], gn ||| 2 ^ (nextD E gn n n).toNat) by rw [topD, HTd.out]; rfl)
            have HNx := hide (show nextD E gn n n = nx by rw [← hHn.out, hdn])
            rw [HNx.out] at HSp HTk
            clear hdn HNd hie hlt2
            rcases HSp.out with ⟨rfl, _⟩ | ⟨i, rfl, _, hin, _⟩
            · have HR1 := hide (show topD E n n = none by
                have h1 : topD E n (k + 1) = none := HTk.out
                have h2 := topD_none h1 (n - (k + 1))
                rwa [show k + 1 + (n - (k + 1)) = n by omega] at h2)
              clear HTk HSp
              go_wp2_with fail
              go_ret2
              exact ⟨_, by rw [HR1.out]; rfl, by rw [HR1.out]; exact .inl ⟨rfl, rfl⟩, HT.out.b⟩
            · have HTk2 := hide (show topD E n (k + 1) = some (L ++ [i], gn ||| 2 ^ i) by rw [HTk.out, if_neg (by omega), Int.toNat_natCast])
              have hi6 : i < 6 := by omega
              have hi0 : ¬ (i : Int) < 0 := by omega
              have hor := or_shl gn i hs64 hi6
              have hLl : (L.map fun n : Nat => (n : Int)).length ≤ 6 := by rw [List.length_map]; omega
              have HMp := hide (show (L ++ [i]).map (fun n : Nat => (n : Int)) = L.map (fun n : Nat => (n : Int)) ++ [(i : Int)] by simp)
              generalize L.map (fun n : Nat => (n : Int)) = LI at HT hLl HMp
              clear HTk HSp
              go_wp2_with (at_builtin; refine wpList_put tInt rfl (.tmp 59) (.tmp 61) 30 rfl 3 i0 _ 8 Tryz.underlying30 hi hz0 hz1 hz2 rfl (by decide) (fun b => W3.heap.size ≤ b) (fun _ => False) LI (i : Int) [.int .i64 (i : Int)] _ rfl HT.out.o 1 rfl rfl (fun _ h => h.elim) (fun b hb => Nat.le_trans HT.out.sz hb) (by simp only [maxLen]; omega) (by omega) ?_; intro v6 w6 hO_ hK_; have HT6 := hide (HT.out.put hO_ hK_); clear hO_ hK_)
              go_roundw
              case rel => exact ⟨k + 1, (L ++ [i], gn ||| 2 ^ i), _, rfl, by omega, by go_num, rfl, HTk2.out, by rw [HMp.out]; exact HT6.out⟩
              case measure => simp [intOf]; omega
      · have HK := hide (show k = n by omega)
        have hkn : ¬ (k : Int) < (n : Int) := by omega
        rw [HK.out] at HTd
        have HR1 := hide (show (topD E n n).isSome = true by rw [HTd.out]; rfl)
        have HR2 := hide (show topL (topD E n n) = s.1.map (fun n : Nat => (n : Int)) by rw [HTd.out]; rfl)
        clear HTd
        go_wp2_with fail
        go_ret2
        exact ⟨_, by rw [HR1.out]; rfl, by rw [HR2.out]; exact HT.out.o.mono (fun b h => ⟨Nat.le_trans HT.out.le (Nat.le_trans (Nat.le_of_lt HT.out.lt) h.1), h.2⟩) (fun _ _ => rfl), HT.out.b⟩
end Go.Proofs.YtkcobaimcfggjaaGreatDoor
