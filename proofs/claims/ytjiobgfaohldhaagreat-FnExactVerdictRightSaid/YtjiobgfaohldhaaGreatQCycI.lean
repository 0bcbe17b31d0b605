/- The program's reach and around: the closure of a matrix, and whether a number reaches itself. slices.Repeat([]int{-1}, 6). A queue of numbers: a slice of the call's own whose front is cut off. The program's back: a shortest way back to a number. The program's CycleOf and TopOrder. -/
import Derived.Test.YtjiobgfaohldhaaGreatQGraph
import Derived.Test.YtjiobgfaohldhaaGreatQAllF
import Derived.Test.YtjiobgfaohldhaaGreatQToA
import Derived.Laws.CopyOwn
import Derived.Deep.RegionLaw
namespace Go.Proofs.YtjiobgfaohldhaaGreat
open Go.RowKit
set_option linter.unusedVariables false
set_option linter.unusedSimpArgs false

theorem or_u64' (a b : Nat) (ha : a < 64) (hb : b < 64) : bits .or .u64 (a : Int) (b : Int) = ((a ||| b : Nat) : Int) := u64_or_nat a b (by omega) (by omega)
theorem wPart_keep {M : Nat → Nat} {k n : Nat} (h : (M n).testBit k = false) : wPart M k (n + 1) = wPart M k n := by
  rw [wPart_succ]
  funext i
  by_cases hi : i = n
  · subst hi
    rw [if_pos rfl, wPart_at]
    unfold wRow
    rw [h]; rfl
  · rw [if_neg hi]
theorem wPart_hit {M : Nat → Nat} {k n : Nat} (h : (M n).testBit k = true) : wPart M k (n + 1) = fun i => if i = n then M n ||| M k else wPart M k n i := by
  rw [wPart_succ]
  funext i
  by_cases hi : i = n
  · subst hi
    rw [if_pos rfl, if_pos rfl]
    unfold wRow
    rw [h]; rfl
  · rw [if_neg hi, if_neg hi]
theorem wPart_zero (M : Nat → Nat) (k : Nat) : wPart M k 0 = M := by funext i; unfold wPart; rw [if_neg (Nat.not_lt_zero i)]
theorem row6_ext {M N : Nat → Nat} (h : ∀ i, i < 6 → M i = N i) : row6 M = row6 N := by
  unfold row6
  rw [h 0 (by decide), h 1 (by decide), h 2 (by decide), h 3 (by decide), h 4 (by decide), h 5 (by decide)]
theorem wPart_six (M : Nat → Nat) (k : Nat) : row6 (wPart M k 6) = row6 (wRow M k) := row6_ext fun i hi => by unfold wPart; rw [if_pos hi]
set_option maxRecDepth 10000 in
set_option maxHeartbeats 1000000 in
theorem reach_any (M : Nat → Nat) (w : World) (hM : ∀ i, M i < 64) :
    Calls Tryz.prog 85 #[.agg (row6 M)] w fun e w' => e = .returned (.agg (row6 (wN M 6))) ∧ Below w.heap.size w w' := by
  have HM := hide hM
  clear hM
  have HB0 := hide (((Below.refl _ w).alloc (Nat.le_refl _) (.cells (row6 M) 105)).alloc (by simp) (.cells (row6 (fun _ => 0)) 105))
  go_enter Tryz.func85, Tryz.ntmps85
  go_wp2
  go_loopw [3, 4, 5] (fun _ _ c wr => ∃ k : Nat, k ≤ 6 ∧ c = .int .i64 k ∧ Hid (Blk wr w.heap.size 105 (row6 (wN M k))) ∧ Hid (Blk wr (w.heap.size + 1) 105 (row6 (fun _ => 0))) ∧ Hid (Below w.heap.size w wr)) (fun _ _ c _ => 6 - (intOf c).toNat)
  case atStart => exact ⟨0, Nat.zero_le _, rfl, heap_alloc2_old _ _ _, heap_alloc2_new _ _ _, ((Below.refl _ _).alloc (Nat.le_refl _) _).alloc (by simp) _⟩
  case round =>
    obtain ⟨k, hk, rfl, h4, h5, hb⟩ := hrel
    have H4 := hide h4.out; have H5 := hide h5.out; have HB := hide hb.out
    clear h4 h5 hb HB0
    have HL := hide (wN_lt HM.out k)
    have HN := hide (show wN M (k + 1) = wRow (wN M k) k from rfl)
    by_cases hlt : k < 6
    · have hki : (k : Int) < 6 := by omega
      generalize wN M k = R at H4 HL HN
      go_wp2_with fail
      go_loopw [4, 8] (fun _ c wr => ∃ n : Nat, n ≤ 6 ∧ c = .int .i64 n ∧ Hid (Blk wr w.heap.size 105 (row6 (wPart R k n))) ∧ Hid (Blk wr (w.heap.size + 1) 105 (row6 (fun _ => 0))) ∧ Hid (Below w.heap.size w wr)) (fun _ c _ => 6 - (intOf c).toNat)
      case atStart => exact ⟨0, Nat.zero_le _, rfl, by rw [wPart_zero]; exact H4.out, H5.out, HB.out⟩
      case round =>
        obtain ⟨n, hn, rfl, h4, h5, hb⟩ := hrel
        have H6 := hide h4.out; have H7 := hide h5.out; have HB2 := hide hb.out
        clear h4 h5 hb H4 H5 HB
        by_cases hlt2 : n < 6
        · have hni : (n : Int) < 6 := by omega
          have hcn := (H6.out.cell n).trans (row6_get _ n hlt2)
          have hck := (H6.out.cell k).trans (row6_get _ k hlt)
          rw [wPart_at] at hcn
          rw [wPart_self] at hck
          have hfn := H6.out.frozen n
          have hsh := shr_eq (R n) k (HL.out n)
          have hor := or_u64' (R n) (R k) (HL.out n) (HL.out k)
          cases hq : (R n).testBit k with
          | true =>
            rw [hq] at hsh
            have HS := hide (show (row6 (wPart R k n)).setIfInBounds n (.int .u64 ((R n ||| R k : Nat) : Nat)) = row6 (wPart R k (n + 1)) by rw [wPart_hit hq, row6_set _ _ n hlt2])
            clear hq
            go_wp2_with fail
            go_still_tail 8, (by kernel_rfl)
            change wpList _ _ _ _ _ wr.drew
            obtain ⟨W2, hW2⟩ : ∃ W2, wr.drew = W2 := ⟨_, rfl⟩
            have H62 := hide (show Blk W2 w.heap.size 105 (row6 (wPart R k n)) by rw [← hW2]; exact H6.out)
            have H72 := hide (show Blk W2 (w.heap.size + 1) 105 (row6 (fun _ => 0)) by rw [← hW2]; exact H7.out)
            have HB3 := hide (show Below w.heap.size w W2 by rw [← hW2]; exact HB2.out.drew)
            rw [hW2]
            have hcn2 := (H62.out.cell n).trans (row6_get _ n hlt2)
            have hck2 := (H62.out.cell k).trans (row6_get _ k hlt)
            rw [wPart_at] at hcn2
            rw [wPart_self] at hck2
            have hfn2 := H62.out.frozen n
            clear hW2 hcn hck hfn
            go_wp2_with fail
            go_roundw
            case rel => exact ⟨n + 1, by omega, by go_num, by rw [← HS.out]; exact H62.out.set_ n _, H72.out.far (by simp) _, Below.setCell HB3.out (by simp) _⟩
            case measure => simp [intOf]; omega
          | false =>
            rw [hq] at hsh
            have HS := hide (wPart_keep hq)
            clear hq
            go_wp2_with fail
            go_roundw
            case rel => exact ⟨n + 1, by omega, by go_num, by rw [HS.out]; exact H6.out, H7.out, HB2.out⟩
            case measure => simp [intOf]; omega
        · obtain rfl : n = 6 := by omega
          have H8 := hide (show Blk wr w.heap.size 105 (row6 (wN M (k + 1))) by rw [HN.out, ← wPart_six]; exact H6.out)
          go_wp2_with fail
          go_roundw
          case rel => exact ⟨k + 1, by omega, by go_num, H8.out, H7.out, HB2.out⟩
          case measure => simp [intOf]; omega
    · obtain rfl : k = 6 := by omega
      go_wp2_with (first | (refine wpList_load_row rfl 105 (.tmp 1) rfl w.heap.size rfl 105 _ (0, 0) _ H4.out Tryz.underlying105 rfl infoMat ?_) | (refine wpList_store_row rfl 105 (.tmp 2) (.tmp 28) rfl (w.heap.size + 1) _ rfl rfl 105 _ H5.out infoMat rfl (row6_one _) ?_))
      exact bodyPost_ret (results_cell_row rfl _ _ (w.heap.size + 1) 105 _ (0, 0) _ rfl (setRow_heap _ _ _ _ _ _ H5.out) Tryz.underlying105 rfl infoMat) rfl ⟨rfl, setRow_below HB.out (by omega) _⟩
set_option maxHeartbeats 1000000 in
theorem mul64_16 (w : World) : Calls Tryz.prog 165 #[.int .u64 1, .int .u64 6] w fun e w' => e = .returned (.tuple #[.int .u64 0, .int .u64 6]) ∧ w = w' := by
  go_enter Tryz.func165, Tryz.ntmps165
  go_wp2
  go_ret2
  exact ⟨by kernel_rfl, rfl⟩
set_option maxHeartbeats 1000000 in
theorem mul_16 (w : World) : Calls Tryz.prog 143 #[.int .u64 1, .int .u64 6] w fun e w' => e = .returned (.tuple #[.int .u64 0, .int .u64 6]) ∧ w = w' := by
  go_enter Tryz.func143, Tryz.ntmps143
  go_wp2_with (go_at_call 165; refine (mul64_16 _).mono ?_; rintro e w' ⟨rfl, rfl⟩)
  go_ret2
  exact ⟨rfl, rfl⟩
def rowN (n : Nat) : List Value := List.replicate n (.int .i64 (-1)) ++ List.replicate (6 - n) (.int .i64 0)
theorem made6 : madeCells (Value.cells (.int .i64 0)) (6 * 1) = (rowN 0).toArray := by kernel_rfl
theorem one_src {W : World} {g : Nat} {u : Value} (h : W.cell? ⟨g, 0, none⟩ = some u) (j : Nat) (v : Value) (hj : [u][j]? = some v) : W.cell? ((⟨g, 0, none⟩ : Addr).add j) = some v := by
  match j, hj with
  | 0, hj =>
    have : u = v := by simpa using hj
    subst this
    rw [Go.WideShapes.add_plain]
    exact h
  | j + 1, hj => cases hj
theorem row_src {W : World} {g n : Nat} {cs : List Value} (h : Blk W g 3 (rowN n).toArray) (hc : cs = (rowN n).take cs.length) (j : Nat) (v : Value) (hj : cs[j]? = some v) : W.cell? ((⟨g, 0, none⟩ : Addr).add j) = some v := by
  rw [Go.WideShapes.add_plain, h.cell]
  rw [hc, List.getElem?_take] at hj
  split at hj
  · simpa using hj
  · cases hj
theorem size_int1 : (Tryz.prog.info? 3).map (·.size) = some 1 := by kernel_rfl
set_option maxRecDepth 10000 in
set_option maxHeartbeats 2000000 in
theorem repeat_six (g c : Nat) (w : World) (hB : Blk w g 3 #[.int .i64 (-1)]) :
    Calls Tryz.prog 123 #[.slice (some ⟨g, 0, none⟩) 1 c, .int .i64 6] w fun e w' => e = .returned (.slice (some ⟨w.heap.size, 0, none⟩) 6 6) ∧ Blk w' w.heap.size 3 (rowN 6).toArray ∧ Below w.heap.size w w' := by
  obtain ⟨i0, hi, hz0, hz1, hz2⟩ := info_parts infoInt_
  have hmk : ∀ W : World, (Instr.makeSlice 23 (.int .i64 6) (.int .i64 6)).run Tryz.prog W = .ok (.slice (some ⟨W.heap.size, 0, none⟩) 6 6) (W.alloc (.cells (rowN 0).toArray 3)) := fun W => by
    have h := run_make_rowN (P := Tryz.prog) 23 3 i0 (.int .i64 0) Tryz.underlying23 hi hz0 .i64 .i64 6 6 (Nat.le_refl _) (by rw [hz2]; omega) (by omega) W
    rw [hz1, made6] at h
    exact h
  have HB := hide hB
  have hmk := hmk w
  have HBw := hide ((Below.refl _ w).alloc (Nat.le_refl _) (.cells (rowN 0).toArray 3))
  have HBk := hide (Blk.new w 3 (rowN 0).toArray)
  have hg : g < w.heap.size := hB.lt
  have hcg := (hB.alloc (.cells (rowN 0).toArray 3)).cell 0
  simp only [List.getElem?_toArray, List.getElem?_cons_zero] at hcg
  clear hB
  go_enter Tryz.func123, Tryz.ntmps123
  go_upto_region 7 with (go_at_call 143; refine (mul_16 _).mono ?_; rintro e w' ⟨rfl, rfl⟩)
  generalize hW : w.alloc (.cells (rowN 0).toArray 3) = W at HBw HBk hcg ⊢
  go_wp2_with (refine wpList_copy_splice rfl (.tmp 31) (.tmp 32) 23 23 rfl 3 Tryz.underlying23 size_int1 (some ⟨w.heap.size, 0, none⟩) (some ⟨g, 0, none⟩) 6 6 1 c rfl rfl w.heap.size 0 (rowN 0) 3 HBk.out [.int .i64 (-1)] rfl (fun _ => ⟨rfl, ⟨g, 0, none⟩, rfl, one_src hcg⟩) (by decide) (by decide) w.heap.size w HBw.out (Nat.le_refl _) ?_; intro w4 hg4 hb4; have HG4 := hide hg4.out; have HB4 := hide hb4; clear hg4 hb4)
  go_loopw [8] (fun c wr => ∃ n : Nat, (n = 1 ∨ n = 2 ∨ n = 4 ∨ n = 6) ∧ c = .int .i64 n ∧ Hid (Blk wr w.heap.size 3 (rowN n).toArray) ∧ Hid (Below w.heap.size w wr)) (fun c _ => 6 - (intOf c).toNat)
  case atStart => exact ⟨1, .inl rfl, rfl, HG4.out, HB4.out⟩
  case round =>
    obtain ⟨n, hn, rfl, hk, hb⟩ := hrel
    have HK := hide hk.out; have HBr := hide hb.out
    clear hk hb HG4 HB4 HBw HBk
    rcases hn with rfl | rfl | rfl | rfl
    · have HS := hide (show (splice (rowN 1) 1 [.int .i64 (-1)]).toArray = (rowN 2).toArray by kernel_rfl)
      have HL := hide (show 1 + ([.int .i64 (-1)] : List Value).length ≤ (rowN 1).length by decide)
      have HO := hide (show ∀ v ∈ ([.int .i64 (-1)] : List Value), v.oneCell' = true by decide)
      have HK2 := hide (show Blk wr.drew w.heap.size 3 (rowN 1).toArray from HK.out)
      have HBr2 := hide (show Below w.heap.size w wr.drew from HBr.out.drew)
      have HSr := hide (row_src (cs := [.int .i64 (-1)]) HK2.out rfl)
      go_wp2_with fail
      generalize rowN 1 = R at HK2 HS HL
      go_region_law (refine step_copy_splice rfl (.tmp 41) (.tmp 44) 23 23 rfl 3 Tryz.underlying23 size_int1 (some ⟨w.heap.size, 1, none⟩) (some ⟨w.heap.size, 0, none⟩) 5 5 1 6 (by simp [Act.eval, Act.put]) (by simp [Act.eval, Act.put]) w.heap.size 1 R 3 HK2.out [.int .i64 (-1)] rfl (fun _ => ⟨rfl, ⟨w.heap.size, 0, none⟩, rfl, HSr.out⟩) HL.out HO.out w.heap.size w HBr2.out (Nat.le_refl _) ?_; intro w4 hg4 hb4; have HG4 := hide hg4.out; have HB4 := hide hb4; clear hg4 hb4; rw [HS.out] at HG4)
      go_simp
      rw [show IntKind.i64.wrap 2 = 2 from by decide]
      go_roundw
      case rel => exact ⟨_, _, _, _, _, _, _, _, _, _, _, _, _, _, ⟨2, .inr (.inl rfl), rfl, HG4.out, HB4.out⟩, rfl⟩
      case measure => simp [intOf]
    · have HS := hide (show (splice (rowN 2) 2 [.int .i64 (-1), .int .i64 (-1)]).toArray = (rowN 4).toArray by kernel_rfl)
      have HL := hide (show 2 + ([.int .i64 (-1), .int .i64 (-1)] : List Value).length ≤ (rowN 2).length by decide)
      have HO := hide (show ∀ v ∈ ([.int .i64 (-1), .int .i64 (-1)] : List Value), v.oneCell' = true by decide)
      have HK2 := hide (show Blk wr.drew w.heap.size 3 (rowN 2).toArray from HK.out)
      have HBr2 := hide (show Below w.heap.size w wr.drew from HBr.out.drew)
      have HSr := hide (row_src (cs := [.int .i64 (-1), .int .i64 (-1)]) HK2.out rfl)
      go_wp2_with fail
      generalize rowN 2 = R at HK2 HS HL
      go_region_law (refine step_copy_splice rfl (.tmp 41) (.tmp 44) 23 23 rfl 3 Tryz.underlying23 size_int1 (some ⟨w.heap.size, 2, none⟩) (some ⟨w.heap.size, 0, none⟩) 4 4 2 6 (by simp [Act.eval, Act.put]) (by simp [Act.eval, Act.put]) w.heap.size 2 R 3 HK2.out [.int .i64 (-1), .int .i64 (-1)] rfl (fun _ => ⟨rfl, ⟨w.heap.size, 0, none⟩, rfl, HSr.out⟩) HL.out HO.out w.heap.size w HBr2.out (Nat.le_refl _) ?_; intro w4 hg4 hb4; have HG4 := hide hg4.out; have HB4 := hide hb4; clear hg4 hb4; rw [HS.out] at HG4)
      go_simp
      rw [show IntKind.i64.wrap 4 = 4 from by decide]
      go_roundw
      case rel => exact ⟨_, _, _, _, _, _, _, _, _, _, _, _, _, _, ⟨4, .inr (.inr (.inl rfl)), rfl, HG4.out, HB4.out⟩, rfl⟩
      case measure => simp [intOf]
    · have HS := hide (show (splice (rowN 4) 4 [.int .i64 (-1), .int .i64 (-1)]).toArray = (rowN 6).toArray by kernel_rfl)
      have HL := hide (show 4 + ([.int .i64 (-1), .int .i64 (-1)] : List Value).length ≤ (rowN 4).length by decide)
      have HO := hide (show ∀ v ∈ ([.int .i64 (-1), .int .i64 (-1)] : List Value), v.oneCell' = true by decide)
      have HK2 := hide (show Blk wr.drew w.heap.size 3 (rowN 4).toArray from HK.out)
      have HBr2 := hide (show Below w.heap.size w wr.drew from HBr.out.drew)
      have HSr := hide (row_src (cs := [.int .i64 (-1), .int .i64 (-1)]) HK2.out rfl)
      go_wp2_with fail
      generalize rowN 4 = R at HK2 HS HL
      go_region_law (refine step_copy_splice rfl (.tmp 41) (.tmp 44) 23 23 rfl 3 Tryz.underlying23 size_int1 (some ⟨w.heap.size, 4, none⟩) (some ⟨w.heap.size, 0, none⟩) 2 2 4 6 (by simp [Act.eval, Act.put]) (by simp [Act.eval, Act.put]) w.heap.size 4 R 3 HK2.out [.int .i64 (-1), .int .i64 (-1)] rfl (fun _ => ⟨rfl, ⟨w.heap.size, 0, none⟩, rfl, HSr.out⟩) HL.out HO.out w.heap.size w HBr2.out (Nat.le_refl _) ?_; intro w4 hg4 hb4; have HG4 := hide hg4.out; have HB4 := hide hb4; clear hg4 hb4; rw [HS.out] at HG4)
      go_simp
      rw [show IntKind.i64.wrap 6 = 6 from by decide]
      go_roundw
      case rel => exact ⟨_, _, _, _, _, _, _, _, _, _, _, _, _, _, ⟨6, .inr (.inr (.inr rfl)), rfl, HG4.out, HB4.out⟩, rfl⟩
      case measure => simp [intOf]
    · go_wp2_with fail
      go_ret
      exact ⟨rfl, HK.out, HBr.out⟩
/-- A slice of the call's own that may begin anywhere in its block. -/
def Que (e : TypeId) (w : World) (S : Nat → Prop) (q : List Int) (v : Value) : Prop :=
  ∃ g off cap cur, v = .slice (some ⟨g, off, none⟩) q.length cap ∧ S g ∧ Blk w g e cur ∧ q.length ≤ cap ∧ cap ≤ maxLen ∧ off + cap ≤ cur.size ∧ ∀ j (hj : j < q.length), cur[off + j]? = some (.int .i64 q[j])
theorem Que.mono {e : TypeId} {w w' : World} {S S2 : Nat → Prop} {q : List Int} {v : Value} (h : Que e w S q v) (h1 : ∀ b, S b → S2 b) (h2 : ∀ b, S b → w'.heap[b]? = w.heap[b]?) : Que e w' S2 q v := by
  obtain ⟨g, off, cap, cur, rfl, hg, hB, h3, h4, h5, h6⟩ := h
  exact ⟨g, off, cap, cur, rfl, h1 g hg, hB.of (h2 g hg), h3, h4, h5, h6⟩
theorem Que.empty {e : TypeId} (w : World) {S : Nat → Prop} (hS : S w.heap.size) : Que e (w.alloc (.cells #[] e)) S [] (.slice (some ⟨w.heap.size, 0, none⟩) 0 0) :=
  ⟨_, 0, 0, #[], rfl, hS, Blk.new _ _ _, Nat.le_refl _, by simp [maxLen], by simp, fun j hj => absurd hj (by simp)⟩
/-- The first number, and what is left behind 'q[1:]'. -/
theorem Que.pop {e : TypeId} {w : World} {S : Nat → Prop} {x : Int} {q : List Int} {v : Value} (h : Que e w S (x :: q) v) :
    ∃ g off cap, v = .slice (some ⟨g, off, none⟩) (q.length + 1) (cap + 1) ∧ q.length ≤ cap ∧ cap + 1 ≤ maxLen ∧ w.cell? ⟨g, off, none⟩ = some (.int .i64 x) ∧ Que e w S q (.slice (if cap = 0 then some ⟨g, off, none⟩ else some ⟨g, off + 1, none⟩) q.length cap) := by
  obtain ⟨g, off, cap, cur, rfl, hg, hB, h3, h4, h5, h6⟩ := h
  simp only [List.length_cons] at h3
  obtain ⟨c, rfl⟩ : ∃ c, cap = c + 1 := ⟨cap - 1, by omega⟩
  refine ⟨g, off, c, rfl, by omega, h4, ?_, ?_⟩
  · rw [hB.cell]
    have := h6 0 (by simp)
    simpa using this
  · by_cases h0 : c = 0
    · subst h0
      have hq : q = [] := List.eq_nil_of_length_eq_zero (by omega)
      subst hq
      rw [if_pos rfl]
      exact ⟨g, off, 0, cur, rfl, hg, hB, by simp, by simp [maxLen], by omega, fun j hj => absurd hj (by simp)⟩
    · rw [if_neg h0]
      refine ⟨g, off + 1, c, cur, rfl, hg, hB, by omega, by omega, by omega, fun j hj => ?_⟩
      have := h6 (j + 1) (by simpa using hj)
      rw [show off + 1 + j = off + (j + 1) by omega]
      simpa using this
section
variable {P : Program}
theorem wpList_que {w : World} {ops : Array Oper} {rest : List Oper} {o : Oper} {a : Act} {Q : Exit → Act → World → Prop} (hgd : Region.wanted o (yielded ops a.tmps) = true) (s x : Operand) (t : TypeId)
    (ho : o.op = .call { callee := .builtin .append, args := #[s, x], argTypes := #[t, t] })
    (e : TypeId) (i : TypeInfo) (z : Value) (bytes : Nat) (ht : P.underlying t = some (.slice e)) (hi : P.info? e = some i) (hz : i.zero = some z)
    (hsize : i.size = 1) (hby : i.bytes = bytes) (hzs : z.cells.size = 1)
    (K : Nat → Prop) (q : List Int) (y : Int) (v : Value) (hs : a.eval s = v) (hO : Que e w (fun b => K b ∧ Old w b) q v) (c : Nat) (hx : a.eval x = .slice (some ⟨w.heap.size, 0, none⟩) 1 c)
    (hK : ∀ b, w.heap.size ≤ b → K b)
    (h63 : q.length + 1 ≤ maxLen) (hbytes : (q.length + 1) * bytes ≤ 140737488355328)
    (h : ∀ v' w', Que e w' (fun b => K b ∧ Old w' b) (q ++ [y]) v' → Only K w w' → wpList P ops Q rest (a.put o.dst v') w') : wpList P ops Q (o :: rest) a (w.alloc (.cells #[.int .i64 y] e)) := by
  obtain ⟨g, off, cap, cur, rfl, hg, hB, h3, h4, h5, h6⟩ := hO
  have hB2 := hB.alloc (.cells #[.int .i64 y] e)
  have hN := Blk.new w e #[.int .i64 y]
  have hnews : ∀ (j : Nat) (u : Value), [Value.int .i64 y][j]? = some u → (w.alloc (.cells #[.int .i64 y] e)).cell? ((⟨w.heap.size, 0, none⟩ : Addr).add j) = some u := fun j u hj => by
    obtain ⟨hj0, rfl⟩ := List.getElem?_eq_some_iff.1 hj
    have : j = 0 := by simpa using hj0
    subst this
    rw [Go.WideShapes.add_plain]
    exact hN.cell 0
  have hlt := hB.lt
  refine BigFrame.wpList_want hgd fun K' hK' => ?_
  unfold Oper.wp execOp
  by_cases hroom : q.length + 1 ≤ cap
  · have hrun := run_append_room_cells (P := P) (w.alloc (.cells #[.int .i64 y] e)) t o.type e i ht hi g off q.length cap ⟨w.heap.size, 0, none⟩ 1 c [.int .i64 y] (by rw [hsize]; rfl) hnews
      (fun u hu => by simp at hu; subst hu; rfl) hroom
      (fun j hj => by
        have : j = 0 := by simpa using hj
        subst this
        rw [hsize, hB2.cell, Array.getElem?_eq_getElem (by omega)]; rfl)
      (fun j hj => hB2.frozen _)
    simp only [ho, resolve, invoke, builtin, Sem.run_bind, Sem.run_pure, Result.andThen_ok, List.map_toArray, List.map_cons, List.map_nil, hs, hx, hrun]
    refine hK' _ _ ?_
    have e1 : (w.alloc (.cells #[.int .i64 y] e)).setCells g (off + q.length * i.size) [.int .i64 y] = (w.alloc (.cells #[.int .i64 y] e)).setCell ⟨g, off + q.length, none⟩ (.int .i64 y) := by
      rw [hsize]; simp [World.setCells]
    rw [e1]
    refine h _ _ ⟨g, off, cap, cur.setIfInBounds (off + q.length) (.int .i64 y), by simp, ⟨hg.1, by have := hg.2; simp only [Old, World.size_setCell, World.size_alloc] at this ⊢; omega⟩, hB2.set_ _ _, by simpa using hroom, h4, by simpa using h5, fun j hj => ?_⟩ ((Only.of_alloc w _).setCell hg.1 _)
    simp only [List.length_append, List.length_singleton] at hj
    by_cases hjq : j < q.length
    · rw [Array.getElem?_setIfInBounds_ne (by omega), h6 j hjq, List.getElem_append_left hjq]
    · obtain rfl : j = q.length := by omega
      rw [Array.getElem?_setIfInBounds_self_of_lt (by omega), List.getElem_append_right (Nat.le_refl _)]
      simp
  · obtain ⟨v', w', hrun, hown, hgr⟩ := run_append_arg_grows (P := P) (w := w.alloc (.cells #[.int .i64 y] e)) t o.type e i z 1 bytes ht hi hz hsize hby hzs (by omega) ⟨g, off, none⟩ q.length cap (q.map fun n => .int .i64 n) (by simp)
      (fun j u hu => by
        rw [Go.WideShapes.add_plain, hB2.cell]
        obtain ⟨hj, rfl⟩ := List.getElem?_eq_some_iff.1 hu
        rw [List.length_map] at hj
        rw [h6 j hj]
        simp) ⟨w.heap.size, 0, none⟩ 1 c [.int .i64 y] rfl hnews (by omega) h63 hbytes
    simp only [ho, resolve, invoke, builtin, Sem.run_bind, Sem.run_pure, Result.andThen_ok, List.map_toArray, List.map_cons, List.map_nil, hs, hx, hrun]
    refine hK' _ _ ?_
    obtain ⟨hl, hown⟩ := hown
    rcases hown with ⟨_, h0⟩ | ⟨g', cap', cur', rfl, hge, hB', h1, h2, h3', htk⟩
    · omega
    · have hgs : w.heap.size ≤ g' := by have := hge; rw [World.size_alloc] at this; omega
      refine h _ _ ⟨g', 0, cap', cur', by simp, ⟨hK _ hgs, (show Blk w' g' e cur' from hB').lt⟩, hB', by simpa using h1, h2, by omega, fun j hj => ?_⟩ ((Only.of_alloc w _).trans (Only.of_grown hgr (fun i hi => by cases hi)))
      have h7 : (cur'.toList.take ((q.length + 1) * 1))[j]? = (q.map (fun n => Value.int .i64 n) ++ [.int .i64 y])[j]? := by rw [htk]
      simp only [List.length_append, List.length_singleton] at hj
      rw [List.getElem?_take, if_pos (by omega)] at h7
      rw [Nat.zero_add, ← Array.getElem?_toList, h7]
      by_cases hjq : j < q.length
      · rw [List.getElem?_append_left (by simpa using hjq), List.getElem_append_left hjq]
        simp [hjq]
      · obtain rfl : j = q.length := by omega
        rw [List.getElem?_append_right (by simp), List.getElem_append_right (Nat.le_refl _)]
        simp
end
def cellsF (F : List Int) : Array Value := (F.map fun n => Value.int .i64 n).toArray
theorem cellsF_get {F : List Int} {k : Nat} (h : k < F.length) : (cellsF F)[k]? = some (.int .i64 (F.getD k 0)) := by
  unfold cellsF
  simp [List.getD_eq_getElem?_getD, h]
theorem cellsF_set (F : List Int) (k : Nat) (v : Int) : (cellsF F).setIfInBounds k (.int .i64 v) = cellsF (F.set k v) := by
  unfold cellsF
  simp [List.map_set]
theorem cellsF_six : (rowN 6).toArray = cellsF (List.replicate 6 (-1)) := by kernel_rfl
/-- What stands while the search goes on: the matrix, the lengths, those that wait. -/
structure Bk (M : Nat → Nat) (w wr : World) (gF : Nat) (F q : List Int) (v : Value) : Prop where
  m : Blk wr w.heap.size 105 (row6 M)
  f : Blk wr gF 3 (cellsF F)
  q : Que 3 wr (fun b => gF < b ∧ Old wr b) q v
  b : Below w.heap.size w wr
  lt : w.heap.size < gF
section
variable {M : Nat → Nat} {w wr w' : World} {gF : Nat} {F q : List Int} {v : Value}
theorem Bk.below (h : Bk M w wr gF F q v) (hb : Below wr.heap.size wr w') : Bk M w w' gF F q v :=
  ⟨h.m.below hb h.m.lt, h.f.below hb h.f.lt, h.q.mono (fun b hb' => ⟨hb'.1, Nat.lt_of_lt_of_le hb'.2 hb.size⟩) (fun b hb' => hb.block b hb'.2), h.b.trans (hb.mono h.b.size), h.lt⟩
theorem Bk.set (h : Bk M w wr gF F q v) (i : Nat) (x : Int) : Bk M w (wr.setCell ⟨gF, i, none⟩ (.int .i64 x)) gF (F.set i x) q v :=
  ⟨h.m.far (by have := h.lt; simp; omega) _, by rw [← cellsF_set]; exact h.f.set_ i _, h.q.mono (fun b hb => ⟨hb.1, by have := hb.2; simpa [Old] using this⟩) (fun b hb => Below.heap_setCell _ _ _ _ (by have := hb.1; simp; omega)), Below.setCell h.b (Nat.le_of_lt h.lt) _, h.lt⟩
theorem Bk.put {q' : List Int} {v' : Value} (h : Bk M w wr gF F q v) (hq : Que 3 w' (fun b => gF < b ∧ Old w' b) q' v') (ho : Only (fun b => gF < b) wr w') : Bk M w w' gF F q' v' :=
  ⟨h.m.of (ho.block _ h.m.lt (by have := h.lt; omega)), h.f.of (ho.block _ h.f.lt (by omega)), hq, below_only h.b ho h.b.size (fun b hb => by have := h.lt; omega), h.lt⟩
theorem Bk.with {q' : List Int} {v' : Value} (h : Bk M w wr gF F q v) (hq : Que 3 wr (fun b => gF < b ∧ Old wr b) q' v') : Bk M w wr gF F q' v' := ⟨h.m, h.f, hq, h.b, h.lt⟩
theorem Bk.cell (h : Bk M w wr gF F q v) {i : Nat} (hi : i < F.length) : wr.cell? ⟨gF, i, none⟩ = some (.int .i64 (F.getD i 0)) ∧ wr.frozen? ⟨gF, i, none⟩ = false :=
  ⟨(h.f.cell i).trans (cellsF_get hi), h.f.frozen i⟩
end
def lenOf : Value → Nat
  | .slice _ n _ => n
  | _ => 0
theorem Que.lenOf {e : TypeId} {w : World} {S : Nat → Prop} {q : List Int} {v : Value} (h : Que e w S q v) : lenOf v = q.length := by
  obtain ⟨g, off, cap, cur, rfl, _⟩ := h; rfl
/-- How many numbers of a block are negative. -/
def unfW (w : World) (g : Nat) : Nat := match w.heap[g]? with
  | some (.cells cur _ _) => cur.toList.countP fun v => match v with
    | .int _ n => decide (n < 0)
    | _ => false
  | _ => 0
theorem Bk.unf {M : Nat → Nat} {w wr : World} {gF : Nat} {F q : List Int} {v : Value} (h : Bk M w wr gF F q v) : unfW wr gF = unf F := by
  have h1 : wr.heap[gF]? = some (.cells (cellsF F) 3 (0, 0)) := h.f
  unfold unfW
  rw [h1]
  unfold cellsF Go.Proofs.YtjiobgfaohldhaaGreat.unf
  simp only [List.toList_toArray, List.countP_map]
  rfl
theorem clip_Int9 (n : Nat) (A : Option Addr) (c : Nat) (w : World) (hl : n ≤ c) (hc : c ≤ maxLen) :
    Calls Tryz.prog 80 #[.slice A n c] w fun e w' => e = .returned (.slice A n n) ∧ w = w' := by
  unfold maxLen at hc
  have h1 : (0 : Int) ≤ (n : Int) := by omega
  have h2 : (n : Int) ≤ (c : Int) := by omega
  go_enter Tryz.func80, Tryz.ntmps80
  go_wp2
  go_ret
  exact ⟨rfl, rfl⟩
theorem b0_meas (E : Nat → Nat → Bool) (s : Nat) : ∀ i, i ≤ 6 → (b0 E s i).2.length + unf (b0 E s i).1 = 6
  | 0, _ => by simp [b0, Go.Proofs.YtjiobgfaohldhaaGreat.unf]
  | i + 1, hi => by
    have ih := b0_meas E s i (by omega)
    have hb := bfs0 (E := E) (s := s) i (by omega)
    rw [b0_succ]
    unfold b0Step
    split
    · have hv := hb.val i (by omega)
      rw [if_neg (fun h => absurd h.1 (Nat.lt_irrefl i))] at hv
      have := unf_set (F := (b0 E s i).1) (i := i) (v := 1) (by rw [hb.len]; omega) (by omega) (by omega)
      simp only [List.length_append, List.length_singleton]
      omega
    · exact ih
/-- What stands while the way is gathered. -/
structure Wy (M : Nat → Nat) (w wr : World) (gF : Nat) (F pre : List Int) (v : Value) : Prop where
  m : Blk wr w.heap.size 105 (row6 M)
  f : Blk wr gF 3 (cellsF F)
  o : Own tInt 3 wr (fun b => gF < b ∧ Old wr b) pre v
  b : Below w.heap.size w wr
  lt : w.heap.size < gF
section
variable {M : Nat → Nat} {w wr w' : World} {gF : Nat} {F pre : List Int} {v : Value}
theorem Wy.below (h : Wy M w wr gF F pre v) (hb : Below wr.heap.size wr w') : Wy M w w' gF F pre v :=
  ⟨h.m.below hb h.m.lt, h.f.below hb h.f.lt, h.o.mono (fun b hb' => ⟨hb'.1, Nat.lt_of_lt_of_le hb'.2 hb.size⟩) (fun b hb' => hb.block b hb'.2), h.b.trans (hb.mono h.b.size), h.lt⟩
theorem Wy.put {q' : List Int} {v' : Value} (h : Wy M w wr gF F pre v) (hq : Own tInt 3 w' (fun b => gF < b ∧ Old w' b) q' v') (ho : Only (fun b => gF < b) wr w') : Wy M w w' gF F q' v' :=
  ⟨h.m.of (ho.block _ h.m.lt (by have := h.lt; omega)), h.f.of (ho.block _ h.f.lt (by omega)), hq, below_only h.b ho h.b.size (fun b hb => by have := h.lt; omega), h.lt⟩
theorem Wy.cell (h : Wy M w wr gF F pre v) {i : Nat} (hi : i < F.length) : wr.cell? ⟨gF, i, none⟩ = some (.int .i64 (F.getD i 0)) ∧ wr.frozen? ⟨gF, i, none⟩ = false :=
  ⟨(h.f.cell i).trans (cellsF_get hi), h.f.frozen i⟩
theorem Bk.way {q : List Int} (h : Bk M w wr gF F q v) (s : Nat) : Wy M w (wr.alloc (.cells #[.int .i64 s] 3)) gF F [(s : Int)] (.slice (some ⟨wr.heap.size, 0, none⟩) 1 1) :=
  ⟨h.m.alloc _, h.f.alloc _, (Own.one (T := tInt) wr (S := fun _ => False) (K := fun b => gF < b ∧ Old (wr.alloc (.cells #[.int .i64 s] 3)) b) [.int .i64 s] rfl (fun _ h => h.elim) ⟨h.f.lt, by simp [Old]⟩), h.b.alloc h.b.size _, h.lt⟩
end
theorem b0_len (E : Nat → Nat → Bool) (s : Nat) : ∀ i, i ≤ 6 → (b0 E s i).1.length = 6 ∧ (b0 E s i).2.length ≤ i
  | 0, _ => by simp [b0]
  | i + 1, hi => by
    obtain ⟨h1, h2⟩ := b0_len E s i (by omega)
    rw [b0_succ]
    unfold b0Step
    split
    · simp [h1]; omega
    · exact ⟨h1, by omega⟩
theorem far_small {E : Nat → Nat → Bool} {s : Nat} (hE : ∀ i j, E i j = true → i < 6 ∧ j < 6) (hs : s < 6) {n l : Nat} (h : Sh1 E s n l) : l ≤ 6 := by
  obtain ⟨c, rfl⟩ : ∃ c, l = c + 1 := ⟨l - 1, by have := h.1; omega⟩
  obtain ⟨m, _, hm⟩ := h.next
  have := hm.lt hE hs
  omega
theorem stepW_hit {E : Nat → Nat → Bool} {far : List Int} {l : Int} {a n : Nat} (hn : n < 6) (h1 : (E a n && far.getD n 0 == l) = true) (h2 : ∀ j, j < n → (E a j && far.getD j 0 == l) = false) : stepW E far l a = n := by
  unfold stepW
  rw [find_range hn h1 h2]; rfl
theorem stepW_miss {E : Nat → Nat → Bool} {far : List Int} {l : Int} {a : Nat} (h2 : ∀ j, j < 6 → (E a j && far.getD j 0 == l) = false) : stepW E far l a = a := by
  unfold stepW
  rw [List.find?_eq_none.2 (fun x hx => by rw [h2 x (List.mem_range.1 hx)]; decide)]; rfl
theorem stepW_lt {E : Nat → Nat → Bool} {far : List Int} {l : Int} {a : Nat} (ha : a < 6) : stepW E far l a < 6 := by
  unfold stepW
  cases h : (List.range 6).find? (fun j => E a j && far.getD j 0 == l) with
  | none => exact ha
  | some j => exact List.mem_range.1 (List.mem_of_find?_eq_some h)
set_option maxRecDepth 10000 in
set_option maxHeartbeats 4000000 in
theorem back_any (M : Nat → Nat) (s : Nat) (w : World) (hM : ∀ i, M i < 64) (hs : s < 6) (hE : ∀ i j, bitE M i j = true → i < 6 ∧ j < 6) (hcy : ∃ l, Wk (bitE M) s (l + 1) s) :
    Calls Tryz.prog 87 #[.agg (row6 M), .int .i64 s] w fun e w' => ∃ v far, e = .returned v ∧ FarI (bitE M) s far ∧ HoldI w' (New w w') (backL (bitE M) far s) v ∧ Below w.heap.size w w' := by
  obtain ⟨i0, hi, hz0, hz1, hz2⟩ := info_parts infoInt_
  have HM := hide hM
  have HE := hide hE
  have HCy := hide hcy
  clear hM hE hcy
  have HB1 := hide (((Below.refl _ w).alloc (Nat.le_refl _) (.cells (row6 M) 105)).alloc (by simp) (.cells #[.int .i64 (-1)] 3))
  have HK1 := hide (heap_alloc2_old w (.cells (row6 M) 105) (.cells #[.int .i64 (-1)] 3))
  have HN1 := hide (heap_alloc2_new w (.cells (row6 M) 105) (.cells #[.int .i64 (-1)] 3))
  go_enter Tryz.func87, Tryz.ntmps87
  go_upto_region 2 with (go_at_call 123; refine (repeat_six _ _ _ HN1.out).mono ?_; rintro e w2 ⟨rfl, hk2, hb2⟩; have HF2 := hide hk2; have HB2 := hide hb2; clear hk2 hb2)
  have HX2 := hide (show Bk M w (w2.alloc (.cells #[] 3)) ((w.alloc (.cells (row6 M) 105)).alloc (.cells #[.int .i64 (-1)] 3)).heap.size (b0 (bitE M) s 0).1 (b0 (bitE M) s 0).2 (.slice (some ⟨w2.heap.size, 0, none⟩) 0 0) from
    ⟨((show Blk _ w.heap.size 105 (row6 M) from HK1.out).below HB2.out (by simp; omega)).alloc _, by have := HF2.out; rw [cellsF_six] at this; exact this.alloc _, Que.empty _ ⟨by have := HF2.out.lt; simp at this ⊢; omega, by simp [Old]⟩, (HB1.out.trans (HB2.out.mono HB1.out.size)).alloc (Nat.le_trans HB1.out.size HB2.out.size) _, by simp; omega⟩)
  obtain ⟨gF, hgF⟩ : ∃ gF, gF = ((w.alloc (.cells (row6 M) 105)).alloc (.cells #[.int .i64 (-1)] 3)).heap.size := ⟨_, rfl⟩
  have hgF2 : gF = w.heap.size + 1 + 1 := by rw [hgF]; simp
  rw [← hgF] at HX2
  clear HB1 HK1 HN1 HF2 HB2
  go_wp2_with fail
  subst hgF2
  clear hgF
  obtain ⟨gF, hgF⟩ : ∃ gF, gF = w.heap.size + 1 + 1 := ⟨_, rfl⟩
  rw [← hgF] at HX2
  simp only [World.size_alloc, ← hgF]
  clear hgF
  go_loopw [6, 7, 17] (fun q _ c wr => ∃ i : Nat, i ≤ 6 ∧ c = .int .i64 i ∧ Hid (Bk M w wr gF (b0 (bitE M) s i).1 (b0 (bitE M) s i).2 q)) (fun _ _ c _ => 6 - (intOf c).toNat)
  case atStart => exact ⟨0, Nat.zero_le _, rfl, HX2.out⟩
  case round =>
    obtain ⟨i, hi6, rfl, hX⟩ := hrel
    have HX := hide hX.out
    clear hX HX2
    by_cases hlt : i < 6
    · have hil : (i : Int) < 6 := by omega
      obtain ⟨hl1, hl2⟩ := b0_len (bitE M) s i hi6
      have HSt := hide (b0_succ (bitE M) s i)
      generalize b0 (bitE M) s i = st at HX HSt hl1 hl2
      obtain ⟨F, q⟩ := st
      dsimp only at HX HSt hl1 hl2
      cases hq : (M i).testBit s with
      | false =>
        have HS2 := hide (show b0 (bitE M) s (i + 1) = (F, q) from HSt.out.trans (by unfold b0Step bitE; rw [hq]; rfl))
        have HQ := hide hq
        clear hq
        go_wp2_with (first | (refine wpList_load_row rfl 105 (.tmp 2) rfl w.heap.size rfl 105 _ (0, 0) _ HX.out.m Tryz.underlying105 rfl infoMat ?_) | (go_at_call 86; refine (has_ M i s hlt hs (HM.out _) _).mono ?_; rintro e w4 ⟨rfl, hb4⟩; have HX4 := hide (HX.out.below hb4); clear hb4; rw [HQ.out]))
        go_roundw
        case rel => exact ⟨i + 1, by omega, by go_num, by rw [HS2.out]; exact HX4.out⟩
        case measure => simp [intOf]; omega
      | true =>
        have HS2 := hide (show b0 (bitE M) s (i + 1) = (F.set i 1, q ++ [(i : Int)]) from HSt.out.trans (by unfold b0Step bitE; rw [hq]; rfl))
        have HQ := hide hq
        clear hq
        go_wp2_with (first | (refine wpList_load_row rfl 105 (.tmp 2) rfl w.heap.size rfl 105 _ (0, 0) _ HX.out.m Tryz.underlying105 rfl infoMat ?_) | (go_at_call 86; refine (has_ M i s hlt hs (HM.out _) _).mono ?_; rintro e w4 ⟨rfl, hb4⟩; have HX4 := hide (HX.out.below hb4); clear hb4; rw [HQ.out]; obtain ⟨cx, fx⟩ := HX4.out.cell (i := i) (by omega); have HX5 := hide (HX4.out.set i 1)) | (at_builtin; go_loud (refine wpList_que rfl (.tmp 27) (.tmp 29) 23 rfl 3 i0 _ 8 Tryz.underlying23 hi hz0 hz1 hz2 rfl (fun b => gF < b) q (i : Int) _ rfl HX5.out.q 1 (by first | rfl | (rw [World.size_setCell]; rfl)) (fun b hb => by have := HX5.out.f.lt; omega) (by simp only [maxLen]; omega) (by omega) ?_; intro v6 w6 hO_ hK_; have HX6 := hide (HX5.out.put hO_ hK_); clear hO_ hK_)))
        go_roundw
        case rel => exact ⟨i + 1, by omega, by go_num, by rw [HS2.out]; exact HX6.out⟩
        case measure => simp [intOf]; omega
    · have HB0 := hide (show Bfs (bitE M) s (b0 (bitE M) s i) 1 by
        obtain rfl : i = 6 := by omega
        exact (bfs0 (E := bitE M) (s := s) 6 (Nat.le_refl _)).bfs)
      have hni : ¬ (i : Int) < 6 := by omega
      have hsm : (b0 (bitE M) s i).2.length + unf (b0 (bitE M) s i).1 ≤ 6 := Nat.le_of_eq (b0_meas (bitE M) s i hi6)
      generalize b0 (bitE M) s i = st at HB0 HX hsm
      clear hlt hi6
      go_wp2_with fail
      go_loopw [6, 8, 9] (fun q _ _ wr => ∃ (F : List Int) (ql : List Int) (d : Nat) (vo : Value), vo = q ∧ 1 ≤ d ∧ ql.length + unf F ≤ 6 ∧ Hid (Bfs (bitE M) s (F, ql) d) ∧ Hid (Bk M w wr gF F ql q)) (fun q _ _ wr => lenOf q + unfW wr gF)
      case atStart => exact ⟨st.1, st.2, 1, _, rfl, Nat.le_refl _, hsm, HB0.out, HX.out⟩
      case round =>
        obtain ⟨F, ql, d, vo, rfl, hd, hsz6, hB, hX⟩ := hrel
        have HB := hide hB.out; have HX := hide hX.out
        have hFl : F.length = 6 := HB.out.len
        clear hB hX HB0
        cases ql with
        | nil =>
          have HI := hide (HB.out.farI HE.out hd rfl)
          obtain ⟨l0, hw0⟩ := HCy.out
          obtain ⟨l1, _, hsh⟩ := hw0.sh1
          obtain ⟨b, rfl⟩ : ∃ b, l1 = b + 1 := ⟨l1 - 1, by have := hsh.1; omega⟩
          have hb6 := far_small HE.out hs hsh
          have hfs := (HI.out.is s hs (b + 1) (by omega)).2 hsh
          obtain ⟨g, off, cap, cur, hve, _, _, _, _, _, _⟩ := HX.out.q
          subst hve
          obtain ⟨cx, fx⟩ := HX.out.cell (i := s) (by omega)
          rw [hfs] at cx
          have HY := hide (show Wy M w (wr.alloc (.cells #[.int .i64 s] 3)) gF F [(s : Int)] (.slice (some ⟨wr.heap.size, 0, none⟩) 1 1) from HX.out.way s)
          have HBl := hide (show [(s : Int)] ++ wayI (bitE M) F b s = backL (bitE M) F s by unfold backL; rw [hfs, show (((b + 1 : Nat) : Int) - 1).toNat = b by omega]; rfl)
          have hsi : (s : Int) < 6 := by omega
          clear HX HB hd hsh hw0
          go_upto_region 21 with (fail)
          generalize wr.alloc (.cells #[.int .i64 s] 3) = W1 at HY ⊢
          obtain ⟨cy, fy⟩ := HY.out.cell (i := s) (by omega)
          rw [hfs] at cy
          clear cx fx hfs
          have HY2 := hide (fun n => show Wy M w (W1.drewN n) gF F [(s : Int)] (.slice (some ⟨wr.heap.size, 0, none⟩) 1 1) from HY.out.below (below_drewN (Below.refl _ W1) n))
          clear HY
          go_quiet (fail)
          go_wp2
          go_loopw [10, 11, 12, 13] (fun v at_ lf _ wr => ∃ (l a : Nat) (pre : List Int) (vo : Value), vo = v ∧ a < 6 ∧ at_ = .int .i64 a ∧ lf = .int .i64 ((l : Int) + 1) ∧ Hid (pre.length + l ≤ 7) ∧ Hid (pre ++ wayI (bitE M) F l a = backL (bitE M) F s) ∧ Hid (Wy M w wr gF F pre v)) (fun _ _ lf _ _ => (intOf lf).toNat)
          case atStart => exact ⟨b, s, [(s : Int)], _, rfl, hs, rfl, by go_num, by simp [Hid]; omega, HBl.out, HY2.out _⟩
          case round =>
            obtain ⟨l, a, pre, vo, rfl, ha6, rfl, rfl, hpl, hpw, hY⟩ := hrel
            have HPl := hide hpl.out; have HPw := hide hpw.out; have HY := hide hY.out
            clear hpl hpw hY HY2 HBl cy fy
            cases l with
            | zero =>
              have HFin := hide (show pre = backL (bitE M) F s by have := HPw.out; rwa [wayI, List.append_nil] at this)
              obtain ⟨A, c, rfl, h1, h2, h3⟩ := HY.out.o.sl
              go_wp2_with (go_at_call 80; refine (clip_Int9 _ _ _ _ h1 h2).mono ?_; rintro e w4 ⟨rfl, rfl⟩)
              go_ret
              refine ⟨_, F, rfl, HI.out, ?_, HY.out.b⟩
              rw [← HFin.out]
              obtain ⟨gg, hg, _⟩ := HY.out.o.hold
              exact ⟨gg, hg.clip.mono (fun b hb => ⟨by have := HY.out.lt; omega, hb.2⟩) (fun _ _ => rfl)⟩
            | succ l =>
              have HW := hide (show wayI (bitE M) F (l + 1) a = (stepW (bitE M) F ((l + 1 : Nat) : Int) a : Int) :: wayI (bitE M) F l (stepW (bitE M) F ((l + 1 : Nat) : Int) a) from rfl)
              have HPn := hide (show pre ++ [(stepW (bitE M) F ((l + 1 : Nat) : Int) a : Int)] ++ wayI (bitE M) F l (stepW (bitE M) F ((l + 1 : Nat) : Int) a) = backL (bitE M) F s by have := HPw.out; rw [HW.out] at this; rw [List.append_assoc]; exact this)
              have HSl := hide (stepW_lt (E := bitE M) (far := F) (l := ((l + 1 : Nat) : Int)) ha6)
              have hpl7 := HPl.out
              obtain ⟨lf, hlf⟩ : ∃ lf : Int, lf = (((l + 1 : Nat) : Int) + 1) := ⟨_, rfl⟩
              have hlf1 : 1 < lf := by omega
              have hlf8 : lf ≤ 9 := by omega
              have HLf := hide (show lf - 1 = ((l + 1 : Nat) : Int) by omega)
              have HLs := hide (show lf = (l : Int) + 1 + 1 by omega)
              rw [← hlf]
              clear hlf
              go_wp2_with fail
              go_loopw [11, 13, 78] (fun at_ _ c wr => ∃ n : Nat, n ≤ 6 ∧ c = .int .i64 n ∧ at_ = .int .i64 a ∧ Hid (∀ j, j < n → (bitE M a j && F.getD j 0 == ((l + 1 : Nat) : Int)) = false) ∧ Hid (Wy M w wr gF F pre vo)) (fun _ _ c _ => 6 - (intOf c).toNat)
              case atStart => exact ⟨0, Nat.zero_le _, rfl, rfl, (fun j h => absurd h (by omega)), HY.out⟩
              case round =>
                obtain ⟨n, hn6, rfl, rfl, hno, hY⟩ := hrel
                have HNo := hide hno.out; have HX := hide hY.out
                clear hno hY HY
                by_cases hlt : n < 6
                · have hnl : (n : Int) < 6 := by omega
                  cases hq : (M a).testBit n with
                  | false =>
                    have HQ := hide hq
                    have HN2 := hide (show ∀ j, j < n + 1 → (bitE M a j && F.getD j 0 == ((l + 1 : Nat) : Int)) = false from fun j hj => by
                      rcases Nat.lt_succ_iff_lt_or_eq.1 hj with h | rfl
                      · exact HNo.out j h
                      · unfold bitE; rw [hq]; rfl)
                    clear hq
                    go_wp2_with (first | (refine wpList_load_row rfl 105 (.tmp 2) rfl w.heap.size rfl 105 _ (0, 0) _ HX.out.m Tryz.underlying105 rfl infoMat ?_) | (go_at_call 86; refine (has_ M a n ha6 hlt (HM.out _) _).mono ?_; rintro e w4 ⟨rfl, hb4⟩; have HX4 := hide (HX.out.below hb4); clear hb4; rw [HQ.out]))
                    go_roundw
                    case rel => exact ⟨n + 1, by omega, by go_num, rfl, HN2.out, HX4.out⟩
                    case measure => simp [intOf]; omega
                  | true =>
                    have HQ := hide hq
                    obtain ⟨y, hy⟩ : ∃ y, F.getD n 0 = y := ⟨_, rfl⟩
                    have HYy := hide hy
                    cases hyl : (y == lf - 1) with
                    | false =>
                      have HN2 := hide (show ∀ j, j < n + 1 → (bitE M a j && F.getD j 0 == ((l + 1 : Nat) : Int)) = false from fun j hj => by
                        rcases Nat.lt_succ_iff_lt_or_eq.1 hj with h | rfl
                        · exact HNo.out j h
                        · rw [hy, ← HLf.out, hyl, Bool.and_false])
                      clear hq hy
                      go_wp2_with (first | (refine wpList_load_row rfl 105 (.tmp 2) rfl w.heap.size rfl 105 _ (0, 0) _ HX.out.m Tryz.underlying105 rfl infoMat ?_) | (go_at_call 86; refine (has_ M a n ha6 hlt (HM.out _) _).mono ?_; rintro e w4 ⟨rfl, hb4⟩; have HX4 := hide (HX.out.below hb4); clear hb4; rw [HQ.out]; obtain ⟨cx, fx⟩ := HX4.out.cell (i := n) (by omega); rw [HYy.out] at cx))
                      go_roundw
                      case rel => exact ⟨n + 1, by omega, by go_num, rfl, HN2.out, HX4.out⟩
                      case measure => simp [intOf]; omega
                    | true =>
                      have HSt := hide (show stepW (bitE M) F ((l + 1 : Nat) : Int) a = n from stepW_hit hlt (by unfold bitE; rw [hq, hy, ← HLf.out, hyl]; rfl) HNo.out)
                      rw [HSt.out] at HPn
                      clear hq hy
                      go_wp2_with (first | (refine wpList_load_row rfl 105 (.tmp 2) rfl w.heap.size rfl 105 _ (0, 0) _ HX.out.m Tryz.underlying105 rfl infoMat ?_) | (go_at_call 86; refine (has_ M a n ha6 hlt (HM.out _) _).mono ?_; rintro e w4 ⟨rfl, hb4⟩; have HX4 := hide (HX.out.below hb4); clear hb4; rw [HQ.out]; obtain ⟨cx, fx⟩ := HX4.out.cell (i := n) (by omega); rw [HYy.out] at cx) | (at_builtin; refine wpList_put tInt rfl (.tmp 96) (.tmp 98) 23 rfl 3 i0 _ 8 Tryz.underlying23 hi hz0 hz1 hz2 rfl (by decide) (fun b => gF < b) (fun _ => False) pre (n : Int) [.int .i64 (n : Int)] _ rfl HX4.out.o 1 rfl rfl (fun _ h => h.elim) (fun b hb => by have := HX4.out.f.lt; omega) (by simp only [maxLen]; omega) (by omega) ?_; intro v6 w6 hO_ hK_; have HY6 := hide (HX4.out.put hO_ hK_); clear hO_ hK_))
                      go_roundw
                      case rel => exact ⟨l, n, pre ++ [(n : Int)], _, rfl, hlt, rfl, by rw [HLs.out]; go_num, by simp only [Hid, List.length_append, List.length_singleton]; omega, HPn.out, HY6.out⟩
                      case measure => simp [intOf]; omega
                · have HSt := hide (show stepW (bitE M) F ((l + 1 : Nat) : Int) a = a from stepW_miss (fun j hj => HNo.out j (by omega)))
                  rw [HSt.out] at HPn
                  have hnn : ¬ (n : Int) < 6 := by omega
                  go_wp2_with (at_builtin; refine wpList_put tInt rfl (.tmp 96) (.tmp 98) 23 rfl 3 i0 _ 8 Tryz.underlying23 hi hz0 hz1 hz2 rfl (by decide) (fun b => gF < b) (fun _ => False) pre (a : Int) [.int .i64 (a : Int)] _ rfl HX.out.o 1 rfl rfl (fun _ h => h.elim) (fun b hb => by have := HX.out.f.lt; omega) (by simp only [maxLen]; omega) (by omega) ?_; intro v6 w6 hO_ hK_; have HY6 := hide (HX.out.put hO_ hK_); clear hO_ hK_)
                  go_roundw
                  case rel => exact ⟨l, a, pre ++ [(a : Int)], _, rfl, ha6, rfl, by rw [HLs.out]; go_num, by simp only [Hid, List.length_append, List.length_singleton]; omega, HPn.out, HY6.out⟩
                  case measure => simp [intOf]; omega
        | cons a0 q0 =>
          obtain ⟨a, q, d', hq, ha6, hd', hR⟩ := Bfs.pop HE.out hd HB.out (by simp)
          obtain ⟨rfl, rfl⟩ : a0 = (a : Int) ∧ q0 = q := by simpa using hq
          clear hq hd HB
          have HR := hide hR
          have hd6 : d' ≤ 6 := by
            rcases hR.val a ha6 with h1 | ⟨l', h1, h2⟩
            · have := hR.cur; omega
            · have := far_small HE.out hs h2
              have := hR.cur
              omega
          clear hR
          have HU := hide (HX.out.unf)
          have HMe := hide (fun n hn => bRow_meas (E := bitE M) (a := a) (st := (F, q0)) hFl (by have h0 : F.getD a 0 = (d' : Int) := HR.out.cur; simp only; omega) n hn)
          obtain ⟨g, off, cap, rfl, hqc, hcm, hcell, hpop⟩ := HX.out.q.pop
          obtain ⟨Ad, hAd⟩ : ∃ Ad : Option Addr, (if cap = 0 then some (⟨g, off, none⟩ : Addr) else some ⟨g, off + 1, none⟩) = Ad := ⟨_, rfl⟩
          rw [hAd] at hpop
          have HXp := hide (HX.out.with hpop)
          have h1l : (0 : Int) < (q0.length : Int) + 1 := by omega
          have h1m : (1 : Int) ≤ (q0.length : Int) + 1 := by omega
          have h1d : (1 : Int) ≤ (cap : Int) + 1 := by omega
          unfold maxLen at hcm
          clear hpop HX
          go_wp2_with fail
          go_loopw [6, 9, 40] (fun v _ c wr => ∃ i : Nat, i ≤ 6 ∧ c = .int .i64 i ∧ Hid (Bk M w wr gF (bRow (bitE M) a (F, q0) i).1 (bRow (bitE M) a (F, q0) i).2 v)) (fun _ _ c _ => 6 - (intOf c).toNat)
          case atStart => exact ⟨0, Nat.zero_le _, rfl, HXp.out⟩
          case round =>
            obtain ⟨i, hi6, rfl, hX⟩ := hrel
            have HX := hide hX.out
            clear hX HXp hcell
            by_cases hlt : i < 6
            · have hil : (i : Int) < 6 := by omega
              have HSt := hide (bRow_succ (bitE M) a (F, q0) i)
              obtain ⟨hm1, hm2, hm3⟩ := HMe.out i hi6
              have hcur := HR.out.cur
              generalize bRow (bitE M) a (F, q0) i = st2 at HX HSt hm1 hm2 hm3
              obtain ⟨F2, q2⟩ := st2
              dsimp only at HX HSt hm1 hm2 hm3 hcur
              rw [hcur] at hm3
              have hq2 : q2.length ≤ 6 := by
                simp only [List.length_cons] at hsz6
                omega
              cases hq : (M i).testBit a with
              | false =>
                have HS2 := hide (show bRow (bitE M) a (F, q0) (i + 1) = (F2, q2) from HSt.out.trans (by unfold bStep bitE; rw [hq]; simp))
                have HQ := hide hq
                clear hq
                go_wp2_with (first | (refine wpList_load_row rfl 105 (.tmp 2) rfl w.heap.size rfl 105 _ (0, 0) _ HX.out.m Tryz.underlying105 rfl infoMat ?_) | (go_at_call 86; refine (has_ M i a hlt ha6 (HM.out _) _).mono ?_; rintro e w4 ⟨rfl, hb4⟩; have HX4 := hide (HX.out.below hb4); clear hb4; rw [HQ.out]))
                go_roundw
                case rel => exact ⟨i + 1, by omega, by go_num, by rw [HS2.out]; exact HX4.out⟩
                case measure => simp [intOf]; omega
              | true =>
                have HQ := hide hq
                obtain ⟨y, hy⟩ : ∃ y, F2.getD i 0 = y := ⟨_, rfl⟩
                have HYy := hide hy
                by_cases hneg : y < 0
                · have HS2 := hide (show bRow (bitE M) a (F, q0) (i + 1) = (F2.set i ((d' : Int) + 1), q2 ++ [(i : Int)]) from HSt.out.trans (by unfold bStep bitE; rw [if_pos ⟨hq, by simp only; rw [hy]; exact hneg⟩, hm3]))
                  clear hq hy
                  go_wp2_with (first | (refine wpList_load_row rfl 105 (.tmp 2) rfl w.heap.size rfl 105 _ (0, 0) _ HX.out.m Tryz.underlying105 rfl infoMat ?_) | (go_at_call 86; refine (has_ M i a hlt ha6 (HM.out _) _).mono ?_; rintro e w4 ⟨rfl, hb4⟩; have HX4 := hide (HX.out.below hb4); clear hb4; rw [HQ.out]; obtain ⟨cx, fx⟩ := HX4.out.cell (i := i) (by omega); rw [HYy.out] at cx; obtain ⟨ca, fa⟩ := HX4.out.cell (i := a) (by omega); rw [hm3] at ca; have HX5 := hide (HX4.out.set i ((d' : Int) + 1)); have hai : 0 = 0 := rfl) | (at_builtin; go_loud (refine wpList_que rfl (.tmp 62) (.tmp 64) 23 rfl 3 i0 _ 8 Tryz.underlying23 hi hz0 hz1 hz2 rfl (fun b => gF < b) q2 (i : Int) _ rfl HX5.out.q 1 (by first | rfl | (rw [World.size_setCell]; rfl)) (fun b hb => by have := HX5.out.f.lt; omega) (by simp only [maxLen]; omega) (by omega) ?_; intro v6 w6 hO_ hK_; have HX6 := hide (HX5.out.put hO_ hK_); clear hO_ hK_)))
                  go_roundw
                  case rel => exact ⟨i + 1, by omega, by go_num, by rw [HS2.out]; exact HX6.out⟩
                  case measure => simp [intOf]; omega
                · have HS2 := hide (show bRow (bitE M) a (F, q0) (i + 1) = (F2, q2) from HSt.out.trans (by unfold bStep bitE; rw [if_neg (fun h => hneg (by have := h.2; simp only at this; rw [hy] at this; exact this))]))
                  clear hq hy
                  go_wp2_with (first | (refine wpList_load_row rfl 105 (.tmp 2) rfl w.heap.size rfl 105 _ (0, 0) _ HX.out.m Tryz.underlying105 rfl infoMat ?_) | (go_at_call 86; refine (has_ M i a hlt ha6 (HM.out _) _).mono ?_; rintro e w4 ⟨rfl, hb4⟩; have HX4 := hide (HX.out.below hb4); clear hb4; rw [HQ.out]; obtain ⟨cx, fx⟩ := HX4.out.cell (i := i) (by omega); rw [HYy.out] at cx))
                  go_roundw
                  case rel => exact ⟨i + 1, by omega, by go_num, by rw [HS2.out]; exact HX4.out⟩
                  case measure => simp [intOf]; omega
            · obtain rfl : i = 6 := by omega
              have HD := hide ((HR.out.row 6 (Nat.le_refl _)).done)
              obtain ⟨hm1, hm2, hm3⟩ := HMe.out 6 (Nat.le_refl _)
              generalize bRow (bitE M) a (F, q0) 6 = st2 at HX HD hm1
              obtain ⟨F2, q2⟩ := st2
              dsimp only at HX HD hm1
              have HU2 := hide HX.out.unf
              have HL2 := hide HX.out.q.lenOf
              go_wp2_with fail
              go_roundw
              case rel => exact ⟨F2, q2, d', _, rfl, hd', by simp only [List.length_cons] at hsz6; omega, HD.out, HX.out⟩
              case measure => rw [HU.out, HU2.out, HL2.out]; simp only [lenOf]; omega
theorem cyc_none {xs : List Edge} {n : Nat} (hv : edgesV (n : Int) xs = true) (hno : ∀ i, i < n → ∀ l, ¬ Wk (edgE xs) i (l + 1) i) : cycO (n : Int) xs = [] := by
  have hv' := hv
  unfold edgesV at hv'
  simp only [Bool.and_eq_true, inR_iff] at hv'
  have hc : cycO (n : Int) xs = cycFrom xs n n 0 := by unfold cycO; rw [if_pos hv, Int.toNat_natCast]
  rw [hc]
  rcases cycFrom_eq (by omega) hv'.2 n 0 (by omega) with ⟨h1, _⟩ | ⟨i, _, h2, ⟨l, hl⟩, _, _⟩
  · exact h1
  · exact absurd hl (hno i h2 l)
theorem cyc_hit {xs : List Edge} {n i : Nat} (hv : edgesV (n : Int) xs = true) (hi : i < n) (hw : ∃ l, Wk (edgE xs) i (l + 1) i) (hno : ∀ j, j < i → ∀ l, ¬ Wk (edgE xs) j (l + 1) j) {far : List Int} (hI : FarI (edgE xs) i far) : cycO (n : Int) xs = backL (edgE xs) far i := by
  have hv' := hv
  unfold edgesV at hv'
  simp only [Bool.and_eq_true, inR_iff] at hv'
  have hc : cycO (n : Int) xs = cycFrom xs n n 0 := by unfold cycO; rw [if_pos hv, Int.toNat_natCast]
  rw [hc]
  obtain ⟨l0, hl0⟩ := hw
  rcases cycFrom_eq (by omega) hv'.2 n 0 (by omega) with ⟨_, h1⟩ | ⟨k, _, h2, ⟨l, hl⟩, h4, h5⟩
  · exact absurd hl0 (h1 i (by omega) hi l0)
  · have hk : k = i := by
      rcases Nat.lt_trichotomy k i with h | h | h
      · exact absurd hl (hno k h l)
      · exact h
      · exact absurd hl0 (h4 i (by omega) h l0)
    subst hk
    exact h5 far hI
theorem via_wk {M : Nat → Nat} (hE : ∀ i j, bitE M i j = true → i < 6 ∧ j < 6) (i : Nat) : (wN M 6 i).testBit i = true ↔ ∃ l, Wk (bitE M) i (l + 1) i :=
  (wN_via M 6 i i).trans ⟨Via.wk, fun ⟨l, h⟩ => h.via (fun a b hab => (hE a b hab).2)⟩
theorem allOf_edgE {n : Nat} {xs : List Edge} (hv : xs.all (edgeOk (n : Int)) = true) : bitE (matOf [1, 2, 3, 4] xs) = edgE xs := by
  funext i j
  exact allOf_bit hv i j
set_option maxRecDepth 10000 in
set_option maxHeartbeats 2000000 in
/-- CycleOf of the program answers the list. -/
theorem implCycleOf (many : Int) (xs : List Edge) (A : Option Addr) (c : Nat) (w : World) (hl : xs.length ≤ maxLen) (hA : Row tEdge w (Old w) A xs) :
    Calls Tryz.prog 41 #[.int .i64 many, .slice A xs.length c] w fun e w' => ∃ v, e = .returned v ∧ HoldI w' (New w w') (cycO many xs) v ∧ Below w.heap.size w w' := by
  have HE := hide (implEdgesValid many xs A c w hl hA)
  have HL := hide hl
  have HA := hide hA
  clear hl hA
  cases hv : edgesV many xs with
  | false =>
    have HR := hide (show cycO many xs = [] by unfold cycO; rw [hv]; rfl)
    rw [hv] at HE
    clear hv
    rw [HR.out]
    go_enter Tryz.func41, Tryz.ntmps41
    go_wp2_with (go_at_call 83; refine HE.out.mono ?_; rintro e w1 ⟨rfl, hb1⟩)
    go_ret
    exact ⟨_, rfl, ⟨0, Hold.nil 0⟩, hb1⟩
  | true =>
    have hv2 := hv
    unfold edgesV at hv2
    simp only [Bool.and_eq_true, decide_eq_true_eq] at hv2
    obtain ⟨⟨hv3, _⟩, hv4⟩ := hv2
    obtain ⟨hm0, hm6⟩ := inR_iff.1 hv3
    obtain ⟨n, rfl⟩ : ∃ n : Nat, many = (n : Int) := ⟨many.toNat, by omega⟩
    have HV := hide hv
    have HAl := hide hv4
    have HMl : Hid (∀ i, matOf [1, 2, 3, 4] xs i < 64) := matOf_lt hm6 xs (fun _ => 0) hv4 (fun _ => by decide)
    have HME := hide (allOf_edgE hv4)
    have HEin := hide (fun i j h => show i < 6 ∧ j < 6 from by have := edgE_in hv4 i j h; omega)
    rw [hv] at HE
    clear hv hv3 hv4
    go_enter Tryz.func41, Tryz.ntmps41
    go_upto_region 4 with (first | (go_at_call 83; refine HE.out.mono ?_; rintro e w1 ⟨rfl, hb1⟩; have HB1 := hide hb1; clear hb1) | (go_at_call 84; refine (allOf_any n xs A c w1 HL.out (HA.out.old HB1.out) hm6 HAl.out).mono ?_; rintro e w2 ⟨rfl, hb2⟩; have HB2 := hide (HB1.out.trans (hb2.mono HB1.out.size)); clear hb2) | (refine wpList_store_row rfl 105 (.tmp 5) (.tmp 13) rfl w2.heap.size _ rfl rfl 105 _ (Blk.new w2 _ _) infoMat rfl (row6_one _) ?_))
    generalize hW3 : World.setRow _ _ _ = W3
    have HX := hide (show Blk W3 w2.heap.size 105 (row6 (matOf [1, 2, 3, 4] xs)) by rw [← hW3]; exact setRow_heap _ _ _ _ _ _ (Blk.new w2 _ _))
    have HB3 := hide (show Below w.heap.size w W3 by rw [← hW3]; exact setRow_below (HB2.out.alloc HB2.out.size _) HB2.out.size _)
    have HG := hide HB2.out.size
    clear hW3
    generalize matOf [1, 2, 3, 4] xs = M at HX HMl HME ⊢
    generalize w2.heap.size = g at HX HG ⊢
    clear HB1 HB2
    go_upto_region 5 with (first | (refine wpList_load_row rfl 105 (.tmp 5) rfl g rfl 105 _ (0, 0) _ HX.out Tryz.underlying105 rfl infoMat ?_) | (go_at_call 85; refine (reach_any M _ HMl.out).mono ?_; rintro e w4 ⟨rfl, hb4⟩; have HB4 := hide (HB3.out.trans (hb4.mono HB3.out.size)); have HX4 := hide (HX.out.below hb4 HX.out.lt); clear hb4) | (refine wpList_store_row rfl 105 (.tmp 6) (.tmp 15) rfl w4.heap.size _ rfl rfl 105 _ (Blk.new w4 _ _) infoMat rfl (row6_one _) ?_))
    generalize hW5 : World.setRow _ _ _ = W5
    have HR5 := hide (show Blk W5 w4.heap.size 105 (row6 (wN M 6)) by rw [← hW5]; exact setRow_heap _ _ _ _ _ _ (Blk.new w4 _ _))
    have HX5 := hide (show Blk W5 g 105 (row6 M) by rw [← hW5]; exact (HX4.out.alloc _).of (setRow_other _ _ _ _ (Nat.ne_of_lt HX4.out.lt)))
    have HB5 := hide (show Below w.heap.size w W5 by rw [← hW5]; exact setRow_below (HB4.out.alloc HB4.out.size _) HB4.out.size _)
    clear hW5 HX HX4 HB3
    have HVia := hide (fun i => via_wk (M := M) (by rw [HME.out]; exact HEin.out) i)
    have HRl := hide (wN_lt HMl.out 6)
    generalize wN M 6 = R at HR5 HVia HRl
    generalize w4.heap.size = g2 at HR5 ⊢
    clear HB4
    go_wp2_with fail
    go_loopw [7, 17] (fun _ i wr => ∃ k : Nat, k ≤ n ∧ i = .int .i64 k ∧ Hid (∀ j, j < k → (R j).testBit j = false) ∧ Hid (Blk wr g 105 (row6 M)) ∧ Hid (Blk wr g2 105 (row6 R)) ∧ Hid (Below w.heap.size w wr)) (fun _ i _ => n - (intOf i).toNat)
    case atStart => exact ⟨0, Nat.zero_le _, rfl, (fun j h => absurd h (by omega)), HX5.out, HR5.out, HB5.out⟩
    case round =>
      obtain ⟨k, hk, rfl, hno, hX, hR, hb⟩ := hrel
      have HNo := hide hno.out; have HX := hide hX.out; have HR := hide hR.out; have HB := hide hb.out
      clear hno hX hR hb HX5 HR5 HB5
      by_cases hlt : k < n
      · have hki : (k : Int) < (n : Int) := by omega
        have hk6 : k < 6 := by omega
        cases hq : (R k).testBit k with
        | false =>
          have HQ := hide hq
          have HN2 := hide (show ∀ j, j < k + 1 → (R j).testBit j = false from fun j hj => by
            rcases Nat.lt_succ_iff_lt_or_eq.1 hj with h | rfl
            · exact HNo.out j h
            · exact hq)
          clear hq
          go_wp2_with (first | (refine wpList_load_row rfl 105 (.tmp 6) rfl g2 rfl 105 _ (0, 0) _ HR.out Tryz.underlying105 rfl infoMat ?_) | (go_at_call 86; refine (has_ R k k hk6 hk6 (HRl.out _) _).mono ?_; rintro e w6 ⟨rfl, hb6⟩; have HX6 := hide (HX.out.below hb6 HX.out.lt); have HR6 := hide (HR.out.below hb6 HR.out.lt); have HB6 := hide (HB.out.trans (hb6.mono HB.out.size)); clear hb6; rw [HQ.out]))
          go_roundw
          case rel => exact ⟨k + 1, by omega, by go_num, HN2.out, HX6.out, HR6.out, HB6.out⟩
          case measure => simp [intOf]; omega
        | true =>
          have HQ := hide hq
          have HCy := hide ((HVia.out k).1 hq)
          have HFin := hide (fun far (hI : FarI (bitE M) k far) => show cycO (n : Int) xs = backL (bitE M) far k from by
            have h1 := HCy.out
            rw [HME.out] at hI h1 ⊢
            refine cyc_hit HV.out hlt h1 (fun j hj l hw => ?_) hI
            have h2 := (HVia.out j).2 ⟨l, by rw [HME.out]; exact hw⟩
            rw [HNo.out j hj] at h2
            cases h2)
          clear hq
          go_wp2_with (first | (refine wpList_load_row rfl 105 (.tmp 6) rfl g2 rfl 105 _ (0, 0) _ HR.out Tryz.underlying105 rfl infoMat ?_) | (go_at_call 86; refine (has_ R k k hk6 hk6 (HRl.out _) _).mono ?_; rintro e w6 ⟨rfl, hb6⟩; have HX6 := hide (HX.out.below hb6 HX.out.lt); have HB6 := hide (HB.out.trans (hb6.mono HB.out.size)); clear hb6; rw [HQ.out]) | (refine wpList_load_row rfl 105 (.tmp 5) rfl g rfl 105 _ (0, 0) _ HX6.out Tryz.underlying105 rfl infoMat ?_) | (go_at_call 87; refine (back_any M k _ HMl.out hk6 (by rw [HME.out]; exact HEin.out) HCy.out).mono ?_; rintro e w7 ⟨v7, far, rfl, hfar, hO7, hb7⟩; have HF7 := hide (HFin.out far hfar); have HO7 := hide hO7; have HB7 := hide (HB6.out.trans (hb7.mono HB6.out.size)); clear hfar hO7 hb7))
          go_ret
          exact ⟨_, rfl, by rw [HF7.out]; exact HO7.out.mono (fun b h => ⟨Nat.le_trans HB6.out.size h.1, h.2⟩) (fun _ _ => rfl), HB7.out⟩
      · have hkn : ¬ (k : Int) < (n : Int) := by omega
        have HFin := hide (show cycO (n : Int) xs = [] from cyc_none HV.out (fun i hi l hw => by
          have h2 := (HVia.out i).2 ⟨l, by rw [HME.out]; exact hw⟩
          rw [HNo.out i (by omega)] at h2
          cases h2))
        go_wp2_with fail
        go_ret
        exact ⟨_, rfl, by rw [HFin.out]; exact ⟨0, Hold.nil 0⟩, HB.out⟩
end Go.Proofs.YtjiobgfaohldhaaGreat
