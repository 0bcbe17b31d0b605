/- slices.Repeat([]int{-1}, 6). -/
import Derived.Test.YtnlicjgegclilaaDoorHold
import Derived.Test.YtnlicjgegclilaaDoorToA
import Derived.Laws.CopyOwn
import Derived.Deep.RegionLaw
namespace Go.Proofs.YtnlicjgegclilaaDoor
open Go.RowKit
set_option linter.unusedVariables false
set_option linter.unusedSimpArgs false

set_option maxHeartbeats 1000000 in
theorem mul64_16 (w : World) : Calls Tryd.prog 48 #[.int .u64 1, .int .u64 6] w fun e w' => e = .returned (.tuple #[.int .u64 0, .int .u64 6]) ∧ w = w' := by
  go_enter Tryd.func48, Tryd.ntmps48
  go_wp2
  go_ret2
  exact ⟨by kernel_rfl, rfl⟩
set_option maxHeartbeats 1000000 in
theorem mul_16 (w : World) : Calls Tryd.prog 44 #[.int .u64 1, .int .u64 6] w fun e w' => e = .returned (.tuple #[.int .u64 0, .int .u64 6]) ∧ w = w' := by
  go_enter Tryd.func44, Tryd.ntmps44
  go_wp2_with (go_at_call 48; refine (mul64_16 _).mono ?_; rintro e w' ⟨rfl, rfl⟩)
  go_ret2
  exact ⟨rfl, rfl⟩
def rowN (n : Nat) : List Value := List.replicate n (.int .i64 (-1)) ++ List.replicate (6 - n) (.int .i64 0)
theorem made6 : madeCells (Value.cells (.int .i64 0)) (6 * 1) = (rowN 0).toArray := by kernel_rfl
theorem one_src {W : World} {g : Nat} {u : Value} (h : W.cell? ⟨g, 0, none⟩ = some u) (j : Nat) (v : Value) (hj : [u][j]? = some v) : W.cell? ((⟨g, 0, none⟩ : Addr).add j) = some v := by
  match j, hj with
  | 0, hj =>
    have : u = v := by simpa using hj
    subst this
    rw [Go.WideShapes.add_plain]
    exact h
  | j + 1, hj => cases hj
theorem row_src {W : World} {g n : Nat} {cs : List Value} (h : Blk W g 3 (rowN n).toArray) (hc : cs = (rowN n).take cs.length) (j : Nat) (v : Value) (hj : cs[j]? = some v) : W.cell? ((⟨g, 0, none⟩ : Addr).add j) = some v := by
  rw [Go.WideShapes.add_plain, h.cell]
  rw [hc, List.getElem?_take] at hj
  split at hj
  · simpa using hj
  · cases hj
theorem size_int1 : (Tryd.prog.info? 3).map (·.size) = some 1 := by kernel_rfl
set_option maxRecDepth 10000 in
set_option maxHeartbeats 2000000 in
theorem repeat_six (g c : Nat) (w : World) (hB : Blk w g 3 #[.int .i64 (-1)]) :
    Calls Tryd.prog 35 #[.slice (some ⟨g, 0, none⟩) 1 c, .int .i64 6] w fun e w' => e = .returned (.slice (some ⟨w.heap.size, 0, none⟩) 6 6) ∧ Blk w' w.heap.size 3 (rowN 6).toArray ∧ Below w.heap.size w w' := by
  obtain ⟨i0, hi, hz0, hz1, hz2⟩ := info_parts infoInt_
  have hmk : ∀ W : World, (Instr.makeSlice 24 (.int .i64 6) (.int .i64 6)).run Tryd.prog W = .ok (.slice (some ⟨W.heap.size, 0, none⟩) 6 6) (W.alloc (.cells (rowN 0).toArray 3)) := fun W => by
    have h := run_make_rowN (P := Tryd.prog) 24 3 i0 (.int .i64 0) Tryd.underlying24 hi hz0 .i64 .i64 6 6 (Nat.le_refl _) (by rw [hz2]; omega) (by omega) W
    rw [hz1, made6] at h
    exact h
  have HB := hide hB
  have hmk := hmk w
  have HBw := hide ((Below.refl _ w).alloc (Nat.le_refl _) (.cells (rowN 0).toArray 3))
  have HBk := hide (Blk.new w 3 (rowN 0).toArray)
  have hg : g < w.heap.size := hB.lt
  have hcg := (hB.alloc (.cells (rowN 0).toArray 3)).cell 0
  simp only [List.getElem?_toArray, List.getElem?_cons_zero] at hcg
  clear hB
  go_enter Tryd.func35, Tryd.ntmps35
  go_upto_region 7 with (go_at_call 44; refine (mul_16 _).mono ?_; rintro e w' ⟨rfl, rfl⟩)
  generalize hW : w.alloc (.cells (rowN 0).toArray 3) = W at HBw HBk hcg ⊢
  go_wp2_with (refine wpList_copy_splice rfl (.tmp 31) (.tmp 32) 24 24 rfl 3 Tryd.underlying24 size_int1 (some ⟨w.heap.size, 0, none⟩) (some ⟨g, 0, none⟩) 6 6 1 c rfl rfl w.heap.size 0 (rowN 0) 3 HBk.out [.int .i64 (-1)] rfl (fun _ => ⟨rfl, ⟨g, 0, none⟩, rfl, one_src hcg⟩) (by decide) (by decide) w.heap.size w HBw.out (Nat.le_refl _) ?_; intro w4 hg4 hb4; have HG4 := hide hg4.out; have HB4 := hide hb4; clear hg4 hb4)
  go_loopw [8] (fun c wr => ∃ n : Nat, (n = 1 ∨ n = 2 ∨ n = 4 ∨ n = 6) ∧ c = .int .i64 n ∧ Hid (Blk wr w.heap.size 3 (rowN n).toArray) ∧ Hid (Below w.heap.size w wr)) (fun c _ => 6 - (intOf c).toNat)
  case atStart => exact ⟨1, .inl rfl, rfl, HG4.out, HB4.out⟩
  case round =>
    obtain ⟨n, hn, rfl, hk, hb⟩ := hrel
    have HK := hide hk.out; have HBr := hide hb.out
    clear hk hb HG4 HB4 HBw HBk
    rcases hn with rfl | rfl | rfl | rfl
    · have HS := hide (show (splice (rowN 1) 1 [.int .i64 (-1)]).toArray = (rowN 2).toArray by kernel_rfl)
      have HL := hide (show 1 + ([.int .i64 (-1)] : List Value).length ≤ (rowN 1).length by decide)
      have HO := hide (show ∀ v ∈ ([.int .i64 (-1)] : List Value), v.oneCell' = true by decide)
      have HK2 := hide (show Blk wr.drew w.heap.size 3 (rowN 1).toArray from HK.out)
      have HBr2 := hide (show Below w.heap.size w wr.drew from HBr.out.drew)
      have HSr := hide (row_src (cs := [.int .i64 (-1)]) HK2.out rfl)
      go_wp2_with fail
      generalize rowN 1 = R at HK2 HS HL
      go_region_law (refine step_copy_splice rfl (.tmp 41) (.tmp 44) 24 24 rfl 3 Tryd.underlying24 size_int1 (some ⟨w.heap.size, 1, none⟩) (some ⟨w.heap.size, 0, none⟩) 5 5 1 6 (by simp [Act.eval, Act.put]) (by simp [Act.eval, Act.put]) w.heap.size 1 R 3 HK2.out [.int .i64 (-1)] rfl (fun _ => ⟨rfl, ⟨w.heap.size, 0, none⟩, rfl, HSr.out⟩) HL.out HO.out w.heap.size w HBr2.out (Nat.le_refl _) ?_; intro w4 hg4 hb4; have HG4 := hide hg4.out; have HB4 := hide hb4; clear hg4 hb4; rw [HS.out] at HG4)
      go_simp
      rw [show IntKind.i64.wrap 2 = 2 from by decide]
      go_roundw
      case rel => exact ⟨_, _, _, _, _, _, _, _, _, _, _, _, _, _, ⟨2, .inr (.inl rfl), rfl, HG4.out, HB4.out⟩, rfl⟩
      case measure => simp [intOf]
    · have HS := hide (show (splice (rowN 2) 2 [.int .i64 (-1), .int .i64 (-1)]).toArray = (rowN 4).toArray by kernel_rfl)
      have HL := hide (show 2 + ([.int .i64 (-1), .int .i64 (-1)] : List Value).length ≤ (rowN 2).length by decide)
      have HO := hide (show ∀ v ∈ ([.int .i64 (-1), .int .i64 (-1)] : List Value), v.oneCell' = true by decide)
      have HK2 := hide (show Blk wr.drew w.heap.size 3 (rowN 2).toArray from HK.out)
      have HBr2 := hide (show Below w.heap.size w wr.drew from HBr.out.drew)
      have HSr := hide (row_src (cs := [.int .i64 (-1), .int .i64 (-1)]) HK2.out rfl)
      go_wp2_with fail
      generalize rowN 2 = R at HK2 HS HL
      go_region_law (refine step_copy_splice rfl (.tmp 41) (.tmp 44) 24 24 rfl 3 Tryd.underlying24 size_int1 (some ⟨w.heap.size, 2, none⟩) (some ⟨w.heap.size, 0, none⟩) 4 4 2 6 (by simp [Act.eval, Act.put]) (by simp [Act.eval, Act.put]) w.heap.size 2 R 3 HK2.out [.int .i64 (-1), .int .i64 (-1)] rfl (fun _ => ⟨rfl, ⟨w.heap.size, 0, none⟩, rfl, HSr.out⟩) HL.out HO.out w.heap.size w HBr2.out (Nat.le_refl _) ?_; intro w4 hg4 hb4; have HG4 := hide hg4.out; have HB4 := hide hb4; clear hg4 hb4; rw [HS.out] at HG4)
      go_simp
      rw [show IntKind.i64.wrap 4 = 4 from by decide]
      go_roundw
      case rel => exact ⟨_, _, _, _, _, _, _, _, _, _, _, _, _, _, ⟨4, .inr (.inr (.inl rfl)), rfl, HG4.out, HB4.out⟩, rfl⟩
      case measure => simp [intOf]
    · have HS := hide (show (splice (rowN 4) 4 [.int .i64 (-1), .int .i64 (-1)]).toArray = (rowN 6).toArray by kernel_rfl)
      have HL := hide (show 4 + ([.int .i64 (-1), .int .i64 (-1)] : List Value).length ≤ (rowN 4).length by decide)
      have HO := hide (show ∀ v ∈ ([.int .i64 (-1), .int .i64 (-1)] : List Value), v.oneCell' = true by decide)
      have HK2 := hide (show Blk wr.drew w.heap.size 3 (rowN 4).toArray from HK.out)
      have HBr2 := hide (show Below w.heap.size w wr.drew from HBr.out.drew)
      have HSr := hide (row_src (cs := [.int .i64 (-1), .int .i64 (-1)]) HK2.out rfl)
      go_wp2_with fail
      generalize rowN 4 = R at HK2 HS HL
      go_region_law (refine step_copy_splice rfl (.tmp 41) (.tmp 44) 24 24 rfl 3 Tryd.underlying24 size_int1 (some ⟨w.heap.size, 4, none⟩) (some ⟨w.heap.size, 0, none⟩) 2 2 4 6 (by simp [Act.eval, Act.put]) (by simp [Act.eval, Act.put]) w.heap.size 4 R 3 HK2.out [.int .i64 (-1), .int .i64 (-1)] rfl (fun _ => ⟨rfl, ⟨w.heap.size, 0, none⟩, rfl, HSr.out⟩) HL.out HO.out w.heap.size w HBr2.out (Nat.le_refl _) ?_; intro w4 hg4 hb4; have HG4 := hide hg4.out; have HB4 := hide hb4; clear hg4 hb4; rw [HS.out] at HG4)
      go_simp
      rw [show IntKind.i64.wrap 6 = 6 from by decide]
      go_roundw
      case rel => exact ⟨_, _, _, _, _, _, _, _, _, _, _, _, _, _, ⟨6, .inr (.inr (.inr rfl)), rfl, HG4.out, HB4.out⟩, rfl⟩
      case measure => simp [intOf]
    · go_wp2_with fail
      go_ret
      exact ⟨rfl, HK.out, HBr.out⟩
end Go.Proofs.YtnlicjgegclilaaDoor
