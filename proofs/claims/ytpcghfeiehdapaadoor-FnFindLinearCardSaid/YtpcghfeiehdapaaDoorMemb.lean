/- The program's members: the numbers of a small set's bits, ascending. The program's members. -/
import Derived.Test.YtpcghfeiehdapaaDoorPut
import Derived.Laws.Bits64b
import Derived.Lib.TrailingZeros
import Derived.Laws.BitsAllLaws
import Derived.Shelf.Spec.TrailingZeros
import Derived.Test.YtpcghfeiehdapaaDoorToA
namespace Go.Proofs.YtpcghfeiehdapaaDoor
open Go.RowKit
set_option linter.unusedVariables false
set_option linter.unusedSimpArgs false

/-- The table of the library, in its variable. -/
def TabDB (w : World) : Prop := ∀ j, j < 64 → w.cell? ⟨1, j, none⟩ = some (.int .u8 (Lib.deBruijn64tab.getD j 0))
set_option maxHeartbeats 1000000 in
theorem tz64_core (x k idx : Nat) (w : World) (hx0 : ((x : Int) == 0) = false)
    (key : IntKind.u64.wrap (bits BinOp.and IntKind.u64 (x : Int) (IntKind.u64.wrap (-(x : Int))) * 285870213051353865) / 288230376151711744 = (idx : Int))
    (hi : idx < 64) (hcell : w.cell? ⟨1, idx, none⟩ = some (.int .u8 k)) (hk : k < 64) :
    Calls Tryd.prog 52 #[.int .u64 x] w fun e w' => e = .returned (.int .i64 k) ∧ w = w' := by
  go_enter Tryd.func52, Tryd.ntmps52
  go_wp2_with (simp only [key])
  go_ret
  exact ⟨rfl, rfl⟩
theorem tz64_any (x : Nat) (hx0 : x ≠ 0) (hx : x < 18446744073709551616) (w : World) (hT : TabDB w) :
    Calls Tryd.prog 52 #[.int .u64 x] w fun e w' => e = .returned (.int .i64 (Lib.ctz 64 x)) ∧ w = w' := by
  obtain ⟨hlow, hk⟩ := Lib.lowest_bit 64 x hx0 hx
  obtain ⟨hi, htab⟩ := Lib.deBruijn64_at _ hk
  have hcell := hT _ hi
  rw [htab] at hcell
  exact tz64_core x _ _ w (by simp; omega) (tz64_key x _ hx hx0 hlow) hi hcell hk
theorem tz_any (x : Nat) (hx0 : x ≠ 0) (hx : x < 18446744073709551616) (w : World) (hT : TabDB w) :
    Calls Tryd.prog 43 #[.int .u64 x] w fun e w' => e = .returned (.int .i64 (Lib.ctz 64 x)) ∧ w = w' := by
  have HZ := hide (tz64_any x hx0 hx w hT)
  clear hT hx0 hx
  generalize Lib.ctz 64 x = k at HZ ⊢
  go_enter Tryd.func43, Tryd.ntmps43
  go_wp2_with (go_at_call 52; refine HZ.out.mono ?_; rintro e w' ⟨rfl, rfl⟩)
  go_ret
  exact ⟨rfl, rfl⟩
theorem and127 (y : Int) : ∃ n : Nat, n ≤ 127 ∧ bits .and .i64 y 127 = (n : Int) := by
  have h : ((BitVec.ofInt 64 y &&& BitVec.ofInt 64 127).toNat) ≤ 127 := by
    rw [BitVec.toNat_and]
    exact Nat.le_trans Nat.and_le_right (by decide)
  refine ⟨(BitVec.ofInt 64 y &&& BitVec.ofInt 64 127).toNat, h, ?_⟩
  show IntKind.i64.wrap ((BitVec.ofInt 64 y &&& BitVec.ofInt 64 127).toNat : Int) = _
  rw [IntKind.wrap_i64]
  omega
theorem ones64_any (x : Int) (w : World) :
    Calls Tryd.prog 50 #[.int .u64 x] w fun e w' => (∃ n : Nat, n ≤ 127 ∧ e = .returned (.int .i64 n)) ∧ w = w' := by
  go_enter Tryd.func50, Tryd.ntmps50
  go_wp2
  go_ret
  obtain ⟨n, hn, he⟩ := and127 _
  exact ⟨⟨n, hn, by rw [← he]; rfl⟩, rfl⟩
theorem ones_any (x : Nat) (w : World) (hx : x < 64) :
    Calls Tryd.prog 42 #[.int .u64 x] w fun e w' => (∃ n : Nat, n ≤ 127 ∧ e = .returned (.int .i64 n)) ∧ w = w' := by
  have HZ := hide (ones64_any x w)
  go_enter Tryd.func42, Tryd.ntmps42
  go_wp2_with (go_at_call 50; refine HZ.out.mono ?_; rintro e w' ⟨⟨n, hn, rfl⟩, rfl⟩)
  go_ret
  exact ⟨⟨n, hn, rfl⟩, rfl⟩
/-- The numbers of a small set, ascending, by taking the lowest one first. -/
def membF : Nat → Nat → List Int
  | 0, _ => []
  | f + 1, x => if x = 0 then [] else (Lib.ctz 64 x : Int) :: membF f (x &&& (x - 1))
theorem membF_small : ∀ x, x < 64 → membF 6 x = List.map (fun j : Nat => (j : Int)) ((List.range 6).filter fun j => x.testBit j) := by decide +kernel
theorem TabDB.below {w w' : World} (h : TabDB w) (h1 : 1 < w.heap.size) (hb : Below w.heap.size w w') : TabDB w' := fun j hj => (hb.cell (p := ⟨1, j, none⟩) h1).trans (h j hj)
theorem TabDB.only {K : Nat → Prop} {w w' : World} (h : TabDB w) (h1 : 1 < w.heap.size) (hb : Only K w w') (hK : ¬ K 1) : TabDB w' := fun j hj => (World.cell?_of_block (hb.block 1 h1 hK)).trans (h j hj)
/-- The set without its i lowest numbers. -/
def clrI : Nat → Nat → Nat
  | 0, x => x
  | i + 1, x => clrI i x &&& (clrI i x - 1)
def memI : Nat → Nat → List Int
  | 0, _ => []
  | i + 1, x => memI i x ++ [(Lib.ctz 64 (clrI i x) : Int)]
theorem clr_small : ∀ x, x < 64 → ∀ i, i < 7 → clrI i x < 64 := by decide +kernel
theorem clr_end : ∀ x, x < 64 → clrI 6 x = 0 := by decide +kernel
theorem memI_end : ∀ x, x < 64 → ∀ i, i < 7 → (∀ j, j < i → clrI j x ≠ 0) → clrI i x = 0 → memI i x = membF 6 x := by decide +kernel
theorem and_low : ∀ y : Nat, y < 64 → y ≠ 0 → bits .and .u64 (y : Int) ((y : Int) - 1) = ((y &&& (y - 1) : Nat) : Int) := by decide +kernel
theorem and_less : ∀ y : Nat, y < 64 → y ≠ 0 → y &&& (y - 1) < y := by decide +kernel
theorem memI_len (x : Nat) : ∀ i, (memI i x).length = i
  | 0 => rfl
  | i + 1 => by rw [memI, List.length_append, memI_len x i]; rfl
set_option maxRecDepth 10000 in
set_option maxHeartbeats 1000000 in
theorem members_any (x : Nat) (w : World) (hx : x < 64) (h1 : 1 < w.heap.size) (hT : TabDB w) :
    Calls Tryd.prog 32 #[.int .u64 x] w fun e w' => ∃ v, e = .returned v ∧ Own tInt 3 w' (New w w') (membF 6 x) v ∧ Below w.heap.size w w' := by
  obtain ⟨i0, hi, hz0, hz1, hz2⟩ := info_parts infoInt_
  have hmk : ∀ (W : World) (n : Nat), n ≤ 127 → (Instr.makeSlice 24 (.int .i64 0) (.int .i64 (n : Int))).run Tryd.prog W = .ok (.slice (some ⟨W.heap.size, 0, none⟩) 0 n) (W.alloc (.cells (madeCells (Value.cells (.int .i64 0)) (n * 1)) 3)) := fun W n hn => by
    have h := run_make_rowN (P := Tryd.prog) 24 3 i0 (.int .i64 0) Tryd.underlying24 hi hz0 .i64 .i64 0 n (Nat.zero_le _) (by rw [hz2]; omega) (by omega) W
    rw [hz1] at h
    exact h
  have HMk := hide hmk
  have HOn := hide (ones_any x w hx)
  have HT := hide hT
  have HCs := hide (clr_small x hx)
  have HCe := hide (clr_end x hx)
  have HMe := hide (memI_end x hx)
  have HC0 := hide (show clrI 0 x = x from rfl)
  clear hT hmk
  go_enter Tryd.func32, Tryd.ntmps32
  go_wp2_with (go_at_call 42; refine HOn.out.mono ?_; rintro e w' ⟨⟨n, hn, rfl⟩, rfl⟩; have hmn := fun W => HMk.out W n hn)
  have HO0 := hide (Own.made (T := tInt) (e := 3) w (S := fun b => w.heap.size ≤ b ∧ Old (w.alloc (.cells (madeCells (Value.cells (.int .i64 0)) n) 3)) b) (madeCells (Value.cells (.int .i64 0)) n) n (by rw [size_madeCells]; exact (Nat.mul_one n).symm) (by simp only [maxLen]; omega) ⟨Nat.le_refl _, by simp [Old]⟩)
  clear hmn HMk
  go_loopw [0, 3] (fun y v wr => ∃ i : Nat, i < 7 ∧ y = .int .u64 ((clrI i x : Nat) : Int) ∧ Hid (∀ j, j < i → clrI j x ≠ 0) ∧ Hid (Own tInt 3 wr (fun b => w.heap.size ≤ b ∧ Old wr b) (memI i x) v) ∧ Hid (Below w.heap.size w wr)) (fun y _ _ => (intOf y).toNat)
  case atStart => exact ⟨0, by omega, by rw [HC0.out], (fun j h => absurd h (by omega)), HO0.out, (Below.refl _ w).alloc (Nat.le_refl _) _⟩
  case round =>
    obtain ⟨i, hi7, rfl, hN, hO, hb⟩ := hrel
    have HN := hide hN.out; have HO := hide hO.out; have HB := hide hb.out
    clear hN hO hb HO0
    have hlt := HCs.out i hi7
    have HE := hide (HMe.out i hi7 HN.out)
    have HS := hide (show memI (i + 1) x = memI i x ++ [(Lib.ctz 64 (clrI i x) : Int)] from rfl)
    have HC := hide (show clrI (i + 1) x = clrI i x &&& (clrI i x - 1) from rfl)
    have HNx := hide (fun (h0 : clrI i x ≠ 0) => (show i + 1 < 7 ∧ ∀ j, j < i + 1 → clrI j x ≠ 0 from ⟨by
        by_cases h : i = 6
        · subst h; exact absurd HCe.out h0
        · omega, fun j hj => by
        by_cases h : j < i
        · exact HN.out j h
        · obtain rfl : j = i := by omega
          exact h0⟩))
    have hml := memI_len x i
    generalize clrI i x = y at hlt HE HS HC HNx ⊢
    generalize memI i x = M at HO HE HS hml
    by_cases hy : y = 0
    · subst hy
      have HF := hide (HE.out rfl)
      go_wp2_with fail
      go_ret
      exact ⟨_, rfl, by rw [← HF.out]; exact HO.out, HB.out⟩
    · have hy0 : ((y : Int) != 0) = true := by rw [bne_iff_ne]; omega
      have hys : IntKind.u64.wrap ((y : Int) - 1) = (y : Int) - 1 := by rw [IntKind.wrap_u64]; omega
      have hya := and_low y hlt hy
      have hyl := and_less y hlt hy
      have HN2 := hide (HNx.out hy)
      have HTz := hide (tz_any y hy (by omega) wr (HT.out.below h1 HB.out))
      generalize y &&& (y - 1) = z at hya hyl HC
      generalize (Lib.ctz 64 y) = kz at HTz HS
      clear hy HE HNx
      go_wp2_with (first
        | (go_at_call 43; refine HTz.out.mono ?_; rintro e w' ⟨rfl, rfl⟩)
        | (at_builtin; go_loud (refine wpList_put tInt rfl (.tmp 13) (.tmp 16) 24 rfl 3 i0 _ 8 Tryd.underlying24 hi hz0 hz1 hz2 rfl (by decide) (fun b => w.heap.size ≤ b) (fun _ => False) M (kz : Int) [.int .i64 kz] _ rfl HO.out 1 rfl rfl (fun _ h => h.elim) (fun b hb => Nat.le_trans HB.out.size hb) (by simp only [maxLen]; omega) (by omega) ?_; intro v3 w3 hO_ hK_; have HO3 := hide hO_; have HK3 := hide hK_; clear hO_ hK_)))
      go_roundw
      case rel => exact ⟨i + 1, HN2.out.1, by rw [HC.out], HN2.out.2, by rw [HS.out]; exact HO3.out, below_only HB.out HK3.out HB.out.size (fun _ h => h)⟩
      case measure => simp [intOf]; omega
end Go.Proofs.YtpcghfeiehdapaaDoor
