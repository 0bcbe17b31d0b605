/- The program's members: the numbers of a small set's bits, ascending. The program's members. Orders that follow spans: the program's timely, the reference's l15Forward. Orders that follow spans: what is asked of each number. -/
import Derived.Test.YtaaagoppecnmmaaDoorPut
import Derived.Laws.Bits64b
import Derived.Lib.TrailingZeros
import Derived.Laws.BitsAllLaws
import Derived.Shelf.Spec.TrailingZeros
import Derived.Test.YtaaagoppecnmmaaDoorToA
import Derived.Test.YtaaagoppecnmmaaDoorElems
import Derived.Test.YtaaagoppecnmmaaDoorProg
import Derived.BigQuiet
import Derived.Test.YtaaagoppecnmmaaDoorSearchM
namespace Go.Proofs.YtaaagoppecnmmaaDoor
open Go.RowKit
set_option linter.unusedVariables false
set_option linter.unusedSimpArgs false

/-- The table of the library, in its variable. -/
def TabDB (w : World) : Prop := ∀ j, j < 64 → w.cell? ⟨1, j, none⟩ = some (.int .u8 (Lib.deBruijn64tab.getD j 0))
set_option maxHeartbeats 1000000 in
theorem tz64_core (x k idx : Nat) (w : World) (hx0 : ((x : Int) == 0) = false)
    (key : IntKind.u64.wrap (bits BinOp.and IntKind.u64 (x : Int) (IntKind.u64.wrap (-(x : Int))) * 285870213051353865) / 288230376151711744 = (idx : Int))
    (hi : idx < 64) (hcell : w.cell? ⟨1, idx, none⟩ = some (.int .u8 k)) (hk : k < 64) :
    Calls Tryd.prog 161 #[.int .u64 x] w fun e w' => e = .returned (.int .i64 k) ∧ w = w' := by
  go_enter Tryd.func161, Tryd.ntmps161
  go_wp2_with (simp only [key])
  go_ret
  exact ⟨rfl, rfl⟩
theorem tz64_any (x : Nat) (hx0 : x ≠ 0) (hx : x < 18446744073709551616) (w : World) (hT : TabDB w) :
    Calls Tryd.prog 161 #[.int .u64 x] w fun e w' => e = .returned (.int .i64 (Lib.ctz 64 x)) ∧ w = w' := by
  obtain ⟨hlow, hk⟩ := Lib.lowest_bit 64 x hx0 hx
  obtain ⟨hi, htab⟩ := Lib.deBruijn64_at _ hk
  have hcell := hT _ hi
  rw [htab] at hcell
  exact tz64_core x _ _ w (by simp; omega) (tz64_key x _ hx hx0 hlow) hi hcell hk
theorem tz_any (x : Nat) (hx0 : x ≠ 0) (hx : x < 18446744073709551616) (w : World) (hT : TabDB w) :
    Calls Tryd.prog 133 #[.int .u64 x] w fun e w' => e = .returned (.int .i64 (Lib.ctz 64 x)) ∧ w = w' := by
  have HZ := hide (tz64_any x hx0 hx w hT)
  clear hT hx0 hx
  generalize Lib.ctz 64 x = k at HZ ⊢
  go_enter Tryd.func133, Tryd.ntmps133
  go_wp2_with (go_at_call 161; refine HZ.out.mono ?_; rintro e w' ⟨rfl, rfl⟩)
  go_ret
  exact ⟨rfl, rfl⟩
theorem and127 (y : Int) : ∃ n : Nat, n ≤ 127 ∧ bits .and .i64 y 127 = (n : Int) := by
  have h : ((BitVec.ofInt 64 y &&& BitVec.ofInt 64 127).toNat) ≤ 127 := by
    rw [BitVec.toNat_and]
    exact Nat.le_trans Nat.and_le_right (by decide)
  refine ⟨(BitVec.ofInt 64 y &&& BitVec.ofInt 64 127).toNat, h, ?_⟩
  show IntKind.i64.wrap ((BitVec.ofInt 64 y &&& BitVec.ofInt 64 127).toNat : Int) = _
  rw [IntKind.wrap_i64]
  omega
theorem ones64_any (x : Int) (w : World) :
    Calls Tryd.prog 159 #[.int .u64 x] w fun e w' => (∃ n : Nat, n ≤ 127 ∧ e = .returned (.int .i64 n)) ∧ w = w' := by
  go_enter Tryd.func159, Tryd.ntmps159
  go_wp2
  go_ret
  obtain ⟨n, hn, he⟩ := and127 _
  exact ⟨⟨n, hn, by rw [← he]; rfl⟩, rfl⟩
theorem ones_any (x : Nat) (w : World) (hx : x < 64) :
    Calls Tryd.prog 132 #[.int .u64 x] w fun e w' => (∃ n : Nat, n ≤ 127 ∧ e = .returned (.int .i64 n)) ∧ w = w' := by
  have HZ := hide (ones64_any x w)
  go_enter Tryd.func132, Tryd.ntmps132
  go_wp2_with (go_at_call 159; refine HZ.out.mono ?_; rintro e w' ⟨⟨n, hn, rfl⟩, rfl⟩)
  go_ret
  exact ⟨⟨n, hn, rfl⟩, rfl⟩
/-- The numbers of a small set, ascending, by taking the lowest one first. -/
def membF : Nat → Nat → List Int
  | 0, _ => []
  | f + 1, x => if x = 0 then [] else (Lib.ctz 64 x : Int) :: membF f (x &&& (x - 1))
theorem membF_small : ∀ x, x < 64 → membF 6 x = List.map (fun j : Nat => (j : Int)) ((List.range 6).filter fun j => x.testBit j) := by decide +kernel
theorem TabDB.below {w w' : World} (h : TabDB w) (h1 : 1 < w.heap.size) (hb : Below w.heap.size w w') : TabDB w' := fun j hj => (hb.cell (p := ⟨1, j, none⟩) h1).trans (h j hj)
theorem TabDB.only {K : Nat → Prop} {w w' : World} (h : TabDB w) (h1 : 1 < w.heap.size) (hb : Only K w w') (hK : ¬ K 1) : TabDB w' := fun j hj => (World.cell?_of_block (hb.block 1 h1 hK)).trans (h j hj)
/-- The set without its i lowest numbers. -/
def clrI : Nat → Nat → Nat
  | 0, x => x
  | i + 1, x => clrI i x &&& (clrI i x - 1)
def memI : Nat → Nat → List Int
  | 0, _ => []
  | i + 1, x => memI i x ++ [(Lib.ctz 64 (clrI i x) : Int)]
theorem clr_small : ∀ x, x < 64 → ∀ i, i < 7 → clrI i x < 64 := by decide +kernel
theorem clr_end : ∀ x, x < 64 → clrI 6 x = 0 := by decide +kernel
theorem memI_end : ∀ x, x < 64 → ∀ i, i < 7 → (∀ j, j < i → clrI j x ≠ 0) → clrI i x = 0 → memI i x = membF 6 x := by decide +kernel
theorem and_low : ∀ y : Nat, y < 64 → y ≠ 0 → bits .and .u64 (y : Int) ((y : Int) - 1) = ((y &&& (y - 1) : Nat) : Int) := by decide +kernel
theorem and_less : ∀ y : Nat, y < 64 → y ≠ 0 → y &&& (y - 1) < y := by decide +kernel
theorem memI_len (x : Nat) : ∀ i, (memI i x).length = i
  | 0 => rfl
  | i + 1 => by rw [memI, List.length_append, memI_len x i]; rfl
set_option maxRecDepth 10000 in
set_option maxHeartbeats 1000000 in
theorem members_any (x : Nat) (w : World) (hx : x < 64) (h1 : 1 < w.heap.size) (hT : TabDB w) :
    Calls Tryd.prog 66 #[.int .u64 x] w fun e w' => ∃ v, e = .returned v ∧ Own tInt 3 w' (New w w') (membF 6 x) v ∧ Below w.heap.size w w' := by
  obtain ⟨i0, hi, hz0, hz1, hz2⟩ := info_parts infoInt_
  have hmk : ∀ (W : World) (n : Nat), n ≤ 127 → (Instr.makeSlice 30 (.int .i64 0) (.int .i64 (n : Int))).run Tryd.prog W = .ok (.slice (some ⟨W.heap.size, 0, none⟩) 0 n) (W.alloc (.cells (madeCells (Value.cells (.int .i64 0)) (n * 1)) 3)) := fun W n hn => by
    have h := run_make_rowN (P := Tryd.prog) 30 3 i0 (.int .i64 0) Tryd.underlying30 hi hz0 .i64 .i64 0 n (Nat.zero_le _) (by rw [hz2]; omega) (by omega) W
    rw [hz1] at h
    exact h
  have HMk := hide hmk
  have HOn := hide (ones_any x w hx)
  have HT := hide hT
  have HCs := hide (clr_small x hx)
  have HCe := hide (clr_end x hx)
  have HMe := hide (memI_end x hx)
  have HC0 := hide (show clrI 0 x = x from rfl)
  clear hT hmk
  go_enter Tryd.func66, Tryd.ntmps66
  go_wp2_with (go_at_call 132; refine HOn.out.mono ?_; rintro e w' ⟨⟨n, hn, rfl⟩, rfl⟩; have hmn := fun W => HMk.out W n hn)
  have HO0 := hide (Own.made (T := tInt) (e := 3) w (S := fun b => w.heap.size ≤ b ∧ Old (w.alloc (.cells (madeCells (Value.cells (.int .i64 0)) n) 3)) b) (madeCells (Value.cells (.int .i64 0)) n) n (by rw [size_madeCells]; exact (Nat.mul_one n).symm) (by simp only [maxLen]; omega) ⟨Nat.le_refl _, by simp [Old]⟩)
  clear hmn HMk
  go_loopw [0, 3] (fun y v wr => ∃ i : Nat, i < 7 ∧ y = .int .u64 ((clrI i x : Nat) : Int) ∧ Hid (∀ j, j < i → clrI j x ≠ 0) ∧ Hid (Own tInt 3 wr (fun b => w.heap.size ≤ b ∧ Old wr b) (memI i x) v) ∧ Hid (Below w.heap.size w wr)) (fun y _ _ => (intOf y).toNat)
  case atStart => exact ⟨0, by omega, by rw [HC0.out], (fun j h => absurd h (by omega)), HO0.out, (Below.refl _ w).alloc (Nat.le_refl _) _⟩
  case round =>
    obtain ⟨i, hi7, rfl, hN, hO, hb⟩ := hrel
    have HN := hide hN.out; have HO := hide hO.out; have HB := hide hb.out
    clear hN hO hb HO0
    have hlt := HCs.out i hi7
    have HE := hide (HMe.out i hi7 HN.out)
    have HS := hide (show memI (i + 1) x = memI i x ++ [(Lib.ctz 64 (clrI i x) : Int)] from rfl)
    have HC := hide (show clrI (i + 1) x = clrI i x &&& (clrI i x - 1) from rfl)
    have HNx := hide (fun (h0 : clrI i x ≠ 0) => (show i + 1 < 7 ∧ ∀ j, j < i + 1 → clrI j x ≠ 0 from ⟨by
        by_cases h : i = 6
        · subst h; exact absurd HCe.out h0
        · omega, fun j hj => by
        by_cases h : j < i
        · exact HN.out j h
        · obtain rfl : j = i := by omega
          exact h0⟩))
    have hml := memI_len x i
    generalize clrI i x = y at hlt HE HS HC HNx ⊢
    generalize memI i x = M at HO HE HS hml
    by_cases hy : y = 0
    · subst hy
      have HF := hide (HE.out rfl)
      go_wp2_with fail
      go_ret
      exact ⟨_, rfl, by rw [← HF.out]; exact HO.out, HB.out⟩
    · have hy0 : ((y : Int) != 0) = true := by rw [bne_iff_ne]; omega
      have hys : IntKind.u64.wrap ((y : Int) - 1) = (y : Int) - 1 := by rw [IntKind.wrap_u64]; omega
      have hya := and_low y hlt hy
      have hyl := and_less y hlt hy
      have HN2 := hide (HNx.out hy)
      have HTz := hide (tz_any y hy (by omega) wr (HT.out.below h1 HB.out))
      generalize y &&& (y - 1) = z at hya hyl HC
      generalize (Lib.ctz 64 y) = kz at HTz HS
      clear hy HE HNx
      go_wp2_with (first
        | (go_at_call 133; refine HTz.out.mono ?_; rintro e w' ⟨rfl, rfl⟩)
        | (at_builtin; go_loud (refine wpList_put tInt rfl (.tmp 13) (.tmp 16) 30 rfl 3 i0 _ 8 Tryd.underlying30 hi hz0 hz1 hz2 rfl (by decide) (fun b => w.heap.size ≤ b) (fun _ => False) M (kz : Int) [.int .i64 kz] _ rfl HO.out 1 rfl rfl (fun _ h => h.elim) (fun b hb => Nat.le_trans HB.out.size hb) (by simp only [maxLen]; omega) (by omega) ?_; intro v3 w3 hO_ hK_; have HO3 := hide hO_; have HK3 := hide hK_; clear hO_ hK_)))
      go_roundw
      case rel => exact ⟨i + 1, HN2.out.1, by rw [HC.out], HN2.out.2, by rw [HS.out]; exact HO3.out, below_only HB.out HK3.out HB.out.size (fun _ h => h)⟩
      case measure => simp [intOf]; omega
def spAt (sp : List Span) (o : List Int) (k : Nat) : Span := sp.getD (o.getD k 0).toNat ⟨0, 0⟩
def rowT (sp : List Span) (o : List Int) (k n : Nat) : Bool := (List.range n).all fun j => !decide ((spAt sp o k).To < (spAt sp o j).From)
def timeB (sp : List Span) (o : List Int) (n : Nat) : Bool := (List.range n).all fun k => rowT sp o k k
theorem rowT_succ (sp : List Span) (o : List Int) (k n : Nat) (h : rowT sp o k n = true) (hd : decide ((spAt sp o k).To < (spAt sp o n).From) = false) : rowT sp o k (n + 1) = true := by
  unfold rowT at h ⊢
  rw [List.range_succ, List.all_append, h]
  simp [hd]
theorem timeB_succ (sp : List Span) (o : List Int) (n : Nat) (h : timeB sp o n = true) (hd : rowT sp o n n = true) : timeB sp o (n + 1) = true := by
  unfold timeB at h ⊢
  rw [List.range_succ, List.all_append, h]
  simp [hd]
theorem timeB_stop {sp : List Span} {o : List Int} {k j n : Nat} (hk : k < n) (hj : j < k) (hd : decide ((spAt sp o k).To < (spAt sp o j).From) = true) : timeB sp o n = false := by
  unfold timeB
  rw [List.all_eq_false]
  refine ⟨k, List.mem_range.2 hk, ?_⟩
  rw [Bool.not_eq_true]
  unfold rowT
  rw [List.all_eq_false]
  exact ⟨j, List.mem_range.2 hj, by rw [hd]; simp⟩
theorem spAt_eq {sp : List Span} {o : List Int} {k m : Nat} (hk : k < o.length) (hm : o[k] = (m : Int)) (hms : m < sp.length) : spAt sp o k = sp[m] := by
  have h1 : o.getD k 0 = (m : Int) := by rw [List.getD_eq_getElem?_getD, List.getElem?_eq_getElem hk]; exact hm
  unfold spAt
  rw [h1, Int.toNat_natCast, List.getD_eq_getElem?_getD, List.getElem?_eq_getElem hms]
  rfl
set_option maxRecDepth 10000 in
set_option maxHeartbeats 2000000 in
theorem implTimely (sp : List Span) (o : List Int) (A B : Option Addr) (c d : Nat) (w : World) (hm : sp.length ≤ maxLen) (hmo : o.length ≤ 1048576) (hod : o.length ≤ d) (hin : ∀ n ∈ o, 0 ≤ n ∧ n < sp.length) (hA : Row tSpan w (Old w) A sp) (hN : Row tInt w (Old w) B o) :
    Calls Tryd.prog 87 #[.slice A sp.length c, .slice B o.length d] w fun e w' => e = .returned (.bool (timeB sp o o.length)) ∧ Below w.heap.size w w' := by
  have hq : sp.length ≤ 9223372036854775807 := by simpa [maxLen] using hm
  have hqo : o.length ≤ 9223372036854775807 := by omega
  have HA := hide hA; have HN := hide hN; have HIn := hide hin
  clear hA hN hin hm
  go_enter Tryd.func87, Tryd.ntmps87
  go_wp2_with fail
  go_loopw [5, 6, 8, 11] (fun _ _ _ i wr => ∃ k : Nat, k ≤ o.length ∧ i = .int .i64 k ∧ Hid (timeB sp o k = true) ∧ Hid (Below w.heap.size w wr)) (fun _ _ _ i _ => o.length - (intOf i).toNat)
  case atStart => exact ⟨0, Nat.zero_le _, rfl, rfl, Below.refl _ _⟩
  case round =>
    obtain ⟨k, hk, rfl, hT, hb⟩ := hrel
    have HT := hide hT.out; have HB := hide hb.out
    clear hT hb
    by_cases hlt : k < o.length
    · obtain ⟨b, off, hBe, hbS, c0⟩ := at_Int HN.out HB.out hlt
      subst hBe
      obtain ⟨hn0, hn1⟩ := HIn.out _ (List.getElem_mem hlt)
      obtain ⟨m, hme⟩ : ∃ m : Nat, o[k] = (m : Int) := ⟨o[k].toNat, by omega⟩
      have hml : m < sp.length := by omega
      have HSk := hide (spAt_eq hlt hme hml)
      rw [hme] at c0
      have hkd : (k : Int) ≤ (d : Int) := by omega
      have hkq : k ≤ 9223372036854775807 := by omega
      clear hme hn0 hn1
      go_wp2_with fail
      go_loopw [8, 20] (fun _ j wr => ∃ l : Nat, l ≤ k ∧ j = .int .i64 l ∧ Hid (rowT sp o k l = true) ∧ Hid (Below w.heap.size w wr)) (fun _ j _ => k - (intOf j).toNat)
      case atStart => exact ⟨0, Nat.zero_le _, rfl, rfl, HB.out⟩
      case round =>
        obtain ⟨l, hl, rfl, hR, hb2⟩ := hrel
        have HR := hide hR.out; have HB2 := hide hb2.out
        clear hR hb2
        by_cases hlt2 : l < k
        · have hlo : l < o.length := by omega
          obtain ⟨b', off', hBe, _, d0⟩ := at_Int HN.out HB2.out hlo
          obtain ⟨rfl, rfl⟩ : b = b' ∧ off = off' := by simpa using hBe
          obtain ⟨hn0, hn1⟩ := HIn.out _ (List.getElem_mem hlo)
          obtain ⟨m2, hme2⟩ : ∃ m2 : Nat, o[l] = (m2 : Int) := ⟨o[l].toNat, by omega⟩
          have hml2 : m2 < sp.length := by omega
          have HSl := hide (spAt_eq hlo hme2 hml2)
          rw [hme2] at d0
          obtain ⟨bs, offs, hAe, _, g0, g1⟩ := at_Span HA.out HB2.out hml
          subst hAe
          obtain ⟨bs', offs', hAe, _, e0, e1⟩ := at_Span HA.out HB2.out hml2
          obtain ⟨rfl, rfl⟩ : bs = bs' ∧ offs = offs' := by simpa using hAe
          have HSc := hide (rowT_succ sp o k l HR.out)
          have HSt := hide (timeB_stop (sp := sp) (o := o) (n := o.length) hlt hlt2)
          rw [HSk.out, HSl.out] at HSc HSt
          clear hme2 hn0 hn1 hBe hAe
          cases hdd : decide (sp[m].To < sp[m2].From) with
          | true =>
            have HF := hide (HSt.out hdd)
            have hdg : decide (sp[m2].From > sp[m].To) = true := hdd
            clear HSc HSt
            go_wp2_with fail
            go_quiet (fail)
            go_wp2_with fail
            go_ret
            exact ⟨ret_bool HF.out.symm, below_drewN HB2.out _⟩
          | false =>
            have HS2 := hide (HSc.out hdd)
            have hdg : decide (sp[m2].From > sp[m].To) = false := hdd
            clear HSc HSt
            go_wp2_with fail
            go_quiet (fail)
            go_wp2_with fail
            go_roundw
            case rel => exact ⟨l + 1, by omega, by go_num, HS2.out, below_drewN HB2.out _⟩
            case measure => simp [intOf]; omega
        · obtain rfl : l = k := by omega
          have HT2 := hide (timeB_succ sp o l HT.out HR.out)
          go_wp2_with fail
          go_roundw
          case rel => exact ⟨l + 1, by omega, by go_num, HT2.out, HB2.out⟩
          case measure => simp [intOf]; omega
    · obtain rfl : k = o.length := by omega
      have HF := hide HT.out
      go_wp2_with fail
      go_ret
      exact ⟨ret_bool HF.out.symm, HB.out⟩
set_option maxRecDepth 10000 in
set_option maxHeartbeats 2000000 in
theorem specForward15 (sp : List Span) (o : List Int) (A B : Option Addr) (c d : Nat) (w : World) (hm : sp.length ≤ maxLen) (hmo : o.length ≤ 1048576) (hin : ∀ n ∈ o, 0 ≤ n ∧ n < sp.length) (hA : Row tSpan w (Old w) A sp) (hN : Row tInt w (Old w) B o) :
    Calls Tryd.prog 71 #[.slice B o.length d, .slice A sp.length c] w fun e w' => e = .returned (.bool (timeB sp o o.length)) ∧ Below w.heap.size w w' := by
  have hq : sp.length ≤ 9223372036854775807 := by simpa [maxLen] using hm
  have hqo : o.length ≤ 9223372036854775807 := by omega
  have HA := hide hA; have HN := hide hN; have HIn := hide hin
  clear hA hN hin hm
  go_enter Tryd.func71, Tryd.ntmps71
  go_wp2_with fail
  go_loopw [5, 6] (fun i _ wr => ∃ k : Nat, k ≤ o.length ∧ i = .int .i64 k ∧ Hid (timeB sp o k = true) ∧ Hid (Below w.heap.size w wr)) (fun i _ _ => o.length - (intOf i).toNat)
  case atStart => exact ⟨0, Nat.zero_le _, rfl, rfl, Below.refl _ _⟩
  case round =>
    obtain ⟨k, hk, rfl, hT, hb⟩ := hrel
    have HT := hide hT.out; have HB := hide hb.out
    clear hT hb
    by_cases hlt : k < o.length
    · obtain ⟨hn0, hn1⟩ := HIn.out _ (List.getElem_mem hlt)
      obtain ⟨m, hme⟩ : ∃ m : Nat, o[k] = (m : Int) := ⟨o[k].toNat, by omega⟩
      have hml : m < sp.length := by omega
      have HSk := hide (spAt_eq hlt hme hml)
      have HMe := hide hme
      have hkq : k ≤ 9223372036854775807 := by omega
      clear hme hn0 hn1
      go_wp2_with fail
      go_loopw [6] (fun j wr => ∃ l : Nat, l ≤ k ∧ j = .int .i64 l ∧ Hid (rowT sp o k l = true) ∧ Hid (Below w.heap.size w wr)) (fun j _ => k - (intOf j).toNat)
      case atStart => exact ⟨0, Nat.zero_le _, rfl, rfl, HB.out⟩
      case round =>
        obtain ⟨l, hl, rfl, hR, hb2⟩ := hrel
        have HR := hide hR.out; have HB2 := hide hb2.out
        clear hR hb2
        by_cases hlt2 : l < k
        · have hlo : l < o.length := by omega
          obtain ⟨b, off, hBe0, _, c0⟩ := at_Int HN.out HB2.out hlt
          subst hBe0
          obtain ⟨b', off', hBe, _, d0⟩ := at_Int HN.out HB2.out hlo
          obtain ⟨rfl, rfl⟩ : b = b' ∧ off = off' := by simpa using hBe
          obtain ⟨hn0, hn1⟩ := HIn.out _ (List.getElem_mem hlo)
          obtain ⟨m2, hme2⟩ : ∃ m2 : Nat, o[l] = (m2 : Int) := ⟨o[l].toNat, by omega⟩
          have hml2 : m2 < sp.length := by omega
          have HSl := hide (spAt_eq hlo hme2 hml2)
          rw [hme2] at d0
          rw [HMe.out] at c0
          obtain ⟨bs, offs, hAe0, _, g0, g1⟩ := at_Span HA.out HB2.out hml
          subst hAe0
          obtain ⟨bs', offs', hAe, _, e0, e1⟩ := at_Span HA.out HB2.out hml2
          obtain ⟨rfl, rfl⟩ : bs = bs' ∧ offs = offs' := by simpa using hAe
          have HSc := hide (rowT_succ sp o k l HR.out)
          have HSt := hide (timeB_stop (sp := sp) (o := o) (n := o.length) hlt hlt2)
          rw [HSk.out, HSl.out] at HSc HSt
          clear hme2 hn0 hn1 hBe hAe
          cases hdd : decide (sp[m].To < sp[m2].From) with
          | true =>
            have HF := hide (HSt.out hdd)
            clear HSc HSt
            go_wp2_with fail
            go_quiet (fail)
            go_wp2_with fail
            go_ret
            exact ⟨ret_bool HF.out.symm, below_drewN HB2.out _⟩
          | false =>
            have HS2 := hide (HSc.out hdd)
            clear HSc HSt
            go_wp2_with fail
            go_quiet (fail)
            go_wp2_with fail
            go_roundw
            case rel => exact ⟨l + 1, by omega, by go_num, HS2.out, below_drewN HB2.out _⟩
            case measure => simp [intOf]; omega
        · obtain rfl : l = k := by omega
          have HT2 := hide (timeB_succ sp o l HT.out HR.out)
          go_wp2_with fail
          go_roundw
          case rel => exact ⟨l + 1, by omega, by go_num, HT2.out, HB2.out⟩
          case measure => simp [intOf]; omega
    · obtain rfl : k = o.length := by omega
      have HF := hide HT.out
      go_wp2_with fail
      go_ret
      exact ⟨ret_bool HF.out.symm, HB.out⟩
def spI (sp : List Span) (n : Int) : Span := sp.getD n.toNat ⟨0, 0⟩
theorem spI_nat (sp : List Span) (m : Nat) (h : m < sp.length) : spI sp (m : Int) = sp[m] := by
  unfold spI
  rw [Int.toNat_natCast, List.getD_eq_getElem?_getD, List.getElem?_eq_getElem h]
  rfl
/-- Nobody of those before begins after it has ended. -/
def strAlw (sp : List Span) (pre : List Int) (n : Int) : Bool := (List.range 6).all fun m => !(pre.contains (m : Int) && decide ((spI sp n).To < (spI sp (m : Int)).From))
def strP (sp : List Span) (n b : Int) : Bool := !decide ((spI sp n).To < (spI sp b).From)
theorem getD_get {o : List Int} {j : Nat} (h : j < o.length) : o.getD j 0 = o[j] := by rw [List.getD_eq_getElem?_getD, List.getElem?_eq_getElem h]; rfl
theorem str_row (sp : List Span) (o : List Int) (k : Nat) (hk : k < o.length) (hin : ∀ x ∈ o, 0 ≤ x ∧ x < 6) : strAlw sp (o.take k) (o.getD k 0) = rowT sp o k k := by
  rw [Bool.eq_iff_iff]
  unfold strAlw rowT
  rw [List.all_eq_true, List.all_eq_true]
  constructor
  · intro h j hj
    rw [List.mem_range] at hj
    have hjl : j < o.length := by omega
    have hx := hin _ (List.getElem_mem hjl)
    have h1 := h o[j].toNat (List.mem_range.2 (by omega))
    have hm : ((o[j].toNat : Nat) : Int) = o[j] := by omega
    have hc : (o.take k).contains o[j] = true := List.contains_iff_mem.2 (List.mem_take_iff_getElem.2 ⟨j, by omega, rfl⟩)
    rw [hm, hc, Bool.true_and] at h1
    unfold spAt
    rw [getD_get hjl]
    exact h1
  · intro h m hm
    cases hc : (o.take k).contains (m : Int) with
    | false => rfl
    | true =>
      obtain ⟨j, hj, hje⟩ := List.mem_take_iff_getElem.1 (List.contains_iff_mem.1 hc)
      have h1 := h j (List.mem_range.2 (by omega))
      unfold spAt at h1
      rw [getD_get (by omega : j < o.length), hje] at h1
      rw [Bool.true_and]
      exact h1
theorem str_steps (sp : List Span) (o : List Int) (hin : ∀ x ∈ o, 0 ≤ x ∧ x < 6) : stepsOK (strAlw sp) o = timeB sp o o.length := by
  unfold stepsOK timeB
  rw [Bool.eq_iff_iff, List.all_eq_true, List.all_eq_true]
  constructor
  · intro h k hk
    rw [← str_row sp o k (List.mem_range.1 hk) hin]
    exact h k hk
  · intro h k hk
    rw [str_row sp o k (List.mem_range.1 hk) hin]
    exact h k hk
theorem str_memb (sp : List Span) (pre : List Int) (gone : Nat) (n : Int) (hb : BitsOf gone pre) : strAlw sp pre n = (membF 6 gone).all (strP sp n) := by
  rw [membF_small gone hb.1, Bool.eq_iff_iff]
  unfold strAlw strP
  rw [List.all_eq_true, List.all_eq_true]
  constructor
  · intro h x hx
    obtain ⟨m, hm, rfl⟩ := List.mem_map.1 hx
    obtain ⟨h1, h2⟩ := List.mem_filter.1 hm
    have h3 := h m h1
    rw [hb.2 m] at h2
    rw [h2, Bool.true_and] at h3
    exact h3
  · intro h m hm
    cases hc : pre.contains (m : Int) with
    | false => rfl
    | true =>
      rw [Bool.true_and]
      exact h (m : Int) (List.mem_map.2 ⟨m, List.mem_filter.2 ⟨hm, by rw [hb.2 m]; exact hc⟩, rfl⟩)
theorem memb_in {pre : List Int} {gone L : Nat} (hb : BitsOf gone pre) (hin : ∀ x ∈ pre, x < (L : Int)) : ∀ b ∈ membF 6 gone, ∃ m : Nat, b = (m : Int) ∧ m < L := by
  intro b hbm
  rw [membF_small gone hb.1] at hbm
  obtain ⟨m, hm, rfl⟩ := List.mem_map.1 hbm
  obtain ⟨_, h2⟩ := List.mem_filter.1 hm
  rw [hb.2 m] at h2
  have := hin _ (List.contains_iff_mem.1 h2)
  exact ⟨m, rfl, by omega⟩
theorem membF_len : ∀ (f x : Nat), (membF f x).length ≤ f
  | 0, _ => Nat.le_refl _
  | f + 1, x => by
    rw [membF]
    split
    · simp
    · have := membF_len f (x &&& (x - 1)); simp; omega
end Go.Proofs.YtaaagoppecnmmaaDoor
