/- slices.Concat at ints. Slices of slices that grow (no reader): elements that are read elsewhere; blocks told apart by their type. -/
import Derived.Test.YtkcobaimcfggjaaGreatDoorQToA
import Derived.Test.YtkcobaimcfggjaaGreatDoorQHold
import Derived.Shelf.Spec.SlicesGrow
import Derived.Laws.AppendOwn
namespace Go.Proofs.YtkcobaimcfggjaaGreatDoor
open Go.RowKit Go.Shelf
set_option linter.unusedVariables false
set_option linter.unusedSimpArgs false

def growRen : Ren := ⟨fun | 4 => 172 | n => n, fun | 22 => 30 | 25 => 3 | 3 => 3 | 4 => 4 | 9 => 9 | 20 => 20 | 0 => 0 | n => n, fun n => n⟩
set_option maxRecDepth 100000 in
theorem growLays : Lays8.n4 Tryz.prog growRen where
  mixed := by kernel_rfl
  f4 := ⟨ "slices.Grow[[]int,int]", by decide, Tryz.func172.trans (congrArg some (by kernel_rfl))⟩
  t0 := Tryz.underlying0
  a0 := Tryz.isAgg0
  z0 := Tryz.sizeOf0
  v0 := Tryz.zeroValue0
  t3 := Tryz.underlying3
  a3 := Tryz.isAgg3
  z3 := Tryz.sizeOf3
  v3 := Tryz.zeroValue3
  t4 := Tryz.underlying4
  a4 := Tryz.isAgg4
  z4 := Tryz.sizeOf4
  v4 := Tryz.zeroValue4
  t9 := Tryz.underlying9
  a9 := Tryz.isAgg9
  z9 := Tryz.sizeOf9
  v9 := Tryz.zeroValue9
  t20 := Tryz.underlying20
  a20 := Tryz.isAgg20
  z20 := Tryz.sizeOf20
  v20 := Tryz.zeroValue20
  t22 := Tryz.underlying30
  a22 := Tryz.isAgg30
  z22 := Tryz.sizeOf30
  v22 := Tryz.zeroValue30
def lens (xs : List (List Int)) : Nat := (xs.map List.length).sum
theorem lens_succ (xs : List (List Int)) (k : Nat) (h : k < xs.length) : lens (xs.take (k + 1)) = lens (xs.take k) + xs[k].length := by
  unfold lens
  rw [List.take_succ_eq_append_getElem h, List.map_append, List.sum_append]; simp
theorem lens_flat (xs : List (List Int)) : xs.flatten.length = lens xs := by unfold lens; rw [List.length_flatten]
theorem lens_le {xs : List (List Int)} {n : Nat} (h : ∀ x ∈ xs, x.length ≤ n) : lens xs ≤ n * xs.length := by
  unfold lens
  induction xs with
  | nil => simp
  | cons x r ih =>
    have h1 := h x (by simp)
    have h2 := ih (fun y hy => h y (List.mem_cons_of_mem _ hy))
    rw [List.map_cons, List.sum_cons, List.length_cons, Nat.mul_add]
    omega
theorem lens_take {xs : List (List Int)} {n : Nat} (h : ∀ x ∈ xs, x.length ≤ n) (k : Nat) : lens (xs.take k) ≤ n * k := by
  have := lens_le (xs := xs.take k) (n := n) (fun x hx => h x (List.mem_of_mem_take hx))
  have h2 : (xs.take k).length ≤ k := by rw [List.length_take]; omega
  exact Nat.le_trans this (Nat.mul_le_mul_left _ h2)
theorem grow_nil (n : Nat) (w : World) (hn : n ≤ 1048576) :
    Calls Tryz.prog 172 #[.slice none 0 0, .int .i64 n] w fun e w' => ∃ v, e = .returned v ∧ Own tInt 3 w' (New w w') [] v ∧ Below w.heap.size w w' := by
  by_cases h0 : n = 0
  · subst h0
    refine (Any8.slices_Grow_room growLays none 0 0 0 w (Nat.le_refl _) (by omega) (by omega) (by omega)).mono ?_
    rintro e w' ⟨rfl, rfl⟩
    exact ⟨_, rfl, .inl ⟨rfl, rfl⟩, Below.refl _ _⟩
  · obtain ⟨i0, hi, hz0, hz1, hz2⟩ := info_parts infoInt_
    refine (Any8.slices_Grow_grow growLays i0 _ hi hz0 (by rw [hz1]; decide) none 0 0 n [] w (Nat.le_refl _) (by omega) (by rw [hz2]; omega) (by omega) (by simp) (fun _ => rfl) (fun a h => by cases h)).mono ?_
    rintro e w' ⟨rfl, rfl⟩
    have hg := grownCap_ge w (0 + n) 0 3
    have hm := grownCap_le_maxLen w (0 + n) 0 3 (by simp only [maxLen]; omega)
    refine ⟨_, rfl, .inr ⟨w.heap.size, _, _, fun _ => False, rfl, ⟨Nat.le_refl _, by simp⟩, heap_alloc_new w.drew _, Nat.zero_le _, hm, ?_, fun _ h => h.elim, fun k hk => absurd hk (by simp)⟩, (Below.refl _ w).drew.alloc (by simp) _⟩
    simp only [Array.size_append, size_zeroCells, Value.cells, List.size_toArray, List.length_nil]
    show 0 + (0 + n - 0) * 1 + (grownCap w (0 + n) 0 3 - (0 + n)) * 1 = grownCap w (0 + n) 0 3 * 1
    omega
set_option maxRecDepth 10000 in
set_option maxHeartbeats 2000000 in
theorem concat_Int (xs : List (List Int)) (A : Option Addr) (c : Nat) (w : World) (hl : xs.length ≤ 16) (hx : ∀ x ∈ xs, x.length ≤ 1000) (hA : Row (tSlice tInt) w (Old w) A xs) :
    Calls Tryz.prog 143 #[.slice A xs.length c] w fun e w' => ∃ v, e = .returned v ∧ Own tInt 3 w' (New w w') xs.flatten v ∧ Below w.heap.size w w' := by
  obtain ⟨i0, hi, hz0, hz1, hz2⟩ := info_parts infoInt_
  have HA := hide hA; have HX := hide hx
  have HLt := hide (fun k => lens_take (xs := xs) (n := 1000) hx k)
  clear hA hx
  have hq : xs.length ≤ 9223372036854775807 := by omega
  go_enter Tryz.func143, Tryz.ntmps143
  go_wp2
  go_loopw [3, 5, 11] (fun n _ i wr => ∃ k : Nat, k ≤ xs.length ∧ i = .int .i64 k ∧ n = .int .i64 (lens (xs.take k)) ∧ Hid (Below w.heap.size w wr)) (fun _ _ i _ => xs.length - (intOf i).toNat)
  case atStart => exact ⟨0, Nat.zero_le _, rfl, rfl, Below.refl _ _⟩
  case round =>
    obtain ⟨k, hk, rfl, rfl, hb⟩ := hrel
    have HB := hide hb.out
    clear hb
    by_cases hlt : k < xs.length
    · have hki : (k : Int) < (xs.length : Int) := by omega
      obtain ⟨b, off, A2, c2, rfl, hbS, d0, hs1, hs2, hs3⟩ := at_IntS HA.out HB.out hlt
      have HS := hide (lens_succ xs k hlt)
      have h1 := HX.out _ (List.getElem_mem hlt)
      have h2 := HLt.out k
      generalize lens (xs.take k) = s at HS h2
      generalize xs[k].length = n at d0 HS h1
      have hsum : IntKind.i64.wrap ((s : Int) + (n : Int)) = (s : Int) + (n : Int) := by rw [IntKind.wrap_i64]; omega
      have hng : ¬ ((s : Int) + (n : Int) < 0) := by omega
      clear hs3 hs1 hs2
      go_wp2
      go_roundw
      case rel => exact ⟨k + 1, by omega, by go_num, by rw [HS.out]; go_num, HB.out⟩
      case measure => simp [intOf]; omega
    · obtain rfl : k = xs.length := by omega
      have h2 := HLt.out xs.length
      have HFl := hide (fun k (h : k < xs.length) => show (xs.take (k + 1)).flatten = (xs.take k).flatten ++ xs[k] by rw [List.take_succ_eq_append_getElem h, List.flatten_append]; simp)
      have HFn := hide (fun k => lens_flat (xs.take k))
      rw [List.take_length] at h2 ⊢
      have hln : lens xs ≤ 16000 := by omega
      have HGr := hide (grow_nil (lens xs) wr (by omega))
      generalize lens xs = s at HGr hln
      obtain ⟨wo, hwo⟩ : ∃ wo : World, wo = wr := ⟨_, rfl⟩
      rw [← hwo] at HB HGr ⊢
      clear hwo h2
      go_wp2_with (go_at_call 172; refine HGr.out.mono ?_; rintro e w2 ⟨v2, rfl, hO2, hb2⟩; have HO2 := hide hO2; have HB2 := hide hb2; clear hO2 hb2)
      go_loopw [6, 8, 27] (fun v _ i wr => ∃ (k : Nat) (vo : Value), vo = v ∧ k ≤ xs.length ∧ i = .int .i64 k ∧ Hid (Own tInt 3 wr (fun b => wo.heap.size ≤ b ∧ Old wr b) (xs.take k).flatten v) ∧ Hid (Below wo.heap.size wo wr)) (fun _ _ i _ => xs.length - (intOf i).toNat)
      case atStart => exact ⟨0, _, rfl, Nat.zero_le _, rfl, HO2.out, HB2.out⟩
      case round =>
        obtain ⟨k, vo, rfl, hk, rfl, hO, hb⟩ := hrel
        have HO := hide hO.out; have HBr := hide hb.out
        have HBw := hide (HB.out.trans (hb.out.mono HB.out.size))
        clear hO hb HO2 HB2
        by_cases hlt : k < xs.length
        · have hki : (k : Int) < (xs.length : Int) := by omega
          obtain ⟨b, off, A2, c2, rfl, hbS, d0, hs1, hs2, hs3⟩ := at_IntS HA.out (Below.refl _ w) hlt
          have d1 := (HBw.out.cell (p := ⟨b, off + k, none⟩) hbS).trans d0
          have HS := hide (HFl.out k hlt)
          have h1 := HX.out _ (List.getElem_mem hlt)
          have h2 := HLt.out k
          have h3 := HFn.out k
          have HRx := hide (hs3.mono (w' := wr) (S' := fun _ => True) (fun _ _ => trivial) (fun b hb => HBw.out.block b hb)).anyInt
          generalize lens (xs.take k) = s2 at h2 h3
          generalize (xs.take k).flatten = L at HO HS h3
          generalize xs[k] = x at d1 HS h1 HRx
          clear hs3 hs1 hs2 d0
          go_wp2_with (at_builtin; refine wpList_cat tInt rfl (.tmp 31) (.tmp 32) 30 rfl 3 i0 _ 8 Tryz.underlying30 hi hz0 hz1 hz2 rfl (by decide) (fun b => wo.heap.size ≤ b) (fun _ => False) L x _ rfl HO.out A2 _ c2 rfl rfl HRx.out (fun _ h => h.elim) (fun b hb => Nat.le_trans HBr.out.size hb) (by simp only [maxLen]; omega) (by omega) ?_; intro v6 w6 hO_ hK_; have HO6 := hide hO_; have HB6 := hide (below_only HBr.out hK_ HBr.out.size (fun _ h => h)); clear hO_ hK_)
          go_roundw
          case rel => exact ⟨k + 1, _, rfl, by omega, by go_num, by rw [HS.out]; exact HO6.out, HB6.out⟩
          case measure => simp [intOf]; omega
        · obtain rfl : k = xs.length := by omega
          have hO9 := HO.out
          rw [List.take_length] at hO9
          have HO9 := hide hO9
          clear HO hO9
          go_wp2_with fail
          go_ret
          exact ⟨_, rfl, HO9.out.mono (fun b hb => ⟨Nat.le_trans HB.out.size hb.1, hb.2⟩) (fun _ _ => rfl), HBw.out⟩
end Go.Proofs.YtkcobaimcfggjaaGreatDoor
namespace Go.Proofs.YtkcobaimcfggjaaGreatDoor
open Go.RowKit
set_option linter.unusedVariables false
set_option linter.unusedSimpArgs false

/-- Blocks of elements of type t, from base on. -/
def Of (W : World) (base : Nat) (t : TypeId) (b : Nat) : Prop := base ≤ b ∧ ∃ cur, Blk W b t cur
theorem Of.old {W : World} {base b : Nat} {t : TypeId} (h : Of W base t b) : Old W b := by obtain ⟨_, cur, hb⟩ := h; exact hb.lt
theorem Of.keep {W W' : World} {base b : Nat} {t : TypeId} (h : Of W base t b) (e : W'.heap[b]? = W.heap[b]?) : Of W' base t b := by
  obtain ⟨h1, cur, hb⟩ := h; exact ⟨h1, cur, hb.of e⟩
theorem Row.takeN {α : Type} {T : Ty α} {w : World} {S : Nat → Prop} {A : Option Addr} {xs : List α} (h : Row T w S A xs) (k : Nat) : Row T w S A (xs.take k) := fun hp => by
  rw [List.length_take] at hp
  obtain ⟨b, off, rfl, hb, hr⟩ := h (by omega)
  refine ⟨b, off, rfl, hb, fun j hj => ?_⟩
  rw [List.length_take] at hj
  obtain ⟨cs, hrel, hcs⟩ := hr j (by omega)
  exact ⟨cs, by rw [List.getElem_take]; exact hrel, hcs⟩
section
variable {P : Program}
end
end Go.Proofs.YtkcobaimcfggjaaGreatDoor
