/- The facts of the drawn regions of both VerdictOf; what a verdict is made of. slices.Concat at ints. The program's permuted: all orders of a list. Append laws that tell where the new slice's own block lies. -/
import Derived.Test.YtjiobgfaohldhaaGreatDoorQAllF
import Derived.Test.YtjiobgfaohldhaaGreatDoorQHoldS
import Derived.Test.YtjiobgfaohldhaaGreatDoorQAnyOrder
import Derived.Test.YtjiobgfaohldhaaGreatDoorQToB
import Derived.Test.YtjiobgfaohldhaaGreatDoorQBuild
import Derived.Test.YtjiobgfaohldhaaGreatDoorQNest2
import Derived.Test.YtjiobgfaohldhaaGreatDoorQEdgI
import Derived.Shelf.Spec.SlicesGrow
import Derived.Laws.AppendOwn
namespace Go.Proofs.YtjiobgfaohldhaaGreatDoor
open Go.RowKit
set_option linter.unusedVariables false
set_option linter.unusedSimpArgs false

theorem cycO_le7 (many : Int) (xs : List Edge) : (cycO many xs).length ≤ 7 := by
  unfold cycO
  split
  · rename_i h
    unfold edgesV at h
    simp only [Bool.and_eq_true, inR_iff] at h
    have := cycFrom_len xs many.toNat many.toNat 0
    omega
  · simp
/-- The verdict as a struct; the zero value where there is none. -/
def verdD (h : List Txn) : Verd := (verdO h).getD ⟨false, [], []⟩
theorem verdO_no {h : List Txn} (he : ¬ 0 < (allO h).length) : verdO h = none := by
  have : allO h = [] := List.eq_nil_of_length_eq_zero (by omega)
  unfold verdO; rw [this]; rfl
theorem verdO_ser {h : List Txn} (he : 0 < (allO h).length) {o : List Int} (hf : findF h = some o) : verdO h = some ⟨true, o, []⟩ := by
  have : (allO h).isEmpty = false := by cases hx : allO h with | nil => rw [hx] at he; simp at he | cons _ _ => rfl
  unfold verdO; rw [this, hf]; rfl
theorem verdO_bad {h : List Txn} (he : 0 < (allO h).length) (hf : findF h = none) (hr : readsB h = false) : verdO h = some ⟨false, [], []⟩ := by
  have : (allO h).isEmpty = false := by cases hx : allO h with | nil => rw [hx] at he; simp at he | cons _ _ => rfl
  unfold verdO; rw [this, hf, hr]; rfl
theorem verdO_cyc {h : List Txn} (he : 0 < (allO h).length) (hf : findF h = none) (hr : readsB h = true) : verdO h = some ⟨false, [], cycsO h⟩ := by
  have : (allO h).isEmpty = false := by cases hx : allO h with | nil => rw [hx] at he; simp at he | cons _ _ => rfl
  unfold verdO; rw [this, hf, hr]; rfl
/-- The cycles of the first k orders. -/
def cycK (h : List Txn) (all : List (List (List Int))) (k : Nat) : List (List Int) := (all.take k).map fun os => cycO (h.length : Int) (edgR h os)
theorem cycK_succ (h : List Txn) (all : List (List (List Int))) (k : Nat) (hk : k < all.length) : cycK h all (k + 1) = cycK h all k ++ [cycO (h.length : Int) (edgR h all[k])] := by
  unfold cycK
  rw [List.take_succ_eq_append_getElem hk, List.map_append]; rfl
theorem cycK_all (h : List Txn) : cycK h (allO h) (allO h).length = cycsO h := by unfold cycK cycsO; rw [List.take_length]
theorem cycK_len (h : List Txn) (all : List (List (List Int))) (k : Nat) (hk : k ≤ all.length) : (cycK h all k).length = k := by unfold cycK; rw [List.length_map, List.length_take]; omega

abbrev TB : Ty (List Int × Nat) := tIntSB 3
theorem Hold.ge {α : Type} {T : Ty α} {e : TypeId} {w : World} {S : Nat → Prop} {xs : List α} {v : Value} {g lo : Nat} (h : Hold T e w S xs v g) (hS : ∀ b, S b → lo ≤ b) : ∃ g', lo ≤ g' ∧ Hold T e w S xs v g' := by
  by_cases hp : 0 < xs.length
  · obtain ⟨A, c, rfl, h1, h2, h3⟩ := h
    exact ⟨g, hS _ (h3 hp).2.1, A, c, rfl, h1, h2, h3⟩
  · obtain ⟨A, c, rfl, h1, h2, h3⟩ := h
    exact ⟨lo, Nat.le_refl _, A, c, rfl, h1, h2, fun h => absurd h hp⟩
theorem own_old {e : TypeId} {w : World} {lo hi : Nat} {ps : List (List Int × Nat)} {v : Value} (h : Own TB e w (fun b => lo ≤ b ∧ b < hi) ps v) : ∀ p ∈ ps, 0 < p.1.length → p.2 < hi := by
  intro p hp h0
  rcases h with ⟨rfl, rfl⟩ | ⟨g, cap, cur, S', rfl, hg, hB, h1, h2, h3, h4, h5⟩
  · cases hp
  · obtain ⟨k, hk, rfl⟩ := List.getElem_of_mem hp
    obtain ⟨cs, ⟨u, rfl, A, c, rfl, _, _, h6⟩, _⟩ := h5 k hk
    exact ((h4 _ (h6 h0).2.1).1).2
theorem far_snoc {ps : List (List Int × Nat)} {p : List Int × Nat} {hi : Nat} (h : Far ps) (h1 : ∀ q ∈ ps, 0 < q.1.length → q.2 < hi) (h2 : hi ≤ p.2) : Far (ps ++ [p]) := by
  unfold Far at *
  refine List.pairwise_append.2 ⟨h, by simp, fun a ha b hb h3 h4 e => ?_⟩
  obtain rfl : b = p := by simpa using hb
  have := h1 a ha h3
  omega
structure JVer (wr : World) (lo ia : Nat) (L : Nat → Bool) (W : World) : Prop where
  fresh : L ia = false → Below wr.heap.size wr W
  only : Only (fun b => lo ≤ b) wr W
theorem JVer.start (wr : World) (lo ia : Nat) (L : Nat → Bool) : JVer wr lo ia L wr.drew := ⟨fun _ => (Below.refl _ wr).drew, Only.of_below (Below.refl _ wr).drew⟩
theorem JVer.up {wr W W' : World} {lo ia i : Nat} {L : Nat → Bool} (h : JVer wr lo ia L W) (hi : ia ≠ i) (hb : Below W.heap.size W W') : JVer wr lo ia (fun j => if j = i then true else L j) W' :=
  ⟨fun hL => (h.fresh (by simpa [hi] using hL)).trans (hb.mono h.only.size), h.only.trans (.of_below hb)⟩
theorem JVer.app {wr W W' : World} {lo ia : Nat} {L : Nat → Bool} (h : JVer wr lo ia L W) (k : Only (fun b => lo ≤ b) W W') : JVer wr lo ia (fun j => if j = ia then true else L j) W' :=
  ⟨fun hL => by simp at hL, h.only.trans k⟩
def FVer (ie lo hi : Nat) (es : List Edge) (cy : List Int) (ps : List (List Int × Nat)) (V : Nat → Value) (i : Nat) (v : Value) (W : World) : Prop :=
  if i = ie then ∃ A c, v = .slice A es.length c ∧ Row tEdge W (fun b => hi ≤ b ∧ Old W b) A es
  else if i = ie + 1 then ∃ g, hi ≤ g ∧ Hold tInt 3 W (fun b => hi ≤ b ∧ Old W b) cy v g
  else if i = ie + 2 then ∃ p g, hi ≤ g ∧ v = .slice (some ⟨p, 0, none⟩) 1 1 ∧ hi ≤ p ∧ Old W p ∧ RowAny TB W (fun b => hi ≤ b ∧ Old W b) (some ⟨p, 0, none⟩) [(cy, g)]
  else if i = ie + 3 then ∃ g, hi ≤ g ∧ Own TB 27 W (fun b => lo ≤ b ∧ Old W b) (ps ++ [(cy, g)]) v
  else v = V i
variable {ie lo hi : Nat} {es : List Edge} {cy : List Int} {ps : List (List Int × Nat)} {V : Nat → Value} {v : Value} {W : World}
theorem FVer.get {i : Nat} (h : FVer ie lo hi es cy ps V i v W) (hi : i ≠ ie ∧ i ≠ ie + 1 ∧ i ≠ ie + 2 ∧ i ≠ ie + 3) : v = V i := by
  unfold FVer at h
  rwa [if_neg hi.1, if_neg hi.2.1, if_neg hi.2.2.1, if_neg hi.2.2.2] at h
theorem FVer.val {i : Nat} (hi' : i ≠ ie ∧ i ≠ ie + 1 ∧ i ≠ ie + 2 ∧ i ≠ ie + 3) (h : v = V i) : FVer ie lo hi es cy ps V i v W := by
  unfold FVer
  rwa [if_neg hi'.1, if_neg hi'.2.1, if_neg hi'.2.2.1, if_neg hi'.2.2.2]
theorem FVer.iff0 : FVer ie lo hi es cy ps V ie v W ↔ ∃ A c, v = .slice A es.length c ∧ Row tEdge W (fun b => hi ≤ b ∧ Old W b) A es := by unfold FVer; rw [if_pos rfl]
theorem FVer.iff1 : FVer ie lo hi es cy ps V (ie + 1) v W ↔ ∃ g, hi ≤ g ∧ Hold tInt 3 W (fun b => hi ≤ b ∧ Old W b) cy v g := by unfold FVer; rw [if_neg (by omega), if_pos rfl]
theorem FVer.iff2 : FVer ie lo hi es cy ps V (ie + 2) v W ↔ ∃ p g, hi ≤ g ∧ v = .slice (some ⟨p, 0, none⟩) 1 1 ∧ hi ≤ p ∧ Old W p ∧ RowAny TB W (fun b => hi ≤ b ∧ Old W b) (some ⟨p, 0, none⟩) [(cy, g)] := by unfold FVer; rw [if_neg (by omega), if_neg (by omega), if_pos rfl]
theorem FVer.iff3 : FVer ie lo hi es cy ps V (ie + 3) v W ↔ ∃ g, hi ≤ g ∧ Own TB 27 W (fun b => lo ≤ b ∧ Old W b) (ps ++ [(cy, g)]) v := by unfold FVer; rw [if_neg (by omega), if_neg (by omega), if_neg (by omega), if_pos rfl]
theorem FVer.ev {i : Nat} {wa wb : World} (h : FVer ie lo hi es cy ps V i v wa) (hk : Only (fun b => b < hi) wa wb) (hb : i = ie + 3 → Below wa.heap.size wa wb) : FVer ie lo hi es cy ps V i v wb := by
  have hup : ∀ b, (hi ≤ b ∧ Old wa b) → (hi ≤ b ∧ Old wb b) := fun b h => ⟨h.1, Nat.lt_of_lt_of_le h.2 hk.size⟩
  have hst : ∀ b, (hi ≤ b ∧ Old wa b) → wb.heap[b]? = wa.heap[b]? := fun b h => hk.block b h.2 (by have := h.1; omega)
  by_cases h0 : i = ie
  · subst h0
    obtain ⟨A, c, rfl, hR⟩ := FVer.iff0.1 h
    exact FVer.iff0.2 ⟨A, c, rfl, hR.mono hup hst⟩
  · by_cases h1 : i = ie + 1
    · subst h1
      obtain ⟨g, hg, hH⟩ := FVer.iff1.1 h
      exact FVer.iff1.2 ⟨g, hg, hH.mono hup hst⟩
    · by_cases h2 : i = ie + 2
      · subst h2
        obtain ⟨p, g, hg, rfl, hp, hpo, hy⟩ := FVer.iff2.1 h
        exact FVer.iff2.2 ⟨p, g, hg, rfl, hp, (hup p ⟨hp, hpo⟩).2, hy.stay hup hst (hst p ⟨hp, hpo⟩)⟩
      · by_cases h3 : i = ie + 3
        · subst h3
          obtain ⟨g, hg, hO⟩ := FVer.iff3.1 h
          exact FVer.iff3.2 ⟨g, hg, own_stay hO (hb rfl)⟩
        · exact FVer.val ⟨h0, h1, h2, h3⟩ (h.get ⟨h0, h1, h2, h3⟩)
end Go.Proofs.YtjiobgfaohldhaaGreatDoor
namespace Go.Proofs.YtjiobgfaohldhaaGreatDoor
open Go.RowKit Go.Shelf
set_option linter.unusedVariables false
set_option linter.unusedSimpArgs false

def growRen : Ren := ⟨fun | 4 => 136 | n => n, fun | 22 => 27 | 25 => 3 | 3 => 3 | 4 => 4 | 9 => 9 | 20 => 20 | 0 => 0 | n => n, fun n => n⟩
set_option maxRecDepth 100000 in
theorem growLays : Lays8.n4 Tryz.prog growRen where
  mixed := by kernel_rfl
  f4 := ⟨ "slices.Grow[[]int,int]", by decide, Tryz.func136.trans (congrArg some (by kernel_rfl))⟩
  t0 := Tryz.underlying0
  a0 := Tryz.isAgg0
  z0 := Tryz.sizeOf0
  v0 := Tryz.zeroValue0
  t3 := Tryz.underlying3
  a3 := Tryz.isAgg3
  z3 := Tryz.sizeOf3
  v3 := Tryz.zeroValue3
  t4 := Tryz.underlying4
  a4 := Tryz.isAgg4
  z4 := Tryz.sizeOf4
  v4 := Tryz.zeroValue4
  t9 := Tryz.underlying9
  a9 := Tryz.isAgg9
  z9 := Tryz.sizeOf9
  v9 := Tryz.zeroValue9
  t20 := Tryz.underlying20
  a20 := Tryz.isAgg20
  z20 := Tryz.sizeOf20
  v20 := Tryz.zeroValue20
  t22 := Tryz.underlying27
  a22 := Tryz.isAgg27
  z22 := Tryz.sizeOf27
  v22 := Tryz.zeroValue27
def lens (xs : List (List Int)) : Nat := (xs.map List.length).sum
theorem lens_succ (xs : List (List Int)) (k : Nat) (h : k < xs.length) : lens (xs.take (k + 1)) = lens (xs.take k) + xs[k].length := by
  unfold lens
  rw [List.take_succ_eq_append_getElem h, List.map_append, List.sum_append]; simp
theorem lens_flat (xs : List (List Int)) : xs.flatten.length = lens xs := by unfold lens; rw [List.length_flatten]
theorem lens_le {xs : List (List Int)} {n : Nat} (h : ∀ x ∈ xs, x.length ≤ n) : lens xs ≤ n * xs.length := by
  unfold lens
  induction xs with
  | nil => simp
  | cons x r ih =>
    have h1 := h x (by simp)
    have h2 := ih (fun y hy => h y (List.mem_cons_of_mem _ hy))
    rw [List.map_cons, List.sum_cons, List.length_cons, Nat.mul_add]
    omega
theorem lens_take {xs : List (List Int)} {n : Nat} (h : ∀ x ∈ xs, x.length ≤ n) (k : Nat) : lens (xs.take k) ≤ n * k := by
  have := lens_le (xs := xs.take k) (n := n) (fun x hx => h x (List.mem_of_mem_take hx))
  have h2 : (xs.take k).length ≤ k := by rw [List.length_take]; omega
  exact Nat.le_trans this (Nat.mul_le_mul_left _ h2)
theorem grow_nil (n : Nat) (w : World) (hn : n ≤ 1048576) :
    Calls Tryz.prog 136 #[.slice none 0 0, .int .i64 n] w fun e w' => ∃ v, e = .returned v ∧ Own tInt 3 w' (New w w') [] v ∧ Below w.heap.size w w' := by
  by_cases h0 : n = 0
  · subst h0
    refine (Any8.slices_Grow_room growLays none 0 0 0 w (Nat.le_refl _) (by omega) (by omega) (by omega)).mono ?_
    rintro e w' ⟨rfl, rfl⟩
    exact ⟨_, rfl, .inl ⟨rfl, rfl⟩, Below.refl _ _⟩
  · obtain ⟨i0, hi, hz0, hz1, hz2⟩ := info_parts infoInt_
    refine (Any8.slices_Grow_grow growLays i0 _ hi hz0 (by rw [hz1]; decide) none 0 0 n [] w (Nat.le_refl _) (by omega) (by rw [hz2]; omega) (by omega) (by simp) (fun _ => rfl) (fun a h => by cases h)).mono ?_
    rintro e w' ⟨rfl, rfl⟩
    have hg := grownCap_ge w (0 + n) 0 3
    have hm := grownCap_le_maxLen w (0 + n) 0 3 (by simp only [maxLen]; omega)
    refine ⟨_, rfl, .inr ⟨w.heap.size, _, _, fun _ => False, rfl, ⟨Nat.le_refl _, by simp⟩, heap_alloc_new w.drew _, Nat.zero_le _, hm, ?_, fun _ h => h.elim, fun k hk => absurd hk (by simp)⟩, (Below.refl _ w).drew.alloc (by simp) _⟩
    simp only [Array.size_append, size_zeroCells, Value.cells, List.size_toArray, List.length_nil]
    show 0 + (0 + n - 0) * 1 + (grownCap w (0 + n) 0 3 - (0 + n)) * 1 = grownCap w (0 + n) 0 3 * 1
    omega
set_option maxRecDepth 10000 in
set_option maxHeartbeats 2000000 in
theorem concat_Int (xs : List (List Int)) (A : Option Addr) (c : Nat) (w : World) (hl : xs.length ≤ 16) (hx : ∀ x ∈ xs, x.length ≤ 1000) (hA : Row (tSlice tInt) w (Old w) A xs) :
    Calls Tryz.prog 102 #[.slice A xs.length c] w fun e w' => ∃ v, e = .returned v ∧ Own tInt 3 w' (New w w') xs.flatten v ∧ Below w.heap.size w w' := by
  obtain ⟨i0, hi, hz0, hz1, hz2⟩ := info_parts infoInt_
  have HA := hide hA; have HX := hide hx
  have HLt := hide (fun k => lens_take (xs := xs) (n := 1000) hx k)
  clear hA hx
  have hq : xs.length ≤ 9223372036854775807 := by omega
  go_enter Tryz.func102, Tryz.ntmps102
  go_wp2
  go_loopw [3, 5, 11] (fun n _ i wr => ∃ k : Nat, k ≤ xs.length ∧ i = .int .i64 k ∧ n = .int .i64 (lens (xs.take k)) ∧ Hid (Below w.heap.size w wr)) (fun _ _ i _ => xs.length - (intOf i).toNat)
  case atStart => exact ⟨0, Nat.zero_le _, rfl, rfl, Below.refl _ _⟩
  case round =>
    obtain ⟨k, hk, rfl, rfl, hb⟩ := hrel
    have HB := hide hb.out
    clear hb
    by_cases hlt : k < xs.length
    · have hki : (k : Int) < (xs.length : Int) := by omega
      obtain ⟨b, off, A2, c2, rfl, hbS, d0, hs1, hs2, hs3⟩ := at_IntS HA.out HB.out hlt
      have HS := hide (lens_succ xs k hlt)
      have h1 := HX.out _ (List.getElem_mem hlt)
      have h2 := HLt.out k
      generalize lens (xs.take k) = s at HS h2
      generalize xs[k].length = n at d0 HS h1
      have hsum : IntKind.i64.wrap ((s : Int) + (n : Int)) = (s : Int) + (n : Int) := by rw [IntKind.wrap_i64]; omega
      have hng : ¬ ((s : Int) + (n : Int) < 0) := by omega
      clear hs3 hs1 hs2
      go_wp2
      go_roundw
      case rel => exact ⟨k + 1, by omega, by go_num, by rw [HS.out]; go_num, HB.out⟩
      case measure => simp [intOf]; omega
    · obtain rfl : k = xs.length := by omega
      have h2 := HLt.out xs.length
      have HFl := hide (fun k (h : k < xs.length) => show (xs.take (k + 1)).flatten = (xs.take k).flatten ++ xs[k] by rw [List.take_succ_eq_append_getElem h, List.flatten_append]; simp)
      have HFn := hide (fun k => lens_flat (xs.take k))
      rw [List.take_length] at h2 ⊢
      have hln : lens xs ≤ 16000 := by omega
      have HGr := hide (grow_nil (lens xs) wr (by omega))
      generalize lens xs = s at HGr hln
      obtain ⟨wo, hwo⟩ : ∃ wo : World, wo = wr := ⟨_, rfl⟩
      rw [← hwo] at HB HGr ⊢
      clear hwo h2
      go_wp2_with (go_at_call 136; refine HGr.out.mono ?_; rintro e w2 ⟨v2, rfl, hO2, hb2⟩; have HO2 := hide hO2; have HB2 := hide hb2; clear hO2 hb2)
      go_loopw [6, 8, 27] (fun v _ i wr => ∃ (k : Nat) (vo : Value), vo = v ∧ k ≤ xs.length ∧ i = .int .i64 k ∧ Hid (Own tInt 3 wr (fun b => wo.heap.size ≤ b ∧ Old wr b) (xs.take k).flatten v) ∧ Hid (Below wo.heap.size wo wr)) (fun _ _ i _ => xs.length - (intOf i).toNat)
      case atStart => exact ⟨0, _, rfl, Nat.zero_le _, rfl, HO2.out, HB2.out⟩
      case round =>
        obtain ⟨k, vo, rfl, hk, rfl, hO, hb⟩ := hrel
        have HO := hide hO.out; have HBr := hide hb.out
        have HBw := hide (HB.out.trans (hb.out.mono HB.out.size))
        clear hO hb HO2 HB2
        by_cases hlt : k < xs.length
        · have hki : (k : Int) < (xs.length : Int) := by omega
          obtain ⟨b, off, A2, c2, rfl, hbS, d0, hs1, hs2, hs3⟩ := at_IntS HA.out (Below.refl _ w) hlt
          have d1 := (HBw.out.cell (p := ⟨b, off + k, none⟩) hbS).trans d0
          have HS := hide (HFl.out k hlt)
          have h1 := HX.out _ (List.getElem_mem hlt)
          have h2 := HLt.out k
          have h3 := HFn.out k
          have HRx := hide (hs3.mono (w' := wr) (S' := fun _ => True) (fun _ _ => trivial) (fun b hb => HBw.out.block b hb)).anyInt
          generalize lens (xs.take k) = s2 at h2 h3
          generalize (xs.take k).flatten = L at HO HS h3
          generalize xs[k] = x at d1 HS h1 HRx
          clear hs3 hs1 hs2 d0
          go_wp2_with (at_builtin; refine wpList_cat tInt rfl (.tmp 31) (.tmp 32) 27 rfl 3 i0 _ 8 Tryz.underlying27 hi hz0 hz1 hz2 rfl (by decide) (fun b => wo.heap.size ≤ b) (fun _ => False) L x _ rfl HO.out A2 _ c2 rfl rfl HRx.out (fun _ h => h.elim) (fun b hb => Nat.le_trans HBr.out.size hb) (by simp only [maxLen]; omega) (by omega) ?_; intro v6 w6 hO_ hK_; have HO6 := hide hO_; have HB6 := hide (below_only HBr.out hK_ HBr.out.size (fun _ h => h)); clear hO_ hK_)
          go_roundw
          case rel => exact ⟨k + 1, _, rfl, by omega, by go_num, by rw [HS.out]; exact HO6.out, HB6.out⟩
          case measure => simp [intOf]; omega
        · obtain rfl : k = xs.length := by omega
          have hO9 := HO.out
          rw [List.take_length] at hO9
          have HO9 := hide hO9
          clear HO hO9
          go_wp2_with fail
          go_ret
          exact ⟨_, rfl, HO9.out.mono (fun b hb => ⟨Nat.le_trans HB.out.size hb.1, hb.2⟩) (fun _ _ => rfl), HBw.out⟩
end Go.Proofs.YtjiobgfaohldhaaGreatDoor
namespace Go.Proofs.YtjiobgfaohldhaaGreatDoor
open Go.RowKit
set_option linter.unusedVariables false
set_option linter.unusedSimpArgs false

theorem rowTwoS {w : World} {p : Nat} {t : TypeId} {x y : List Int} {u v : Value} {S : Nat → Prop} (hB : Blk w p t #[u, v]) (hS : S p) (hu : Sl tInt w S x u) (hv : Sl tInt w S y v) : Row (tSlice tInt) w S (some ⟨p, 0, none⟩) [x, y] := fun _ => ⟨p, 0, rfl, hS, fun k hk => by
  have hk2 : k < 2 := by simpa using hk
  have h01 : k = 0 ∨ k = 1 := by omega
  rcases h01 with rfl | rfl
  · refine ⟨[u], ⟨u, rfl, hu⟩, fun j z hz => ?_⟩
    obtain ⟨hj, rfl⟩ := List.getElem?_eq_some_iff.1 hz
    have hj0 : j = 0 := by simpa using hj
    subst hj0
    rw [hB.cell]; rfl
  · refine ⟨[v], ⟨v, rfl, hv⟩, fun j z hz => ?_⟩
    obtain ⟨hj, rfl⟩ := List.getElem?_eq_some_iff.1 hz
    have hj0 : j = 0 := by simpa using hj
    subst hj0
    rw [hB.cell]; rfl⟩
theorem hOu_keepP {α : Type} {T : Ty α} {e : TypeId} {w w4 w5 : World} {K : Nat → Prop} {xs : List α} {v : Value} (h : Own T e w4 (fun b => w.heap.size ≤ b ∧ Old w4 b) xs v) (hb : Below w4.heap.size w4 w5) (hK : ∀ b, w.heap.size ≤ b ∧ Old w4 b → K b) : Own T e w5 (fun b => K b ∧ Old w5 b) xs v :=
  h.mono (fun b h => ⟨hK b h, Nat.lt_of_lt_of_le h.2 hb.size⟩) fun b h => hb.block b h.2
theorem oneIntP {e : TypeId} (w : World) {S : Nat → Prop} (x : Int) (hS : S w.heap.size) :
    Own tInt e (w.alloc (.cells #[.int .i64 x] e)) S [x] (.slice (some ⟨w.heap.size, 0, none⟩) 1 1) :=
  .inr ⟨_, 1, _, fun _ => False, rfl, hS, Blk.new _ _ _, by simp, by simp [maxLen], rfl, fun _ h => h.elim, fun k hk => by
    obtain rfl : k = 0 := by simpa using hk
    refine ⟨_, rfl, fun j u hu => ?_⟩
    obtain ⟨hj, rfl⟩ := List.getElem?_eq_some_iff.1 hu
    have hj0 : j = 0 := by simpa using hj
    subst hj0
    rw [(Blk.new w e _).cell]
    rfl⟩
set_option maxRecDepth 10000 in
set_option maxHeartbeats 4000000 in
theorem permuted_any (n : Nat) : ∀ (xs : List Int) (A : Option Addr) (c : Nat) (w : World), xs.length = n → n ≤ 8 → xs.length ≤ c → c ≤ maxLen → Row tInt w (Old w) A xs →
    Calls Tryz.prog 49 #[.slice A xs.length c] w fun e w' => ∃ v, e = .returned v ∧ Own (tSlice tInt) 27 w' (New w w') (permsI n xs) v ∧ Below w.heap.size w w' := by
  induction n with
  | zero =>
    intro xs A c w hl hn hc hcm hA
    obtain ⟨i1, hi1, hz01, hz11, hz21⟩ := info_parts infoIntS_
    have h0 : ((xs.length : Int) == 0) = true := by rw [beq_iff_eq]; omega
    clear hA
    go_enter Tryz.func49, Tryz.ntmps49
    go_wp2_with fail
    go_ret
    have h1 := Own.empty (T := tInt) (e := 3) w (fun b => w.heap.size ≤ b) (Nat.le_refl _)
    have h2 := Own.one (T := tSlice tInt) (e := 27) (w.alloc (.cells #[] 3)) (K := New w ((w.alloc (.cells #[] 3)).alloc (.cells #[.slice (some ⟨w.heap.size, 0, none⟩) 0 0] 27))) [.slice (some ⟨w.heap.size, 0, none⟩) 0 0] ⟨_, rfl, h1.sl⟩ (fun b h => ⟨⟨h.1, Nat.lt_of_lt_of_le h.2 (by simp)⟩, h.2⟩) ⟨by simp, by simp⟩
    exact ⟨_, rfl, by simpa [permsI] using h2, ((Below.refl _ w).alloc (Nat.le_refl _) _).alloc (by simp) _⟩
  | succ n ih =>
    intro xs A c w hl hn hc hcm hA
    have HA := hide hA
    have hq : xs.length ≤ 9223372036854775807 := by omega
    have hc' : c ≤ 9223372036854775807 := by simpa [maxLen] using hcm
    have HCm := hide hcm
    have h0 : ((xs.length : Int) == 0) = false := by rw [beq_eq_false_iff_ne]; omega
    have HL := hide hl
    clear hA hl hcm
    obtain ⟨i0, hi, hz0, hz1, hz2⟩ := info_parts infoInt_
    obtain ⟨i1, hi1, hz01, hz11, hz21⟩ := info_parts infoIntS_
    go_enter Tryz.func49, Tryz.ntmps49
    go_wp2_with fail
    go_loopw [3, 4, 5, 6, 8, 17] (fun v _ _ _ _ i wr => ∃ k : Nat, k ≤ xs.length ∧ i = .int .i64 k ∧ Hid (Own (tSlice tInt) 27 wr (fun b => w.heap.size ≤ b ∧ Old wr b) (permsK n xs k) v) ∧ Below w.heap.size w wr) (fun _ _ _ _ _ i _ => xs.length - (intOf i).toNat)
    case atStart => exact ⟨0, Nat.zero_le _, rfl, Own.empty w (fun b => w.heap.size ≤ b) (Nat.le_refl _), (Below.refl _ w).alloc (Nat.le_refl _) _⟩
    case round =>
      obtain ⟨k, hk, rfl, hOu, hb⟩ := hrel
      by_cases hlt : k < xs.length
      · obtain ⟨b, off, rfl, hbS, c0⟩ := at_Int HA.out hb hlt
        have hki : (k : Int) < (xs.length : Int) := by omega
        have hk1 : (k : Int) ≤ (c : Int) := by omega
        have hk2 : (k : Int) + 1 ≤ (xs.length : Int) := by omega
        have hk3 : (0 : Int) ≤ (k : Int) + 1 := by omega
        have HT := hide (show (xs.take k).length = k by rw [List.length_take]; omega)
        have HT2 := hide (show xs.take k ++ xs.drop (k + 1) = xs.eraseIdx k from (List.eraseIdx_eq_take_drop_succ _ _).symm)
        have HD := hide (show (xs.drop (k + 1)).length = xs.length - (k + 1) from List.length_drop)
        obtain ⟨A2, hA2, hrow2⟩ : ∃ A2 : Option Addr, (if c = k + 1 then (some ⟨b, off, none⟩ : Option Addr) else some ⟨b, off + (k + 1), none⟩) = A2 ∧ Row tInt w (Old w) A2 (xs.drop (k + 1)) := by
          refine ⟨_, rfl, ?_⟩
          split
          · rw [List.drop_of_length_le (by omega)]; exact Row.nil
          · have := HA.out.cut (k + 1)
            simpa [Addr.add, tInt, flat] using this
        have HR2 := hide hrow2
        have hs : IntKind.i64.wrap ((k : Int) + 1) = (k : Int) + 1 := by rw [IntKind.wrap_i64]; omega
        have HOu := hide hOu.out
        generalize hx0 : xs[k] = x0 at c0
        have HX0 := hide hx0
        clear hrow2 hOu hx0
        go_upto_region 7 with (fail)
        clear c0
        refine wp_region_vals 7 (fun wz => Below wr.heap.size wr wz) (fun q9 => match q9 with | 0 => .slice (some ⟨b, off, none⟩) xs.length c | 1 => .int .i64 k | 2 => .slice (some ⟨b, off, none⟩) k c | 3 => .slice (some ⟨b, off, none⟩) xs.length c | 4 => .int .i64 k | 5 => .int .i64 ((k : Int) + 1) | 6 => .slice A2 (xs.length - (k + 1)) (c - (k + 1)) | _ => undef) [some 22, some 23, some 24, some 25, some 26, some 27, some 28] (by kernel_rfl) (by kernel_rfl) (by kernel_rfl) (by kernel_rfl) (by kernel_rfl) ?_ ?_ ?_
        · exact (Below.refl _ wr).drew
        · intro i o hi ho a wa hI hc hd K hK
          have hi' : i = 0 ∨ i = 1 ∨ i = 2 ∨ i = 3 ∨ i = 4 ∨ i = 5 ∨ i = 6 := by omega
          clear hi
          rcases hi' with rfl | rfl | rfl | rfl | rfl | rfl | rfl
          all_goals
            simp only [List.getElem?_toArray, List.getElem?_cons_zero, List.getElem?_cons_succ, Option.some.injEq] at ho
            subst ho
          · have e0 := (hc 0 (by kernel_rfl)).trans rfl
            go_simp
            exact hK _ hI
          · have e4 := (hc 4 (by kernel_rfl)).trans rfl
            go_simp
            exact hK _ hI
          · have e22 : a.tmps.getD 22 undef = .slice (some ⟨b, off, none⟩) xs.length c := hd 0 22 (by kernel_rfl)
            have e23 : a.tmps.getD 23 undef = .int .i64 k := hd 1 23 (by kernel_rfl)
            have s1 : (k : Int) ≤ (c : Int) := hk1
            have s2 : (0 : Int) ≤ (k : Int) := by omega
            go_simp
            exact hK _ hI
          · have e0 := (hc 0 (by kernel_rfl)).trans rfl
            go_simp
            exact hK _ hI
          · have e4 := (hc 4 (by kernel_rfl)).trans rfl
            go_simp
            exact hK _ hI
          · have e26 : a.tmps.getD 26 undef = .int .i64 k := hd 4 26 (by kernel_rfl)
            have s3 : IntKind.i64.wrap ((k : Int) + 1) = (k : Int) + 1 := hs
            go_simp
            exact hK _ hI
          · have e25 : a.tmps.getD 25 undef = .slice (some ⟨b, off, none⟩) xs.length c := hd 3 25 (by kernel_rfl)
            have e27 : a.tmps.getD 27 undef = .int .i64 ((k : Int) + 1) := hd 5 27 (by kernel_rfl)
            have s4 : (k : Int) + 1 ≤ (xs.length : Int) := hk2
            have s5 : (0 : Int) ≤ (k : Int) + 1 := hk3
            have s6 := hA2
            go_simp
            exact hK _ hI
        · intro wz hI
          simp only [putD, Act.put, List.setIfInBounds_toArray, List.set_cons_zero, List.set_cons_succ, List.drop_succ_cons, List.drop_zero]
          have HBz := hide (hb.trans (hI.mono hb.size))
          have HIz := hide hI
          obtain ⟨W1, hW1⟩ : ∃ W1, W1 = wz.alloc (.cells #[.slice (some ⟨b, off, none⟩) k c, .slice A2 (xs.length - (k + 1)) (c - (k + 1))] 27) := ⟨_, rfl⟩
          have HB1 := hide (show Below w.heap.size w W1 by rw [hW1]; exact HBz.out.alloc HBz.out.size _)
          have HB11 := hide (show Below wr.heap.size wr W1 by rw [hW1]; exact HIz.out.alloc HIz.out.size _)
          have HRw := hide (show Row (tSlice tInt) W1 (Old W1) (some ⟨wz.heap.size, 0, none⟩) [xs.take k, xs.drop (k + 1)] by
            refine rowTwoS (by rw [hW1]; exact Blk.new wz _ _) (by rw [hW1]; simp [Old]) ⟨_, c, by rw [HT.out], by rw [HT.out]; omega, HCm.out, (HA.out.old HB1.out).takeN k⟩ ⟨A2, c - (k + 1), by rw [HD.out], by rw [HD.out]; omega, by have := HCm.out; omega, HR2.out.old HB1.out⟩)
          have HCc := hide (concat_Int [xs.take k, xs.drop (k + 1)] _ 2 W1 (by simp) (fun x hx => by
            have h1 := HL.out
            simp only [List.mem_cons, List.not_mem_nil, or_false] at hx
            rcases hx with rfl | rfl
            · rw [HT.out]; omega
            · rw [HD.out]; omega) HRw.out)
          rw [show [xs.take k, xs.drop (k + 1)].flatten = xs.eraseIdx k by rw [← HT2.out]; simp] at HCc
          clear hI HR2 HRw
          go_wp2_with (rw [← hW1]; go_at_call 102; refine HCc.out.mono ?_; rintro e w4 ⟨v4, rfl, hO4, hb4⟩; have HO4 := hide hO4; have HB4 := hide (HB1.out.trans (hb4.mono HB1.out.size)); have HB41 := hide (HB11.out.trans (hb4.mono HB11.out.size)); clear hO4 hb4)
          have hO4 := HO4.out
          obtain ⟨A4, c4, rfl, h41, h42, _⟩ := hO4.sl
          have hlen : (xs.eraseIdx k).length = n := by rw [List.length_eraseIdx_of_lt hlt]; have := HL.out; omega
          have HI := hide (ih (xs.eraseIdx k) A4 c4 w4 hlen (by omega) h41 h42 (by
            obtain ⟨A5, c5, hv5, _, _, hr5⟩ := hO4.sl.mono (w' := w4) (S' := Old w4) (fun b h => h.2) (fun _ _ => rfl)
            injection hv5 with h1 _ _
            subst h1
            exact hr5))
          have HOu := hide (HOu.out.onlyBelow HB41.out)
          have HSu := hide (permsK_succ n xs k)
          have HLk := hide (permsK_len n xs HL.out k hk)
          have HLp := hide (permsI_len n (xs.eraseIdx k) hlen)
          have HLm := hide (fun o => permsI_mem_len n (xs.eraseIdx k) o hlen)
          have HF := hide (fct_le (n := n) (by omega))
          have HGd := hide (show xs.getD k 0 = x0 by rw [← HX0.out]; simp [hlt])
          have HM : Hid (xs.length ≤ 8) := by show _ ≤ _; have := HL.out; omega
          rw [HGd.out] at HSu
          clear hO4 hlen HO4 hA2 hs HCc HB11
          generalize permsI n (xs.eraseIdx k) = M at HI HSu HLp HLm
          generalize hE : xs.eraseIdx k = E at *
          go_wp2_with fail
          refine HI.out.mono ?_
          rintro e w5 ⟨v5, rfl, hO5, hb5⟩
          obtain ⟨A5, c5, rfl, h51, h52, hR5⟩ := hO5.sl
          have hOx := hOu_keepP HOu.out (K := fun b => w.heap.size ≤ b ∧ ¬ (w4.heap.size ≤ b ∧ b < w5.heap.size)) hb5 (fun b h => ⟨h.1, fun e => by have := h.2; unfold Old at this; omega⟩)
          have HOx := hide hOx
          have HR5 := hide hR5
          have HB5 := hide (HB4.out.trans (hb5.mono HB4.out.size))
          have H45 := hide hb5.size
          have hM5 : M.length ≤ 40320 := by have := HLp.out; have := HF.out; omega
          have hq5 : M.length ≤ 9223372036854775807 := by omega
          have HTot : Hid ((permsK n xs k).length + M.length ≤ 9 * 40320) := by
            show _ ≤ _
            have h1 := HLk.out; have h2 := HF.out; have h3 := HM.out
            have h4 : k * fct n ≤ 8 * 40320 := Nat.mul_le_mul (by omega) h2
            omega
          clear hOx hO5 hb5 hR5 HI HOu HB41
          go_wp2_with fail
          obtain ⟨wo, hwo⟩ : ∃ wo : World, wo = wr := ⟨_, rfl⟩
          clear hb
          go_loopw [3, 8, 34] (fun v _ j wq => ∃ (l : Nat) (vo : Value), vo = v ∧ l ≤ M.length ∧ j = .int .i64 l ∧ Hid (Own (tSlice tInt) 27 wq (fun b => (w.heap.size ≤ b ∧ ¬ (w4.heap.size ≤ b ∧ b < w5.heap.size)) ∧ Old wq b) (permsK n xs k ++ (M.take l).map fun o => x0 :: o) v) ∧ Hid (Only (fun b => w.heap.size ≤ b ∧ ¬ (w4.heap.size ≤ b ∧ b < w5.heap.size)) w5 wq)) (fun _ _ j _ => M.length - (intOf j).toNat)
          case atStart => exact ⟨0, _, rfl, Nat.zero_le _, rfl, by rw [List.take_zero, List.map_nil, List.append_nil]; exact HOx.out, Only.refl _ _⟩
          case round =>
            obtain ⟨l, vo, rfl, hl, rfl, hO, hOn⟩ := hrel
            have HO := hide hO.out; have HOn := hide hOn.out
            clear hO hOn HOx
            by_cases hlt2 : l < M.length
            · have hli : (l : Int) < (M.length : Int) := by omega
              obtain ⟨b6, off6, A6, c6, hA5e, hb6, hc6, h61, h62, hR6⟩ := at_IntS (HR5.out.mono (w' := wr) (S' := Old wr) (fun b h => Nat.lt_of_lt_of_le h.2 HOn.out.size) (fun b h => HOn.out.block b h.2 (fun h9 => h9.2 h))) (Below.refl _ wr) hlt2
              subst hA5e
              have hl6 := HLm.out M[l] (List.getElem_mem hlt2)
              have hl6' : M[l].length ≤ 8 := by omega
              have HO1 := hide (oneIntP (e := 3) wr (S := fun b => wr.heap.size ≤ b ∧ Old (wr.alloc (.cells #[.int .i64 x0] 3)) b) x0 ⟨Nat.le_refl _, by simp [Old]⟩)
              have HR6 := hide ((hR6.mono (w' := wr.alloc (.cells #[.int .i64 x0] 3)) (S' := fun _ => True) (fun _ _ => trivial) (fun b hb => Below.heap_alloc _ _ _ hb)).anyInt)
              have HOl := hide (own_lt (B := wr.heap.size) HO.out (fun b h => h.2))
              have HLt := hide (show ∀ p : List Int, p = x0 :: M[l] → (permsK n xs k ++ (M.take l).map fun o => x0 :: o) ++ [p] = permsK n xs k ++ (M.take (l + 1)).map fun o => x0 :: o from by
                intro p hp
                rw [List.take_succ_eq_append_getElem hlt2, List.map_append, ← List.append_assoc, hp]
                rfl)
              have HLn := hide (show (permsK n xs k ++ (M.take l).map fun o => x0 :: o).length + 1 ≤ 9 * 40320 by
                have h1 := HTot.out; rw [List.length_append, List.length_map, List.length_take]; omega)
              have HOs := hide HOn.out.size
              have Hz5 := hide (show w.heap.size ≤ wr.heap.size from Nat.le_trans HB5.out.size HOn.out.size)
              generalize permsK n xs k ++ (M.take l).map (fun o => x0 :: o) = P9 at HO HOl HLt HLn
              generalize M[l] = m9 at hc6 hR6 hl6 hl6' HR6 HLt
              clear hb6 hl6 hR6
              go_wp2_with (first | (at_builtin; refine wpList_cat tInt rfl (.tmp 40) (.tmp 41) 27 rfl 3 i0 _ 8 Tryz.underlying27 hi hz0 hz1 hz2 rfl (by decide) (fun b => wr.heap.size ≤ b) (fun _ => False) [x0] m9 _ rfl HO1.out A6 _ c6 rfl rfl HR6.out (fun _ h => h.elim) (fun b hb => Nat.le_trans (by simp) hb) (by simp only [maxLen, List.length_singleton]; omega) (by simp only [List.length_singleton]; omega) ?_; intro v8 w8 hO_ hK_; obtain ⟨A8, c8, rfl, h81, h82, _⟩ := hO_.sl; have HO8 := hide hO_; have HK8 := hide hK_; clear hO_ hK_) | (at_builtin; refine wpList_put (tSlice tInt) rfl (.tmp 38) (.tmp 43) 31 rfl 27 i1 _ 24 Tryz.underlying31 hi1 hz01 hz11 hz21 rfl (by decide) (fun b => w.heap.size ≤ b ∧ ¬ (w4.heap.size ≤ b ∧ b < w5.heap.size)) (fun b => wr.heap.size ≤ b ∧ Old w8 b) P9 ([x0] ++ m9) [.slice A8 ([x0] ++ m9).length c8] _ rfl (HO.out.mono (w' := w8) (S2 := fun b => (w.heap.size ≤ b ∧ ¬ (w4.heap.size ≤ b ∧ b < w5.heap.size)) ∧ Old w8 b) (fun b h => ⟨h.1, by have := HK8.out.size; have := h.2; simp [Old] at *; omega⟩) (fun b h => (HK8.out.block b (Nat.lt_of_lt_of_le h.2 (by simp)) (by have := h.2; unfold Old at this; omega)).trans (Below.heap_alloc _ _ _ h.2))) 1 rfl ⟨_, rfl, HO8.out.sl⟩ (fun b h => ⟨⟨Nat.le_trans Hz5.out h.1, fun e => by have := HOs.out; have := h.1; omega⟩, h.2, fun e => by have := HOl.out b e; have := h.1; omega⟩) (fun b hb => by have := HK8.out.size; simp at this; have := HOs.out; have := Hz5.out; exact ⟨by omega, fun e => by omega⟩) (by have := HLn.out; simp only [maxLen]; omega) (by have := HLn.out; omega) ?_; intro v9 w9 hO_ hK_; have HO9 := hide hO_; have HK9 := hide hK_; clear hO_ hK_))
              have HL9 := hide (HLt.out _ rfl : _ = permsK n xs k ++ (M.take (l + 1)).map fun o => x0 :: o)
              have HB9 := hide ((Only.of_below (S := fun b => wr.heap.size ≤ b) ((Below.refl _ wr).alloc (Nat.le_refl _) (.cells #[.int .i64 x0] 3))).trans HK8.out)
              go_roundw
              case rel => exact ⟨l + 1, _, rfl, by omega, by go_num, (by have h9 := HO9.out; have e9 := HL9.out; exact e9 ▸ h9), (HOn.out.trans (HB9.out.mono (fun b hb => ⟨Nat.le_trans Hz5.out hb, fun e => by have := HOs.out; omega⟩))).trans HK9.out⟩
              case measure => simp [intOf]; omega
            · obtain rfl : l = M.length := by omega
              have HO8 := hide (show Own (tSlice tInt) 27 wr (fun b => w.heap.size ≤ b ∧ Old wr b) (permsK n xs (k + 1)) _ from by
                rw [HSu.out]
                have := HO.out
                rw [List.take_length] at this
                exact this.mono (fun b h => ⟨h.1.1, h.2⟩) (fun _ _ => rfl))
              have HB8 := hide (below_only HB5.out HOn.out HB5.out.size (fun i hi => hi.1))
              clear HO HOn
              go_wp2_with fail
              go_roundw
              case rel => exact ⟨k + 1, by omega, by go_num, HO8.out, HB8.out⟩
              case measure => simp [intOf]; omega
      · obtain rfl : k = xs.length := by omega
        have HP := hide (permsI_succ n xs (by rintro rfl; have := HL.out; simp at this))
        have HB8 := hide hb
        have HO8 := hide hOu.out
        clear hb hOu
        go_wp2_with fail
        go_ret
        exact ⟨_, rfl, by rw [HP.out]; exact HO8.out, HB8.out⟩
end Go.Proofs.YtjiobgfaohldhaaGreatDoor
namespace Go.Proofs.YtjiobgfaohldhaaGreatDoor
open Go.RowKit
set_option linter.unusedVariables false
set_option linter.unusedSimpArgs false

/-- Read in another world, over any blocks. -/
def tFar {α : Type} (w0 : World) (T : Ty α) : Ty α where
  size := T.size
  rel _ _ x cs := T.rel w0 (fun _ => True) x cs
  len h := T.len h
  one h := T.one h
  mono h _ _ := h
theorem Own.far_ {α : Type} {T : Ty α} {e : TypeId} {w w2 : World} {S : Nat → Prop} {xs : List α} {v : Value} (h : Own T e w S xs v) : Own (tFar w T) e w (fun b => v.ownBlock = some b) xs v := by
  rcases h with ⟨rfl, rfl⟩ | ⟨g, cap, cur, S', rfl, hg, hB, h1, h2, h3, h4, h5⟩
  · exact .inl ⟨rfl, rfl⟩
  · exact .inr ⟨g, cap, cur, fun _ => False, rfl, rfl, hB, h1, h2, h3, fun b h => h.elim, fun k hk => by
      obtain ⟨cs, hr, hc⟩ := h5 k hk
      exact ⟨cs, T.mono hr (fun _ _ => trivial) (fun _ _ => rfl), hc⟩⟩
section
variable {P : Program}
theorem run_appN {α : Type} (T : Ty α) (w : World) (t ty e : TypeId) (i : TypeInfo) (z : Value) (bytes : Nat) (ht : P.underlying t = some (.slice e)) (hi : P.info? e = some i) (hz : i.zero = some z)
    (hsize : i.size = T.size) (hby : i.bytes = bytes) (hzs : z.cells.size = T.size) (hsz : 0 < T.size)
    (S Sy S2 : Nat → Prop) (xs ys : List α) (v : Value) (hO : Own T e w S xs v) (A : Option Addr) (c : Nat) (hy : RowAny T w Sy A ys)
    (h63 : xs.length + ys.length ≤ maxLen) (hbytes : (xs.length + ys.length) * bytes ≤ 140737488355328)
    (hSo : ∀ b, S b → Old w b) (hSy : ∀ b, Sy b → Old w b ∧ v.ownBlock ≠ some b) (h1 : ∀ b, S b → S2 b) (h2 : ∀ b, Sy b → S2 b) (h3 : S2 w.heap.size) :
    ∃ v' w', (Builtin.append_ #[t, t] ty #[v, .slice A ys.length c]).run P w = .ok v' w' ∧ Own T e w' (fun b => S2 b ∧ Old w' b) (xs ++ ys) v' ∧ w.grownBy w' v.ownBlock ∧ ∀ b, v'.ownBlock = some b → v.ownBlock = some b ∨ b = w.heap.size := by
  obtain ⟨v', w', hr, h4, h5⟩ := run_app (P := P) T w t ty e i z bytes ht hi hz hsize hby hzs hsz S Sy S2 xs ys v hO A c hy h63 hbytes hSo hSy h1 h2 h3
  have hyf : RowAny (tFar w T) w (fun _ => False) A ys := fun hp => by
    obtain ⟨b, off, hA, hrow⟩ := hy hp
    refine ⟨b, off, hA, fun k hk => ?_⟩
    obtain ⟨cs, hr, hc⟩ := hrow k hk
    exact ⟨cs, T.mono hr (fun _ _ => trivial) (fun _ _ => rfl), hc⟩
  obtain ⟨v2, w2, hr2, h6, h7⟩ := run_app (P := P) (tFar w T) w t ty e i z bytes ht hi hz hsize hby hzs hsz (fun b => v.ownBlock = some b) (fun _ => False) (fun b => v.ownBlock = some b ∨ b = w.heap.size) xs ys v (Own.far_ (w2 := w) hO) A c hyf h63 hbytes (fun b hb => hSo b (hO.owned b hb)) (fun b h => h.elim) (fun b h => .inl h) (fun b h => h.elim) (.inr rfl)
  have he : v2 = v' := by
    rw [hr] at hr2; injection hr2 with e1 _; exact e1.symm
  subst he
  exact ⟨v2, w', hr, h4, h5, fun b hb => (h6.owned b hb).1⟩
theorem wp_appN {α : Type} (T : Ty α) {w : World} {o : Oper} {a : Act} {K : Act → World → Prop} {Q : Exit → Act → World → Prop} (s x : Operand) (t : TypeId)
    (ho : o.op = .call { callee := .builtin .append, args := #[s, x], argTypes := #[t, t] })
    (e : TypeId) (i : TypeInfo) (z : Value) (bytes : Nat) (ht : P.underlying t = some (.slice e)) (hi : P.info? e = some i) (hz : i.zero = some z)
    (hsize : i.size = T.size) (hby : i.bytes = bytes) (hzs : z.cells.size = T.size) (hsz : 0 < T.size)
    (S Sy S2 : Nat → Prop) (xs ys : List α) (v : Value) (hs : a.eval s = v) (hO : Own T e w S xs v) (A : Option Addr) (m c : Nat) (hx : a.eval x = .slice A m c) (hm : m = ys.length) (hy : RowAny T w Sy A ys)
    (h63 : xs.length + ys.length ≤ maxLen) (hbytes : (xs.length + ys.length) * bytes ≤ 140737488355328)
    (hSo : ∀ b, S b → Old w b) (hSy : ∀ b, Sy b → Old w b ∧ v.ownBlock ≠ some b) (h1 : ∀ b, S b → S2 b) (h2 : ∀ b, Sy b → S2 b) (h3 : S2 w.heap.size)
    (h : ∀ v' w', Own T e w' (fun b => S2 b ∧ Old w' b) (xs ++ ys) v' → w.grownBy w' v.ownBlock → (∀ b, v'.ownBlock = some b → v.ownBlock = some b ∨ b = w.heap.size) → K (a.put o.dst v') w') : o.wp P a w K Q := by
  subst hm
  obtain ⟨v', w', hrun, h4, h5, h6⟩ := run_appN (P := P) T w t o.type e i z bytes ht hi hz hsize hby hzs hsz S Sy S2 xs ys v hO A c hy h63 hbytes hSo hSy h1 h2 h3
  unfold Oper.wp execOp
  simp only [ho, resolve, invoke, builtin, Sem.run_bind, Sem.run_pure, Result.andThen_ok, List.map_toArray, List.map_cons, List.map_nil, hs, hx, hrun]
  exact h v' w' h4 h5 h6
/-- append of one element: as wpList_put; what turns is the slice's own block alone, and where the new one lies. -/
theorem wpList_putN {α : Type} (T : Ty α) {w : World} {ops : Array Oper} {rest : List Oper} {o : Oper} {a : Act} {Q : Exit → Act → World → Prop} (hgd : Region.wanted o (yielded ops a.tmps) = true) (s x : Operand) (t : TypeId)
    (ho : o.op = .call { callee := .builtin .append, args := #[s, x], argTypes := #[t, t] })
    (e : TypeId) (i : TypeInfo) (z : Value) (bytes : Nat) (ht : P.underlying t = some (.slice e)) (hi : P.info? e = some i) (hz : i.zero = some z)
    (hsize : i.size = T.size) (hby : i.bytes = bytes) (hzs : z.cells.size = T.size) (hsz : 0 < T.size)
    (K Sy : Nat → Prop) (xs : List α) (y : α) (cs : List Value) (v : Value) (hs : a.eval s = v) (hO : Own T e w (fun b => K b ∧ Old w b) xs v) (c : Nat) (hx : a.eval x = .slice (some ⟨w.heap.size, 0, none⟩) 1 c)
    (hy : T.rel w Sy y cs) (hSy : ∀ b, Sy b → K b ∧ Old w b ∧ v.ownBlock ≠ some b) (hK : ∀ b, w.heap.size ≤ b → K b)
    (h63 : xs.length + 1 ≤ maxLen) (hbytes : (xs.length + 1) * bytes ≤ 140737488355328)
    (h : ∀ v' w', Own T e w' (fun b => K b ∧ Old w' b) (xs ++ [y]) v' → Only (fun b => v.ownBlock = some b) w w' → (∀ b, v'.ownBlock = some b → v.ownBlock = some b ∨ w.heap.size ≤ b) → wpList P ops Q rest (a.put o.dst v') w') : wpList P ops Q (o :: rest) a (w.alloc (.cells cs.toArray e)) := by
  have hO1 := hO.mono (w' := w.alloc (.cells cs.toArray e)) (fun _ h => h) (fun b hb => Below.heap_alloc _ _ _ hb.2)
  refine BigFrame.wpList_want hgd fun _ hKK => wp_appN T s x t ho e i z bytes ht hi hz hsize hby hzs hsz (fun b => K b ∧ Old w b) Sy K xs [y] v hs hO1 _ 1 c hx rfl (row_one e hy (fun b hb => (hSy b hb).2.1)) h63 hbytes
    (fun b hb => Nat.lt_of_lt_of_le hb.2 (by simp)) (fun b hb => ⟨Nat.lt_of_lt_of_le (hSy b hb).2.1 (by simp), (hSy b hb).2.2⟩) (fun b hb => hb.1) (fun b hb => (hSy b hb).1) (hK _ (by simp)) (fun v' w' h1 h2 h3 => hKK _ _ (h v' w' h1 ?_ fun b hb => ?_))
  · exact (Only.of_alloc w _).trans (Only.of_grown h2 fun i hi => hi)
  · rcases h3 b hb with h4 | h4
    · exact .inl h4
    · exact .inr (by rw [h4]; simp)
end
end Go.Proofs.YtjiobgfaohldhaaGreatDoor
