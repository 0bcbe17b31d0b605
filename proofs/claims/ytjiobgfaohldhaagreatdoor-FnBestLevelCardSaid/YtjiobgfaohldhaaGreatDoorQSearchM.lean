/- The text of an operation; alive. The draws that hand back a history alone. Small words for laws over drawn histories. The conversions of the laws package make new memory that reads as their argument: calls, lists of lists, drafts. slices.Concat at ints. Plain laws: all orders of a list, and the search that finds the first good one. Plain laws: the search for the first order that is good. Small sets as bits. -/
import Derived.Test.YtjiobgfaohldhaaGreatDoorQRanges
import Derived.Test.YtjiobgfaohldhaaGreatDoorQHistD
import Derived.Test.YtjiobgfaohldhaaGreatDoorProg
import Derived.Test.YtjiobgfaohldhaaGreatDoorQToA
import Derived.Deep.RegionHeld3
import Derived.WalkLawsBesides
import Derived.Shelf.Spec.SlicesGrow
import Derived.Laws.AppendOwn
import Derived.Laws.BitsAllLaws
import Derived.Laws.ShiftsVarLaws
import Derived.Laws.BitsLemmas
import Derived.WalkSmall
namespace Go.Proofs.YtjiobgfaohldhaaGreatDoor
open Go.RowKit
set_option linter.unusedVariables false
set_option linter.unusedSimpArgs false

def digitsS : ByteArray := { data := #[48, 49, 50, 51, 52, 53, 54, 55, 56, 57, 97, 98, 99, 100, 101, 102, 103, 104, 105, 106, 107, 108, 109, 110, 111, 112, 113, 114, 115, 116, 117, 118, 119, 120, 121, 122] }
theorem itoa_digit (n : Nat) (hn : n < 10) (w : World) :
    Calls Tryz.prog 60 #[.int .i64 n] w fun e w' => e = .returned (.string (digitsS.extract n (n + 1))) ∧ w = w' := by
  have h1 : (0 : Int) ≤ (n : Int) := by omega
  have h2 : (n : Int) < 100 := by omega
  have h3 : (n : Int) < 10 := by omega
  go_enter Tryz.func60, Tryz.ntmps60
  go_wp2
  go_ret
  exact ⟨rfl, rfl⟩

def smallsS : ByteArray := { data := #[48, 48, 48, 49, 48, 50, 48, 51, 48, 52, 48, 53, 48, 54, 48, 55, 48, 56, 48, 57, 49, 48, 49, 49, 49, 50, 49, 51, 49, 52, 49, 53, 49, 54, 49, 55, 49, 56, 49, 57, 50, 48, 50, 49, 50, 50, 50, 51, 50, 52, 50, 53, 50, 54, 50, 55, 50, 56, 50, 57, 51, 48, 51, 49, 51, 50, 51, 51, 51, 52, 51, 53, 51, 54, 51, 55, 51, 56, 51, 57, 52, 48, 52, 49, 52, 50, 52, 51, 52, 52, 52, 53, 52, 54, 52, 55, 52, 56, 52, 57, 53, 48, 53, 49, 53, 50, 53, 51, 53, 52, 53, 53, 53, 54, 53, 55, 53, 56, 53, 57, 54, 48, 54, 49, 54, 50, 54, 51, 54, 52, 54, 53, 54, 54, 54, 55, 54, 56, 54, 57, 55, 48, 55, 49, 55, 50, 55, 51, 55, 52, 55, 53, 55, 54, 55, 55, 55, 56, 55, 57, 56, 48, 56, 49, 56, 50, 56, 51, 56, 52, 56, 53, 56, 54, 56, 55, 56, 56, 56, 57, 57, 48, 57, 49, 57, 50, 57, 51, 57, 52, 57, 53, 57, 54, 57, 55, 57, 56, 57, 57] }
def itoaS (n : Nat) : ByteArray := if n < 10 then digitsS.extract n (n + 1) else smallsS.extract (n * 2) (n * 2 + 2)
set_option maxRecDepth 20000 in
theorem itoa_any (n : Nat) (hn : n < 100) (w : World) :
    Calls Tryz.prog 60 #[.int .i64 n] w fun e w' => e = .returned (.string (itoaS n)) ∧ w = w' := by
  by_cases h : n < 10
  · unfold itoaS; rw [if_pos h]; exact itoa_digit n h w
  · have HI := hide (show itoaS n = smallsS.extract (n * 2) (n * 2 + 2) by unfold itoaS; rw [if_neg h])
    have h1 : (0 : Int) ≤ (n : Int) := by omega
    have h2 : (n : Int) < 100 := by omega
    have h3 : ¬ (n : Int) < 10 := by omega
    go_enter Tryz.func60, Tryz.ntmps60
    go_wp2
    go_ret
    exact ⟨by rw [HI.out]; rfl, rfl⟩
theorem extract_size (s : ByteArray) (a b : Nat) : (s.extract a b).size ≤ b - a := by rw [ByteArray.size_extract]; omega
theorem itoaS_size (n : Nat) : (itoaS n).size ≤ 2 := by
  unfold itoaS
  split
  · have := extract_size digitsS n (n + 1); omega
  · have := extract_size smallsS (n * 2) (n * 2 + 2); omega
def letterS (o : Op) : ByteArray := if o.Kind == 2 then { data := #[119] } else { data := #[114] }
set_option maxHeartbeats 400000 in
theorem letter_any (o : Op) (w : World) : Calls Tryz.prog 59 #[.agg #[.int .i64 o.Kind, .int .i64 o.Key, .int .i64 o.Value]] w fun e w' => e = .returned (.string (letterS o)) ∧ Below w.heap.size w w' := by
  have HC := hide (fun W => writes_any o W)
  have HB := hide ((Below.refl _ w).alloc (Nat.le_refl _) (.cells #[.int .i64 o.Kind, .int .i64 o.Key, .int .i64 o.Value] 50))
  have HL := hide (show letterS o = if o.Kind == 2 then { data := #[119] } else { data := #[114] } from rfl)
  cases hq : (o.Kind == 2) with
  | true =>
    rw [hq] at HC HL
    clear hq
    go_enter Tryz.func59, Tryz.ntmps59
    go_wp2_with (go_at_call 109; refine (HC.out _).mono ?_; rintro e w' ⟨rfl, hb⟩; have HB2 := hide (HB.out.trans (hb.mono (by simp))); clear hb)
    go_ret
    exact ⟨by rw [HL.out]; rfl, HB2.out⟩
  | false =>
    rw [hq] at HC HL
    clear hq
    go_enter Tryz.func59, Tryz.ntmps59
    go_wp2_with (go_at_call 109; refine (HC.out _).mono ?_; rintro e w' ⟨rfl, hb⟩; have HB2 := hide (HB.out.trans (hb.mono (by simp))); clear hb)
    go_ret
    exact ⟨by rw [HL.out]; rfl, HB2.out⟩

theorem letterS_size (o : Op) : (letterS o).size = 1 := by unfold letterS; split <;> rfl
/-- The text of an operation. -/
def opText (o : Op) : ByteArray := if opOk o then letterS o ++ itoaS o.Key.toNat ++ { data := #[61] } ++ itoaS o.Value.toNat else { data := #[] }
set_option maxRecDepth 10000 in
set_option maxHeartbeats 2000000 in
theorem opText_any (o : Op) (w : World) : Calls Tryz.prog 26 #[.agg #[.int .i64 o.Kind, .int .i64 o.Key, .int .i64 o.Value]] w fun e w' => e = .returned (.string (opText o)) ∧ Below w.heap.size w w' := by
  have HV := hide (fun W => opValid_any o W)
  have HB := hide ((Below.refl _ w).alloc (Nat.le_refl _) (.cells #[.int .i64 o.Kind, .int .i64 o.Key, .int .i64 o.Value] 50))
  cases q1 : opOk o with
  | false =>
    have HO := hide (show opText o = { data := #[] } by unfold opText; rw [q1]; rfl)
    rw [q1] at HV
    clear q1
    go_enter Tryz.func26, Tryz.ntmps26
    go_wp2_with (go_at_call 58; refine (HV.out _).mono ?_; rintro e w1 ⟨rfl, hb1⟩; have HB := hide (HB.out.trans (hb1.mono HB.out.size)); clear hb1)
    go_ret
    exact ⟨by rw [HO.out]; rfl, HB.out⟩
  | true =>
    have HO := hide (show opText o = letterS o ++ itoaS o.Key.toNat ++ { data := #[61] } ++ itoaS o.Value.toNat by unfold opText; rw [q1]; rfl)
    have HL := hide (fun W => letter_any o W)
    have hls := letterS_size o
    generalize hL : letterS o = L at HO HL hls
    clear hL
    have hq := q1
    unfold opOk at hq
    simp only [Bool.and_eq_true, inR_iff] at hq
    obtain ⟨⟨⟨_, hk0, hk1⟩, hv0, hv1⟩, _⟩ := hq
    rw [q1] at HV
    clear q1
    generalize hK : o.Kind = Kd at HV HL HB ⊢
    obtain ⟨k, hk⟩ : ∃ k : Nat, o.Key = (k : Int) := ⟨o.Key.toNat, by omega⟩
    obtain ⟨v, hv⟩ : ∃ v : Nat, o.Value = (v : Int) := ⟨o.Value.toNat, by omega⟩
    have HI1 := hide (fun W => itoa_any k (by omega) W)
    have HI2 := hide (fun W => itoa_any v (by omega) W)
    have hs1 := itoaS_size k
    have hs2 := itoaS_size v
    obtain ⟨N1, hN1⟩ : ∃ N, N = itoaS k := ⟨_, rfl⟩
    obtain ⟨N2, hN2⟩ : ∃ N, N = itoaS v := ⟨_, rfl⟩
    rw [← hN1] at HI1 hs1
    rw [← hN2] at HI2 hs2
    rw [show o.Key.toNat = k by omega, show o.Value.toNat = v by omega, ← hN1, ← hN2] at HO
    clear hN1 hN2
    have hadd1 : ∀ W, (Op.stringOp .add L N1).run Tryz.prog W = .ok (.string (L ++ N1)) W := fun W => run_string_add_sum _ _ _ (by omega)
    have hadd2 : ∀ W, (Op.stringOp .add (L ++ N1) { data := #[61] }).run Tryz.prog W = .ok (.string (L ++ N1 ++ { data := #[61] })) W := fun W => run_string_add_sum _ _ _ (by rw [ByteArray.size_append]; have : ({ data := #[61] } : ByteArray).size = 1 := rfl; omega)
    have hadd3 : ∀ W, (Op.stringOp .add (L ++ N1 ++ { data := #[61] }) N2).run Tryz.prog W = .ok (.string (L ++ N1 ++ { data := #[61] } ++ N2)) W := fun W => run_string_add_sum _ _ _ (by rw [ByteArray.size_append, ByteArray.size_append]; have : ({ data := #[61] } : ByteArray).size = 1 := rfl; omega)
    rw [hk, hv] at HV HL HB ⊢
    clear hk hv hk0 hk1 hv0 hv1 hK
    go_enter Tryz.func26, Tryz.ntmps26
    go_wp2_with (go_at_call 58; refine (HV.out _).mono ?_; rintro e w1 ⟨rfl, hb1⟩; have HB := hide (HB.out.trans (hb1.mono HB.out.size)); have z0 := (hb1.cell (p := ⟨w.heap.size, 0, none⟩) (by simp)).trans ((Blk.new w _ _).cell 0); have z1 := (hb1.cell (p := ⟨w.heap.size, 1, none⟩) (by simp)).trans ((Blk.new w _ _).cell 1); have z2 := (hb1.cell (p := ⟨w.heap.size, 2, none⟩) (by simp)).trans ((Blk.new w _ _).cell 2); have hz1 : w.heap.size < w1.heap.size := (by have := hb1.size; simp at this; omega); clear hb1)
    simp only [List.getElem?_toArray, List.getElem?_cons_zero, List.getElem?_cons_succ] at z0 z1 z2
    go_region_held3 (fun w' => w'.cell? ⟨w.heap.size, 0, none⟩ = some (.int .i64 Kd) ∧ w'.cell? ⟨w.heap.size, 1, none⟩ = some (.int .i64 k) ∧ w'.cell? ⟨w.heap.size, 2, none⟩ = some (.int .i64 v) ∧ Below w.heap.size w w')
      (first
        | ((try dsimp only); exact ⟨z0, z1, z2, HB.out.drew⟩)
        | ((try dsimp only); exact ⟨(HB2.out.cell (p := ⟨w.heap.size, 0, none⟩) hz1).trans z0, (HB2.out.cell (p := ⟨w.heap.size, 1, none⟩) hz1).trans z1, (HB2.out.cell (p := ⟨w.heap.size, 2, none⟩) hz1).trans z2, HB.out.drew.trans (HB2.out.mono HB.out.size)⟩)
        | go_keep)
      ((first
        | (go_at_call 59; refine (HL.out _).mono ?_; rintro e w2 ⟨rfl, hb2⟩; have HB2 := hide hb2)
        | (go_at_call 60; refine (HI1.out _).mono ?_; rintro e w' ⟨rfl, rfl⟩)
        | (go_at_call 60; refine (HI2.out _).mono ?_; rintro e w' ⟨rfl, rfl⟩)))
    have HBF := hide (show Below w.heap.size w w2 from HB.out.drew.trans (HB2.out.mono HB.out.size))
    go_wp2
    go_ret
    exact ⟨by rw [HO.out]; rfl, HBF.out⟩

set_option maxRecDepth 10000 in
theorem alive_any (w : World) : Calls Tryz.prog 9 #[] w fun e w' => e = .returned (.bool true) ∧ Below w.heap.size w w' := by
  have HC := hide (fun W => opText_any ⟨2, 0, 5⟩ W)
  have HT := hide (show opText ⟨2, 0, 5⟩ = { data := #[119, 48, 61, 53] } by decide +kernel)
  rw [HT.out] at HC
  go_enter Tryz.func9, Tryz.ntmps9
  go_wp2_with (go_at_call 26; refine (HC.out _).mono ?_; rintro e w1 ⟨rfl, hb1⟩)
  go_ret
  exact ⟨rfl, hb1⟩
def opsN20 (h : List Txn) : Nat := tot (fun x : Txn => x.Ops.length) h
/-- A history that is not too long. -/
def HistS (xs : List Txn) : Prop := xs.length ≤ 8 ∧ ∀ t ∈ xs, t.Ops.length ≤ 20
theorem HistS.ops {xs : List Txn} (h : HistS xs) : opsN20 xs ≤ 400 := by
  obtain ⟨h1, h2⟩ := h
  have : ∀ l : List Txn, (∀ t ∈ l, t.Ops.length ≤ 20) → opsN20 l ≤ 20 * l.length := by
    intro l
    induction l with
    | nil => intro _; simp [opsN20, tot]
    | cons t l ih =>
      intro h
      have h3 := ih (fun x hx => h x (List.mem_cons_of_mem _ hx))
      have h4 := h t List.mem_cons_self
      simp only [opsN20, tot, List.map_cons, List.sum_cons, List.length_cons] at h3 ⊢
      omega
  have := this xs h2
  omega
/-- Some history, in memory. -/
def DrawnHist (w : World) (e : Ending) (w' : World) : Prop := ∃ (xs : List Txn) (v : Value), e = .returned v ∧ HistS xs ∧ Sl tTxn w' (Old w') xs v ∧ Below w.heap.size w w'
set_option maxHeartbeats 1000000 in
theorem drawBestLevel (bs : List Int) (A : Option Addr) (c : Nat) (w : World) (hl : bs.length ≤ 1048576) (hc : bs.length ≤ c) (hcm : c ≤ maxLen) (hA : Row tByte w (Old w) A bs) :
    Calls Tryz.prog 6 #[.slice A bs.length c] w (DrawnHist w) := by
  have HC := hide (open_any bs A c w hl hc hcm hA)
  clear hA
  go_enter Tryz.func6, Tryz.ntmps6
  go_wp2_with fail
  refine HC.out.mono ?_
  rintro e w1 ⟨R, rfl, hR0, hr1, hb1⟩
  have HB1 := hide hb1
  have HR1 := hide hr1
  have HRw := hide hR0
  clear hb1 hr1 hR0 HC
  go_wp2_with fail
  refine (history_any _ R 0 3 9 HR1.out (by omega) (by omega) (by omega) (by omega)).mono ?_
  rintro e w4 ⟨xs, v, rfl, hx, ho, hS, hr4, hg4⟩
  go_wp2_with fail
  go_ret
  exact ⟨xs, v, rfl, ⟨hx, ho⟩, hS.mono (fun _ hb => hb.2) (fun _ _ => rfl), below_gr HB1.out hg4 HB1.out.size HRw.out⟩
theorem Sl.fresh {α : Type} {T : Ty α} {w w' : World} {xs : List α} {v : Value} (h : Sl T w' (New w w') xs v) : ∃ A c, v = .slice A xs.length c ∧ xs.length ≤ c ∧ c ≤ maxLen ∧ Row T w' (Old w') A xs := by
  obtain ⟨A, c, rfl, hc, hm, hr⟩ := h
  exact ⟨A, c, rfl, hc, hm, hr.mono (fun b hb => hb.2) (fun _ _ => rfl)⟩
theorem Sl.oldE {α : Type} {T : Ty α} {w' : World} {xs : List α} {v : Value} (h : Sl T w' (Old w') xs v) : ∃ A c, v = .slice A xs.length c ∧ xs.length ≤ c ∧ c ≤ maxLen ∧ Row T w' (Old w') A xs := h
theorem HistS.le {xs : List Txn} (h : HistS xs) : xs.length ≤ maxLen ∧ xs.length ≤ 1048576 ∧ opsN20 xs ≤ 1048576 ∧ ∀ x ∈ xs, x.Ops.length ≤ 1048576 :=
  ⟨by have := h.1; simp only [maxLen]; omega, by have := h.1; omega, by have := h.ops; omega, fun x hx => by have := h.2 x hx; omega⟩
end Go.Proofs.YtjiobgfaohldhaaGreatDoor
namespace Go.Proofs.YtjiobgfaohldhaaGreatDoor
open Go.RowKit

theorem infoIntS_ : (Tryz.prog.info? 27).map (fun i => (i.zero, i.size, i.bytes)) = some (some (.slice none 0 0), 1, 24) := by kernel_rfl
end Go.Proofs.YtjiobgfaohldhaaGreatDoor
namespace Go.Proofs.YtjiobgfaohldhaaGreatDoor
open Go.RowKit Go.Shelf
set_option linter.unusedVariables false
set_option linter.unusedSimpArgs false

def growRen : Ren := ⟨fun | 4 => 136 | n => n, fun | 22 => 27 | 25 => 3 | 3 => 3 | 4 => 4 | 9 => 9 | 20 => 20 | 0 => 0 | n => n, fun n => n⟩
set_option maxRecDepth 100000 in
theorem growLays : Lays8.n4 Tryz.prog growRen where
  mixed := by kernel_rfl
  f4 := ⟨ "slices.Grow[[]int,int]", by decide, Tryz.func136.trans (congrArg some (by kernel_rfl))⟩
  t0 := Tryz.underlying0
  a0 := Tryz.isAgg0
  z0 := Tryz.sizeOf0
  v0 := Tryz.zeroValue0
  t3 := Tryz.underlying3
  a3 := Tryz.isAgg3
  z3 := Tryz.sizeOf3
  v3 := Tryz.zeroValue3
  t4 := Tryz.underlying4
  a4 := Tryz.isAgg4
  z4 := Tryz.sizeOf4
  v4 := Tryz.zeroValue4
  t9 := Tryz.underlying9
  a9 := Tryz.isAgg9
  z9 := Tryz.sizeOf9
  v9 := Tryz.zeroValue9
  t20 := Tryz.underlying20
  a20 := Tryz.isAgg20
  z20 := Tryz.sizeOf20
  v20 := Tryz.zeroValue20
  t22 := Tryz.underlying27
  a22 := Tryz.isAgg27
  z22 := Tryz.sizeOf27
  v22 := Tryz.zeroValue27
def lens (xs : List (List Int)) : Nat := (xs.map List.length).sum
theorem lens_succ (xs : List (List Int)) (k : Nat) (h : k < xs.length) : lens (xs.take (k + 1)) = lens (xs.take k) + xs[k].length := by
  unfold lens
  rw [List.take_succ_eq_append_getElem h, List.map_append, List.sum_append]; simp
theorem lens_flat (xs : List (List Int)) : xs.flatten.length = lens xs := by unfold lens; rw [List.length_flatten]
theorem lens_le {xs : List (List Int)} {n : Nat} (h : ∀ x ∈ xs, x.length ≤ n) : lens xs ≤ n * xs.length := by
  unfold lens
  induction xs with
  | nil => simp
  | cons x r ih =>
    have h1 := h x (by simp)
    have h2 := ih (fun y hy => h y (List.mem_cons_of_mem _ hy))
    rw [List.map_cons, List.sum_cons, List.length_cons, Nat.mul_add]
    omega
theorem lens_take {xs : List (List Int)} {n : Nat} (h : ∀ x ∈ xs, x.length ≤ n) (k : Nat) : lens (xs.take k) ≤ n * k := by
  have := lens_le (xs := xs.take k) (n := n) (fun x hx => h x (List.mem_of_mem_take hx))
  have h2 : (xs.take k).length ≤ k := by rw [List.length_take]; omega
  exact Nat.le_trans this (Nat.mul_le_mul_left _ h2)
theorem grow_nil (n : Nat) (w : World) (hn : n ≤ 1048576) :
    Calls Tryz.prog 136 #[.slice none 0 0, .int .i64 n] w fun e w' => ∃ v, e = .returned v ∧ Own tInt 3 w' (New w w') [] v ∧ Below w.heap.size w w' := by
  by_cases h0 : n = 0
  · subst h0
    refine (Any8.slices_Grow_room growLays none 0 0 0 w (Nat.le_refl _) (by omega) (by omega) (by omega)).mono ?_
    rintro e w' ⟨rfl, rfl⟩
    exact ⟨_, rfl, .inl ⟨rfl, rfl⟩, Below.refl _ _⟩
  · obtain ⟨i0, hi, hz0, hz1, hz2⟩ := info_parts infoInt_
    refine (Any8.slices_Grow_grow growLays i0 _ hi hz0 (by rw [hz1]; decide) none 0 0 n [] w (Nat.le_refl _) (by omega) (by rw [hz2]; omega) (by omega) (by simp) (fun _ => rfl) (fun a h => by cases h)).mono ?_
    rintro e w' ⟨rfl, rfl⟩
    have hg := grownCap_ge w (0 + n) 0 3
    have hm := grownCap_le_maxLen w (0 + n) 0 3 (by simp only [maxLen]; omega)
    refine ⟨_, rfl, .inr ⟨w.heap.size, _, _, fun _ => False, rfl, ⟨Nat.le_refl _, by simp⟩, heap_alloc_new w.drew _, Nat.zero_le _, hm, ?_, fun _ h => h.elim, fun k hk => absurd hk (by simp)⟩, (Below.refl _ w).drew.alloc (by simp) _⟩
    simp only [Array.size_append, size_zeroCells, Value.cells, List.size_toArray, List.length_nil]
    show 0 + (0 + n - 0) * 1 + (grownCap w (0 + n) 0 3 - (0 + n)) * 1 = grownCap w (0 + n) 0 3 * 1
    omega
set_option maxRecDepth 10000 in
set_option maxHeartbeats 2000000 in
theorem concat_Int (xs : List (List Int)) (A : Option Addr) (c : Nat) (w : World) (hl : xs.length ≤ 16) (hx : ∀ x ∈ xs, x.length ≤ 1000) (hA : Row (tSlice tInt) w (Old w) A xs) :
    Calls Tryz.prog 102 #[.slice A xs.length c] w fun e w' => ∃ v, e = .returned v ∧ Own tInt 3 w' (New w w') xs.flatten v ∧ Below w.heap.size w w' := by
  obtain ⟨i0, hi, hz0, hz1, hz2⟩ := info_parts infoInt_
  have HA := hide hA; have HX := hide hx
  have HLt := hide (fun k => lens_take (xs := xs) (n := 1000) hx k)
  clear hA hx
  have hq : xs.length ≤ 9223372036854775807 := by omega
  go_enter Tryz.func102, Tryz.ntmps102
  go_wp2
  go_loopw [3, 5, 11] (fun n _ i wr => ∃ k : Nat, k ≤ xs.length ∧ i = .int .i64 k ∧ n = .int .i64 (lens (xs.take k)) ∧ Hid (Below w.heap.size w wr)) (fun _ _ i _ => xs.length - (intOf i).toNat)
  case atStart => exact ⟨0, Nat.zero_le _, rfl, rfl, Below.refl _ _⟩
  case round =>
    obtain ⟨k, hk, rfl, rfl, hb⟩ := hrel
    have HB := hide hb.out
    clear hb
    by_cases hlt : k < xs.length
    · have hki : (k : Int) < (xs.length : Int) := by omega
      obtain ⟨b, off, A2, c2, rfl, hbS, d0, hs1, hs2, hs3⟩ := at_IntS HA.out HB.out hlt
      have HS := hide (lens_succ xs k hlt)
      have h1 := HX.out _ (List.getElem_mem hlt)
      have h2 := HLt.out k
      generalize lens (xs.take k) = s at HS h2
      generalize xs[k].length = n at d0 HS h1
      have hsum : IntKind.i64.wrap ((s : Int) + (n : Int)) = (s : Int) + (n : Int) := by rw [IntKind.wrap_i64]; omega
      have hng : ¬ ((s : Int) + (n : Int) < 0) := by omega
      clear hs3 hs1 hs2
      go_wp2
      go_roundw
      case rel => exact ⟨k + 1, by omega, by go_num, by rw [HS.out]; go_num, HB.out⟩
      case measure => simp [intOf]; omega
    · obtain rfl : k = xs.length := by omega
      have h2 := HLt.out xs.length
      have HFl := hide (fun k (h : k < xs.length) => show (xs.take (k + 1)).flatten = (xs.take k).flatten ++ xs[k] by rw [List.take_succ_eq_append_getElem h, List.flatten_append]; simp)
      have HFn := hide (fun k => lens_flat (xs.take k))
      rw [List.take_length] at h2 ⊢
      have hln : lens xs ≤ 16000 := by omega
      have HGr := hide (grow_nil (lens xs) wr (by omega))
      generalize lens xs = s at HGr hln
      obtain ⟨wo, hwo⟩ : ∃ wo : World, wo = wr := ⟨_, rfl⟩
      rw [← hwo] at HB HGr ⊢
      clear hwo h2
      go_wp2_with (go_at_call 136; refine HGr.out.mono ?_; rintro e w2 ⟨v2, rfl, hO2, hb2⟩; have HO2 := hide hO2; have HB2 := hide hb2; clear hO2 hb2)
      go_loopw [6, 8, 27] (fun v _ i wr => ∃ (k : Nat) (vo : Value), vo = v ∧ k ≤ xs.length ∧ i = .int .i64 k ∧ Hid (Own tInt 3 wr (fun b => wo.heap.size ≤ b ∧ Old wr b) (xs.take k).flatten v) ∧ Hid (Below wo.heap.size wo wr)) (fun _ _ i _ => xs.length - (intOf i).toNat)
      case atStart => exact ⟨0, _, rfl, Nat.zero_le _, rfl, HO2.out, HB2.out⟩
      case round =>
        obtain ⟨k, vo, rfl, hk, rfl, hO, hb⟩ := hrel
        have HO := hide hO.out; have HBr := hide hb.out
        have HBw := hide (HB.out.trans (hb.out.mono HB.out.size))
        clear hO hb HO2 HB2
        by_cases hlt : k < xs.length
        · have hki : (k : Int) < (xs.length : Int) := by omega
          obtain ⟨b, off, A2, c2, rfl, hbS, d0, hs1, hs2, hs3⟩ := at_IntS HA.out (Below.refl _ w) hlt
          have d1 := (HBw.out.cell (p := ⟨b, off + k, none⟩) hbS).trans d0
          have HS := hide (HFl.out k hlt)
          have h1 := HX.out _ (List.getElem_mem hlt)
          have h2 := HLt.out k
          have h3 := HFn.out k
          have HRx := hide (hs3.mono (w' := wr) (S' := fun _ => True) (fun _ _ => trivial) (fun b hb => HBw.out.block b hb)).anyInt
          generalize lens (xs.take k) = s2 at h2 h3
          generalize (xs.take k).flatten = L at HO HS h3
          generalize xs[k] = x at d1 HS h1 HRx
          clear hs3 hs1 hs2 d0
          go_wp2_with (at_builtin; refine wpList_cat tInt rfl (.tmp 31) (.tmp 32) 27 rfl 3 i0 _ 8 Tryz.underlying27 hi hz0 hz1 hz2 rfl (by decide) (fun b => wo.heap.size ≤ b) (fun _ => False) L x _ rfl HO.out A2 _ c2 rfl rfl HRx.out (fun _ h => h.elim) (fun b hb => Nat.le_trans HBr.out.size hb) (by simp only [maxLen]; omega) (by omega) ?_; intro v6 w6 hO_ hK_; have HO6 := hide hO_; have HB6 := hide (below_only HBr.out hK_ HBr.out.size (fun _ h => h)); clear hO_ hK_)
          go_roundw
          case rel => exact ⟨k + 1, _, rfl, by omega, by go_num, by rw [HS.out]; exact HO6.out, HB6.out⟩
          case measure => simp [intOf]; omega
        · obtain rfl : k = xs.length := by omega
          have hO9 := HO.out
          rw [List.take_length] at hO9
          have HO9 := hide hO9
          clear HO hO9
          go_wp2_with fail
          go_ret
          exact ⟨_, rfl, HO9.out.mono (fun b hb => ⟨Nat.le_trans HB.out.size hb.1, hb.2⟩) (fun _ _ => rfl), HBw.out⟩
end Go.Proofs.YtjiobgfaohldhaaGreatDoor
namespace Go.Proofs.YtjiobgfaohldhaaGreatDoor
open Go.RowKit
set_option linter.unusedVariables false
set_option linter.unusedSimpArgs false

/-- All orders of a list, those first that begin with earlier elements; by places. -/
def permsI : Nat → List Int → List (List Int)
  | 0, _ => [[]]
  | n + 1, l => if l = [] then [[]] else ((List.range l.length).map fun k => (permsI n (l.eraseIdx k)).map fun o => l.getD k 0 :: o).flatten
def perms (l : List Int) : List (List Int) := permsI l.length l
/-- The same by elements. -/
def permsE : Nat → List Int → List (List Int)
  | 0, _ => [[]]
  | n + 1, l => if l = [] then [[]] else (l.map fun x => (permsE n (l.erase x)).map fun o => x :: o).flatten
theorem eraseIdx_nodup {l : List Int} (h : l.Nodup) (k : Nat) (hk : k < l.length) : l.eraseIdx k = l.erase l[k] := by
  induction l generalizing k with
  | nil => simp at hk
  | cons x l ih =>
    cases k with
    | zero => simp
    | succ k =>
      have hk' : k < l.length := by simpa using hk
      have hx : x ≠ l[k] := fun e => (List.nodup_cons.1 h).1 (e ▸ List.getElem_mem hk')
      simp only [List.eraseIdx_cons_succ, List.getElem_cons_succ]
      rw [List.erase_cons, if_neg (by simpa using hx), ih (List.nodup_cons.1 h).2 k hk']
theorem permsI_eq_E : ∀ (n : Nat) (l : List Int), l.Nodup → permsI n l = permsE n l
  | 0, l, _ => rfl
  | n + 1, l, h => by
    unfold permsI permsE
    split
    · rfl
    · congr 1
      apply List.ext_getElem
      · simp
      · intro k h1 h2
        have hk : k < l.length := by simpa using h1
        simp only [List.getElem_map, List.getElem_range]
        rw [eraseIdx_nodup h k hk, permsI_eq_E n _ (h.erase _), List.getD_eq_getElem?_getD, List.getElem?_eq_getElem hk, Option.getD_some]
/-- The search that goes on with the elements that are left, as long as the beginning is good. -/
def dfs (good : List Int → Bool) : Nat → List Int → List Int → Option (List Int)
  | 0, pre, _ => some pre
  | n + 1, pre, l => l.findSome? fun x => if good (pre ++ [x]) then dfs good n (pre ++ [x]) (l.erase x) else none
theorem findSome_flatten {α β γ : Type} (f : α → List β) (p : β → Option γ) : ∀ (l : List α), (l.map f).flatten.findSome? p = l.findSome? fun x => (f x).findSome? p
  | [] => rfl
  | x :: l => by
    simp only [List.map_cons, List.flatten_cons, List.findSome?_append, List.findSome?_cons, findSome_flatten f p l]
    cases (f x).findSome? p <;> rfl
theorem find_as_some {α : Type} (p : α → Bool) : ∀ (l : List α), l.find? p = l.findSome? fun x => if p x then some x else none
  | [] => rfl
  | x :: l => by
    simp only [List.find?_cons, List.findSome?_cons]
    cases p x with
    | true => rfl
    | false => simpa using find_as_some p l
theorem findSome_ext {α β : Type} {f g : α → Option β} : ∀ (l : List α), (∀ x ∈ l, f x = g x) → l.findSome? f = l.findSome? g
  | [], _ => rfl
  | x :: l, h => by
    simp only [List.findSome?_cons, h x List.mem_cons_self, findSome_ext l fun y hy => h y (List.mem_cons_of_mem _ hy)]
theorem findSome_map {α β γ : Type} (f : α → β) (p : β → Option γ) : ∀ (l : List α), (l.map f).findSome? p = l.findSome? fun x => p (f x)
  | [] => rfl
  | x :: l => by simp only [List.map_cons, List.findSome?_cons, findSome_map f p l]
theorem dfs_perms (good : List Int → Bool) (hg : ∀ a b, good (a ++ b) = true → good a = true) : ∀ (n : Nat) (pre l : List Int), n = l.length → good pre = true →
    dfs good n pre l = (permsE n l).findSome? fun o => if good (pre ++ o) then some (pre ++ o) else none
  | 0, pre, l, hn, hp => by
    simp [dfs, permsE, hp]
  | n + 1, pre, l, hn, hp => by
    have hl : l ≠ [] := by rintro rfl; simp at hn
    unfold dfs permsE
    rw [if_neg hl, findSome_flatten]
    apply findSome_ext
    intro x hx
    rw [findSome_map]
    split
    · rename_i hgx
      rw [dfs_perms good hg n (pre ++ [x]) (l.erase x) (by rw [List.length_erase_of_mem hx]; omega) hgx]
      apply findSome_ext
      intro o _
      simp
    · rename_i hgx
      symm
      rw [List.findSome?_eq_none_iff]
      intro o _
      rw [if_neg]
      intro h
      rw [show pre ++ x :: o = (pre ++ [x]) ++ o by simp] at h
      exact hgx (hg _ _ h)
theorem perms_mem : ∀ (n : Nat) (l o : List Int), n = l.length → (o ∈ permsE n l ↔ o.Perm l)
  | 0, l, o, hn => by
    obtain rfl : l = [] := List.eq_nil_of_length_eq_zero hn.symm
    simp [permsE]
  | n + 1, l, o, hn => by
    have hl : l ≠ [] := by rintro rfl; simp at hn
    unfold permsE
    rw [if_neg hl, List.mem_flatten]
    constructor
    · rintro ⟨L, hL, ho⟩
      obtain ⟨x, hx, rfl⟩ := List.mem_map.1 hL
      obtain ⟨o', ho', rfl⟩ := List.mem_map.1 ho
      have h1 := (perms_mem n (l.erase x) o' (by rw [List.length_erase_of_mem hx]; omega)).1 ho'
      exact (h1.cons x).trans (List.perm_cons_erase hx).symm
    · intro h
      cases o with
      | nil => have := h.length_eq; simp at this; exact absurd (List.eq_nil_of_length_eq_zero this.symm) hl
      | cons x o' =>
        have hx : x ∈ l := h.subset List.mem_cons_self
        refine ⟨_, List.mem_map.2 ⟨x, hx, rfl⟩, List.mem_map.2 ⟨o', ?_, rfl⟩⟩
        refine (perms_mem n (l.erase x) o' (by rw [List.length_erase_of_mem hx]; omega)).2 ?_
        exact List.Perm.cons_inv (h.trans (List.perm_cons_erase hx))

/-- The orders that begin with one of the first k elements. -/
def permsK (n : Nat) (l : List Int) (k : Nat) : List (List Int) := ((List.range k).map fun k => (permsI n (l.eraseIdx k)).map fun o => l.getD k 0 :: o).flatten
theorem permsK_succ (n : Nat) (l : List Int) (k : Nat) : permsK n l (k + 1) = permsK n l k ++ (permsI n (l.eraseIdx k)).map fun o => l.getD k 0 :: o := by
  unfold permsK
  rw [List.range_succ, List.map_append, List.flatten_append]
  simp
theorem permsI_succ (n : Nat) (l : List Int) (hl : l ≠ []) : permsI (n + 1) l = permsK n l l.length := by
  rw [permsI, if_neg hl]
  rfl
def fct : Nat → Nat
  | 0 => 1
  | n + 1 => (n + 1) * fct n
theorem permsI_len : ∀ (n : Nat) (l : List Int), l.length = n → (permsI n l).length = fct n
  | 0, l, h => rfl
  | n + 1, l, h => by
    have hl : l ≠ [] := by rintro rfl; simp at h
    have hK : ∀ k, k ≤ l.length → (permsK n l k).length = k * fct n := fun k => by
      induction k with
      | zero => intro _; simp [permsK]
      | succ k ih =>
        intro hk
        rw [permsK_succ, List.length_append, List.length_map, ih (by omega), permsI_len n _ (by rw [List.length_eraseIdx_of_lt (by omega)]; omega), Nat.add_mul]
        omega
    rw [permsI_succ n l hl, hK _ (Nat.le_refl _), h]
    rfl
theorem permsK_len (n : Nat) (l : List Int) (h : l.length = n + 1) (k : Nat) (hk : k ≤ l.length) : (permsK n l k).length = k * fct n := by
  induction k with
  | zero => simp [permsK]
  | succ k ih =>
    rw [permsK_succ, List.length_append, List.length_map, ih (by omega), permsI_len n _ (by rw [List.length_eraseIdx_of_lt (by omega)]; omega), Nat.add_mul]
    omega
theorem fct_le {n : Nat} (h : n ≤ 8) : fct n ≤ 40320 := by
  have : n = 0 ∨ n = 1 ∨ n = 2 ∨ n = 3 ∨ n = 4 ∨ n = 5 ∨ n = 6 ∨ n = 7 ∨ n = 8 := by omega
  rcases this with rfl | rfl | rfl | rfl | rfl | rfl | rfl | rfl | rfl <;> decide
theorem permsI_mem_len : ∀ (n : Nat) (l o : List Int), l.length = n → o ∈ permsI n l → o.length = n
  | 0, l, o, h, ho => by simp [permsI] at ho; subst ho; rfl
  | n + 1, l, o, h, ho => by
    have hl : l ≠ [] := by rintro rfl; simp at h
    rw [permsI_succ n l hl] at ho
    unfold permsK at ho
    rw [List.mem_flatten] at ho
    obtain ⟨L, hL, ho⟩ := ho
    obtain ⟨k, hk, rfl⟩ := List.mem_map.1 hL
    rw [List.mem_range] at hk
    obtain ⟨o', ho', rfl⟩ := List.mem_map.1 ho
    have := permsI_mem_len n _ o' (by rw [List.length_eraseIdx_of_lt hk]; omega) ho'
    simp [this]
/-- Each number is allowed behind those before it. -/
def stepsOK (alw : List Int → Int → Bool) (o : List Int) : Bool := (List.range o.length).all fun k => alw (o.take k) (o.getD k 0)
theorem stepsOK_snoc (alw : List Int → Int → Bool) (o : List Int) (x : Int) : stepsOK alw (o ++ [x]) = (stepsOK alw o && alw o x) := by
  unfold stepsOK
  rw [List.length_append, List.length_singleton, List.range_succ, List.all_append]
  congr 1
  · rw [Bool.eq_iff_iff, List.all_eq_true, List.all_eq_true]
    refine forall_congr' fun k => forall_congr' fun hk => ?_
    rw [List.mem_range] at hk
    rw [List.take_append_of_le_length (by omega)]
    simp [List.getElem?_append_left hk]
  · simp
theorem stepsOK_prefix (alw : List Int → Int → Bool) (a : List Int) : ∀ (b : List Int), stepsOK alw (a ++ b) = true → stepsOK alw a = true := by
  intro b h
  unfold stepsOK at h ⊢
  rw [List.all_eq_true] at h ⊢
  intro k hk
  rw [List.mem_range] at hk
  have := h k (by rw [List.mem_range, List.length_append]; omega)
  rw [List.take_append_of_le_length (by omega)] at this
  simpa [List.getElem?_append_left hk] using this
/-- The search over all numbers, leaving out those that stand already. -/
def dfsA (good : List Int → Bool) (all : List Int) : Nat → List Int → Option (List Int)
  | 0, pre => some pre
  | n + 1, pre => all.findSome? fun x => if pre.contains x then none else if good (pre ++ [x]) then dfsA good all n (pre ++ [x]) else none
theorem filter_erase {all pre : List Int} (hn : all.Nodup) {x : Int} (hx : x ∈ all) (hp : pre.contains x = false) :
    (all.filter fun y => !pre.contains y).erase x = all.filter fun y => !(pre ++ [x]).contains y := by
  have h1 : (all.filter fun y => !pre.contains y).Nodup := hn.filter _
  rw [h1.erase_eq_filter, List.filter_filter]
  apply List.filter_congr
  intro y hy
  rw [Bool.eq_iff_iff]
  simp only [Bool.and_eq_true, bne_iff_ne, Bool.not_eq_true', List.contains_eq_mem, decide_eq_false_iff_not, List.mem_append, List.mem_singleton]
  constructor
  · rintro ⟨h1, h2⟩ (h | h)
    · exact h2 h
    · exact h1 h
  · intro h
    exact ⟨fun e => h (.inr e), fun e => h (.inl e)⟩
theorem findSome_filter {α β : Type} (p : α → Bool) (f : α → Option β) : ∀ (l : List α), (l.filter p).findSome? f = l.findSome? fun x => if p x then f x else none
  | [] => rfl
  | x :: l => by
    rw [List.filter_cons, List.findSome?_cons]
    cases hp : p x with
    | true => simp only [if_true, List.findSome?_cons, findSome_filter p f l]
    | false => simp only [Bool.false_eq_true, if_false, findSome_filter p f l]
theorem dfsA_eq (good : List Int → Bool) (all : List Int) (hn : all.Nodup) : ∀ (n : Nat) (pre : List Int), dfsA good all n pre = dfs good n pre (all.filter fun y => !pre.contains y)
  | 0, pre => rfl
  | n + 1, pre => by
    unfold dfsA dfs
    rw [findSome_filter]
    apply findSome_ext
    intro x hx
    cases hp : pre.contains x with
    | true => simp
    | false =>
      simp only [Bool.false_eq_true, if_false, Bool.not_false, if_true]
      split
      · rw [dfsA_eq good all hn n (pre ++ [x]), filter_erase hn hx hp]
      · rfl
/-- The first order of all of them that is good. -/
def firstGood (good : List Int → Bool) (all : List Int) : Option (List Int) := (perms all).find? good
theorem dfsA_first (good : List Int → Bool) (hg : ∀ a b, good (a ++ b) = true → good a = true) (h0 : good [] = true) (all : List Int) (hn : all.Nodup) : dfsA good all all.length [] = firstGood good all := by
  have h1 : all.filter (fun y => !([] : List Int).contains y) = all := by simp
  rw [dfsA_eq good all hn, h1, dfs_perms good hg _ _ _ rfl h0]
  unfold firstGood perms
  rw [permsI_eq_E _ _ hn, find_as_some]
  apply findSome_ext
  intro o _
  simp
theorem firstGood_perm {good : List Int → Bool} {all o : List Int} (hn : all.Nodup) (h : firstGood good all = some o) : o.Perm all ∧ good o = true := by
  unfold firstGood perms at h
  have h1 := List.mem_of_find?_eq_some h
  rw [permsI_eq_E _ _ hn, perms_mem _ _ _ rfl] at h1
  exact ⟨h1, List.find?_some h⟩
theorem firstGood_none {good : List Int → Bool} {all : List Int} (hn : all.Nodup) (h : firstGood good all = none) : ∀ o : List Int, o.Perm all → good o = false := by
  intro o ho
  unfold firstGood perms at h
  rw [List.find?_eq_none] at h
  have := h o (by rw [permsI_eq_E _ _ hn, perms_mem _ _ _ rfl]; exact ho)
  simpa using this
theorem take_all_snoc {α : Type} (p : α → Bool) (l : List α) (k : Nat) (hk : k < l.length) : (l.take (k + 1)).all p = ((l.take k).all p && p l[k]) := by
  rw [List.take_succ_eq_append_getElem hk, List.all_append]
  simp
theorem all_stop {α : Type} (p : α → Bool) (l : List α) (k : Nat) (h : (l.take k).all p = false) : l.all p = false := by
  rw [← List.take_append_drop k l, List.all_append, h]; rfl
theorem bit_shift (x j : Nat) : x / 2 ^ j % 2 = (if x.testBit j then 1 else 0) := by
  rw [Nat.testBit_eq_decide_div_mod_eq]
  have := Nat.mod_two_eq_zero_or_one (x / 2 ^ j)
  split <;> simp_all
theorem shl1 (j : Nat) (hj : j < 6) : IntKind.u64.wrap (2 ^ j) = ((2 ^ j : Nat) : Int) := by
  match j, hj with
  | 0, _ => rfl | 1, _ => rfl | 2, _ => rfl | 3, _ => rfl | 4, _ => rfl | 5, _ => rfl
theorem pow6 {j : Nat} (hj : j < 6) : 2 ^ j < 64 := Nat.pow_lt_pow_right (by decide) hj
theorem or_u64 (a j : Nat) (ha : a < 64) (hj : j < 6) : bits .or .u64 (a : Int) ((2 ^ j : Nat) : Int) = ((a ||| 2 ^ j : Nat) : Int) :=
  u64_or_nat a (2 ^ j) (by omega) (by have := pow6 hj; omega)
theorem or_shl (a j : Nat) (ha : a < 64) (hj : j < 6) : bits .or .u64 (a : Int) (IntKind.u64.wrap (2 ^ j)) = ((a ||| 2 ^ j : Nat) : Int) := by
  rw [shl1 j hj, or_u64 a j ha hj]
theorem bit_int (a j : Nat) : ((a : Int) / 2 ^ j) = ((a / 2 ^ j : Nat) : Int) := by
  rw [Int.natCast_ediv, Int.natCast_pow]; rfl
theorem shr_and (a j : Nat) (ha : a < 64) : bits .and .u64 ((a : Int) / 2 ^ j) 1 = if a.testBit j then 1 else 0 := by
  have h2 : a / 2 ^ j ≤ a := Nat.div_le_self _ _
  have hb := bit_shift a j
  rw [bit_int]
  generalize a / 2 ^ j = q at h2 hb
  rw [and_one_u64 _ (by omega) (by omega)]
  cases hq : a.testBit j <;> simp only [hq] at hb ⊢ <;> simp at hb ⊢ <;> omega
theorem shr_eq (a j : Nat) (ha : a < 64) : (bits .and .u64 ((a : Int) / 2 ^ j) 1 == 1) = a.testBit j := by
  rw [shr_and a j ha]
  cases a.testBit j <;> rfl
/-- The bits of gone are the numbers of pre. -/
def BitsOf (gone : Nat) (pre : List Int) : Prop := gone < 64 ∧ ∀ j : Nat, gone.testBit j = pre.contains (j : Int)
theorem BitsOf.zero : BitsOf 0 [] := ⟨by decide, fun j => by simp⟩
theorem BitsOf.snoc {gone : Nat} {pre : List Int} (h : BitsOf gone pre) (n : Nat) (hn : n < 6) : BitsOf (gone ||| 2 ^ n) (pre ++ [(n : Int)]) := by
  refine ⟨Nat.or_lt_two_pow (n := 6) h.1 (pow6 hn), fun j => ?_⟩
  rw [Nat.testBit_or, h.2 j, Nat.testBit_two_pow]
  rw [Bool.eq_iff_iff]
  simp only [List.contains_iff_mem, List.mem_append, List.mem_singleton, Bool.or_eq_true, decide_eq_true_eq]
  constructor
  · rintro (h | h)
    · exact .inl h
    · exact .inr (by omega)
  · rintro (h | h)
    · exact .inl h
    · exact .inr (by omega)
end Go.Proofs.YtjiobgfaohldhaaGreatDoor
