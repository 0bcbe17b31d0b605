/- The text of an operation; alive. -/
import Derived.Test.YtnlicjgegclilaaDoorRanges
import Derived.Test.YtnlicjgegclilaaDoorBuild
import Derived.Deep.RegionHeld3
import Derived.WalkLawsBesides
namespace Go.Proofs.YtnlicjgegclilaaDoor
open Go.RowKit
set_option linter.unusedVariables false

def digitsS : ByteArray := { data := #[48, 49, 50, 51, 52, 53, 54, 55, 56, 57, 97, 98, 99, 100, 101, 102, 103, 104, 105, 106, 107, 108, 109, 110, 111, 112, 113, 114, 115, 116, 117, 118, 119, 120, 121, 122] }
theorem itoa_digit (n : Nat) (hn : n < 10) (w : World) :
    Calls Tryd.prog 34 #[.int .i64 n] w fun e w' => e = .returned (.string (digitsS.extract n (n + 1))) ∧ w = w' := by
  have h1 : (0 : Int) ≤ (n : Int) := by omega
  have h2 : (n : Int) < 100 := by omega
  have h3 : (n : Int) < 10 := by omega
  go_enter Tryd.func34, Tryd.ntmps34
  go_wp2
  go_ret
  exact ⟨rfl, rfl⟩

def smallsS : ByteArray := { data := #[48, 48, 48, 49, 48, 50, 48, 51, 48, 52, 48, 53, 48, 54, 48, 55, 48, 56, 48, 57, 49, 48, 49, 49, 49, 50, 49, 51, 49, 52, 49, 53, 49, 54, 49, 55, 49, 56, 49, 57, 50, 48, 50, 49, 50, 50, 50, 51, 50, 52, 50, 53, 50, 54, 50, 55, 50, 56, 50, 57, 51, 48, 51, 49, 51, 50, 51, 51, 51, 52, 51, 53, 51, 54, 51, 55, 51, 56, 51, 57, 52, 48, 52, 49, 52, 50, 52, 51, 52, 52, 52, 53, 52, 54, 52, 55, 52, 56, 52, 57, 53, 48, 53, 49, 53, 50, 53, 51, 53, 52, 53, 53, 53, 54, 53, 55, 53, 56, 53, 57, 54, 48, 54, 49, 54, 50, 54, 51, 54, 52, 54, 53, 54, 54, 54, 55, 54, 56, 54, 57, 55, 48, 55, 49, 55, 50, 55, 51, 55, 52, 55, 53, 55, 54, 55, 55, 55, 56, 55, 57, 56, 48, 56, 49, 56, 50, 56, 51, 56, 52, 56, 53, 56, 54, 56, 55, 56, 56, 56, 57, 57, 48, 57, 49, 57, 50, 57, 51, 57, 52, 57, 53, 57, 54, 57, 55, 57, 56, 57, 57] }
def itoaS (n : Nat) : ByteArray := if n < 10 then digitsS.extract n (n + 1) else smallsS.extract (n * 2) (n * 2 + 2)
set_option maxRecDepth 20000 in
theorem itoa_any (n : Nat) (hn : n < 100) (w : World) :
    Calls Tryd.prog 34 #[.int .i64 n] w fun e w' => e = .returned (.string (itoaS n)) ∧ w = w' := by
  by_cases h : n < 10
  · unfold itoaS; rw [if_pos h]; exact itoa_digit n h w
  · have HI := hide (show itoaS n = smallsS.extract (n * 2) (n * 2 + 2) by unfold itoaS; rw [if_neg h])
    have h1 : (0 : Int) ≤ (n : Int) := by omega
    have h2 : (n : Int) < 100 := by omega
    have h3 : ¬ (n : Int) < 10 := by omega
    go_enter Tryd.func34, Tryd.ntmps34
    go_wp2
    go_ret
    exact ⟨by rw [HI.out]; rfl, rfl⟩
theorem extract_size (s : ByteArray) (a b : Nat) : (s.extract a b).size ≤ b - a := by rw [ByteArray.size_extract]; omega
theorem itoaS_size (n : Nat) : (itoaS n).size ≤ 2 := by
  unfold itoaS
  split
  · have := extract_size digitsS n (n + 1); omega
  · have := extract_size smallsS (n * 2) (n * 2 + 2); omega
def letterS (o : Op) : ByteArray := if o.Kind == 2 then { data := #[119] } else { data := #[114] }
set_option maxHeartbeats 400000 in
theorem letter_any (o : Op) (w : World) : Calls Tryd.prog 33 #[.agg #[.int .i64 o.Kind, .int .i64 o.Key, .int .i64 o.Value]] w fun e w' => e = .returned (.string (letterS o)) ∧ Below w.heap.size w w' := by
  have HC := hide (fun W => writes_any o W)
  have HB := hide ((Below.refl _ w).alloc (Nat.le_refl _) (.cells #[.int .i64 o.Kind, .int .i64 o.Key, .int .i64 o.Value] 53))
  have HL := hide (show letterS o = if o.Kind == 2 then { data := #[119] } else { data := #[114] } from rfl)
  cases hq : (o.Kind == 2) with
  | true =>
    rw [hq] at HC HL
    clear hq
    go_enter Tryd.func33, Tryd.ntmps33
    go_wp2_with (go_at_call 40; refine (HC.out _).mono ?_; rintro e w' ⟨rfl, hb⟩; have HB2 := hide (HB.out.trans (hb.mono (by simp))); clear hb)
    go_ret
    exact ⟨by rw [HL.out]; rfl, HB2.out⟩
  | false =>
    rw [hq] at HC HL
    clear hq
    go_enter Tryd.func33, Tryd.ntmps33
    go_wp2_with (go_at_call 40; refine (HC.out _).mono ?_; rintro e w' ⟨rfl, hb⟩; have HB2 := hide (HB.out.trans (hb.mono (by simp))); clear hb)
    go_ret
    exact ⟨by rw [HL.out]; rfl, HB2.out⟩

theorem letterS_size (o : Op) : (letterS o).size = 1 := by unfold letterS; split <;> rfl
/-- The text of an operation. -/
def opText (o : Op) : ByteArray := if opOk o then letterS o ++ itoaS o.Key.toNat ++ { data := #[61] } ++ itoaS o.Value.toNat else { data := #[] }
set_option maxRecDepth 10000 in
set_option maxHeartbeats 2000000 in
theorem opText_any (o : Op) (w : World) : Calls Tryd.prog 24 #[.agg #[.int .i64 o.Kind, .int .i64 o.Key, .int .i64 o.Value]] w fun e w' => e = .returned (.string (opText o)) ∧ Below w.heap.size w w' := by
  have HV := hide (fun W => opValid_any o W)
  have HB := hide ((Below.refl _ w).alloc (Nat.le_refl _) (.cells #[.int .i64 o.Kind, .int .i64 o.Key, .int .i64 o.Value] 53))
  cases q1 : opOk o with
  | false =>
    have HO := hide (show opText o = { data := #[] } by unfold opText; rw [q1]; rfl)
    rw [q1] at HV
    clear q1
    go_enter Tryd.func24, Tryd.ntmps24
    go_wp2_with (go_at_call 32; refine (HV.out _).mono ?_; rintro e w1 ⟨rfl, hb1⟩; have HB := hide (HB.out.trans (hb1.mono HB.out.size)); clear hb1)
    go_ret
    exact ⟨by rw [HO.out]; rfl, HB.out⟩
  | true =>
    have HO := hide (show opText o = letterS o ++ itoaS o.Key.toNat ++ { data := #[61] } ++ itoaS o.Value.toNat by unfold opText; rw [q1]; rfl)
    have HL := hide (fun W => letter_any o W)
    have hls := letterS_size o
    generalize hL : letterS o = L at HO HL hls
    clear hL
    have hq := q1
    unfold opOk at hq
    simp only [Bool.and_eq_true, inR_iff] at hq
    obtain ⟨⟨⟨_, hk0, hk1⟩, hv0, hv1⟩, _⟩ := hq
    rw [q1] at HV
    clear q1
    generalize hK : o.Kind = Kd at HV HL HB ⊢
    obtain ⟨k, hk⟩ : ∃ k : Nat, o.Key = (k : Int) := ⟨o.Key.toNat, by omega⟩
    obtain ⟨v, hv⟩ : ∃ v : Nat, o.Value = (v : Int) := ⟨o.Value.toNat, by omega⟩
    have HI1 := hide (fun W => itoa_any k (by omega) W)
    have HI2 := hide (fun W => itoa_any v (by omega) W)
    have hs1 := itoaS_size k
    have hs2 := itoaS_size v
    obtain ⟨N1, hN1⟩ : ∃ N, N = itoaS k := ⟨_, rfl⟩
    obtain ⟨N2, hN2⟩ : ∃ N, N = itoaS v := ⟨_, rfl⟩
    rw [← hN1] at HI1 hs1
    rw [← hN2] at HI2 hs2
    rw [show o.Key.toNat = k by omega, show o.Value.toNat = v by omega, ← hN1, ← hN2] at HO
    clear hN1 hN2
    have hadd1 : ∀ W, (Op.stringOp .add L N1).run Tryd.prog W = .ok (.string (L ++ N1)) W := fun W => run_string_add_sum _ _ _ (by omega)
    have hadd2 : ∀ W, (Op.stringOp .add (L ++ N1) { data := #[61] }).run Tryd.prog W = .ok (.string (L ++ N1 ++ { data := #[61] })) W := fun W => run_string_add_sum _ _ _ (by rw [ByteArray.size_append]; have : ({ data := #[61] } : ByteArray).size = 1 := rfl; omega)
    have hadd3 : ∀ W, (Op.stringOp .add (L ++ N1 ++ { data := #[61] }) N2).run Tryd.prog W = .ok (.string (L ++ N1 ++ { data := #[61] } ++ N2)) W := fun W => run_string_add_sum _ _ _ (by rw [ByteArray.size_append, ByteArray.size_append]; have : ({ data := #[61] } : ByteArray).size = 1 := rfl; omega)
    rw [hk, hv] at HV HL HB ⊢
    clear hk hv hk0 hk1 hv0 hv1 hK
    go_enter Tryd.func24, Tryd.ntmps24
    go_wp2_with (go_at_call 32; refine (HV.out _).mono ?_; rintro e w1 ⟨rfl, hb1⟩; have HB := hide (HB.out.trans (hb1.mono HB.out.size)); have z0 := (hb1.cell (p := ⟨w.heap.size, 0, none⟩) (by simp)).trans ((Blk.new w _ _).cell 0); have z1 := (hb1.cell (p := ⟨w.heap.size, 1, none⟩) (by simp)).trans ((Blk.new w _ _).cell 1); have z2 := (hb1.cell (p := ⟨w.heap.size, 2, none⟩) (by simp)).trans ((Blk.new w _ _).cell 2); have hz1 : w.heap.size < w1.heap.size := (by have := hb1.size; simp at this; omega); clear hb1)
    simp only [List.getElem?_toArray, List.getElem?_cons_zero, List.getElem?_cons_succ] at z0 z1 z2
    go_region_held3 (fun w' => w'.cell? ⟨w.heap.size, 0, none⟩ = some (.int .i64 Kd) ∧ w'.cell? ⟨w.heap.size, 1, none⟩ = some (.int .i64 k) ∧ w'.cell? ⟨w.heap.size, 2, none⟩ = some (.int .i64 v) ∧ Below w.heap.size w w')
      (first
        | ((try dsimp only); exact ⟨z0, z1, z2, HB.out.drew⟩)
        | ((try dsimp only); exact ⟨(HB2.out.cell (p := ⟨w.heap.size, 0, none⟩) hz1).trans z0, (HB2.out.cell (p := ⟨w.heap.size, 1, none⟩) hz1).trans z1, (HB2.out.cell (p := ⟨w.heap.size, 2, none⟩) hz1).trans z2, HB.out.drew.trans (HB2.out.mono HB.out.size)⟩)
        | go_keep)
      ((first
        | (go_at_call 33; refine (HL.out _).mono ?_; rintro e w2 ⟨rfl, hb2⟩; have HB2 := hide hb2)
        | (go_at_call 34; refine (HI1.out _).mono ?_; rintro e w' ⟨rfl, rfl⟩)
        | (go_at_call 34; refine (HI2.out _).mono ?_; rintro e w' ⟨rfl, rfl⟩)))
    have HBF := hide (show Below w.heap.size w w2 from HB.out.drew.trans (HB2.out.mono HB.out.size))
    go_wp2
    go_ret
    exact ⟨by rw [HO.out]; rfl, HBF.out⟩

set_option maxRecDepth 10000 in
theorem alive_any (w : World) : Calls Tryd.prog 8 #[] w fun e w' => e = .returned (.bool true) ∧ Below w.heap.size w w' := by
  have HC := hide (fun W => opText_any ⟨2, 0, 5⟩ W)
  have HT := hide (show opText ⟨2, 0, 5⟩ = { data := #[119, 48, 61, 53] } by decide +kernel)
  rw [HT.out] at HC
  go_enter Tryd.func8, Tryd.ntmps8
  go_wp2_with (go_at_call 24; refine (HC.out _).mono ?_; rintro e w1 ⟨rfl, hb1⟩)
  go_ret
  exact ⟨rfl, hb1⟩
end Go.Proofs.YtnlicjgegclilaaDoor
