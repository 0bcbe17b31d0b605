/- OrderOfLists of the program and of the reference answer alike. -/
import Derived.Test.YtcfllpgppinofaaDoorLongest
namespace Go.Proofs.YtcfllpgppinofaaDoor
open Go.RowKit
set_option linter.unusedVariables false

def OrderOk (ls : List (List Int)) : Prop := AgreeAns ls (-1) (-1)
theorem orderOk_of {ls : List (List Int)} {a b : Int} (h : AgreeAns ls a b) (ha : a = -1) : OrderOk ls := by
  rcases h with ⟨h1, rfl, rfl⟩ | ⟨h1, rfl, rfl, hA⟩ | ⟨h1, k, l, hk, hl, hkl, rfl, rfl, hn, hA⟩
  · cases ha
  · exact .inr (.inl ⟨h1, rfl, rfl, hA⟩)
  · omega
theorem orderOk_not {ls : List (List Int)} {a b : Int} (h : AgreeAns ls a b) (ha : a ≠ -1) : ¬ OrderOk ls := fun h2 => ha (h.unique h2).1
theorem orderOk_valid {ls : List (List Int)} (h : OrderOk ls) : listsV ls = true := by
  rcases h with ⟨h1, ha, _⟩ | ⟨h1, _⟩ | ⟨h1, _⟩
  · cases ha
  · exact h1
  · exact h1
/-- What OrderOfLists hands back. -/
def OrderAns (ls : List (List Int)) (w w' : World) (ok : Bool) (v : Value) : Prop := (ok = true ↔ OrderOk ls) ∧ Fresh w w' (if ok then longestR ls else []) v

set_option maxRecDepth 10000 in
set_option maxHeartbeats 400000 in
theorem specOrderOfLists (ls : List (List Int)) (A : Option Addr) (c : Nat) (w : World) (hm : ls.length ≤ maxLen) (hA : Row (tSlice tInt) w (Old w) A ls) :
    Calls Tryd.prog 48 #[.slice A ls.length c] w fun e w' => (∃ (ok : Bool) (v : Value), e = .returned (.tuple #[v, .bool ok]) ∧ OrderAns ls w w' ok v) ∧ Below w.heap.size w w' := by
  have HC := hide (specListsAgree ls A c w hm hA)
  have HA := hide hA
  have HM := hide hm
  clear hA hm
  go_enter Tryd.func48, Tryd.ntmps48
  go_wp2_with (go_at_call 45; refine HC.out.mono ?_; rintro e w1 ⟨⟨a, b, rfl, hans⟩, hb1⟩; have HAns := hide hans; have HB1 := hide hb1; clear hans hb1; rcases (Decidable.em (a = -1)) with ha | ha)
  · have hne : (a != -1) = false := by simpa using ha
    have HOk := hide (orderOk_of HAns.out ha)
    clear ha
    go_wp2_with (go_at_call 42; refine (specLongestList ls A c _ HM.out (HA.out.old HB1.out)).mono ?_; rintro e w2 ⟨v, rfl, hF, hb2⟩; have HF := hide hF; have HB2 := hide hb2; clear hF hb2)
    go_ret2
    refine ⟨⟨true, _, rfl, ⟨fun _ => HOk.out, fun _ => rfl⟩, ?_⟩, HB1.out.trans (HB2.out.mono HB1.out.size)⟩
    exact HF.out.from_ HB1.out.size
  · have hne : (a != -1) = true := by simpa using ha
    have HOk := hide (orderOk_not HAns.out ha)
    clear ha
    go_wp2
    go_ret2
    exact ⟨⟨false, _, rfl, ⟨fun h => Bool.noConfusion h, fun h => absurd h HOk.out⟩, ((Own.made (T := tInt) (e := 3) w1 (S := New w (w1.alloc (.cells #[] 3))) #[] 0 (by simp) (by simp [maxLen]) ⟨HB1.out.size, by simp⟩)).fresh⟩, HB1.out.alloc HB1.out.size _⟩
set_option maxRecDepth 10000 in
set_option maxHeartbeats 400000 in
theorem implOrderOfLists (ls : List (List Int)) (A : Option Addr) (c : Nat) (w : World) (hm : ls.length ≤ maxLen) (hA : Row (tSlice tInt) w (Old w) A ls) :
    Calls Tryd.prog 47 #[.slice A ls.length c] w fun e w' => (∃ (ok : Bool) (v : Value), e = .returned (.tuple #[v, .bool ok]) ∧ OrderAns ls w w' ok v) ∧ Below w.heap.size w w' := by
  have HC := hide (implListsAgree ls A c w hm hA)
  have HA := hide hA
  have HM := hide hm
  clear hA hm
  go_enter Tryd.func47, Tryd.ntmps47
  go_wp2_with (go_at_call 44; refine HC.out.mono ?_; rintro e w1 ⟨⟨a, b, rfl, hans⟩, hb1⟩; have HAns := hide hans; have HB1 := hide hb1; clear hans hb1; rcases (Decidable.em (a = -1)) with ha | ha)
  · have hne : (a != -1) = false := by simpa using ha
    have HOk := hide (orderOk_of HAns.out ha)
    clear ha
    have HS := hide (listsV_short (orderOk_valid HOk.out))
    have HE := hide (show longestR ls = longestL ls by unfold longestR; rw [orderOk_valid HOk.out]; rfl)
    go_wp2_with (go_at_call 80; refine (longest_any ls A c _ HS.out.1 HS.out.2 (HA.out.old HB1.out)).mono ?_; rintro e w2 ⟨A', rfl, hq⟩; have HF : Hid (Fresh w1 w2 (longestR ls) (.slice A' (longestL ls).length (longestL ls).length)) := (by show Fresh _ _ _ _; rw [HE.out]; exact ⟨A', _, rfl, hq.1, hq.2.1⟩); have HB2 := hide hq.2.2; clear hq)
    go_ret2
    refine ⟨⟨true, _, rfl, ⟨fun _ => HOk.out, fun _ => rfl⟩, ?_⟩, HB1.out.trans (HB2.out.mono HB1.out.size)⟩
    exact HF.out.from_ HB1.out.size
  · have hne : (a != -1) = true := by simpa using ha
    have HOk := hide (orderOk_not HAns.out ha)
    clear ha
    go_wp2
    go_ret2
    exact ⟨⟨false, _, rfl, ⟨fun h => Bool.noConfusion h, fun h => absurd h HOk.out⟩, Fresh.nil⟩, HB1.out⟩
end Go.Proofs.YtcfllpgppinofaaDoor
