/- Numbers in new memory that can be marked and asked for their marks. -/
import Derived.Test.YtmlbfhknapkhgaaDoorHoldN
namespace Go.Proofs.YtmlbfhknapkhgaaDoor
open Go.RowKit
set_option linter.unusedVariables false
set_option linter.unusedSimpArgs false

theorem Hold.roomI {w : World} {S : Nat → Prop} {xs : List Int} {A : Option Addr} {c g : Nat} (h : Hold tInt 3 w S xs (.slice A xs.length c) g) : Room w S 3 A xs.length := fun hp => by
  obtain ⟨A', c', hv, _, _, hr⟩ := h
  injection hv with hA _ _
  subst hA
  obtain ⟨rfl, hg, ⟨cur, hB, hl⟩, _⟩ := hr hp
  exact ⟨g, cur, rfl, hg, hB, by have h1 : xs.length * 1 ≤ cur.size := hl; omega⟩
theorem markInt_hold (xs : List Int) (k : Int) (A : Option Addr) (c : Nat) (w : World) (S : Nat → Prop) (hn : xs.length ≤ 1048576) (h0 : 0 ≤ k) (h1 : k ≤ 1048576) (hH : HoldI w S xs (.slice A xs.length c)) :
    Calls Tryd.prog 17 #[.slice A xs.length c, .int .i64 k] w fun e w' => ∃ ks : Unit, e = .returned (.int .i64 (k + xs.length)) ∧ Only S w w' ∧ MarksAt w' S A k xs.length := by
  obtain ⟨g, hh⟩ := hH
  exact (markIntS xs.length k A c w S (by omega) h0 (by omega) hh.roomI).mono fun e w' ⟨e1, e2, _, e4⟩ => ⟨(), e1, e2.mono fun b hb => hb.1, e4⟩
theorem heldInt_list (xs : List Int) (u : Unit) (k : Int) (A : Option Addr) (c : Nat) (w : World) (S : Nat → Prop) (hn : xs.length ≤ 1048576) (h0 : 0 ≤ k) (h1 : k ≤ 1048576) (hM : MarksAt w S A k xs.length) :
    Calls Tryd.prog 18 #[.slice A xs.length c, .int .i64 k] w fun e w' => e = .returned (.int .i64 (k + xs.length)) ∧ w = w' :=
  heldIntS xs.length k A c w S (by omega) h0 (by omega) hM
end Go.Proofs.YtmlbfhknapkhgaaDoor
