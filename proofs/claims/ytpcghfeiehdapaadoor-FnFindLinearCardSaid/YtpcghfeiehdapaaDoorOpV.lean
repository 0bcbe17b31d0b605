/- The validity of an operation. -/
import Derived.Test.YtpcghfeiehdapaaDoorRanges
import Derived.Test.YtpcghfeiehdapaaDoorBuild
import Derived.Deep.RegionHeld3
import Derived.WalkLawsBesides
namespace Go.Proofs.YtpcghfeiehdapaaDoor
open Go.RowKit
set_option linter.unusedVariables false
set_option linter.unusedSimpArgs false

def opOk (o : Op) : Bool := (o.Kind == 1 || o.Kind == 2) && inR o.Key 0 2 && inR o.Value 0 99 && !(o.Kind == 2 && o.Value == 0)
theorem reads_any (o : Op) (w : World) : Calls Tryd.prog 44 #[.agg #[.int .i64 o.Kind, .int .i64 o.Key, .int .i64 o.Value]] w fun e w' => e = .returned (.bool (o.Kind == 1)) ∧ Below w.heap.size w w' := by
  go_enter Tryd.func44, Tryd.ntmps44
  go_wp2
  go_ret
  exact ⟨rfl, (Below.refl _ _).alloc (Nat.le_refl _) _⟩
theorem writes_any (o : Op) (w : World) : Calls Tryd.prog 45 #[.agg #[.int .i64 o.Kind, .int .i64 o.Key, .int .i64 o.Value]] w fun e w' => e = .returned (.bool (o.Kind == 2)) ∧ Below w.heap.size w w' := by
  go_enter Tryd.func45, Tryd.ntmps45
  go_wp2
  go_ret
  exact ⟨rfl, (Below.refl _ _).alloc (Nat.le_refl _) _⟩


set_option maxRecDepth 10000 in
set_option maxHeartbeats 1000000 in
theorem opValid_any (o : Op) (w : World) : Calls Tryd.prog 36 #[.agg #[.int .i64 o.Kind, .int .i64 o.Key, .int .i64 o.Value]] w fun e w' => e = .returned (.bool (opOk o)) ∧ Below w.heap.size w w' := by
  have HR := hide (fun W => reads_any o W)
  have HW := hide (fun W => writes_any o W)
  have HB := hide ((Below.refl _ w).alloc (Nat.le_refl _) (.cells #[.int .i64 o.Kind, .int .i64 o.Key, .int .i64 o.Value] 52))
  have HO := hide (show opOk o = ((o.Kind == 1 || o.Kind == 2) && inR o.Key 0 2 && inR o.Value 0 99 && !(o.Kind == 2 && o.Value == 0)) from rfl)
  cases q1 : (o.Kind == 1) with
  | false =>
    cases q2 : (o.Kind == 2) with
    | false =>
      rw [q1, q2] at HO
      rw [q1] at HR; rw [q2] at HW
      clear q1 q2
      go_enter Tryd.func36, Tryd.ntmps36
      go_wp2_with (first | (go_at_call 44; refine (HR.out _).mono ?_; rintro e w1 ⟨rfl, hb1⟩; have HB := hide (HB.out.trans (hb1.mono HB.out.size)); obtain ⟨hc1, hf1⟩ := bcell hb1; have hz1 : w.heap.size < w1.heap.size := (by have := hb1.size; simp at this; omega); clear hb1) | (go_at_call 45; refine (HW.out _).mono ?_; rintro e w2 ⟨rfl, hb2⟩; have HB := hide (HB.out.trans (hb2.mono HB.out.size)); obtain ⟨hc2, hf2⟩ := bcell hb2; have hz2 : w.heap.size < w2.heap.size := (by have := hb2.size; omega); clear hb2) | (go_at_call 46; refine (keyOk _ _).mono ?_; rintro e w' ⟨rfl, rfl⟩) | (go_at_call 40; refine (valueOk _ _).mono ?_; rintro e w' ⟨rfl, rfl⟩))
      go_ret
      exact ⟨ret_bool (by rw [HO.out]; rfl), HB.out⟩
    | true =>
      rw [q1, q2] at HO
      rw [q1] at HR; rw [q2] at HW
      clear q1 q2
      cases q3 : inR o.Key 0 2 <;> cases q4 : inR o.Value 0 99 <;> cases q5 : (o.Value == 0) <;> rw [q3, q4, q5] at HO
      all_goals
        go_enter Tryd.func36, Tryd.ntmps36
        go_wp2_with (first | (go_at_call 44; refine (HR.out _).mono ?_; rintro e w1 ⟨rfl, hb1⟩; have HB := hide (HB.out.trans (hb1.mono HB.out.size)); obtain ⟨hc1, hf1⟩ := bcell hb1; have hz1 : w.heap.size < w1.heap.size := (by have := hb1.size; simp at this; omega); clear hb1) | (go_at_call 45; refine (HW.out _).mono ?_; rintro e w2 ⟨rfl, hb2⟩; have HB := hide (HB.out.trans (hb2.mono HB.out.size)); obtain ⟨hc2, hf2⟩ := bcell hb2; have hz2 : w.heap.size < w2.heap.size := (by have := hb2.size; omega); clear hb2) | (go_at_call 46; refine (keyOk _ _).mono ?_; rintro e w' ⟨rfl, rfl⟩) | (go_at_call 40; refine (valueOk _ _).mono ?_; rintro e w' ⟨rfl, rfl⟩))
        go_ret
        exact ⟨ret_bool (by rw [HO.out]; rfl), HB.out⟩
  | true =>
    have q2 : (o.Kind == 2) = false := by simp at q1 ⊢; omega
    rw [q1, q2] at HO
    rw [q1] at HR; rw [q2] at HW
    clear q1 q2
    cases q3 : inR o.Key 0 2 <;> cases q4 : inR o.Value 0 99 <;> rw [q3, q4] at HO
    all_goals
      go_enter Tryd.func36, Tryd.ntmps36
      go_wp2_with (first | (go_at_call 44; refine (HR.out _).mono ?_; rintro e w1 ⟨rfl, hb1⟩; have HB := hide (HB.out.trans (hb1.mono HB.out.size)); obtain ⟨hc1, hf1⟩ := bcell hb1; have hz1 : w.heap.size < w1.heap.size := (by have := hb1.size; simp at this; omega); clear hb1) | (go_at_call 45; refine (HW.out _).mono ?_; rintro e w2 ⟨rfl, hb2⟩; have HB := hide (HB.out.trans (hb2.mono HB.out.size)); obtain ⟨hc2, hf2⟩ := bcell hb2; have hz2 : w.heap.size < w2.heap.size := (by have := hb2.size; omega); clear hb2) | (go_at_call 46; refine (keyOk _ _).mono ?_; rintro e w' ⟨rfl, rfl⟩) | (go_at_call 40; refine (valueOk _ _).mono ?_; rintro e w' ⟨rfl, rfl⟩))
      go_ret
      exact ⟨ret_bool (by rw [HO.out]; rfl), HB.out⟩

end Go.Proofs.YtpcghfeiehdapaaDoor
