/- EdgesValid of the program and of the reference answer alike. -/
import Derived.Test.YtnlicjgegclilaaDoorRanges
import Derived.Test.YtnlicjgegclilaaDoorElems
import Derived.Test.YtnlicjgegclilaaDoorContB
namespace Go.Proofs.YtnlicjgegclilaaDoor
open Go.RowKit
set_option linter.unusedVariables false

def edgeOk (many : Int) (e : Edge) : Bool := inR e.From 0 (many - 1) && inR e.To 0 (many - 1) && !(e.From == e.To) && inR e.Kind 1 4
def edgesV (many : Int) (xs : List Edge) : Bool := inR many 0 6 && decide (xs.length ≤ 144) && xs.all (edgeOk many)

set_option maxRecDepth 10000 in
set_option maxHeartbeats 1000000 in
theorem specEdgesValid (many : Int) (xs : List Edge) (A : Option Addr) (c : Nat) (w : World) (hl : xs.length ≤ maxLen) (hA : Row tEdge w (Old w) A xs) :
    Calls Tryd.prog 13 #[.int .i64 many, .slice A xs.length c] w fun e w' => e = .returned (.bool (edgesV many xs)) ∧ Below w.heap.size w w' := by
  unfold maxLen at hl
  have HA := hide hA
  clear hA
  by_cases hm : inR many 0 6 = true
  · obtain ⟨hm1, hm2⟩ := inR_iff.1 hm
    have HM := hide hm
    go_enter Tryd.func13, Tryd.ntmps13
    go_wp2
    go_loopw [5] (fun i wr => ∃ k : Nat, k ≤ xs.length ∧ i = .int .i64 k ∧ Hid (Upto (edgeOk many) xs k) ∧ Below w.heap.size w wr) (fun i _ => xs.length - (intOf i).toNat)
    case atStart => exact ⟨0, Nat.zero_le _, rfl, Upto.zero, Below.refl _ _⟩
    case round =>
      obtain ⟨k, hk, rfl, hI, hb⟩ := hrel
      by_cases hlt : k < xs.length
      · obtain ⟨b, off, rfl, hbS, c0, c1, c2⟩ := at_Edge HA.out hb hlt
        have HEx := hide (show edgeOk many xs[k] = (inR xs[k].From 0 (many - 1) && inR xs[k].To 0 (many - 1) && !(xs[k].From == xs[k].To) && inR xs[k].Kind 1 4) from rfl)
        cases q1 : inR xs[k].From 0 (many - 1) with
        | false =>
          have HO := hide (show edgeOk many xs[k] = false by rw [HEx.out, q1]; rfl)
          go_wp2_with (go_at_call 28; refine (l1In _ _ _ _).mono ?_; rintro e w' ⟨rfl, rfl⟩)
          go_ret
          exact ⟨ret_bool (by unfold edgesV; rw [all_false hlt HO.out, Bool.and_false]), hb.alloc hb.size _⟩
        | true =>
          cases q2 : inR xs[k].To 0 (many - 1) with
          | false =>
            have HO := hide (show edgeOk many xs[k] = false by rw [HEx.out, q2, Bool.and_false]; rfl)
            go_wp2_with (go_at_call 28; refine (l1In _ _ _ _).mono ?_; rintro e w' ⟨rfl, rfl⟩)
            go_ret
            exact ⟨ret_bool (by unfold edgesV; rw [all_false hlt HO.out, Bool.and_false]), hb.alloc hb.size _⟩
          | true =>
            cases q3 : (xs[k].From == xs[k].To) with
            | true =>
              have HO := hide (show edgeOk many xs[k] = false by rw [HEx.out, q3, Bool.not_true, Bool.and_false]; rfl)
              go_wp2_with (go_at_call 28; refine (l1In _ _ _ _).mono ?_; rintro e w' ⟨rfl, rfl⟩)
              go_ret
              exact ⟨ret_bool (by unfold edgesV; rw [all_false hlt HO.out, Bool.and_false]), hb.alloc hb.size _⟩
            | false =>
              cases q4 : inR xs[k].Kind 1 4 with
              | false =>
                have HO := hide (show edgeOk many xs[k] = false by rw [HEx.out, q4, Bool.and_false])
                go_wp2_with (go_at_call 28; refine (l1In _ _ _ _).mono ?_; rintro e w' ⟨rfl, rfl⟩)
                go_ret
                exact ⟨ret_bool (by unfold edgesV; rw [all_false hlt HO.out, Bool.and_false]), hb.alloc hb.size _⟩
              | true =>
                have HO := hide (show edgeOk many xs[k] = true by rw [HEx.out, q1, q2, q3, q4]; rfl)
                go_wp2_with (go_at_call 28; refine (l1In _ _ _ _).mono ?_; rintro e w' ⟨rfl, rfl⟩)
                go_roundw
                case rel => exact ⟨k + 1, by omega, by go_num, hI.out.succ hlt HO.out, hb.alloc hb.size _⟩
                case measure => simp [intOf]; omega
      · obtain rfl : k = xs.length := by omega
        have HV := hide (show edgesV many xs = decide (xs.length ≤ 144) by unfold edgesV; rw [HM.out, hI.out.all, Bool.and_true, Bool.true_and])
        clear hI
        go_wp2_with (go_at_call 28; refine (l1In _ _ _ _).mono ?_; rintro e w' ⟨rfl, rfl⟩)
        go_ret
        exact ⟨ret_bool (by rw [HV.out]; simp; try omega), hb⟩
  · have hm' : inR many 0 6 = false := by simpa using hm
    have HV := hide (show edgesV many xs = false by unfold edgesV; rw [hm']; rfl)
    clear hm
    go_enter Tryd.func13, Tryd.ntmps13
    go_wp2
    go_loopw [5] (fun i wr => ∃ k : Nat, k ≤ xs.length ∧ i = .int .i64 k ∧ Below w.heap.size w wr) (fun i _ => xs.length - (intOf i).toNat)
    case atStart => exact ⟨0, Nat.zero_le _, rfl, Below.refl _ _⟩
    case round =>
      obtain ⟨k, hk, rfl, hb⟩ := hrel
      by_cases hlt : k < xs.length
      · obtain ⟨b, off, rfl, hbS, c0, c1, c2⟩ := at_Edge HA.out hb hlt
        go_wp2_with (go_at_call 28; refine (l1In _ _ _ _).mono ?_; rintro e w' ⟨rfl, rfl⟩)
        all_goals first
          | (go_ret
             exact ⟨ret_bool HV.out.symm, hb.alloc hb.size _⟩)
          | (go_roundw
             case rel => exact ⟨k + 1, by omega, by go_num, hb.alloc hb.size _⟩
             case measure => simp [intOf]; omega)
      · go_wp2_with (go_at_call 28; refine (l1In _ _ _ _).mono ?_; rintro e w' ⟨rfl, rfl⟩)
        go_ret
        exact ⟨ret_bool HV.out.symm, hb⟩

set_option maxHeartbeats 400000 in
theorem edgeLit (many : Int) (x : Edge) (B : Nat) (w : World) (h1 : 0 ≤ many) (h2 : many ≤ 6) (hB : B < w.heap.size) (hc : w.cell? ⟨B, 0, none⟩ = some (.int .i64 many)) :
    Calls Tryd.prog 30 #[.agg #[.int .i64 x.From, .int .i64 x.To, .int .i64 x.Kind], .pointer (some ⟨B, 0, none⟩)] w fun e w' => e = .returned (.bool (!edgeOk many x)) ∧ Below w.heap.size w w' := by
  have HB := hide (show Below w.heap.size w (w.alloc (.cells #[.int .i64 x.From, .int .i64 x.To, .int .i64 x.Kind] 49)) from (Below.refl _ _).alloc (Nat.le_refl _) _)
  have hc' : ∀ o, (w.alloc o).cell? ⟨B, 0, none⟩ = some (.int .i64 many) := fun o => (World.cell?_alloc_lt w o ⟨B, 0, none⟩ hB).trans hc
  clear hc
  have HEx := hide (show edgeOk many x = (inR x.From 0 (many - 1) && inR x.To 0 (many - 1) && !(x.From == x.To) && inR x.Kind 1 4) from rfl)
  cases q1 : inR x.From 0 (many - 1) with
  | false =>
    have HO := hide (show edgeOk many x = false by rw [HEx.out, q1]; rfl)
    go_enter Tryd.func30, Tryd.ntmps30
    go_wp2_with (go_at_call 21; refine (within _ _ _ _).mono ?_; rintro e w' ⟨rfl, rfl⟩)
    go_ret
    exact ⟨ret_bool (by rw [HO.out]; rfl), HB.out⟩
  | true =>
    cases q2 : inR x.To 0 (many - 1) with
    | false =>
      have HO := hide (show edgeOk many x = false by rw [HEx.out, q2, Bool.and_false]; rfl)
      go_enter Tryd.func30, Tryd.ntmps30
      go_wp2_with (go_at_call 21; refine (within _ _ _ _).mono ?_; rintro e w' ⟨rfl, rfl⟩)
      go_ret
      exact ⟨ret_bool (by rw [HO.out]; rfl), HB.out⟩
    | true =>
      cases q3 : (x.From == x.To) with
      | true =>
        have HO := hide (show edgeOk many x = false by rw [HEx.out, q3, Bool.not_true, Bool.and_false]; rfl)
        go_enter Tryd.func30, Tryd.ntmps30
        go_wp2_with (go_at_call 21; refine (within _ _ _ _).mono ?_; rintro e w' ⟨rfl, rfl⟩)
        go_ret
        exact ⟨ret_bool (by rw [HO.out]; rfl), HB.out⟩
      | false =>
        have HO := hide (show edgeOk many x = inR x.Kind 1 4 by rw [HEx.out, q1, q2, q3]; rfl)
        go_enter Tryd.func30, Tryd.ntmps30
        go_wp2_with (go_at_call 21; refine (within _ _ _ _).mono ?_; rintro e w' ⟨rfl, rfl⟩)
        go_ret
        exact ⟨ret_bool (by rw [HO.out]), HB.out⟩

set_option maxHeartbeats 400000 in
theorem implEdgesValid (many : Int) (xs : List Edge) (A : Option Addr) (c : Nat) (w : World) (hl : xs.length ≤ maxLen) (hA : Row tEdge w (Old w) A xs) :
    Calls Tryd.prog 19 #[.int .i64 many, .slice A xs.length c] w fun e w' => e = .returned (.bool (edgesV many xs)) ∧ Below w.heap.size w w' := by
  have hb0 : Below w.heap.size w (w.alloc (.cells #[.int .i64 many] 3)) := (Below.refl _ _).alloc (Nat.le_refl _) _
  have HB0 := hide hb0
  by_cases hm : inR many 0 6 = true
  · obtain ⟨hm1, hm2⟩ := inR_iff.1 hm
    by_cases h144 : xs.length ≤ 144
    · have hc0 : (w.alloc (.cells #[.int .i64 many] 3)).cell? ⟨w.heap.size, 0, none⟩ = some (.int .i64 many) := by simp
      have hcont := hide (cont_Edge xs A c (w.alloc (.cells #[.int .i64 many] 3)) 30 #[.pointer (some ⟨w.heap.size, 0, none⟩)] (fun x => !edgeOk many x) (enters_of Tryd.func30 (by kernel_rfl) rfl) hl (hA.old hb0)
        (fun x _ cs hr W hW => by
          obtain rfl := hr
          exact (edgeLit many x w.heap.size W hm1 hm2 (Nat.lt_of_lt_of_le (by simp) hW.size) ((hW.cell (p := ⟨w.heap.size, 0, none⟩) (by simp)).trans hc0)).mono (by rintro e w' ⟨rfl, hb⟩; exact ⟨rfl, hW.trans (hb.mono hW.size)⟩)))
      have HR := hide (show (!(xs.any fun x => !edgeOk many x)) = edgesV many xs by unfold edgesV; rw [hm, List.any_eq_not_all_not]; simp [h144])
      clear hA hb0 hc0
      unfold maxLen at hl
      go_enter Tryd.func19, Tryd.ntmps19
      go_wp2_with (first | (go_at_call 21; refine (within _ _ _ _).mono ?_; rintro e w' ⟨rfl, rfl⟩) | (go_at_call 29; refine hcont.out.mono ?_; rintro e w' ⟨rfl, hb'⟩))
      go_ret
      exact ⟨ret_bool HR.out, HB0.out.trans (hb'.mono (by simp))⟩
    · have HR := hide (show edgesV many xs = false by unfold edgesV; simp [h144])
      clear hA hb0
      unfold maxLen at hl
      go_enter Tryd.func19, Tryd.ntmps19
      go_wp2_with (go_at_call 21; refine (within _ _ _ _).mono ?_; rintro e w' ⟨rfl, rfl⟩)
      go_ret
      exact ⟨ret_bool HR.out.symm, HB0.out⟩
  · have hm' : inR many 0 6 = false := by simpa using hm
    have HR := hide (show edgesV many xs = false by unfold edgesV; rw [hm']; rfl)
    clear hm hA hb0
    go_enter Tryd.func19, Tryd.ntmps19
    go_wp2_with (go_at_call 21; refine (within _ _ _ _).mono ?_; rintro e w' ⟨rfl, rfl⟩)
    go_ret
    exact ⟨ret_bool HR.out.symm, HB0.out⟩
end Go.Proofs.YtnlicjgegclilaaDoor
