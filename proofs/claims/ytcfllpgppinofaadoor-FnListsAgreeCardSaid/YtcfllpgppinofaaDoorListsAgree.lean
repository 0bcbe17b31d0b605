/- ListsAgree of the program and of the reference answer alike. -/
import Derived.Test.YtcfllpgppinofaaDoorAgree
namespace Go.Proofs.YtcfllpgppinofaaDoor
open Go.RowKit
set_option linter.unusedVariables false

/-- All pairs before (k, l), by the first and then by the second number, agree. -/
def AgreeTo (ls : List (List Int)) (k l : Nat) : Prop :=
  ∀ i j (hi : i < ls.length) (hj : j < ls.length), i < j → (i < k ∨ (i = k ∧ j < l)) → agree ls[i] ls[j] = true
/-- What ListsAgree answers: the first pair that does not agree. -/
def AgreeAns (ls : List (List Int)) (a b : Int) : Prop :=
  (listsV ls = false ∧ a = -2 ∧ b = -2) ∨
  (listsV ls = true ∧ a = -1 ∧ b = -1 ∧ AgreeTo ls ls.length 0) ∨
  (listsV ls = true ∧ ∃ k l : Nat, ∃ (hk : k < ls.length) (hl : l < ls.length), k < l ∧ a = k ∧ b = l ∧ agree ls[k] ls[l] = false ∧ AgreeTo ls k l)
theorem AgreeAns.unique {ls : List (List Int)} {a b a' b' : Int} (h : AgreeAns ls a b) (h' : AgreeAns ls a' b') : a = a' ∧ b = b' := by
  rcases h with ⟨h1, rfl, rfl⟩ | ⟨h1, rfl, rfl, hA⟩ | ⟨h1, k, l, hk, hl, hkl, rfl, rfl, hn, hA⟩ <;>
    rcases h' with ⟨h1', rfl, rfl⟩ | ⟨h1', rfl, rfl, hA'⟩ | ⟨h1', k', l', hk', hl', hkl', rfl, rfl, hn', hA'⟩
  · exact ⟨rfl, rfl⟩
  · rw [h1] at h1'; cases h1'
  · rw [h1] at h1'; cases h1'
  · rw [h1] at h1'; cases h1'
  · exact ⟨rfl, rfl⟩
  · have := hA k' l' hk' hl' hkl' (.inl hk'); rw [hn'] at this; cases this
  · rw [h1] at h1'; cases h1'
  · have := hA' k l hk hl hkl (.inl hk); rw [hn] at this; cases this
  · rcases Nat.lt_trichotomy k k' with h | h | h
    · have := hA' k l hk hl hkl (.inl h); rw [hn] at this; cases this
    · subst h
      rcases Nat.lt_trichotomy l l' with h | h | h
      · have := hA' k l hk hl hkl (.inr ⟨rfl, h⟩); rw [hn] at this; cases this
      · subst h; exact ⟨rfl, rfl⟩
      · have := hA k l' hk' hl' hkl' (.inr ⟨rfl, h⟩); rw [hn'] at this; cases this
    · have := hA k' l' hk' hl' hkl' (.inl h); rw [hn'] at this; cases this
theorem AgreeTo.zero {ls : List (List Int)} : AgreeTo ls 0 0 := fun i j _ _ _ h => by omega
theorem AgreeTo.start {ls : List (List Int)} {k : Nat} (h : AgreeTo ls k 0) : AgreeTo ls k (k + 1) := fun i j hi hj hij h2 => h i j hi hj hij (by omega)
theorem AgreeTo.step {ls : List (List Int)} {k l : Nat} (h : AgreeTo ls k l) (hk : k < ls.length) (hl : l < ls.length) (ha : agree ls[k] ls[l] = true) : AgreeTo ls k (l + 1) := fun i j hi hj hij h2 => by
  by_cases e : i = k ∧ j = l
  · obtain ⟨rfl, rfl⟩ := e; exact ha
  · exact h i j hi hj hij (by omega)
theorem AgreeTo.next {ls : List (List Int)} {k : Nat} (h : AgreeTo ls k ls.length) : AgreeTo ls (k + 1) 0 := fun i j hi hj hij h2 => h i j hi hj hij (by omega)
theorem listsV_short {ls : List (List Int)} (h : listsV ls = true) : ls.length ≤ 8 ∧ ∀ x ∈ ls, x.length ≤ 8 := by
  simp only [listsV, Bool.and_eq_true, decide_eq_true_eq, List.all_eq_true] at h
  refine ⟨h.1, fun x hx => ?_⟩
  have := h.2 x hx
  simp only [listV, Bool.and_eq_true, decide_eq_true_eq] at this
  exact this.1

theorem ret_two {a b : Int} {P : Int → Int → Prop} (h : P a b) : ∃ x y, Ending.returned (.tuple #[.int .i64 a, .int .i64 b]) = Ending.returned (.tuple #[.int .i64 x, .int .i64 y]) ∧ P x y := ⟨a, b, rfl, h⟩

set_option maxRecDepth 10000 in
set_option maxHeartbeats 1000000 in
theorem specListsAgree (ls : List (List Int)) (A : Option Addr) (c : Nat) (w : World) (hm : ls.length ≤ maxLen) (hA : Row (tSlice tInt) w (Old w) A ls) :
    Calls Tryd.prog 45 #[.slice A ls.length c] w fun e w' => (∃ a b : Int, e = .returned (.tuple #[.int .i64 a, .int .i64 b]) ∧ AgreeAns ls a b) ∧ Below w.heap.size w w' := by
  have HC := hide (specListsValid ls A c w hm hA)
  have HA := hide hA
  clear hA
  cases hv : listsV ls with
  | false =>
    rw [hv] at HC
    have HV := hide (show AgreeAns ls (-2) (-2) from .inl ⟨hv, rfl, rfl⟩)
    clear hv
    go_enter Tryd.func45, Tryd.ntmps45
    go_wp2_with (go_at_call 38; refine HC.out.mono ?_; rintro e w' ⟨rfl, hb'⟩)
    go_ret2
    exact ⟨ret_two HV.out, hb'⟩
  | true =>
    rw [hv] at HC
    have hl := (listsV_short hv).1
    have HS := hide (listsV_short hv).2
    have HV := hide hv
    clear hv hm
    go_enter Tryd.func45, Tryd.ntmps45
    go_wp2_with (go_at_call 38; refine HC.out.mono ?_; rintro e w1 ⟨rfl, hb1⟩)
    go_loopw [4] (fun i wr => ∃ k : Nat, k ≤ ls.length ∧ i = .int .i64 k ∧ Hid (AgreeTo ls k 0) ∧ Below w.heap.size w wr) (fun i _ => ls.length - (intOf i).toNat)
    case atStart => exact ⟨0, Nat.zero_le _, rfl, AgreeTo.zero, hb1⟩
    case round =>
      obtain ⟨k, hk, rfl, hI, hb⟩ := hrel
      clear hb1
      by_cases hlt : k < ls.length
      · go_wp2
        obtain ⟨wo, rfl⟩ : ∃ wo : World, wo = wr := ⟨_, rfl⟩
        go_loopw [5] (fun j wr => ∃ l : Nat, l ≤ ls.length ∧ k < l ∧ j = .int .i64 l ∧ Hid (AgreeTo ls k l) ∧ Below w.heap.size w wr) (fun j _ => ls.length - (intOf j).toNat)
        case atStart => exact ⟨k + 1, by omega, by omega, by go_num, hI.out.start, hb⟩
        case round =>
          obtain ⟨l, hll, hkl, rfl, hJ, hb2⟩ := hrel
          clear hb
          by_cases hlt2 : l < ls.length
          · obtain ⟨b, off, A2, c2, rfl, hbS, c0, hi1, hi2, hi3⟩ := at_IntS HA.out hb2 hlt
            obtain ⟨b', off', A3, c3, hbe, _, d0, hj1, hj2, hj3⟩ := at_IntS HA.out hb2 hlt2
            have hbe' : b = b' ∧ off = off' := by simpa using hbe
            obtain ⟨rfl, rfl⟩ := hbe'
            clear hbe
            have hk8 := HS.out _ (List.getElem_mem hlt)
            have hl8 := HS.out _ (List.getElem_mem hlt2)
            have H1 : Hid (∀ n, Calls Tryd.prog 82 #[.slice A2 ls[k].length c2, .slice A3 ls[l].length c3] (wr.drewN n) fun e w' => e = .returned (.bool (pre ls[k] ls[l])) ∧ ∃ m, w' = (wr.drewN n).drewN m) := fun n => l21Begins ls[k] ls[l] A2 A3 c2 c3 (wr.drewN n) (by simp only [maxLen]; omega) (by simp only [maxLen]; omega) hi3 hj3
            have H2 : Hid (∀ n, Calls Tryd.prog 82 #[.slice A3 ls[l].length c3, .slice A2 ls[k].length c2] (wr.drewN n) fun e w' => e = .returned (.bool (pre ls[l] ls[k])) ∧ ∃ m, w' = (wr.drewN n).drewN m) := fun n => l21Begins ls[l] ls[k] A3 A2 c3 c2 (wr.drewN n) (by simp only [maxLen]; omega) (by simp only [maxLen]; omega) hj3 hi3
            clear hi1 hi2 hi3 hj1 hj2 hj3
            have hlen1 : ls[k].length ≤ 8 := hk8
            cases hp : pre ls[k] ls[l] with
            | true =>
              have HQ := hide (show agree ls[k] ls[l] = true by unfold agree; rw [hp]; rfl)
              rw [hp] at H1
              clear hp
              go_wp2
              go_quiet ((go_at_call 82; with_reducible exact Calls.quiet_of (H1.out _)))
              go_wp2
              go_roundw
              case rel => exact ⟨l + 1, by omega, by omega, by go_num, hJ.out.step hlt hlt2 HQ.out, below_drewN hb2 _⟩
              case measure => simp [intOf]; omega
            | false =>
              rw [hp] at H1
              cases hp2 : pre ls[l] ls[k] with
              | true =>
                have HQ := hide (show agree ls[k] ls[l] = true by unfold agree; rw [hp2, Bool.or_true])
                rw [hp2] at H2
                clear hp hp2
                go_wp2
                go_quiet ((first | (go_at_call 82; with_reducible exact Calls.quiet_of (H1.out _)) | (go_at_call 82; with_reducible exact Calls.quiet_of (H2.out _))))
                go_wp2
                go_roundw
                case rel => exact ⟨l + 1, by omega, by omega, by go_num, hJ.out.step hlt hlt2 HQ.out, below_drewN hb2 _⟩
                case measure => simp [intOf]; omega
              | false =>
                have HQ := hide (show agree ls[k] ls[l] = false by unfold agree; rw [hp, hp2]; rfl)
                rw [hp2] at H2
                clear hp hp2
                have HAns := hide (show AgreeAns ls k l from .inr (.inr ⟨HV.out, k, l, hlt, hlt2, hkl, rfl, rfl, HQ.out, hJ.out⟩))
                go_wp2
                go_quiet ((first | (go_at_call 82; with_reducible exact Calls.quiet_of (H1.out _)) | (go_at_call 82; with_reducible exact Calls.quiet_of (H2.out _))))
                go_wp2
                go_ret2
                exact ⟨ret_two HAns.out, below_drewN hb2 _⟩
          · obtain rfl : l = ls.length := by omega
            go_wp2
            go_roundw
            case rel => exact ⟨k + 1, by omega, by go_num, hJ.out.next, hb2⟩
            case measure => simp [intOf]; omega
      · obtain rfl : k = ls.length := by omega
        have HAns := hide (show AgreeAns ls (-1) (-1) from .inr (.inl ⟨HV.out, rfl, rfl, hI.out⟩))
        clear hI
        go_wp2
        go_ret2
        exact ⟨ret_two HAns.out, hb⟩

set_option maxRecDepth 10000 in
set_option maxHeartbeats 1000000 in
theorem implListsAgree (ls : List (List Int)) (A : Option Addr) (c : Nat) (w : World) (hm : ls.length ≤ maxLen) (hA : Row (tSlice tInt) w (Old w) A ls) :
    Calls Tryd.prog 44 #[.slice A ls.length c] w fun e w' => (∃ a b : Int, e = .returned (.tuple #[.int .i64 a, .int .i64 b]) ∧ AgreeAns ls a b) ∧ Below w.heap.size w w' := by
  have HC := hide (implListsValid ls A c w hm hA)
  have HA := hide hA
  clear hA
  cases hv : listsV ls with
  | false =>
    rw [hv] at HC
    have HV := hide (show AgreeAns ls (-2) (-2) from .inl ⟨hv, rfl, rfl⟩)
    clear hv
    go_enter Tryd.func44, Tryd.ntmps44
    go_wp2_with (go_at_call 37; refine HC.out.mono ?_; rintro e w' ⟨rfl, hb'⟩)
    go_ret2
    exact ⟨ret_two HV.out, hb'⟩
  | true =>
    rw [hv] at HC
    have hl := (listsV_short hv).1
    have HS := hide (listsV_short hv).2
    have HV := hide hv
    clear hv hm
    go_enter Tryd.func44, Tryd.ntmps44
    go_wp2_with (go_at_call 37; refine HC.out.mono ?_; rintro e w1 ⟨rfl, hb1⟩)
    go_loopw [12] (fun i wr => ∃ k : Nat, k ≤ ls.length ∧ i = .int .i64 k ∧ Hid (AgreeTo ls k 0) ∧ Below w.heap.size w wr) (fun i _ => ls.length - (intOf i).toNat)
    case atStart => exact ⟨0, Nat.zero_le _, rfl, AgreeTo.zero, hb1⟩
    case round =>
      obtain ⟨k, hk, rfl, hI, hb⟩ := hrel
      clear hb1
      by_cases hlt : k < ls.length
      · obtain ⟨b, off, A2, c2, rfl, hbS, c0, hi1, hi2, hi3⟩ := at_IntS HA.out hb hlt
        have HR := hide hi3
        have HI1 := hide hi1
        have HI2 := hide hi2
        clear hi1 hi2 hi3
        have hk8 := HS.out _ (List.getElem_mem hlt)
        go_wp2
        obtain ⟨wo, rfl⟩ : ∃ wo : World, wo = wr := ⟨_, rfl⟩
        go_loopw [6] (fun j wr => ∃ l : Nat, l ≤ ls.length ∧ k < l ∧ j = .int .i64 l ∧ Hid (AgreeTo ls k l) ∧ Below w.heap.size w wr ∧ Below wo.heap.size wo wr) (fun j _ => ls.length - (intOf j).toNat)
        case atStart => exact ⟨k + 1, by omega, by omega, by go_num, hI.out.start, hb, Below.refl _ _⟩
        case round =>
          obtain ⟨l, hll, hkl, rfl, hJ, hb2, hbo⟩ := hrel
          clear hb c0
          by_cases hlt2 : l < ls.length
          · obtain ⟨b', off', A3, c3, hbe, _, d0, hj1, hj2, hj3⟩ := at_IntS HA.out hb2 hlt2
            have hbe' : b = b' ∧ off = off' := by simpa using hbe
            obtain ⟨rfl, rfl⟩ := hbe'
            clear hbe
            have H1 := hide (begins ls[k] ls[l] A2 A3 c2 c3 wr HI1.out hj1 HI2.out hj2 (HR.out.old hbo) hj3)
            have HBo := hide hbo
            clear hj1 hj2 hj3 hbo
            cases hp : agree ls[k] ls[l] with
            | true =>
              rw [hp] at H1
              have HQ := hide hp
              clear hp
              go_wp2_with (go_at_call 81; refine H1.out.mono ?_; rintro e w' ⟨rfl, hd⟩; have HD := hide hd; clear hd)
              go_roundw
              case rel => exact ⟨l + 1, by omega, by omega, by go_num, hJ.out.step hlt hlt2 HQ.out, hb2.trans (HD.out.below.mono hb2.size), HBo.out.trans (HD.out.below.mono HBo.out.size)⟩
              case measure => simp [intOf]; omega
            | false =>
              rw [hp] at H1
              have HAns := hide (show AgreeAns ls k l from .inr (.inr ⟨HV.out, k, l, hlt, hlt2, hkl, rfl, rfl, hp, hJ.out⟩))
              clear hp
              go_wp2_with (go_at_call 81; refine H1.out.mono ?_; rintro e w' ⟨rfl, hd⟩; have HD := hide hd; clear hd)
              go_ret2
              exact ⟨ret_two HAns.out, hb2.trans (HD.out.below.mono hb2.size)⟩
          · obtain rfl : l = ls.length := by omega
            go_wp2
            go_roundw
            case rel => exact ⟨k + 1, by omega, by go_num, hJ.out.next, hb2⟩
            case measure => simp [intOf]; omega
      · obtain rfl : k = ls.length := by omega
        have HAns := hide (show AgreeAns ls (-1) (-1) from .inr (.inl ⟨HV.out, rfl, rfl, hI.out⟩))
        clear hI
        go_wp2
        go_ret2
        exact ⟨ret_two HAns.out, hb⟩
end Go.Proofs.YtcfllpgppinofaaDoor
