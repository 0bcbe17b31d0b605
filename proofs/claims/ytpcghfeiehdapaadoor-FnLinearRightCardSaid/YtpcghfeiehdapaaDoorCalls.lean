/- CallsValid of the program and of the reference answer alike. -/
import Derived.Test.YtpcghfeiehdapaaDoorSpans
import Derived.Test.YtpcghfeiehdapaaDoorBuild
import Derived.Test.YtpcghfeiehdapaaDoorToA
namespace Go.Proofs.YtpcghfeiehdapaaDoor
open Go.RowKit

def callOk1 (c : Call) : Bool := inR c.Kind 1 2 && inR c.Value 0 99
def callOk (c : Call) : Bool := callOk1 c && spanOk c.When
def callsV (xs : List Call) : Bool := decide (xs.length ≤ 6) && xs.all callOk

theorem callsV_eq (xs : List Call) (h : xs.all callOk1 = true) : spansV xs.length (xs.map Call.When) = callsV xs := by
  have e : xs.all callOk = (xs.map Call.When).all spanOk := by
    rw [List.all_map]
    rw [Bool.eq_iff_iff, List.all_eq_true, List.all_eq_true]
    rw [List.all_eq_true] at h
    constructor
    · intro h2 x hx; have := h2 x hx; simp only [callOk, Bool.and_eq_true] at this; exact this.2
    · intro h2 x hx; simp only [callOk, Bool.and_eq_true]; exact ⟨h x hx, h2 x hx⟩
  unfold callsV spansV
  rw [e]
  have h0 : inR (xs.length : Int) 0 6 = decide (xs.length ≤ 6) := by rw [Bool.eq_iff_iff, inR_iff, decide_eq_true_iff]; omega
  rw [h0]
  simp
theorem callsV_bad (xs : List Call) {k : Nat} (hk : k < xs.length) (h : callOk1 xs[k] = false) : callsV xs = false := by
  unfold callsV
  rw [all_false hk (by unfold callOk; rw [h]; rfl), Bool.and_false]

set_option maxRecDepth 10000 in
set_option maxHeartbeats 1000000 in
theorem specCallsValid (xs : List Call) (A : Option Addr) (c : Nat) (w : World) (hl : xs.length ≤ 2097152) (hA : Row tCall w (Old w) A xs) :
    Calls Tryd.prog 21 #[.slice A xs.length c] w fun e w' => e = .returned (.bool (callsV xs)) ∧ Below w.heap.size w w' := by
  obtain ⟨i0, hi, hz0, hz1, hz2⟩ := info_parts infoSpan_
  have HA := hide hA
  clear hA
  go_enter Tryd.func21, Tryd.ntmps21
  go_wp2
  go_loopw [3, 4] (fun v i wr => ∃ k : Nat, k ≤ xs.length ∧ i = .int .i64 k ∧ Hid (Upto callOk1 xs k) ∧ Hid (Own tSpan 35 wr (In w.heap.size wr.heap.size) ((xs.map Call.When).take k) v) ∧ Below w.heap.size w wr) (fun _ i _ => xs.length - (intOf i).toNat)
  case atStart => exact ⟨0, Nat.zero_le _, rfl, Upto.zero, Own.made w #[] 0 (by simp) (by simp [maxLen]) ⟨Nat.le_refl _, by simp⟩, (Below.refl _ _).alloc (Nat.le_refl _) _⟩
  case round =>
    obtain ⟨k, hk, rfl, hI, hO, hb⟩ := hrel
    by_cases hlt : k < xs.length
    · obtain ⟨b, off, rfl, hbS, c0, c1, c2, c3⟩ := at_Call HA.out hb hlt
      cases hq : inR xs[k].Kind 1 2 with
      | true =>
        cases hq2 : inR xs[k].Value 0 99 with
        | true =>
          have HOk := hide (show callOk1 xs[k] = true by unfold callOk1; rw [hq, hq2]; rfl)
          have HO1 := hide (hO.out.mono (w' := wr.alloc (.cells #[.int .i64 xs[k].When.From, .int .i64 xs[k].When.To] 35)) (fun _ h => h) (fun b h => Below.heap_alloc _ _ _ h.2))
          have HR1 := hide (row_one (T := tSpan) (w := wr) (S := fun _ => False) (x := xs[k].When) 35 rfl (fun _ h => h.elim))
          have HB1 := hide (hb.alloc hb.size (.cells #[.int .i64 xs[k].When.From, .int .i64 xs[k].When.To] 35))
          have HT := hide (show ((xs.map Call.When).take k) ++ [xs[k].When] = (xs.map Call.When).take (k + 1) by rw [List.take_succ_eq_append_getElem (by rw [List.length_map]; exact hlt)]; simp)
          have hlen : ((xs.map Call.When).take k).length = k := by simp; omega
          have HLen := hide hlen; clear hlen
          have HGe := hide (own_ge hO.out (B := w.heap.size) (fun _ h => h.1))
          go_wp2_with (first | (at_builtin; refine wpList_app tSpan rfl (.tmp 28) (.tmp 34) 48 rfl 35 i0 _ 16 Tryd.underlying48 hi hz0 hz1 hz2 rfl (by decide) (In w.heap.size wr.heap.size) (fun _ => False) (fun b => w.heap.size ≤ b) _ [xs[k].When] _ rfl HO1.out _ 1 1 rfl rfl HR1.out ?_ ?_ (fun b h => Nat.lt_of_lt_of_le h.2 (by simp)) (fun b h => h.elim) (fun b h => h.1) (fun b h => h.elim) (by simp; have := hb.size; omega) ?_) | (go_at_call 34; refine (l1In _ _ _ _).mono ?_; rintro e w' ⟨rfl, rfl⟩))
          · rw [HLen.out]; simp [maxLen]; omega
          · rw [HLen.out]; simp; omega
          · intro v' w' hO2 hg2
            have HO2 := hide (HT.out ▸ hO2); have HG2 := hide hg2; clear hO2 hg2
            go_wp2
            go_roundw
            case rel => exact ⟨k + 1, by omega, by go_num, hI.out.succ hlt HOk.out, HO2.out, HB1.out.grown HG2.out HB1.out.size HGe.out⟩
            case measure => simp [intOf]; omega
        | false =>
          have HOk := hide (show callOk1 xs[k] = false by unfold callOk1; rw [hq2, Bool.and_false])
          go_wp2_with (go_at_call 34; refine (l1In _ _ _ _).mono ?_; rintro e w' ⟨rfl, rfl⟩)
          go_ret
          exact ⟨ret_bool (callsV_bad xs hlt HOk.out).symm, hb⟩
      | false =>
        have HOk := hide (show callOk1 xs[k] = false by unfold callOk1; rw [hq, Bool.false_and])
        go_wp2_with (go_at_call 34; refine (l1In _ _ _ _).mono ?_; rintro e w' ⟨rfl, rfl⟩)
        go_ret
        exact ⟨ret_bool (callsV_bad xs hlt HOk.out).symm, hb⟩
    · obtain rfl : k = xs.length := by omega
      have HV := hide (callsV_eq xs hI.out.all)
      have hO2 := hO.out
      rw [List.take_of_length_le (by rw [List.length_map]; exact Nat.le_refl _)] at hO2
      obtain ⟨A2, c2, hv, _, _, hR⟩ := hO2.sl.mono (fun _ h => h.2) (fun _ _ => rfl)
      rw [List.length_map] at hv
      subst hv
      have hC := specSpansValid (xs.length : Int) (xs.map Call.When) A2 c2 wr (by rw [List.length_map]; simp only [maxLen]; omega) hR
      rw [List.length_map] at hC
      have HC := hide hC
      clear hC
      clear hO hR hI hO2
      go_wp2_with (go_at_call 35; refine HC.out.mono ?_; rintro e w' ⟨rfl, hb'⟩)
      go_ret
      exact ⟨ret_bool HV.out, hb.trans (hb'.mono hb.size)⟩

set_option maxHeartbeats 400000 in
theorem callValid (x : Call) (w : World) : Calls Tryd.prog 31 #[.agg #[.int .i64 x.Kind, .int .i64 x.Value, .int .i64 x.When.From, .int .i64 x.When.To]] w fun e w' => e = .returned (.bool (callOk x)) ∧ Below w.heap.size w w' := by
  have HB := hide (show Below w.heap.size w (w.alloc (.cells #[.int .i64 x.Kind, .int .i64 x.Value, .int .i64 x.When.From, .int .i64 x.When.To] 37)) from (Below.refl _ _).alloc (Nat.le_refl _) _)
  cases hq : inR x.Kind 1 2 with
  | true =>
    cases hq2 : inR x.Value 0 99 with
    | true =>
      have HO := hide (show callOk x = spanOk x.When by unfold callOk callOk1; rw [hq, hq2]; rfl)
      go_enter Tryd.func31, Tryd.ntmps31
      go_wp2_with (first | (go_at_call 19; refine (within _ _ _ _).mono ?_; rintro e w' ⟨rfl, rfl⟩) | (go_at_call 40; refine (valueOk _ _).mono ?_; rintro e w' ⟨rfl, rfl⟩) | (go_at_call 41; refine (spanValid x.When _).mono ?_; rintro e w' ⟨rfl, hb'⟩; have HB' := hide hb'; clear hb'))
      go_ret
      exact ⟨ret_bool HO.out.symm, HB.out.trans (HB'.out.mono (by simp))⟩
    | false =>
      have HO := hide (show callOk x = false by unfold callOk callOk1; rw [hq2, Bool.and_false]; rfl)
      go_enter Tryd.func31, Tryd.ntmps31
      go_wp2_with (first | (go_at_call 19; refine (within _ _ _ _).mono ?_; rintro e w' ⟨rfl, rfl⟩) | (go_at_call 40; refine (valueOk _ _).mono ?_; rintro e w' ⟨rfl, rfl⟩))
      go_ret
      exact ⟨ret_bool HO.out.symm, HB.out⟩
  | false =>
    have HO := hide (show callOk x = false by unfold callOk callOk1; rw [hq]; rfl)
    go_enter Tryd.func31, Tryd.ntmps31
    go_wp2_with (go_at_call 19; refine (within _ _ _ _).mono ?_; rintro e w' ⟨rfl, rfl⟩)
    go_ret
    exact ⟨ret_bool HO.out.symm, HB.out⟩
theorem callLit (x : Call) (w : World) : Calls Tryd.prog 30 #[.agg #[.int .i64 x.Kind, .int .i64 x.Value, .int .i64 x.When.From, .int .i64 x.When.To]] w fun e w' => e = .returned (.bool (!callOk x)) ∧ Below w.heap.size w w' := by
  go_enter Tryd.func30, Tryd.ntmps30
  go_wp2_with (go_at_call 31; refine (callValid x _).mono ?_; rintro e w' ⟨rfl, hb'⟩; have HB := hide hb'; clear hb')
  go_ret
  exact ⟨rfl, ((Below.refl _ w).alloc (Nat.le_refl _) _).trans (HB.out.mono (by simp))⟩
set_option maxHeartbeats 400000 in
theorem implCallsValid (xs : List Call) (A : Option Addr) (c : Nat) (w : World) (hl : xs.length ≤ maxLen) (hA : Row tCall w (Old w) A xs) :
    Calls Tryd.prog 18 #[.slice A xs.length c] w fun e w' => e = .returned (.bool (callsV xs)) ∧ Below w.heap.size w w' := by
  by_cases h6 : xs.length ≤ 6
  · have hcont := hide (cont_Call xs A c w 30 #[] (fun x => !callOk x) (enters_of Tryd.func30 (by kernel_rfl) rfl) hl hA
      (fun x _ cs hr W hW => by
        obtain rfl := hr
        exact (callLit x W).mono (by rintro e w' ⟨rfl, hb⟩; exact ⟨rfl, hW.trans (hb.mono hW.size)⟩)))
    have HR := hide (show (!(xs.any fun x => !callOk x)) = callsV xs by unfold callsV; rw [List.any_eq_not_all_not]; simp [h6])
    clear hA
    unfold maxLen at hl
    go_enter Tryd.func18, Tryd.ntmps18
    go_wp2_with (go_at_call 29; refine hcont.out.mono ?_; rintro e w' ⟨rfl, hb'⟩)
    go_ret
    exact ⟨ret_bool HR.out, hb'⟩
  · have HR := hide (show callsV xs = false by unfold callsV; simp [h6])
    clear hA
    unfold maxLen at hl
    go_enter Tryd.func18, Tryd.ntmps18
    go_wp2
    go_ret
    exact ⟨ret_bool HR.out.symm, Below.refl _ _⟩
end Go.Proofs.YtpcghfeiehdapaaDoor
