/- Orders that follow spans: the program's timely, the reference's l15Forward. -/
import Derived.Test.YtpcghfeiehdapaaDoorElems
import Derived.Test.YtpcghfeiehdapaaDoorProg
import Derived.BigQuiet
namespace Go.Proofs.YtpcghfeiehdapaaDoor
open Go.RowKit
set_option linter.unusedVariables false
set_option linter.unusedSimpArgs false

def spAt (sp : List Span) (o : List Int) (k : Nat) : Span := sp.getD (o.getD k 0).toNat ⟨0, 0⟩
def rowT (sp : List Span) (o : List Int) (k n : Nat) : Bool := (List.range n).all fun j => !decide ((spAt sp o k).To < (spAt sp o j).From)
def timeB (sp : List Span) (o : List Int) (n : Nat) : Bool := (List.range n).all fun k => rowT sp o k k
theorem rowT_succ (sp : List Span) (o : List Int) (k n : Nat) (h : rowT sp o k n = true) (hd : decide ((spAt sp o k).To < (spAt sp o n).From) = false) : rowT sp o k (n + 1) = true := by
  unfold rowT at h ⊢
  rw [List.range_succ, List.all_append, h]
  simp [hd]
theorem timeB_succ (sp : List Span) (o : List Int) (n : Nat) (h : timeB sp o n = true) (hd : rowT sp o n n = true) : timeB sp o (n + 1) = true := by
  unfold timeB at h ⊢
  rw [List.range_succ, List.all_append, h]
  simp [hd]
theorem timeB_stop {sp : List Span} {o : List Int} {k j n : Nat} (hk : k < n) (hj : j < k) (hd : decide ((spAt sp o k).To < (spAt sp o j).From) = true) : timeB sp o n = false := by
  unfold timeB
  rw [List.all_eq_false]
  refine ⟨k, List.mem_range.2 hk, ?_⟩
  rw [Bool.not_eq_true]
  unfold rowT
  rw [List.all_eq_false]
  exact ⟨j, List.mem_range.2 hj, by rw [hd]; simp⟩
theorem spAt_eq {sp : List Span} {o : List Int} {k m : Nat} (hk : k < o.length) (hm : o[k] = (m : Int)) (hms : m < sp.length) : spAt sp o k = sp[m] := by
  have h1 : o.getD k 0 = (m : Int) := by rw [List.getD_eq_getElem?_getD, List.getElem?_eq_getElem hk]; exact hm
  unfold spAt
  rw [h1, Int.toNat_natCast, List.getD_eq_getElem?_getD, List.getElem?_eq_getElem hms]
  rfl
set_option maxRecDepth 10000 in
set_option maxHeartbeats 2000000 in
theorem specForward15 (sp : List Span) (o : List Int) (A B : Option Addr) (c d : Nat) (w : World) (hm : sp.length ≤ maxLen) (hmo : o.length ≤ 1048576) (hin : ∀ n ∈ o, 0 ≤ n ∧ n < sp.length) (hA : Row tSpan w (Old w) A sp) (hN : Row tInt w (Old w) B o) :
    Calls Tryd.prog 23 #[.slice B o.length d, .slice A sp.length c] w fun e w' => e = .returned (.bool (timeB sp o o.length)) ∧ Below w.heap.size w w' := by
  have hq : sp.length ≤ 9223372036854775807 := by simpa [maxLen] using hm
  have hqo : o.length ≤ 9223372036854775807 := by omega
  have HA := hide hA; have HN := hide hN; have HIn := hide hin
  clear hA hN hin hm
  go_enter Tryd.func23, Tryd.ntmps23
  go_wp2_with fail
  go_loopw [5, 6] (fun i _ wr => ∃ k : Nat, k ≤ o.length ∧ i = .int .i64 k ∧ Hid (timeB sp o k = true) ∧ Hid (Below w.heap.size w wr)) (fun i _ _ => o.length - (intOf i).toNat)
  case atStart => exact ⟨0, Nat.zero_le _, rfl, rfl, Below.refl _ _⟩
  case round =>
    obtain ⟨k, hk, rfl, hT, hb⟩ := hrel
    have HT := hide hT.out; have HB := hide hb.out
    clear hT hb
    by_cases hlt : k < o.length
    · obtain ⟨hn0, hn1⟩ := HIn.out _ (List.getElem_mem hlt)
      obtain ⟨m, hme⟩ : ∃ m : Nat, o[k] = (m : Int) := ⟨o[k].toNat, by omega⟩
      have hml : m < sp.length := by omega
      have HSk := hide (spAt_eq hlt hme hml)
      have HMe := hide hme
      have hkq : k ≤ 9223372036854775807 := by omega
      clear hme hn0 hn1
      go_wp2_with fail
      go_loopw [6] (fun j wr => ∃ l : Nat, l ≤ k ∧ j = .int .i64 l ∧ Hid (rowT sp o k l = true) ∧ Hid (Below w.heap.size w wr)) (fun j _ => k - (intOf j).toNat)
      case atStart => exact ⟨0, Nat.zero_le _, rfl, rfl, HB.out⟩
      case round =>
        obtain ⟨l, hl, rfl, hR, hb2⟩ := hrel
        have HR := hide hR.out; have HB2 := hide hb2.out
        clear hR hb2
        by_cases hlt2 : l < k
        · have hlo : l < o.length := by omega
          obtain ⟨b, off, hBe0, _, c0⟩ := at_Int HN.out HB2.out hlt
          subst hBe0
          obtain ⟨b', off', hBe, _, d0⟩ := at_Int HN.out HB2.out hlo
          obtain ⟨rfl, rfl⟩ : b = b' ∧ off = off' := by simpa using hBe
          obtain ⟨hn0, hn1⟩ := HIn.out _ (List.getElem_mem hlo)
          obtain ⟨m2, hme2⟩ : ∃ m2 : Nat, o[l] = (m2 : Int) := ⟨o[l].toNat, by omega⟩
          have hml2 : m2 < sp.length := by omega
          have HSl := hide (spAt_eq hlo hme2 hml2)
          rw [hme2] at d0
          rw [HMe.out] at c0
          obtain ⟨bs, offs, hAe0, _, g0, g1⟩ := at_Span HA.out HB2.out hml
          subst hAe0
          obtain ⟨bs', offs', hAe, _, e0, e1⟩ := at_Span HA.out HB2.out hml2
          obtain ⟨rfl, rfl⟩ : bs = bs' ∧ offs = offs' := by simpa using hAe
          have HSc := hide (rowT_succ sp o k l HR.out)
          have HSt := hide (timeB_stop (sp := sp) (o := o) (n := o.length) hlt hlt2)
          rw [HSk.out, HSl.out] at HSc HSt
          clear hme2 hn0 hn1 hBe hAe
          cases hdd : decide (sp[m].To < sp[m2].From) with
          | true =>
            have HF := hide (HSt.out hdd)
            clear HSc HSt
            go_wp2_with fail
            go_quiet (fail)
            go_wp2_with fail
            go_ret
            exact ⟨ret_bool HF.out.symm, below_drewN HB2.out _⟩
          | false =>
            have HS2 := hide (HSc.out hdd)
            clear HSc HSt
            go_wp2_with fail
            go_quiet (fail)
            go_wp2_with fail
            go_roundw
            case rel => exact ⟨l + 1, by omega, by go_num, HS2.out, below_drewN HB2.out _⟩
            case measure => simp [intOf]; omega
        · obtain rfl : l = k := by omega
          have HT2 := hide (timeB_succ sp o l HT.out HR.out)
          go_wp2_with fail
          go_roundw
          case rel => exact ⟨l + 1, by omega, by go_num, HT2.out, HB2.out⟩
          case measure => simp [intOf]; omega
    · obtain rfl : k = o.length := by omega
      have HF := hide HT.out
      go_wp2_with fail
      go_ret
      exact ⟨ret_bool HF.out.symm, HB.out⟩
end Go.Proofs.YtpcghfeiehdapaaDoor
