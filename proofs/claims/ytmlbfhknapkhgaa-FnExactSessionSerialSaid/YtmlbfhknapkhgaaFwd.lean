/- The reference's l14Forward. -/
import Derived.Test.YtmlbfhknapkhgaaSEdge
import Derived.BigQuiet
namespace Go.Proofs.Ytmlbfhknapkhgaa
open Go.RowKit
set_option linter.unusedVariables false

/-- At place l the edge does not lead back. -/
def fwdAt (o : List Int) (e : Edge) (l : Nat) : Bool := !(o.getD l 0 == e.To && !(o.take (l + 1)).contains e.From)
def edgeFwd (o : List Int) (e : Edge) : Bool := (List.range o.length).all (fwdAt o e)
def fwdB (o : List Int) (es : List Edge) : Bool := es.all (edgeFwd o)
theorem edgeFwd_all {o : List Int} {e : Edge} (h : ∀ m, m < o.length → fwdAt o e m = true) : edgeFwd o e = true := by
  unfold edgeFwd
  rw [List.all_eq_true]
  exact fun m hm => h m (List.mem_range.1 hm)
theorem edgeFwd_not {o : List Int} {e : Edge} {l : Nat} (hl : l < o.length) (h : fwdAt o e l = false) : edgeFwd o e = false := by
  unfold edgeFwd
  rw [List.all_eq_false]
  exact ⟨l, List.mem_range.2 hl, by simp [h]⟩
theorem contains_snoc (o : List Int) (l : Nat) (hl : l < o.length) (x : Int) : (o.take (l + 1)).contains x = ((o.take l).contains x || o[l] == x) := by
  rw [List.take_succ_eq_append_getElem hl, Bool.eq_iff_iff]
  simp only [List.contains_iff_mem, List.mem_append, List.mem_singleton, Bool.or_eq_true, beq_iff_eq]
  constructor <;> rintro (h | h)
  · exact .inl h
  · exact .inr h.symm
  · exact .inl h
  · exact .inr h.symm
/-- The place of what has been seen. -/
def seenAt (o : List Int) (x : Int) (l : Nat) (f : Int) : Prop := ((o.take l).contains x = true → 0 ≤ f) ∧ ((o.take l).contains x = false → f = -1)
set_option maxRecDepth 10000 in
set_option maxHeartbeats 2000000 in
theorem specForward (o : List Int) (es : List Edge) (A B : Option Addr) (c d : Nat) (w : World) (hm : o.length ≤ maxLen) (hme : es.length ≤ maxLen) (hA : Row tInt w (Old w) A o) (hB : Row tEdge w (Old w) B es) :
    Calls Try.prog 63 #[.slice A o.length c, .slice B es.length d] w fun e w' => e = .returned (.bool (fwdB o es)) ∧ Below w.heap.size w w' := by
  have hq : o.length ≤ 9223372036854775807 := by simpa [maxLen] using hm
  have hqe : es.length ≤ 9223372036854775807 := by simpa [maxLen] using hme
  have HA := hide hA; have HB := hide hB
  clear hA hB hm hme
  go_enter Try.func63, Try.ntmps63
  go_wp2_with fail
  go_loopw [5, 6, 7] (fun i _ _ wr => ∃ k : Nat, k ≤ es.length ∧ i = .int .i64 k ∧ Hid ((es.take k).all (edgeFwd o) = true) ∧ Hid (Below w.heap.size w wr)) (fun i _ _ _ => es.length - (intOf i).toNat)
  case atStart => exact ⟨0, Nat.zero_le _, rfl, rfl, Below.refl _ _⟩
  case round =>
    obtain ⟨k, hk, rfl, hN, hb⟩ := hrel
    by_cases hlt : k < es.length
    · have HN := hide hN.out; have Hb := hide hb.out
      have HTk := hide (show (es.take (k + 1)).all (edgeFwd o) = edgeFwd o es[k] by rw [List.take_succ_eq_append_getElem hlt, List.all_append, HN.out]; simp)
      obtain ⟨b, off, hB', hbS, _⟩ := at_Edge HB.out Hb.out hlt
      subst hB'
      clear hN hb
      go_wp2_with fail
      go_loopw [6, 7] (fun f j wr2 => ∃ (l : Nat) (fi : Int), l ≤ o.length ∧ j = .int .i64 l ∧ f = .int .i64 fi ∧ Hid (seenAt o es[k].From l fi) ∧ Hid (∀ m, m < l → fwdAt o es[k] m = true) ∧ Hid (Below w.heap.size w wr2)) (fun _ j _ => o.length - (intOf j).toNat)
      case atStart => exact ⟨0, -1, Nat.zero_le _, rfl, rfl, ⟨fun h => by simp at h, fun _ => rfl⟩, fun m h1 => by omega, Hb.out⟩
      case round =>
        obtain ⟨l, fi, hl, rfl, rfl, hF, hM, hb⟩ := hrel
        by_cases hlt2 : l < o.length
        · obtain ⟨b', off', hBe, _, e0, e1, _⟩ := at_Edge HB.out hb.out hlt
          obtain ⟨rfl, rfl⟩ : b = b' ∧ off = off' := by simpa using hBe
          obtain ⟨bo, offo, rfl, hbo, c0⟩ := at_Int HA.out hb.out hlt2
          have HCs := hide (contains_snoc o l hlt2 es[k].From)
          have HAt := hide (show fwdAt o es[k] l = !(o[l] == es[k].To && !((o.take l).contains es[k].From || o[l] == es[k].From)) by unfold fwdAt; rw [HCs.out, List.getD_eq_getElem?_getD, List.getElem?_eq_getElem hlt2]; rfl)
          have HMn := hide (show fwdAt o es[k] l = true → ∀ m, m < l + 1 → fwdAt o es[k] m = true from fun hp m h1 => by
            by_cases hml : m < l
            · exact hM.out m hml
            · obtain rfl : m = l := by omega
              exact hp)
          have HF := hide hF.out
          have Hb2 := hide hb.out
          have hlq : (l : Int) < 9223372036854775807 := by omega
          clear hBe hF hM hb
          cases hfr : o[l] == es[k].From with
          | true =>
            rw [hfr] at HAt HCs
            have HG := hide (HMn.out (by rw [HAt.out, Bool.or_true]; simp))
            have hd2 : decide ((l : Int) < 0) = false := decide_eq_false (by omega)
            cases hto : o[l] == es[k].To with
            | true =>
              go_wp2_with fail
              go_quiet (fail)
              go_wp2_with fail
              go_quiet (fail)
              go_wp2_with fail
              go_roundw
              case rel => exact ⟨l + 1, l, by omega, by go_num, rfl, ⟨fun _ => by omega, fun h => by rw [HCs.out, Bool.or_true] at h; cases h⟩, HG.out, Hb2.out.trans ⟨rfl, rfl, rfl, Nat.le_refl _, fun _ _ => rfl⟩⟩
              case measure => simp [intOf]; omega
            | false =>
              go_wp2_with fail
              go_quiet (fail)
              go_wp2_with fail
              go_quiet (fail)
              go_wp2_with fail
              go_roundw
              case rel => exact ⟨l + 1, l, by omega, by go_num, rfl, ⟨fun _ => by omega, fun h => by rw [HCs.out, Bool.or_true] at h; cases h⟩, HG.out, Hb2.out.trans ⟨rfl, rfl, rfl, Nat.le_refl _, fun _ _ => rfl⟩⟩
              case measure => simp [intOf]; omega
          | false =>
            rw [hfr] at HAt HCs
            cases hto : o[l] == es[k].To with
            | false =>
              rw [hto] at HAt
              have HG := hide (HMn.out HAt.out)
              go_wp2_with fail
              go_quiet (fail)
              go_wp2_with fail
              go_quiet (fail)
              go_wp2_with fail
              go_roundw
              case rel => exact ⟨l + 1, fi, by omega, by go_num, rfl, ⟨fun h => HF.out.1 (by rw [HCs.out, Bool.or_false] at h; exact h), fun h => HF.out.2 (by rw [HCs.out, Bool.or_false] at h; exact h)⟩, HG.out, Hb2.out.trans ⟨rfl, rfl, rfl, Nat.le_refl _, fun _ _ => rfl⟩⟩
              case measure => simp [intOf]; omega
            | true =>
              rw [hto] at HAt
              cases hcn : (o.take l).contains es[k].From with
              | true =>
                rw [hcn] at HAt
                have HG := hide (HMn.out HAt.out)
                have hd2 : decide (fi < 0) = false := decide_eq_false (by have := HF.out.1 hcn; omega)
                go_wp2_with fail
                go_quiet (fail)
                go_wp2_with fail
                go_quiet (fail)
                go_wp2_with fail
                go_roundw
                case rel => exact ⟨l + 1, fi, by omega, by go_num, rfl, ⟨fun h => HF.out.1 (by rw [HCs.out, Bool.or_false] at h; exact h), fun h => HF.out.2 (by rw [HCs.out, Bool.or_false] at h; exact h)⟩, HG.out, Hb2.out.trans ⟨rfl, rfl, rfl, Nat.le_refl _, fun _ _ => rfl⟩⟩
                case measure => simp [intOf]; omega
              | false =>
                rw [hcn] at HAt
                have hfi := HF.out.2 hcn
                subst hfi
                have HX := hide (show fwdB o es = false by
                  unfold fwdB
                  rw [List.all_eq_false]
                  exact ⟨es[k], List.getElem_mem hlt, by simp [edgeFwd_not hlt2 HAt.out]⟩)
                go_wp2_with fail
                go_quiet (fail)
                go_wp2_with fail
                go_quiet (fail)
                go_wp2_with fail
                go_ret
                exact ⟨ret_bool HX.out.symm, Hb2.out.trans ⟨rfl, rfl, rfl, Nat.le_refl _, fun _ _ => rfl⟩⟩
        · obtain rfl : l = o.length := by omega
          have HG := hide (HTk.out.trans (edgeFwd_all hM.out))
          have Hb2 := hide hb.out
          clear hF hM hb
          go_wp2_with fail
          go_roundw
          case rel => exact ⟨k + 1, by omega, by go_num, HG.out, Hb2.out⟩
          case measure => simp [intOf]; omega
    · obtain rfl : k = es.length := by omega
      have HV := hide (show fwdB o es = true by unfold fwdB; have := hN.out; rwa [List.take_length] at this)
      have Hb := hide hb.out
      clear hN hb
      go_wp2_with fail
      go_ret
      exact ⟨ret_bool HV.out.symm, Hb.out⟩
end Go.Proofs.Ytmlbfhknapkhgaa
