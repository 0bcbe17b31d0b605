/- The law FnStrictRight: strict orders are serial orders. -/
import Derived.Test.YtaaagoppecnmmaaDoorDrawSt
import Derived.Test.YtaaagoppecnmmaaDoorStrict
namespace Go.Proofs.YtaaagoppecnmmaaDoor
open Go.RowKit
set_option linter.unusedVariables false
set_option linter.unusedSimpArgs false

theorem infoSpanZ : (Tryd.prog.info? 44).map (fun i => (i.zero, i.size, i.bytes)) = some (some (.agg #[.int .i64 0, .int .i64 0]), 2, 16) := by kernel_rfl
theorem strict_same (xs : List Txn) (o : List Int) : strictB xs (List.replicate xs.length ⟨5, 5⟩) o = serB xs o := by
  unfold strictB
  cases hs : serB xs o with
  | false => rfl
  | true =>
    have hv : histV xs = true := by
      unfold serB at hs
      rw [Bool.and_eq_true] at hs
      exact hs.1
    have h6 := (histV_parts hv).1
    rw [Bool.true_and, Bool.and_eq_true]
    constructor
    · unfold spansV inR
      rw [List.length_replicate, Bool.and_eq_true, Bool.and_eq_true]
      refine ⟨⟨by rw [Bool.and_eq_true, decide_eq_true_eq, decide_eq_true_eq]; omega, by simp⟩, ?_⟩
      rw [List.all_eq_true]
      intro x hx
      rw [List.eq_of_mem_replicate hx]
      decide
    · unfold timeB rowT
      rw [List.all_eq_true]
      intro k hk
      rw [List.all_eq_true]
      intro j hj
      rw [List.mem_range] at hk hj
      have hin := ser_in hs
      have hat : ∀ i, i < o.length → spAt (List.replicate xs.length ⟨5, 5⟩) o i = ⟨5, 5⟩ := fun i hi => by
        obtain ⟨h1, h2⟩ := hin o[i] (List.getElem_mem hi)
        rw [spAt_eq (m := o[i].toNat) hi (by omega) (by rw [List.length_replicate]; omega), List.getElem_replicate]
      rw [hat k hk, hat j (by omega)]
      decide
set_option maxRecDepth 10000 in
set_option maxHeartbeats 4000000 in
theorem lawFnStrictR (bs : List Int) (A : Option Addr) (c : Nat) (w : World) (hm : bs.length ≤ maxLen) (hc : bs.length ≤ c) (hcm : c ≤ maxLen) (hA : Row tByte w (Old w) A bs) :
    Calls Tryd.prog 9 #[.slice A bs.length c] w fun e w' => e = .returned (.bool true) ∧ Below w.heap.size w w' := by
  have hq : bs.length ≤ 9223372036854775807 := by simpa [maxLen] using hm
  by_cases hl : bs.length ≤ 1048576
  · have HD := hide (drawStrictRight bs A c w hl hc hcm hA)
    clear hA
    go_enter Tryd.func9, Tryd.ntmps9
    go_wp2_with fail
    refine HD.out.mono ?_
    rintro e w1 ⟨xs, sp, o, v, u, t, rfl, hS, hsl, hol, ho, hu, ht, hb1⟩
    have HB1 := hide hb1
    clear hb1 HD
    obtain ⟨Ax, cx, rfl, hlex, hcmx, hrx⟩ := ho.oldE
    have Hx1 := hide hrx
    clear hrx ho
    obtain ⟨As, cs, rfl, hles, hcms, hrs⟩ := hu.oldE
    have Hs1 := hide hrs
    clear hrs hu
    obtain ⟨Ay, cy, rfl, hley, hcmy, hry⟩ := ht.oldE
    have Hy1 := hide hry
    clear hry ht
    obtain ⟨hxm, hx20, hxo, hxn⟩ := hS.le
    obtain ⟨i0, hi, hz0, hz1, hz2⟩ := info_parts infoSpanZ
    have hom : o.length ≤ 1048576 := by omega
    have hsm : sp.length ≤ maxLen := by simp only [maxLen]; omega
    have hx8 : xs.length ≤ 8 := hS.1
    go_wp2_with fail
    refine (implStrictRight xs sp o _ _ _ _ _ _ w1 hxm hsm hom hley Hx1.out Hs1.out Hy1.out).mono ?_
    rintro e w2 ⟨rfl, hb⟩
    have Hx2 := hide (Hx1.out.old hb)
    have Hs2 := hide (Hs1.out.old hb)
    have Hy2 := hide (Hy1.out.old hb)
    have HB2 := hide (HB1.out.trans (hb.mono HB1.out.size))
    clear hb HB1 Hx1 Hs1 Hy1
    go_wp2_with fail
    refine (specStrictRight xs sp o _ _ _ _ _ _ w2 hxm hxo hsm hom Hx2.out Hs2.out Hy2.out).mono ?_
    rintro e w3 ⟨rfl, hb⟩
    have Hx3 := hide (Hx2.out.old hb)
    have Hs3 := hide (Hs2.out.old hb)
    have Hy3 := hide (Hy2.out.old hb)
    have HB3 := hide (HB2.out.trans (hb.mono HB2.out.size))
    clear hb HB2 Hx2 Hs2 Hy2
    have HO0 := hide (Own.empty (T := tSpan) (e := 44) w3 (fun b => w3.heap.size ≤ b) (Nat.le_refl _))
    have HK0 := hide (show Only (fun b => w3.heap.size ≤ b) w3 (w3.alloc (.cells #[] 44)) from Only.of_alloc _ _)
    have HIm := hide (fun h : strictB xs sp o = true => (show serB xs o = true by unfold strictB at h; rw [Bool.and_eq_true] at h; exact h.1))
    generalize strictB xs sp o = st at HIm ⊢
    go_wp2_with fail
    go_loopw [7, 8] (fun v k wr => ∃ (kk : Nat) (vo : Value), vo = v ∧ kk ≤ xs.length ∧ k = .int .i64 kk ∧ Hid (Own tSpan 44 wr (fun b => w3.heap.size ≤ b ∧ Old wr b) (List.replicate kk ⟨5, 5⟩) v) ∧ Hid (Only (fun b => w3.heap.size ≤ b) w3 wr)) (fun _ k _ => xs.length - (intOf k).toNat)
    case atStart => exact ⟨0, _, rfl, Nat.zero_le _, rfl, HO0.out, HK0.out⟩
    case round =>
      obtain ⟨kk, vo, rfl, hkk, rfl, hO, hN⟩ := hrel
      clear HO0 HK0
      by_cases hlt : kk < xs.length
      · have hki : (kk : Int) < (xs.length : Int) := by omega
        have HOw := hide hO.out
        have HNw := hide hN.out
        clear hO hN
        go_wp2_with (at_builtin; refine wpList_put tSpan rfl (.tmp 35) (.tmp 37) 35 rfl 44 i0 _ 16 Tryd.underlying35 hi hz0 hz1 hz2 rfl (by decide) (fun b => w3.heap.size ≤ b) (fun _ => False) (List.replicate kk ⟨5, 5⟩) ⟨5, 5⟩ [.int .i64 5, .int .i64 5] _ rfl HOw.out _ rfl rfl (fun _ h => h.elim) (fun b hb => Nat.le_trans HNw.out.size hb) (by rw [List.length_replicate]; simp only [maxLen]; omega) (by rw [List.length_replicate]; omega) ?_; intro v8 w8 hO_ hK_; have HO8 := hide (show Own tSpan 44 w8 (fun b => w3.heap.size ≤ b ∧ Old w8 b) (List.replicate (kk + 1) ⟨5, 5⟩) v8 by rw [List.replicate_succ']; exact hO_); have HN8 := hide (HNw.out.trans hK_); clear hO_ hK_)
        go_roundw
        case rel => exact ⟨kk + 1, _, rfl, by omega, by go_num, HO8.out, HN8.out⟩
        case measure => simp [intOf]; omega
      · obtain rfl : kk = xs.length := by omega
        have HNb := hide hN.out.below
        have HXr := hide (Hx3.out.old HNb.out)
        have HYr := hide (Hy3.out.old HNb.out)
        have HBr := hide (HB3.out.trans (HNb.out.mono HB3.out.size))
        obtain ⟨A7, c7, hv7, h71, h72, hr7⟩ := hO.out.oldRow
        have HC2 := hide (fun W (hb : Below wr.heap.size wr W) => implStrictRight xs (List.replicate xs.length ⟨5, 5⟩) o Ax A7 Ay cx c7 cy W hxm (by rw [List.length_replicate]; exact hxm) hom hley (HXr.out.old hb) (hr7.old hb) (HYr.out.old hb))
        have HC1 := hide (fun W (hb : Below wr.heap.size wr W) => implSerialRight xs o Ax Ay cx cy W hxm hom (HXr.out.old hb) (HYr.out.old hb))
        rw [strict_same, List.length_replicate] at HC2
        rw [List.length_replicate] at hv7
        subst hv7
        generalize serB xs o = sr at HIm HC1 HC2
        have hs0 : (sr == sr) = true := by simp
        clear hO hN hr7 h71 h72
        cases st with
        | false =>
          go_wp2_with fail
          refine (HC2.out wr (Below.refl _ _)).mono ?_
          rintro e wa ⟨rfl, hba⟩
          have HBa := hide hba
          clear hba
          go_wp2_with fail
          refine (HC1.out wa HBa.out).mono ?_
          rintro e wb ⟨rfl, hbb⟩
          have HBb := hide (HBa.out.trans (hbb.mono HBa.out.size))
          clear hbb
          go_wp2_with fail
          refine (alive_any wb).mono ?_
          rintro e wc ⟨rfl, hbc⟩
          have HBc := hide (HBr.out.trans ((HBb.out.trans (hbc.mono HBb.out.size)).mono HBr.out.size))
          clear hbc
          go_wp2_with fail
          go_ret
          exact ⟨rfl, HBc.out⟩
        | true =>
          have hsr := HIm.out rfl
          subst hsr
          go_wp2_with fail
          refine (HC1.out wr (Below.refl _ _)).mono ?_
          rintro e w0 ⟨rfl, hb0⟩
          have HB0 := hide hb0
          clear hb0
          go_wp2_with fail
          refine (HC2.out w0 HB0.out).mono ?_
          rintro e wa ⟨rfl, hba⟩
          have HBa := hide (HB0.out.trans (hba.mono HB0.out.size))
          clear hba
          go_wp2_with fail
          refine (HC1.out wa HBa.out).mono ?_
          rintro e wb ⟨rfl, hbb⟩
          have HBb := hide (HBa.out.trans (hbb.mono HBa.out.size))
          clear hbb
          go_wp2_with fail
          refine (alive_any wb).mono ?_
          rintro e wc ⟨rfl, hbc⟩
          have HBc := hide (HBr.out.trans ((HBb.out.trans (hbc.mono HBb.out.size)).mono HBr.out.size))
          clear hbc
          go_wp2_with fail
          go_ret
          exact ⟨rfl, HBc.out⟩
  · clear hA
    go_enter Tryd.func9, Tryd.ntmps9
    go_wp2_with fail
    go_ret
    exact ⟨rfl, Below.refl _ _⟩
end Go.Proofs.YtaaagoppecnmmaaDoor
