/- The law FnFindStrict: strict orders are found. -/
import Derived.Test.YtaaagoppecnmmaaGreatDoorDrawFS
import Derived.Test.YtaaagoppecnmmaaGreatDoorSameH
import Derived.Test.YtaaagoppecnmmaaGreatDoorStriS
import Derived.Test.YtaaagoppecnmmaaGreatDoorStrict
import Derived.Test.YtaaagoppecnmmaaGreatDoorFindI
import Derived.Test.YtaaagoppecnmmaaGreatDoorTabOf3
namespace Go.Proofs.YtaaagoppecnmmaaGreatDoor
open Go.RowKit
set_option linter.unusedVariables false
set_option linter.unusedSimpArgs false

theorem str_in {xs : List Txn} (hv : histV xs = true) {o : List Int} (ho : o.Perm (doneL xs)) : ∀ x ∈ o, 0 ≤ x ∧ x < 6 := fun x hx => by
  have h1 := doneI_mem xs _ x (ho.mem_iff.1 hx)
  have h2 := (histV_parts hv).1
  omega
theorem str_found {xs : List Txn} {sp : List Span} (hb : strBb xs sp = true) : strictB xs sp (strR xs sp) = true := by
  unfold strBb at hb
  unfold strR
  cases hf : strF xs sp with
  | none => rw [hf] at hb; cases hb
  | some o =>
    unfold strF at hf
    split at hf
    · rename_i hc
      rw [Bool.and_eq_true] at hc
      obtain ⟨h1, h2⟩ := firstGood_perm (doneI_nodup _ _) hf
      unfold goodR at h2
      rw [Bool.and_eq_true, str_steps sp o (str_in hc.1 h1)] at h2
      unfold strictB serB
      rw [hc.1, hc.2, Option.getD_some, h2.1, h2.2, (same_iff (show (doneL xs).Nodup from doneI_nodup _ _)).2 h1]; rfl
    · cases hf
theorem str_not {xs : List Txn} {sp : List Span} (hb : strBb xs sp = false) : strR xs sp = [] ∧ ∀ o, findF xs = some o → strictB xs sp o = false := by
  unfold strBb at hb
  unfold strR
  cases hf : strF xs sp with
  | some o => rw [hf] at hb; cases hb
  | none =>
    refine ⟨rfl, fun o ho => ?_⟩
    cases hs : strictB xs sp o with
    | false => rfl
    | true =>
      unfold strictB serB at hs
      simp only [Bool.and_eq_true] at hs
      have h1 := (same_iff (show (doneL xs).Nodup from doneI_nodup _ _)).1 hs.1.2.1
      unfold strF at hf
      rw [hs.1.1, hs.2.1] at hf
      have h2 := firstGood_none (doneI_nodup _ _) hf o h1
      unfold goodR at h2
      rw [str_steps sp o (str_in hs.1.1 h1), hs.1.2.2, hs.2.2] at h2
      cases h2
theorem findF_len7 (xs : List Txn) : ((findF xs).getD []).length ≤ 100 := by
  unfold findF
  cases hv : histV xs with
  | false => simp
  | true =>
    rw [if_pos rfl]
    cases hs : serF xs with
    | none => simp
    | some o =>
      have h1 := (firstGood_perm (doneI_nodup _ _) hs).1.length_eq
      have h2 := doneI_len xs xs.length
      have h3 := (histV_parts hv).1
      simp only [Option.getD_some]
      unfold doneL at h1
      omega
set_option maxRecDepth 10000 in
set_option maxHeartbeats 4000000 in
theorem lawFnFStrict (bs : List Int) (A : Option Addr) (c : Nat) (w : World) (hm : bs.length ≤ maxLen) (hc : bs.length ≤ c) (hcm : c ≤ maxLen) (hA : Row tByte w (Old w) A bs) (hT : TabDB w) :
    Calls Tryz.prog 3 #[.slice A bs.length c] w fun e w' => e = .returned (.bool true) ∧ Below w.heap.size w w' := by
  have hq : bs.length ≤ 9223372036854775807 := by simpa [maxLen] using hm
  by_cases hl : bs.length ≤ 1048576
  · have HD := hide (drawFindStrict bs A c w hl hc hcm hA)
    clear hA
    go_enter Tryz.func3, Tryz.ntmps3
    go_wp2_with fail
    refine HD.out.mono ?_
    rintro e w1 ⟨xs, sp, v, u, rfl, hS, hsl, ho, hu, hb1⟩
    have HB1 := hide hb1
    clear hb1 HD
    obtain ⟨Ax, cx, rfl, hlex, hcmx, hrx⟩ := ho.oldE
    have Hx1 := hide hrx
    clear hrx ho
    obtain ⟨As, cs, rfl, hles, hcms, hrs⟩ := hu.oldE
    have Hs1 := hide hrs
    clear hrs hu
    obtain ⟨hxm, hx20, hxo, hxn⟩ := hS.le
    have hsm : sp.length ≤ maxLen := by simp only [maxLen]; omega
    have HT := hide hT
    clear hT
    have HRl := hide (strR_len xs sp)
    have hrm : (strR xs sp).length ≤ maxLen := by have := HRl.out; simp only [maxLen]; omega
    go_wp2_with fail
    refine (implFindStrict xs sp _ _ _ _ w1 hxm hsm (Nat.lt_of_lt_of_le HT.out.lt HB1.out.size) (HT.out.below HT.out.lt HB1.out) Hx1.out Hs1.out).mono ?_
    rintro e w2 ⟨v2, rfl, hT2, hb⟩
    have Hx2 := hide (Hx1.out.old hb)
    have Hs2 := hide (Hs1.out.old hb)
    have HB2 := hide (HB1.out.trans (hb.mono HB1.out.size))
    clear hb HB1 Hx1 Hs1
    obtain ⟨Ay, cy, rfl, hley, hcmy, hry⟩ := hT2.sl.fresh
    have Hy2 := hide hry
    clear hry hT2
    go_wp2_with fail
    refine (specFindStrict xs sp _ _ _ _ w2 hxm hsm hxo Hx2.out Hs2.out).mono ?_
    rintro e w3 ⟨v3, rfl, hT3, hb⟩
    have Hx3 := hide (Hx2.out.old hb)
    have Hs3 := hide (Hs2.out.old hb)
    have Hy3 := hide (Hy2.out.old hb)
    have HB3 := hide (HB2.out.trans (hb.mono HB2.out.size))
    clear hb HB2 Hx2 Hs2 Hy2
    obtain ⟨Az, cz, rfl, hlez, hcmz, hrz⟩ := hT3.fresh
    have Hz3 := hide hrz
    clear hrz hT3
    go_wp2_with fail
    refine (sameInts_any (strR xs sp) (strR xs sp) _ _ _ _ w3 hrm hrm Hy3.out Hz3.out).mono ?_
    rintro e w4 ⟨rfl, hb⟩
    rw [decide_eq_true (rfl : strR xs sp = strR xs sp)]
    have Hx4 := hide (Hx3.out.old hb)
    have Hs4 := hide (Hs3.out.old hb)
    have Hy4 := hide (Hy3.out.old hb)
    have Hz4 := hide (Hz3.out.old hb)
    have HB4 := hide (HB3.out.trans (hb.mono HB3.out.size))
    clear hb HB3 Hx3 Hs3 Hy3 Hz3
    cases hbb : strBb xs sp with
    | true =>
      have HF := hide (str_found hbb)
      clear hbb
      generalize strR xs sp = rr at HRl hrm hley HF Hy4 Hz4 ⊢
      go_wp2_with fail
      refine (implStrictRight xs sp rr _ _ _ _ _ _ w4 hxm hsm HRl.out hley Hx4.out Hs4.out Hy4.out).mono ?_
      rintro e w5 ⟨rfl, hb⟩
      rw [HF.out]
      have Hx5 := hide (Hx4.out.old hb)
      have Hs5 := hide (Hs4.out.old hb)
      have Hy5 := hide (Hy4.out.old hb)
      have Hz5 := hide (Hz4.out.old hb)
      have HB5 := hide (HB4.out.trans (hb.mono HB4.out.size))
      clear hb HB4 Hx4 Hs4 Hy4 Hz4
      go_wp2_with fail
      go_ret
      exact ⟨rfl, HB5.out⟩
    | false =>
      obtain ⟨hn0, hn1⟩ := str_not hbb
      have HN0 := hide hn0
      have HN1 := hide hn1
      rw [HN0.out] at hrm hley hlez Hy4 Hz4 ⊢
      clear hbb hn0 hn1
      go_wp2_with fail
      refine (implFindSerial xs _ _ w4 hxm Hx4.out).mono ?_
      rintro e w5 ⟨v5, rfl, hH5, hb⟩
      have HFl := hide (findF_len7 xs)
      have Hx5 := hide (Hx4.out.old hb)
      have Hs5 := hide (Hs4.out.old hb)
      have Hy5 := hide (Hy4.out.old hb)
      have Hz5 := hide (Hz4.out.old hb)
      have HB5 := hide (HB4.out.trans (hb.mono HB4.out.size))
      clear hb HB4 Hx4 Hs4 Hy4 Hz4
      obtain ⟨Af, cf, rfl, hlef, hcmf, hrf⟩ := hH5.sl.fresh
      have Hf5 := hide hrf
      clear hrf hH5
      cases hff : findF xs with
      | none =>
        have HE := hide (show (findF xs).isSome = false by rw [hff]; rfl)
        rw [hff] at HFl hlef Hf5
        clear hff
        go_wp2_with fail
        refine (alive_any _).mono ?_
        rintro e w6 ⟨rfl, hb⟩
        have Hx6 := hide (Hx5.out.old hb)
        have Hs6 := hide (Hs5.out.old hb)
        have Hy6 := hide (Hy5.out.old hb)
        have Hz6 := hide (Hz5.out.old hb)
        have Hf6 := hide (Hf5.out.old hb)
        have HB6 := hide (HB5.out.trans (hb.mono HB5.out.size))
        clear hb HB5 Hx5 Hs5 Hy5 Hz5 Hf5
        go_wp2_with fail
        go_ret
        exact ⟨rfl, HB6.out⟩
      | some o =>
        have HS0 := hide (HN1.out o hff)
        rw [hff] at HFl hlef Hf5
        have hol : o.length ≤ 100 := HFl.out
        have HYo := hide (show Row tInt w5 (Old w5) Af o from Hf5.out)
        have hlo : o.length ≤ cf := hlef
        clear hff
        go_wp2_with fail
        refine (implStrictRight xs sp o _ _ _ _ _ _ w5 hxm hsm (by omega) hlo Hx5.out Hs5.out HYo.out).mono ?_
        rintro e w6 ⟨rfl, hb⟩
        rw [HS0.out]
        have Hx6 := hide (Hx5.out.old hb)
        have Hs6 := hide (Hs5.out.old hb)
        have Hy6 := hide (Hy5.out.old hb)
        have Hz6 := hide (Hz5.out.old hb)
        have Hf6 := hide (Hf5.out.old hb)
        have HB6 := hide (HB5.out.trans (hb.mono HB5.out.size))
        clear hb HB5 Hx5 Hs5 Hy5 Hz5 Hf5
        go_wp2_with fail
        refine (alive_any _).mono ?_
        rintro e w7 ⟨rfl, hb⟩
        have Hx7 := hide (Hx6.out.old hb)
        have Hs7 := hide (Hs6.out.old hb)
        have Hy7 := hide (Hy6.out.old hb)
        have Hz7 := hide (Hz6.out.old hb)
        have Hf7 := hide (Hf6.out.old hb)
        have HB7 := hide (HB6.out.trans (hb.mono HB6.out.size))
        clear hb HB6 Hx6 Hs6 Hy6 Hz6 Hf6
        go_wp2_with fail
        go_ret
        exact ⟨rfl, HB7.out⟩
  · clear hA
    go_enter Tryz.func3, Tryz.ntmps3
    go_wp2_with fail
    go_ret
    exact ⟨rfl, Below.refl _ _⟩
end Go.Proofs.YtaaagoppecnmmaaGreatDoor
