/- EdgesOf of the program and of the reference, for all orders; comparing equal edges. Every transaction is allowed: the program's anyone. The program's FindSerial. The program's VerdictOf. The reference's l7Orders: all orders of a list. -/
import Derived.Test.YtjiobgfaohldhaaGreatQEdgS
import Derived.Test.YtjiobgfaohldhaaGreatQNest2
import Derived.Test.YtjiobgfaohldhaaGreatQFirst
import Derived.Test.YtjiobgfaohldhaaGreatQAllM
import Derived.Test.YtjiobgfaohldhaaGreatQSnapN
import Derived.Test.YtjiobgfaohldhaaGreatQConcat
import Derived.Test.YtjiobgfaohldhaaGreatQVerI
import Derived.Test.YtjiobgfaohldhaaGreatQLevI
import Derived.Test.YtjiobgfaohldhaaGreatQCycI
import Derived.Test.YtjiobgfaohldhaaGreatQRanges
import Derived.Test.YtjiobgfaohldhaaGreatQAllF
import Derived.Deep.RegionLaw
import Derived.Deep.AppendLies
namespace Go.Proofs.YtjiobgfaohldhaaGreat
open Go.RowKit
set_option linter.unusedVariables false
set_option linter.unusedSimpArgs false

theorem edgR_no {h : List Txn} {os : List (List Int)} (ho : ordB h os = false) : edgR h os = [] := by unfold edgR; rw [ho]; rfl
theorem implEdgesOf (xs : List Txn) (os : List (List Int)) (A B : Option Addr) (c d : Nat) (w : World) (hm : xs.length ≤ maxLen) (hmo : os.length ≤ 1048576) (hsz : ∀ o ∈ os, o.length ≤ 1048576) (hA : Row tTxn w (Old w) A xs) (hB : Row (tSlice tInt) w (Old w) B os) :
    Calls Tryz.prog 42 #[.slice A xs.length c, .slice B os.length d] w fun e w' => ∃ v, e = .returned v ∧ Sl tEdge w' (New w w') (edgR xs os) v ∧ Below w.heap.size w w' := by
  cases ho : ordB xs os with
  | true => rw [edgR_ok ho]; exact implEdgesT sortC_holds xs os A B c d w ho hA hB
  | false =>
    have HOv := hide (fun (W : World) (hb : Below w.heap.size w W) => implOrdersValid xs os A B c d W hm hmo hsz (hA.old hb) (hB.old hb))
    have HB0 := hide ((Below.refl _ w).alloc (Nat.le_refl _) (.cells #[.slice A xs.length c] 30))
    have HO1 := hide (HOv.out _ HB0.out)
    rw [ho] at HO1
    rw [edgR_no ho]
    clear ho hA hB HOv
    go_enter Tryz.func42, Tryz.ntmps42
    go_wp2_with (go_at_call 88; refine HO1.out.mono ?_; rintro e w1 ⟨rfl, hb1⟩; have HB1 := hide (HB0.out.trans (hb1.mono HB0.out.size)); clear hb1)
    go_ret
    exact ⟨_, rfl, ⟨none, 0, rfl, by simp, by simp [maxLen], Row.nil⟩, HB1.out⟩
theorem specEdgesOf (xs : List Txn) (os : List (List Int)) (A B : Option Addr) (c d : Nat) (w : World) (hm : xs.length ≤ maxLen) (ht : opsN xs ≤ 1048576) (hmo : os.length ≤ 1048576) (hsz : ∀ o ∈ os, o.length ≤ 1048576) (hA : Row tTxn w (Old w) A xs) (hB : Row (tSlice tInt) w (Old w) B os) :
    Calls Tryz.prog 25 #[.slice A xs.length c, .slice B os.length d] w fun e w' => ∃ v, e = .returned v ∧ Sl tEdge w' (New w w') (edgR xs os) v ∧ Below w.heap.size w w' := by
  cases ho : ordB xs os with
  | true => rw [edgR_ok ho]; exact specEdges1 xs os A B c d w ht ho hA hB
  | false =>
    have HOv := hide (fun (W : World) (hb : Below w.heap.size w W) => specOrdersValid xs os A B c d W hm ht hmo hsz (hA.old hb) (hB.old hb))
    have HB0 := hide ((Below.refl _ w).alloc (Nat.le_refl _) (.cells #[] 86))
    have HE0 := hide (Own.empty (T := tEdge) (e := 86) w (fun b => w.heap.size ≤ b) (Nat.le_refl _))
    have HO1 := hide (HOv.out _ HB0.out)
    rw [ho] at HO1
    rw [edgR_no ho]
    clear ho hA hB HOv
    go_enter Tryz.func25, Tryz.ntmps25
    go_wp2_with (go_at_call 61; refine HO1.out.mono ?_; rintro e w1 ⟨rfl, hb1⟩; have HB1 := hide (HB0.out.trans (hb1.mono HB0.out.size)); have HE1 := hide (HE0.out.onlyBelow hb1); clear hb1)
    go_ret
    exact ⟨_, rfl, HE1.out.sl, HB1.out⟩
end Go.Proofs.YtjiobgfaohldhaaGreat
namespace Go.Proofs.YtjiobgfaohldhaaGreat
open Go.RowKit
set_option linter.unusedVariables false
set_option linter.unusedSimpArgs false

theorem goodR_any (h : List Txn) : goodR (fun _ _ => true) h = runsOK h := by
  funext o
  unfold goodR stepsOK
  simp
theorem serF_good (h : List Txn) : firstGood (goodR (fun _ _ => true) h) (doneL h) = serF h := by
  rw [goodR_any]
  rfl
theorem anyone_any (gone n : Int) (W : World) :
    Calls Tryz.prog 39 #[.int .u64 gone, .int .i64 n] W fun e w' => e = .returned (.bool true) ∧ W = w' := by
  go_enter Tryz.func39, Tryz.ntmps39
  go_wp2_with fail
  go_ret
  exact ⟨rfl, rfl⟩
end Go.Proofs.YtjiobgfaohldhaaGreat
namespace Go.Proofs.YtjiobgfaohldhaaGreat
open Go.RowKit
set_option linter.unusedVariables false
set_option linter.unusedSimpArgs false

/-- What VerdictOf answers, in memory of its own. -/
def VerdPost (xs : List Txn) (w : World) (e : Ending) (w' : World) : Prop :=
  ∃ vo vc, e = .returned (.tuple #[.agg #[.bool (verdD xs).Good, vo, vc], .bool (verdO xs).isSome]) ∧ HoldI w' (New w w') (verdD xs).Order vo ∧ HoldS w' (New w w') (verdD xs).Cycles vc ∧ Below w.heap.size w w'
theorem HoldI.nil_ {w : World} {S : Nat → Prop} {v : Value} (h : v = .slice none 0 0) : HoldI w S [] v := by subst h; exact ⟨0, Hold.nil 0⟩
theorem HoldS.nil_ {w : World} {S : Nat → Prop} {v : Value} (h : v = .slice none 0 0) : HoldS w S [] v := by subst h; exact ⟨[], 0, rfl, Hold.nil 0, by simp [Far]⟩
theorem serial_any (xs : List Txn) (A : Option Addr) (c : Nat) (w : World) (hv : histV xs = true) (hA : Row tTxn w (Old w) A xs) :
    Calls Tryz.prog 38 #[.slice A xs.length c, .func (.func 39) #[] #[]] w (FirstPost (findF xs) w) := by
  have h := firstSerial_any xs A c w (fun _ _ => true) 39 #[] hv hA (enters_of Tryz.func39 (by kernel_rfl) rfl) (fun W pre gone n hn hbt _ hb => (anyone_any gone n W).mono fun e w' ⟨h1, h2⟩ => ⟨h1, by rw [← h2]; exact Below.refl _ _⟩)
  rw [serF_good] at h
  rw [show findF xs = serF xs by unfold findF; rw [hv]; rfl]
  exact h
theorem allO_hist {h : List Txn} (hne : 0 < (allO h).length) : histV h = true := (allO_ok.1 (fun e => by rw [e] at hne; exact absurd hne (by simp))).1
set_option maxRecDepth 10000 in
set_option maxHeartbeats 4000000 in
theorem implVerdictOf (xs : List Txn) (A : Option Addr) (c : Nat) (w : World) (hm : xs.length ≤ maxLen) (hA : Row tTxn w (Old w) A xs) :
    Calls Tryz.prog 14 #[.slice A xs.length c] w (VerdPost xs w) := by
  obtain ⟨i1, hi1, hz01, hz11, hz21⟩ := info_parts infoIntS_
  have HB0 := hide ((Below.refl _ w).alloc (Nat.le_refl _) (.cells #[.bool false, .slice none 0 0, .slice none 0 0] 32))
  have HX0 := hide (Blk.new w 32 #[.bool false, .slice none 0 0, .slice none 0 0])
  have HOi := hide (implOrdersIn xs A c _ hm (hA.old HB0.out))
  have hz0 : w.heap.size < (w.alloc (.cells #[.bool false, .slice none 0 0, .slice none 0 0] 32)).heap.size := by simp
  have HSr := hide (fun (hv : histV xs = true) (W : World) (hb : Below w.heap.size w W) => serial_any xs A c W hv (hA.old hb))
  have HRd := hide (fun (W : World) (hb : Below w.heap.size w W) => implReadsRight xs A c W hm (hA.old hb))
  have hl2 := allO_len xs
  have HBd := hide (show ∀ x ∈ allO xs, x.length ≤ 3 ∧ ∀ o ∈ x, o.length ≤ 6 from fun x hx => by
    have hne : allO xs ≠ [] := fun e => by rw [e] at hx; cases hx
    have hv := (allO_ok.1 hne).1
    rw [allO_eq hne] at hx
    exact ⟨Nat.le_of_eq (partO_mlen xs 3 x hx), partO_ilen hv 3 x hx⟩)
  have HA := hide hA; have HM := hide hm
  have hqx : xs.length ≤ 9223372036854775807 := by simpa [maxLen] using hm
  clear hA hm
  go_enter Tryz.func14, Tryz.ntmps14
  go_upto_region 1 with fail
  generalize w.alloc _ = W at HB0 HX0 HOi hz0 ⊢
  have HXc := hide (fun (W2 : World) (hb : Below W.heap.size W W2) => HX0.out.below hb HX0.out.lt)
  by_cases hne : 0 < (allO xs).length
  · have HV := hide (allO_hist hne)
    rw [decide_eq_true hne] at HOi
    have HNe := hide hne
    go_upto_region 4 with (go_at_call 29; refine HOi.out.mono ?_; rintro e w1 ⟨v1, rfl, hS1, hb1⟩; obtain ⟨A1, c1, rfl, h11, h12, h13⟩ := hS1; have HR1 := hide (h13.mono (w' := w1) (S' := Old w1) (fun b h => h.2) (fun _ _ => rfl)); have HB1 := hide (HB0.out.trans (hb1.mono HB0.out.size)); have HW1 := hide hb1; clear hb1 h13)
    have HS1 := hide (HSr.out HV.out w1 HB1.out)
    cases hf : findF xs with
    | some o =>
      have HR := hide (verdO_ser hne hf)
      rw [hf] at HS1
      clear hf hne
      go_wp2_with (go_at_call 38; refine HS1.out.mono ?_; rintro e w2 ⟨v2, rfl, hH2, hb2⟩; have hX2 := HXc.out w2 (HW1.out.trans (hb2.mono HW1.out.size)); have HB2 := hide (HB1.out.trans (hb2.mono HB1.out.size)); have HH2 := hide hH2; obtain ⟨g2, hG2⟩ := hH2; obtain ⟨A2, c2, rfl, _, _, _⟩ := hG2; have e0 := hX2.cell 0; have e1 := hX2.cell 1; have e2 := hX2.cell 2; have f0 := hX2.frozen 0; have f1 := hX2.frozen 1; have f2 := hX2.frozen 2; simp only [List.getElem?_toArray, List.getElem?_cons_zero, List.getElem?_cons_succ] at e0 e1 e2; have HZ2 := hide hb2.size; clear hX2 hb2)
      have hzz : w.heap.size < w2.heap.size := by have := HW1.out.size; have := HZ2.out; omega
      refine bodyPost_ret (v := .tuple #[.agg #[.bool true, .slice A2 o.length c2, .slice none 0 0], .bool true]) (by simp [results, Tryz.results14, go_sem, e0, e1, e2]) rfl ⟨_, _, by rw [verdD, HR.out]; rfl, ?_, ?_, ?_⟩
      · rw [verdD, HR.out]
        refine HH2.out.mono (fun b h => ⟨by have := h.1; have := HB1.out.size; omega, by simpa using h.2⟩) (fun b h => ?_)
        have h1 := h.1
        have h2 := HW1.out.size
        repeat (first | rw [Below.heap_setCell _ _ _ _ (by simp; try omega)])
      · rw [verdD, HR.out]; exact HoldS.nil_ rfl
      · repeat (first | refine Below.setCell ?_ (by simp; try omega) _ | exact HB2.out)
    | none =>
      rw [hf] at HS1
      have HX2 := hide (fun (W2 : World) (hb : Below w1.heap.size w1 W2) => HXc.out W2 (HW1.out.trans (hb.mono HW1.out.size)))
      have HZ1 := hide HW1.out.size
      go_upto_region 8 with (go_at_call 38; refine HS1.out.mono ?_; rintro e w2 ⟨v2, rfl, hH2, hb2⟩; have HB2 := hide (HB1.out.trans (hb2.mono HB1.out.size)); have HV2 := hide hb2; obtain ⟨g2, A2, c2, rfl, _, _, _⟩ := hH2; clear hb2)
      have HB3 := hide (HB2.out.alloc HB2.out.size (.cells #[.bool false, .slice none 0 0, .slice none 0 0] 32))
      have HV3 := hide (HV2.out.alloc HV2.out.size (.cells #[.bool false, .slice none 0 0, .slice none 0 0] 32))
      have HY3 := hide (Blk.new w2 32 #[.bool false, .slice none 0 0, .slice none 0 0])
      have hzg : w2.heap.size < (w2.alloc (.cells #[.bool false, .slice none 0 0, .slice none 0 0] 32)).heap.size := by simp
      have HZ2 := hide HV2.out.size
      generalize w2.alloc _ = W3 at HB3 HV3 HY3 hzg ⊢
      have HD3 := hide (HRd.out W3 HB3.out)
      have hgw : w.heap.size < w2.heap.size := by have := HZ1.out; have := HZ2.out; omega
      cases hrb : readsB xs with
      | false =>
        have HR := hide (verdO_bad hne hf hrb)
        rw [hrb] at HD3
        clear hrb hf hne
        go_wp2_with (go_at_call 40; refine HD3.out.mono ?_; rintro e w4 ⟨rfl, hb4⟩; have hX4 := HX2.out w4 (HV3.out.trans (hb4.mono HV3.out.size)); have hY4 := HY3.out.below hb4 HY3.out.lt; have HB4 := hide (HB3.out.trans (hb4.mono HB3.out.size)); have e0 := hX4.cell 0; have e1 := hX4.cell 1; have e2 := hX4.cell 2; have f0 := hX4.frozen 0; have f1 := hX4.frozen 1; have f2 := hX4.frozen 2; have d0 := hY4.cell 0; have d1 := hY4.cell 1; have d2 := hY4.cell 2; simp only [List.getElem?_toArray, List.getElem?_cons_zero, List.getElem?_cons_succ] at e0 e1 e2 d0 d1 d2; have HZ4 := hide hb4.size; clear hX4 hY4 hb4)
        have hzz : w.heap.size < w4.heap.size := by have := HZ4.out; omega
        refine bodyPost_ret (v := .tuple #[.agg #[.bool false, .slice none 0 0, .slice none 0 0], .bool true]) (by simp [results, Tryz.results14, go_sem, e0, e1, e2]) rfl ⟨_, _, by rw [verdD, HR.out]; rfl, ?_, ?_, ?_⟩
        · rw [verdD, HR.out]; exact HoldI.nil_ rfl
        · rw [verdD, HR.out]; exact HoldS.nil_ rfl
        · repeat (first | refine Below.setCell ?_ (by simp; try omega) _ | exact HB4.out)
      | true =>
        have HR := hide (verdO_cyc hne hf hrb)
        rw [hrb] at HD3
        clear hrb hf
        have HCa := hide (cycK_all xs)
        have hmk : ∀ (W : World) (n : Nat), n ≤ 200 → (Instr.makeSlice 24 (.int .i64 0) (.int .i64 (n : Int))).run Tryz.prog W = .ok (.slice (some ⟨W.heap.size, 0, none⟩) 0 n) (W.alloc (.cells (madeCells (Value.cells (.slice none 0 0)) (n * 1)) 23)) := fun W n hn => by
          have h := run_make_rowN (P := Tryz.prog) 24 23 i1 (.slice none 0 0) Tryz.underlying24 hi1 hz01 .i64 .i64 0 n (Nat.zero_le _) (by rw [hz21]; omega) (by omega) W
          rw [hz11] at h
          exact h
        have hmk2 := fun W => hmk W (allO xs).length hl2
        clear hmk hne
        have hqa : (allO xs).length ≤ 9223372036854775807 := by omega
        generalize allO xs = all at HR1 HBd hl2 h11 HCa hmk2 hqa ⊢
        go_upto_region 11 with (go_at_call 40; refine HD3.out.mono ?_; rintro e w3 ⟨rfl, hb3⟩; have hY3 := HY3.out.below hb3 HY3.out.lt; have HVw := hide (HV3.out.trans (hb3.mono HV3.out.size)); have HBw := hide (HB3.out.trans (hb3.mono HB3.out.size)); have d2 := hY3.cell 2; have f2 := hY3.frozen 2; simp only [List.getElem?_toArray, List.getElem?_cons_zero, List.getElem?_cons_succ] at d2; have HZ3 := hide hb3.size; have HY4 := hide hY3; clear hY3 hb3; have hz3 : w2.heap.size < w3.heap.size := Nat.lt_of_lt_of_le hzg HZ3.out)
        have hse : (w3.setCell ⟨w2.heap.size, 2, none⟩ (.slice (some ⟨w3.heap.size, 0, none⟩) 0 all.length)).heap.size = w3.heap.size := by simp
        have HO0 := hide (show Own TB 23 ((w3.setCell ⟨w2.heap.size, 2, none⟩ (.slice (some ⟨w3.heap.size, 0, none⟩) 0 all.length)).alloc (.cells (madeCells #[.slice none 0 0] all.length) 23)) (fun b => w3.heap.size ≤ b ∧ Old ((w3.setCell ⟨w2.heap.size, 2, none⟩ (.slice (some ⟨w3.heap.size, 0, none⟩) 0 all.length)).alloc (.cells (madeCells #[.slice none 0 0] all.length) 23)) b) [] (.slice (some ⟨w3.heap.size, 0, none⟩) 0 all.length) from by
          have h := Own.made (T := TB) (e := 23) (w3.setCell ⟨w2.heap.size, 2, none⟩ (.slice (some ⟨w3.heap.size, 0, none⟩) 0 all.length)) (S := fun b => w3.heap.size ≤ b ∧ Old ((w3.setCell ⟨w2.heap.size, 2, none⟩ (.slice (some ⟨w3.heap.size, 0, none⟩) 0 all.length)).alloc (.cells (madeCells #[.slice none 0 0] all.length) 23)) b) (madeCells #[.slice none 0 0] all.length) all.length (by rw [size_madeCells]; exact (Nat.mul_one _).symm) (by simp only [maxLen]; omega) ⟨Nat.le_of_eq hse.symm, by simp [Old]⟩
          rw [hse] at h
          exact h)
        have HK0 := hide (show Blk ((w3.setCell ⟨w2.heap.size, 2, none⟩ (.slice (some ⟨w3.heap.size, 0, none⟩) 0 all.length)).alloc (.cells (madeCells #[.slice none 0 0] all.length) 23)) w2.heap.size 32 #[.bool false, .slice none 0 0, .slice (some ⟨w3.heap.size, 0, none⟩) 0 all.length] from (HY4.out.set_ 2 _).alloc _)
        have HN0 := hide (show Only (fun b => w3.heap.size ≤ b ∨ b = w2.heap.size) w3 ((w3.setCell ⟨w2.heap.size, 2, none⟩ (.slice (some ⟨w3.heap.size, 0, none⟩) 0 all.length)).alloc (.cells (madeCells #[.slice none 0 0] all.length) 23)) from ((Only.refl (fun b => w3.heap.size ≤ b ∨ b = w2.heap.size) w3).setCell (.inr rfl) _).trans (Only.of_alloc _ _))
        clear hmk2 d2 f2
        go_loopw [10, 35] (fun _ i wr => ∃ (k : Nat) (cv : Value) (ps : List (List Int × Nat)), k ≤ all.length ∧ i = .int .i64 k ∧ Hid (ps.map Prod.fst = cycK xs all k) ∧ Hid (Far ps) ∧ Hid (Own TB 23 wr (fun b => w3.heap.size ≤ b ∧ Old wr b) ps cv) ∧ Hid (Blk wr w2.heap.size 32 #[.bool false, .slice none 0 0, cv]) ∧ Hid (Only (fun b => w3.heap.size ≤ b ∨ b = w2.heap.size) w3 wr)) (fun _ i _ => all.length - (intOf i).toNat)
        case atStart => exact ⟨0, _, [], Nat.zero_le _, rfl, rfl, (show Far [] from List.Pairwise.nil), HO0.out, HK0.out, HN0.out⟩
        case round =>
          obtain ⟨k, cv, ps, hk, rfl, hP, hFr, hO, hBk, hOn⟩ := hrel
          have HP := hide hP.out; have HFr := hide hFr.out; have HOc := hide (show Own TB 23 wr (fun b => w3.heap.size ≤ b ∧ b < wr.heap.size) ps cv from hO.out); have HBk := hide hBk.out; have HOn := hide hOn.out
          clear hP hFr hO hBk hOn HO0 HK0 HN0
          have HZr := hide HOn.out.size
          have HP1 := hide (below_only HVw.out HOn.out HVw.out.size (fun i hi => by have := HVw.out.size; have := HZ2.out; rcases hi with h | rfl <;> omega))
          have HPw := hide (below_only HBw.out HOn.out HBw.out.size (fun i hi => by have := HBw.out.size; rcases hi with h | rfl <;> omega))
          have hgr : w2.heap.size < wr.heap.size := by have := HZr.out; omega
          by_cases hlt : k < all.length
          · have hki : (k : Int) < (all.length : Int) := by omega
            obtain ⟨b7, off7, A7, c7, rfl, hb7, g0, g1, g2, hR7⟩ := at_SliceG HR1.out hlt
            have g0 := (HP1.out.cell (p := ⟨b7, off7 + k, none⟩) hb7).trans g0
            have HXv := hide (fun (W2 : World) (hb : Only (fun b => w3.heap.size ≤ b) wr W2) => (HBk.out.of (hb.block w2.heap.size hgr (by omega))).cell 2)
            simp only [List.getElem?_toArray, List.getElem?_cons_zero, List.getElem?_cons_succ] at HXv
            have hbd := HBd.out all[k] (List.getElem_mem hlt)
            have HEd := hide (fun (W2 : World) (hb : Only (fun b => w3.heap.size ≤ b) wr W2) => implEdgesOf xs all[k] A A7 c c7 W2 HM.out (by omega) (fun o ho => by have := hbd.2 o ho; omega) (HA.out.old (below_only HPw.out hb HPw.out.size (fun i hi => by have := HBw.out.size; omega))) (hR7.old (below_only HP1.out hb HP1.out.size (fun i hi => by have := HVw.out.size; omega))))
            have hel := edgR_len xs all[k]
            have HCs := hide (cycK_succ xs all k hlt)
            have HPn := hide (show ps.length ≤ 200 by have h := congrArg List.length HP.out; rw [List.length_map, cycK_len xs all k (by omega)] at h; omega)
            clear hR7 hbd
            generalize edgR xs all[k] = es at HEd hel HCs
            generalize all[k] = os at g0 g1 HEd
            have HCy := hide (fun (A9 : Option Addr) (d9 : Nat) (W2 : World) (h : Row tEdge W2 (Old W2) A9 es) => implCycleOf (xs.length : Int) es A9 d9 W2 (by simp only [maxLen]; omega) h)
            generalize cycO (xs.length : Int) es = cy at HCy HCs
            go_upto_region 13 with fail
            refine wp_region_facts 11 (JVer wr w3.heap.size 9) (FVer 6 w3.heap.size wr.heap.size es cy ps (fun q9 : Nat => match q9 with | 0 => .pointer (some ⟨w2.heap.size, 2, none⟩) | 1 => cv | 2 => .slice A xs.length c | 3 => .int .i64 (xs.length : Int) | 4 => .slice A xs.length c | 5 => .slice A7 os.length c7 | 6 => undef | 7 => undef | 8 => undef | 9 => undef | 10 => .pointer (some ⟨w2.heap.size, 2, none⟩) | _ => undef)) (fun k9 a b => Only (fun q => q < wr.heap.size) a b ∧ (k9 ≠ 9 → Below a.heap.size a b)) [some 39, some 40, some 41, some 42, some 43, some 44, some 45, some 46, some 47, some 48, some 49] (by kernel_rfl) (by kernel_rfl) (by kernel_rfl) (by kernel_rfl) (JVer.start _ _ _ _) ?_ ?_ ?_
            · intro i k9 v wa wb _ _ hnd hF hE
              refine hF.ev hE.1 (fun e => hE.2 (fun e2 => ?_))
              subst e; subst e2
              exact absurd hnd (by rw [show needB _ _ _ _ = true by kernel_rfl]; simp)
            · intro i o hi ho a wa L9 hL hJ hc hd K hK
              have hz9 := hJ.only.size
              have hi' : i = 0 ∨ i = 1 ∨ i = 2 ∨ i = 3 ∨ i = 4 ∨ i = 5 ∨ i = 6 ∨ i = 7 ∨ i = 8 ∨ i = 9 ∨ i = 10 := by omega
              clear hi
              rcases hi' with rfl | rfl | rfl | rfl | rfl | rfl | rfl | rfl | rfl | rfl | rfl
              all_goals
                simp only [List.getElem?_toArray, List.getElem?_cons_zero, List.getElem?_cons_succ, Option.some.injEq] at ho
                subst ho
                simp only [reduceCtorEq, if_false] at hK
              · have e8 := (hc 8 (by kernel_rfl)).trans rfl
                go_simp
                exact hK _ _ (FVer.val (by decide) rfl) (hJ.up (by decide) (Below.refl _ _)) ⟨Only.of_below (Below.refl _ _), fun _ => Below.refl _ _⟩
              · have e39 : a.tmps.getD 39 undef = .pointer (some ⟨w2.heap.size, 2, none⟩) := (hd 0 39 (by kernel_rfl)).get (by decide)
                have c9 := HXv.out wa hJ.only
                go_simp
                exact hK _ _ (FVer.val (by decide) rfl) (hJ.up (by decide) (Below.refl _ _)) ⟨Only.of_below (Below.refl _ _), fun _ => Below.refl _ _⟩
              · have e0 := (hc 0 (by kernel_rfl)).trans rfl
                go_simp
                exact hK _ _ (FVer.val (by decide) rfl) (hJ.up (by decide) (Below.refl _ _)) ⟨Only.of_below (Below.refl _ _), fun _ => Below.refl _ _⟩
              · have e41 : a.tmps.getD 41 undef = .slice A xs.length c := (hd 2 41 (by kernel_rfl)).get (by decide)
                go_simp
                exact hK _ _ (FVer.val (by decide) rfl) (hJ.up (by decide) (Below.refl _ _)) ⟨Only.of_below (Below.refl _ _), fun _ => Below.refl _ _⟩
              · have e0 := (hc 0 (by kernel_rfl)).trans rfl
                go_simp
                exact hK _ _ (FVer.val (by decide) rfl) (hJ.up (by decide) (Below.refl _ _)) ⟨Only.of_below (Below.refl _ _), fun _ => Below.refl _ _⟩
              · have e10 := (hc 10 (by kernel_rfl)).trans rfl
                go_simp
                exact hK _ _ (FVer.val (by decide) rfl) (hJ.up (by decide) (Below.refl _ _)) ⟨Only.of_below (Below.refl _ _), fun _ => Below.refl _ _⟩
              · have e43 : a.tmps.getD 43 undef = .slice A xs.length c := (hd 4 43 (by kernel_rfl)).get (by decide)
                have e44 : a.tmps.getD 44 undef = .slice A7 os.length c7 := (hd 5 44 (by kernel_rfl)).get (by decide)
                go_simp
                refine (HEd.out wa hJ.only).mono ?_
                rintro e w9 ⟨v9, rfl, hO9, hb9⟩
                obtain ⟨A9, d9, rfl, h91, h92, h93⟩ := hO9
                exact hK _ _ (FVer.iff0.2 ⟨A9, d9, rfl, h93.mono (fun b h => ⟨Nat.le_trans hz9 h.1, h.2⟩) (fun _ _ => rfl)⟩) (hJ.up (by decide) hb9) ⟨Only.of_below hb9, fun _ => hb9⟩
              · have e42 : a.tmps.getD 42 undef = .int .i64 (xs.length : Int) := (hd 3 42 (by kernel_rfl)).get (by decide)
                obtain ⟨A9, d9, f9, hR9⟩ := FVer.iff0.1 (hd 6 45 (by kernel_rfl))
                have e9 : a.tmps.getD 45 undef = .slice A9 es.length d9 := f9
                clear f9
                rw [Array.getD_eq_getD_getElem?] at e9
                go_simp
                refine (HCy.out A9 d9 wa (hR9.mono (fun b h => h.2) (fun _ _ => rfl))).mono ?_
                rintro e w9 ⟨v9, rfl, hO9, hb9⟩
                obtain ⟨g0, hG9⟩ := hO9
                have hH0 := hG9.mono (w' := w9) (S2 := fun b => wr.heap.size ≤ b ∧ Old w9 b) (fun b h => ⟨Nat.le_trans hz9 h.1, h.2⟩) (fun _ _ => rfl)
                obtain ⟨g9, hg9, hH9⟩ := hH0.ge (lo := wr.heap.size) (fun b h => h.1)
                exact hK _ _ (FVer.iff1.2 ⟨g9, hg9, hH9⟩) (hJ.up (by decide) hb9) ⟨Only.of_below hb9, fun _ => hb9⟩
              · obtain ⟨g9, hg9, hH9⟩ := FVer.iff1.1 (hd 7 46 (by kernel_rfl))
                have hH0 := hH9
                obtain ⟨A9, d9, f9, h91, h92, h93⟩ := hH9
                have e9 : a.tmps.getD 46 undef = .slice A9 cy.length d9 := f9
                rw [f9] at hH0
                clear f9 h93
                rw [Array.getD_eq_getD_getElem?] at e9
                go_simp
                exact hK _ _ (FVer.iff2.2 ⟨wa.heap.size, g9, hg9, rfl, hz9, by simp [Old], (row_one (T := TB) 23 (cs := [_]) ⟨_, rfl, hH0⟩ (fun b hb => hb.2)).stay (fun b hb => ⟨hb.1, Nat.lt_of_lt_of_le hb.2 (by simp)⟩) (fun _ _ => rfl) rfl⟩) (hJ.up (by decide) ((Below.refl _ wa).alloc (Nat.le_refl _) _)) ⟨Only.of_below ((Below.refl _ wa).alloc (Nat.le_refl _) _), fun _ => (Below.refl _ wa).alloc (Nat.le_refl _) _⟩
              · have e40 : a.tmps.getD 40 undef = cv := (hd 1 40 (by kernel_rfl)).get (by decide)
                have hO := HOc.out.mono (w' := wa) (S2 := fun b => w3.heap.size ≤ b ∧ b < wr.heap.size) (fun b h => h) (fun b h => (hJ.fresh hL).block b h.2)
                obtain ⟨p9, g9, hg9, f9, hp9, hpo9, hy9⟩ := FVer.iff2.1 (hd 8 47 (by kernel_rfl))
                refine wp_app TB (.tmp 40) (.tmp 47) 24 rfl 23 i1 _ 24 Tryz.underlying24 hi1 hz01 hz11 hz21 rfl (by decide) (fun b => w3.heap.size ≤ b ∧ b < wr.heap.size) (fun b => wr.heap.size ≤ b ∧ Old wa b) (fun b => w3.heap.size ≤ b) ps [(cy, g9)] cv e40 hO _ 1 1 f9 rfl hy9 (by have := HPn.out; simp only [maxLen, List.length_singleton]; omega) (by have := HPn.out; simp only [List.length_singleton]; omega) (fun b h => Nat.lt_of_lt_of_le h.2 hz9) (fun b hb => ⟨hb.2, fun e => by have := (HOc.out.owned b e).2; have := hb.1; omega⟩) (fun b h => h.1) (fun b hb => Nat.le_trans HZr.out hb.1) (Nat.le_trans HZr.out hz9) ?_
                intro v9 w9 hO9 hg_
                have hk9 : Only (fun b => w3.heap.size ≤ b ∧ b < wr.heap.size) wa w9 := Only.of_grown hg_ (fun b e => HOc.out.owned b e)
                exact hK _ _ (FVer.iff3.2 ⟨g9, hg9, hO9⟩) (hJ.app (hk9.mono fun b h => h.1)) ⟨hk9.mono fun b h => h.2, fun e => absurd rfl e⟩
              · have e8 := (hc 8 (by kernel_rfl)).trans rfl
                go_simp
                exact hK _ _ (FVer.val (by decide) rfl) (hJ.up (by decide) (Below.refl _ _)) ⟨Only.of_below (Below.refl _ _), fun _ => Below.refl _ _⟩
            · intro vs wz L9 hL hJ hF
              obtain ⟨g9, hg9, hO9⟩ := FVer.iff3.1 (hF 9 (by decide))
              have f10 : vs 10 = .pointer (some ⟨w2.heap.size, 2, none⟩) := (hF 10 (by decide)).get (by decide)
              obtain ⟨A9, d9, f9, h91, h92, _⟩ := hO9.sl
              rw [f9] at hO9
              have HF2 := hide (far_snoc (p := (cy, g9)) HFr.out (own_old HOc.out) hg9)
              have HP2 := hide (show (ps ++ [(cy, g9)]).map Prod.fst = cycK xs all (k + 1) by rw [List.map_append, HP.out, HCs.out]; rfl)
              have HW9 := hide hJ.only
              have hBz := HBk.out.of (hJ.only.block w2.heap.size hgr (by omega))
              simp only [putD, Act.put, List.setIfInBounds_toArray, List.set_cons_zero, List.set_cons_succ, List.drop_succ_cons, List.drop_zero]
              rw [f9, f10]
              generalize (ps ++ [(cy, g9)]).length = n9 at f9 hO9 h91 ⊢
              have x2 := hBz.cell 2
              have fz := hBz.frozen 2
              simp only [List.getElem?_toArray, List.getElem?_cons_zero, List.getElem?_cons_succ] at x2
              have HO5 := hide (hO9.mono (w' := wz.setCell ⟨w2.heap.size, 2, none⟩ (.slice A9 n9 d9)) (S2 := fun b => w3.heap.size ≤ b ∧ Old (wz.setCell ⟨w2.heap.size, 2, none⟩ (.slice A9 n9 d9)) b) (fun b h => ⟨h.1, by have := h.2; simpa [Old] using this⟩) (fun b h => Below.heap_setCell _ _ _ _ (by have := h.1; simp; omega)))
              have HK5 := hide (show Blk (wz.setCell ⟨w2.heap.size, 2, none⟩ (.slice A9 n9 d9)) w2.heap.size 32 #[.bool false, .slice none 0 0, .slice A9 n9 d9] from hBz.set_ 2 _)
              have HN5 := hide ((HOn.out.trans (HW9.out.mono fun b h => .inl h)).setCell (p := ⟨w2.heap.size, 2, none⟩) (.inr rfl) (.slice A9 n9 d9))
              clear hF hJ f9 f10 hO9 hBz
              go_wp2_with fail
              go_roundw
              case rel => exact ⟨k + 1, _, ps ++ [(cy, g9)], by omega, by go_num, HP2.out, HF2.out, HO5.out, HK5.out, HN5.out⟩
              case measure => simp [intOf]; omega
          · obtain rfl : k = all.length := by omega
            have HPe := hide (HP.out.trans HCa.out)
            have hX4 := HX2.out wr HP1.out
            obtain ⟨g9, hH9, _⟩ := HOc.out.hold
            have HH9 := hide hH9
            obtain ⟨A9, d9, rfl, _, _, _⟩ := hH9
            have e0 := hX4.cell 0; have e1 := hX4.cell 1; have e2 := hX4.cell 2; have f0 := hX4.frozen 0; have f1 := hX4.frozen 1; have f2 := hX4.frozen 2; have d0 := HBk.out.cell 0; have d1 := HBk.out.cell 1; have d2 := HBk.out.cell 2
            simp only [List.getElem?_toArray, List.getElem?_cons_zero, List.getElem?_cons_succ] at e0 e1 e2 d0 d1 d2
            clear hX4
            have hzz : w.heap.size < wr.heap.size := by omega
            have hw3 : w.heap.size < w3.heap.size := by omega
            go_wp2_with fail
            refine bodyPost_ret (v := .tuple #[.agg #[.bool false, .slice none 0 0, .slice A9 ps.length d9], .bool true]) (by simp [results, Tryz.results14, go_sem, e0, e1, e2]) rfl ⟨_, _, by rw [verdD, HR.out]; rfl, ?_, ?_, ?_⟩
            · rw [verdD, HR.out]; exact HoldI.nil_ rfl
            · rw [verdD, HR.out]
              refine ⟨ps, g9, HPe.out, HH9.out.mono (fun b h => ⟨by have := h.1; omega, by simpa using h.2⟩) (fun b h => ?_), HFr.out⟩
              have h1 := h.1
              repeat (first | rw [Below.heap_setCell _ _ _ _ (by simp; try omega)])
            · repeat (first | refine Below.setCell ?_ (by simp; try omega) _ | exact HPw.out)
  · have HR := hide (verdO_no hne)
    rw [decide_eq_false hne] at HOi
    clear hne
    go_wp2_with (go_at_call 29; refine HOi.out.mono ?_; rintro e w1 ⟨v1, rfl, hS1, hb1⟩; obtain ⟨A1, c1, rfl, h11, h12, h13⟩ := hS1; have hX1 := HXc.out w1 hb1; have HB1 := hide (HB0.out.trans (hb1.mono HB0.out.size)); have e0 := hX1.cell 0; have e1 := hX1.cell 1; have e2 := hX1.cell 2; have f0 := hX1.frozen 0; have f1 := hX1.frozen 1; have f2 := hX1.frozen 2; simp only [List.getElem?_toArray, List.getElem?_cons_zero, List.getElem?_cons_succ] at e0 e1 e2; have HZ1 := hide hb1.size; clear hX1 hb1 h13)
    have hzz : w.heap.size < w1.heap.size := by have := HZ1.out; omega
    refine bodyPost_ret (v := .tuple #[.agg #[.bool false, .slice none 0 0, .slice none 0 0], .bool false]) (by simp [results, Tryz.results14, go_sem, e0, e1, e2]) rfl ⟨_, _, by rw [verdD, HR.out]; rfl, ?_, ?_, ?_⟩
    · rw [verdD, HR.out]; exact HoldI.nil_ rfl
    · rw [verdD, HR.out]; exact HoldS.nil_ rfl
    · repeat (first | refine Below.setCell ?_ (by simp; try omega) _ | exact HB1.out)
end Go.Proofs.YtjiobgfaohldhaaGreat
namespace Go.Proofs.YtjiobgfaohldhaaGreat
open Go.RowKit
set_option linter.unusedVariables false
set_option linter.unusedSimpArgs false

theorem hOu_keep {α : Type} {T : Ty α} {e : TypeId} {w w4 w5 : World} {K : Nat → Prop} {xs : List α} {v : Value} (h : Own T e w4 (fun b => w.heap.size ≤ b ∧ Old w4 b) xs v) (hb : Below w4.heap.size w4 w5) (hK : ∀ b, w.heap.size ≤ b ∧ Old w4 b → K b) : Own T e w5 (fun b => K b ∧ Old w5 b) xs v :=
  h.mono (fun b h => ⟨hK b h, Nat.lt_of_lt_of_le h.2 hb.size⟩) fun b h => hb.block b h.2
/-- A slice of one number, newly made. -/
theorem Own.oneInt {e : TypeId} (w : World) {S : Nat → Prop} (x : Int) (hS : S w.heap.size) :
    Own tInt e (w.alloc (.cells #[.int .i64 x] e)) S [x] (.slice (some ⟨w.heap.size, 0, none⟩) 1 1) :=
  .inr ⟨_, 1, _, fun _ => False, rfl, hS, Blk.new _ _ _, by simp, by simp [maxLen], rfl, fun _ h => h.elim, fun k hk => by
    obtain rfl : k = 0 := by simpa using hk
    refine ⟨_, rfl, fun j u hu => ?_⟩
    obtain ⟨hj, rfl⟩ := List.getElem?_eq_some_iff.1 hu
    have hj0 : j = 0 := by simpa using hj
    subst hj0
    rw [(Blk.new w e _).cell]
    rfl⟩
set_option maxRecDepth 10000 in
set_option maxHeartbeats 4000000 in
theorem orders_any (n : Nat) : ∀ (xs : List Int) (A : Option Addr) (c : Nat) (w : World), xs.length = n → n ≤ 8 → xs.length ≤ c → c ≤ maxLen → Row tInt w (Old w) A xs →
    Calls Tryz.prog 51 #[.slice A xs.length c] w fun e w' => ∃ v, e = .returned v ∧ Own (tIntSO 3) 23 w' (New w w') (permsI n xs) v ∧ Below w.heap.size w w' := by
  induction n with
  | zero =>
    intro xs A c w hl hn hc hcm hA
    obtain ⟨i1, hi1, hz01, hz11, hz21⟩ := info_parts infoIntS_
    have h0 : ((xs.length : Int) == 0) = true := by rw [beq_iff_eq]; omega
    clear hA
    go_enter Tryz.func51, Tryz.ntmps51
    go_wp2_with fail
    go_ret
    have h1 := Own.empty (T := tInt) (e := 3) w (fun b => w.heap.size ≤ b) (Nat.le_refl _)
    have h2 := Own.one (T := tIntSO 3) (e := 23) (w.alloc (.cells #[] 3)) (K := New w ((w.alloc (.cells #[] 3)).alloc (.cells #[.slice (some ⟨w.heap.size, 0, none⟩) 0 0] 23))) [.slice (some ⟨w.heap.size, 0, none⟩) 0 0] ⟨_, rfl, h1⟩ (fun b h => ⟨⟨h.1, Nat.lt_of_lt_of_le h.2 (by simp)⟩, h.2⟩) ⟨by simp, by simp⟩
    exact ⟨_, rfl, by simpa [permsI] using h2, ((Below.refl _ w).alloc (Nat.le_refl _) _).alloc (by simp) _⟩
  | succ n ih =>
    intro xs A c w hl hn hc hcm hA
    have HA := hide hA
    have hq : xs.length ≤ 9223372036854775807 := by omega
    have hc' : c ≤ 9223372036854775807 := by simpa [maxLen] using hcm
    have h0 : ((xs.length : Int) == 0) = false := by rw [beq_eq_false_iff_ne]; omega
    have HL := hide hl
    clear hA hl hcm
    obtain ⟨i0, hi, hz0, hz1, hz2⟩ := info_parts infoInt_
    obtain ⟨i1, hi1, hz01, hz11, hz21⟩ := info_parts infoIntS_
    go_enter Tryz.func51, Tryz.ntmps51
    go_wp2_with fail
    go_loopw [3, 4, 5, 6, 7] (fun v i _ _ _ wr => ∃ k : Nat, k ≤ xs.length ∧ i = .int .i64 k ∧ Hid (Own (tIntSO 3) 23 wr (fun b => w.heap.size ≤ b ∧ Old wr b) (permsK n xs k) v) ∧ Below w.heap.size w wr) (fun _ i _ _ _ _ => xs.length - (intOf i).toNat)
    case atStart => exact ⟨0, Nat.zero_le _, rfl, Own.empty w (fun b => w.heap.size ≤ b) (Nat.le_refl _), (Below.refl _ w).alloc (Nat.le_refl _) _⟩
    case round =>
      obtain ⟨k, hk, rfl, hOu, hb⟩ := hrel
      by_cases hlt : k < xs.length
      · obtain ⟨b, off, rfl, hbS, _⟩ := at_Int HA.out hb hlt
        have hk1 : (k : Int) ≤ (c : Int) := by omega
        have hk2 : (k : Int) + 1 ≤ (xs.length : Int) := by omega
        have hk3 : (0 : Int) ≤ (k : Int) + 1 := by omega
        have HOe := hide (Own.empty (T := tInt) (e := 3) wr.drew (fun b => wr.heap.size ≤ b) (Nat.le_refl _))
        have hRw := (HA.out.old hb).mono (w' := wr.drew.alloc (.cells #[] 3)) (S' := fun _ => True) (fun _ _ => trivial) (fun b hb => Below.heap_alloc _ _ _ hb)
        have HR1 := hide (hRw.takeN k).anyInt
        have HT := hide (show (xs.take k).length = k by rw [List.length_take]; omega)
        have HT2 := hide (show xs.take k ++ xs.drop (k + 1) = xs.eraseIdx k from (List.eraseIdx_eq_take_drop_succ _ _).symm)
        have HD := hide (show (xs.drop (k + 1)).length = xs.length - (k + 1) from List.length_drop)
        obtain ⟨A2, hA2, hrow2⟩ : ∃ A2 : Option Addr, (if c = k + 1 then (some ⟨b, off, none⟩ : Option Addr) else some ⟨b, off + (k + 1), none⟩) = A2 ∧ Row tInt wr (Old wr) A2 (xs.drop (k + 1)) := by
          refine ⟨_, rfl, ?_⟩
          split
          · rw [List.drop_of_length_le (by omega)]; exact Row.nil
          · have := (HA.out.old hb).cut (k + 1)
            simpa [Addr.add, tInt, flat] using this
        have HR2 := hide hrow2
        have HLb := hide hbS
        clear hRw hrow2
        have HM : Hid (xs.length ≤ 8) := by show _ ≤ _; have := HL.out; omega
        have hs : IntKind.i64.wrap ((k : Int) + 1) = (k : Int) + 1 := by rw [IntKind.wrap_i64]; omega
        go_upto_region 7 with (fail)
        go_region_law (first | (refine wp_cat tInt (.tmp 20) (.tmp 23) 23 rfl 3 i0 _ 8 Tryz.underlying23 hi hz0 hz1 hz2 rfl (by decide) (fun b => wr.heap.size ≤ b) (fun _ => False) [] (xs.take k) _ rfl HOe.out _ k c (by simp [Act.eval, Act.put]) HT.out.symm HR1.out (fun _ h => h.elim) (fun b hb => Nat.le_trans (by simp) hb) (by have := HM.out; rw [HT.out]; simp only [maxLen, List.length_nil]; omega) (by have := HM.out; rw [HT.out]; simp only [List.length_nil]; omega) ?_; intro v3 w3 hO_ hK_; have HO3 := hide hO_; have HK3 := hide hK_; clear hO_ hK_) | (refine wp_cat tInt (.tmp 24) (.tmp 28) 23 rfl 3 i0 _ 8 Tryz.underlying23 hi hz0 hz1 hz2 rfl (by decide) (fun b => wr.heap.size ≤ b) (fun _ => False) ([] ++ xs.take k) (xs.drop (k + 1)) _ rfl HO3.out A2 _ (c - (k + 1)) (by simp [Act.eval, Act.put]) HD.out.symm ((HR2.out.mono (w' := w3) (S' := fun _ => True) (fun _ _ => trivial) (fun x hx => (HK3.out.block x (Nat.lt_of_lt_of_le hx (by simp)) (by unfold Old at hx; omega)).trans (Below.heap_alloc _ _ _ hx))).anyInt) (fun _ h => h.elim) (fun b hb => by have := HK3.out.size; simp at this; omega) (by have := HM.out; rw [List.nil_append, HT.out, HD.out]; simp only [maxLen]; omega) (by have := HM.out; rw [List.nil_append, HT.out, HD.out]; omega) ?_; intro v4 w4 hO_ hK_; have HO4 := hide hO_; have HK4 := hide hK_; clear hO_ hK_))
        have HB4 := hide (show Below w.heap.size w w4 from below_only hb ((Only.of_below ((Below.refl _ wr).drew.alloc (by simp) (.cells #[] 3))).trans (HK3.out.trans HK4.out)) hb.size (fun i hi => by have := hb.size; omega))
        have HB41 := hide (show Below wr.heap.size wr w4 from below_only ((Below.refl _ wr).drew.alloc (by simp) (.cells #[] 3)) (HK3.out.trans HK4.out) (by simp) (fun i hi => hi))
        have hO4 := HO4.out
        rw [List.nil_append, HT2.out] at hO4
        obtain ⟨A4, c4, rfl, h41, h42, _⟩ := hO4.sl
        have hlen : (xs.eraseIdx k).length = n := by rw [List.length_eraseIdx_of_lt hlt]; have := HL.out; omega
        have HI := hide (ih (xs.eraseIdx k) A4 c4 w4 hlen (by omega) h41 h42 (by
          obtain ⟨A5, c5, hv5, _, _, hr5⟩ := hO4.sl.mono (w' := w4) (S' := Old w4) (fun b h => h.2) (fun _ _ => rfl)
          injection hv5 with h1 _ _
          subst h1
          exact hr5))
        have HOu := hide (hOu.out.onlyBelow HB41.out)
        have HSu := hide (permsK_succ n xs k)
        have HLk := hide (permsK_len n xs HL.out k hk)
        have HLp := hide (permsI_len n (xs.eraseIdx k) hlen)
        have HLm := hide (fun o => permsI_mem_len n (xs.eraseIdx k) o hlen)
        have HF := hide (fct_le (n := n) (by omega))
        have HGd := hide (show xs.getD k 0 = xs[k] by simp [hlt])
        clear hO4 hOu hlen HO3 HO4 HR1 HR2 HOe hA2 hs
        generalize permsI n (xs.eraseIdx k) = M at HI HSu HLp HLm
        generalize hE : xs.eraseIdx k = E at *
        go_wp2_with fail
        refine HI.out.mono ?_
        rintro e w5 ⟨v5, rfl, hO5, hb5⟩
        obtain ⟨A5, c5, rfl, h51, h52, hR5⟩ := hO5.weakIntS.old
        have hOx := hOu_keep HOu.out (K := fun b => w.heap.size ≤ b ∧ ¬ (w4.heap.size ≤ b ∧ b < w5.heap.size)) hb5 (fun b h => ⟨h.1, fun e => by have := h.2; unfold Old at this; omega⟩)
        have HOx := hide hOx
        have HR5 := hide (hO5.weakIntS.sl)
        have HB5 := hide (HB4.out.trans (hb5.mono HB4.out.size))
        have H45 := hide hb5.size
        have HB4s := hide HB4.out.size
        have hb1 : b < w.heap.size := HLb.out
        have Hrow := hide (fun (W : World) (hW : Only (fun b => w.heap.size ≤ b ∧ ¬ (w4.heap.size ≤ b ∧ b < w5.heap.size)) w5 W) => (HA.out.mono (w' := W) (S' := Old w) (fun _ h => h) (fun x hx => (hW.block x (Nat.lt_of_lt_of_le hx HB5.out.size) (fun h => by have := h.1; unfold Old at hx; omega)).trans (HB5.out.block x hx))))
        have Hmore := hide (fun (W : World) (hW : Only (fun b => w.heap.size ≤ b ∧ ¬ (w4.heap.size ≤ b ∧ b < w5.heap.size)) w5 W) => (HR5.out.mono (w' := W) (S' := New w4 w5) (fun _ h => h) (fun x hx => hW.block x hx.2 (fun h => h.2 ⟨hx.1, hx.2⟩))))
        have hM5 : M.length ≤ 40320 := by have := HLp.out; have := HF.out; omega
        have hq5 : M.length ≤ 9223372036854775807 := by omega
        have HTot : Hid ((permsK n xs k).length + M.length ≤ 9 * 40320) := by
          show _ ≤ _
          have h1 := HLk.out; have h2 := HF.out; have h3 := HM.out
          have h4 : k * fct n ≤ 8 * 40320 := Nat.mul_le_mul (by omega) h2
          omega
        clear hOx hO5 hb5 hR5 HI HOu HB41
        go_wp2_with fail
        obtain ⟨wo, hwo⟩ : ∃ wo : World, wo = wr := ⟨_, rfl⟩
        rw [← hwo] at *
        clear hwo
        go_loopw [3, 7] (fun v j wr => ∃ l : Nat, l ≤ M.length ∧ j = .int .i64 l ∧ Hid (Own (tIntSO 3) 23 wr (fun b => (w.heap.size ≤ b ∧ ¬ (w4.heap.size ≤ b ∧ b < w5.heap.size)) ∧ Old wr b) (permsK n xs k ++ (M.take l).map fun o => xs[k] :: o) v) ∧ Hid (Only (fun b => w.heap.size ≤ b ∧ ¬ (w4.heap.size ≤ b ∧ b < w5.heap.size)) w5 wr)) (fun _ j _ => M.length - (intOf j).toNat)
        case atStart => exact ⟨0, Nat.zero_le _, rfl, by rw [List.take_zero, List.map_nil, List.append_nil]; exact HOx.out, Only.refl _ _⟩
        case round =>
          obtain ⟨l, hl, rfl, hO, hOn⟩ := hrel
          by_cases hlt2 : l < M.length
          · obtain ⟨bx, offx, hbx, hbxo, hcx⟩ := at_Int ((Hrow.out wr hOn.out).mono (w' := wr) (S' := Old wr) (fun x hx => Nat.lt_of_lt_of_le (Nat.lt_of_lt_of_le hx HB5.out.size) hOn.out.size) (fun _ _ => rfl)) (Below.refl _ wr) hlt
            obtain ⟨rfl, rfl⟩ : b = bx ∧ off = offx := by simpa using hbx
            obtain ⟨b6, off6, A6, c6, rfl, hb6, hc6, h61, h62, hR6⟩ := at_IntS ((Hmore.out wr hOn.out).mono (w' := wr) (S' := Old wr) (fun x hx => Nat.lt_of_lt_of_le hx.2 hOn.out.size) (fun _ _ => rfl)).row (Below.refl _ wr) hlt2
            have hzb : b < wr.heap.size := hbxo
            have hzb6 : b6 < wr.heap.size := hb6
            have hl6 := HLm.out M[l] (List.getElem_mem hlt2)
            have hl6' : M[l].length ≤ 8 := by omega
            have HO1 := hide (Own.oneInt (e := 3) wr.drew (S := fun b => wr.heap.size ≤ b ∧ Old (wr.drew.alloc (.cells #[.int .i64 xs[k]] 3)) b) xs[k] ⟨Nat.le_refl _, by simp [Old]⟩)
            have HR6 := hide ((hR6.mono (w' := wr.drew.alloc (.cells #[.int .i64 xs[k]] 3)) (S' := fun _ => True) (fun _ _ => trivial) (fun b hb => Below.heap_alloc _ _ _ hb)).anyInt)
            have HOl := hide (own_lt (B := wr.heap.size) hO.out (fun b h => h.2))
            have HLt := hide (show ∀ p : List Int, p = xs[k] :: M[l] → (permsK n xs k ++ (M.take l).map fun o => xs[k] :: o) ++ [p] = permsK n xs k ++ (M.take (l + 1)).map fun o => xs[k] :: o by
              intro p hp
              rw [List.take_succ_eq_append_getElem hlt2, List.map_append, ← List.append_assoc, hp]
              rfl)
            have HLn := hide (show (permsK n xs k ++ (M.take l).map fun o => xs[k] :: o).length + 1 ≤ 9 * 40320 by
              have h1 := HTot.out; rw [List.length_append, List.length_map, List.length_take]; omega)
            have HOw := hide hO.out
            have HOn := hide hOn.out
            have HOs := hide hOn.out.size
            have Hz5 := hide (show w.heap.size ≤ wr.heap.size from Nat.le_trans HB5.out.size hOn.out.size)
            clear hbxo hb6 hl6 hR6 hO hOn hbx
            go_upto_region 12 with (fail)
            go_region_law (first | (refine wp_cat tInt (.tmp 43) (.tmp 47) 23 rfl 3 i0 _ 8 Tryz.underlying23 hi hz0 hz1 hz2 rfl (by decide) (fun b => wr.heap.size ≤ b) (fun _ => False) [xs[k]] M[l] _ rfl HO1.out A6 _ c6 (by simp [Act.eval, Act.put]) rfl HR6.out (fun _ h => h.elim) (fun b hb => Nat.le_trans (by simp) hb) (by simp only [maxLen, List.length_singleton]; omega) (by simp only [List.length_singleton]; omega) ?_; intro v8 w8 hO_ hK_; obtain ⟨A8, c8, rfl, h81, h82, _⟩ := hO_.sl; have HO8 := hide hO_; have HK8 := hide hK_; clear hO_ hK_) | (refine wp_put (tIntSO 3) (.tmp 38) (.tmp 49) 24 rfl 23 i1 _ 24 Tryz.underlying24 hi1 hz01 hz11 hz21 rfl (by decide) (fun b => w.heap.size ≤ b ∧ ¬ (w4.heap.size ≤ b ∧ b < w5.heap.size)) (fun b => wr.heap.size ≤ b ∧ Old w8 b) _ ([xs[k]] ++ M[l]) [.slice A8 ([xs[k]] ++ M[l]).length c8] _ (by simp [Act.eval, Act.put]) (HOw.out.mono (w' := w8) (S2 := fun b => (w.heap.size ≤ b ∧ ¬ (w4.heap.size ≤ b ∧ b < w5.heap.size)) ∧ Old w8 b) (fun b h => ⟨h.1, by have := HK8.out.size; have := h.2; simp [Old] at *; omega⟩) (fun b h => (HK8.out.block b (Nat.lt_of_lt_of_le h.2 (by simp)) (by have := h.2; unfold Old at this; omega)).trans (Below.heap_alloc _ _ _ h.2))) 1 (by simp [Act.eval, Act.put]) ⟨_, rfl, HO8.out⟩ (fun b h => ⟨⟨Nat.le_trans Hz5.out h.1, fun e => by have := HOs.out; have := h.1; omega⟩, h.2, fun e => by have := HOl.out b e; have := h.1; omega⟩) (fun b hb => by have := HK8.out.size; simp at this; have := HOs.out; have := Hz5.out; exact ⟨by omega, fun e => by omega⟩) (by have := HLn.out; simp only [maxLen]; omega) (by have := HLn.out; omega) ?_; intro v9 w9 hO_ hK_; have HO9 := hide hO_; have HK9 := hide hK_; clear hO_ hK_))
            all_goals
              have HL9 := hide (HLt.out _ rfl : _ = permsK n xs k ++ (M.take (l + 1)).map fun o => xs[k] :: o)
              have HB9 := hide ((Only.of_below (S := fun b => wr.heap.size ≤ b) ((Below.refl _ wr).drew.alloc (by simp) (.cells #[.int .i64 xs[k]] 3))).trans HK8.out)
              go_wp2_with fail
              go_roundw
              case rel => exact ⟨l + 1, by omega, by go_num, (by have h9 := HO9.out; have e9 := HL9.out; exact e9 ▸ h9), (HOn.out.trans (HB9.out.mono (fun b hb => ⟨Nat.le_trans Hz5.out hb, fun e => by have := HOs.out; omega⟩))).trans HK9.out⟩
              case measure => simp [intOf]; omega
          · obtain rfl : l = M.length := by omega
            have HO8 := hide (show Own (tIntSO 3) 23 wr (fun b => w.heap.size ≤ b ∧ Old wr b) (permsK n xs (k + 1)) _ from by
              rw [HSu.out, HGd.out]
              have := hO.out
              rw [List.take_length] at this
              exact this.mono (fun b h => ⟨h.1.1, h.2⟩) (fun _ _ => rfl))
            have HB8 := hide (below_only HB5.out hOn.out HB5.out.size (fun i hi => hi.1))
            clear hO hOn
            go_wp2_with fail
            go_roundw
            case rel => exact ⟨k + 1, by omega, by go_num, HO8.out, HB8.out⟩
            case measure => simp [intOf]; omega
      · obtain rfl : k = xs.length := by omega
        have HP := hide (permsI_succ n xs (by rintro rfl; have := HL.out; simp at this))
        have HB8 := hide hb
        clear hb
        go_wp2_with fail
        go_ret
        exact ⟨_, rfl, by rw [HP.out]; exact hOu.out, HB8.out⟩
end Go.Proofs.YtjiobgfaohldhaaGreat
