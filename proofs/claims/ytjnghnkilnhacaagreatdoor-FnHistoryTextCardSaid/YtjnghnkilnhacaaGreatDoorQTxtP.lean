/- The program's ReadTxn. -/
import Derived.Test.YtjnghnkilnhacaaGreatDoorQDelOp
namespace Go.Proofs.YtjnghnkilnhacaaGreatDoor
open Go.RowKit
set_option linter.unusedVariables false
set_option linter.unusedSimpArgs false

theorem readTL_words {l : Bs} {t : Txn} (h : readTL l = some t) : txnOk t = true ∧ wordsL l = txnW t ∧ txnL t = l := by
  obtain ⟨h1, h2⟩ := readTL_some h
  exact ⟨h1, by rw [← h2, words_txnL h1], h2⟩
theorem sesR_of {t : Txn} (h : txnOk t = true) : sesR (115 :: decL t.Session.toNat) = some t.Session := by
  obtain ⟨_, h2, _⟩ := txnOk_parts' h
  unfold sesR
  simp only
  rw [atoi_dec (by omega)]
  simp only
  congr 1
  omega
theorem readTL_ses {l w0 : Bs} {rest : List Bs} (hw : wordsL l = w0 :: rest) (hs : sesR w0 = none) : readTL l = none := by
  cases hr : readTL l with
  | none => rfl
  | some t =>
    obtain ⟨h1, h2, _⟩ := readTL_words hr
    rw [hw] at h2
    injection h2 with h2 _
    rw [h2, sesR_of h1] at hs
    cases hs
theorem readTL_one {l w0 : Bs} (hw : wordsL l = [w0]) : readTL l = none := by
  cases hr : readTL l with
  | none => rfl
  | some t =>
    obtain ⟨h1, h2, _⟩ := readTL_words hr
    rw [hw] at h2
    injection h2 with _ h2
    cases h2
theorem readTL_op {l w0 b x : Bs} {R : List Bs} (hw : wordsL l = w0 :: b :: R) (hx : x ∈ R) (hr0 : readOpL x = none) : readTL l = none := by
  cases hr : readTL l with
  | none => rfl
  | some t =>
    obtain ⟨h1, h2, _⟩ := readTL_words hr
    rw [hw] at h2
    injection h2 with _ h2
    injection h2 with _ h2
    have h3 := mapM_bad hr0 hx
    rw [h2, mapM_opL (txnOk_parts' h1).1] at h3
    cases h3
/-- The program's reading: the text of what was read must be the text. -/
theorem readTL_via {l w0 b : Bs} {R : List Bs} {sn : Int} {os : List Op} {dn : Bool} (hw : wordsL l = w0 :: b :: R) (hs : sesR w0 = some sn) (hdn : dn = decide (b = [111, 107])) (ho : R.mapM readOpL = some os) :
    readTL l = if (txnB ⟨sn, os, dn⟩).data.toList = l then some ⟨sn, os, dn⟩ else none := by
  by_cases hb : (txnB ⟨sn, os, dn⟩).data.toList = l
  · rw [if_pos hb]
    unfold txnB at hb
    by_cases hok : txnOk ⟨sn, os, dn⟩ = true
    · rw [if_pos hok] at hb
      have h := readTL_of hok
      have hb : txnL ⟨sn, os, dn⟩ = l := hb
      rw [hb] at h
      exact h
    · rw [if_neg hok] at hb
      exfalso
      have hb : ([] : Bs) = l := hb
      rw [← hb] at hw
      simp [wordsL] at hw
  · rw [if_neg hb]
    cases hr : readTL l with
    | none => rfl
    | some t =>
      exfalso
      obtain ⟨h1, h2, h3⟩ := readTL_words hr
      rw [hw] at h2
      unfold txnW at h2
      injection h2 with e1 h2
      injection h2 with e2 e3
      rw [e1, sesR_of h1] at hs
      injection hs with hs
      rw [e3, mapM_opL (txnOk_parts' h1).1] at ho
      injection ho with ho
      have hd : dn = t.Done := by
        rw [hdn, e2]
        cases t.Done <;> rfl
      apply hb
      obtain ⟨s9, o9, d9⟩ := t
      simp only at hs ho hd
      subst hs; subst ho; subst hd
      unfold txnB
      rw [if_pos h1]
      exact h3
theorem opt_get {X : Bs} (h : (readOpL X).isSome = true) : readOpL X = some ((readOpL X).getD ⟨0, 0, 0⟩) := by
  cases hr : readOpL X with
  | none => rw [hr] at h; cases h
  | some o => rfl
theorem opt_not {X : Bs} (h : (readOpL X).isSome = false) : readOpL X = none := by
  cases hr : readOpL X with
  | none => rfl
  | some o => rw [hr] at h; cases h
/-- What is known when the reading has come to operation k. -/
def RdInv (l : Bs) (R : List Bs) (n : Int) (dn : Bool) (k : Nat) (os : List Op) (bd : Bool) : Prop :=
  (bd = true → readTL l = none) ∧ (bd = false → (R.take k).mapM readOpL = some os ∧ ∃ w0 b, wordsL l = w0 :: b :: R ∧ sesR w0 = some n ∧ dn = decide (b = [111, 107]))
theorem RdInv.step {l : Bs} {R : List Bs} {n : Int} {dn : Bool} {k : Nat} {os : List Op} {X : Bs} (h : RdInv l R n dn k os false) (hk : k < R.length) (hX : R[k] = X) :
    RdInv l R n dn (k + 1) (os ++ [(readOpL X).getD ⟨0, 0, 0⟩]) (!(readOpL X).isSome) := by
  obtain ⟨h1, w0, b, h2, h3, h4⟩ := h.2 rfl
  refine ⟨fun e => ?_, fun e => ⟨?_, w0, b, h2, h3, h4⟩⟩
  · have e2 : (readOpL X).isSome = false := by simpa using e
    exact readTL_op h2 (by rw [← hX]; exact List.getElem_mem hk) (opt_not e2)
  · have e2 : (readOpL X).isSome = true := by simpa using e
    rw [List.take_succ_eq_append_getElem hk, hX]
    exact mapM_snoc h1 (opt_get e2)
theorem rdInv0 {l x0 b : Bs} {R : List Bs} {n : Int} {bd dn : Bool} (hw : wordsL l = x0 :: b :: R) (hv : SesV x0 n bd) (hdn : dn = decide (b = [111, 107])) : RdInv l R n dn 0 [] bd := by
  unfold SesV at hv
  cases hs : sesR x0 with
  | some v =>
    rw [hs] at hv
    obtain ⟨rfl, rfl⟩ := hv
    exact ⟨fun e => (by cases e), fun _ => ⟨rfl, x0, b, hw, hs, hdn⟩⟩
  | none =>
    rw [hs] at hv
    subst hv
    exact ⟨fun _ => readTL_ses hw hs, fun e => by cases e⟩
def scnLen (w : World) (B : Nat) : Nat := match w.cell? ⟨B, 0, none⟩ with
  | some (.slice _ n _) => n
  | _ => 0
theorem Scn.len {w : World} {B : Nat} {xs : List ByteArray} {bad : Bool} {S : Nat → Prop} (h : Scn w B xs bad S) : scnLen w B = xs.length := by
  obtain ⟨A, c, h1, _⟩ := h
  unfold scnLen
  have h2 : w.cell? ⟨B, 0, none⟩ = some (.slice A xs.length c) := h1.cell 0
  rw [h2]
set_option maxRecDepth 10000 in
set_option maxHeartbeats 8000000 in
theorem implReadTxn (s : ByteArray) (w : World) (hs : s.size ≤ 4294967280) (hE : ErrOk w) : Calls Tryz.prog 28 #[.string s] w fun e w' => ∃ v g, e = .returned (.tuple #[.agg #[.int .i64 (rdT s.data.toList).Session, v, .bool (rdT s.data.toList).Done], .bool (readTL s.data.toList).isSome]) ∧ Hold tOp 46 w' (New w w') (rdT s.data.toList).Ops v g ∧ New w w' g ∧ Below w.heap.size w w' := by
  obtain ⟨i0, hi, hz0, hz1, hz2⟩ := info_parts infoOpT
  have HE := hide (fun W (hb : Below w.heap.size w W) => hE.below hb)
  have HX0 := hide (Blk.new w 41 #[.int .i64 0, .slice none 0 0, .bool false])
  have HB0 := hide ((Below.refl _ w).alloc (Nat.le_refl _) (.cells #[.int .i64 0, .slice none 0 0, .bool false] 41))
  have hz9 : w.heap.size < (w.alloc (.cells #[.int .i64 0, .slice none 0 0, .bool false] 41)).heap.size := by simp
  have HNo := hide (fun (h : readTL s.data.toList = none) (W : World) (hW : w.heap.size < W.heap.size) => show (Ending.returned (.tuple #[.agg #[.int .i64 0, .slice none 0 0, .bool false], .bool false]) = .returned (.tuple #[.agg #[.int .i64 (rdT s.data.toList).Session, (.slice none 0 0 : Value), .bool (rdT s.data.toList).Done], .bool (readTL s.data.toList).isSome])) ∧ Hold tOp 46 W (New w W) (rdT s.data.toList).Ops (.slice none 0 0) w.heap.size ∧ New w W w.heap.size from by
    unfold rdT; rw [h]
    exact ⟨rfl, ⟨none, 0, rfl, Nat.le_refl _, by simp [maxLen], fun h => absurd h (by simp)⟩, Nat.le_refl _, hW⟩)
  have HSp := hide (fun W (hb : Below w.heap.size w W) => split_any s ⟨#[32]⟩ W (hE.below hb) (by omega) (by decide))
  have HSs := hide hs
  have HSl := hide (ByteArray.toList_eq s)
  clear hE hs
  go_enter Tryz.func28, Tryz.ntmps28
  go_upto_region 1 with fail
  generalize w.alloc _ = w1 at HB0 HX0 hz9 ⊢
  go_upto_region 2 with (go_at_call 53; refine (HSp.out _ HB0.out).mono ?_; rintro e w2 ⟨xs, v, rfl, hL, hSl, hb⟩; obtain ⟨A, c, rfl, hle, hcm, hR⟩ := hSl; have HL := hide (hL.trans (split_words _)); have HR := hide hR; have HXs := hide (HX0.out.below hb HX0.out.lt); have HB2 := hide (HB0.out.trans (hb.mono HB0.out.size)); have HC := hide (And.intro hle hcm); have h12 := hb.size; clear hL hR hb hle hcm)
  have HS3 := hide (show Scn (w2.alloc (.cells #[.slice A xs.length c, .bool false] 83)) w2.heap.size xs false (New w1 w2) from ⟨A, c, Blk.new _ _ _, HC.out.1, HC.out.2, HR.out.mono (fun _ h => h) (fun b hb => Below.heap_alloc _ _ _ hb.2)⟩)
  have HX3 := hide (HXs.out.alloc (.cells #[.slice A xs.length c, .bool false] 83))
  have HB3 := hide (HB2.out.alloc HB2.out.size (.cells #[.slice A xs.length c, .bool false] 83))
  generalize w2.alloc _ = w3 at HS3 HX3 HB3 ⊢
  have HSa := hide (show ∀ b, New w1 w2 b → b ≠ w2.heap.size by intro b hb e; have := hb.2; omega)
  have HSb := hide (show ∀ b, New w1 w2 b → b < w2.heap.size from fun b hb => hb.2)
  have hrB : w.heap.size < w2.heap.size := by omega
  clear HX0 HB0 HR HXs HC h12 hz9 HSp
  generalize hBe : w2.heap.size = B at HS3 HSa HSb hrB ⊢
  generalize New w1 w2 = S at HS3 HSa HSb
  clear hBe
  have HEo := hide (fun W (ho : Only (fun b => b = B) w3 W) => HE.out W (below_only HB3.out ho HB3.out.size (fun i hi => by have h5 := hrB; have hi : i = B := hi; omega)))
  obtain ⟨x0, xr, hxs⟩ : ∃ x0 xr, xs = x0 :: xr := by
    cases xs with
    | nil => have h := HL.out; exact absurd h.symm (wordsL_ne _)
    | cons a b => exact ⟨a, b, rfl⟩
  subst hxs
  have HWl := hide (fun (X : ByteArray) (hX : X ∈ x0 :: xr) => show X.size ≤ 4294967280 from by
    have h1 : X.data.toList ∈ wordsL s.data.toList := by rw [← HL.out]; exact List.mem_map.2 ⟨X, hX, rfl⟩
    have h3 := wordsL_le _ _ h1
    have h4 : s.size = s.data.toList.length := by rw [Array.length_toList]; rfl
    have h5 := HSs.out
    rw [ba_size rfl]
    omega)
  have HSe := hide (session_any x0 xr S B w3 HS3.out HSa.out (fun b hb => Nat.lt_trans (HSb.out b hb) HS3.out.lt) (HEo.out _ (Only.refl _ _)) HEo.out (by have := HWl.out x0 List.mem_cons_self; omega))
  have HXl := hide (show (x0 :: xr).length ≤ 4294967281 by
    have h := congrArg List.length HL.out
    rw [List.length_map] at h
    have h1 := wordsL_len s.data.toList
    have h2 : s.size = s.data.toList.length := by rw [Array.length_toList]; rfl
    have h3 := HSs.out
    rw [h]; omega)
  by_cases hxr : xr = []
  · subst hxr
    obtain ⟨b, hb⟩ : ∃ b : ByteArray, b = ⟨#[]⟩ := ⟨_, rfl⟩
    have hok : ¬ b.data.toList = [111, 107] := by rw [hb]; simp
    have HBl := hide (ByteArray.toList_eq b)
    have HNb := hide (fun (W : World) (bd : Bool) (h : Scn W B [] bd S) => show Calls Tryz.prog 55 #[.pointer (some ⟨B, 0, none⟩)] W fun e w' => e = .returned (.string b) ∧ Scn w' B [] true S ∧ Only (fun k => k = B) W w' from by rw [hb]; exact next_none bd S B W h HSa.out)
    clear hb
    have b1 : (b.toList == [111, 107]) = false := by rw [beq_eq_false_iff_ne, HBl.out]; exact hok
    have b2 : (b.toList == ByteArray.toList ⟨#[111, 107]⟩) = false := by rw [beq_eq_false_iff_ne, HBl.out, ByteArray.toList_eq]; exact hok
    have b5 : ¬ b.toList = [111, 107] := by rw [HBl.out]; exact hok
    have b6 : ¬ b.toList = ByteArray.toList ⟨#[111, 107]⟩ := by rw [HBl.out, ByteArray.toList_eq]; exact hok
    clear hok
    go_upto_region 3 with (first | (go_at_call 54; refine HSe.out.mono ?_; rintro e w4 ⟨n, bd, rfl, hS4, ho4, hV⟩; have HS4 := hide hS4; have HO4 := hide ho4; have HV := hide hV; clear hS4 ho4 hV) | (go_at_call 55; refine (HNb.out _ bd HS4.out).mono ?_; rintro e w5 ⟨rfl, hS5, ho5⟩; have HS5 := hide hS5; have HO5 := HO4.out.trans ho5; have HB5 := hide (below_only HB3.out HO5 HB3.out.size (fun i hi => by have h5 := hrB; have hi : i = B := hi; omega)); have HX5 := hide (HX3.out.of (HO5.block _ HX3.out.lt (Nat.ne_of_lt hrB))); clear hS5 ho5 HO5))
    have HP6 := hide (Blk.new w5 41 #[.int .i64 n, .slice none 0 0, .bool false])
    have HS6 := hide (HS5.out.keep (Below.heap_alloc w5 (.cells #[.int .i64 n, .slice none 0 0, .bool false] 41) _ HS5.out.lt) (fun b hb => Below.heap_alloc w5 _ _ (Nat.lt_trans (HSb.out b hb) HS5.out.lt)))
    have HB6 := hide (HB5.out.alloc HB5.out.size (.cells #[.int .i64 n, .slice none 0 0, .bool false] 41))
    have HX6 := hide (HX5.out.alloc (.cells #[.int .i64 n, .slice none 0 0, .bool false] 41))
    have h56 : w5.heap.size < (w5.alloc (.cells #[.int .i64 n, .slice none 0 0, .bool false] 41)).heap.size := by simp
    have hB5 : B < w5.heap.size := HS5.out.lt
    generalize w5.alloc _ = w6 at HP6 HS6 HB6 HX6 h56 ⊢
    generalize w5.heap.size = p at HP6 h56 hB5 ⊢
    have HI0 := hide (show RdInv s.data.toList (([] : List ByteArray).map (·.data.toList)) n false 0 [] true from ⟨fun _ => readTL_one HL.out.symm, fun e => by cases e⟩)
    obtain ⟨R, hR⟩ : ∃ R : List ByteArray, R = [] := ⟨_, rfl⟩
    rw [← hR] at HI0 HS6
    have HRl := hide (show ∀ X, X ∈ R → X.size ≤ 4294967280 from fun X hX => by rw [hR] at hX; cases hX)
    clear HWl HL HV HSe
    have HRn := hide (show R.length ≤ 4294967281 by have h5 := HXl.out; rw [hR]; simp only [List.length_cons, List.length_nil] at h5 ⊢; omega)
    clear hR HXl
    go_loopw [6, 7] (fun _ _ wr => ∃ (k : Nat) (os : List Op) (u : Value) (bd : Bool), k ≤ R.length ∧ os.length = k ∧ Hid (RdInv s.data.toList (R.map (·.data.toList)) n false k os bd) ∧ Hid (Scn wr B (R.drop k) bd S) ∧ Hid (Blk wr p 41 #[.int .i64 n, u, .bool false]) ∧ Hid (Own tOp 46 wr (fun b => w6.heap.size ≤ b ∧ Old wr b) os u) ∧ Hid (Below w.heap.size w wr) ∧ Hid (w6.heap.size ≤ wr.heap.size) ∧ Hid (Blk wr w.heap.size 41 #[.int .i64 0, .slice none 0 0, .bool false])) (fun _ _ wr => scnLen wr B)
    case atStart => exact ⟨0, [], _, _, Nat.zero_le _, rfl, HI0.out, HS6.out, HP6.out, Own.nil_, HB6.out, Nat.le_refl _, HX6.out⟩
    case round =>
      obtain ⟨k, os, u, bd, hkR, hok, hI, hSc, hP, hO, hB, hSz, hX⟩ := hrel
      have HI := hide hI.out; have HSc := hide hSc.out; have HP := hide hP.out; have HOs := hide hO.out; have HBr := hide hB.out; have HSz := hide hSz.out; have HXr := hide hX.out
      have HOk := hide hok
      clear hI hSc hP hO hB hSz hX HI0 HS6 HP6 HB6 HX6 hok
      obtain ⟨A1, c1, rfl, hA1, hA2, hA3⟩ := HOs.out.sl
      have HA1 := hide hA1; have HA2 := hide hA2; have HA3 := hide hA3
      clear hA1 hA2 hA3
      obtain ⟨As, cs, hs1, hs2, hs3, hs4⟩ := HSc.out
      have x0 := hs1.cell 0; have x1 := hs1.cell 1
      simp only [List.getElem?_toArray, List.getElem?_cons_zero, List.getElem?_cons_succ] at x0 x1
      clear hs1 hs2 hs3 hs4
      have HLn := hide HSc.out.len
      cases bd with
      | true =>
        have HR := hide (HNo.out (HI.out.1 rfl))
        have u0 := HXr.out.cell 0; have u1 := HXr.out.cell 1; have u2 := HXr.out.cell 2; have v0 := HXr.out.frozen 0; have v1 := HXr.out.frozen 1; have v2 := HXr.out.frozen 2
        simp only [List.getElem?_toArray, List.getElem?_cons_zero, List.getElem?_cons_succ] at u0 u1 u2
        have hwr : w.heap.size < wr.heap.size := HXr.out.lt
        go_wp2_with fail
        refine bodyPost_ret (v := .tuple #[.agg #[.int .i64 0, .slice none 0 0, .bool false], .bool false]) (by simp [results, Tryz.results28, go_sem, u0, u1, u2]) rfl ⟨_, _, (HR.out w6 (by omega)).1, (HR.out _ (by simp [World.setCell]; omega)).2.1, (HR.out _ (by simp [World.setCell]; omega)).2.2, ?_⟩
        repeat (first | refine Below.setCell ?_ (by simp; try omega) _ | exact HBr.out)
      | false =>
        by_cases hlt : k < R.length
        · obtain ⟨m, hm⟩ : ∃ m, m = (R.drop k).length := ⟨_, rfl⟩
          have hm0 : (0 : Int) < (m : Int) := by rw [hm, List.length_drop]; omega
          rw [← hm] at x0
          have HM := hide hm
          clear hm
          obtain ⟨X, hX⟩ : ∃ X, X = R[k] := ⟨_, rfl⟩
          have hdr : R.drop k = X :: R.drop (k + 1) := by rw [List.drop_eq_getElem_cons hlt, hX]
          have HNx := next_some X (R.drop (k + 1)) false S B wr (by rw [← hdr]; exact HSc.out) HSa.out
          have HNx := hide HNx
          have HXs := hide (HRl.out X (by rw [hX]; exact List.getElem_mem hlt))
          have HSt := hide (HI.out.step (X := X.data.toList) (by rw [List.length_map]; exact hlt) (by rw [List.getElem_map, hX]))
          have HM3 := hide (show (R.drop (k + 1)).length < (R.drop k).length by rw [hdr]; simp)
          obtain ⟨o9, ho9⟩ : ∃ o9, o9 = (readOpL X.data.toList).getD ⟨0, 0, 0⟩ := ⟨_, rfl⟩
          obtain ⟨ok9, hok9⟩ : ∃ ok9, ok9 = (readOpL X.data.toList).isSome := ⟨_, rfl⟩
          have hrv : readOV X.data.toList = .tuple #[.agg #[.int .i64 o9.Kind, .int .i64 o9.Key, .int .i64 o9.Value], .bool ok9] := by rw [ho9, hok9]; rfl
          rw [← ho9, ← hok9] at HSt
          have HRo := hide (fun W (hE : ErrOk W) => implReadOp X W (by have := HXs.out; omega) hE)
          rw [hrv] at HRo
          have HK1 := hide (show k + 1 ≤ R.length ∧ (os ++ [o9]).length = k + 1 by rw [List.length_append, HOk.out]; exact ⟨hlt, rfl⟩)
          have HL1 := hide (show os.length + 1 ≤ maxLen by have := HRn.out; rw [HOk.out]; simp only [maxLen]; omega)
          have HL2 := hide (show (os.length + 1) * 24 ≤ 140737488355328 by have := HRn.out; rw [HOk.out]; omega)
          have HK2 := hide (show ∀ i, w6.heap.size ≤ i → w.heap.size ≤ i by intro i hi; omega)
          have HNp := hide (show ¬ w6.heap.size ≤ p by omega)
          have HNB := hide (show ¬ w6.heap.size ≤ B ∧ B ≠ p ∧ w.heap.size ≤ B ∧ w.heap.size ≤ p ∧ w.heap.size ≠ B ∧ w.heap.size ≠ p ∧ ¬ w6.heap.size ≤ w.heap.size ∧ p < w6.heap.size by omega)
          have HSn := hide (show ∀ b, S b → ¬ w6.heap.size ≤ b ∧ b ≠ p by intro b hb; have := HSb.out b hb; omega)
          clear hX hdr hrv ho9 hok9 hlt
          go_upto_region 5 with (first | (go_at_call 55; refine HNx.out.mono ?_; rintro e w7 ⟨rfl, hS7, ho7⟩; have HS7 := hide hS7; have HB7 := hide (below_only HBr.out ho7 HBr.out.size (fun i hi => by have h5 := HNB.out.2.2.1; have hi : i = B := hi; omega)); have HP7 := hide (HP.out.of (ho7.block _ HP.out.lt (fun e => HNB.out.2.1 e.symm))); have HX7 := hide (HXr.out.of (ho7.block _ HXr.out.lt HNB.out.2.2.2.2.1)); have HO7 := hide ((HOs.out.only ho7 (fun b hb => ⟨hb.2, fun e => by have h5 := HNB.out.1; have h6 := hb.1; have e : b = B := e; omega⟩)).mono (S2 := fun b => w6.heap.size ≤ b ∧ Old w7 b) (fun b hb => ⟨hb.1, Nat.lt_of_lt_of_le hb.2 ho7.size⟩) (fun _ _ => rfl)); have HZ7 := hide (Nat.le_trans HSz.out ho7.size); clear hS7 ho7) | (go_at_call 56; refine (HRo.out _ (HE.out _ HB7.out)).mono ?_; rintro e w8 ⟨rfl, hb8⟩; have HS8 := hide (HS7.out.keep (hb8.block _ HS7.out.lt) (fun b hb => hb8.block _ (Nat.lt_trans (HSb.out b hb) HS7.out.lt))); have HB8 := hide (HB7.out.trans (hb8.mono HB7.out.size)); have HP8 := hide (HP7.out.below hb8 HP7.out.lt); have HX8 := hide (HX7.out.below hb8 HX7.out.lt); have HO8 := hide (HO7.out.onlyBelow hb8); have HZ8 := hide (Nat.le_trans HZ7.out hb8.size); clear hb8))
          have HQ9 := hide (Blk.new w8 46 #[.int .i64 o9.Kind, .int .i64 o9.Key, .int .i64 o9.Value])
          have HS9 := hide (HS8.out.keep (Below.heap_alloc w8 (.cells #[.int .i64 o9.Kind, .int .i64 o9.Key, .int .i64 o9.Value] 46) _ HS8.out.lt) (fun b hb => Below.heap_alloc w8 _ _ (Nat.lt_trans (HSb.out b hb) HS8.out.lt)))
          have HB9 := hide (HB8.out.alloc HB8.out.size (.cells #[.int .i64 o9.Kind, .int .i64 o9.Key, .int .i64 o9.Value] 46))
          have HP9 := hide (HP8.out.alloc (.cells #[.int .i64 o9.Kind, .int .i64 o9.Key, .int .i64 o9.Value] 46))
          have HX9 := hide (HX8.out.alloc (.cells #[.int .i64 o9.Kind, .int .i64 o9.Key, .int .i64 o9.Value] 46))
          have HO9 := hide (HO8.out.onlyBelow ((Below.refl w8.heap.size w8).alloc (Nat.le_refl _) (.cells #[.int .i64 o9.Kind, .int .i64 o9.Key, .int .i64 o9.Value] 46)))
          have HZ9 := hide (show w6.heap.size ≤ (w8.alloc (.cells #[.int .i64 o9.Kind, .int .i64 o9.Key, .int .i64 o9.Value] 46)).heap.size by have := HZ8.out; simp; omega)
          have hq9 : w8.heap.size ≠ B := by have := HS8.out.lt; omega
          clear HS7 HS8 HB7 HB8 HP7 HP8 HX7 HX8 HO7 HO8 HZ7 HZ8
          generalize w8.alloc _ = w9 at HQ9 HS9 HB9 HP9 HX9 HO9 HZ9 ⊢
          generalize w8.heap.size = q at HQ9 hq9 ⊢
          obtain ⟨As9, cs9, hs1, hs2, hs3, hs4⟩ := HS9.out
          have y1 := hs1.cell 1; have y2 := hs1.frozen 1
          simp only [List.getElem?_toArray, List.getElem?_cons_zero, List.getElem?_cons_succ] at y1
          clear hs1 hs2 hs3 hs4
          go_upto_region 6 with fail
          have HS10 := hide (HS9.out.setBad HSa.out (!ok9))
          have HB10 := hide (HB9.out.setCell (p := ⟨B, 1, none⟩) HNB.out.2.2.1 (.bool (!ok9)))
          have HP10 := hide (HP9.out.far (p := ⟨B, 1, none⟩) (fun e => HNB.out.2.1 e.symm) (.bool (!ok9)))
          have HX10 := hide (HX9.out.far (p := ⟨B, 1, none⟩) HNB.out.2.2.2.2.1 (.bool (!ok9)))
          have HQ10 := hide (HQ9.out.far (p := ⟨B, 1, none⟩) hq9 (.bool (!ok9)))
          have HO10 := hide (ownLow (i := 1) HO9.out (Nat.lt_of_not_le HNB.out.1) (.bool (!ok9)))
          have HZ10 := hide (show w6.heap.size ≤ (w9.setCell ⟨B, 1, none⟩ (.bool (!ok9))).heap.size by have := HZ9.out; simpa [World.setCell] using this)
          clear HS9 HB9 HP9 HX9 HQ9 HO9 HZ9 hq9 y1 y2
          generalize w9.setCell _ _ = w10 at HS10 HB10 HP10 HX10 HQ10 HO10 HZ10 ⊢
          have q0 := HQ10.out.cell 0; have q1 := HQ10.out.cell 1; have q2 := HQ10.out.cell 2
          have p1 := HP10.out.cell 1
          simp only [List.getElem?_toArray, List.getElem?_cons_zero, List.getElem?_cons_succ] at q0 q1 q2 p1
          go_wp2_with (at_builtin; refine wpList_put tOp rfl (.tmp 43) (.tmp 45) 39 rfl 46 i0 _ 24 Tryz.underlying39 hi hz0 hz1 hz2 rfl (by decide) (fun b => w6.heap.size ≤ b) (fun _ => False) os o9 _ _ rfl HO10.out _ rfl rfl (fun _ h => h.elim) (fun b hb => Nat.le_trans HZ10.out hb) HL1.out HL2.out ?_; intro v11 w11 hO11 hK11; obtain ⟨A11, c11, rfl, _, _, _⟩ := hO11.sl; rw [List.length_append, List.length_singleton] at hO11; have HO11 := hide hO11; have HB11 := hide (below_only HB10.out hK11 HB10.out.size HK2.out); have HP11 := hide (HP10.out.of (hK11.block _ HP10.out.lt HNp.out)); have HX11 := hide (HX10.out.of (hK11.block _ HX10.out.lt HNB.out.2.2.2.2.2.2.1)); have HS12 := hide (fun u => (HS10.out.keep (hK11.block _ HS10.out.lt HNB.out.1) (fun b hb => hK11.block _ (Nat.lt_trans (HSb.out b hb) HS10.out.lt) (HSn.out b hb).1)).keep (Below.heap_setCell w11 ⟨p, 1, none⟩ u B HNB.out.2.1) (fun b hb => Below.heap_setCell w11 ⟨p, 1, none⟩ u b (HSn.out b hb).2)); have HZ11 := hide (Nat.le_trans HZ10.out hK11.size); have z1 := HP11.out.cell 1; have f1 := HP11.out.frozen 1; simp only [List.getElem?_toArray, List.getElem?_cons_zero, List.getElem?_cons_succ] at z1; clear hO11 hK11 p1)
          go_roundw
          case rel => exact ⟨k + 1, os ++ [o9], _, !ok9, HK1.out.1, HK1.out.2, HSt.out, HS12.out _, HP11.out.set_ 1 _, ownLow HO11.out HNB.out.2.2.2.2.2.2.2 _, HB11.out.setCell HNB.out.2.2.2.1 _, by simp [World.setCell]; exact HZ11.out, HX11.out.far HNB.out.2.2.2.2.2.1 _⟩
          case measure =>
            rw [(HS12.out _).len, HLn.out]
            exact HM3.out
        · obtain ⟨m, hm⟩ : ∃ m, m = (R.drop k).length := ⟨_, rfl⟩
          have hm0 : ¬ (0 : Int) < (m : Int) := by rw [hm, List.length_drop]; omega
          rw [← hm] at x0
          have HLw := hide (show readTL s.data.toList = if (txnB ⟨n, os, false⟩).data.toList = s.data.toList then some ⟨n, os, false⟩ else none from by
            obtain ⟨h1, w0, b9, h2, h3, h4⟩ := HI.out.2 rfl
            rw [List.take_of_length_le (by rw [List.length_map]; omega)] at h1
            exact readTL_via h2 h3 h4 h1)
          clear hm hlt
          have HTt := implTxnText ⟨n, os, false⟩ A1 c1 wr (Nat.le_trans HA1.out HA2.out) (HA3.out.mono (fun b h => h.2) (fun _ _ => rfl))
          have HCt := hide (fun (W : World) (hb : Below wr.heap.size wr W) (hl : os.length ≤ 1048576) => copyTxn ⟨n, os, false⟩ A1 c1 W hl ((HA3.out.mono (S' := Old wr) (fun b h => h.2) (fun _ _ => rfl)).old hb))
          obtain ⟨T, hT⟩ : ∃ T : ByteArray, T = txnB ⟨n, os, false⟩ := ⟨_, rfl⟩
          rw [← hT] at HTt HLw
          have HTt := hide HTt
          have HTl := hide (ByteArray.toList_eq T)
          have t0 := HP.out.cell 0; have t1 := HP.out.cell 1; have t2 := HP.out.cell 2
          simp only [List.getElem?_toArray, List.getElem?_cons_zero, List.getElem?_cons_succ] at t0 t1 t2
          have hwp : w.heap.size < wr.heap.size := HXr.out.lt
          clear hT
          by_cases hd : T.data.toList = s.data.toList
          · have g1 : (T.toList == s.toList) = true := by rw [beq_iff_eq, HTl.out, HSl.out, hd]
            have g2 : T.toList = s.toList := by rw [HTl.out, HSl.out, hd]
            have g3 : (T.toList != s.toList) = false := by rw [bne_eq_false_iff_eq, g2]
            have HRr := hide (show readTL s.data.toList = some ⟨n, os, false⟩ by rw [HLw.out, if_pos hd])
            have HTe := hide (show (∀ v : Value, Ending.returned (.tuple #[.agg #[.int .i64 n, v, .bool false], .bool true]) = .returned (.tuple #[.agg #[.int .i64 (rdT s.data.toList).Session, v, .bool (rdT s.data.toList).Done], .bool (readTL s.data.toList).isSome])) ∧ (rdT s.data.toList).Ops = os by unfold rdT; rw [HRr.out]; exact ⟨fun _ => rfl, rfl⟩)
            have HO6 := hide (show os.length ≤ 1048576 by
              have h := (txnOk_parts' (readTL_some HRr.out).1).2.2
              have h : os.length ≤ 6 := h
              omega)
            clear hd
            go_wp2_with (first | (go_at_call 21; refine HTt.out.mono ?_; rintro e wt ⟨rfl, hbt⟩; have HBt := hide hbt; have HPt := HP.out.below hbt HP.out.lt; have HXt := hide (HXr.out.below hbt HXr.out.lt); have s0 := HPt.cell 0; have s1 := HPt.cell 1; have s2 := HPt.cell 2; simp only [List.getElem?_toArray, List.getElem?_cons_zero, List.getElem?_cons_succ] at s0 s1 s2; clear hbt HPt t0 t1 t2) | (go_at_call 57; refine (HCt.out _ HBt.out HO6.out).mono ?_; rintro e wc ⟨vc, gc, rfl, hHc, hgc, hbc⟩; have hHd := hHc; obtain ⟨Ac, cc, hvc, _⟩ := hHd; subst hvc; have HHc := hide hHc; have HGc := hide hgc; have HBc := hide ((HBr.out.trans (HBt.out.mono HBr.out.size)).trans (hbc.mono (Nat.le_trans HBr.out.size HBt.out.size))); have HXc := HXt.out.below hbc HXt.out.lt; have hwc := hbc.size; have hwt := HBt.out.size; have u0 := HXc.cell 0; have u1 := HXc.cell 1; have u2 := HXc.cell 2; have v0 := HXc.frozen 0; have v1 := HXc.frozen 1; have v2 := HXc.frozen 2; simp only [List.getElem?_toArray, List.getElem?_cons_zero, List.getElem?_cons_succ] at u0 u1 u2; clear hHc hgc hbc HXc s0 s1 s2))
            refine bodyPost_ret (v := .tuple #[.agg #[.int .i64 n, .slice Ac os.length cc, .bool false], .bool true]) (by simp [results, Tryz.results28, go_sem, u0, u1, u2]) rfl ⟨_, gc, HTe.out.1 _, ?_, ?_, ?_⟩
            · rw [HTe.out.2]
              exact HHc.out.mono (fun b hb => ⟨by have h5 := hb.1; omega, by have := hb.2; simpa [World.setCell] using this⟩) (fun b hb => by
                have h5 := hb.1
                rw [Below.heap_setCell _ _ _ _ (by simp only; omega), Below.heap_setCell _ _ _ _ (by simp only; omega), Below.heap_setCell _ _ _ _ (by simp only; omega)])
            · exact ⟨by have h5 := HGc.out.1; omega, by have := HGc.out.2; simpa [World.setCell] using this⟩
            · repeat (first | refine Below.setCell ?_ (by simp; try omega) _ | exact HBc.out)
          · have g1 : (T.toList == s.toList) = false := by rw [beq_eq_false_iff_ne, HTl.out, HSl.out]; exact hd
            have g2 : ¬ T.toList = s.toList := by rw [HTl.out, HSl.out]; exact hd
            have g3 : (T.toList != s.toList) = true := by rw [bne_iff_ne]; exact g2
            have HR := hide (HNo.out (show readTL s.data.toList = none by rw [HLw.out, if_neg hd]))
            clear hd
            go_wp2_with (go_at_call 21; refine HTt.out.mono ?_; rintro e wt ⟨rfl, hbt⟩; have HBt := hide (HBr.out.trans (hbt.mono HBr.out.size)); have HXt := HXr.out.below hbt HXr.out.lt; have hwt := hbt.size; have u0 := HXt.cell 0; have u1 := HXt.cell 1; have u2 := HXt.cell 2; have v0 := HXt.frozen 0; have v1 := HXt.frozen 1; have v2 := HXt.frozen 2; simp only [List.getElem?_toArray, List.getElem?_cons_zero, List.getElem?_cons_succ] at u0 u1 u2; clear hbt HXt t0 t1 t2)
            refine bodyPost_ret (v := .tuple #[.agg #[.int .i64 0, .slice none 0 0, .bool false], .bool false]) (by simp [results, Tryz.results28, go_sem, u0, u1, u2]) rfl ⟨_, _, (HR.out wr hwp).1, (HR.out _ (by simp [World.setCell]; omega)).2.1, (HR.out _ (by simp [World.setCell]; omega)).2.2, ?_⟩
            repeat (first | refine Below.setCell ?_ (by simp; try omega) _ | exact HBt.out)
  · obtain ⟨b, R0, hbR⟩ : ∃ b R0, xr = b :: R0 := by
      cases xr with
      | nil => exact absurd rfl hxr
      | cons a r => exact ⟨a, r, rfl⟩
    subst hbR
    clear hxr
    have HBl := hide (ByteArray.toList_eq b)
    have HNb := hide (fun (W : World) (bd : Bool) (h : Scn W B (b :: R0) bd S) => next_some b R0 bd S B W h HSa.out)
    by_cases hok : b.data.toList = [111, 107]
    · have b1 : (b.toList == [111, 107]) = true := by rw [beq_iff_eq, HBl.out]; exact hok
      have b2 : (b.toList == ByteArray.toList ⟨#[111, 107]⟩) = true := by rw [beq_iff_eq, HBl.out, ByteArray.toList_eq]; exact hok
      have b5 : b.toList = [111, 107] := by rw [HBl.out]; exact hok
      have b6 : b.toList = ByteArray.toList ⟨#[111, 107]⟩ := by rw [HBl.out, ByteArray.toList_eq]; exact hok
      have HDn := hide (show true = decide (b.data.toList = [111, 107]) by rw [hok]; rfl)
      clear hok
      go_upto_region 3 with (first | (go_at_call 54; refine HSe.out.mono ?_; rintro e w4 ⟨n, bd, rfl, hS4, ho4, hV⟩; have HS4 := hide hS4; have HO4 := hide ho4; have HV := hide hV; clear hS4 ho4 hV) | (go_at_call 55; refine (HNb.out _ bd HS4.out).mono ?_; rintro e w5 ⟨rfl, hS5, ho5⟩; have HS5 := hide hS5; have HO5 := HO4.out.trans ho5; have HB5 := hide (below_only HB3.out HO5 HB3.out.size (fun i hi => by have h5 := hrB; have hi : i = B := hi; omega)); have HX5 := hide (HX3.out.of (HO5.block _ HX3.out.lt (Nat.ne_of_lt hrB))); clear hS5 ho5 HO5))
      have HP6 := hide (Blk.new w5 41 #[.int .i64 n, .slice none 0 0, .bool true])
      have HS6 := hide (HS5.out.keep (Below.heap_alloc w5 (.cells #[.int .i64 n, .slice none 0 0, .bool true] 41) _ HS5.out.lt) (fun b hb => Below.heap_alloc w5 _ _ (Nat.lt_trans (HSb.out b hb) HS5.out.lt)))
      have HB6 := hide (HB5.out.alloc HB5.out.size (.cells #[.int .i64 n, .slice none 0 0, .bool true] 41))
      have HX6 := hide (HX5.out.alloc (.cells #[.int .i64 n, .slice none 0 0, .bool true] 41))
      have h56 : w5.heap.size < (w5.alloc (.cells #[.int .i64 n, .slice none 0 0, .bool true] 41)).heap.size := by simp
      have hB5 : B < w5.heap.size := HS5.out.lt
      generalize w5.alloc _ = w6 at HP6 HS6 HB6 HX6 h56 ⊢
      generalize w5.heap.size = p at HP6 h56 hB5 ⊢
      have HI0 := hide (show RdInv s.data.toList (R0.map (·.data.toList)) n true 0 [] bd from rdInv0 HL.out.symm HV.out HDn.out)
      obtain ⟨R, hR⟩ : ∃ R : List ByteArray, R = R0 := ⟨_, rfl⟩
      rw [← hR] at HI0 HS6
      have HRl := hide (show ∀ X, X ∈ R → X.size ≤ 4294967280 from fun X hX => HWl.out X (by rw [hR] at hX; exact List.mem_cons_of_mem _ (List.mem_cons_of_mem _ hX)))
      clear HWl HL HV HSe
      have HRn := hide (show R.length ≤ 4294967281 by have h5 := HXl.out; rw [hR]; simp only [List.length_cons, List.length_nil] at h5 ⊢; omega)
      clear hR HXl
      go_loopw [6, 7] (fun _ _ wr => ∃ (k : Nat) (os : List Op) (u : Value) (bd : Bool), k ≤ R.length ∧ os.length = k ∧ Hid (RdInv s.data.toList (R.map (·.data.toList)) n true k os bd) ∧ Hid (Scn wr B (R.drop k) bd S) ∧ Hid (Blk wr p 41 #[.int .i64 n, u, .bool true]) ∧ Hid (Own tOp 46 wr (fun b => w6.heap.size ≤ b ∧ Old wr b) os u) ∧ Hid (Below w.heap.size w wr) ∧ Hid (w6.heap.size ≤ wr.heap.size) ∧ Hid (Blk wr w.heap.size 41 #[.int .i64 0, .slice none 0 0, .bool false])) (fun _ _ wr => scnLen wr B)
      case atStart => exact ⟨0, [], _, _, Nat.zero_le _, rfl, HI0.out, HS6.out, HP6.out, Own.nil_, HB6.out, Nat.le_refl _, HX6.out⟩
      case round =>
        obtain ⟨k, os, u, bd, hkR, hok, hI, hSc, hP, hO, hB, hSz, hX⟩ := hrel
        have HI := hide hI.out; have HSc := hide hSc.out; have HP := hide hP.out; have HOs := hide hO.out; have HBr := hide hB.out; have HSz := hide hSz.out; have HXr := hide hX.out
        have HOk := hide hok
        clear hI hSc hP hO hB hSz hX HI0 HS6 HP6 HB6 HX6 hok
        obtain ⟨A1, c1, rfl, hA1, hA2, hA3⟩ := HOs.out.sl
        have HA1 := hide hA1; have HA2 := hide hA2; have HA3 := hide hA3
        clear hA1 hA2 hA3
        obtain ⟨As, cs, hs1, hs2, hs3, hs4⟩ := HSc.out
        have x0 := hs1.cell 0; have x1 := hs1.cell 1
        simp only [List.getElem?_toArray, List.getElem?_cons_zero, List.getElem?_cons_succ] at x0 x1
        clear hs1 hs2 hs3 hs4
        have HLn := hide HSc.out.len
        cases bd with
        | true =>
          have HR := hide (HNo.out (HI.out.1 rfl))
          have u0 := HXr.out.cell 0; have u1 := HXr.out.cell 1; have u2 := HXr.out.cell 2; have v0 := HXr.out.frozen 0; have v1 := HXr.out.frozen 1; have v2 := HXr.out.frozen 2
          simp only [List.getElem?_toArray, List.getElem?_cons_zero, List.getElem?_cons_succ] at u0 u1 u2
          have hwr : w.heap.size < wr.heap.size := HXr.out.lt
          go_wp2_with fail
          refine bodyPost_ret (v := .tuple #[.agg #[.int .i64 0, .slice none 0 0, .bool false], .bool false]) (by simp [results, Tryz.results28, go_sem, u0, u1, u2]) rfl ⟨_, _, (HR.out w6 (by omega)).1, (HR.out _ (by simp [World.setCell]; omega)).2.1, (HR.out _ (by simp [World.setCell]; omega)).2.2, ?_⟩
          repeat (first | refine Below.setCell ?_ (by simp; try omega) _ | exact HBr.out)
        | false =>
          by_cases hlt : k < R.length
          · obtain ⟨m, hm⟩ : ∃ m, m = (R.drop k).length := ⟨_, rfl⟩
            have hm0 : (0 : Int) < (m : Int) := by rw [hm, List.length_drop]; omega
            rw [← hm] at x0
            have HM := hide hm
            clear hm
            obtain ⟨X, hX⟩ : ∃ X, X = R[k] := ⟨_, rfl⟩
            have hdr : R.drop k = X :: R.drop (k + 1) := by rw [List.drop_eq_getElem_cons hlt, hX]
            have HNx := next_some X (R.drop (k + 1)) false S B wr (by rw [← hdr]; exact HSc.out) HSa.out
            have HNx := hide HNx
            have HXs := hide (HRl.out X (by rw [hX]; exact List.getElem_mem hlt))
            have HSt := hide (HI.out.step (X := X.data.toList) (by rw [List.length_map]; exact hlt) (by rw [List.getElem_map, hX]))
            have HM3 := hide (show (R.drop (k + 1)).length < (R.drop k).length by rw [hdr]; simp)
            obtain ⟨o9, ho9⟩ : ∃ o9, o9 = (readOpL X.data.toList).getD ⟨0, 0, 0⟩ := ⟨_, rfl⟩
            obtain ⟨ok9, hok9⟩ : ∃ ok9, ok9 = (readOpL X.data.toList).isSome := ⟨_, rfl⟩
            have hrv : readOV X.data.toList = .tuple #[.agg #[.int .i64 o9.Kind, .int .i64 o9.Key, .int .i64 o9.Value], .bool ok9] := by rw [ho9, hok9]; rfl
            rw [← ho9, ← hok9] at HSt
            have HRo := hide (fun W (hE : ErrOk W) => implReadOp X W (by have := HXs.out; omega) hE)
            rw [hrv] at HRo
            have HK1 := hide (show k + 1 ≤ R.length ∧ (os ++ [o9]).length = k + 1 by rw [List.length_append, HOk.out]; exact ⟨hlt, rfl⟩)
            have HL1 := hide (show os.length + 1 ≤ maxLen by have := HRn.out; rw [HOk.out]; simp only [maxLen]; omega)
            have HL2 := hide (show (os.length + 1) * 24 ≤ 140737488355328 by have := HRn.out; rw [HOk.out]; omega)
            have HK2 := hide (show ∀ i, w6.heap.size ≤ i → w.heap.size ≤ i by intro i hi; omega)
            have HNp := hide (show ¬ w6.heap.size ≤ p by omega)
            have HNB := hide (show ¬ w6.heap.size ≤ B ∧ B ≠ p ∧ w.heap.size ≤ B ∧ w.heap.size ≤ p ∧ w.heap.size ≠ B ∧ w.heap.size ≠ p ∧ ¬ w6.heap.size ≤ w.heap.size ∧ p < w6.heap.size by omega)
            have HSn := hide (show ∀ b, S b → ¬ w6.heap.size ≤ b ∧ b ≠ p by intro b hb; have := HSb.out b hb; omega)
            clear hX hdr hrv ho9 hok9 hlt
            go_upto_region 5 with (first | (go_at_call 55; refine HNx.out.mono ?_; rintro e w7 ⟨rfl, hS7, ho7⟩; have HS7 := hide hS7; have HB7 := hide (below_only HBr.out ho7 HBr.out.size (fun i hi => by have h5 := HNB.out.2.2.1; have hi : i = B := hi; omega)); have HP7 := hide (HP.out.of (ho7.block _ HP.out.lt (fun e => HNB.out.2.1 e.symm))); have HX7 := hide (HXr.out.of (ho7.block _ HXr.out.lt HNB.out.2.2.2.2.1)); have HO7 := hide ((HOs.out.only ho7 (fun b hb => ⟨hb.2, fun e => by have h5 := HNB.out.1; have h6 := hb.1; have e : b = B := e; omega⟩)).mono (S2 := fun b => w6.heap.size ≤ b ∧ Old w7 b) (fun b hb => ⟨hb.1, Nat.lt_of_lt_of_le hb.2 ho7.size⟩) (fun _ _ => rfl)); have HZ7 := hide (Nat.le_trans HSz.out ho7.size); clear hS7 ho7) | (go_at_call 56; refine (HRo.out _ (HE.out _ HB7.out)).mono ?_; rintro e w8 ⟨rfl, hb8⟩; have HS8 := hide (HS7.out.keep (hb8.block _ HS7.out.lt) (fun b hb => hb8.block _ (Nat.lt_trans (HSb.out b hb) HS7.out.lt))); have HB8 := hide (HB7.out.trans (hb8.mono HB7.out.size)); have HP8 := hide (HP7.out.below hb8 HP7.out.lt); have HX8 := hide (HX7.out.below hb8 HX7.out.lt); have HO8 := hide (HO7.out.onlyBelow hb8); have HZ8 := hide (Nat.le_trans HZ7.out hb8.size); clear hb8))
            have HQ9 := hide (Blk.new w8 46 #[.int .i64 o9.Kind, .int .i64 o9.Key, .int .i64 o9.Value])
            have HS9 := hide (HS8.out.keep (Below.heap_alloc w8 (.cells #[.int .i64 o9.Kind, .int .i64 o9.Key, .int .i64 o9.Value] 46) _ HS8.out.lt) (fun b hb => Below.heap_alloc w8 _ _ (Nat.lt_trans (HSb.out b hb) HS8.out.lt)))
            have HB9 := hide (HB8.out.alloc HB8.out.size (.cells #[.int .i64 o9.Kind, .int .i64 o9.Key, .int .i64 o9.Value] 46))
            have HP9 := hide (HP8.out.alloc (.cells #[.int .i64 o9.Kind, .int .i64 o9.Key, .int .i64 o9.Value] 46))
            have HX9 := hide (HX8.out.alloc (.cells #[.int .i64 o9.Kind, .int .i64 o9.Key, .int .i64 o9.Value] 46))
            have HO9 := hide (HO8.out.onlyBelow ((Below.refl w8.heap.size w8).alloc (Nat.le_refl _) (.cells #[.int .i64 o9.Kind, .int .i64 o9.Key, .int .i64 o9.Value] 46)))
            have HZ9 := hide (show w6.heap.size ≤ (w8.alloc (.cells #[.int .i64 o9.Kind, .int .i64 o9.Key, .int .i64 o9.Value] 46)).heap.size by have := HZ8.out; simp; omega)
            have hq9 : w8.heap.size ≠ B := by have := HS8.out.lt; omega
            clear HS7 HS8 HB7 HB8 HP7 HP8 HX7 HX8 HO7 HO8 HZ7 HZ8
            generalize w8.alloc _ = w9 at HQ9 HS9 HB9 HP9 HX9 HO9 HZ9 ⊢
            generalize w8.heap.size = q at HQ9 hq9 ⊢
            obtain ⟨As9, cs9, hs1, hs2, hs3, hs4⟩ := HS9.out
            have y1 := hs1.cell 1; have y2 := hs1.frozen 1
            simp only [List.getElem?_toArray, List.getElem?_cons_zero, List.getElem?_cons_succ] at y1
            clear hs1 hs2 hs3 hs4
            go_upto_region 6 with fail
            have HS10 := hide (HS9.out.setBad HSa.out (!ok9))
            have HB10 := hide (HB9.out.setCell (p := ⟨B, 1, none⟩) HNB.out.2.2.1 (.bool (!ok9)))
            have HP10 := hide (HP9.out.far (p := ⟨B, 1, none⟩) (fun e => HNB.out.2.1 e.symm) (.bool (!ok9)))
            have HX10 := hide (HX9.out.far (p := ⟨B, 1, none⟩) HNB.out.2.2.2.2.1 (.bool (!ok9)))
            have HQ10 := hide (HQ9.out.far (p := ⟨B, 1, none⟩) hq9 (.bool (!ok9)))
            have HO10 := hide (ownLow (i := 1) HO9.out (Nat.lt_of_not_le HNB.out.1) (.bool (!ok9)))
            have HZ10 := hide (show w6.heap.size ≤ (w9.setCell ⟨B, 1, none⟩ (.bool (!ok9))).heap.size by have := HZ9.out; simpa [World.setCell] using this)
            clear HS9 HB9 HP9 HX9 HQ9 HO9 HZ9 hq9 y1 y2
            generalize w9.setCell _ _ = w10 at HS10 HB10 HP10 HX10 HQ10 HO10 HZ10 ⊢
            have q0 := HQ10.out.cell 0; have q1 := HQ10.out.cell 1; have q2 := HQ10.out.cell 2
            have p1 := HP10.out.cell 1
            simp only [List.getElem?_toArray, List.getElem?_cons_zero, List.getElem?_cons_succ] at q0 q1 q2 p1
            go_wp2_with (at_builtin; refine wpList_put tOp rfl (.tmp 43) (.tmp 45) 39 rfl 46 i0 _ 24 Tryz.underlying39 hi hz0 hz1 hz2 rfl (by decide) (fun b => w6.heap.size ≤ b) (fun _ => False) os o9 _ _ rfl HO10.out _ rfl rfl (fun _ h => h.elim) (fun b hb => Nat.le_trans HZ10.out hb) HL1.out HL2.out ?_; intro v11 w11 hO11 hK11; obtain ⟨A11, c11, rfl, _, _, _⟩ := hO11.sl; rw [List.length_append, List.length_singleton] at hO11; have HO11 := hide hO11; have HB11 := hide (below_only HB10.out hK11 HB10.out.size HK2.out); have HP11 := hide (HP10.out.of (hK11.block _ HP10.out.lt HNp.out)); have HX11 := hide (HX10.out.of (hK11.block _ HX10.out.lt HNB.out.2.2.2.2.2.2.1)); have HS12 := hide (fun u => (HS10.out.keep (hK11.block _ HS10.out.lt HNB.out.1) (fun b hb => hK11.block _ (Nat.lt_trans (HSb.out b hb) HS10.out.lt) (HSn.out b hb).1)).keep (Below.heap_setCell w11 ⟨p, 1, none⟩ u B HNB.out.2.1) (fun b hb => Below.heap_setCell w11 ⟨p, 1, none⟩ u b (HSn.out b hb).2)); have HZ11 := hide (Nat.le_trans HZ10.out hK11.size); have z1 := HP11.out.cell 1; have f1 := HP11.out.frozen 1; simp only [List.getElem?_toArray, List.getElem?_cons_zero, List.getElem?_cons_succ] at z1; clear hO11 hK11 p1)
            go_roundw
            case rel => exact ⟨k + 1, os ++ [o9], _, !ok9, HK1.out.1, HK1.out.2, HSt.out, HS12.out _, HP11.out.set_ 1 _, ownLow HO11.out HNB.out.2.2.2.2.2.2.2 _, HB11.out.setCell HNB.out.2.2.2.1 _, by simp [World.setCell]; exact HZ11.out, HX11.out.far HNB.out.2.2.2.2.2.1 _⟩
            case measure =>
              rw [(HS12.out _).len, HLn.out]
              exact HM3.out
          · obtain ⟨m, hm⟩ : ∃ m, m = (R.drop k).length := ⟨_, rfl⟩
            have hm0 : ¬ (0 : Int) < (m : Int) := by rw [hm, List.length_drop]; omega
            rw [← hm] at x0
            have HLw := hide (show readTL s.data.toList = if (txnB ⟨n, os, true⟩).data.toList = s.data.toList then some ⟨n, os, true⟩ else none from by
              obtain ⟨h1, w0, b9, h2, h3, h4⟩ := HI.out.2 rfl
              rw [List.take_of_length_le (by rw [List.length_map]; omega)] at h1
              exact readTL_via h2 h3 h4 h1)
            clear hm hlt
            have HTt := implTxnText ⟨n, os, true⟩ A1 c1 wr (Nat.le_trans HA1.out HA2.out) (HA3.out.mono (fun b h => h.2) (fun _ _ => rfl))
            have HCt := hide (fun (W : World) (hb : Below wr.heap.size wr W) (hl : os.length ≤ 1048576) => copyTxn ⟨n, os, true⟩ A1 c1 W hl ((HA3.out.mono (S' := Old wr) (fun b h => h.2) (fun _ _ => rfl)).old hb))
            obtain ⟨T, hT⟩ : ∃ T : ByteArray, T = txnB ⟨n, os, true⟩ := ⟨_, rfl⟩
            rw [← hT] at HTt HLw
            have HTt := hide HTt
            have HTl := hide (ByteArray.toList_eq T)
            have t0 := HP.out.cell 0; have t1 := HP.out.cell 1; have t2 := HP.out.cell 2
            simp only [List.getElem?_toArray, List.getElem?_cons_zero, List.getElem?_cons_succ] at t0 t1 t2
            have hwp : w.heap.size < wr.heap.size := HXr.out.lt
            clear hT
            by_cases hd : T.data.toList = s.data.toList
            · have g1 : (T.toList == s.toList) = true := by rw [beq_iff_eq, HTl.out, HSl.out, hd]
              have g2 : T.toList = s.toList := by rw [HTl.out, HSl.out, hd]
              have g3 : (T.toList != s.toList) = false := by rw [bne_eq_false_iff_eq, g2]
              have HRr := hide (show readTL s.data.toList = some ⟨n, os, true⟩ by rw [HLw.out, if_pos hd])
              have HTe := hide (show (∀ v : Value, Ending.returned (.tuple #[.agg #[.int .i64 n, v, .bool true], .bool true]) = .returned (.tuple #[.agg #[.int .i64 (rdT s.data.toList).Session, v, .bool (rdT s.data.toList).Done], .bool (readTL s.data.toList).isSome])) ∧ (rdT s.data.toList).Ops = os by unfold rdT; rw [HRr.out]; exact ⟨fun _ => rfl, rfl⟩)
              have HO6 := hide (show os.length ≤ 1048576 by
                have h := (txnOk_parts' (readTL_some HRr.out).1).2.2
                have h : os.length ≤ 6 := h
                omega)
              clear hd
              go_wp2_with (first | (go_at_call 21; refine HTt.out.mono ?_; rintro e wt ⟨rfl, hbt⟩; have HBt := hide hbt; have HPt := HP.out.below hbt HP.out.lt; have HXt := hide (HXr.out.below hbt HXr.out.lt); have s0 := HPt.cell 0; have s1 := HPt.cell 1; have s2 := HPt.cell 2; simp only [List.getElem?_toArray, List.getElem?_cons_zero, List.getElem?_cons_succ] at s0 s1 s2; clear hbt HPt t0 t1 t2) | (go_at_call 57; refine (HCt.out _ HBt.out HO6.out).mono ?_; rintro e wc ⟨vc, gc, rfl, hHc, hgc, hbc⟩; have hHd := hHc; obtain ⟨Ac, cc, hvc, _⟩ := hHd; subst hvc; have HHc := hide hHc; have HGc := hide hgc; have HBc := hide ((HBr.out.trans (HBt.out.mono HBr.out.size)).trans (hbc.mono (Nat.le_trans HBr.out.size HBt.out.size))); have HXc := HXt.out.below hbc HXt.out.lt; have hwc := hbc.size; have hwt := HBt.out.size; have u0 := HXc.cell 0; have u1 := HXc.cell 1; have u2 := HXc.cell 2; have v0 := HXc.frozen 0; have v1 := HXc.frozen 1; have v2 := HXc.frozen 2; simp only [List.getElem?_toArray, List.getElem?_cons_zero, List.getElem?_cons_succ] at u0 u1 u2; clear hHc hgc hbc HXc s0 s1 s2))
              refine bodyPost_ret (v := .tuple #[.agg #[.int .i64 n, .slice Ac os.length cc, .bool true], .bool true]) (by simp [results, Tryz.results28, go_sem, u0, u1, u2]) rfl ⟨_, gc, HTe.out.1 _, ?_, ?_, ?_⟩
              · rw [HTe.out.2]
                exact HHc.out.mono (fun b hb => ⟨by have h5 := hb.1; omega, by have := hb.2; simpa [World.setCell] using this⟩) (fun b hb => by
                  have h5 := hb.1
                  rw [Below.heap_setCell _ _ _ _ (by simp only; omega), Below.heap_setCell _ _ _ _ (by simp only; omega), Below.heap_setCell _ _ _ _ (by simp only; omega)])
              · exact ⟨by have h5 := HGc.out.1; omega, by have := HGc.out.2; simpa [World.setCell] using this⟩
              · repeat (first | refine Below.setCell ?_ (by simp; try omega) _ | exact HBc.out)
            · have g1 : (T.toList == s.toList) = false := by rw [beq_eq_false_iff_ne, HTl.out, HSl.out]; exact hd
              have g2 : ¬ T.toList = s.toList := by rw [HTl.out, HSl.out]; exact hd
              have g3 : (T.toList != s.toList) = true := by rw [bne_iff_ne]; exact g2
              have HR := hide (HNo.out (show readTL s.data.toList = none by rw [HLw.out, if_neg hd]))
              clear hd
              go_wp2_with (go_at_call 21; refine HTt.out.mono ?_; rintro e wt ⟨rfl, hbt⟩; have HBt := hide (HBr.out.trans (hbt.mono HBr.out.size)); have HXt := HXr.out.below hbt HXr.out.lt; have hwt := hbt.size; have u0 := HXt.cell 0; have u1 := HXt.cell 1; have u2 := HXt.cell 2; have v0 := HXt.frozen 0; have v1 := HXt.frozen 1; have v2 := HXt.frozen 2; simp only [List.getElem?_toArray, List.getElem?_cons_zero, List.getElem?_cons_succ] at u0 u1 u2; clear hbt HXt t0 t1 t2)
              refine bodyPost_ret (v := .tuple #[.agg #[.int .i64 0, .slice none 0 0, .bool false], .bool false]) (by simp [results, Tryz.results28, go_sem, u0, u1, u2]) rfl ⟨_, _, (HR.out wr hwp).1, (HR.out _ (by simp [World.setCell]; omega)).2.1, (HR.out _ (by simp [World.setCell]; omega)).2.2, ?_⟩
              repeat (first | refine Below.setCell ?_ (by simp; try omega) _ | exact HBt.out)
    · have b1 : (b.toList == [111, 107]) = false := by rw [beq_eq_false_iff_ne, HBl.out]; exact hok
      have b2 : (b.toList == ByteArray.toList ⟨#[111, 107]⟩) = false := by rw [beq_eq_false_iff_ne, HBl.out, ByteArray.toList_eq]; exact hok
      have b5 : ¬ b.toList = [111, 107] := by rw [HBl.out]; exact hok
      have b6 : ¬ b.toList = ByteArray.toList ⟨#[111, 107]⟩ := by rw [HBl.out, ByteArray.toList_eq]; exact hok
      have HDn := hide (show false = decide (b.data.toList = [111, 107]) by exact (decide_eq_false hok).symm)
      clear hok
      go_upto_region 3 with (first | (go_at_call 54; refine HSe.out.mono ?_; rintro e w4 ⟨n, bd, rfl, hS4, ho4, hV⟩; have HS4 := hide hS4; have HO4 := hide ho4; have HV := hide hV; clear hS4 ho4 hV) | (go_at_call 55; refine (HNb.out _ bd HS4.out).mono ?_; rintro e w5 ⟨rfl, hS5, ho5⟩; have HS5 := hide hS5; have HO5 := HO4.out.trans ho5; have HB5 := hide (below_only HB3.out HO5 HB3.out.size (fun i hi => by have h5 := hrB; have hi : i = B := hi; omega)); have HX5 := hide (HX3.out.of (HO5.block _ HX3.out.lt (Nat.ne_of_lt hrB))); clear hS5 ho5 HO5))
      have HP6 := hide (Blk.new w5 41 #[.int .i64 n, .slice none 0 0, .bool false])
      have HS6 := hide (HS5.out.keep (Below.heap_alloc w5 (.cells #[.int .i64 n, .slice none 0 0, .bool false] 41) _ HS5.out.lt) (fun b hb => Below.heap_alloc w5 _ _ (Nat.lt_trans (HSb.out b hb) HS5.out.lt)))
      have HB6 := hide (HB5.out.alloc HB5.out.size (.cells #[.int .i64 n, .slice none 0 0, .bool false] 41))
      have HX6 := hide (HX5.out.alloc (.cells #[.int .i64 n, .slice none 0 0, .bool false] 41))
      have h56 : w5.heap.size < (w5.alloc (.cells #[.int .i64 n, .slice none 0 0, .bool false] 41)).heap.size := by simp
      have hB5 : B < w5.heap.size := HS5.out.lt
      generalize w5.alloc _ = w6 at HP6 HS6 HB6 HX6 h56 ⊢
      generalize w5.heap.size = p at HP6 h56 hB5 ⊢
      have HI0 := hide (show RdInv s.data.toList (R0.map (·.data.toList)) n false 0 [] bd from rdInv0 HL.out.symm HV.out HDn.out)
      obtain ⟨R, hR⟩ : ∃ R : List ByteArray, R = R0 := ⟨_, rfl⟩
      rw [← hR] at HI0 HS6
      have HRl := hide (show ∀ X, X ∈ R → X.size ≤ 4294967280 from fun X hX => HWl.out X (by rw [hR] at hX; exact List.mem_cons_of_mem _ (List.mem_cons_of_mem _ hX)))
      clear HWl HL HV HSe
      have HRn := hide (show R.length ≤ 4294967281 by have h5 := HXl.out; rw [hR]; simp only [List.length_cons, List.length_nil] at h5 ⊢; omega)
      clear hR HXl
      go_loopw [6, 7] (fun _ _ wr => ∃ (k : Nat) (os : List Op) (u : Value) (bd : Bool), k ≤ R.length ∧ os.length = k ∧ Hid (RdInv s.data.toList (R.map (·.data.toList)) n false k os bd) ∧ Hid (Scn wr B (R.drop k) bd S) ∧ Hid (Blk wr p 41 #[.int .i64 n, u, .bool false]) ∧ Hid (Own tOp 46 wr (fun b => w6.heap.size ≤ b ∧ Old wr b) os u) ∧ Hid (Below w.heap.size w wr) ∧ Hid (w6.heap.size ≤ wr.heap.size) ∧ Hid (Blk wr w.heap.size 41 #[.int .i64 0, .slice none 0 0, .bool false])) (fun _ _ wr => scnLen wr B)
      case atStart => exact ⟨0, [], _, _, Nat.zero_le _, rfl, HI0.out, HS6.out, HP6.out, Own.nil_, HB6.out, Nat.le_refl _, HX6.out⟩
      case round =>
        obtain ⟨k, os, u, bd, hkR, hok, hI, hSc, hP, hO, hB, hSz, hX⟩ := hrel
        have HI := hide hI.out; have HSc := hide hSc.out; have HP := hide hP.out; have HOs := hide hO.out; have HBr := hide hB.out; have HSz := hide hSz.out; have HXr := hide hX.out
        have HOk := hide hok
        clear hI hSc hP hO hB hSz hX HI0 HS6 HP6 HB6 HX6 hok
        obtain ⟨A1, c1, rfl, hA1, hA2, hA3⟩ := HOs.out.sl
        have HA1 := hide hA1; have HA2 := hide hA2; have HA3 := hide hA3
        clear hA1 hA2 hA3
        obtain ⟨As, cs, hs1, hs2, hs3, hs4⟩ := HSc.out
        have x0 := hs1.cell 0; have x1 := hs1.cell 1
        simp only [List.getElem?_toArray, List.getElem?_cons_zero, List.getElem?_cons_succ] at x0 x1
        clear hs1 hs2 hs3 hs4
        have HLn := hide HSc.out.len
        cases bd with
        | true =>
          have HR := hide (HNo.out (HI.out.1 rfl))
          have u0 := HXr.out.cell 0; have u1 := HXr.out.cell 1; have u2 := HXr.out.cell 2; have v0 := HXr.out.frozen 0; have v1 := HXr.out.frozen 1; have v2 := HXr.out.frozen 2
          simp only [List.getElem?_toArray, List.getElem?_cons_zero, List.getElem?_cons_succ] at u0 u1 u2
          have hwr : w.heap.size < wr.heap.size := HXr.out.lt
          go_wp2_with fail
          refine bodyPost_ret (v := .tuple #[.agg #[.int .i64 0, .slice none 0 0, .bool false], .bool false]) (by simp [results, Tryz.results28, go_sem, u0, u1, u2]) rfl ⟨_, _, (HR.out w6 (by omega)).1, (HR.out _ (by simp [World.setCell]; omega)).2.1, (HR.out _ (by simp [World.setCell]; omega)).2.2, ?_⟩
          repeat (first | refine Below.setCell ?_ (by simp; try omega) _ | exact HBr.out)
        | false =>
          by_cases hlt : k < R.length
          · obtain ⟨m, hm⟩ : ∃ m, m = (R.drop k).length := ⟨_, rfl⟩
            have hm0 : (0 : Int) < (m : Int) := by rw [hm, List.length_drop]; omega
            rw [← hm] at x0
            have HM := hide hm
            clear hm
            obtain ⟨X, hX⟩ : ∃ X, X = R[k] := ⟨_, rfl⟩
            have hdr : R.drop k = X :: R.drop (k + 1) := by rw [List.drop_eq_getElem_cons hlt, hX]
            have HNx := next_some X (R.drop (k + 1)) false S B wr (by rw [← hdr]; exact HSc.out) HSa.out
            have HNx := hide HNx
            have HXs := hide (HRl.out X (by rw [hX]; exact List.getElem_mem hlt))
            have HSt := hide (HI.out.step (X := X.data.toList) (by rw [List.length_map]; exact hlt) (by rw [List.getElem_map, hX]))
            have HM3 := hide (show (R.drop (k + 1)).length < (R.drop k).length by rw [hdr]; simp)
            obtain ⟨o9, ho9⟩ : ∃ o9, o9 = (readOpL X.data.toList).getD ⟨0, 0, 0⟩ := ⟨_, rfl⟩
            obtain ⟨ok9, hok9⟩ : ∃ ok9, ok9 = (readOpL X.data.toList).isSome := ⟨_, rfl⟩
            have hrv : readOV X.data.toList = .tuple #[.agg #[.int .i64 o9.Kind, .int .i64 o9.Key, .int .i64 o9.Value], .bool ok9] := by rw [ho9, hok9]; rfl
            rw [← ho9, ← hok9] at HSt
            have HRo := hide (fun W (hE : ErrOk W) => implReadOp X W (by have := HXs.out; omega) hE)
            rw [hrv] at HRo
            have HK1 := hide (show k + 1 ≤ R.length ∧ (os ++ [o9]).length = k + 1 by rw [List.length_append, HOk.out]; exact ⟨hlt, rfl⟩)
            have HL1 := hide (show os.length + 1 ≤ maxLen by have := HRn.out; rw [HOk.out]; simp only [maxLen]; omega)
            have HL2 := hide (show (os.length + 1) * 24 ≤ 140737488355328 by have := HRn.out; rw [HOk.out]; omega)
            have HK2 := hide (show ∀ i, w6.heap.size ≤ i → w.heap.size ≤ i by intro i hi; omega)
            have HNp := hide (show ¬ w6.heap.size ≤ p by omega)
            have HNB := hide (show ¬ w6.heap.size ≤ B ∧ B ≠ p ∧ w.heap.size ≤ B ∧ w.heap.size ≤ p ∧ w.heap.size ≠ B ∧ w.heap.size ≠ p ∧ ¬ w6.heap.size ≤ w.heap.size ∧ p < w6.heap.size by omega)
            have HSn := hide (show ∀ b, S b → ¬ w6.heap.size ≤ b ∧ b ≠ p by intro b hb; have := HSb.out b hb; omega)
            clear hX hdr hrv ho9 hok9 hlt
            go_upto_region 5 with (first | (go_at_call 55; refine HNx.out.mono ?_; rintro e w7 ⟨rfl, hS7, ho7⟩; have HS7 := hide hS7; have HB7 := hide (below_only HBr.out ho7 HBr.out.size (fun i hi => by have h5 := HNB.out.2.2.1; have hi : i = B := hi; omega)); have HP7 := hide (HP.out.of (ho7.block _ HP.out.lt (fun e => HNB.out.2.1 e.symm))); have HX7 := hide (HXr.out.of (ho7.block _ HXr.out.lt HNB.out.2.2.2.2.1)); have HO7 := hide ((HOs.out.only ho7 (fun b hb => ⟨hb.2, fun e => by have h5 := HNB.out.1; have h6 := hb.1; have e : b = B := e; omega⟩)).mono (S2 := fun b => w6.heap.size ≤ b ∧ Old w7 b) (fun b hb => ⟨hb.1, Nat.lt_of_lt_of_le hb.2 ho7.size⟩) (fun _ _ => rfl)); have HZ7 := hide (Nat.le_trans HSz.out ho7.size); clear hS7 ho7) | (go_at_call 56; refine (HRo.out _ (HE.out _ HB7.out)).mono ?_; rintro e w8 ⟨rfl, hb8⟩; have HS8 := hide (HS7.out.keep (hb8.block _ HS7.out.lt) (fun b hb => hb8.block _ (Nat.lt_trans (HSb.out b hb) HS7.out.lt))); have HB8 := hide (HB7.out.trans (hb8.mono HB7.out.size)); have HP8 := hide (HP7.out.below hb8 HP7.out.lt); have HX8 := hide (HX7.out.below hb8 HX7.out.lt); have HO8 := hide (HO7.out.onlyBelow hb8); have HZ8 := hide (Nat.le_trans HZ7.out hb8.size); clear hb8))
            have HQ9 := hide (Blk.new w8 46 #[.int .i64 o9.Kind, .int .i64 o9.Key, .int .i64 o9.Value])
            have HS9 := hide (HS8.out.keep (Below.heap_alloc w8 (.cells #[.int .i64 o9.Kind, .int .i64 o9.Key, .int .i64 o9.Value] 46) _ HS8.out.lt) (fun b hb => Below.heap_alloc w8 _ _ (Nat.lt_trans (HSb.out b hb) HS8.out.lt)))
            have HB9 := hide (HB8.out.alloc HB8.out.size (.cells #[.int .i64 o9.Kind, .int .i64 o9.Key, .int .i64 o9.Value] 46))
            have HP9 := hide (HP8.out.alloc (.cells #[.int .i64 o9.Kind, .int .i64 o9.Key, .int .i64 o9.Value] 46))
            have HX9 := hide (HX8.out.alloc (.cells #[.int .i64 o9.Kind, .int .i64 o9.Key, .int .i64 o9.Value] 46))
            have HO9 := hide (HO8.out.onlyBelow ((Below.refl w8.heap.size w8).alloc (Nat.le_refl _) (.cells #[.int .i64 o9.Kind, .int .i64 o9.Key, .int .i64 o9.Value] 46)))
            have HZ9 := hide (show w6.heap.size ≤ (w8.alloc (.cells #[.int .i64 o9.Kind, .int .i64 o9.Key, .int .i64 o9.Value] 46)).heap.size by have := HZ8.out; simp; omega)
            have hq9 : w8.heap.size ≠ B := by have := HS8.out.lt; omega
            clear HS7 HS8 HB7 HB8 HP7 HP8 HX7 HX8 HO7 HO8 HZ7 HZ8
            generalize w8.alloc _ = w9 at HQ9 HS9 HB9 HP9 HX9 HO9 HZ9 ⊢
            generalize w8.heap.size = q at HQ9 hq9 ⊢
            obtain ⟨As9, cs9, hs1, hs2, hs3, hs4⟩ := HS9.out
            have y1 := hs1.cell 1; have y2 := hs1.frozen 1
            simp only [List.getElem?_toArray, List.getElem?_cons_zero, List.getElem?_cons_succ] at y1
            clear hs1 hs2 hs3 hs4
            go_upto_region 6 with fail
            have HS10 := hide (HS9.out.setBad HSa.out (!ok9))
            have HB10 := hide (HB9.out.setCell (p := ⟨B, 1, none⟩) HNB.out.2.2.1 (.bool (!ok9)))
            have HP10 := hide (HP9.out.far (p := ⟨B, 1, none⟩) (fun e => HNB.out.2.1 e.symm) (.bool (!ok9)))
            have HX10 := hide (HX9.out.far (p := ⟨B, 1, none⟩) HNB.out.2.2.2.2.1 (.bool (!ok9)))
            have HQ10 := hide (HQ9.out.far (p := ⟨B, 1, none⟩) hq9 (.bool (!ok9)))
            have HO10 := hide (ownLow (i := 1) HO9.out (Nat.lt_of_not_le HNB.out.1) (.bool (!ok9)))
            have HZ10 := hide (show w6.heap.size ≤ (w9.setCell ⟨B, 1, none⟩ (.bool (!ok9))).heap.size by have := HZ9.out; simpa [World.setCell] using this)
            clear HS9 HB9 HP9 HX9 HQ9 HO9 HZ9 hq9 y1 y2
            generalize w9.setCell _ _ = w10 at HS10 HB10 HP10 HX10 HQ10 HO10 HZ10 ⊢
            have q0 := HQ10.out.cell 0; have q1 := HQ10.out.cell 1; have q2 := HQ10.out.cell 2
            have p1 := HP10.out.cell 1
            simp only [List.getElem?_toArray, List.getElem?_cons_zero, List.getElem?_cons_succ] at q0 q1 q2 p1
            go_wp2_with (at_builtin; refine wpList_put tOp rfl (.tmp 43) (.tmp 45) 39 rfl 46 i0 _ 24 Tryz.underlying39 hi hz0 hz1 hz2 rfl (by decide) (fun b => w6.heap.size ≤ b) (fun _ => False) os o9 _ _ rfl HO10.out _ rfl rfl (fun _ h => h.elim) (fun b hb => Nat.le_trans HZ10.out hb) HL1.out HL2.out ?_; intro v11 w11 hO11 hK11; obtain ⟨A11, c11, rfl, _, _, _⟩ := hO11.sl; rw [List.length_append, List.length_singleton] at hO11; have HO11 := hide hO11; have HB11 := hide (below_only HB10.out hK11 HB10.out.size HK2.out); have HP11 := hide (HP10.out.of (hK11.block _ HP10.out.lt HNp.out)); have HX11 := hide (HX10.out.of (hK11.block _ HX10.out.lt HNB.out.2.2.2.2.2.2.1)); have HS12 := hide (fun u => (HS10.out.keep (hK11.block _ HS10.out.lt HNB.out.1) (fun b hb => hK11.block _ (Nat.lt_trans (HSb.out b hb) HS10.out.lt) (HSn.out b hb).1)).keep (Below.heap_setCell w11 ⟨p, 1, none⟩ u B HNB.out.2.1) (fun b hb => Below.heap_setCell w11 ⟨p, 1, none⟩ u b (HSn.out b hb).2)); have HZ11 := hide (Nat.le_trans HZ10.out hK11.size); have z1 := HP11.out.cell 1; have f1 := HP11.out.frozen 1; simp only [List.getElem?_toArray, List.getElem?_cons_zero, List.getElem?_cons_succ] at z1; clear hO11 hK11 p1)
            go_roundw
            case rel => exact ⟨k + 1, os ++ [o9], _, !ok9, HK1.out.1, HK1.out.2, HSt.out, HS12.out _, HP11.out.set_ 1 _, ownLow HO11.out HNB.out.2.2.2.2.2.2.2 _, HB11.out.setCell HNB.out.2.2.2.1 _, by simp [World.setCell]; exact HZ11.out, HX11.out.far HNB.out.2.2.2.2.2.1 _⟩
            case measure =>
              rw [(HS12.out _).len, HLn.out]
              exact HM3.out
          · obtain ⟨m, hm⟩ : ∃ m, m = (R.drop k).length := ⟨_, rfl⟩
            have hm0 : ¬ (0 : Int) < (m : Int) := by rw [hm, List.length_drop]; omega
            rw [← hm] at x0
            have HLw := hide (show readTL s.data.toList = if (txnB ⟨n, os, false⟩).data.toList = s.data.toList then some ⟨n, os, false⟩ else none from by
              obtain ⟨h1, w0, b9, h2, h3, h4⟩ := HI.out.2 rfl
              rw [List.take_of_length_le (by rw [List.length_map]; omega)] at h1
              exact readTL_via h2 h3 h4 h1)
            clear hm hlt
            have HTt := implTxnText ⟨n, os, false⟩ A1 c1 wr (Nat.le_trans HA1.out HA2.out) (HA3.out.mono (fun b h => h.2) (fun _ _ => rfl))
            have HCt := hide (fun (W : World) (hb : Below wr.heap.size wr W) (hl : os.length ≤ 1048576) => copyTxn ⟨n, os, false⟩ A1 c1 W hl ((HA3.out.mono (S' := Old wr) (fun b h => h.2) (fun _ _ => rfl)).old hb))
            obtain ⟨T, hT⟩ : ∃ T : ByteArray, T = txnB ⟨n, os, false⟩ := ⟨_, rfl⟩
            rw [← hT] at HTt HLw
            have HTt := hide HTt
            have HTl := hide (ByteArray.toList_eq T)
            have t0 := HP.out.cell 0; have t1 := HP.out.cell 1; have t2 := HP.out.cell 2
            simp only [List.getElem?_toArray, List.getElem?_cons_zero, List.getElem?_cons_succ] at t0 t1 t2
            have hwp : w.heap.size < wr.heap.size := HXr.out.lt
            clear hT
            by_cases hd : T.data.toList = s.data.toList
            · have g1 : (T.toList == s.toList) = true := by rw [beq_iff_eq, HTl.out, HSl.out, hd]
              have g2 : T.toList = s.toList := by rw [HTl.out, HSl.out, hd]
              have g3 : (T.toList != s.toList) = false := by rw [bne_eq_false_iff_eq, g2]
              have HRr := hide (show readTL s.data.toList = some ⟨n, os, false⟩ by rw [HLw.out, if_pos hd])
              have HTe := hide (show (∀ v : Value, Ending.returned (.tuple #[.agg #[.int .i64 n, v, .bool false], .bool true]) = .returned (.tuple #[.agg #[.int .i64 (rdT s.data.toList).Session, v, .bool (rdT s.data.toList).Done], .bool (readTL s.data.toList).isSome])) ∧ (rdT s.data.toList).Ops = os by unfold rdT; rw [HRr.out]; exact ⟨fun _ => rfl, rfl⟩)
              have HO6 := hide (show os.length ≤ 1048576 by
                have h := (txnOk_parts' (readTL_some HRr.out).1).2.2
                have h : os.length ≤ 6 := h
                omega)
              clear hd
              go_wp2_with (first | (go_at_call 21; refine HTt.out.mono ?_; rintro e wt ⟨rfl, hbt⟩; have HBt := hide hbt; have HPt := HP.out.below hbt HP.out.lt; have HXt := hide (HXr.out.below hbt HXr.out.lt); have s0 := HPt.cell 0; have s1 := HPt.cell 1; have s2 := HPt.cell 2; simp only [List.getElem?_toArray, List.getElem?_cons_zero, List.getElem?_cons_succ] at s0 s1 s2; clear hbt HPt t0 t1 t2) | (go_at_call 57; refine (HCt.out _ HBt.out HO6.out).mono ?_; rintro e wc ⟨vc, gc, rfl, hHc, hgc, hbc⟩; have hHd := hHc; obtain ⟨Ac, cc, hvc, _⟩ := hHd; subst hvc; have HHc := hide hHc; have HGc := hide hgc; have HBc := hide ((HBr.out.trans (HBt.out.mono HBr.out.size)).trans (hbc.mono (Nat.le_trans HBr.out.size HBt.out.size))); have HXc := HXt.out.below hbc HXt.out.lt; have hwc := hbc.size; have hwt := HBt.out.size; have u0 := HXc.cell 0; have u1 := HXc.cell 1; have u2 := HXc.cell 2; have v0 := HXc.frozen 0; have v1 := HXc.frozen 1; have v2 := HXc.frozen 2; simp only [List.getElem?_toArray, List.getElem?_cons_zero, List.getElem?_cons_succ] at u0 u1 u2; clear hHc hgc hbc HXc s0 s1 s2))
              refine bodyPost_ret (v := .tuple #[.agg #[.int .i64 n, .slice Ac os.length cc, .bool false], .bool true]) (by simp [results, Tryz.results28, go_sem, u0, u1, u2]) rfl ⟨_, gc, HTe.out.1 _, ?_, ?_, ?_⟩
              · rw [HTe.out.2]
                exact HHc.out.mono (fun b hb => ⟨by have h5 := hb.1; omega, by have := hb.2; simpa [World.setCell] using this⟩) (fun b hb => by
                  have h5 := hb.1
                  rw [Below.heap_setCell _ _ _ _ (by simp only; omega), Below.heap_setCell _ _ _ _ (by simp only; omega), Below.heap_setCell _ _ _ _ (by simp only; omega)])
              · exact ⟨by have h5 := HGc.out.1; omega, by have := HGc.out.2; simpa [World.setCell] using this⟩
              · repeat (first | refine Below.setCell ?_ (by simp; try omega) _ | exact HBc.out)
            · have g1 : (T.toList == s.toList) = false := by rw [beq_eq_false_iff_ne, HTl.out, HSl.out]; exact hd
              have g2 : ¬ T.toList = s.toList := by rw [HTl.out, HSl.out]; exact hd
              have g3 : (T.toList != s.toList) = true := by rw [bne_iff_ne]; exact g2
              have HR := hide (HNo.out (show readTL s.data.toList = none by rw [HLw.out, if_neg hd]))
              clear hd
              go_wp2_with (go_at_call 21; refine HTt.out.mono ?_; rintro e wt ⟨rfl, hbt⟩; have HBt := hide (HBr.out.trans (hbt.mono HBr.out.size)); have HXt := HXr.out.below hbt HXr.out.lt; have hwt := hbt.size; have u0 := HXt.cell 0; have u1 := HXt.cell 1; have u2 := HXt.cell 2; have v0 := HXt.frozen 0; have v1 := HXt.frozen 1; have v2 := HXt.frozen 2; simp only [List.getElem?_toArray, List.getElem?_cons_zero, List.getElem?_cons_succ] at u0 u1 u2; clear hbt HXt t0 t1 t2)
              refine bodyPost_ret (v := .tuple #[.agg #[.int .i64 0, .slice none 0 0, .bool false], .bool false]) (by simp [results, Tryz.results28, go_sem, u0, u1, u2]) rfl ⟨_, _, (HR.out wr hwp).1, (HR.out _ (by simp [World.setCell]; omega)).2.1, (HR.out _ (by simp [World.setCell]; omega)).2.2, ?_⟩
              repeat (first | refine Below.setCell ?_ (by simp; try omega) _ | exact HBt.out)
end Go.Proofs.YtjnghnkilnhacaaGreatDoor
