/- The reference's ReadTxn. -/
import Derived.Test.YtjnghnkilnhacaaGreatDoorQOwnList
import Derived.Test.YtjnghnkilnhacaaGreatDoorQTxtR
namespace Go.Proofs.YtjnghnkilnhacaaGreatDoor
open Go.RowKit
set_option linter.unusedVariables false
set_option linter.unusedSimpArgs false

/-- What the reading of a transaction hands back. -/
def rdT (l : Bs) : Txn := (readTL l).getD ⟨0, [], false⟩
/-- Facts of a drawn region in which operation i0 makes a variable. -/
def FVar (i0 : Nat) (e : TypeId) (cs : Array Value) (lo : Nat) (V : Nat → Value) (i : Nat) (v : Value) (W : World) : Prop :=
  if i = i0 then ∃ p, lo ≤ p ∧ v = .pointer (some ⟨p, 0, none⟩) ∧ Blk W p e cs else v = V i
section
variable {i0 : Nat} {e : TypeId} {cs : Array Value} {lo : Nat} {V : Nat → Value} {i : Nat} {v : Value} {W wb : World}
theorem FVar.get (h : FVar i0 e cs lo V i v W) (hi : i ≠ i0) : v = V i := by unfold FVar at h; rwa [if_neg hi] at h
theorem FVar.val (hi : i ≠ i0) (h : v = V i) : FVar i0 e cs lo V i v W := by unfold FVar; rwa [if_neg hi]
theorem FVar.iff : FVar i0 e cs lo V i0 v W ↔ ∃ p, lo ≤ p ∧ v = .pointer (some ⟨p, 0, none⟩) ∧ Blk W p e cs := by unfold FVar; rw [if_pos rfl]
theorem FVar.ev (h : FVar i0 e cs lo V i v W) (hb : Below W.heap.size W wb) : FVar i0 e cs lo V i v wb := by
  by_cases hi : i = i0
  · subst hi
    obtain ⟨p, h1, h2, h3⟩ := FVar.iff.1 h
    exact FVar.iff.2 ⟨p, h1, h2, h3.below hb h3.lt⟩
  · exact FVar.val hi (h.get hi)
end
theorem mapM_snoc {ws : List Bs} {x : Bs} {os : List Op} {o : Op} : ws.mapM readOpL = some os → readOpL x = some o → (ws ++ [x]).mapM readOpL = some (os ++ [o]) := by
  intro h1 h2
  rw [List.mapM_append, h1]
  simp [h2]
theorem mapM_step {R : List Bs} {i : Nat} {X : Bs} {os : List Op} {o : Op} (h2 : 2 ≤ i) (HM : (R.take (i - 2)).mapM readOpL = some os) (HTk : R.take (i - 2 + 1) = R.take (i - 2) ++ [X]) (hro : readOpL X = some o) : (R.take (i + 1 - 2)).mapM readOpL = some (os ++ [o]) := by
  rw [show i + 1 - 2 = i - 2 + 1 by omega, HTk]
  exact mapM_snoc HM hro
theorem mapM_bad {x : Bs} (h : readOpL x = none) : ∀ {ws : List Bs}, x ∈ ws → ws.mapM readOpL = none
  | w :: ws, hm => by
    rw [List.mapM_cons]
    rcases List.mem_cons.1 hm with e | hm
    · rw [← e, h]; rfl
    · rw [mapM_bad h hm]
      cases readOpL w <;> rfl
theorem mapM_len : ∀ {ws : List Bs} {os : List Op}, ws.mapM readOpL = some os → os.length = ws.length
  | ws, os, h => by
    have := (mapM_opL_some h).1
    rw [← this, List.length_map]
/-- The reading fails unless the words are those of a transaction. -/
theorem readTL_no {l : Bs} (h : ∀ t : Txn, txnOk t = true → wordsL l ≠ txnW t) : readTL l = none := by
  cases hr : readTL l with
  | none => rfl
  | some t =>
    obtain ⟨h1, h2⟩ := readTW_some hr
    exact absurd h2.symm (h t h1)
theorem two_of {xs : List ByteArray} (h : 2 ≤ xs.length) : ∃ A B rest, xs = A :: B :: rest := by
  match xs, h with
  | A :: B :: rest, _ => exact ⟨A, B, rest, rfl⟩
theorem opt_or {α : Type} (x : Option α) : (∃ o, x = some o) ∨ x = none := by
  cases x with
  | none => exact .inr rfl
  | some o => exact .inl ⟨o, rfl⟩
theorem ownLow {α : Type} {T : Ty α} {e : TypeId} {w : World} {lo : Nat} {xs : List α} {v : Value} (h : Own T e w (fun b => lo ≤ b ∧ Old w b) xs v) {p i : Nat} (hp : p < lo) (u : Value) : Own T e (w.setCell ⟨p, i, none⟩ u) (fun b => lo ≤ b ∧ Old (w.setCell ⟨p, i, none⟩ u) b) xs v :=
  h.mono (fun b hb => ⟨hb.1, by have := hb.2; unfold Old at this ⊢; simpa [World.setCell] using this⟩) (fun b hb => Below.heap_setCell _ _ _ _ (by have := hb.1; simp only; omega))
theorem list_two {l : Bs} (h : l.length = 2) : l = [l[0], l[1]] := by
  match l, h with
  | [a, b], _ => rfl
theorem dec_one {t : Txn} (h : txnOk t = true) : ∃ d, decL t.Session.toNat = [d] := by
  obtain ⟨_, h2, _⟩ := txnOk_parts' h
  exact ⟨_, by unfold decL; rw [if_pos (by omega)]⟩
/-- The words decide. -/
theorem readTL_go {l : Bs} {d : UInt8} {b : Bs} {rest : List Bs} {os : List Op} {dn : Bool} (hw : wordsL l = [115, d] :: b :: rest) (hb : b = if dn then [111, 107] else [111, 102, 102]) (ho : rest.mapM readOpL = some os) :
    readTL l = if txnOk ⟨numI [d], os, dn⟩ then some ⟨numI [d], os, dn⟩ else none := by
  unfold readTL
  rw [hw]
  unfold readTW
  simp only
  have hd : (b = [111, 107] ∨ b = [111, 102, 102]) := by subst hb; cases dn <;> simp
  have hdn : decide (b = [111, 107]) = dn := by subst hb; cases dn <;> simp
  rcases numI_nat (l := [d]) with ⟨x, hx, hx2⟩ | ⟨hx, hx2⟩
  · rw [hx, hx2]
    simp only
    rw [if_pos hd, ho]
    simp only [hdn]
  · rw [hx, hx2]
    simp only
    rw [if_neg]
    intro hok
    have := (txnOk_parts' hok).2.1
    simp only at this
    omega
set_option maxRecDepth 10000 in
set_option maxHeartbeats 8000000 in
theorem specReadTxn (s : ByteArray) (w : World) (hs : s.size ≤ 4294967295) : Calls Tryz.prog 31 #[.string s] w fun e w' => ∃ v, e = .returned (.tuple #[.agg #[.int .i64 (rdT s.data.toList).Session, v, .bool (rdT s.data.toList).Done], .bool (readTL s.data.toList).isSome]) ∧ Own tOp 46 w' (fun b => w.heap.size ≤ b ∧ Old w' b) (rdT s.data.toList).Ops v ∧ Below w.heap.size w w' := by
  obtain ⟨i0, hi, hz0, hz1, hz2⟩ := info_parts infoOpT
  have HX0 := hide (Blk.new w 41 #[.int .i64 0, .slice none 0 0, .bool false])
  have HB0 := hide ((Below.refl _ w).alloc (Nat.le_refl _) (.cells #[.int .i64 0, .slice none 0 0, .bool false] 41))
  have hz9 : w.heap.size < (w.alloc (.cells #[.int .i64 0, .slice none 0 0, .bool false] 41)).heap.size := by simp
  have HWd := hide (fun W => l3Words_any s W hs)
  have HNo := hide (fun (h : readTL s.data.toList = none) (W : World) => show (Ending.returned (.tuple #[.agg #[.int .i64 0, .slice none 0 0, .bool false], .bool false]) = .returned (.tuple #[.agg #[.int .i64 (rdT s.data.toList).Session, (.slice none 0 0 : Value), .bool (rdT s.data.toList).Done], .bool (readTL s.data.toList).isSome])) ∧ Own tOp 46 W (fun b => w.heap.size ≤ b ∧ Old W b) (rdT s.data.toList).Ops (.slice none 0 0) from by unfold rdT; rw [h]; exact ⟨rfl, Own.nil_⟩)
  go_enter Tryz.func31, Tryz.ntmps31
  go_upto_region 1 with fail
  generalize w.alloc _ = w1 at HB0 HX0 hz9 ⊢
  go_upto_region 2 with (go_at_call 59; refine (HWd.out _).mono ?_; rintro e w2 ⟨xs, v, rfl, hL, hO, hb⟩; have HL := hide hL; have HLn := hide (show 0 < xs.length by have h := congrArg List.length hL; rw [List.length_map] at h; rw [h]; exact List.length_pos_iff.2 (wordsL_ne _)); obtain ⟨g, c, rfl, hgK⟩ := hO.form HLn.out; have HO := hide hO; have HG := hide hgK; have HX1 := hide (HX0.out.below hb HX0.out.lt); have HB1 := hide (HB0.out.trans (hb.mono HB0.out.size)); have h12 := hb.size; clear hL hO hb hgK)
  have hr2 : w.heap.size < w2.heap.size := by omega
  obtain ⟨n, hn⟩ : ∃ n, n = xs.length := ⟨_, rfl⟩
  rw [← hn]
  have hn0 : 0 < n := by rw [hn]; exact HLn.out
  have HCs := hide (fun (W : World) (hb : Below w2.heap.size w2 W) (i : Nat) (h : i < xs.length) => show W.cell? ⟨g, i, none⟩ = some (.string xs[i]) from (hb.cell (show (⟨g, i, none⟩ : Addr).block < w2.heap.size from HG.out.2)).trans (HO.out.cellStr h).1)
  have HXs := hide (fun (W : World) (hb : Below w2.heap.size w2 W) => HX1.out.below hb hr2)
  have hnb : n ≤ 4294967296 := by
    have h := congrArg List.length HL.out
    rw [List.length_map] at h
    have h1 := wordsL_len s.data.toList
    have h2 : s.size = s.data.toList.length := by rw [Array.length_toList]; rfl
    rw [hn, h]; omega
  clear HX0 HB0 HWd hz9 h12
  by_cases h2 : 2 ≤ n
  · have hlt2 : ¬ (n : Int) < 2 := by omega
    have h0i : (0 : Int) < (n : Int) := by omega
    have h1i : (1 : Int) < (n : Int) := by omega
    obtain ⟨A, B, rest, hxs⟩ : ∃ A B rest, xs = A :: B :: rest := two_of (by omega)
    have HWs := hide (show wordsL s.data.toList = A.data.toList :: B.data.toList :: rest.map (·.data.toList) by rw [← HL.out, hxs]; rfl)
    have HRl := hide (show (rest.map (·.data.toList)).length = n - 2 by rw [List.length_map, hn, hxs]; rfl)
    have HcA := hide (fun (W : World) (hb : Below w2.heap.size w2 W) => show W.cell? ⟨g, 0, none⟩ = some (.string A) from by
      have h := HCs.out W hb 0 (by omega)
      simp only [hxs, List.getElem_cons_zero] at h
      exact h)
    have HcB := hide (fun (W : World) (hb : Below w2.heap.size w2 W) => show W.cell? ⟨g, 1, none⟩ = some (.string B) from by
      have h := HCs.out W hb 1 (by omega)
      simp only [hxs, List.getElem_cons_zero, List.getElem_cons_succ] at h
      exact h)
    have HcR := hide (fun (W : World) (hb : Below w2.heap.size w2 W) (i : Nat) (h2i : 2 ≤ i) (hin : i < n) => show ∃ X : ByteArray, W.cell? ⟨g, i, none⟩ = some (.string X) ∧ (rest.map (·.data.toList)).take (i - 2 + 1) = (rest.map (·.data.toList)).take (i - 2) ++ [X.data.toList] ∧ X.data.toList ∈ rest.map (·.data.toList) ∧ X.size ≤ 9223372036854775807 from by
      have hlx : i < xs.length := by omega
      have hir : i - 2 < (rest.map (·.data.toList)).length := by rw [HRl.out]; omega
      have hXr : (rest.map (·.data.toList))[i - 2] = xs[i].data.toList := by
        rw [List.getElem_map]
        simp only [hxs]
        obtain ⟨j, rfl⟩ : ∃ j, i = j + 2 := ⟨i - 2, by omega⟩
        rfl
      refine ⟨xs[i], HCs.out W hb i hlx, by rw [List.take_succ_eq_append_getElem hir, hXr], by rw [← hXr]; exact List.getElem_mem hir, ?_⟩
      have h1 : xs[i].data.toList ∈ wordsL s.data.toList := by rw [← HL.out]; exact List.mem_map.2 ⟨xs[i], List.getElem_mem hlx, rfl⟩
      have h3 := wordsL_le _ _ h1
      have h4 : s.size = s.data.toList.length := by rw [Array.length_toList]; rfl
      rw [ba_size rfl]
      omega)
    have cA := HcA.out w2 (Below.refl _ _)
    have cB := HcB.out w2 (Below.refl _ _)
    generalize rest.map (·.data.toList) = R at HWs HRl HcR
    clear hxs hn HCs HL HLn HO HG
    have HSA := hide (show A.size = A.data.toList.length by rw [Array.length_toList]; rfl)
    by_cases hA2 : A.size = 2
    · have m1 : ((A.size : Int) != 2) = false := by rw [bne_eq_false_iff_eq, hA2]; rfl
      have m1b : ((A.size : Int) == 2) = true := by rw [beq_iff_eq, hA2]; rfl
      have m1c : (1 : Int) ≤ (A.size : Int) := by omega
      have m1d : (0 : Int) < (A.size : Int) := by omega
      have hA1 : 0 < A.size := by omega
      have hll : A.data.toList.length = 2 := by rw [← HSA.out]; exact hA2
      have hx0 : A.data.toList[0] = A[0]'hA1 := by rw [Array.getElem_toList]; rfl
      have hAl : A.data.toList = [A.data.toList[0], A.data.toList[1]] := list_two hll
      by_cases hA0 : A[0]'hA1 = 115
      · have m2 : (((A[0]'hA1).toNat : Int) != 115) = false := by rw [bne_eq_false_iff_eq, hA0]; rfl
        have m2b : (((A[0]'hA1).toNat : Int) == 115) = true := by rw [hA0]; rfl
        obtain ⟨d, hd⟩ : ∃ d, d = A.data.toList[1] := ⟨_, rfl⟩
        have hA115 : A.data.toList = [115, d] := by rw [hAl, hx0, hA0, hd]
        obtain ⟨sn, hsn⟩ : ∃ sn, sn = numI [d] := ⟨_, rfl⟩
        have HRd := hide (fun W => show Calls Tryz.prog 60 #[.string (A.extract 1 A.size)] W fun e w' => e = .returned (.int .i64 sn) ∧ Below W.heap.size W w' from by
          have h := l1Read_any (A.extract 1 A.size) W (by rw [ByteArray.size_extract]; omega)
          have e : (A.extract 1 A.size).data.toList = [d] := by rw [Lib.extract_data, hA115, hA2]; rfl
          rw [e, ← hsn] at h
          exact h)
        have HBl := hide (ByteArray.toList_eq B)
        by_cases hok : B.data.toList = [111, 107]
        · have b1 : (B.toList == [111, 107]) = true := by rw [beq_iff_eq, HBl.out]; exact hok
          have b2 : (B.toList == ByteArray.toList ⟨#[111, 107]⟩) = true := by rw [beq_iff_eq, HBl.out, ByteArray.toList_eq]; exact hok
          have b3 : (B.toList != [111, 107]) = false := by rw [bne, b1]; rfl
          have b4 : (B.toList != ByteArray.toList ⟨#[111, 107]⟩) = false := by rw [bne, b2]; rfl
          have b5 : B.toList = [111, 107] := by rw [HBl.out]; exact hok
          have b6 : B.toList = ByteArray.toList ⟨#[111, 107]⟩ := by rw [HBl.out, ByteArray.toList_eq]; exact hok
          have HWn := hide (fun (os : List Op) (ho : R.mapM readOpL = some os) => readTL_go (d := d) (dn := true) (by rw [HWs.out, hA115]) hok ho)
          have HBn := hide (fun (X : Bs) (hX : X ∈ R) (hr : readOpL X = none) => show readTL s.data.toList = none from by
            cases hq : readTL s.data.toList with
            | none => rfl
            | some t =>
              obtain ⟨h1, h2⟩ := readTW_some hq
              have h3 := mapM_bad hr hX
              rw [HWs.out] at h2
              injection h2 with _ h2
              injection h2 with _ h2
              rw [← h2, mapM_opL (txnOk_parts' h1).1] at h3
              cases h3)
          rw [← hsn] at HWn
          clear hsn hll hx0 hAl hA115 hd hok hA2 hA0
          go_upto_region 4 with fail
          clear cA cB
          refine wp_region_facts 11 (fun _ W => Below w2.heap.size w2 W) (FVar 10 41 #[.int .i64 0, .slice none 0 0, .bool false] w2.heap.size (fun q9 : Nat => match q9 with | 0 => .slice (some ⟨g, 0, none⟩) n c | 1 => .pointer (some ⟨g, 0, none⟩) | 2 => .string A | 3 => .string (A.extract 1 A.size) | 4 => .int .i64 sn | 5 => .slice (some ⟨g, 0, none⟩) n c | 6 => .pointer (some ⟨g, 1, none⟩) | 7 => .string B | 8 => .bool true | 9 => .agg #[.int .i64 sn, .slice none 0 0, .bool true] | 10 => undef | _ => undef)) (fun _ a b => Below a.heap.size a b) [some 41, some 42, some 43, some 44, some 45, some 46, some 47, some 48, some 49, some 50, some 5] (by kernel_rfl) (by kernel_rfl) (by kernel_rfl) (by kernel_rfl) ?_ ?_ ?_ ?_
          · exact (Below.refl _ w2).drew
          · intro i k9 v wa wb _ _ _ hF hE; exact hF.ev hE
          · intro i o9 hi ho a wa L9 hL hJ hc hd K hK
            have hi' : i = 0 ∨ i = 1 ∨ i = 2 ∨ i = 3 ∨ i = 4 ∨ i = 5 ∨ i = 6 ∨ i = 7 ∨ i = 8 ∨ i = 9 ∨ i = 10 := by omega
            clear hi
            rcases hi' with rfl | rfl | rfl | rfl | rfl | rfl | rfl | rfl | rfl | rfl | rfl
            all_goals
              simp only [List.getElem?_toArray, List.getElem?_cons_zero, List.getElem?_cons_succ, Option.some.injEq] at ho
              subst ho
              simp only [reduceCtorEq, if_false] at hK
            · have e4 := (hc 4 (by kernel_rfl)).trans rfl
              go_simp
              exact hK _ _ (FVar.val (by decide) rfl) hJ (Below.refl _ _)
            · have e41 : a.tmps.getD 41 undef = .slice (some ⟨g, 0, none⟩) n c := (hd 0 41 (by kernel_rfl)).get (by decide)
              go_simp
              exact hK _ _ (FVar.val (by decide) rfl) hJ (Below.refl _ _)
            · have e42 : a.tmps.getD 42 undef = .pointer (some ⟨g, 0, none⟩) := (hd 1 42 (by kernel_rfl)).get (by decide)
              have cA := HcA.out wa hJ
              go_simp
              exact hK _ _ (FVar.val (by decide) rfl) hJ (Below.refl _ _)
            · have e43 : a.tmps.getD 43 undef = .string A := (hd 2 43 (by kernel_rfl)).get (by decide)
              go_simp
              exact hK _ _ (FVar.val (by decide) rfl) hJ (Below.refl _ _)
            · have e44 : a.tmps.getD 44 undef = .string (A.extract 1 A.size) := (hd 3 44 (by kernel_rfl)).get (by decide)
              go_simp
              refine (HRd.out wa).mono ?_
              rintro e w9 ⟨rfl, hb9⟩
              exact hK _ _ (FVar.val (by decide) rfl) (hJ.trans (hb9.mono hJ.size)) hb9
            · have e4 := (hc 4 (by kernel_rfl)).trans rfl
              go_simp
              exact hK _ _ (FVar.val (by decide) rfl) hJ (Below.refl _ _)
            · have e46 : a.tmps.getD 46 undef = .slice (some ⟨g, 0, none⟩) n c := (hd 5 46 (by kernel_rfl)).get (by decide)
              go_simp
              exact hK _ _ (FVar.val (by decide) rfl) hJ (Below.refl _ _)
            · have e47 : a.tmps.getD 47 undef = .pointer (some ⟨g, 1, none⟩) := (hd 6 47 (by kernel_rfl)).get (by decide)
              have cB := HcB.out wa hJ
              go_simp
              exact hK _ _ (FVar.val (by decide) rfl) hJ (Below.refl _ _)
            · have e48 : a.tmps.getD 48 undef = .string B := (hd 7 48 (by kernel_rfl)).get (by decide)
              go_simp
              exact hK _ _ (FVar.val (by decide) rfl) hJ (Below.refl _ _)
            · have e45 : a.tmps.getD 45 undef = .int .i64 sn := (hd 4 45 (by kernel_rfl)).get (by decide)
              have e49 : a.tmps.getD 49 undef = .bool true := (hd 8 49 (by kernel_rfl)).get (by decide)
              rw [Array.getD_eq_getD_getElem?] at e45 e49
              go_simp
              exact hK _ _ (FVar.val (by decide) rfl) hJ (Below.refl _ _)
            · go_simp
              exact hK _ _ (FVar.iff.2 ⟨_, hJ.size, rfl, Blk.new _ _ _⟩) (hJ.alloc hJ.size _) ((Below.refl _ wa).alloc (Nat.le_refl _) _)
          · intro vs wz L9 hL hJ hF
            have f9 : vs 9 = .agg #[.int .i64 sn, .slice none 0 0, .bool true] := (hF 9 (by decide)).get (by decide)
            obtain ⟨p, hp, f10, hBp⟩ := FVar.iff.1 (hF 10 (by decide))
            simp only [putD, Act.put, List.setIfInBounds_toArray, List.set_cons_zero, List.set_cons_succ, List.drop_succ_cons, List.drop_zero]
            rw [f9, f10]
            have HBp := hide hBp
            have HJ := hide hJ
            have c0 := hBp.cell 0; have c1 := hBp.cell 1; have c2 := hBp.cell 2; have d0 := hBp.frozen 0; have d1 := hBp.frozen 1; have d2 := hBp.frozen 2
            simp only [List.getElem?_toArray, List.getElem?_cons_zero, List.getElem?_cons_succ] at c0 c1 c2
            clear hF f9 f10 hJ hBp
            go_upto_region 6 with fail
            have HP3 := hide (show Blk (((wz.setCell ⟨p, 0, none⟩ (.int .i64 sn)).setCell ⟨p, 1, none⟩ (.slice none 0 0)).setCell ⟨p, 2, none⟩ (.bool true)) p 41 #[.int .i64 sn, .slice none 0 0, .bool true] from ((HBp.out.set_ 0 _).set_ 1 _).set_ 2 _)
            have HJ3 := hide (show Below w2.heap.size w2 (((wz.setCell ⟨p, 0, none⟩ (.int .i64 sn)).setCell ⟨p, 1, none⟩ (.slice none 0 0)).setCell ⟨p, 2, none⟩ (.bool true)) from ((HJ.out.setCell (by simp; omega) _).setCell (by simp; omega) _).setCell (by simp; omega) _)
            clear HBp HJ c0 c1 c2 d0 d1 d2
            generalize World.setCell _ _ _ = w3 at HP3 HJ3 ⊢
            have hp3 := HP3.out.lt
            go_loopw [6, 7, 8] (fun k _ _ wr => ∃ (i : Nat) (os : List Op) (u : Value), k = .int .i64 i ∧ 2 ≤ i ∧ i ≤ n ∧ Hid ((R.take (i - 2)).mapM readOpL = some os) ∧ Hid (Blk wr p 41 #[.int .i64 sn, u, .bool true]) ∧ Hid (Own tOp 46 wr (fun b => w3.heap.size ≤ b ∧ Old wr b) os u) ∧ Hid (Below w2.heap.size w2 wr) ∧ Hid (w3.heap.size ≤ wr.heap.size)) (fun k _ _ _ => n - (intOf k).toNat)
            case atStart => exact ⟨2, [], _, rfl, Nat.le_refl _, h2, rfl, HP3.out, Own.nil_, HJ3.out, Nat.le_refl _⟩
            case round =>
              obtain ⟨i, os, u, rfl, h2i, hin, hM, hP, hO_, hb, hsz⟩ := hrel
              have HM := hide hM.out; have HP := hide hP.out; have HOs := hide hO_.out; have HWr := hide hb.out; have HSz := hide hsz.out
              clear hM hP hO_ hb hsz HP3 HJ3
              have HOl := hide (show os.length ≤ 4294967296 by
                have h := mapM_len HM.out
                rw [List.length_take] at h
                omega)
              obtain ⟨A1, c1, rfl, hA1, hA2, hA3⟩ := HOs.out.sl
              have HA1 := hide hA1; have HA2 := hide hA2; have HA3 := hide hA3
              clear hA1 hA2 hA3
              have x0 := HP.out.cell 0; have x1 := HP.out.cell 1; have x2 := HP.out.cell 2; have y1 := HP.out.frozen 1
              simp only [List.getElem?_toArray, List.getElem?_cons_zero, List.getElem?_cons_succ] at x0 x1 x2
              by_cases hlt : i < n
              · have hki : (i : Int) < (n : Int) := by omega
                obtain ⟨X, cX, hTk, hMem, hXs⟩ := HcR.out wr HWr.out i h2i hlt
                have HRo := hide (fun W => specReadOp X W hXs)
                have HTk := hide hTk
                have HMem := hide hMem
                have HWi := hide (show wrap64 ((i : Int) + 1) = (i : Int) + 1 by unfold wrap64; omega)
                clear hTk hMem hXs
                rcases opt_or (readOpL X.data.toList) with ⟨o, hro⟩ | hro
                · skip
                  have HMn := hide (show (R.take (i + 1 - 2)).mapM readOpL = some (os ++ [o]) from mapM_step h2i HM.out HTk.out hro)
                  have hrv : readOV X.data.toList = .tuple #[.agg #[.int .i64 o.Kind, .int .i64 o.Key, .int .i64 o.Value], .bool true] := by unfold readOV; rw [hro]; rfl
                  rw [hrv] at HRo
                  clear hro hrv
                  have HL1 := hide (show os.length + 1 ≤ maxLen by have := HOl.out; simp only [maxLen]; omega)
                  have HL2 := hide (show (os.length + 1) * 24 ≤ 140737488355328 by have := HOl.out; omega)
                  have HK2 := hide (show ∀ i, w3.heap.size ≤ i → w2.heap.size ≤ i by intro i hi; omega)
                  have HNp := hide (show ¬ w3.heap.size ≤ p by omega)
                  have HI2 := hide (show 2 ≤ i + 1 ∧ i + 1 ≤ n by omega)
                  go_upto_region 9 with (go_at_call 61; refine (HRo.out _).mono ?_; rintro e w5 ⟨rfl, hb5⟩; have HW5 := hide (HWr.out.trans (hb5.mono HWr.out.size)); have HP5 := hide (HP.out.below hb5 HP.out.lt); have HOs5 := hide (HOs.out.onlyBelow hb5); have HSz5 := hide (Nat.le_trans HSz.out hb5.size); clear hb5 x0 x1 x2 y1)
                  have HQ6 := hide (Blk.new w5 46 #[.int .i64 o.Kind, .int .i64 o.Key, .int .i64 o.Value])
                  have HW6 := hide (HW5.out.alloc HW5.out.size (.cells #[.int .i64 o.Kind, .int .i64 o.Key, .int .i64 o.Value] 46))
                  have HP6 := hide (HP5.out.alloc (.cells #[.int .i64 o.Kind, .int .i64 o.Key, .int .i64 o.Value] 46))
                  have HOs6 := hide (HOs5.out.onlyBelow ((Below.refl w5.heap.size w5).alloc (Nat.le_refl _) (.cells #[.int .i64 o.Kind, .int .i64 o.Key, .int .i64 o.Value] 46)))
                  have HSz6 := hide (show w3.heap.size ≤ (w5.alloc (.cells #[.int .i64 o.Kind, .int .i64 o.Key, .int .i64 o.Value] 46)).heap.size by have := HSz5.out; simp; omega)
                  clear HW5 HP5 HOs5 HSz5
                  generalize w5.alloc _ = w6 at HQ6 HW6 HP6 HOs6 HSz6 ⊢
                  have q0 := HQ6.out.cell 0; have q1 := HQ6.out.cell 1; have q2 := HQ6.out.cell 2
                  have x1 := HP6.out.cell 1
                  simp only [List.getElem?_toArray, List.getElem?_cons_zero, List.getElem?_cons_succ] at q0 q1 q2 x1
                  go_wp2_with (at_builtin; refine wpList_put tOp rfl (.tmp 69) (.tmp 71) 39 rfl 46 i0 _ 24 Tryz.underlying39 hi hz0 hz1 hz2 rfl (by decide) (fun b => w3.heap.size ≤ b) (fun _ => False) os o _ _ rfl HOs6.out _ rfl rfl (fun _ h => h.elim) (fun b hb => Nat.le_trans HSz6.out hb) HL1.out HL2.out ?_; intro v7 w7 hO7 hK7; obtain ⟨A7, c7, rfl, _, _, _⟩ := hO7.sl; rw [List.length_append, List.length_singleton] at hO7; have HO7 := hide hO7; have HW7 := hide (below_only HW6.out hK7 HW6.out.size (fun i hi => HK2.out i hi)); have HP7 := hide (HP6.out.of (hK7.block _ HP6.out.lt HNp.out)); have HSz7 := hide (Nat.le_trans HSz6.out hK7.size); have z1 := HP7.out.cell 1; have f1 := HP7.out.frozen 1; simp only [List.getElem?_toArray, List.getElem?_cons_zero, List.getElem?_cons_succ] at z1; clear hO7 hK7 x1)
                  go_roundw
                  case rel => exact ⟨i + 1, os ++ [o], _, by first | rw [HWi.out] | go_num, HI2.out.1, HI2.out.2, HMn.out, HP7.out.set_ 1 _, ownLow HO7.out hp3 _, HW7.out.setCell hp _, by simp [World.setCell]; exact HSz7.out⟩
                  case measure => simp [intOf]; omega
                · have HR := hide (HNo.out (HBn.out _ HMem.out hro))
                  have hrv : readOV X.data.toList = .tuple #[.agg #[.int .i64 0, .int .i64 0, .int .i64 0], .bool false] := by unfold readOV; rw [hro]; rfl
                  rw [hrv] at HRo
                  clear hro hrv
                  go_wp2_with (go_at_call 61; refine (HRo.out _).mono ?_; rintro e w5 ⟨rfl, hb5⟩; have HW5 := hide (HWr.out.trans (hb5.mono HWr.out.size)); have HX5 := (HXs.out _ HW5.out); have hs5 := HW5.out.size; have HX6 := HX5.alloc (.cells #[.int .i64 0, .int .i64 0, .int .i64 0] 46); have u0 := HX6.cell 0; have u1 := HX6.cell 1; have u2 := HX6.cell 2; have v0 := HX6.frozen 0; have v1 := HX6.frozen 1; have v2 := HX6.frozen 2; simp only [List.getElem?_toArray, List.getElem?_cons_zero, List.getElem?_cons_succ] at u0 u1 u2; clear hb5 x0 x1 x2 y1 HX5 HX6)
                  refine bodyPost_ret (v := .tuple #[.agg #[.int .i64 0, .slice none 0 0, .bool false], .bool false]) (by simp [results, Tryz.results31, go_sem, u0, u1, u2]) rfl ⟨_, (HR.out w).1, (HR.out _).2, ?_⟩
                  repeat (first | refine Below.setCell ?_ (by simp; try omega) _ | exact (HB1.out.trans (HW5.out.mono HB1.out.size)).alloc (by have := (HB1.out.trans (HW5.out.mono HB1.out.size)).size; exact this) _)
              · obtain ⟨i', hi'⟩ : ∃ i', i' = i := ⟨_, rfl⟩
                have hin2 : i = n := by omega
                have hni : ¬ (i : Int) < (n : Int) := by omega
                have HLaw := hide (HWn.out os (by
                  have h := HM.out
                  rw [List.take_of_length_le (by rw [HRl.out]; omega)] at h
                  exact h))
                have HTv := hide (specTxnValid ⟨sn, os, true⟩ A1 c1 wr (Nat.le_trans HA1.out HA2.out) (HA3.out.mono (fun b h => h.2) (fun _ _ => rfl)))
                clear hi' hin2
                cases htv : txnOk ⟨sn, os, true⟩ with
                | true =>
                  have HRr := hide (show readTL s.data.toList = some ⟨sn, os, true⟩ by rw [HLaw.out, if_pos htv])
                  have HTe := hide (show (Ending.returned (.tuple #[.agg #[.int .i64 sn, .slice A1 os.length c1, .bool true], .bool true]) = .returned (.tuple #[.agg #[.int .i64 (rdT s.data.toList).Session, .slice A1 os.length c1, .bool (rdT s.data.toList).Done], .bool (readTL s.data.toList).isSome])) ∧ (rdT s.data.toList).Ops = os by unfold rdT; rw [HRr.out]; exact ⟨rfl, rfl⟩)
                  rw [htv] at HTv
                  clear htv
                  go_wp2_with (go_at_call 24; refine HTv.out.mono ?_; rintro e w5 ⟨rfl, hb5⟩; have HW5 := hide (HWr.out.trans (hb5.mono HWr.out.size)); have HX5 := (HXs.out _ HW5.out); have HP5 := (HP.out.below hb5 HP.out.lt); have HOs5 := hide (HOs.out.onlyBelow hb5); have hs5 := HW5.out.size; have u0 := HX5.cell 0; have u1 := HX5.cell 1; have u2 := HX5.cell 2; have v0 := HX5.frozen 0; have v1 := HX5.frozen 1; have v2 := HX5.frozen 2; have z0 := HP5.cell 0; have z1 := HP5.cell 1; have z2 := HP5.cell 2; simp only [List.getElem?_toArray, List.getElem?_cons_zero, List.getElem?_cons_succ] at u0 u1 u2 z0 z1 z2; clear hb5 x0 x1 x2 y1 HX5 HP5)
                  refine bodyPost_ret (v := .tuple #[.agg #[.int .i64 sn, .slice A1 os.length c1, .bool true], .bool true]) (by simp [results, Tryz.results31, go_sem, u0, u1, u2]) rfl ⟨_, HTe.out.1, ?_, ?_⟩
                  · rw [HTe.out.2]
                    exact HOs5.out.mono (fun b hb => ⟨by have := hb.1; have := HWr.out.size; omega, by have := hb.2; unfold Old at this ⊢; simpa [World.setCell] using this⟩) (fun b hb => by
                      have h1 := hb.1
                      rw [Below.heap_setCell _ _ _ _ (by simp only; omega), Below.heap_setCell _ _ _ _ (by simp only; omega), Below.heap_setCell _ _ _ _ (by simp only; omega)])
                  · repeat (first | refine Below.setCell ?_ (by simp; try omega) _ | exact HB1.out.trans (HW5.out.mono HB1.out.size))
                | false =>
                  have HR := hide (HNo.out (show readTL s.data.toList = none by rw [HLaw.out, if_neg (by rw [htv]; simp)]))
                  rw [htv] at HTv
                  clear htv
                  go_wp2_with (go_at_call 24; refine HTv.out.mono ?_; rintro e w5 ⟨rfl, hb5⟩; have HW5 := hide (HWr.out.trans (hb5.mono HWr.out.size)); have HX5 := (HXs.out _ HW5.out); have hs5 := HW5.out.size; have u0 := HX5.cell 0; have u1 := HX5.cell 1; have u2 := HX5.cell 2; have v0 := HX5.frozen 0; have v1 := HX5.frozen 1; have v2 := HX5.frozen 2; simp only [List.getElem?_toArray, List.getElem?_cons_zero, List.getElem?_cons_succ] at u0 u1 u2; clear hb5 x0 x1 x2 y1 HX5)
                  refine bodyPost_ret (v := .tuple #[.agg #[.int .i64 0, .slice none 0 0, .bool false], .bool false]) (by simp [results, Tryz.results31, go_sem, u0, u1, u2]) rfl ⟨_, (HR.out w).1, (HR.out _).2, ?_⟩
                  repeat (first | refine Below.setCell ?_ (by simp; try omega) _ | exact HB1.out.trans (HW5.out.mono HB1.out.size))
        · have b1 : (B.toList == [111, 107]) = false := by rw [beq_eq_false_iff_ne, HBl.out]; exact hok
          have b2 : (B.toList == ByteArray.toList ⟨#[111, 107]⟩) = false := by rw [beq_eq_false_iff_ne, HBl.out, ByteArray.toList_eq]; exact hok
          have b3 : (B.toList != [111, 107]) = true := by rw [bne, b1]; rfl
          have b4 : (B.toList != ByteArray.toList ⟨#[111, 107]⟩) = true := by rw [bne, b2]; rfl
          have b5 : ¬ B.toList = [111, 107] := by rw [HBl.out]; exact hok
          have b6 : ¬ B.toList = ByteArray.toList ⟨#[111, 107]⟩ := by rw [HBl.out, ByteArray.toList_eq]; exact hok
          by_cases hoff : B.data.toList = [111, 102, 102]
          · have o1 : (B.toList == [111, 102, 102]) = true := by rw [beq_iff_eq, HBl.out]; exact hoff
            have o2 : (B.toList == ByteArray.toList ⟨#[111, 102, 102]⟩) = true := by rw [beq_iff_eq, HBl.out, ByteArray.toList_eq]; exact hoff
            have o3 : (B.toList != [111, 102, 102]) = false := by rw [bne, o1]; rfl
            have o4 : (B.toList != ByteArray.toList ⟨#[111, 102, 102]⟩) = false := by rw [bne, o2]; rfl
            have o5 : B.toList = [111, 102, 102] := by rw [HBl.out]; exact hoff
            have o6 : B.toList = ByteArray.toList ⟨#[111, 102, 102]⟩ := by rw [HBl.out, ByteArray.toList_eq]; exact hoff
            have HWn := hide (fun (os : List Op) (ho : R.mapM readOpL = some os) => readTL_go (d := d) (dn := false) (by rw [HWs.out, hA115]) hoff ho)
            have HBn := hide (fun (X : Bs) (hX : X ∈ R) (hr : readOpL X = none) => show readTL s.data.toList = none from by
              cases hq : readTL s.data.toList with
              | none => rfl
              | some t =>
                obtain ⟨h1, h2⟩ := readTW_some hq
                have h3 := mapM_bad hr hX
                rw [HWs.out] at h2
                injection h2 with _ h2
                injection h2 with _ h2
                rw [← h2, mapM_opL (txnOk_parts' h1).1] at h3
                cases h3)
            rw [← hsn] at HWn
            clear hsn hll hx0 hAl hA115 hd hoff hok hA2 hA0
            go_upto_region 4 with fail
            clear cA cB
            refine wp_region_facts 11 (fun _ W => Below w2.heap.size w2 W) (FVar 10 41 #[.int .i64 0, .slice none 0 0, .bool false] w2.heap.size (fun q9 : Nat => match q9 with | 0 => .slice (some ⟨g, 0, none⟩) n c | 1 => .pointer (some ⟨g, 0, none⟩) | 2 => .string A | 3 => .string (A.extract 1 A.size) | 4 => .int .i64 sn | 5 => .slice (some ⟨g, 0, none⟩) n c | 6 => .pointer (some ⟨g, 1, none⟩) | 7 => .string B | 8 => .bool false | 9 => .agg #[.int .i64 sn, .slice none 0 0, .bool false] | 10 => undef | _ => undef)) (fun _ a b => Below a.heap.size a b) [some 41, some 42, some 43, some 44, some 45, some 46, some 47, some 48, some 49, some 50, some 5] (by kernel_rfl) (by kernel_rfl) (by kernel_rfl) (by kernel_rfl) ?_ ?_ ?_ ?_
            · exact (Below.refl _ w2).drew
            · intro i k9 v wa wb _ _ _ hF hE; exact hF.ev hE
            · intro i o9 hi ho a wa L9 hL hJ hc hd K hK
              have hi' : i = 0 ∨ i = 1 ∨ i = 2 ∨ i = 3 ∨ i = 4 ∨ i = 5 ∨ i = 6 ∨ i = 7 ∨ i = 8 ∨ i = 9 ∨ i = 10 := by omega
              clear hi
              rcases hi' with rfl | rfl | rfl | rfl | rfl | rfl | rfl | rfl | rfl | rfl | rfl
              all_goals
                simp only [List.getElem?_toArray, List.getElem?_cons_zero, List.getElem?_cons_succ, Option.some.injEq] at ho
                subst ho
                simp only [reduceCtorEq, if_false] at hK
              · have e4 := (hc 4 (by kernel_rfl)).trans rfl
                go_simp
                exact hK _ _ (FVar.val (by decide) rfl) hJ (Below.refl _ _)
              · have e41 : a.tmps.getD 41 undef = .slice (some ⟨g, 0, none⟩) n c := (hd 0 41 (by kernel_rfl)).get (by decide)
                go_simp
                exact hK _ _ (FVar.val (by decide) rfl) hJ (Below.refl _ _)
              · have e42 : a.tmps.getD 42 undef = .pointer (some ⟨g, 0, none⟩) := (hd 1 42 (by kernel_rfl)).get (by decide)
                have cA := HcA.out wa hJ
                go_simp
                exact hK _ _ (FVar.val (by decide) rfl) hJ (Below.refl _ _)
              · have e43 : a.tmps.getD 43 undef = .string A := (hd 2 43 (by kernel_rfl)).get (by decide)
                go_simp
                exact hK _ _ (FVar.val (by decide) rfl) hJ (Below.refl _ _)
              · have e44 : a.tmps.getD 44 undef = .string (A.extract 1 A.size) := (hd 3 44 (by kernel_rfl)).get (by decide)
                go_simp
                refine (HRd.out wa).mono ?_
                rintro e w9 ⟨rfl, hb9⟩
                exact hK _ _ (FVar.val (by decide) rfl) (hJ.trans (hb9.mono hJ.size)) hb9
              · have e4 := (hc 4 (by kernel_rfl)).trans rfl
                go_simp
                exact hK _ _ (FVar.val (by decide) rfl) hJ (Below.refl _ _)
              · have e46 : a.tmps.getD 46 undef = .slice (some ⟨g, 0, none⟩) n c := (hd 5 46 (by kernel_rfl)).get (by decide)
                go_simp
                exact hK _ _ (FVar.val (by decide) rfl) hJ (Below.refl _ _)
              · have e47 : a.tmps.getD 47 undef = .pointer (some ⟨g, 1, none⟩) := (hd 6 47 (by kernel_rfl)).get (by decide)
                have cB := HcB.out wa hJ
                go_simp
                exact hK _ _ (FVar.val (by decide) rfl) hJ (Below.refl _ _)
              · have e48 : a.tmps.getD 48 undef = .string B := (hd 7 48 (by kernel_rfl)).get (by decide)
                go_simp
                exact hK _ _ (FVar.val (by decide) rfl) hJ (Below.refl _ _)
              · have e45 : a.tmps.getD 45 undef = .int .i64 sn := (hd 4 45 (by kernel_rfl)).get (by decide)
                have e49 : a.tmps.getD 49 undef = .bool false := (hd 8 49 (by kernel_rfl)).get (by decide)
                rw [Array.getD_eq_getD_getElem?] at e45 e49
                go_simp
                exact hK _ _ (FVar.val (by decide) rfl) hJ (Below.refl _ _)
              · go_simp
                exact hK _ _ (FVar.iff.2 ⟨_, hJ.size, rfl, Blk.new _ _ _⟩) (hJ.alloc hJ.size _) ((Below.refl _ wa).alloc (Nat.le_refl _) _)
            · intro vs wz L9 hL hJ hF
              have f9 : vs 9 = .agg #[.int .i64 sn, .slice none 0 0, .bool false] := (hF 9 (by decide)).get (by decide)
              obtain ⟨p, hp, f10, hBp⟩ := FVar.iff.1 (hF 10 (by decide))
              simp only [putD, Act.put, List.setIfInBounds_toArray, List.set_cons_zero, List.set_cons_succ, List.drop_succ_cons, List.drop_zero]
              rw [f9, f10]
              have HBp := hide hBp
              have HJ := hide hJ
              have c0 := hBp.cell 0; have c1 := hBp.cell 1; have c2 := hBp.cell 2; have d0 := hBp.frozen 0; have d1 := hBp.frozen 1; have d2 := hBp.frozen 2
              simp only [List.getElem?_toArray, List.getElem?_cons_zero, List.getElem?_cons_succ] at c0 c1 c2
              clear hF f9 f10 hJ hBp
              go_upto_region 6 with fail
              have HP3 := hide (show Blk (((wz.setCell ⟨p, 0, none⟩ (.int .i64 sn)).setCell ⟨p, 1, none⟩ (.slice none 0 0)).setCell ⟨p, 2, none⟩ (.bool false)) p 41 #[.int .i64 sn, .slice none 0 0, .bool false] from ((HBp.out.set_ 0 _).set_ 1 _).set_ 2 _)
              have HJ3 := hide (show Below w2.heap.size w2 (((wz.setCell ⟨p, 0, none⟩ (.int .i64 sn)).setCell ⟨p, 1, none⟩ (.slice none 0 0)).setCell ⟨p, 2, none⟩ (.bool false)) from ((HJ.out.setCell (by simp; omega) _).setCell (by simp; omega) _).setCell (by simp; omega) _)
              clear HBp HJ c0 c1 c2 d0 d1 d2
              generalize World.setCell _ _ _ = w3 at HP3 HJ3 ⊢
              have hp3 := HP3.out.lt
              go_loopw [6, 7, 8] (fun k _ _ wr => ∃ (i : Nat) (os : List Op) (u : Value), k = .int .i64 i ∧ 2 ≤ i ∧ i ≤ n ∧ Hid ((R.take (i - 2)).mapM readOpL = some os) ∧ Hid (Blk wr p 41 #[.int .i64 sn, u, .bool false]) ∧ Hid (Own tOp 46 wr (fun b => w3.heap.size ≤ b ∧ Old wr b) os u) ∧ Hid (Below w2.heap.size w2 wr) ∧ Hid (w3.heap.size ≤ wr.heap.size)) (fun k _ _ _ => n - (intOf k).toNat)
              case atStart => exact ⟨2, [], _, rfl, Nat.le_refl _, h2, rfl, HP3.out, Own.nil_, HJ3.out, Nat.le_refl _⟩
              case round =>
                obtain ⟨i, os, u, rfl, h2i, hin, hM, hP, hO_, hb, hsz⟩ := hrel
                have HM := hide hM.out; have HP := hide hP.out; have HOs := hide hO_.out; have HWr := hide hb.out; have HSz := hide hsz.out
                clear hM hP hO_ hb hsz HP3 HJ3
                have HOl := hide (show os.length ≤ 4294967296 by
                  have h := mapM_len HM.out
                  rw [List.length_take] at h
                  omega)
                obtain ⟨A1, c1, rfl, hA1, hA2, hA3⟩ := HOs.out.sl
                have HA1 := hide hA1; have HA2 := hide hA2; have HA3 := hide hA3
                clear hA1 hA2 hA3
                have x0 := HP.out.cell 0; have x1 := HP.out.cell 1; have x2 := HP.out.cell 2; have y1 := HP.out.frozen 1
                simp only [List.getElem?_toArray, List.getElem?_cons_zero, List.getElem?_cons_succ] at x0 x1 x2
                by_cases hlt : i < n
                · have hki : (i : Int) < (n : Int) := by omega
                  obtain ⟨X, cX, hTk, hMem, hXs⟩ := HcR.out wr HWr.out i h2i hlt
                  have HRo := hide (fun W => specReadOp X W hXs)
                  have HTk := hide hTk
                  have HMem := hide hMem
                  have HWi := hide (show wrap64 ((i : Int) + 1) = (i : Int) + 1 by unfold wrap64; omega)
                  clear hTk hMem hXs
                  rcases opt_or (readOpL X.data.toList) with ⟨o, hro⟩ | hro
                  · skip
                    have HMn := hide (show (R.take (i + 1 - 2)).mapM readOpL = some (os ++ [o]) from mapM_step h2i HM.out HTk.out hro)
                    have hrv : readOV X.data.toList = .tuple #[.agg #[.int .i64 o.Kind, .int .i64 o.Key, .int .i64 o.Value], .bool true] := by unfold readOV; rw [hro]; rfl
                    rw [hrv] at HRo
                    clear hro hrv
                    have HL1 := hide (show os.length + 1 ≤ maxLen by have := HOl.out; simp only [maxLen]; omega)
                    have HL2 := hide (show (os.length + 1) * 24 ≤ 140737488355328 by have := HOl.out; omega)
                    have HK2 := hide (show ∀ i, w3.heap.size ≤ i → w2.heap.size ≤ i by intro i hi; omega)
                    have HNp := hide (show ¬ w3.heap.size ≤ p by omega)
                    have HI2 := hide (show 2 ≤ i + 1 ∧ i + 1 ≤ n by omega)
                    go_upto_region 9 with (go_at_call 61; refine (HRo.out _).mono ?_; rintro e w5 ⟨rfl, hb5⟩; have HW5 := hide (HWr.out.trans (hb5.mono HWr.out.size)); have HP5 := hide (HP.out.below hb5 HP.out.lt); have HOs5 := hide (HOs.out.onlyBelow hb5); have HSz5 := hide (Nat.le_trans HSz.out hb5.size); clear hb5 x0 x1 x2 y1)
                    have HQ6 := hide (Blk.new w5 46 #[.int .i64 o.Kind, .int .i64 o.Key, .int .i64 o.Value])
                    have HW6 := hide (HW5.out.alloc HW5.out.size (.cells #[.int .i64 o.Kind, .int .i64 o.Key, .int .i64 o.Value] 46))
                    have HP6 := hide (HP5.out.alloc (.cells #[.int .i64 o.Kind, .int .i64 o.Key, .int .i64 o.Value] 46))
                    have HOs6 := hide (HOs5.out.onlyBelow ((Below.refl w5.heap.size w5).alloc (Nat.le_refl _) (.cells #[.int .i64 o.Kind, .int .i64 o.Key, .int .i64 o.Value] 46)))
                    have HSz6 := hide (show w3.heap.size ≤ (w5.alloc (.cells #[.int .i64 o.Kind, .int .i64 o.Key, .int .i64 o.Value] 46)).heap.size by have := HSz5.out; simp; omega)
                    clear HW5 HP5 HOs5 HSz5
                    generalize w5.alloc _ = w6 at HQ6 HW6 HP6 HOs6 HSz6 ⊢
                    have q0 := HQ6.out.cell 0; have q1 := HQ6.out.cell 1; have q2 := HQ6.out.cell 2
                    have x1 := HP6.out.cell 1
                    simp only [List.getElem?_toArray, List.getElem?_cons_zero, List.getElem?_cons_succ] at q0 q1 q2 x1
                    go_wp2_with (at_builtin; refine wpList_put tOp rfl (.tmp 69) (.tmp 71) 39 rfl 46 i0 _ 24 Tryz.underlying39 hi hz0 hz1 hz2 rfl (by decide) (fun b => w3.heap.size ≤ b) (fun _ => False) os o _ _ rfl HOs6.out _ rfl rfl (fun _ h => h.elim) (fun b hb => Nat.le_trans HSz6.out hb) HL1.out HL2.out ?_; intro v7 w7 hO7 hK7; obtain ⟨A7, c7, rfl, _, _, _⟩ := hO7.sl; rw [List.length_append, List.length_singleton] at hO7; have HO7 := hide hO7; have HW7 := hide (below_only HW6.out hK7 HW6.out.size (fun i hi => HK2.out i hi)); have HP7 := hide (HP6.out.of (hK7.block _ HP6.out.lt HNp.out)); have HSz7 := hide (Nat.le_trans HSz6.out hK7.size); have z1 := HP7.out.cell 1; have f1 := HP7.out.frozen 1; simp only [List.getElem?_toArray, List.getElem?_cons_zero, List.getElem?_cons_succ] at z1; clear hO7 hK7 x1)
                    go_roundw
                    case rel => exact ⟨i + 1, os ++ [o], _, by first | rw [HWi.out] | go_num, HI2.out.1, HI2.out.2, HMn.out, HP7.out.set_ 1 _, ownLow HO7.out hp3 _, HW7.out.setCell hp _, by simp [World.setCell]; exact HSz7.out⟩
                    case measure => simp [intOf]; omega
                  · have HR := hide (HNo.out (HBn.out _ HMem.out hro))
                    have hrv : readOV X.data.toList = .tuple #[.agg #[.int .i64 0, .int .i64 0, .int .i64 0], .bool false] := by unfold readOV; rw [hro]; rfl
                    rw [hrv] at HRo
                    clear hro hrv
                    go_wp2_with (go_at_call 61; refine (HRo.out _).mono ?_; rintro e w5 ⟨rfl, hb5⟩; have HW5 := hide (HWr.out.trans (hb5.mono HWr.out.size)); have HX5 := (HXs.out _ HW5.out); have hs5 := HW5.out.size; have HX6 := HX5.alloc (.cells #[.int .i64 0, .int .i64 0, .int .i64 0] 46); have u0 := HX6.cell 0; have u1 := HX6.cell 1; have u2 := HX6.cell 2; have v0 := HX6.frozen 0; have v1 := HX6.frozen 1; have v2 := HX6.frozen 2; simp only [List.getElem?_toArray, List.getElem?_cons_zero, List.getElem?_cons_succ] at u0 u1 u2; clear hb5 x0 x1 x2 y1 HX5 HX6)
                    refine bodyPost_ret (v := .tuple #[.agg #[.int .i64 0, .slice none 0 0, .bool false], .bool false]) (by simp [results, Tryz.results31, go_sem, u0, u1, u2]) rfl ⟨_, (HR.out w).1, (HR.out _).2, ?_⟩
                    repeat (first | refine Below.setCell ?_ (by simp; try omega) _ | exact (HB1.out.trans (HW5.out.mono HB1.out.size)).alloc (by have := (HB1.out.trans (HW5.out.mono HB1.out.size)).size; exact this) _)
                · obtain ⟨i', hi'⟩ : ∃ i', i' = i := ⟨_, rfl⟩
                  have hin2 : i = n := by omega
                  have hni : ¬ (i : Int) < (n : Int) := by omega
                  have HLaw := hide (HWn.out os (by
                    have h := HM.out
                    rw [List.take_of_length_le (by rw [HRl.out]; omega)] at h
                    exact h))
                  have HTv := hide (specTxnValid ⟨sn, os, false⟩ A1 c1 wr (Nat.le_trans HA1.out HA2.out) (HA3.out.mono (fun b h => h.2) (fun _ _ => rfl)))
                  clear hi' hin2
                  cases htv : txnOk ⟨sn, os, false⟩ with
                  | true =>
                    have HRr := hide (show readTL s.data.toList = some ⟨sn, os, false⟩ by rw [HLaw.out, if_pos htv])
                    have HTe := hide (show (Ending.returned (.tuple #[.agg #[.int .i64 sn, .slice A1 os.length c1, .bool false], .bool true]) = .returned (.tuple #[.agg #[.int .i64 (rdT s.data.toList).Session, .slice A1 os.length c1, .bool (rdT s.data.toList).Done], .bool (readTL s.data.toList).isSome])) ∧ (rdT s.data.toList).Ops = os by unfold rdT; rw [HRr.out]; exact ⟨rfl, rfl⟩)
                    rw [htv] at HTv
                    clear htv
                    go_wp2_with (go_at_call 24; refine HTv.out.mono ?_; rintro e w5 ⟨rfl, hb5⟩; have HW5 := hide (HWr.out.trans (hb5.mono HWr.out.size)); have HX5 := (HXs.out _ HW5.out); have HP5 := (HP.out.below hb5 HP.out.lt); have HOs5 := hide (HOs.out.onlyBelow hb5); have hs5 := HW5.out.size; have u0 := HX5.cell 0; have u1 := HX5.cell 1; have u2 := HX5.cell 2; have v0 := HX5.frozen 0; have v1 := HX5.frozen 1; have v2 := HX5.frozen 2; have z0 := HP5.cell 0; have z1 := HP5.cell 1; have z2 := HP5.cell 2; simp only [List.getElem?_toArray, List.getElem?_cons_zero, List.getElem?_cons_succ] at u0 u1 u2 z0 z1 z2; clear hb5 x0 x1 x2 y1 HX5 HP5)
                    refine bodyPost_ret (v := .tuple #[.agg #[.int .i64 sn, .slice A1 os.length c1, .bool false], .bool true]) (by simp [results, Tryz.results31, go_sem, u0, u1, u2]) rfl ⟨_, HTe.out.1, ?_, ?_⟩
                    · rw [HTe.out.2]
                      exact HOs5.out.mono (fun b hb => ⟨by have := hb.1; have := HWr.out.size; omega, by have := hb.2; unfold Old at this ⊢; simpa [World.setCell] using this⟩) (fun b hb => by
                        have h1 := hb.1
                        rw [Below.heap_setCell _ _ _ _ (by simp only; omega), Below.heap_setCell _ _ _ _ (by simp only; omega), Below.heap_setCell _ _ _ _ (by simp only; omega)])
                    · repeat (first | refine Below.setCell ?_ (by simp; try omega) _ | exact HB1.out.trans (HW5.out.mono HB1.out.size))
                  | false =>
                    have HR := hide (HNo.out (show readTL s.data.toList = none by rw [HLaw.out, if_neg (by rw [htv]; simp)]))
                    rw [htv] at HTv
                    clear htv
                    go_wp2_with (go_at_call 24; refine HTv.out.mono ?_; rintro e w5 ⟨rfl, hb5⟩; have HW5 := hide (HWr.out.trans (hb5.mono HWr.out.size)); have HX5 := (HXs.out _ HW5.out); have hs5 := HW5.out.size; have u0 := HX5.cell 0; have u1 := HX5.cell 1; have u2 := HX5.cell 2; have v0 := HX5.frozen 0; have v1 := HX5.frozen 1; have v2 := HX5.frozen 2; simp only [List.getElem?_toArray, List.getElem?_cons_zero, List.getElem?_cons_succ] at u0 u1 u2; clear hb5 x0 x1 x2 y1 HX5)
                    refine bodyPost_ret (v := .tuple #[.agg #[.int .i64 0, .slice none 0 0, .bool false], .bool false]) (by simp [results, Tryz.results31, go_sem, u0, u1, u2]) rfl ⟨_, (HR.out w).1, (HR.out _).2, ?_⟩
                    repeat (first | refine Below.setCell ?_ (by simp; try omega) _ | exact HB1.out.trans (HW5.out.mono HB1.out.size))
          · have o1 : (B.toList == [111, 102, 102]) = false := by rw [beq_eq_false_iff_ne, HBl.out]; exact hoff
            have o2 : (B.toList == ByteArray.toList ⟨#[111, 102, 102]⟩) = false := by rw [beq_eq_false_iff_ne, HBl.out, ByteArray.toList_eq]; exact hoff
            have o3 : (B.toList != [111, 102, 102]) = true := by rw [bne, o1]; rfl
            have o4 : (B.toList != ByteArray.toList ⟨#[111, 102, 102]⟩) = true := by rw [bne, o2]; rfl
            have o5 : ¬ B.toList = [111, 102, 102] := by rw [HBl.out]; exact hoff
            have o6 : ¬ B.toList = ByteArray.toList ⟨#[111, 102, 102]⟩ := by rw [HBl.out, ByteArray.toList_eq]; exact hoff
            have HR := hide (HNo.out (readTL_no (fun t ht e => by
              rw [HWs.out] at e
              injection e with _ e
              injection e with e _
              by_cases hd9 : t.Done = true
              · rw [if_pos hd9] at e; exact hok e
              · rw [if_neg hd9] at e; exact hoff e)))
            have u0 := HX1.out.cell 0; have u1 := HX1.out.cell 1; have u2 := HX1.out.cell 2; have v0 := HX1.out.frozen 0; have v1 := HX1.out.frozen 1; have v2 := HX1.out.frozen 2
            simp only [List.getElem?_toArray, List.getElem?_cons_zero, List.getElem?_cons_succ] at u0 u1 u2
            go_wp2_with fail
            refine bodyPost_ret (v := .tuple #[.agg #[.int .i64 0, .slice none 0 0, .bool false], .bool false]) (by simp [results, Tryz.results31, go_sem, u0, u1, u2]) rfl ⟨_, (HR.out w).1, (HR.out _).2, ?_⟩
            repeat (first | refine Below.setCell ?_ (by simp; try omega) _ | exact HB1.out)
      · have m2 : (((A[0]'hA1).toNat : Int) != 115) = true := by rw [bne_iff_ne]; intro e; apply hA0; apply UInt8.toNat_inj.1; show (A[0]'hA1).toNat = 115; omega
        have HR := hide (HNo.out (readTL_no (fun t ht e => by
          rw [HWs.out] at e
          injection e with e _
          apply hA0
          rw [hAl] at e
          injection e with e _)))
        have u0 := HX1.out.cell 0; have u1 := HX1.out.cell 1; have u2 := HX1.out.cell 2; have v0 := HX1.out.frozen 0; have v1 := HX1.out.frozen 1; have v2 := HX1.out.frozen 2
        simp only [List.getElem?_toArray, List.getElem?_cons_zero, List.getElem?_cons_succ] at u0 u1 u2
        go_wp2_with fail
        refine bodyPost_ret (v := .tuple #[.agg #[.int .i64 0, .slice none 0 0, .bool false], .bool false]) (by simp [results, Tryz.results31, go_sem, u0, u1, u2]) rfl ⟨_, (HR.out w).1, (HR.out _).2, ?_⟩
        repeat (first | refine Below.setCell ?_ (by simp; try omega) _ | exact HB1.out)
    · have m1 : ((A.size : Int) != 2) = true := by rw [bne_iff_ne]; omega
      have HR := hide (HNo.out (readTL_no (fun t ht e => by
        rw [HWs.out] at e
        injection e with e _
        obtain ⟨d9, hd9⟩ := dec_one ht
        apply hA2
        rw [HSA.out, e, hd9]; rfl)))
      have u0 := HX1.out.cell 0; have u1 := HX1.out.cell 1; have u2 := HX1.out.cell 2; have v0 := HX1.out.frozen 0; have v1 := HX1.out.frozen 1; have v2 := HX1.out.frozen 2
      simp only [List.getElem?_toArray, List.getElem?_cons_zero, List.getElem?_cons_succ] at u0 u1 u2
      go_wp2_with fail
      refine bodyPost_ret (v := .tuple #[.agg #[.int .i64 0, .slice none 0 0, .bool false], .bool false]) (by simp [results, Tryz.results31, go_sem, u0, u1, u2]) rfl ⟨_, (HR.out w).1, (HR.out _).2, ?_⟩
      repeat (first | refine Below.setCell ?_ (by simp; try omega) _ | exact HB1.out)
  · have hlt2 : (n : Int) < 2 := by omega
    have HR := hide (HNo.out (readTL_no (fun t ht e => by
      have h9 := congrArg List.length HL.out
      rw [List.length_map, e] at h9
      unfold txnW at h9
      simp only [List.length_cons] at h9
      omega)))
    have u0 := HX1.out.cell 0; have u1 := HX1.out.cell 1; have u2 := HX1.out.cell 2; have v0 := HX1.out.frozen 0; have v1 := HX1.out.frozen 1; have v2 := HX1.out.frozen 2
    simp only [List.getElem?_toArray, List.getElem?_cons_zero, List.getElem?_cons_succ] at u0 u1 u2
    go_wp2_with fail
    refine bodyPost_ret (v := .tuple #[.agg #[.int .i64 0, .slice none 0 0, .bool false], .bool false]) (by simp [results, Tryz.results31, go_sem, u0, u1, u2]) rfl ⟨_, (HR.out w).1, (HR.out _).2, ?_⟩
    repeat (first | refine Below.setCell ?_ (by simp; try omega) _ | exact HB1.out)
end Go.Proofs.YtjnghnkilnhacaaGreatDoor
