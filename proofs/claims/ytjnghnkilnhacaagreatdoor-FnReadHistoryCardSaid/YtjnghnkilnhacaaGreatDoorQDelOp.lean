/- The program's scanner of words: next, session. The program's copies: slices.Clone, slices.Clip of operations; copyTxn, copyHistory. slices.DeleteFunc of operations, in place. -/
import Derived.Test.YtjnghnkilnhacaaGreatDoorQTxtJ
import Derived.Test.YtjnghnkilnhacaaGreatDoorQTxtS
import Derived.Test.YtjnghnkilnhacaaGreatDoorQTabT
import Derived.Test.YtjnghnkilnhacaaGreatDoorQOwnList
import Derived.Test.YtjnghnkilnhacaaGreatDoorQWriters
import Derived.WalkSpells
import Derived.Lib.SliceRun
namespace Go.Proofs.YtjnghnkilnhacaaGreatDoor
open Go.RowKit
set_option linter.unusedVariables false
set_option linter.unusedSimpArgs false

/-- A scanner in block B: the words that are left, and whether something was bad. -/
def Scn (w : World) (B : Nat) (xs : List ByteArray) (bad : Bool) (S : Nat → Prop) : Prop :=
  ∃ A c, Blk w B 83 #[.slice A xs.length c, .bool bad] ∧ xs.length ≤ c ∧ c ≤ maxLen ∧ Row tStr w S A xs
theorem Scn.keep {w w' : World} {B : Nat} {xs : List ByteArray} {bad : Bool} {S : Nat → Prop} (h : Scn w B xs bad S) (hb : w'.heap[B]? = w.heap[B]?) (hS : ∀ b, S b → w'.heap[b]? = w.heap[b]?) : Scn w' B xs bad S := by
  obtain ⟨A, c, h1, h2, h3, h4⟩ := h
  exact ⟨A, c, h1.of hb, h2, h3, h4.mono (fun _ h => h) hS⟩
theorem Scn.lt {w : World} {B : Nat} {xs : List ByteArray} {bad : Bool} {S : Nat → Prop} (h : Scn w B xs bad S) : B < w.heap.size := by
  obtain ⟨A, c, h1, _⟩ := h
  exact h1.lt
theorem Scn.setBad {w : World} {B : Nat} {xs : List ByteArray} {bad : Bool} {S : Nat → Prop} (h : Scn w B xs bad S) (hS : ∀ b, S b → b ≠ B) (b' : Bool) : Scn (w.setCell ⟨B, 1, none⟩ (.bool b')) B xs b' S := by
  obtain ⟨A, c, h1, h2, h3, h4⟩ := h
  exact ⟨A, c, h1.set_ 1 _, h2, h3, h4.mono (fun _ h => h) (fun b hb => Below.heap_setCell _ _ _ _ (hS b hb))⟩
theorem only_set (w : World) (B i : Nat) (u : Value) : Only (fun b => b = B) w (w.setCell ⟨B, i, none⟩ u) :=
  ⟨rfl, rfl, rfl, by simp [World.setCell], fun k _ hk => Below.heap_setCell _ _ _ _ hk⟩
theorem only_below {w w' : World} {B : Nat} (h : Below w.heap.size w w') : Only (fun b => b = B) w w' := ⟨h.os, h.tape, h.output, h.size, fun k hk _ => h.block k hk⟩
/-- What the session's word says. -/
def sesR : Bs → Option Int
  | 115 :: d => match Lib.atoiAll d with
    | .ok v => some v
    | _ => none
  | _ => none
def SesV (l : Bs) (n : Int) (b : Bool) : Prop := match sesR l with
  | some v => n = v ∧ b = false
  | none => b = true
theorem sesR_pre {l : Bs} (h : Lib.hasPrefix l [115] = true) : sesR l = match Lib.atoiAll (Lib.trimPrefix l [115]) with
    | .ok v => some v
    | _ => none := by
  cases l with
  | nil => cases h
  | cons x l =>
    by_cases hx : x = 115
    · subst hx
      have : Lib.trimPrefix (115 :: l) [115] = l := by simp [Lib.trimPrefix, Lib.hasPrefix, List.isPrefixOf]
      rw [this]
      rfl
    · exfalso
      simp [Lib.hasPrefix, List.isPrefixOf, Ne.symm hx] at h
theorem sesR_no {l : Bs} (h : Lib.hasPrefix l [115] = false) : sesR l = none := by
  cases l with
  | nil => rfl
  | cons x l =>
    by_cases hx : x = 115
    · subst hx
      simp [Lib.hasPrefix, List.isPrefixOf] at h
    · unfold sesR
      split
      · rename_i he; injection he with he _; exact absurd he hx
      · rfl
set_option maxRecDepth 10000 in
set_option maxHeartbeats 1000000 in
theorem next_some (x : ByteArray) (rest : List ByteArray) (bad : Bool) (S : Nat → Prop) (B : Nat) (w : World) (h : Scn w B (x :: rest) bad S) (hS : ∀ b, S b → b ≠ B) : Calls Tryz.prog 55 #[.pointer (some ⟨B, 0, none⟩)] w fun e w' => e = .returned (.string x) ∧ Scn w' B rest bad S ∧ Only (fun b => b = B) w w' := by
  obtain ⟨A, c, h1, h2, h3, h4⟩ := h
  have HB := hide h1; have HR := hide h4; have HS := hide hS
  obtain ⟨b, off, rfl, hbS, d0⟩ := at_Str (wr := w) h4 (k := 0) (by simp)
  have HC := hide (h4.cut 1)
  obtain ⟨n, hn⟩ : ∃ n, n = (x :: rest).length := ⟨_, rfl⟩
  have hn2 : n = rest.length + 1 := hn
  have x0 := h1.cell 0; have x1 := h1.cell 1; have y0 := h1.frozen 0
  simp only [List.getElem?_toArray, List.getElem?_cons_zero, List.getElem?_cons_succ] at x0 x1
  rw [← hn] at x0 h2
  have d0 : w.cell? ⟨b, off, none⟩ = some (.string x) := d0
  have hn0 : ((n : Int) == 0) = false := by rw [beq_eq_false_iff_ne]; omega
  have hn1 : ¬ (n : Int) = 0 := by omega
  have hn3 : (1 : Int) ≤ (n : Int) := by omega
  have hn4 : (0 : Int) < (n : Int) := by omega
  have hnc : (n : Int) ≤ (c : Int) := by omega
  have hn5 : (1 : Int) ≤ (c : Int) := by omega
  have HL := hide (show rest.length = n - 1 by omega)
  have HH := hide h2; have HM := hide h3
  clear hn hn2 h1 h4 hS h2 h3
  by_cases hc : c = 1
  · have hc1 : ((c : Int) == 1) = true := by rw [beq_iff_eq]; omega
    have hc2 : (c : Int) = 1 := by omega
    have hr0 : rest = [] := by
      have h5 := HH.out; have h6 := HL.out
      exact List.length_eq_zero_iff.1 (by omega)
    have HR0 := hide hr0
    clear hc hr0
    go_enter Tryz.func55, Tryz.ntmps55
    go_wp2_with fail
    go_ret
    refine ⟨rfl, ⟨_, _, by rw [HL.out]; exact HB.out.set_ 0 _, ?_, ?_, ?_⟩, only_set _ _ _ _⟩
    · have h5 := HH.out; have h6 := HL.out; omega
    · have h5 := HM.out; omega
    · rw [HR0.out]; exact Row.nil
  · have hc1 : ((c : Int) == 1) = false := by rw [beq_eq_false_iff_ne]; omega
    have hc2 : ¬ (c : Int) = 1 := by omega
    clear hc
    go_enter Tryz.func55, Tryz.ntmps55
    go_wp2_with fail
    go_ret
    refine ⟨rfl, ⟨_, _, by rw [HL.out]; exact HB.out.set_ 0 _, ?_, ?_, ?_⟩, only_set _ _ _ _⟩
    · have h5 := HH.out; have h6 := HL.out; omega
    · have h5 := HM.out; omega
    · have h5 := HC.out
      rw [Option.map_some, Go.WideShapes.add_plain] at h5
      exact h5.mono (fun _ h => h) (fun k hk => Below.heap_setCell _ _ _ _ (HS.out k hk))
set_option maxRecDepth 10000 in
set_option maxHeartbeats 1000000 in
theorem next_none (bad : Bool) (S : Nat → Prop) (B : Nat) (w : World) (h : Scn w B [] bad S) (hS : ∀ b, S b → b ≠ B) : Calls Tryz.prog 55 #[.pointer (some ⟨B, 0, none⟩)] w fun e w' => e = .returned (.string ⟨#[]⟩) ∧ Scn w' B [] true S ∧ Only (fun b => b = B) w w' := by
  have HB := hide (h.setBad hS true)
  obtain ⟨A, c, h1, h2, h3, h4⟩ := h
  have x0 := h1.cell 0; have x1 := h1.cell 1; have y0 := h1.frozen 0; have y1 := h1.frozen 1
  simp only [List.getElem?_toArray, List.getElem?_cons_zero, List.getElem?_cons_succ, List.length_nil] at x0 x1
  clear h1 h4 hS h2 h3
  go_enter Tryz.func55, Tryz.ntmps55
  go_wp2_with fail
  go_ret
  exact ⟨rfl, HB.out, only_set _ _ _ _⟩
set_option maxRecDepth 10000 in
set_option maxHeartbeats 2000000 in
theorem session_any (x : ByteArray) (rest : List ByteArray) (S : Nat → Prop) (B : Nat) (w : World) (h : Scn w B (x :: rest) false S) (hS : ∀ b, S b → b ≠ B) (hSO : ∀ b, S b → Old w b) (hE : ErrOk w) (hEB : ∀ W, Only (fun b => b = B) w W → ErrOk W) (hx : x.size ≤ 281474976710656) : Calls Tryz.prog 54 #[.pointer (some ⟨B, 0, none⟩)] w fun e w' => ∃ n b, e = .returned (.int .i64 n) ∧ Scn w' B rest b S ∧ Only (fun b => b = B) w w' ∧ SesV x.data.toList n b := by
  have HN := hide (next_some x rest false S B w h hS)
  have HS := hide hS; have HSO := hide hSO; have HEB := hide hEB
  have HXs := hide hx
  obtain ⟨T, hT⟩ : ∃ T : ByteArray, T = ⟨(Lib.trimPrefix x.data.toList [115]).toArray⟩ := ⟨_, rfl⟩
  obtain ⟨ok, hok⟩ : ∃ ok, ok = Lib.hasPrefix x.data.toList [115] := ⟨_, rfl⟩
  have HCut := hide (fun W => show Calls Tryz.prog 78 #[.string x, .string ⟨#[115]⟩] W fun e w' => e = .returned (.tuple #[.string T, .bool ok]) ∧ w' = W from by
    rw [hT, hok]; exact cut_any x ⟨#[115]⟩ W)
  have HTs := hide (show T.size ≤ 281474976710656 by
    rw [hT]
    show (Lib.trimPrefix x.data.toList [115]).length ≤ _
    have h1 : (Lib.trimPrefix x.data.toList [115]).length ≤ x.data.toList.length := by
      unfold Lib.trimPrefix
      split
      · rw [List.length_drop]; omega
      · exact Nat.le_refl _
    rw [Array.length_toList] at h1
    exact Nat.le_trans h1 hx)
  have HTl := hide (show T.data.toList = Lib.trimPrefix x.data.toList [115] by rw [hT])
  have HOk := hide hok
  clear hT hok h hS hSO hE hEB hx
  go_enter Tryz.func54, Tryz.ntmps54
  go_upto_region 2 with (first | (go_at_call 55; refine HN.out.mono ?_; rintro e w1 ⟨rfl, hs1, ho1⟩; have HS1 := hide hs1; have HO1 := hide ho1; clear hs1 ho1) | (go_at_call 78; refine (HCut.out _).mono ?_; rintro e w' ⟨rfl, rfl⟩))
  go_upto_region 3 with (go_at_call 79; refine (atoi_any T _ (HEB.out _ HO1.out) HTs.out).mono ?_; rintro e w2 ⟨n, ev, rfl, hav, hb⟩; have HAv := hide hav; have HS2 := hide (HS1.out.keep (hb.block _ HS1.out.lt) (fun b hb' => hb.block _ (Nat.lt_of_lt_of_le (HSO.out b hb') HO1.out.size))); have HO2 := hide (HO1.out.trans (only_below hb)); clear hav hb)
  obtain ⟨A, c, h1, h2, h3, h4⟩ := HS2.out
  have x0 := h1.cell 0; have x1 := h1.cell 1; have y1 := h1.frozen 1
  simp only [List.getElem?_toArray, List.getElem?_cons_zero, List.getElem?_cons_succ] at x0 x1
  clear h1 h2 h3 h4
  cases ok with
  | false =>
    have HV := hide (show SesV x.data.toList n true by unfold SesV; rw [sesR_no HOk.out.symm])
    go_wp2_with fail
    go_ret
    exact ⟨n, true, rfl, HS2.out.setBad HS.out true, HO2.out.trans (only_set _ _ _ _), HV.out⟩
  | true =>
    have hav := HAv.out
    rw [HTl.out] at hav
    have HP := hide (sesR_pre HOk.out.symm)
    unfold AtoiV at hav
    rcases hat : Lib.atoiAll (Lib.trimPrefix x.data.toList [115]) with v | _ | _
    · skip
      rw [hat] at hav
      obtain ⟨rfl, rfl⟩ := hav
      have HV := hide (show SesV x.data.toList n false by unfold SesV; rw [HP.out, hat]; exact ⟨rfl, rfl⟩)
      clear hat HAv
      go_wp2_with fail
      go_ret
      exact ⟨n, false, rfl, HS2.out.setBad HS.out false, HO2.out.trans (only_set _ _ _ _), HV.out⟩
    · skip
      rw [hat] at hav
      obtain ⟨tp, p, rfl⟩ := hav
      have HV := hide (show SesV x.data.toList n true by unfold SesV; rw [HP.out, hat])
      clear hat HAv
      go_wp2_with fail
      go_ret
      exact ⟨n, true, rfl, HS2.out.setBad HS.out true, HO2.out.trans (only_set _ _ _ _), HV.out⟩
    · skip
      rw [hat] at hav
      obtain ⟨tp, p, rfl⟩ := hav
      have HV := hide (show SesV x.data.toList n true by unfold SesV; rw [HP.out, hat])
      clear hat HAv
      go_wp2_with fail
      go_ret
      exact ⟨n, true, rfl, HS2.out.setBad HS.out true, HO2.out.trans (only_set _ _ _ _), HV.out⟩
end Go.Proofs.YtjnghnkilnhacaaGreatDoor
namespace Go.Proofs.YtjnghnkilnhacaaGreatDoor
open Go.RowKit
set_option linter.unusedVariables false
set_option linter.unusedSimpArgs false

set_option maxRecDepth 10000 in
set_option maxHeartbeats 400000 in
theorem clone_Op (xs : List Op) (A : Option Addr) (c : Nat) (w : World) (hl : xs.length ≤ 1048576) (hA : Row tOp w (Old w) A xs) :
    Calls Tryz.prog 81 #[.slice A xs.length c] w fun e w' => ∃ v, e = .returned v ∧ Own tOp 46 w' (New w w') xs v ∧ Below w.heap.size w w' := by
  obtain ⟨i0, hi, hz0, hz1, hz2⟩ := info_parts infoOpT
  have qT : ∀ (w : World) (a : Option Addr) (n c n' c' : Nat), (binOp .eql 39 (.slice a n c) (.slice none n' c')).run Tryz.prog w = .ok (.bool a.isNone) w := fun w a n c n' c' => Lib.run_eql_slice_nil w _ _ a n c n' c' Tryz.underlying39
  rcases A with _ | A
  · have hnil : xs = [] := by
      rcases Nat.eq_zero_or_pos xs.length with h | h
      · exact List.eq_nil_of_length_eq_zero h
      · obtain ⟨b, off, hb, _⟩ := hA h; cases hb
    have HN := hide hnil
    clear hnil hA
    go_enter Tryz.func81, Tryz.ntmps81
    go_wp2
    go_ret
    exact ⟨_, rfl, by rw [HN.out]; exact Own.nil_, Below.refl _ _⟩
  · have HO := hide (Own.made (T := tOp) (e := 46) w (S := fun b => b = w.heap.size) #[] 0 (by simp) (by simp [maxLen]) rfl)
    have HR := hide ((hA.mono (w' := w.alloc (.cells #[] 46)) (S' := Old w) (fun _ h => h) (fun b h => Below.heap_alloc _ _ _ h)).anyOp)
    clear hA
    go_enter Tryz.func81, Tryz.ntmps81
    go_wp2_with (at_builtin; refine wpList_app tOp rfl (.tmp 5) (.tmp 6) 39 rfl 46 i0 _ 24 Tryz.underlying39 hi hz0 hz1 hz2 rfl (by decide) (fun b => b = w.heap.size) (fun _ => False) (fun b => w.heap.size ≤ b) [] xs _ rfl HO.out _ xs.length c rfl rfl HR.out (by simp only [maxLen, List.length_nil]; omega) (by simp only [List.length_nil]; omega) (fun b h => by subst h; simp [Old]) (fun b h => h.elim) (fun b h => by omega) (fun b h => h.elim) (by simp) ?_; intro v' w' hO2 hg2; have HO2 := hide hO2; have HG := hide hg2; clear hO2 hg2)
    go_ret
    refine ⟨v', rfl, HO2.out, ((Below.refl _ w).alloc (Nat.le_refl _) _).grown HG.out (by simp) (fun k hk => ?_)⟩
    have hk2 : some w.heap.size = some k := hk
    injection hk2 with hk3
    exact Nat.le_of_eq hk3

theorem clip_Op (n : Nat) (A : Option Addr) (c : Nat) (w : World) (hl : n ≤ c) (hc : c ≤ maxLen) :
    Calls Tryz.prog 80 #[.slice A n c] w fun e w' => e = .returned (.slice A n n) ∧ w = w' := by
  unfold maxLen at hc
  have h1 : (0 : Int) ≤ (n : Int) := by omega
  have h2 : (n : Int) ≤ (c : Int) := by omega
  go_enter Tryz.func80, Tryz.ntmps80
  go_wp2
  go_ret
  exact ⟨rfl, rfl⟩

theorem clip_Txn (n : Nat) (A : Option Addr) (c : Nat) (w : World) (hl : n ≤ c) (hc : c ≤ maxLen) :
    Calls Tryz.prog 29 #[.slice A n c] w fun e w' => e = .returned (.slice A n n) ∧ w = w' := by
  unfold maxLen at hc
  have h1 : (0 : Int) ≤ (n : Int) := by omega
  have h2 : (n : Int) ≤ (c : Int) := by omega
  go_enter Tryz.func29, Tryz.ntmps29
  go_wp2
  go_ret
  exact ⟨rfl, rfl⟩

set_option maxRecDepth 10000 in
set_option maxHeartbeats 1000000 in
theorem copyTxn (t : Txn) (A : Option Addr) (c : Nat) (w : World) (hm : t.Ops.length ≤ 1048576) (hA : Row tOp w (Old w) A t.Ops) :
    Calls Tryz.prog 57 #[.agg #[.int .i64 t.Session, .slice A t.Ops.length c, .bool t.Done]] w fun e w' => ∃ v g, e = .returned (.agg #[.int .i64 t.Session, v, .bool t.Done]) ∧ Hold tOp 46 w' (New w w') t.Ops v g ∧ New w w' g ∧ Below w.heap.size w w' := by
  have HA := hide hA
  clear hA
  go_enter Tryz.func57, Tryz.ntmps57
  go_upto_region 1 with (fail)
  generalize hW : World.alloc _ _ = W
  have hb3 : Below w.heap.size w W := by rw [← hW]; exact ((Below.refl _ w).alloc (Nat.le_refl _) _).alloc (by simp) _
  have hs3 : W.heap.size = w.heap.size + 2 := by rw [← hW]; simp
  have hB0 : Blk W w.heap.size 41 #[.int .i64 t.Session, .slice A t.Ops.length c, .bool t.Done] := by rw [← hW]; exact (Blk.new w _ _).alloc _
  have hB1 : Blk W (w.heap.size + 1) 41 #[.int .i64 0, .slice none 0 0, .bool false] := by rw [← hW]; have := (Blk.new (w.alloc (.cells #[.int .i64 t.Session, .slice A t.Ops.length c, .bool t.Done] 41)) 41 #[.int .i64 0, .slice none 0 0, .bool false]); simpa using this
  clear hW
  have c01 := hB0.cell 1
  simp only [List.getElem?_toArray, List.getElem?_cons_zero, List.getElem?_cons_succ] at c01
  have HB := hide hb3; have HS := hide hs3; have H0 := hide hB0; have H1 := hide hB1
  have HC := hide (clone_Op t.Ops A c W hm (HA.out.old hb3))
  clear hb3 hs3 hB0 hB1 HA
  go_wp2_with (first | (go_at_call 81; refine HC.out.mono ?_; rintro e w4 ⟨v, rfl, hO, hb4⟩; obtain ⟨A3, c3, rfl, h31, h32, _⟩ := hO.sl; have HO := hide hO; have HB4 := hide hb4; clear hO; have h04 := H0.out.below hb4 H0.out.lt; have h14 := H1.out.below hb4 H1.out.lt; have d0 := h04.cell 0; have d1 := h04.cell 1; have d2 := h04.cell 2; have f1 := h04.frozen 1; have e0 := h14.cell 0; have e1 := h14.cell 1; have e2 := h14.cell 2; have g0 := h14.frozen 0; have g1 := h14.frozen 1; have g2 := h14.frozen 2; simp only [List.getElem?_toArray, List.getElem?_cons_zero, List.getElem?_cons_succ] at d0 d1 d2 e0 e1 e2; clear h04 h14 hb4) | (go_at_call 80; refine (clip_Op _ _ _ _ h31 h32).mono ?_; rintro e w' ⟨rfl, rfl⟩))
  obtain ⟨g, hH, hg⟩ := HO.out.holdAt (w.heap.size)
  have HB5 := hide (HB.out.trans (HB4.out.mono HB.out.size))
  have hsz : w.heap.size + 2 ≤ w4.heap.size := by have := HS.out; have := HB4.out.size; omega
  have HH := hide (hH.clip.mono (w' := w4) (S2 := In (w.heap.size + 2) w4.heap.size) (fun b h => ⟨by have := HS.out; have := h.1; omega, h.2⟩) (fun _ _ => rfl))
  refine bodyPost_ret (v := .agg #[.int .i64 t.Session, .slice A3 t.Ops.length t.Ops.length, .bool t.Done]) (by simp [results, Tryz.results57, go_sem, e0, e1, e2]) rfl ⟨_, g, rfl, ?_, ?_, ?_⟩
  · refine HH.out.mono (fun b h => ⟨by have := h.1; omega, by simpa using h.2⟩) (fun b h => ?_)
    have := h.1
    repeat (first | rw [Below.heap_setCell _ _ _ _ (by simp; try omega)])
  · rcases hg with hg | rfl
    · exact ⟨by have := HS.out; have := hg.1; omega, by simpa using hg.2⟩
    · exact ⟨Nat.le_refl _, by simp; omega⟩
  · repeat (first | refine Below.setCell ?_ (by simp; try omega) _ | exact HB5.out)
end Go.Proofs.YtjnghnkilnhacaaGreatDoor
