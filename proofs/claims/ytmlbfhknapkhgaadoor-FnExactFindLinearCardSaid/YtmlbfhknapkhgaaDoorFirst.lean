/- The program's firstSerial: the first right serial order that a function allows. -/
import Derived.Test.YtmlbfhknapkhgaaDoorEachB
import Derived.Test.YtmlbfhknapkhgaaDoorHoldN
import Derived.BigQuiet
namespace Go.Proofs.YtmlbfhknapkhgaaDoor
open Go.RowKit
set_option linter.unusedVariables false
set_option linter.unusedSimpArgs false

set_option maxRecDepth 10000 in
set_option maxHeartbeats 400000 in
theorem clone_Int (xs : List Int) (A : Option Addr) (c : Nat) (w : World) (hl : xs.length ≤ 2097152) (hA : Row tInt w (Old w) A xs) :
    Calls Tryd.prog 68 #[.slice A xs.length c] w fun e w' => ∃ v, e = .returned v ∧ Own tInt 3 w' (New w w') xs v ∧ Below w.heap.size w w' := by
  obtain ⟨i0, hi, hz0, hz1, hz2⟩ := info_parts infoInt_
  have qT : ∀ (w : World) (a : Option Addr) (n c n' c' : Nat), (binOp .eql 26 (.slice a n c) (.slice none n' c')).run Tryd.prog w = .ok (.bool a.isNone) w := fun w a n c n' c' => Lib.run_eql_slice_nil w _ _ a n c n' c' Tryd.underlying26
  rcases A with _ | A
  · have hnil : xs = [] := by
      rcases Nat.eq_zero_or_pos xs.length with h | h
      · exact List.eq_nil_of_length_eq_zero h
      · obtain ⟨b, off, hb, _⟩ := hA h; cases hb
    have HN := hide hnil
    clear hnil hA
    go_enter Tryd.func68, Tryd.ntmps68
    go_wp2
    go_ret
    exact ⟨_, rfl, by rw [HN.out]; exact Own.nil_, Below.refl _ _⟩
  · have HO := hide (Own.made (T := tInt) (e := 3) w (S := fun b => b = w.heap.size) #[] 0 (by simp) (by simp [maxLen]) rfl)
    have HR := hide ((hA.mono (w' := w.alloc (.cells #[] 3)) (S' := Old w) (fun _ h => h) (fun b h => Below.heap_alloc _ _ _ h)).anyInt)
    clear hA
    go_enter Tryd.func68, Tryd.ntmps68
    go_wp2_with (at_builtin; refine wpList_app tInt rfl (.tmp 5) (.tmp 6) 26 rfl 3 i0 _ 8 Tryd.underlying26 hi hz0 hz1 hz2 rfl (by decide) (fun b => b = w.heap.size) (fun _ => False) (fun b => w.heap.size ≤ b) [] xs _ rfl HO.out _ xs.length c rfl rfl HR.out (by simp only [maxLen, List.length_nil]; omega) (by simp only [List.length_nil]; omega) (fun b h => by subst h; simp [Old]) (fun b h => h.elim) (fun b h => by omega) (fun b h => h.elim) (by simp) ?_; intro v' w' hO2 hg2; have HO2 := hide hO2; have HG := hide hg2; clear hO2 hg2)
    go_ret
    refine ⟨v', rfl, HO2.out, ((Below.refl _ w).alloc (Nat.le_refl _) _).grown HG.out (by simp) (fun k hk => ?_)⟩
    have hk2 : some w.heap.size = some k := hk
    injection hk2 with hk3
    exact Nat.le_of_eq hk3

theorem clip_Int (n : Nat) (A : Option Addr) (c : Nat) (w : World) (hl : n ≤ c) (hc : c ≤ maxLen) :
    Calls Tryd.prog 69 #[.slice A n c] w fun e w' => e = .returned (.slice A n n) ∧ w = w' := by
  unfold maxLen at hc
  have h1 : (0 : Int) ≤ (n : Int) := by omega
  have h2 : (n : Int) ≤ (c : Int) := by omega
  go_enter Tryd.func69, Tryd.ntmps69
  go_wp2
  go_ret
  exact ⟨rfl, rfl⟩

/-- What is kept of the order that was found. -/
def FoundAt (lo fb kb : Nat) (w : World) (o : List Int) : Prop :=
  ∃ A c, Blk w fb 26 #[.slice A o.length c] ∧ Blk w kb 4 #[.bool true] ∧ HoldI w (In lo w.heap.size) o (.slice A o.length c)
set_option maxRecDepth 10000 in
set_option maxHeartbeats 400000 in
theorem found_any (o : List Int) (A : Option Addr) (c : Nat) (W : World) (lo fb kb : Nat) (u1 u2 : Value) (hf : Blk W fb 26 #[u1]) (hk : Blk W kb 4 #[u2]) (hne : fb ≠ kb) (hlo : lo ≤ W.heap.size) (hl : o.length ≤ 2097152) (hA : Row tInt W (Old W) A o) :
    Calls Tryd.prog 67 #[.slice A o.length c, .pointer (some ⟨fb, 0, none⟩), .pointer (some ⟨kb, 0, none⟩)] W fun e w' => e = .returned (.bool false) ∧ Only (fun b => b = fb ∨ b = kb) W w' ∧ FoundAt lo fb kb w' o := by
  have HC := hide (clone_Int o A c W hl hA)
  have HF := hide hf; have HK := hide hk
  have hfl := hf.lt; have hkl := hk.lt
  clear hf hk hA
  go_enter Tryd.func67, Tryd.ntmps67
  go_wp2_with (go_at_call 68; refine HC.out.mono ?_; rintro e w2 ⟨v, rfl, hO, hb⟩; obtain ⟨A2, c2, rfl, h21, h22, _⟩ := hO.sl; have HO := hide hO; have HB := hide hb; have d0 := (HF.out.below hb hfl).cell 0; have d1 := (HF.out.below hb hfl).frozen 0; have e0 := (HK.out.below hb hkl).cell 0; have e1 := (HK.out.below hb hkl).frozen 0; simp only [List.getElem?_toArray, List.getElem?_cons_zero, List.getElem?_cons_succ] at d0 e0; clear hO hb)
  go_ret
  obtain ⟨g, hH, _⟩ := HO.out.hold
  have hf2 := HF.out.below HB.out hfl
  have hk2 := HK.out.below HB.out hkl
  refine ⟨rfl, ((Only.of_below HB.out).setCell (p := ⟨fb, 0, none⟩) (.inl rfl) _).setCell (p := ⟨kb, 0, none⟩) (.inr rfl) _, A2, c2, ?_, ?_, g, ?_⟩
  · exact (hf2.set_ 0 _).far (p := ⟨kb, 0, none⟩) (fun h => hne h) _
  · exact (hk2.far (p := ⟨fb, 0, none⟩) (fun h => hne h.symm) _).set_ 0 _
  · refine hH.mono (fun b hb => ⟨Nat.le_trans hlo hb.1, by simpa using hb.2⟩) (fun b hb => ?_)
    have := hb.1
    rw [Below.heap_setCell _ _ _ _ (by simp; omega), Below.heap_setCell _ _ _ _ (by simp; omega)]
/-- What firstSerial answers. -/
def FirstPost (f : Option (List Int)) (w : World) (e : Ending) (w' : World) : Prop :=
  ∃ v, e = .returned (.tuple #[v, .bool f.isSome]) ∧ HoldI w' (New w w') (f.getD []) v ∧ Below w.heap.size w w'
set_option maxRecDepth 10000 in
set_option maxHeartbeats 1000000 in
theorem firstSerial_any (h : List Txn) (A : Option Addr) (c : Nat) (w : World) (alw : List Int → Int → Bool) (gal : Nat) (lbal : Array Value)
    (hv : histV h = true) (hA : Row tTxn w (Old w) A h)
    (eal : ∀ args w, (callFunc gal args).run Tryd.prog w = .ok (.enter gal args) w)
    (halw : ∀ (W : World) (pre : List Int) (gone n : Nat), n < h.length → BitsOf gone pre → (∀ x ∈ pre, x < (h.length : Int)) → Below w.heap.size w W →
      Calls Tryd.prog gal (#[.int .u64 gone, .int .i64 n] ++ lbal) W fun e w' => e = .returned (.bool (alw pre n)) ∧ Below W.heap.size W w') :
    Calls Tryd.prog 39 #[.slice A h.length c, .func (.func gal) #[] lbal] w (FirstPost (firstGood (goodR alw h) (doneL h)) w) := by
  have hmf : ∀ (fn : Fn) (first cap : Array Value) (w : World), (Instr.makeFunc fn first cap).run Tryd.prog w = .ok (.func fn first cap) w := fun _ _ _ _ => rfl
  have HA := hide hA; have HAl := hide halw
  clear hA halw
  go_enter Tryd.func39, Tryd.ntmps39
  go_upto_region 3 with (fail)
  generalize hW : World.alloc _ _ = W
  have hf : Blk W w.heap.size 26 #[.slice none 0 0] := by rw [← hW]; exact (Blk.new w 26 #[.slice none 0 0]).alloc _
  have hk : Blk W (w.heap.size + 1) 4 #[.bool false] := by
    rw [← hW]
    have := (Blk.new (w.alloc (.cells #[.slice none 0 0] 26)) 4 #[.bool false])
    rw [World.size_alloc] at this
    exact this
  have hb : Below w.heap.size w W := by rw [← hW]; exact ((Below.refl _ w).alloc (Nat.le_refl _) _).alloc (by simp) _
  have hs : W.heap.size = w.heap.size + 2 := by rw [← hW]; simp
  clear hW
  have HB := hide hb; have HS := hide hs; have HF := hide hf; have HK := hide hk
  have HE := hide (eachSerial_any h A c W alw (fun b => b = w.heap.size ∨ b = w.heap.size + 1) (FoundAt w.heap.size w.heap.size (w.heap.size + 1)) 67 gal #[.pointer (some ⟨w.heap.size, 0, none⟩), .pointer (some ⟨w.heap.size + 1, 0, none⟩)] lbal hv (fun b hb => by rcases hb with h | h <;> omega)
    (HA.out.mono (fun b hb => ⟨Nat.lt_of_lt_of_le hb HB.out.size, fun h => by have hb' : b < w.heap.size := hb; rcases h with h | h <;> omega⟩) (fun b hb => HB.out.block b hb))
    (enters_of Tryd.func67 (by kernel_rfl) rfl) eal
    (fun W2 o g cap hg ho hoc hcc hO hR => by
      have hl2 := hO.size
      have hu1 := HF.out.below hO (by omega)
      have hu2 := HK.out.below hO (by omega)
      exact found_any o _ cap W2 w.heap.size w.heap.size (w.heap.size + 1) _ _ hu1 hu2 (by omega) (by omega) (by omega) hR)
    (fun W2 pre gone n hn hbt hin hO => HAl.out W2 pre gone n hn hbt hin (Only.after (K := fun b => w.heap.size ≤ b) HB.out hO (fun b hb hl => by rcases hb with (hb | hb) | hb <;> omega)).below))
  clear hb hs hf hk
  go_upto_region 4 with (go_at_call 66; refine HE.out.mono ?_; rintro e w2 ⟨⟨v2, rfl⟩, hO2, hP⟩; have HO2 := hide hO2; have HP := hide hP; clear hO2 hP)
  have hB2 : Below w.heap.size w w2 := (Only.after (K := fun b => w.heap.size ≤ b) HB.out HO2.out (fun b hb hl => by omega)).below
  have HB2 := hide hB2
  clear hB2
  cases hd : firstGood (goodR alw h) (doneL h) with
  | none =>
    rw [hd] at HP
    have d0 := (HF.out.of (HP.out _ (.inl rfl))).cell 0
    have d1 := (HK.out.of (HP.out _ (.inr rfl))).cell 0
    simp only [List.getElem?_toArray, List.getElem?_cons_zero, List.getElem?_cons_succ] at d0 d1
    have HX := hide hd
    clear hd
    go_quiet ((go_at_call 69; exact Calls.quiet_of_same ((clip_Int 0 none 0 _ (Nat.le_refl _) (by simp [maxLen])).mono (fun _ _ h => ⟨h.1, h.2.symm⟩))))
    go_wp2_with fail
    go_ret2
    unfold FirstPost
    rw [HX.out]
    refine ⟨_, rfl, ⟨0, ?_⟩, HB2.out.trans ⟨rfl, rfl, rfl, Nat.le_refl _, fun _ _ => rfl⟩⟩
    exact Hold.nil 0
  | some o =>
    rw [hd] at HP
    obtain ⟨A2, c2, hF2, hK2, hH2⟩ := HP.out
    have d0 := hF2.cell 0
    have d1 := hK2.cell 0
    simp only [List.getElem?_toArray, List.getElem?_cons_zero, List.getElem?_cons_succ] at d0 d1
    have HX := hide hd
    have HH := hide hH2
    obtain ⟨A3, c3, hv2, h21, h22, _⟩ := hH2.sl
    injection hv2 with hA2 _ hc2
    subst hA2
    subst hc2
    have HClip := hide (fun W => clip_Int o.length A2 c2 W h21 h22)
    clear h21 h22 hd hF2 hK2 hH2
    go_quiet ((go_at_call 69; exact Calls.quiet_of_same ((HClip.out _).mono (fun _ _ h => ⟨h.1, h.2.symm⟩))))
    go_wp2_with fail
    go_ret2
    obtain ⟨g, hg⟩ := HH.out
    unfold FirstPost
    rw [HX.out]
    refine ⟨_, rfl, ⟨g, ?_⟩, HB2.out.trans ⟨rfl, rfl, rfl, Nat.le_refl _, fun _ _ => rfl⟩⟩
    exact hg.clip
end Go.Proofs.YtmlbfhknapkhgaaDoor
