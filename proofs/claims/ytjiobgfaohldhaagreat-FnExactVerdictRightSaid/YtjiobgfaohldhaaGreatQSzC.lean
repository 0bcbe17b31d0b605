/- Verdicts in the laws package: conversions, sizes, equality, marks. The marks that the laws package writes into transactions and reads back. Comparing equal data of the laws package answers true: transactions. The sizes that the laws package counts: transactions. -/
import Derived.Test.YtjiobgfaohldhaaGreatQToA
import Derived.Test.YtjiobgfaohldhaaGreatQAllF
import Derived.Test.YtjiobgfaohldhaaGreatQHoldsI
import Derived.Test.YtjiobgfaohldhaaGreatQConcat
import Derived.Test.YtjiobgfaohldhaaGreatQContC
import Derived.Test.YtjiobgfaohldhaaGreatProg
namespace Go.Proofs.YtjiobgfaohldhaaGreat
open Go.RowKit
set_option linter.unusedVariables false
set_option linter.unusedSimpArgs false

set_option maxHeartbeats 1000000 in
theorem toVerdict (g : Bool) (o : List Int) (cs : List (List Int)) (A B : Option Addr) (c d : Nat) (w : World) (ho : o.length ≤ 1048576) (hc : cs.length ≤ 1048576) (hn : ∀ x ∈ cs, x.length ≤ 1048576) (hA : Row tInt w (Old w) A o) (hB : Row (tSlice tInt) w (Old w) B cs) :
    Calls Tryz.prog 9 #[.agg #[.bool g, .slice A o.length c, .slice B cs.length d]] w fun e w' => ∃ vo vc, e = .returned (.agg #[.bool g, vo, vc]) ∧ Sl tInt w' (New w w') o vo ∧ Sl (tSlice tInt) w' (New w w') cs vc ∧ Below w.heap.size w w' := by
  have HA := hide hA; have HB := hide hB
  clear hA hB
  have HX := hide (show Below w.heap.size w (((w.alloc (.cells #[.bool g, .slice A o.length c, .slice B cs.length d] 26)).alloc (.cells #[.bool false, .slice none 0 0, .slice none 0 0] 32)).alloc (.cells #[.bool false, .slice none 0 0, .slice none 0 0] 32)) from (((Below.refl _ w).alloc (Nat.le_refl _) _).alloc (by simp) _).alloc (by simp; omega) _)
  go_enter Tryz.func9, Tryz.ntmps9
  go_upto_region 2 with fail
  generalize hW : World.alloc _ _ = W
  have hB0 : Blk W w.heap.size 26 #[.bool g, .slice A o.length c, .slice B cs.length d] := by rw [← hW]; exact ((Blk.new w _ _).alloc _).alloc _
  have hB1 : Blk W (w.heap.size + 1) 32 #[.bool false, .slice none 0 0, .slice none 0 0] := by rw [← hW]; have := (Blk.new (w.alloc (.cells #[.bool g, .slice A o.length c, .slice B cs.length d] 26)) 32 #[.bool false, .slice none 0 0, .slice none 0 0]).alloc (.cells #[.bool false, .slice none 0 0, .slice none 0 0] 32); simpa using this
  have hB2 : Blk W (w.heap.size + 2) 32 #[.bool false, .slice none 0 0, .slice none 0 0] := by rw [← hW]; have := (Blk.new ((w.alloc (.cells #[.bool g, .slice A o.length c, .slice B cs.length d] 26)).alloc (.cells #[.bool false, .slice none 0 0, .slice none 0 0] 32)) 32 #[.bool false, .slice none 0 0, .slice none 0 0]); simpa using this
  have hs : W.heap.size = w.heap.size + 3 := by rw [← hW]; simp
  rw [hW] at HX
  clear hW
  have HS := hide hs; have H0 := hide hB0; have H1 := hide hB1; have H2 := hide hB2
  have x0 := hB0.cell 0; have x1 := hB0.cell 1; have x2 := hB0.cell 2; have y0 := hB2.cell 0; have p0 := hB2.frozen 0
  simp only [List.getElem?_toArray, List.getElem?_cons_zero, List.getElem?_cons_succ] at x0 x1 x2 y0
  clear hs hB0 hB1 hB2
  go_upto_region 3 with fail
  have hW3 : Below w.heap.size w (W.setCell ⟨w.heap.size + 2, 0, none⟩ (.bool g)) := HX.out.setCell (by simp) _
  have H03 := hide (H0.out.far (p := ⟨w.heap.size + 2, 0, none⟩) (by simp) (.bool g))
  have H13 := hide (H1.out.far (p := ⟨w.heap.size + 2, 0, none⟩) (by simp) (.bool g))
  have H23 := hide (show Blk (W.setCell ⟨w.heap.size + 2, 0, none⟩ (.bool g)) (w.heap.size + 2) 32 #[.bool g, .slice none 0 0, .slice none 0 0] from H2.out.set_ 0 _)
  have HS3 := hide (show (W.setCell ⟨w.heap.size + 2, 0, none⟩ (.bool g)).heap.size = w.heap.size + 3 by have := HS.out; simpa using this)
  have HW3 := hide hW3
  clear hW3 HX H0 H1 H2 HS x0 x1 x2 y0 p0
  generalize W.setCell _ _ = w3 at HW3 H03 H13 H23 HS3 ⊢
  have x1 := H03.out.cell 1
  simp only [List.getElem?_toArray, List.getElem?_cons_zero, List.getElem?_cons_succ] at x1
  have HC1 := hide (toIntS o A c w3 ho (HA.out.old HW3.out))
  go_upto_region 4 with (go_at_call 27; refine HC1.out.mono ?_; rintro e w4 ⟨v4, rfl, hO4, hb4⟩; obtain ⟨A4, c4, rfl, _, _, _⟩ := hO4.sl; have HO4 := hide hO4.sl; have HB4 := hide hb4; have h24 := H23.out.below hb4 H23.out.lt; have y1 := h24.cell 1; have p1 := h24.frozen 1; simp only [List.getElem?_toArray, List.getElem?_cons_zero, List.getElem?_cons_succ] at y1; clear hb4 hO4)
  have hz4 : w.heap.size + 3 ≤ w4.heap.size := by have := HB4.out.size; have := HS3.out; omega
  have HW5 := hide ((HW3.out.trans (HB4.out.mono HW3.out.size)).setCell (p := ⟨w.heap.size + 2, 1, none⟩) (by simp) (.slice A4 o.length c4))
  have H05 := hide ((H03.out.below HB4.out H03.out.lt).far (p := ⟨w.heap.size + 2, 1, none⟩) (by simp) (.slice A4 o.length c4))
  have H15 := hide ((H13.out.below HB4.out H13.out.lt).far (p := ⟨w.heap.size + 2, 1, none⟩) (by simp) (.slice A4 o.length c4))
  have H25 := hide (show Blk (w4.setCell ⟨w.heap.size + 2, 1, none⟩ (.slice A4 o.length c4)) (w.heap.size + 2) 32 #[.bool g, .slice A4 o.length c4, .slice none 0 0] from (H23.out.below HB4.out H23.out.lt).set_ 1 _)
  have HO5 := hide (HO4.out.mono (w' := w4.setCell ⟨w.heap.size + 2, 1, none⟩ (.slice A4 o.length c4)) (S' := fun b => w.heap.size + 3 ≤ b ∧ Old (w4.setCell ⟨w.heap.size + 2, 1, none⟩ (.slice A4 o.length c4)) b) (fun b h => ⟨by have := h.1; have := HS3.out; omega, by have := h.2; simpa [Old] using this⟩) (fun b h => Below.heap_setCell _ _ _ _ (by have := h.1; have := HS3.out; simp; omega)))
  have HZ5 := hide (show w.heap.size + 3 ≤ (w4.setCell ⟨w.heap.size + 2, 1, none⟩ (.slice A4 o.length c4)).heap.size by simpa using hz4)
  clear x1 y1 p1 HW3 H03 H13 H23 HS3 HO4 HB4 hz4
  generalize w4.setCell _ _ = w5 at HW5 H05 H15 H25 HO5 HZ5 ⊢
  have x2 := H05.out.cell 2
  simp only [List.getElem?_toArray, List.getElem?_cons_zero, List.getElem?_cons_succ] at x2
  have HC2 := hide (toIntSS cs B d w5 hc hn (HB.out.old HW5.out))
  go_upto_region 5 with (go_at_call 28; refine HC2.out.mono ?_; rintro e w6 ⟨v6, rfl, hO6, hb6⟩; obtain ⟨A6, c6, rfl, _, _, _⟩ := hO6.weakIntS.sl; have HO6 := hide hO6.weakIntS.sl; have HB6 := hide hb6; have h26 := H25.out.below hb6 H25.out.lt; have h16 := H15.out.below hb6 H15.out.lt; have y0 := h26.cell 0; have y1 := h26.cell 1; have y2 := h26.cell 2; have p2 := h26.frozen 2; have r0 := h16.cell 0; have r1 := h16.cell 1; have r2 := h16.cell 2; have q0 := h16.frozen 0; have q1 := h16.frozen 1; have q2 := h16.frozen 2; simp only [List.getElem?_toArray, List.getElem?_cons_zero, List.getElem?_cons_succ] at y0 y1 y2 r0 r1 r2; clear hb6 hO6 h26 h16)
  have hz6 : w.heap.size + 3 ≤ w6.heap.size := by have := HB6.out.size; have := HZ5.out; omega
  have HW6 := hide (HW5.out.trans (HB6.out.mono HW5.out.size))
  go_wp2_with fail
  refine bodyPost_ret (v := .agg #[.bool g, .slice A4 o.length c4, .slice A6 cs.length c6]) (by simp [results, Tryz.results9, go_sem, r0, r1, r2]) rfl ⟨_, _, rfl, ?_, ?_, ?_⟩
  · refine HO5.out.mono (fun b h => ⟨by have := h.1; omega, by have := h.2; have := HB6.out.size; simp [Old] at *; omega⟩) (fun b h => ?_)
    have h1 := h.1
    repeat (first | rw [Below.heap_setCell _ _ _ _ (by simp; try omega)])
    exact HB6.out.block b h.2
  · refine HO6.out.mono (fun b h => ⟨by have := h.1; have := HZ5.out; omega, by have := h.2; simpa [Old] using this⟩) (fun b h => ?_)
    have h1 := h.1
    have h2 := HZ5.out
    repeat (first | rw [Below.heap_setCell _ _ _ _ (by simp; try omega)])
  · repeat (first | refine Below.setCell ?_ (by simp; try omega) _ | exact HW6.out)
set_option maxHeartbeats 1000000 in
theorem szVerdict (g : Bool) (o : List Int) (cs : List (List Int)) (A B : Option Addr) (c d : Nat) (left : Int) (w : World) (ho : o.length ≤ maxLen) (hc : cs.length ≤ maxLen) (hn : ∀ x ∈ cs, x.length ≤ maxLen) (h0 : 0 ≤ left) (h1 : left ≤ 1048576) (hB : Row (tSlice tInt) w (Old w) B cs) :
    Calls Tryz.prog 6 #[.agg #[.bool g, .slice A o.length c, .slice B cs.length d], .int .i64 left] w fun e w' => ∃ r, e = .returned (.int .i64 r) ∧ (r = -1 ∨ (0 ≤ r ∧ o.length ≤ 1048576 ∧ cs.length ≤ 1048576 ∧ ∀ x ∈ cs, x.length ≤ 1048576)) ∧ Below w.heap.size w w' := by
  have HB0 := hide ((Below.refl _ w).alloc (Nat.le_refl _) (.cells #[.bool g, .slice A o.length c, .slice B cs.length d] 26))
  have HX0 := hide (Blk.new w 26 #[.bool g, .slice A o.length c, .slice B cs.length d])
  have HB := hide hB
  have HN := hide hn
  have hq1 : o.length ≤ 9223372036854775807 := by simpa [maxLen] using ho
  have hq2 : cs.length ≤ 9223372036854775807 := by simpa [maxLen] using hc
  clear hB hn
  go_enter Tryz.func6, Tryz.ntmps6
  go_upto_region 1 with fail
  generalize w.alloc _ = W at HB0 HX0 ⊢
  have x1 := HX0.out.cell 1
  have x2 := HX0.out.cell 2
  simp only [List.getElem?_toArray, List.getElem?_cons_zero, List.getElem?_cons_succ] at x1 x2
  have HS := hide (szIntS o.length A c left W ho h0 h1)
  go_upto_region 2 with (go_at_call 19; refine HS.out.mono ?_; rintro e w1 ⟨r, rfl, hr, rfl⟩; have HR := hide hr; clear hr)
  rcases HR.out with rfl | ⟨hg, hk⟩
  · go_wp2_with fail
    go_ret
    exact ⟨_, rfl, .inl rfl, HB0.out⟩
  · have hg' : ¬ r < 0 := by omega
    have HS2 := hide (szIntSS cs B d r W hc HN.out (by omega) (by omega) (HB.out.old HB0.out))
    go_upto_region 5 with (go_at_call 20; refine HS2.out.mono ?_; rintro e w2 ⟨r2, rfl, hr2, hb2⟩; have HR2 := hide hr2; have HB2 := hide (HB0.out.trans (hb2.mono HB0.out.size)); clear hr2 hb2)
    rcases HR2.out with rfl | ⟨hg2, hk2⟩
    · go_wp2_with fail
      go_ret
      exact ⟨_, rfl, .inl rfl, HB2.out⟩
    · have hg3 : ¬ r2 < 0 := by omega
      have HL := hide (show ∀ x ∈ cs, x.length ≤ 1048576 from fun x hx => Nat.le_trans (tot_le List.length cs x hx) (by omega))
      have hlo : o.length ≤ 1048576 := by omega
      have hlc : cs.length ≤ 1048576 := by omega
      have h02 : 0 ≤ r2 := by omega
      clear hk hk2
      go_wp2_with fail
      go_ret
      refine ⟨_, rfl, ?_, HB2.out⟩
      first | exact .inr ⟨h02, hlo, hlc, HL.out⟩ | exact .inr ⟨h02, HL.out⟩
set_option maxHeartbeats 1000000 in
theorem eqVerdict (g : Bool) (o : List Int) (cs : List (List Int)) (A B A' B' : Option Addr) (c d c' d' : Nat) (w : World) (ho : o.length ≤ maxLen) (hc : cs.length ≤ maxLen) (hn : ∀ x ∈ cs, x.length ≤ maxLen) (hA : Row tInt w (Old w) A o) (hB : Row (tSlice tInt) w (Old w) B cs) (hA' : Row tInt w (Old w) A' o) (hB' : Row (tSlice tInt) w (Old w) B' cs) :
    Calls Tryz.prog 12 #[.agg #[.bool g, .slice A o.length c, .slice B cs.length d], .agg #[.bool g, .slice A' o.length c', .slice B' cs.length d']] w fun e w' => e = .returned (.bool true) ∧ Below w.heap.size w w' := by
  have HB0 := hide (((Below.refl _ w).alloc (Nat.le_refl _) (.cells #[.bool g, .slice A o.length c, .slice B cs.length d] 32)).alloc (by simp) (.cells #[.bool g, .slice A' o.length c', .slice B' cs.length d'] 32))
  have HX0 := hide ((Blk.new w 32 #[.bool g, .slice A o.length c, .slice B cs.length d]).alloc (.cells #[.bool g, .slice A' o.length c', .slice B' cs.length d'] 32))
  have HX1 := hide (show Blk ((w.alloc (.cells #[.bool g, .slice A o.length c, .slice B cs.length d] 32)).alloc (.cells #[.bool g, .slice A' o.length c', .slice B' cs.length d'] 32)) (w.heap.size + 1) 32 #[.bool g, .slice A' o.length c', .slice B' cs.length d'] by have := Blk.new (w.alloc (.cells #[.bool g, .slice A o.length c, .slice B cs.length d] 32)) 32 #[.bool g, .slice A' o.length c', .slice B' cs.length d']; simpa using this)
  have HA := hide hA; have HB := hide hB; have HA' := hide hA'; have HB' := hide hB'; have HN := hide hn
  clear hA hB hA' hB' hn
  go_enter Tryz.func12, Tryz.ntmps12
  go_upto_region 1 with fail
  generalize World.alloc _ _ = W at HB0 HX0 HX1 ⊢
  have HE1 := hide (eqIntS o A A' c c' W ho (HA.out.old HB0.out) (HA'.out.old HB0.out))
  have HE2 := hide (fun (W2 : World) (hb : Below w.heap.size w W2) => eqIntSS cs B B' d d' W2 hc HN.out (HB.out.old hb) (HB'.out.old hb))
  have x0 := HX0.out.cell 0; have x1 := HX0.out.cell 1
  have y0 := HX1.out.cell 0; have y1 := HX1.out.cell 1
  simp only [List.getElem?_toArray, List.getElem?_cons_zero, List.getElem?_cons_succ] at x0 x1 y0 y1
  go_wp2_with (first | (go_at_call 33; refine HE1.out.mono ?_; rintro e w1 ⟨rfl, hb1⟩; have HB1 := hide (HB0.out.trans (hb1.mono HB0.out.size)); have x2 := (HX0.out.below hb1 HX0.out.lt).cell 2; have y2 := (HX1.out.below hb1 HX1.out.lt).cell 2; simp only [List.getElem?_toArray, List.getElem?_cons_zero, List.getElem?_cons_succ] at x2 y2; clear hb1) | (go_at_call 34; refine (HE2.out _ HB1.out).mono ?_; rintro e w2 ⟨rfl, hb2⟩; have HB2 := hide (HB1.out.trans (hb2.mono HB1.out.size)); clear hb2))
  go_ret
  exact ⟨rfl, HB2.out⟩
def VMark (w : World) (S : Nat → Prop) (A B : Option Addr) (o : List Int) (cs : List (List Int)) (gs : List Nat) : Prop := MarksAt w S A 1 o.length ∧ MarkedS w S B (1 + (o.length : Int)) (lensS cs) gs
theorem VMark.keep {w w' : World} {S : Nat → Prop} {A B : Option Addr} {o : List Int} {cs : List (List Int)} {gs : List Nat} (h : VMark w S A B o cs gs) (hw : ∀ b, S b → w'.heap[b]? = w.heap[b]?) : VMark w' S A B o cs gs := ⟨h.1.keep hw, h.2.keep hw⟩
theorem HoldI.none' {w : World} {S S' : Nat → Prop} {A : Option Addr} {n c : Nat} {o : List Int} (h : HoldI w S o (.slice A n c)) (ho : o = []) : HoldI w S' o (.slice A n c) := by
  obtain ⟨gg, A9, c9, h1, h2, h3, h4⟩ := h
  exact ⟨gg, A9, c9, h1, h2, h3, fun hp => absurd hp (by rw [ho]; simp)⟩
theorem HoldS.none' {w : World} {S S' : Nat → Prop} {A : Option Addr} {n c : Nat} {cs : List (List Int)} (h : HoldS w S cs (.slice A n c)) (ho : cs = []) : HoldS w S' cs (.slice A n c) := by
  obtain ⟨ps, gg, hp, ⟨A9, c9, h1, h2, h3, h4⟩, hf⟩ := h
  have hps : ps = [] := by rw [ho] at hp; exact List.map_eq_nil_iff.1 hp
  exact ⟨ps, gg, hp, ⟨A9, c9, h1, h2, h3, fun hp => absurd hp (by rw [hps]; simp)⟩, hf⟩
theorem only_false {w w' : World} {S : Nat → Prop} (h : Only (fun _ => False) w w') : Only S w w' := h.mono fun _ e => e.elim
set_option maxHeartbeats 1000000 in
theorem markVerdict (g : Bool) (o : List Int) (cs : List (List Int)) (A B : Option Addr) (c d : Nat) (w : World) (S : Nat → Prop) (ho : o.length ≤ 1000) (hcl : cs.length ≤ 1048576) (hcn : ∀ x ∈ cs, x.length ≤ 1048576) (hz : o = [] ∨ cs = []) (hSo : ∀ b, S b → Old w b) (hO : HoldI w S o (.slice A o.length c)) (hC : HoldS w S cs (.slice B cs.length d)) :
    Calls Tryz.prog 16 #[.agg #[.bool g, .slice A o.length c, .slice B cs.length d], .int .i64 1] w fun e w' => ∃ gs, e = .returned (.int .i64 (kS (1 + (o.length : Int)) (lensS cs) cs.length)) ∧ Only S w w' ∧ VMark w' S A B o cs gs := by
  have HW := hide ((Below.refl _ w).alloc (Nat.le_refl _) (.cells #[.bool g, .slice A o.length c, .slice B cs.length d] 32))
  have HX := hide (Blk.new w 32 #[.bool g, .slice A o.length c, .slice B cs.length d])
  have HO := hide (hO.mono (w' := w.alloc (.cells #[.bool g, .slice A o.length c, .slice B cs.length d] 32)) (fun _ h => h) (fun b hb => Below.heap_alloc _ _ _ (hSo b hb)))
  have HC := hide (hC.mono (w' := w.alloc (.cells #[.bool g, .slice A o.length c, .slice B cs.length d] 32)) (fun _ h => h) (fun b hb => Below.heap_alloc _ _ _ (hSo b hb)))
  have HS := hide hSo; have HN := hide hcn
  clear hO hC hSo hcn
  go_enter Tryz.func16, Tryz.ntmps16
  go_upto_region 1 with fail
  generalize w.alloc _ = W at HW HX HO HC ⊢
  have x1 := HX.out.cell 1
  simp only [List.getElem?_toArray, List.getElem?_cons_zero, List.getElem?_cons_succ] at x1
  have HM := hide (show Calls Tryz.prog 44 #[.slice A o.length c, .int .i64 1] W fun e w' => e = .returned (.int .i64 (1 + o.length)) ∧ (Only S W w' ∧ HoldS w' S cs (.slice B cs.length d)) ∧ (cs ≠ [] ∨ MarksAt w' S A 1 o.length) ∧ MarksAt w' S A 1 o.length by
    rcases hz with hz | hz
    · refine (markInt_hold o 1 A c W (fun _ => False) (by omega) (by omega) (by omega) (HO.out.none' hz)).mono ?_
      rintro e w' ⟨_, rfl, ho2, hk⟩
      have hm : MarksAt w' S A 1 o.length := by rw [hz] at hk ⊢; exact fun hp => absurd hp (by simp)
      exact ⟨rfl, ⟨only_false ho2, HC.out.mono (fun _ h => h) (fun b hb => ho2.block b (Nat.lt_of_lt_of_le (HS.out b hb) HW.out.size) (fun e => e))⟩, .inr hm, hm⟩
    · refine (markInt_hold o 1 A c W S (by omega) (by omega) (by omega) HO.out).mono ?_
      rintro e w' ⟨_, rfl, ho2, hk⟩
      refine ⟨rfl, ⟨ho2, ?_⟩, .inr hk, hk⟩
      obtain ⟨ps, gg, hp, ⟨A9, c9, h1, h2, h3, h4⟩, hf⟩ := HC.out
      have hps : ps = [] := by rw [hz] at hp; exact List.map_eq_nil_iff.1 hp
      exact ⟨ps, gg, hp, ⟨A9, c9, h1, h2, h3, fun hp => absurd hp (by rw [hps]; simp)⟩, hf⟩)
  go_upto_region 2 with (go_at_call 44; refine HM.out.mono ?_; rintro e w1 ⟨rfl, ⟨ho1, hc1⟩, -, hk1⟩; have HO1 := hide ho1; have HC1 := hide hc1; have HK1 := hide hk1; have x2 := (HX.out.of (ho1.block _ HX.out.lt (fun e => by have := HS.out _ e; simp [Old] at this))).cell 2; simp only [List.getElem?_toArray, List.getElem?_cons_zero, List.getElem?_cons_succ] at x2; clear ho1 hc1 hk1)
  have HM2 := hide (show Calls Tryz.prog 45 #[.slice B cs.length d, .int .i64 (1 + (o.length : Int))] w1 fun e w' => ∃ gs, e = .returned (.int .i64 (kS (1 + (o.length : Int)) (lensS cs) cs.length)) ∧ Only S w1 w' ∧ VMark w' S A B o cs gs by
    rcases hz with hz | hz
    · refine (markIntS_hold cs (1 + o.length) B d w1 S hcl HN.out (by omega) (by omega) HC1.out).mono ?_
      rintro e w' ⟨gs, rfl, ho2, hk⟩
      exact ⟨gs, rfl, ho2, by rw [hz]; exact fun hp => absurd hp (by simp), hk⟩
    · refine (markIntS_hold cs (1 + o.length) B d w1 (fun _ => False) hcl HN.out (by omega) (by omega) (HC1.out.none' hz)).mono ?_
      rintro e w' ⟨gs, rfl, ho2, hk⟩
      exact ⟨gs, rfl, only_false ho2, HK1.out.keep (fun b hb => ho2.block b (Nat.lt_of_lt_of_le (HS.out b hb) (Nat.le_trans HW.out.size HO1.out.size)) (fun e => e)), by rw [hz]; exact fun hp => absurd hp (by simp [lensS])⟩)
  go_wp2_with (go_at_call 45; refine HM2.out.mono ?_; rintro e w2 ⟨gs, rfl, ho2, hk2⟩; have HO2 := hide ho2; have HK2 := hide hk2; clear ho2 hk2)
  go_ret
  exact ⟨gs, rfl, ((Only.of_below HW.out).trans HO1.out).trans HO2.out, HK2.out⟩
set_option maxHeartbeats 1000000 in
theorem heldVerdict (g : Bool) (o : List Int) (cs : List (List Int)) (gs : List Nat) (A B : Option Addr) (c d : Nat) (w : World) (S : Nat → Prop) (ho : o.length ≤ 1000) (hcl : cs.length ≤ 1048576) (hcn : ∀ x ∈ cs, x.length ≤ 1048576) (hSo : ∀ b, S b → Old w b) (hK : VMark w S A B o cs gs) :
    Calls Tryz.prog 17 #[.agg #[.bool g, .slice A o.length c, .slice B cs.length d], .int .i64 1] w fun e w' => e = .returned (.int .i64 (kS (1 + (o.length : Int)) (lensS cs) cs.length)) ∧ Below w.heap.size w w' := by
  have HW := hide ((Below.refl _ w).alloc (Nat.le_refl _) (.cells #[.bool g, .slice A o.length c, .slice B cs.length d] 32))
  have HX := hide (Blk.new w 32 #[.bool g, .slice A o.length c, .slice B cs.length d])
  have HK := hide (hK.keep (w' := w.alloc (.cells #[.bool g, .slice A o.length c, .slice B cs.length d] 32)) (fun b hb => Below.heap_alloc _ _ _ (hSo b hb)))
  clear hK hSo
  go_enter Tryz.func17, Tryz.ntmps17
  go_upto_region 1 with fail
  generalize w.alloc _ = W at HW HX HK ⊢
  have x1 := HX.out.cell 1; have x2 := HX.out.cell 2
  simp only [List.getElem?_toArray, List.getElem?_cons_zero, List.getElem?_cons_succ] at x1 x2
  have HH1 := hide (heldInt_list o () 1 A c W S (by omega) (by omega) (by omega) HK.out.1)
  have HH2 := hide (heldIntS_list cs gs (1 + o.length) B d W S hcl hcn (by omega) (by omega) HK.out.2)
  have hk0 := kS_ge (1 + (o.length : Int)) (lensS cs) cs.length
  have h1 : ¬ (1 + (o.length : Int)) < 0 := by omega
  obtain ⟨r, hr⟩ : ∃ r, r = kS (1 + (o.length : Int)) (lensS cs) cs.length := ⟨_, rfl⟩
  rw [← hr] at HH2 hk0
  have HR := hide hr
  clear hr
  have h2 : ¬ r < 0 := by omega
  have h3 : decide (1 + (o.length : Int) < 0) = false := decide_eq_false h1
  have h4 : decide (r < 0) = false := decide_eq_false h2
  go_wp2_with (first | (go_at_call 46; refine HH1.out.mono ?_; rintro e _ ⟨rfl, rfl⟩) | (go_at_call 47; refine HH2.out.mono ?_; rintro e _ ⟨rfl, rfl⟩))
  go_ret
  exact ⟨ret_int HR.out, HW.out⟩
end Go.Proofs.YtjiobgfaohldhaaGreat
namespace Go.Proofs.YtjiobgfaohldhaaGreat
open Go.RowKit
set_option linter.unusedVariables false
set_option linter.unusedSimpArgs false

theorem get3 {cur : Array Value} {j : Nat} {a b c : Value} (h : j * 3 + 2 < cur.size) (i : Nat) :
    (((cur.setIfInBounds (j * 3) a).setIfInBounds (j * 3 + 1) b).setIfInBounds (j * 3 + 2) c)[i]? = if i = j * 3 + 2 then some c else if i = j * 3 + 1 then some b else if i = j * 3 then some a else cur[i]? := by
  by_cases h2 : i = j * 3 + 2
  · subst h2; rw [if_pos rfl, Array.getElem?_setIfInBounds, if_pos rfl, if_pos (by simp; omega)]
  · rw [if_neg h2, Array.getElem?_setIfInBounds_ne (by omega)]
    by_cases h1 : i = j * 3 + 1
    · subst h1; rw [if_pos rfl, Array.getElem?_setIfInBounds, if_pos rfl, if_pos (by simp; omega)]
    · rw [if_neg h1, Array.getElem?_setIfInBounds_ne (by omega)]
      by_cases h0 : i = j * 3
      · subst h0; rw [if_pos rfl, Array.getElem?_setIfInBounds, if_pos rfl, if_pos (by omega)]
      · rw [if_neg h0, Array.getElem?_setIfInBounds_ne (by omega)]
set_option maxRecDepth 10000 in
set_option maxHeartbeats 1000000 in
theorem markOpS (n : Nat) (k : Int) (A : Option Addr) (c : Nat) (w : World) (S : Nat → Prop) (hn : n ≤ 2097152) (h0 : 0 ≤ k) (h1 : k ≤ 4611686018427387904) (hR : Room w S 82 A (n * 3)) :
    Calls Tryz.prog 43 #[.slice A n c, .int .i64 k] w fun e w' => e = .returned (.int .i64 (k + 3 * (n : Int))) ∧ Only (fun b => S b ∧ 0 < n ∧ ∃ a, A = some a ∧ a.block = b) w w' ∧ Shape w w' ∧ MarksAt w' S A k (n * 3) := by
  go_enter Tryz.func43, Tryz.ntmps43
  go_wp2
  go_loopw [1, 5] (fun m i wr => ∃ j : Nat, j ≤ n ∧ i = .int .i64 j ∧ m = .int .i64 (k + 3 * (j : Int)) ∧ Hid (Only (fun b => S b ∧ 0 < n ∧ ∃ a, A = some a ∧ a.block = b) w wr) ∧ Hid (Shape w wr) ∧ Hid (MarksAt wr S A k (j * 3))) (fun _ i _ => n - (intOf i).toNat)
  case atStart => exact ⟨0, Nat.zero_le _, rfl, by simp, Only.refl _ _, Shape.refl _, fun h => absurd h (by omega)⟩
  case round =>
    obtain ⟨j, hj, rfl, rfl, hO, hS, hM⟩ := hrel
    by_cases hlt : j < n
    · obtain ⟨g, cur, rfl, hg, hB, hsz⟩ := (hR.shape hS.out) (by omega)
      obtain ⟨⟨u0, k0⟩, f0⟩ := hB.there (i := j * 3) (by omega)
      obtain ⟨⟨u1, k1⟩, f1⟩ := hB.there (i := j * 3 + 1) (by omega)
      obtain ⟨⟨u2, k2⟩, f2⟩ := hB.there (i := j * 3 + 2) (by omega)
      have HB := hide hB
      have hsum1 : IntKind.i64.wrap (k + 3 * (j : Int) + 1) = k + 3 * (j : Int) + 1 := by rw [IntKind.wrap_i64]; omega
      have hsum2 : IntKind.i64.wrap (k + 3 * (j : Int) + 1 + 1) = k + 3 * (j : Int) + 1 + 1 := by rw [IntKind.wrap_i64]; omega
      have hsum3 : IntKind.i64.wrap (k + 3 * (j : Int) + 1 + 1 + 1) = k + 3 * (j : Int) + 1 + 1 + 1 := by rw [IntKind.wrap_i64]; omega
      clear hR hB
      go_wp2
      go_roundw
      case rel =>
        refine ⟨j + 1, by omega, by go_num, by rw [show k + 3 * ((j + 1 : Nat) : Int) = k + 3 * (j : Int) + 1 + 1 + 1 by omega], ((hO.out.setCell (p := ⟨g, j * 3, none⟩) ⟨hg, by omega, _, rfl, rfl⟩ _).setCell (p := ⟨g, j * 3 + 1, none⟩) ⟨hg, by omega, _, rfl, rfl⟩ _).setCell (p := ⟨g, j * 3 + 2, none⟩) ⟨hg, by omega, _, rfl, rfl⟩ _, hS.out.trans (((Shape.setCell _ _ _ _).trans (Shape.setCell _ _ _ _)).trans (Shape.setCell _ _ _ _)), fun _ => ⟨g, rfl, hg, fun i hi => ?_⟩⟩
        rw [(((HB.out.set_ (j * 3) _).set_ (j * 3 + 1) _).set_ (j * 3 + 2) _).cell, get3 (by omega)]
        split
        · rename_i h; subst h; congr 2; omega
        · split
          · rename_i h; subst h; congr 2; omega
          · split
            · rename_i h; subst h; congr 2; omega
            · obtain ⟨g', hA, _, hc⟩ := hM.out (by omega)
              have hgg : g' = g := by simpa using hA.symm
              subst hgg
              rw [← HB.out.cell]
              exact hc i (by omega)
      case measure => simp [intOf]; omega
    · obtain rfl : j = n := by omega
      clear hR
      go_wp2
      go_ret
      exact ⟨rfl, hO.out, hS.out, hM.out⟩
theorem Own.roomOp {e : TypeId} {w : World} {S : Nat → Prop} {xs : List Op} {A : Option Addr} {n c : Nat} (h : Own tOp e w S xs (.slice A n c)) : Room w S e A (xs.length * 3) := fun hn => by
  rcases h with ⟨h, rfl⟩ | ⟨g, cap, cur, S', hv, hg, hB, h1, h2, h3, _⟩
  · simp at hn
  · injection hv with hA _ _
    refine ⟨g, cur, hA, hg, hB, ?_⟩
    rw [h3]; show xs.length * 3 ≤ cap * 3; omega
set_option maxRecDepth 10000 in
set_option maxHeartbeats 1000000 in
theorem markTxnS_arg (xs : List Txn) (k : Int) (A : Option Addr) (c : Nat) (w : World) (S : Nat → Prop) (hn : xs.length ≤ 1048576) (hs : ∀ x ∈ xs, x.Ops.length ≤ 1048576) (hk0 : k = 1) (hO : Own (tTxnO 82) 57 w S xs (.slice A xs.length c)) :
    Calls Tryz.prog 15 #[.slice A xs.length c, .int .i64 k] w fun e w' => (∃ r : Int, e = .returned (.int .i64 r) ∧ 0 ≤ r) ∧ Only S w w' := by
  subst hk0
  have hOuter : 0 < xs.length → ∃ g cur S', A = some ⟨g, 0, none⟩ ∧ S g ∧ Blk w g 57 cur ∧ xs.length * 3 ≤ cur.size ∧ (∀ b, S' b → S b) ∧ RowAt (tTxnO 82) w S' g 0 xs := fun h => by
    rcases hO with ⟨_, rfl⟩ | ⟨g, cap, cur, S', hv, hg, hB, h1, _, h3, h4, h5⟩
    · simp at h
    · injection hv with hA _ _
      exact ⟨g, cur, S', hA, hg, hB, by rw [h3]; exact Nat.mul_le_mul_right 3 h1, fun b hb => (h4 b hb).1, h5⟩
  have HOut := hide hOuter
  clear hO hOuter
  go_enter Tryz.func15, Tryz.ntmps15
  go_wp2
  go_loopw [1, 5] (fun m i wr => ∃ (j : Nat) (r : Int), j ≤ xs.length ∧ i = .int .i64 j ∧ m = .int .i64 r ∧ 0 ≤ r ∧ r ≤ 1 + j * 4194304 ∧ Hid (Only S w wr) ∧ Hid (Shape w wr) ∧ Hid (∀ i (h : i < xs.length) g, A = some ⟨g, 0, none⟩ → wr.cell? ⟨g, i * 3 + 1, none⟩ = w.cell? ⟨g, i * 3 + 1, none⟩)) (fun _ i _ => xs.length - (intOf i).toNat)
  case atStart => exact ⟨0, 1, Nat.zero_le _, rfl, rfl, by omega, by omega, Only.refl _ _, Shape.refl _, fun _ _ _ _ => rfl⟩
  case round =>
    obtain ⟨j, r, hj, rfl, rfl, hr0, hr1, hOn, hSh, hCe⟩ := hrel
    by_cases hlt : j < xs.length
    · obtain ⟨g, cur, S', rfl, hg, hB, hsz, hSS, hrow⟩ := HOut.out (by omega)
      obtain ⟨cs, ⟨v, rfl, hOv⟩, hcs⟩ := hrow j hlt
      obtain ⟨cur', hB', hsz'⟩ := hSh.out g _ cur hB
      have c1 : wr.cell? ⟨g, j * 3 + 1, none⟩ = some v := by
        rw [hCe.out j hlt g rfl]
        simpa [tTxnO] using hcs 1 v rfl
      obtain ⟨⟨u0, k0⟩, f0⟩ := hB'.there (i := j * 3) (by omega)
      have hlen := hs _ (List.getElem_mem hlt)
      obtain ⟨A2, c2, rfl, _, _, _⟩ := hOv.sl
      have hRoom := hOv.roomOp
      have HC := hide (markOpS xs[j].Ops.length (r + 1) A2 c2 (wr.setCell ⟨g, j * 3, none⟩ (.int .i64 r)) S' (by omega) (by omega) (by omega) ((hRoom.shape hSh.out).shape (Shape.setCell _ _ _ _)))
      have HRoom := hide hRoom
      have HB := hide hB
      have HB' := hide (hB'.set_ (j * 3) (.int .i64 r))
      have HSz : Hid (j * 3 + 2 < (cur'.setIfInBounds (j * 3) (.int .i64 r)).size) := by show _ < _; simp; omega
      have HSS := hide hSS
      have hsum1 : IntKind.i64.wrap (r + 1) = r + 1 := by rw [IntKind.wrap_i64]; omega
      clear hOv hB hrow hcs hRoom hSS hB' hsz'
      generalize xs[j].Ops.length = ln at HC c1 hlen HRoom
      have hsum2 : IntKind.i64.wrap (r + 1 + 3 * (ln : Int) + 1) = r + 1 + 3 * (ln : Int) + 1 := by rw [IntKind.wrap_i64]; omega
      go_wp2_with (go_at_call 43; refine HC.out.mono ?_; rintro e w2 ⟨rfl, ho, hsh, _⟩; have hne2 : ∀ b, (S' b ∧ 0 < ln ∧ ∃ a, A2 = some a ∧ a.block = b) → b ≠ g := (fun b hb e => by obtain ⟨_, hp, a, hA, rfl⟩ := hb; obtain ⟨g2, cur2, hA2, _, hB2, _⟩ := HRoom.out (by omega); rw [hA] at hA2; have hh : a = ⟨g2, 0, none⟩ := (by simpa using hA2); subst hh; exact Blk.ne_ HB.out hB2 (by decide) e.symm); have HG2 := hide (ho.block g HB'.out.lt (fun h => hne2 g h rfl)); have hB2 := HB'.out.of HG2.out; obtain ⟨⟨u2, k2⟩, f2⟩ := hB2.there (i := j * 3 + 2) HSz.out; have HO2 := hide ho; have HS2 := hide hsh; have HB2 := hide hB2; clear ho hsh hne2 hB2)
      go_roundw
      case rel =>
        refine ⟨j + 1, _, by omega, by go_num, rfl, by omega, by omega, ((hOn.out.setCell (p := ⟨g, j * 3, none⟩) hg _).trans (HO2.out.mono (fun b hb => HSS.out b hb.1))).setCell (p := ⟨g, j * 3 + 2, none⟩) hg _, (hSh.out.trans (Shape.setCell _ _ _ _)).trans (HS2.out.trans (Shape.setCell _ _ _ _)), fun i hi g' hg' => ?_⟩
        obtain rfl : g = g' := by simpa using hg'
        rw [← hCe.out i hi g rfl, World.cell?_setCell_other _ _ _ _ (by intro e; injection e with _ e _; omega), World.cell?_of_block HG2.out, World.cell?_setCell_other _ _ _ _ (by intro e; injection e with _ e _; omega)]
      case measure => simp [intOf]; omega
    · obtain rfl : j = xs.length := by omega
      go_wp2
      go_ret
      exact ⟨⟨r, rfl, hr0⟩, hOn.out⟩

/-- The mark at which transaction j begins. -/
def kAt (k : Int) (ls : List Nat) (j : Nat) : Int := k + (((ls.take j).map fun l => 2 + 3 * l).sum : Nat)
/-- Transactions of which the first i bear their marks. -/
structure MT (S : Nat → Prop) (g : Nat) (k : Int) (ls gs : List Nat) (i : Nat) (w : World) : Prop where
  blk : ∃ cur, Blk w g 57 cur ∧ ls.length * 3 ≤ cur.size
  inn : ∀ j (hj : j < ls.length) (hg : j < gs.length), ∃ A c, w.cell? ⟨g, j * 3 + 1, none⟩ = some (.slice A ls[j] c) ∧ (0 < ls[j] → A = some ⟨gs[j], 0, none⟩ ∧ S gs[j] ∧ ∃ cur, Blk w gs[j] 82 cur ∧ ls[j] * 3 ≤ cur.size ∧ (j < i → ∀ t, t < ls[j] * 3 → cur[t]? = some (.int .i64 (kAt k ls j + 1 + t))))
  out : ∀ j (hj : j < ls.length), j < i → w.cell? ⟨g, j * 3, none⟩ = some (.int .i64 (kAt k ls j)) ∧ w.cell? ⟨g, j * 3 + 2, none⟩ = some (.bool ((kAt k ls j + 1) % 3 == 0))
theorem MT.keep {S : Nat → Prop} {g : Nat} {k : Int} {ls gs : List Nat} {i : Nat} {w w' : World} (h : MT S g k ls gs i w) (hw : ∀ b, S b → w'.heap[b]? = w.heap[b]?) (hg : S g) : MT S g k ls gs i w' := by
  obtain ⟨⟨cur, hb, hs⟩, hi, ho⟩ := h
  refine ⟨⟨cur, hb.of (hw g hg), hs⟩, fun j hj hgj => ?_, fun j hj hji => ?_⟩
  · obtain ⟨A, c, h1, h2⟩ := hi j hj hgj
    refine ⟨A, c, (World.cell?_of_block (hw g hg)).trans h1, fun hp => ?_⟩
    obtain ⟨h3, h4, cur2, h5, h6⟩ := h2 hp
    exact ⟨h3, h4, cur2, h5.of (hw _ h4), h6⟩
  · obtain ⟨h1, h2⟩ := ho j hj hji
    exact ⟨(World.cell?_of_block (hw g hg)).trans h1, (World.cell?_of_block (hw g hg)).trans h2⟩
/-- A history that bears its marks. -/
def Marked (w : World) (S : Nat → Prop) (A : Option Addr) (k : Int) (ls gs : List Nat) : Prop :=
  0 < ls.length → ∃ g, A = some ⟨g, 0, none⟩ ∧ S g ∧ ls.length = gs.length ∧ MT S g k ls gs ls.length w
theorem Marked.keep {w w' : World} {S : Nat → Prop} {A : Option Addr} {k : Int} {ls gs : List Nat} (h : Marked w S A k ls gs) (hw : ∀ b, S b → w'.heap[b]? = w.heap[b]?) : Marked w' S A k ls gs := fun hp => by
  obtain ⟨g, hA, hg, hl, hm⟩ := h hp
  exact ⟨g, hA, hg, hl, hm.keep hw hg⟩
theorem MT.start {w : World} {S : Nat → Prop} {ps : List (Txn × Nat)} {A : Option Addr} {n c g : Nat} (h : Hold (tTxnB 82) 57 w S ps (.slice A n c) g) (hp : 0 < ps.length) (k : Int) :
    A = some ⟨g, 0, none⟩ ∧ S g ∧ MT S g k (ps.map fun p => p.1.Ops.length) (ps.map Prod.snd) 0 w := by
  obtain ⟨A', c', hv, hc, hm, hr⟩ := h
  injection hv with h1 h2 h3
  subst h1
  obtain ⟨rfl, hg, ⟨cur, hB, hs⟩, S', hS', hrow⟩ := hr hp
  refine ⟨rfl, hg, ⟨cur, hB, by rw [List.length_map]; exact hs⟩, fun j hj hgj => ?_, fun j hj h => absurd h (by omega)⟩
  rw [List.length_map] at hj
  obtain ⟨cs, ⟨v, rfl, hH⟩, hcs⟩ := hrow j hj
  obtain ⟨A2, c2, rfl, h4, h5, h6⟩ := hH
  refine ⟨A2, c2, ?_, fun hpos => ?_⟩
  · have := hcs 1 _ rfl
    simp only [tTxnB, Nat.zero_add] at this
    simpa using this
  · simp only [List.getElem_map] at hpos ⊢
    obtain ⟨rfl, hg2, ⟨cur2, hB2, hs2⟩, _⟩ := h6 hpos
    exact ⟨rfl, (hS' _ hg2).1, cur2, hB2, hs2, fun h => absurd h (by omega)⟩
end Go.Proofs.YtjiobgfaohldhaaGreat
namespace Go.Proofs.YtjiobgfaohldhaaGreat
open Go.RowKit

set_option maxHeartbeats 400000 in
theorem eqTxn (x : Txn) (w : World) (A B : Option Addr) (c d : Nat) (hl : x.Ops.length ≤ maxLen) (hA : Row tOp w (Old w) A x.Ops) (hB : Row tOp w (Old w) B x.Ops) :
    Calls Tryz.prog 32 #[.agg #[.int .i64 x.Session, .slice A x.Ops.length c, .bool x.Done], .agg #[.int .i64 x.Session, .slice B x.Ops.length d, .bool x.Done]] w fun e w' => e = .returned (.bool true) ∧ Below w.heap.size w w' := by
  go_enter Tryz.func32, Tryz.ntmps32
  go_wp2_with (go_at_call 73; refine (eqOpS x.Ops A B c d _ hl (hA.old (((Below.refl _ w).alloc (Nat.le_refl _) _).alloc (by simp) _)) (hB.old (((Below.refl _ w).alloc (Nat.le_refl _) _).alloc (by simp) _))).mono ?_; rintro e w' ⟨rfl, hb'⟩; have HB := hide hb'; clear hb'; clear hA hB; obtain ⟨hc, hf⟩ := bcell HB.out; have hz : w.heap.size + 2 ≤ w'.heap.size := (by have := HB.out.size; simpa using this))
  go_ret
  exact ⟨rfl, (((Below.refl _ w).alloc (Nat.le_refl _) _).alloc (by simp) _).trans (HB.out.mono (by simp; omega))⟩
set_option maxRecDepth 10000 in
set_option maxHeartbeats 400000 in
theorem eqTxnS (xs : List Txn) (A B : Option Addr) (c d : Nat) (w : World) (hl : xs.length ≤ maxLen) (hn : ∀ x ∈ xs, x.Ops.length ≤ maxLen) (hA : Row tTxn w (Old w) A xs) (hB : Row tTxn w (Old w) B xs) :
    Calls Tryz.prog 11 #[.slice A xs.length c, .slice B xs.length d] w fun e w' => e = .returned (.bool true) ∧ Below w.heap.size w w' := by
  unfold maxLen at hl
  go_enter Tryz.func11, Tryz.ntmps11
  go_wp2
  go_loopw [5] (fun i wr => ∃ k : Nat, k ≤ xs.length ∧ i = .int .i64 k ∧ Below w.heap.size w wr) (fun i _ => xs.length - (intOf i).toNat)
  case atStart => exact ⟨0, Nat.zero_le _, rfl, Below.refl _ _⟩
  case round =>
    obtain ⟨k, hk, rfl, hb⟩ := hrel
    by_cases hlt : k < xs.length
    · have hi0 := hn xs[k] (List.getElem_mem hlt)
      obtain ⟨b, off, A3, c3, rfl, hbS, c0_, c1_, c2_, hi1, hi2, hi3⟩ := at_Txn hA hb hlt
      obtain ⟨b2, off2, A4, c4, rfl, hbS2, d0_, d1_, d2_, hj1, hj2, hj3⟩ := at_Txn hB hb hlt
      clear hA hB hn
      have HI := hide hi3; clear hi3; have HJ := hide hj3; clear hj3
      go_wp2
      go_still_tail 8, (by kernel_rfl)
      have hbd : Below wr.heap.size wr wr.drew := (Below.refl _ _).drew
      change wpList _ _ _ _ _ wr.drew
      have hcall := (eqTxn xs[k] wr.drew A3 A4 c3 c4 hi0 (HI.out.old hbd) (HJ.out.old hbd))
      have hb2 : Below w.heap.size w wr.drew := hb.drew
      clear hbd
      generalize wr.drew = w2 at hb2 hcall ⊢
      have HC := hide hcall
      clear hcall
      go_wp2_with (go_at_call 32; refine HC.out.mono ?_; rintro e w' ⟨rfl, hb'⟩)
      go_roundw
      case rel => exact ⟨k + 1, by omega, by go_num, hb2.trans (hb'.mono hb2.size)⟩
      case measure => simp [intOf]; omega
    · clear hA hB hn
      go_wp2
      go_ret
      exact ⟨rfl, hb⟩
end Go.Proofs.YtjiobgfaohldhaaGreat
namespace Go.Proofs.YtjiobgfaohldhaaGreat
open Go.RowKit

theorem szTxn (x : Txn) (A2 : Option Addr) (c2 : Nat) (left : Int) (w : World) (hn : x.Ops.length ≤ maxLen) (h0 : 0 ≤ left) (h1 : left ≤ 1048576) :
    Calls Tryz.prog 18 #[.agg #[.int .i64 x.Session, .slice A2 x.Ops.length c2, .bool x.Done], .int .i64 left] w fun e w' => ∃ r, e = .returned (.int .i64 r) ∧ Sz x.Ops.length left r ∧ Below w.heap.size w w' := by
  go_enter Tryz.func18, Tryz.ntmps18
  go_wp2_with (go_at_call 48; refine (szOpS _ _ _ _ _ hn h0 h1).mono ?_; rintro e w' ⟨r, rfl, hr, rfl⟩; rcases hr with rfl | ⟨hr1, hr2⟩)
  · go_ret
    exact ⟨_, rfl, .inl rfl, (Below.refl _ _).alloc (Nat.le_refl _) _⟩
  · go_ret
    exact ⟨_, rfl, .inr ⟨hr1, hr2⟩, (Below.refl _ _).alloc (Nat.le_refl _) _⟩
set_option maxHeartbeats 400000 in
theorem szTxnS (xs : List Txn) (A : Option Addr) (c : Nat) (left : Int) (w : World) (hl : xs.length ≤ maxLen) (hn : ∀ x ∈ xs, x.Ops.length ≤ maxLen) (h0 : 0 ≤ left) (h1 : left ≤ 1048576) (hA : Row tTxn w (Old w) A xs) :
    Calls Tryz.prog 5 #[.slice A xs.length c, .int .i64 left] w fun e w' => ∃ r, e = .returned (.int .i64 r) ∧ Sz (xs.length + tot (fun x => x.Ops.length) xs) left r ∧ Below w.heap.size w w' := by
  unfold maxLen at hl
  by_cases hlt0 : left - xs.length < 0
  · clear hA hn
    go_enter Tryz.func5, Tryz.ntmps5
    go_wp2
    go_ret
    exact ⟨_, rfl, .inl rfl, Below.refl _ _⟩
  · go_enter Tryz.func5, Tryz.ntmps5
    go_wp2
    go_loopw [1, 5] (fun l i wr => ∃ (k : Nat) (r : Int), k ≤ xs.length ∧ i = .int .i64 k ∧ l = .int .i64 r ∧ 0 ≤ r ∧ r ≤ 1048576 ∧ Hid (r + (xs.length + tot (fun x => x.Ops.length) (xs.take k) : Nat) = left) ∧ Below w.heap.size w wr) (fun _ i _ => xs.length - (intOf i).toNat)
    case atStart => exact ⟨0, _, Nat.zero_le _, rfl, rfl, by omega, by omega, (by simp [Hid, tot]; try omega), Below.refl _ _⟩
    case round =>
      obtain ⟨k, l, hk, rfl, rfl, hl0, hl1, hsum, hb⟩ := hrel
      by_cases hlt : k < xs.length
      · obtain ⟨b, off, A3, c3, rfl, hbS, c0_, c1_, c2_, hi1, hi2, hi3⟩ := at_Txn hA hb hlt
        have hlen := hn xs[k] (List.getElem_mem hlt)
        have hT := hide (tot_take (fun x => x.Ops.length) xs k hlt)
        clear hA hn hi3
        go_wp2_with (go_at_call 18; refine (szTxn xs[k] A3 c3 l _ hlen hl0 hl1).mono ?_; rintro e w' ⟨r, rfl, hr, hb'⟩; rcases hr with rfl | ⟨hr1, hr2⟩)
        · go_ret
          exact ⟨_, rfl, .inl rfl, (hb.trans (hb'.mono hb.size))⟩
        · go_roundw
          case rel => exact ⟨k + 1, r, by omega, by go_num, rfl, by omega, by omega, (by have h1 := hT.out; have h2 := hsum.out; simp only [Hid]; rw [h1]; omega), (hb.trans (hb'.mono hb.size))⟩
          case measure => simp [intOf]; omega
      · obtain rfl : k = xs.length := by omega
        clear hA hn
        go_wp2
        go_ret
        exact ⟨_, rfl, .inr ⟨hl0, by have h2 := hsum.out; rw [List.take_length] at h2; omega⟩, hb⟩
end Go.Proofs.YtjiobgfaohldhaaGreat
