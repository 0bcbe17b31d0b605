/- The program's search for schedules: the function literal of FindSnapshot. -/
import Derived.Test.YtaaagoppecnmmaaDoorSnapR
import Derived.Test.YtaaagoppecnmmaaDoorHold
namespace Go.Proofs.YtaaagoppecnmmaaDoor
open Go.RowKit
set_option linter.unusedVariables false
set_option linter.unusedSimpArgs false

theorem infoSnap_ : (Tryd.prog.info? 94).map (·.size) = some 26 := by kernel_rfl
theorem snapC_size (S : SS) (bg cm : Nat) : (snapC S bg cm).size = 26 := by simp [snapC]
theorem snapC_one (S : SS) (bg cm : Nat) : (snapC S bg cm).all (·.oneCell') = true := by
  rw [Array.all_eq_true]
  intro i hi
  simp only [snapC, Array.getElem_ofFn]
  unfold sF
  split
  · rfl
  · split
    · rfl
    · split
      · rfl
      · split <;> rfl
theorem Only.setRow {S : Nat → Prop} {a b : World} (h : Only S a b) {g : Nat} (hg : S g ∨ a.heap.size ≤ g) (cs : Array Value) : Only S a (b.setRow g cs) :=
  ⟨h.os, h.tape, h.output, by rw [setRow_size]; exact h.size, fun i hi hn => (setRow_other _ _ _ _ (by rintro rfl; rcases hg with hg | hg; exact hn hg; omega)).trans (h.block i hi hn)⟩
theorem Below.setRow_ {B : Nat} {a w : World} {g : Nat} (h : Below B a w) (hg : B ≤ g) (cs : Array Value) : Below B a (w.setRow g cs) :=
  ⟨h.os, h.tape, h.output, by rw [setRow_size]; exact h.size, fun i hi => (setRow_other _ _ _ _ (by omega)).trans (h.block i hi)⟩
/-- What stands still while the search goes on. -/
structure SeaN (h : List Txn) (all : List Int) (w0 : World) (bo g ba bh bf : Nat) (Aa Ah : Option Addr) (ca ch : Nat) : Prop where
  kl : ∀ b, Ko bo g b → b < w0.heap.size
  ne : bo ≠ g
  vall : Blk w0 ba 30 #[.slice Aa all.length ca] ∧ ¬ Ko bo g ba
  vh : Blk w0 bh 23 #[.slice Ah h.length ch] ∧ ¬ Ko bo g bh
  vf : Blk w0 bf 99 #[.func (.func 84) #[] #[.pointer (some ⟨bo, 0, none⟩), .pointer (some ⟨ba, 0, none⟩), .pointer (some ⟨bh, 0, none⟩), .pointer (some ⟨bf, 0, none⟩)]] ∧ ¬ Ko bo g bf
  rall : Row tInt w0 (fun b => Old w0 b ∧ ¬ Ko bo g b) Aa all
  rh : Row tTxn w0 (fun b => Old w0 b ∧ ¬ Ko bo g b) Ah h
  hv : histV h = true
  hall : all = doneL h
  ef : ∀ args w, (callFunc 84 args).run Tryd.prog w = .ok (.enter 84 args) w
def stepN (h : List Txn) (f : Nat) (pre : List Int) (S : SS) (d : Int) : Option (List Int) := (snapNext h S d).bind fun S' => dfsN h f (pre ++ [d]) S'
def SnPost (h : List Txn) (all : List Int) (bo g : Nat) (pre : List Int) (S : SS) (f : Nat) (W : World) (e : Ending) (w' : World) : Prop :=
  match dfsN h f pre S with
  | none => e = .returned (.bool false) ∧ Only (Ko bo g) W w' ∧ Ord bo g (2 * all.length) pre w'
  | some o => e = .returned (.bool true) ∧ Only (Ko bo g) W w' ∧ Ord bo g (2 * all.length) o w' ∧ o.length = 2 * all.length
set_option maxRecDepth 10000 in
set_option maxHeartbeats 4000000 in
theorem fromN {h : List Txn} {all : List Int} {w0 : World} {bo g ba bh bf : Nat} {Aa Ah : Option Addr} {ca ch : Nat} (C : SeaN h all w0 bo g ba bh bf Aa Ah ca ch) (f : Nat) :
    ∀ (pre : List Int) (S : SS) (bg cm : Nat) (W : World), 2 * all.length = pre.length + f → snapRun h SS0 pre = some S → Bits1 bg S.seen → Bits2 cm S.seen → Only (Ko bo g) w0 W → Ord bo g (2 * all.length) pre W →
    Calls Tryd.prog 84 #[.agg (snapC S bg cm), .pointer (some ⟨bo, 0, none⟩), .pointer (some ⟨ba, 0, none⟩), .pointer (some ⟨bh, 0, none⟩), .pointer (some ⟨bf, 0, none⟩)] W (SnPost h all bo g pre S f W) := by
  induction f with
  | zero =>
    intro pre S bg cm W hlen hr h1 h2 hOk hOrd
    have HP := hide (show dfsN h 0 pre S = some pre from rfl)
    have hO1 := hOk.trans (Only.of_alloc W (.cells (snapC S bg cm) 94))
    have hOrd1 := hOrd.keep (W' := W.alloc (.cells (snapC S bg cm) 94)) (Below.heap_alloc _ _ _ hOrd.var.lt) (by obtain ⟨cur, hb, _⟩ := hOrd.row; exact Below.heap_alloc _ _ _ hb.lt)
    have c1 := hOrd1.var.cell 0
    have c2 := (C.vall.1.of (hO1.block _ C.vall.1.lt C.vall.2)).cell 0
    simp only [List.getElem?_toArray, List.getElem?_cons_zero, List.getElem?_cons_succ] at c1 c2
    have HOrd := hide hOrd1
    have hl : pre.length = 2 * all.length := by omega
    have Hl := hide hl
    have hal : all.length ≤ 6 := by rw [C.hall]; exact Nat.le_trans (doneI_len h _) (histV_parts C.hv).1
    have hli : ((pre.length : Int) == 2 * (all.length : Int)) = true := by rw [beq_iff_eq]; omega
    clear hr h1 h2 hOk hOrd hO1 hOrd1 hlen hl C
    go_enter Tryd.func84, Tryd.ntmps84
    go_wp2_with fail
    go_ret
    unfold SnPost
    rw [HP.out]
    exact ⟨rfl, Only.of_alloc _ _, HOrd.out, Hl.out⟩
  | succ f ih =>
    intro pre S bg cm W hlen hr h1 h2 hOk hOrd
    have hal : all.length ≤ 6 := by rw [C.hall]; exact Nat.le_trans (doneI_len h _) (histV_parts C.hv).1
    have hli : ((pre.length : Int) == 2 * (all.length : Int)) = false := by rw [beq_eq_false_iff_ne]; omega
    have hver : ∀ key, 0 ≤ S.ver key ∧ S.ver key ≤ 1000 := fun key => by
      have h9 := snapRun_ver hr key
      have : SS0.ver key = 0 := rfl
      omega
    have hO1 := hOk.trans (Only.of_alloc W (.cells (snapC S bg cm) 94))
    have hOrd1 := hOrd.keep (W' := W.alloc (.cells (snapC S bg cm) 94)) (Below.heap_alloc _ _ _ hOrd.var.lt) (by obtain ⟨cur, hb, _⟩ := hOrd.row; exact Below.heap_alloc _ _ _ hb.lt)
    have c1 := hOrd1.var.cell 0
    have c2 := (C.vall.1.of (hO1.block _ C.vall.1.lt C.vall.2)).cell 0
    simp only [List.getElem?_toArray, List.getElem?_cons_zero, List.getElem?_cons_succ] at c1 c2
    have HOr := hide hOrd1; have HB0 := hide (Blk.new W 94 (snapC S bg cm))
    have HLen := hide hlen; have HR := hide hr; have H1 := hide h1; have H2 := hide h2; have HVer := hide hver; have HO0 := hide hOk
    have hpl : pre.length ≤ 12 := by omega
    have HC := hide C
    have hx6 : h.length ≤ 6 := (histV_parts C.hv).1
    clear hO1 hOrd1 hOk hOrd hlen hr h1 h2 hver C
    go_enter Tryd.func84, Tryd.ntmps84
    go_wp2_with fail
    obtain ⟨wo, hwo⟩ : ∃ wo, wo = W.alloc (.cells (snapC S bg cm) 94) := ⟨_, rfl⟩
    have HOw := hide (show Only (Ko bo g) W wo by rw [hwo]; exact Only.of_alloc _ _)
    have HWs := hide (show W.heap.size < wo.heap.size by rw [hwo]; simp)
    rw [← hwo] at HOr HB0 ⊢
    clear hwo c1 c2
    have HP := hide (show dfsN h (f + 1) pre S = all.findSome? (stepN h f pre S) by rw [HC.out.hall]; rfl)
    go_loopw [8, 9, 18] (fun _ _ i wr => ∃ k : Nat, k ≤ all.length ∧ i = .int .i64 k ∧ Hid ((all.take k).findSome? (stepN h f pre S) = none) ∧ Hid (Only (Ko bo g) wo wr) ∧ Hid (Ord bo g (2 * all.length) pre wr)) (fun _ _ i _ => all.length - (intOf i).toNat)
    case atStart => exact ⟨0, Nat.zero_le _, rfl, rfl, Only.refl _ _, HOr.out⟩
    case round =>
      obtain ⟨k, hk, rfl, hN, hOn, hOd⟩ := hrel
      by_cases hlt : k < all.length
      · have hOw0 := HO0.out.trans (HOw.out.trans hOn.out)
        have hrow := HC.out.rall.mono (w' := wr) (S' := Old wr) (fun b hb => Nat.lt_of_lt_of_le hb.1 hOw0.size) (fun b hb => hOw0.block b hb.1 hb.2)
        obtain ⟨b0, off0, rfl, hb0, c0⟩ := at_Int hrow (Below.refl _ wr) hlt
        have hmem : all[k] ∈ doneL h := by rw [← HC.out.hall]; exact List.getElem_mem hlt
        obtain ⟨hn0, hn1⟩ := doneI_mem h _ _ hmem
        have HTk := hide (show (all.take (k + 1)).findSome? (stepN h f pre S) = stepN h f pre S all[k] by rw [List.take_succ_eq_append_getElem hlt, List.findSome?_append, hN.out]; simp)
        obtain ⟨n, hn⟩ : ∃ n : Nat, all[k] = (n : Int) := ⟨all[k].toNat, by omega⟩
        have hnl : n < h.length := by omega
        rw [hn] at c0 HTk
        have hBs := HB0.out.of (hOn.out.block _ HB0.out.lt (fun hK => by have := HC.out.kl _ hK; have := HO0.out.size; omega))
        have HBs := hide hBs
        have hlz : W.heap.size < wr.heap.size := hBs.lt
        have HOw0 := hide hOw0; have HOn := hide hOn.out; have HOd := hide hOd.out
        clear hn hn0 hn1 hmem hN hOw0 hrow hOn hOd hBs
        go_upto_region 7 with (first | (refine wpList_load_row rfl 94 (.tmp 5) rfl W.heap.size rfl 94 _ (0, 0) _ HBs.out Tryd.underlying94 rfl (by rw [snapC_size]; exact infoSnap_) ?_) | (refine wpList_store_row rfl 94 (.tmp 9) (.tmp 22) rfl wr.heap.size _ rfl rfl 94 _ (Blk.new wr _ _) (by rw [snapC_size]; exact infoSnap_) (by rw [snapC_size]; rfl) (snapC_one _ _ _) ?_))
        generalize hW1 : World.setRow _ _ _ = w1
        have hB1 : Blk w1 wr.heap.size 94 (snapC S bg cm) := by rw [← hW1]; exact setRow_heap _ _ _ _ _ _ (Blk.new wr _ _)
        have hb1 : Below wr.heap.size wr w1 := by rw [← hW1]; exact Below.setRow_ ((Below.refl _ wr).alloc (Nat.le_refl _) _) (Nat.le_refl _) _
        clear hW1 c0
        have hO1 : Only (Ko bo g) w0 w1 := HOw0.out.trans (Only.of_below hb1)
        have q1 := (HC.out.vh.1.of (hO1.block _ HC.out.vh.1.lt HC.out.vh.2)).cell 0
        simp only [List.getElem?_toArray, List.getElem?_cons_zero, List.getElem?_cons_succ] at q1
        have HNx := hide (next_any h Ah ch S bg cm n wr.heap.size w1 HC.out.hv hnl hB1 H1.out H2.out HVer.out (HC.out.rh.mono (fun b hb => ⟨Nat.lt_of_lt_of_le hb.1 hO1.size, fun e => by have h1 := hb.1; have h2 := HOw0.out.size; unfold Old at h1; omega⟩) (fun b hb => hO1.block b hb.1 hb.2)))
        have Hb1 := hide hb1; have HO1 := hide hO1
        clear hB1 hb1 hO1
        have HStp := hide (show stepN h f pre S (n : Int) = (snapNext h S (n : Int)).bind fun S' => dfsN h f (pre ++ [(n : Int)]) S' from rfl)
        go_wp2_with fail
        refine HNx.out.mono ?_
        rintro e w3 ⟨hP, hO3⟩
        have HB13 := hide (below_only Hb1.out hO3 Hb1.out.size (fun i hi => Nat.le_of_eq hi.symm))
        clear hO3
        have HOd3 := HOd.out.keep (HB13.out.block _ HOd.out.var.lt) (HB13.out.block _ HOd.out.glt)
        rcases hP with ⟨S', bg', cm', hs', rfl, hB', hq1, hq2⟩ | ⟨hs', rfl⟩
        · rw [hs'] at HStp
          have HStp := hide (show stepN h f pre S (n : Int) = dfsN h f (pre ++ [(n : Int)]) S' from HStp.out)
          have HRs := hide (show snapRun h SS0 (pre ++ [(n : Int)]) = some S' by rw [snapRun_snoc, HR.out]; exact hs')
          have HB' := hide hB'; have Hq1 := hide hq1; have Hq2 := hide hq2
          clear hs' hB' hq1 hq2
          have v1 := HOd3.var.cell 0
          have vf1 := HOd3.var.frozen 0
          simp only [List.getElem?_toArray, List.getElem?_cons_zero, List.getElem?_cons_succ] at v1
          obtain ⟨cur, hcur, hcs, hcv⟩ := HOd3.row
          have hvl := HOd3.var.lt
          have hgl := hcur.lt
          have HCur := hide (show Blk w3 g _ cur ∧ cur.size = 2 * all.length ∧ ∀ j (hj : j < pre.length), cur[j]? = some (.int .i64 pre[j]) from ⟨hcur, hcs, hcv⟩)
          have HVar := hide HOd3.var
          have hpk : pre.length < 2 * all.length := by have := HLen.out; omega
          obtain ⟨i0, hi, hz0, hz1, hz2⟩ := info_parts infoInt_
          have hng := HC.out.ne
          have hng' := Ne.symm HC.out.ne
          clear hcur hcs hcv HOd3 hli
          go_upto_region 9 with (at_builtin; refine wpList_room rfl (.tmp 27) (.tmp 29) 30 rfl 3 i0 Tryd.underlying30 hi hz1 g pre.length (2 * all.length) cur (.int .i64 n) HCur.out.1 hpk (by rw [HCur.out.2.1]; exact hpk) rfl rfl 1 rfl ?_)
          generalize hW5 : World.alloc _ _ = w5
          have hnb : ∀ b, Ko bo g b → b ≠ wr.heap.size := fun b hb e => by have := HC.out.kl b hb; have := HOw0.out.size; omega
          have hO5 : Only (Ko bo g) w3 w5 := by rw [← hW5]; exact ((Only.setCell (S := Ko bo g) (Only.refl _ _) (p := ⟨g, pre.length, none⟩) (.inr rfl) _).setCell (p := ⟨bo, 0, none⟩) (.inl rfl) _).trans (Only.of_alloc _ _)
          have hOrd5 : Ord bo g (2 * all.length) (pre ++ [(n : Int)]) w5 := by
            refine ⟨?_, cur.setIfInBounds pre.length (.int .i64 n), ?_, ?_, ?_⟩
            · rw [← hW5, List.length_append, List.length_singleton]
              exact ((HVar.out.far (p := ⟨g, pre.length, none⟩) hng _).set_ 0 _).alloc _
            · rw [← hW5]; exact ((HCur.out.1.set_ pre.length _).far (p := ⟨bo, 0, none⟩) hng' _).alloc _
            · rw [Array.size_setIfInBounds]; exact HCur.out.2.1
            · intro j hj
              rw [List.length_append, List.length_singleton] at hj
              by_cases hjl : j < pre.length
              · rw [Array.getElem?_setIfInBounds_ne (by omega), List.getElem_append_left hjl]; exact HCur.out.2.2 j hjl
              · obtain rfl : j = pre.length := by omega
                rw [Array.getElem?_setIfInBounds, if_pos rfl, if_pos (by rw [HCur.out.2.1]; exact hpk)]
                simp
          have hB5 : Blk w5 wr.heap.size 94 (snapC S' bg' cm') := by
            rw [← hW5]
            exact ((HB'.out.far (p := ⟨g, pre.length, none⟩) (Ne.symm (hnb g (.inr rfl))) _).far (p := ⟨bo, 0, none⟩) (Ne.symm (hnb bo (.inl rfl))) _).alloc _
          clear hW5
          have HW5 := hide (show Only (Ko bo g) wo w5 from HOn.out.trans ((Only.of_below HB13.out).trans hO5))
          have hO05 : Only (Ko bo g) w0 w5 := HOw0.out.trans ((Only.of_below HB13.out).trans hO5)
          have hf := (HC.out.vf.1.of (hO05.block _ HC.out.vf.1.lt HC.out.vf.2)).cell 0
          simp only [List.getElem?_toArray, List.getElem?_cons_zero, List.getElem?_cons_succ] at hf
          have HIh := hide (ih (pre ++ [(n : Int)]) S' bg' cm' w5 (by rw [List.length_append, List.length_singleton]; have := HLen.out; omega) HRs.out Hq1.out Hq2.out (HO0.out.trans (HOw.out.trans HW5.out)) hOrd5)
          have eg2 := HC.out.ef
          have HB5 := hide hB5
          clear hOrd5 hB5 hO05 hO5 hnb v1 vf1 q1
          unfold SnPost at HIh
          cases hd : dfsN h f (pre ++ [(n : Int)]) S' with
          | none =>
            rw [hd] at HIh
            have HE4 := hide (HStp.out.trans hd)
            clear hd
            go_wp2_with (first | (refine wpList_load_row rfl 94 (.tmp 9) rfl wr.heap.size rfl 94 _ (0, 0) _ HB5.out Tryd.underlying94 rfl (by rw [snapC_size]; exact infoSnap_) ?_) | (go_at_fn 84; refine HIh.out.mono ?_; rintro e w7 ⟨rfl, hK7, hO7⟩; have HK7 := hide hK7; have HO7 := hide hO7; have u1 := hO7.var.cell 0; have uf1 := hO7.var.frozen 0; rw [List.length_append, List.length_singleton] at u1; simp only [List.getElem?_toArray, List.getElem?_cons_zero, List.getElem?_cons_succ] at u1; clear hK7 hO7))
            go_roundw
            case rel =>
              refine ⟨k + 1, by omega, by go_num, by rw [← HE4.out]; exact HTk.out, (HW5.out.trans HK7.out).setCell (p := ⟨bo, 0, none⟩) (.inl rfl) _, ⟨?_, ?_⟩⟩
              · exact HO7.out.var.set_ 0 _
              · obtain ⟨cu, hcu, hcs, hcv⟩ := HO7.out.row
                refine ⟨cu, hcu.far (p := ⟨bo, 0, none⟩) hng' _, hcs, fun j hj => ?_⟩
                have := hcv j (by rw [List.length_append]; omega)
                rwa [List.getElem_append_left hj] at this
            case measure => simp [intOf]; omega
          | some o =>
            rw [hd] at HIh
            have HE4 := hide (HStp.out.trans hd)
            clear hd
            go_wp2_with (first | (refine wpList_load_row rfl 94 (.tmp 9) rfl wr.heap.size rfl 94 _ (0, 0) _ HB5.out Tryd.underlying94 rfl (by rw [snapC_size]; exact infoSnap_) ?_) | (go_at_fn 84; refine HIh.out.mono ?_; rintro e w7 ⟨rfl, hK7, hF7, hL7⟩; have HK7 := hide hK7; have HF7 := hide hF7; have HL7 := hide hL7; clear hK7 hF7 hL7))
            go_ret
            unfold SnPost
            have hfin : dfsN h (f + 1) pre S = some o := by
              have h1 := HTk.out
              have h2 := HE4.out
              rw [HP.out]
              generalize stepN h f pre S = F at h1 h2 ⊢
              rw [← List.take_append_drop (k + 1) all, List.findSome?_append, h1, h2]
              rfl
            rw [hfin]
            exact ⟨rfl, HOw.out.trans (HW5.out.trans HK7.out), HF7.out, HL7.out⟩
        · rw [hs'] at HStp
          have HE := hide (show stepN h f pre S (n : Int) = none from HStp.out)
          have HO3 := hide HOd3
          clear hs' HOd3
          go_wp2_with fail
          go_roundw
          case rel => exact ⟨k + 1, by omega, by go_num, by rw [← HE.out]; exact HTk.out, HOn.out.trans (Only.of_below HB13.out), HO3.out⟩
          case measure => simp [intOf]; omega
      · obtain rfl : k = all.length := by omega
        have HN := hide (show dfsN h (f + 1) pre S = none by rw [HP.out]; have := hN.out; rw [List.take_length] at this; exact this)
        have HOn := hide hOn.out; have HOd := hide hOd.out
        clear hN hOn hOd
        go_wp2_with fail
        go_ret
        unfold SnPost
        rw [HN.out]
        exact ⟨rfl, HOw.out.trans HOn.out, HOd.out⟩
end Go.Proofs.YtaaagoppecnmmaaDoor
