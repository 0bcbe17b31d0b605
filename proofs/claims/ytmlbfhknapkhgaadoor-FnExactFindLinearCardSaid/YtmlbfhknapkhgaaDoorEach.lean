/- The program's search for serial orders: the function literal of eachSerial. -/
import Derived.Test.YtmlbfhknapkhgaaDoorFollow
import Derived.Test.YtmlbfhknapkhgaaDoorSerM
import Derived.Test.YtmlbfhknapkhgaaDoorBits
import Derived.Test.YtmlbfhknapkhgaaDoorDone
import Derived.Test.YtmlbfhknapkhgaaDoorHold
import Derived.Test.YtmlbfhknapkhgaaDoorRoomy
namespace Go.Proofs.YtmlbfhknapkhgaaDoor
open Go.RowKit
set_option linter.unusedVariables false
set_option linter.unusedSimpArgs false

/-- What stands still while the search goes on. -/
structure Sea (h : List Txn) (all : List Int) (alw : List Int → Int → Bool) (w0 : World) (K : Nat → Prop) (Found : World → List Int → Prop) (bo g ba bc bal bh bf gc gal : Nat) (lbc lbal : Array Value) (Aa Ah : Option Addr) (ca ch : Nat) : Prop where
  kl : ∀ b, K b → b < w0.heap.size
  ko : K bo
  kg : K g
  ne : bo ≠ g
  vall : Blk w0 ba 26 #[.slice Aa all.length ca] ∧ ¬ K ba
  vh : Blk w0 bh 29 #[.slice Ah h.length ch] ∧ ¬ K bh
  vc : Blk w0 bc 106 #[.func (.func gc) #[] lbc] ∧ ¬ K bc
  val : Blk w0 bal 73 #[.func (.func gal) #[] lbal] ∧ ¬ K bal
  vf : Blk w0 bf 121 #[.func (.func 88) #[] #[.pointer (some ⟨bo, 0, none⟩), .pointer (some ⟨ba, 0, none⟩), .pointer (some ⟨bc, 0, none⟩), .pointer (some ⟨bal, 0, none⟩), .pointer (some ⟨bh, 0, none⟩), .pointer (some ⟨bf, 0, none⟩)]] ∧ ¬ K bf
  rall : Row tInt w0 (fun b => Old w0 b ∧ ¬ K b) Aa all
  rh : Row tTxn w0 (fun b => Old w0 b ∧ ¬ K b) Ah h
  h6 : h.length ≤ 6
  hok : ∀ t ∈ h, txnOk t = true
  a6 : all.length ≤ 6
  inA : ∀ n ∈ all, 0 ≤ n ∧ n < h.length
  ec : ∀ args w, (callFunc gc args).run Tryd.prog w = .ok (.enter gc args) w
  eal : ∀ args w, (callFunc gal args).run Tryd.prog w = .ok (.enter gal args) w
  ef : ∀ args w, (callFunc 88 args).run Tryd.prog w = .ok (.enter 88 args) w
  call : ∀ (W : World) (o : List Int), o.length = all.length → Only (Ko bo g) w0 W → Ord bo g all.length o W →
    Calls Tryd.prog gc (#[.slice (some ⟨g, 0, none⟩) o.length all.length] ++ lbc) W fun e w' => e = .returned (.bool false) ∧ Only K W w' ∧ Found w' o
  alwd : ∀ (W : World) (pre : List Int) (gone n : Nat), n < h.length → BitsOf gone pre → (∀ x ∈ pre, x < (h.length : Int)) → Only K w0 W →
    Calls Tryd.prog gal (#[.int .u64 gone, .int .i64 n] ++ lbal) W fun e w' => e = .returned (.bool (alw pre n)) ∧ Below W.heap.size W w'

/-- What is found behind one more number. -/
def stepF (h : List Txn) (all : List Int) (alw : List Int → Int → Bool) (f : Nat) (pre : List Int) (x : Int) : Option (List Int) :=
  if pre.contains x then none else if goodR alw h (pre ++ [x]) then dfsA (goodR alw h) all f (pre ++ [x]) else none
/-- What the search answers. -/
def SeaPost (h : List Txn) (all : List Int) (alw : List Int → Int → Bool) (K : Nat → Prop) (Found : World → List Int → Prop) (bo g : Nat) (pre : List Int) (f : Nat) (W : World) (e : Ending) (w' : World) : Prop :=
  match dfsA (goodR alw h) all f pre with
  | none => e = .returned (.bool true) ∧ Only (Ko bo g) W w' ∧ Ord bo g all.length pre w'
  | some o => e = .returned (.bool false) ∧ Only K W w' ∧ Found w' o
set_option maxRecDepth 10000 in
set_option maxHeartbeats 4000000 in
theorem from_any {h : List Txn} {all : List Int} {alw : List Int → Int → Bool} {w0 : World} {K : Nat → Prop} {Found : World → List Int → Prop} {bo g ba bc bal bh bf gc gal : Nat} {lbc lbal : Array Value} {Aa Ah : Option Addr} {ca ch : Nat}
    (C : Sea h all alw w0 K Found bo g ba bc bal bh bf gc gal lbc lbal Aa Ah ca ch) (f : Nat) :
    ∀ (pre : List Int) (s : St) (gone : Nat) (W : World), all.length = pre.length + f → runTx h St0 pre = some s → goodR alw h pre = true → BitsOf gone pre → (∀ x ∈ pre, x < (h.length : Int)) → Only (Ko bo g) w0 W → Ord bo g all.length pre W →
    Calls Tryd.prog 88 #[.agg (cells3 s), .int .u64 gone, .pointer (some ⟨bo, 0, none⟩), .pointer (some ⟨ba, 0, none⟩), .pointer (some ⟨bc, 0, none⟩), .pointer (some ⟨bal, 0, none⟩), .pointer (some ⟨bh, 0, none⟩), .pointer (some ⟨bf, 0, none⟩)] W (SeaPost h all alw K Found bo g pre f W) := by
  have HSub0 := hide (show ∀ b, Ko bo g b → K b from fun b hb => by rcases hb with rfl | rfl; exact C.ko; exact C.kg)
  induction f with
  | zero =>
    intro pre s gone W hlen hr hg hbits hin hOk hOrd
    clear hin
    have hO := hOk.mono HSub0.out
    have hl : pre.length = all.length := by omega
    have HP := hide (show dfsA (goodR alw h) all 0 pre = some pre from rfl)
    have hO1 := hO.trans (Only.of_alloc W (.cells (cells3 s) 123))
    have hOrd1 := hOrd.keep (W' := W.alloc (.cells (cells3 s) 123)) (Below.heap_alloc _ _ _ hOrd.var.lt) (by obtain ⟨cur, hb, _⟩ := hOrd.row; exact Below.heap_alloc _ _ _ hb.lt)
    have HC := hide (C.call _ pre hl (hOk.trans (Only.of_alloc W (.cells (cells3 s) 123))) hOrd1)
    have eg := C.ec
    have c1 := hOrd1.var.cell 0
    have c2 := (C.vall.1.of (hO1.block _ C.vall.1.lt C.vall.2)).cell 0
    have c3 := (C.vc.1.of (hO1.block _ C.vc.1.lt C.vc.2)).cell 0
    simp only [List.getElem?_toArray, List.getElem?_cons_zero, List.getElem?_cons_succ] at c1 c2 c3
    rw [hl] at c1 HC
    clear hr hg hbits hO hOk hOrd hO1 hOrd1 hlen hl C HSub0
    go_enter Tryd.func88, Tryd.ntmps88
    go_wp2_with (go_at_fn gc; refine HC.out.mono ?_; rintro e w2 ⟨rfl, hK, hF⟩)
    go_ret
    unfold SeaPost
    rw [HP.out]
    exact ⟨rfl, (Only.of_alloc _ _).trans hK, hF⟩
  | succ f ih =>
    intro pre s gone W hlen hr hg hbits hin hOk hOrd
    have hO := hOk.mono HSub0.out
    have HOk := hide hOk
    have hne : ((pre.length : Int) == (all.length : Int)) = false := by rw [beq_eq_false_iff_ne]; omega
    have hO1 := hO.trans (Only.of_alloc W (.cells (cells3 s) 123))
    have hOrd1 := hOrd.keep (W' := W.alloc (.cells (cells3 s) 123)) (Below.heap_alloc _ _ _ hOrd.var.lt) (by obtain ⟨cur, hb, _⟩ := hOrd.row; exact Below.heap_alloc _ _ _ hb.lt)
    have c1 := hOrd1.var.cell 0
    have c2 := (C.vall.1.of (hO1.block _ C.vall.1.lt C.vall.2)).cell 0
    simp only [List.getElem?_toArray, List.getElem?_cons_zero, List.getElem?_cons_succ] at c1 c2
    have HOr := hide hOrd1; have HB0 := hide (Blk.new W 123 (cells3 s))
    have HO := hide hO; have HLen := hide hlen; have HBits := hide hbits; have HIn := hide hin; have HR := hide hr; have HG := hide hg
    have hpl : pre.length ≤ 6 := by have := C.a6; omega
    have hal : all.length ≤ 6 := C.a6
    have HC := hide C
    clear hO1 hOrd1 hO hOk hOrd hlen hbits hin hr hg C
    go_enter Tryd.func88, Tryd.ntmps88
    go_wp2_with fail
    obtain ⟨wo, hwo⟩ : ∃ wo, wo = W.alloc (.cells (cells3 s) 123) := ⟨_, rfl⟩
    have HSub := hide (show ∀ b, Ko bo g b → K b from fun b hb => by rcases hb with rfl | rfl; exact HC.out.ko; exact HC.out.kg)
    have HOw := hide (show Only (Ko bo g) W wo by rw [hwo]; exact Only.of_alloc _ _)
    have HWs := hide (show W.heap.size < wo.heap.size by rw [hwo]; simp)
    rw [← hwo] at HOr HB0 ⊢
    clear hwo c1 c2
    have HP := hide (show dfsA (goodR alw h) all (f + 1) pre = all.findSome? (stepF h all alw f pre) from rfl)
    go_loopw [12, 13, 24] (fun _ _ i wr => ∃ k : Nat, k ≤ all.length ∧ i = .int .i64 k ∧ Hid ((all.take k).findSome? (stepF h all alw f pre) = none) ∧ Hid (Only (Ko bo g) wo wr) ∧ Hid (Ord bo g all.length pre wr)) (fun _ _ i _ => all.length - (intOf i).toNat)
    case atStart => exact ⟨0, Nat.zero_le _, rfl, rfl, Only.refl _ _, HOr.out⟩
    case round =>
      obtain ⟨k, hk, rfl, hN, hOn, hOd⟩ := hrel
      by_cases hlt : k < all.length
      · have hOw0 := HO.out.trans ((HOw.out.trans hOn.out).mono HSub.out)
        have hrow := HC.out.rall.mono (w' := wr) (S' := Old wr) (fun b hb => Nat.lt_of_lt_of_le hb.1 hOw0.size) (fun b hb => hOw0.block b hb.1 hb.2)
        obtain ⟨b0, off0, rfl, hb0, c0⟩ := at_Int hrow (Below.refl _ wr) hlt
        obtain ⟨hn0, hn1⟩ := HC.out.inA _ (List.getElem_mem hlt)
        have HTk := hide (show (all.take (k + 1)).findSome? (stepF h all alw f pre) = stepF h all alw f pre all[k] by rw [List.take_succ_eq_append_getElem hlt, List.findSome?_append, hN.out]; simp)
        obtain ⟨n, hn⟩ : ∃ n : Nat, all[k] = (n : Int) := ⟨all[k].toNat, by omega⟩
        have hnl : n < h.length := by omega
        have hn6 : n < 6 := by have := HC.out.h6; omega
        have HMem := hide (show (n : Int) ∈ all by rw [← hn]; exact List.getElem_mem hlt)
        rw [hn] at c0 HTk
        have hBs := HB0.out.of (hOn.out.block _ HB0.out.lt (fun hK => by have := HC.out.kl _ (HSub.out _ hK); have := HO.out.size; omega))
        have p0 := hBs.cell 0; have p1 := hBs.cell 1; have p2 := hBs.cell 2
        simp only [cells3, List.getElem?_toArray, List.getElem?_cons_zero, List.getElem?_cons_succ] at p0 p1 p2
        have hsh := (shr_eq gone n HBits.out.1).trans (HBits.out.2 n)
        have HOw0 := hide hOw0
        have HOn := hide hOn.out; have HOd := hide hOd.out
        have hlz : W.heap.size < wr.heap.size := hBs.lt
        clear hn hn0 hn1 hN hOw0 hrow hOn hOd hBs
        cases hc : pre.contains (n : Int) with
        | true =>
          rw [hc] at hsh
          have HE := hide (show stepF h all alw f pre (n : Int) = none by unfold stepF; rw [hc]; rfl)
          clear hc
          go_wp2_with fail
          go_roundw
          case rel => exact ⟨k + 1, by omega, by go_num, by rw [← HE.out]; exact HTk.out, HOn.out.trans (Only.of_alloc _ _), HOd.out.keep (Below.heap_alloc _ _ _ HOd.out.var.lt) (Below.heap_alloc _ _ _ HOd.out.glt)⟩
          case measure => simp [intOf]; omega
        | false =>
          rw [hc] at hsh
          have HE := hide (show stepF h all alw f pre (n : Int) = if (runOps s h[n].Ops).isSome && alw pre n then dfsA (goodR alw h) all f (pre ++ [(n : Int)]) else none by
            unfold stepF
            rw [hc, goodR_snoc alw h pre n s HR.out HG.out]
            simp [hnl])
          clear hc
          go_upto_region 7 with (fail)
          generalize hW1 : wr.alloc _ = w1
          have hB1 : Blk w1 wr.heap.size 123 (cells3 s) := by rw [← hW1]; exact Blk.new wr _ _
          have hb1 : Below wr.heap.size wr w1 := by rw [← hW1]; exact (Below.refl _ wr).alloc (Nat.le_refl _) _
          clear hW1 c0 p0 p1 p2
          have hO1 : Only K w0 w1 := HOw0.out.trans (Only.of_below hb1)
          have q1 := (HC.out.val.1.of (hO1.block _ HC.out.val.1.lt HC.out.val.2)).cell 0
          simp only [List.getElem?_toArray, List.getElem?_cons_zero, List.getElem?_cons_succ] at q1
          have eg := HC.out.eal
          have HAl := hide (HC.out.alwd w1 pre gone n hnl HBits.out HIn.out hO1)
          have HB1 := hide hB1; have Hb1 := hide hb1; have HO1 := hide hO1
          clear hB1 hb1 hO1
          cases ha : alw pre n with
          | false =>
            have HE2 := hide (show stepF h all alw f pre (n : Int) = none by rw [HE.out, ha, Bool.and_false]; rfl)
            rw [ha] at HAl
            clear ha
            go_wp2_with (go_at_fn gal; refine HAl.out.mono ?_; rintro e w2 ⟨rfl, hb2⟩; have HB2 := hide (Hb1.out.trans (hb2.mono Hb1.out.size)); clear hb2)
            go_roundw
            case rel => exact ⟨k + 1, by omega, by go_num, by rw [← HE2.out]; exact HTk.out, HOn.out.trans (Only.of_below HB2.out), HOd.out.keep (HB2.out.block _ HOd.out.var.lt) (HB2.out.block _ HOd.out.glt)⟩
            case measure => simp [intOf]; omega
          | true =>
            rw [ha] at HAl
            have HE3 := hide (show stepF h all alw f pre (n : Int) = if (runOps s h[n].Ops).isSome then dfsA (goodR alw h) all f (pre ++ [(n : Int)]) else none by rw [HE.out, ha, Bool.and_true])
            have HAw := hide ha
            clear ha HE
            have hrh := HC.out.rh.mono (w' := w0) (S' := fun b => Old w0 b ∧ ¬ K b) (fun _ h => h) (fun _ _ => rfl)
            obtain ⟨bh2, offh, A2, c2, rfl, hbh, d0, d1, d3, hj1, hj2, hj3⟩ := at_TxnG hrh hnl
            have hmo : h[n].Ops.length ≤ maxLen := Nat.le_trans hj1 hj2
            have HFo := hide (fun (W2 : World) (hb2 : Below w1.heap.size w1 W2) => follow_any h[n] s A2 c2 W2 wr.heap.size hmo (txnOk_parts (HC.out.hok _ (List.getElem_mem hnl))).1 (HB1.out.below hb2 HB1.out.lt)
              (hj3.mono (w' := W2) (S' := fun b => Old W2 b ∧ b ≠ wr.heap.size) (fun b hb => ⟨Nat.lt_of_lt_of_le hb.1 (Nat.le_trans HO1.out.size hb2.size), fun e => by have := hb.1; have := HOw0.out.size; unfold Old at *; omega⟩) (fun b hb => (hb2.block b (Nat.lt_of_lt_of_le hb.1 HO1.out.size)).trans (HO1.out.block b hb.1 hb.2))))
            have HD := hide (show _ ∧ _ ∧ _ from ⟨d0, d1, d3⟩)
            have Hbh := hide hbh
            clear hrh hj1 hj2 hj3 d0 d1 d3
            cases hrun : runOps s h[n].Ops with
            | none =>
              have HE2 := hide (show stepF h all alw f pre (n : Int) = none by rw [HE3.out, hrun]; rfl)
              have HFs := hide (show (runOps s h[n].Ops).isSome = false by rw [hrun]; rfl)
              clear hrun
              rw [HFs.out] at HFo
              go_wp2_with (first | (go_at_fn gal; refine HAl.out.mono ?_; rintro e w2 ⟨rfl, hb2⟩; have HB2 := hide hb2; have hO2 := HO1.out.trans (Only.of_below (S := K) hb2); have r1 := (HC.out.vh.1.of (hO2.block _ HC.out.vh.1.lt HC.out.vh.2)).cell 0; simp only [List.getElem?_toArray, List.getElem?_cons_zero, List.getElem?_cons_succ] at r1; have t0 := (World.cell?_of_block (w := w0) (a := ⟨bh2, offh + n * 3, none⟩) (hO2.block bh2 Hbh.out.1 Hbh.out.2)).trans HD.out.1; have t1 := (World.cell?_of_block (w := w0) (a := ⟨bh2, offh + n * 3 + 1, none⟩) (hO2.block bh2 Hbh.out.1 Hbh.out.2)).trans HD.out.2.1; have t2 := (World.cell?_of_block (w := w0) (a := ⟨bh2, offh + n * 3 + 2, none⟩) (hO2.block bh2 Hbh.out.1 Hbh.out.2)).trans HD.out.2.2; have HO2 := hide hO2; have HFo2 := hide (HFo.out w2 hb2); clear hb2 hO2) | (go_at_call 89; refine HFo2.out.mono ?_; rintro e w3 ⟨rfl, ⟨s3, hB3, hS3⟩, hO3⟩; have HB3 := hide hB3; have HS3 := hide hS3; have HO3 := hide hO3; clear hB3 hS3 hO3))
              have HB13 := hide (below_only (Hb1.out.trans (HB2.out.mono Hb1.out.size)) HO3.out (Nat.le_trans Hb1.out.size HB2.out.size) (fun i hi => Nat.le_of_eq hi.symm))
              go_roundw
              case rel => exact ⟨k + 1, by omega, by go_num, by rw [← HE2.out]; exact HTk.out, HOn.out.trans (Only.of_below HB13.out), HOd.out.keep (HB13.out.block _ HOd.out.var.lt) (HB13.out.block _ HOd.out.glt)⟩
              case measure => simp [intOf]; omega
            | some sn =>
              have HE2 := hide (show stepF h all alw f pre (n : Int) = dfsA (goodR alw h) all f (pre ++ [(n : Int)]) by rw [HE3.out, hrun]; rfl)
              have HFs := hide (show (runOps s h[n].Ops).isSome = true by rw [hrun]; rfl)
              have HRs := hide (runTx_snoc h pre n hnl s sn HR.out hrun)
              have HRn := hide hrun
              clear hrun
              rw [HFs.out] at HFo
              go_upto_region 8 with (first | (go_at_fn gal; refine HAl.out.mono ?_; rintro e w2 ⟨rfl, hb2⟩; have HB2 := hide hb2; have hO2 := HO1.out.trans (Only.of_below (S := K) hb2); have r1 := (HC.out.vh.1.of (hO2.block _ HC.out.vh.1.lt HC.out.vh.2)).cell 0; simp only [List.getElem?_toArray, List.getElem?_cons_zero, List.getElem?_cons_succ] at r1; have t0 := (World.cell?_of_block (w := w0) (a := ⟨bh2, offh + n * 3, none⟩) (hO2.block bh2 Hbh.out.1 Hbh.out.2)).trans HD.out.1; have t1 := (World.cell?_of_block (w := w0) (a := ⟨bh2, offh + n * 3 + 1, none⟩) (hO2.block bh2 Hbh.out.1 Hbh.out.2)).trans HD.out.2.1; have t2 := (World.cell?_of_block (w := w0) (a := ⟨bh2, offh + n * 3 + 2, none⟩) (hO2.block bh2 Hbh.out.1 Hbh.out.2)).trans HD.out.2.2; have HO2 := hide hO2; have HFo2 := hide (HFo.out w2 hb2); clear hb2 hO2) | (go_at_call 89; refine HFo2.out.mono ?_; rintro e w3 ⟨rfl, ⟨s3, hB3, hS3⟩, hO3⟩; have HB3 := hide hB3; have HS3 := hide hS3; have HO3 := hide hO3; clear hB3 hS3 hO3))
              have HB13 := hide (below_only (Hb1.out.trans (HB2.out.mono Hb1.out.size)) HO3.out (Nat.le_trans Hb1.out.size HB2.out.size) (fun i hi => Nat.le_of_eq hi.symm))
              have HOd3 := HOd.out.keep (HB13.out.block _ HOd.out.var.lt) (HB13.out.block _ HOd.out.glt)
              have v1 := HOd3.var.cell 0
              have vf1 := HOd3.var.frozen 0
              simp only [List.getElem?_toArray, List.getElem?_cons_zero, List.getElem?_cons_succ] at v1
              obtain ⟨cur, hcur, hcs, hcv⟩ := HOd3.row
              have hvl := HOd3.var.lt
              have hgl := hcur.lt
              have HCur := hide (show Blk w3 g _ cur ∧ cur.size = all.length ∧ ∀ j (hj : j < pre.length), cur[j]? = some (.int .i64 pre[j]) from ⟨hcur, hcs, hcv⟩)
              have HVar := hide HOd3.var
              have hpk : pre.length < all.length := by have := HLen.out; omega
              obtain ⟨i0, hi, hz0, hz1, hz2⟩ := info_parts infoInt_
              have hng := HC.out.ne
              have hng' := Ne.symm HC.out.ne
              clear hcur hcs hcv HOd3
              go_upto_region 9 with (at_builtin; refine wpList_room rfl (.tmp 49) (.tmp 51) 26 rfl 3 i0 Tryd.underlying26 hi hz1 g pre.length all.length cur (.int .i64 n) HCur.out.1 hpk (by rw [HCur.out.2.1]; exact hpk) rfl rfl 1 rfl ?_)
              generalize hW5 : World.alloc _ _ = w5
              have hnb : ∀ b, K b → b ≠ wr.heap.size := fun b hb e => by have := HC.out.kl b hb; have := HOw0.out.size; omega
              have hO5 : Only (Ko bo g) w3 w5 := by rw [← hW5]; exact ((Only.setCell (S := Ko bo g) (Only.refl _ _) (p := ⟨g, pre.length, none⟩) (.inr rfl) _).setCell (p := ⟨bo, 0, none⟩) (.inl rfl) _).trans (Only.of_alloc _ _)
              have hOrd5 : Ord bo g all.length (pre ++ [(n : Int)]) w5 := by
                refine ⟨?_, cur.setIfInBounds pre.length (.int .i64 n), ?_, ?_, ?_⟩
                · rw [← hW5, List.length_append, List.length_singleton]
                  exact ((HVar.out.far (p := ⟨g, pre.length, none⟩) hng _).set_ 0 _).alloc _
                · rw [← hW5]; exact ((HCur.out.1.set_ pre.length _).far (p := ⟨bo, 0, none⟩) hng' _).alloc _
                · rw [Array.size_setIfInBounds]; exact HCur.out.2.1
                · intro j hj
                  rw [List.length_append, List.length_singleton] at hj
                  by_cases hjl : j < pre.length
                  · rw [Array.getElem?_setIfInBounds_ne (by omega), List.getElem_append_left hjl]; exact HCur.out.2.2 j hjl
                  · obtain rfl : j = pre.length := by omega
                    rw [Array.getElem?_setIfInBounds, if_pos rfl, if_pos (by rw [HCur.out.2.1]; exact hpk)]
                    simp
              have hB5 : Blk w5 wr.heap.size 123 (cells3 sn) := by
                have := HB3.out
                rw [HS3.out sn HRn.out] at this
                rw [← hW5]
                exact ((this.far (p := ⟨g, pre.length, none⟩) (Ne.symm (hnb g HC.out.kg)) _).far (p := ⟨bo, 0, none⟩) (Ne.symm (hnb bo HC.out.ko)) _).alloc _
              clear hW5
              have HW5 := hide (show Only (Ko bo g) wo w5.drew from (HOn.out.trans ((Only.of_below HB13.out).trans hO5)).drew_)
              have hO05 : Only K w0 w5.drew := HOw0.out.trans (((Only.of_below HB13.out).trans hO5).drew_.mono HSub.out)
              have hf := (HC.out.vf.1.of (hO05.block _ HC.out.vf.1.lt HC.out.vf.2)).cell 0
              have z0 := hB5.drew_.cell 0; have z1 := hB5.drew_.cell 1; have z2 := hB5.drew_.cell 2
              simp only [cells3, List.getElem?_toArray, List.getElem?_cons_zero, List.getElem?_cons_succ] at hf z0 z1 z2
              have hf' : w5.cell? ⟨bf, 0, none⟩ = _ := hf
              have z0' : w5.cell? ⟨wr.heap.size, 0, none⟩ = _ := z0
              have z1' : w5.cell? ⟨wr.heap.size, 1, none⟩ = _ := z1
              have z2' : w5.cell? ⟨wr.heap.size, 2, none⟩ = _ := z2
              have HIh := hide (ih (pre ++ [(n : Int)]) sn (gone ||| 2 ^ n) w5.drew (by rw [List.length_append, List.length_singleton]; have := HLen.out; omega) HRs.out (by rw [goodR_snoc alw h pre n s HR.out HG.out]; simp [hnl, HRn.out, HAw.out]) (HBits.out.snoc n hn6) (fun x hx => by rcases List.mem_append.1 hx with h1 | h1; exact HIn.out x h1; simp at h1; omega) (HOk.out.trans (HOw.out.trans HW5.out)) ⟨hOrd5.var, hOrd5.row⟩)
              have hor := or_shl gone n HBits.out.1 hn6
              have eg2 := HC.out.ef
              clear hOrd5 hB5 hO05 hO5 hnb
              go_still_tail 6, (by kernel_rfl)
              change wpList _ _ _ _ _ w5.drew
              generalize w5.drew = w6 at HW5 HIh hf z0 z1 z2 ⊢
              unfold SeaPost at HIh
              cases hd : dfsA (goodR alw h) all f (pre ++ [(n : Int)]) with
              | none =>
                rw [hd] at HIh
                have HE4 := hide (HE2.out.trans hd)
                clear hd hf' z0' z1' z2'
                go_wp2_with (go_at_fn 88; refine HIh.out.mono ?_; rintro e w7 ⟨rfl, hK7, hO7⟩; have HK7 := hide hK7; have HO7 := hide hO7; have u1 := hO7.var.cell 0; have uf1 := hO7.var.frozen 0; rw [List.length_append, List.length_singleton] at u1; simp only [List.getElem?_toArray, List.getElem?_cons_zero, List.getElem?_cons_succ] at u1; clear hK7 hO7)
                go_roundw
                case rel =>
                  refine ⟨k + 1, by omega, by go_num, by rw [← HE4.out]; exact HTk.out, (HW5.out.trans HK7.out).setCell (p := ⟨bo, 0, none⟩) (.inl rfl) _, ⟨?_, ?_⟩⟩
                  · exact HO7.out.var.set_ 0 _
                  · obtain ⟨cu, hcu, hcs, hcv⟩ := HO7.out.row
                    refine ⟨cu, hcu.far (p := ⟨bo, 0, none⟩) hng' _, hcs, fun j hj => ?_⟩
                    have := hcv j (by rw [List.length_append]; omega)
                    rwa [List.getElem_append_left hj] at this
                case measure => simp [intOf]; omega
              | some o =>
                rw [hd] at HIh
                have HE4 := hide (HE2.out.trans hd)
                clear hd hf' z0' z1' z2'
                go_wp2_with (go_at_fn 88; refine HIh.out.mono ?_; rintro e w7 ⟨rfl, hK7, hF7⟩; have HK7 := hide hK7; have HF7 := hide hF7; clear hK7 hF7)
                go_ret
                unfold SeaPost
                have hfin : dfsA (goodR alw h) all (f + 1) pre = some o := by
                  have h1 := HTk.out
                  have h2 := HE4.out
                  rw [HP.out]
                  generalize stepF h all alw f pre = F at h1 h2 ⊢
                  rw [← List.take_append_drop (k + 1) all, List.findSome?_append, h1, h2]
                  rfl
                rw [hfin]
                exact ⟨rfl, (HOw.out.mono HSub.out).trans ((HW5.out.mono HSub.out).trans HK7.out), HF7.out⟩
      · obtain rfl : k = all.length := by omega
        have HN := hide (show dfsA (goodR alw h) all (f + 1) pre = none by rw [HP.out]; have := hN.out; rw [List.take_length] at this; exact this)
        have HOn := hide hOn.out; have HOd := hide hOd.out
        clear hN hOn hOd
        go_wp2_with fail
        go_ret
        unfold SeaPost
        rw [HN.out]
        exact ⟨rfl, HOw.out.trans HOn.out, HOd.out⟩
end Go.Proofs.YtmlbfhknapkhgaaDoor
