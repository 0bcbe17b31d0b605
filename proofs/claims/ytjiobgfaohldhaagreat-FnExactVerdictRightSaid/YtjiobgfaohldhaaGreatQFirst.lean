/- The program's search for serial orders: the function literal of eachSerial. The program's eachSerial and firstSerial. The program's firstSerial: the first right serial order that a function allows. -/
import Derived.Test.YtjiobgfaohldhaaGreatQNest2
import Derived.Test.YtjiobgfaohldhaaGreatQDone
import Derived.Test.YtjiobgfaohldhaaGreatQAllF
import Derived.WalkSpells
import Derived.Laws.EntriesVeiled
import Derived.BigQuiet
namespace Go.Proofs.YtjiobgfaohldhaaGreat
open Go.RowKit
set_option linter.unusedVariables false
set_option linter.unusedSimpArgs false

/-- What stands still while the search goes on. -/
structure Sea (h : List Txn) (all : List Int) (alw : List Int → Int → Bool) (w0 : World) (K : Nat → Prop) (Found : World → List Int → Prop) (bo g ba bc bal bh bf gc gal : Nat) (lbc lbal : Array Value) (Aa Ah : Option Addr) (ca ch : Nat) : Prop where
  kl : ∀ b, K b → b < w0.heap.size
  ko : K bo
  kg : K g
  ne : bo ≠ g
  vall : Blk w0 ba 23 #[.slice Aa all.length ca] ∧ ¬ K ba
  vh : Blk w0 bh 30 #[.slice Ah h.length ch] ∧ ¬ K bh
  vc : Blk w0 bc 102 #[.func (.func gc) #[] lbc] ∧ ¬ K bc
  val : Blk w0 bal 72 #[.func (.func gal) #[] lbal] ∧ ¬ K bal
  vf : Blk w0 bf 131 #[.func (.func 116) #[] #[.pointer (some ⟨bo, 0, none⟩), .pointer (some ⟨ba, 0, none⟩), .pointer (some ⟨bc, 0, none⟩), .pointer (some ⟨bal, 0, none⟩), .pointer (some ⟨bh, 0, none⟩), .pointer (some ⟨bf, 0, none⟩)]] ∧ ¬ K bf
  rall : Row tInt w0 (fun b => Old w0 b ∧ ¬ K b) Aa all
  rh : Row tTxn w0 (fun b => Old w0 b ∧ ¬ K b) Ah h
  h6 : h.length ≤ 6
  hok : ∀ t ∈ h, txnOk t = true
  a6 : all.length ≤ 6
  inA : ∀ n ∈ all, 0 ≤ n ∧ n < h.length
  ec : ∀ args w, (callFunc gc args).run Tryz.prog w = .ok (.enter gc args) w
  eal : ∀ args w, (callFunc gal args).run Tryz.prog w = .ok (.enter gal args) w
  ef : ∀ args w, (callFunc 116 args).run Tryz.prog w = .ok (.enter 116 args) w
  call : ∀ (W : World) (o : List Int), o.length = all.length → Only (Ko bo g) w0 W → Ord bo g all.length o W →
    Calls Tryz.prog gc (#[.slice (some ⟨g, 0, none⟩) o.length all.length] ++ lbc) W fun e w' => e = .returned (.bool false) ∧ Only K W w' ∧ Found w' o
  alwd : ∀ (W : World) (pre : List Int) (gone n : Nat), n < h.length → BitsOf gone pre → (∀ x ∈ pre, x < (h.length : Int)) → Only K w0 W →
    Calls Tryz.prog gal (#[.int .u64 gone, .int .i64 n] ++ lbal) W fun e w' => e = .returned (.bool (alw pre n)) ∧ Below W.heap.size W w'

/-- What is found behind one more number. -/
def stepF (h : List Txn) (all : List Int) (alw : List Int → Int → Bool) (f : Nat) (pre : List Int) (x : Int) : Option (List Int) :=
  if pre.contains x then none else if goodR alw h (pre ++ [x]) then dfsA (goodR alw h) all f (pre ++ [x]) else none
/-- What the search answers. -/
def SeaPost (h : List Txn) (all : List Int) (alw : List Int → Int → Bool) (K : Nat → Prop) (Found : World → List Int → Prop) (bo g : Nat) (pre : List Int) (f : Nat) (W : World) (e : Ending) (w' : World) : Prop :=
  match dfsA (goodR alw h) all f pre with
  | none => e = .returned (.bool true) ∧ Only (Ko bo g) W w' ∧ Ord bo g all.length pre w'
  | some o => e = .returned (.bool false) ∧ Only K W w' ∧ Found w' o
set_option maxRecDepth 10000 in
set_option maxHeartbeats 4000000 in
theorem from_any {h : List Txn} {all : List Int} {alw : List Int → Int → Bool} {w0 : World} {K : Nat → Prop} {Found : World → List Int → Prop} {bo g ba bc bal bh bf gc gal : Nat} {lbc lbal : Array Value} {Aa Ah : Option Addr} {ca ch : Nat}
    (C : Sea h all alw w0 K Found bo g ba bc bal bh bf gc gal lbc lbal Aa Ah ca ch) (f : Nat) :
    ∀ (pre : List Int) (s : St) (gone : Nat) (W : World), all.length = pre.length + f → runTx h St0 pre = some s → goodR alw h pre = true → BitsOf gone pre → (∀ x ∈ pre, x < (h.length : Int)) → Only (Ko bo g) w0 W → Ord bo g all.length pre W →
    Calls Tryz.prog 116 #[.agg (cells3 s), .int .u64 gone, .pointer (some ⟨bo, 0, none⟩), .pointer (some ⟨ba, 0, none⟩), .pointer (some ⟨bc, 0, none⟩), .pointer (some ⟨bal, 0, none⟩), .pointer (some ⟨bh, 0, none⟩), .pointer (some ⟨bf, 0, none⟩)] W (SeaPost h all alw K Found bo g pre f W) := by
  have HSub0 := hide (show ∀ b, Ko bo g b → K b from fun b hb => by rcases hb with rfl | rfl; exact C.ko; exact C.kg)
  induction f with
  | zero =>
    intro pre s gone W hlen hr hg hbits hin hOk hOrd
    clear hin
    have hO := hOk.mono HSub0.out
    have hl : pre.length = all.length := by omega
    have HP := hide (show dfsA (goodR alw h) all 0 pre = some pre from rfl)
    have hO1 := hO.trans (Only.of_alloc W (.cells (cells3 s) 95))
    have hOrd1 := hOrd.keep (W' := W.alloc (.cells (cells3 s) 95)) (Below.heap_alloc _ _ _ hOrd.var.lt) (by obtain ⟨cur, hb, _⟩ := hOrd.row; exact Below.heap_alloc _ _ _ hb.lt)
    have HC := hide (C.call _ pre hl (hOk.trans (Only.of_alloc W (.cells (cells3 s) 95))) hOrd1)
    have eg := C.ec
    have c1 := hOrd1.var.cell 0
    have c2 := (C.vall.1.of (hO1.block _ C.vall.1.lt C.vall.2)).cell 0
    have c3 := (C.vc.1.of (hO1.block _ C.vc.1.lt C.vc.2)).cell 0
    simp only [List.getElem?_toArray, List.getElem?_cons_zero, List.getElem?_cons_succ] at c1 c2 c3
    rw [hl] at c1 HC
    clear hr hg hbits hO hOk hOrd hO1 hOrd1 hlen hl C HSub0
    go_enter Tryz.func116, Tryz.ntmps116
    go_wp2_with (go_at_fn gc; refine HC.out.mono ?_; rintro e w2 ⟨rfl, hK, hF⟩)
    go_ret
    unfold SeaPost
    rw [HP.out]
    exact ⟨rfl, (Only.of_alloc _ _).trans hK, hF⟩
  | succ f ih =>
    intro pre s gone W hlen hr hg hbits hin hOk hOrd
    have hO := hOk.mono HSub0.out
    have HOk := hide hOk
    have hne : ((pre.length : Int) == (all.length : Int)) = false := by rw [beq_eq_false_iff_ne]; omega
    have hO1 := hO.trans (Only.of_alloc W (.cells (cells3 s) 95))
    have hOrd1 := hOrd.keep (W' := W.alloc (.cells (cells3 s) 95)) (Below.heap_alloc _ _ _ hOrd.var.lt) (by obtain ⟨cur, hb, _⟩ := hOrd.row; exact Below.heap_alloc _ _ _ hb.lt)
    have c1 := hOrd1.var.cell 0
    have c2 := (C.vall.1.of (hO1.block _ C.vall.1.lt C.vall.2)).cell 0
    simp only [List.getElem?_toArray, List.getElem?_cons_zero, List.getElem?_cons_succ] at c1 c2
    have HOr := hide hOrd1; have HB0 := hide (Blk.new W 95 (cells3 s))
    have HO := hide hO; have HLen := hide hlen; have HBits := hide hbits; have HIn := hide hin; have HR := hide hr; have HG := hide hg
    have hpl : pre.length ≤ 6 := by have := C.a6; omega
    have hal : all.length ≤ 6 := C.a6
    have HC := hide C
    clear hO1 hOrd1 hO hOk hOrd hlen hbits hin hr hg C
    go_enter Tryz.func116, Tryz.ntmps116
    go_wp2_with fail
    obtain ⟨wo, hwo⟩ : ∃ wo, wo = W.alloc (.cells (cells3 s) 95) := ⟨_, rfl⟩
    have HSub := hide (show ∀ b, Ko bo g b → K b from fun b hb => by rcases hb with rfl | rfl; exact HC.out.ko; exact HC.out.kg)
    have HOw := hide (show Only (Ko bo g) W wo by rw [hwo]; exact Only.of_alloc _ _)
    have HWs := hide (show W.heap.size < wo.heap.size by rw [hwo]; simp)
    rw [← hwo] at HOr HB0 ⊢
    clear hwo c1 c2
    have HP := hide (show dfsA (goodR alw h) all (f + 1) pre = all.findSome? (stepF h all alw f pre) from rfl)
    go_loopw [12, 13, 24] (fun _ _ i wr => ∃ k : Nat, k ≤ all.length ∧ i = .int .i64 k ∧ Hid ((all.take k).findSome? (stepF h all alw f pre) = none) ∧ Hid (Only (Ko bo g) wo wr) ∧ Hid (Ord bo g all.length pre wr)) (fun _ _ i _ => all.length - (intOf i).toNat)
    case atStart => exact ⟨0, Nat.zero_le _, rfl, rfl, Only.refl _ _, HOr.out⟩
    case round =>
      obtain ⟨k, hk, rfl, hN, hOn, hOd⟩ := hrel
      by_cases hlt : k < all.length
      · have hOw0 := HO.out.trans ((HOw.out.trans hOn.out).mono HSub.out)
        have hrow := HC.out.rall.mono (w' := wr) (S' := Old wr) (fun b hb => Nat.lt_of_lt_of_le hb.1 hOw0.size) (fun b hb => hOw0.block b hb.1 hb.2)
        obtain ⟨b0, off0, rfl, hb0, c0⟩ := at_Int hrow (Below.refl _ wr) hlt
        obtain ⟨hn0, hn1⟩ := HC.out.inA _ (List.getElem_mem hlt)
        have HTk := hide (show (all.take (k + 1)).findSome? (stepF h all alw f pre) = stepF h all alw f pre all[k] by rw [List.take_succ_eq_append_getElem hlt, List.findSome?_append, hN.out]; simp)
        obtain ⟨n, hn⟩ : ∃ n : Nat, all[k] = (n : Int) := ⟨all[k].toNat, by omega⟩
        have hnl : n < h.length := by omega
        have hn6 : n < 6 := by have := HC.out.h6; omega
        have HMem := hide (show (n : Int) ∈ all by rw [← hn]; exact List.getElem_mem hlt)
        rw [hn] at c0 HTk
        have hBs := HB0.out.of (hOn.out.block _ HB0.out.lt (fun hK => by have := HC.out.kl _ (HSub.out _ hK); have := HO.out.size; omega))
        have p0 := hBs.cell 0; have p1 := hBs.cell 1; have p2 := hBs.cell 2
        simp only [cells3, List.getElem?_toArray, List.getElem?_cons_zero, List.getElem?_cons_succ] at p0 p1 p2
        have hsh := (shr_eq gone n HBits.out.1).trans (HBits.out.2 n)
        have HOw0 := hide hOw0
        have HOn := hide hOn.out; have HOd := hide hOd.out
        have hlz : W.heap.size < wr.heap.size := hBs.lt
        clear hn hn0 hn1 hN hOw0 hrow hOn hOd hBs
        cases hc : pre.contains (n : Int) with
        | true =>
          rw [hc] at hsh
          have HE := hide (show stepF h all alw f pre (n : Int) = none by unfold stepF; rw [hc]; rfl)
          clear hc
          go_wp2_with fail
          go_roundw
          case rel => exact ⟨k + 1, by omega, by go_num, by rw [← HE.out]; exact HTk.out, HOn.out.trans (Only.of_alloc _ _), HOd.out.keep (Below.heap_alloc _ _ _ HOd.out.var.lt) (Below.heap_alloc _ _ _ HOd.out.glt)⟩
          case measure => simp [intOf]; omega
        | false =>
          rw [hc] at hsh
          have HE := hide (show stepF h all alw f pre (n : Int) = if (runOps s h[n].Ops).isSome && alw pre n then dfsA (goodR alw h) all f (pre ++ [(n : Int)]) else none by
            unfold stepF
            rw [hc, goodR_snoc alw h pre n s HR.out HG.out]
            simp [hnl])
          clear hc
          go_upto_region 7 with (fail)
          generalize hW1 : wr.alloc _ = w1
          have hB1 : Blk w1 wr.heap.size 95 (cells3 s) := by rw [← hW1]; exact Blk.new wr _ _
          have hb1 : Below wr.heap.size wr w1 := by rw [← hW1]; exact (Below.refl _ wr).alloc (Nat.le_refl _) _
          clear hW1 c0 p0 p1 p2
          have hO1 : Only K w0 w1 := HOw0.out.trans (Only.of_below hb1)
          have q1 := (HC.out.val.1.of (hO1.block _ HC.out.val.1.lt HC.out.val.2)).cell 0
          simp only [List.getElem?_toArray, List.getElem?_cons_zero, List.getElem?_cons_succ] at q1
          have eg := HC.out.eal
          have HAl := hide (HC.out.alwd w1 pre gone n hnl HBits.out HIn.out hO1)
          have HB1 := hide hB1; have Hb1 := hide hb1; have HO1 := hide hO1
          clear hB1 hb1 hO1
          cases ha : alw pre n with
          | false =>
            have HE2 := hide (show stepF h all alw f pre (n : Int) = none by rw [HE.out, ha, Bool.and_false]; rfl)
            rw [ha] at HAl
            clear ha
            go_wp2_with (go_at_fn gal; refine HAl.out.mono ?_; rintro e w2 ⟨rfl, hb2⟩; have HB2 := hide (Hb1.out.trans (hb2.mono Hb1.out.size)); clear hb2)
            go_roundw
            case rel => exact ⟨k + 1, by omega, by go_num, by rw [← HE2.out]; exact HTk.out, HOn.out.trans (Only.of_below HB2.out), HOd.out.keep (HB2.out.block _ HOd.out.var.lt) (HB2.out.block _ HOd.out.glt)⟩
            case measure => simp [intOf]; omega
          | true =>
            rw [ha] at HAl
            have HE3 := hide (show stepF h all alw f pre (n : Int) = if (runOps s h[n].Ops).isSome then dfsA (goodR alw h) all f (pre ++ [(n : Int)]) else none by rw [HE.out, ha, Bool.and_true])
            have HAw := hide ha
            clear ha HE
            have hrh := HC.out.rh.mono (w' := w0) (S' := fun b => Old w0 b ∧ ¬ K b) (fun _ h => h) (fun _ _ => rfl)
            obtain ⟨bh2, offh, A2, c2, rfl, hbh, d0, d1, d3, hj1, hj2, hj3⟩ := at_TxnG hrh hnl
            have hmo : h[n].Ops.length ≤ maxLen := Nat.le_trans hj1 hj2
            have HFo := hide (fun (W2 : World) (hb2 : Below w1.heap.size w1 W2) => follow_any h[n] s A2 c2 W2 wr.heap.size hmo (txnOk_parts (HC.out.hok _ (List.getElem_mem hnl))).1 (HB1.out.below hb2 HB1.out.lt)
              (hj3.mono (w' := W2) (S' := fun b => Old W2 b ∧ b ≠ wr.heap.size) (fun b hb => ⟨Nat.lt_of_lt_of_le hb.1 (Nat.le_trans HO1.out.size hb2.size), fun e => by have := hb.1; have := HOw0.out.size; unfold Old at *; omega⟩) (fun b hb => (hb2.block b (Nat.lt_of_lt_of_le hb.1 HO1.out.size)).trans (HO1.out.block b hb.1 hb.2))))
            have HD := hide (show _ ∧ _ ∧ _ from ⟨d0, d1, d3⟩)
            have Hbh := hide hbh
            clear hrh hj1 hj2 hj3 d0 d1 d3
            cases hrun : runOps s h[n].Ops with
            | none =>
              have HE2 := hide (show stepF h all alw f pre (n : Int) = none by rw [HE3.out, hrun]; rfl)
              have HFs := hide (show (runOps s h[n].Ops).isSome = false by rw [hrun]; rfl)
              clear hrun
              rw [HFs.out] at HFo
              go_wp2_with (first | (go_at_fn gal; refine HAl.out.mono ?_; rintro e w2 ⟨rfl, hb2⟩; have HB2 := hide hb2; have hO2 := HO1.out.trans (Only.of_below (S := K) hb2); have r1 := (HC.out.vh.1.of (hO2.block _ HC.out.vh.1.lt HC.out.vh.2)).cell 0; simp only [List.getElem?_toArray, List.getElem?_cons_zero, List.getElem?_cons_succ] at r1; have t0 := (World.cell?_of_block (w := w0) (a := ⟨bh2, offh + n * 3, none⟩) (hO2.block bh2 Hbh.out.1 Hbh.out.2)).trans HD.out.1; have t1 := (World.cell?_of_block (w := w0) (a := ⟨bh2, offh + n * 3 + 1, none⟩) (hO2.block bh2 Hbh.out.1 Hbh.out.2)).trans HD.out.2.1; have t2 := (World.cell?_of_block (w := w0) (a := ⟨bh2, offh + n * 3 + 2, none⟩) (hO2.block bh2 Hbh.out.1 Hbh.out.2)).trans HD.out.2.2; have HO2 := hide hO2; have HFo2 := hide (HFo.out w2 hb2); clear hb2 hO2) | (go_at_call 71; refine HFo2.out.mono ?_; rintro e w3 ⟨rfl, ⟨s3, hB3, hS3⟩, hO3⟩; have HB3 := hide hB3; have HS3 := hide hS3; have HO3 := hide hO3; clear hB3 hS3 hO3))
              have HB13 := hide (below_only (Hb1.out.trans (HB2.out.mono Hb1.out.size)) HO3.out (Nat.le_trans Hb1.out.size HB2.out.size) (fun i hi => Nat.le_of_eq hi.symm))
              go_roundw
              case rel => exact ⟨k + 1, by omega, by go_num, by rw [← HE2.out]; exact HTk.out, HOn.out.trans (Only.of_below HB13.out), HOd.out.keep (HB13.out.block _ HOd.out.var.lt) (HB13.out.block _ HOd.out.glt)⟩
              case measure => simp [intOf]; omega
            | some sn =>
              have HE2 := hide (show stepF h all alw f pre (n : Int) = dfsA (goodR alw h) all f (pre ++ [(n : Int)]) by rw [HE3.out, hrun]; rfl)
              have HFs := hide (show (runOps s h[n].Ops).isSome = true by rw [hrun]; rfl)
              have HRs := hide (runTx_snoc h pre n hnl s sn HR.out hrun)
              have HRn := hide hrun
              clear hrun
              rw [HFs.out] at HFo
              go_upto_region 8 with (first | (go_at_fn gal; refine HAl.out.mono ?_; rintro e w2 ⟨rfl, hb2⟩; have HB2 := hide hb2; have hO2 := HO1.out.trans (Only.of_below (S := K) hb2); have r1 := (HC.out.vh.1.of (hO2.block _ HC.out.vh.1.lt HC.out.vh.2)).cell 0; simp only [List.getElem?_toArray, List.getElem?_cons_zero, List.getElem?_cons_succ] at r1; have t0 := (World.cell?_of_block (w := w0) (a := ⟨bh2, offh + n * 3, none⟩) (hO2.block bh2 Hbh.out.1 Hbh.out.2)).trans HD.out.1; have t1 := (World.cell?_of_block (w := w0) (a := ⟨bh2, offh + n * 3 + 1, none⟩) (hO2.block bh2 Hbh.out.1 Hbh.out.2)).trans HD.out.2.1; have t2 := (World.cell?_of_block (w := w0) (a := ⟨bh2, offh + n * 3 + 2, none⟩) (hO2.block bh2 Hbh.out.1 Hbh.out.2)).trans HD.out.2.2; have HO2 := hide hO2; have HFo2 := hide (HFo.out w2 hb2); clear hb2 hO2) | (go_at_call 71; refine HFo2.out.mono ?_; rintro e w3 ⟨rfl, ⟨s3, hB3, hS3⟩, hO3⟩; have HB3 := hide hB3; have HS3 := hide hS3; have HO3 := hide hO3; clear hB3 hS3 hO3))
              have HB13 := hide (below_only (Hb1.out.trans (HB2.out.mono Hb1.out.size)) HO3.out (Nat.le_trans Hb1.out.size HB2.out.size) (fun i hi => Nat.le_of_eq hi.symm))
              have HOd3 := HOd.out.keep (HB13.out.block _ HOd.out.var.lt) (HB13.out.block _ HOd.out.glt)
              have v1 := HOd3.var.cell 0
              have vf1 := HOd3.var.frozen 0
              simp only [List.getElem?_toArray, List.getElem?_cons_zero, List.getElem?_cons_succ] at v1
              obtain ⟨cur, hcur, hcs, hcv⟩ := HOd3.row
              have hvl := HOd3.var.lt
              have hgl := hcur.lt
              have HCur := hide (show Blk w3 g _ cur ∧ cur.size = all.length ∧ ∀ j (hj : j < pre.length), cur[j]? = some (.int .i64 pre[j]) from ⟨hcur, hcs, hcv⟩)
              have HVar := hide HOd3.var
              have hpk : pre.length < all.length := by have := HLen.out; omega
              obtain ⟨i0, hi, hz0, hz1, hz2⟩ := info_parts infoInt_
              have hng := HC.out.ne
              have hng' := Ne.symm HC.out.ne
              clear hcur hcs hcv HOd3
              go_upto_region 9 with (at_builtin; refine wpList_room rfl (.tmp 49) (.tmp 51) 23 rfl 3 i0 Tryz.underlying23 hi hz1 g pre.length all.length cur (.int .i64 n) HCur.out.1 hpk (by rw [HCur.out.2.1]; exact hpk) rfl rfl 1 rfl ?_)
              generalize hW5 : World.alloc _ _ = w5
              have hnb : ∀ b, K b → b ≠ wr.heap.size := fun b hb e => by have := HC.out.kl b hb; have := HOw0.out.size; omega
              have hO5 : Only (Ko bo g) w3 w5 := by rw [← hW5]; exact ((Only.setCell (S := Ko bo g) (Only.refl _ _) (p := ⟨g, pre.length, none⟩) (.inr rfl) _).setCell (p := ⟨bo, 0, none⟩) (.inl rfl) _).trans (Only.of_alloc _ _)
              have hOrd5 : Ord bo g all.length (pre ++ [(n : Int)]) w5 := by
                refine ⟨?_, cur.setIfInBounds pre.length (.int .i64 n), ?_, ?_, ?_⟩
                · rw [← hW5, List.length_append, List.length_singleton]
                  exact ((HVar.out.far (p := ⟨g, pre.length, none⟩) hng _).set_ 0 _).alloc _
                · rw [← hW5]; exact ((HCur.out.1.set_ pre.length _).far (p := ⟨bo, 0, none⟩) hng' _).alloc _
                · rw [Array.size_setIfInBounds]; exact HCur.out.2.1
                · intro j hj
                  rw [List.length_append, List.length_singleton] at hj
                  by_cases hjl : j < pre.length
                  · rw [Array.getElem?_setIfInBounds_ne (by omega), List.getElem_append_left hjl]; exact HCur.out.2.2 j hjl
                  · obtain rfl : j = pre.length := by omega
                    rw [Array.getElem?_setIfInBounds, if_pos rfl, if_pos (by rw [HCur.out.2.1]; exact hpk)]
                    simp
              have hB5 : Blk w5 wr.heap.size 95 (cells3 sn) := by
                have := HB3.out
                rw [HS3.out sn HRn.out] at this
                rw [← hW5]
                exact ((this.far (p := ⟨g, pre.length, none⟩) (Ne.symm (hnb g HC.out.kg)) _).far (p := ⟨bo, 0, none⟩) (Ne.symm (hnb bo HC.out.ko)) _).alloc _
              clear hW5
              have HW5 := hide (show Only (Ko bo g) wo w5.drew from (HOn.out.trans ((Only.of_below HB13.out).trans hO5)).drew_)
              have hO05 : Only K w0 w5.drew := HOw0.out.trans (((Only.of_below HB13.out).trans hO5).drew_.mono HSub.out)
              have hf := (HC.out.vf.1.of (hO05.block _ HC.out.vf.1.lt HC.out.vf.2)).cell 0
              have z0 := hB5.drew_.cell 0; have z1 := hB5.drew_.cell 1; have z2 := hB5.drew_.cell 2
              simp only [cells3, List.getElem?_toArray, List.getElem?_cons_zero, List.getElem?_cons_succ] at hf z0 z1 z2
              have hf' : w5.cell? ⟨bf, 0, none⟩ = _ := hf
              have z0' : w5.cell? ⟨wr.heap.size, 0, none⟩ = _ := z0
              have z1' : w5.cell? ⟨wr.heap.size, 1, none⟩ = _ := z1
              have z2' : w5.cell? ⟨wr.heap.size, 2, none⟩ = _ := z2
              have HIh := hide (ih (pre ++ [(n : Int)]) sn (gone ||| 2 ^ n) w5.drew (by rw [List.length_append, List.length_singleton]; have := HLen.out; omega) HRs.out (by rw [goodR_snoc alw h pre n s HR.out HG.out]; simp [hnl, HRn.out, HAw.out]) (HBits.out.snoc n hn6) (fun x hx => by rcases List.mem_append.1 hx with h1 | h1; exact HIn.out x h1; simp at h1; omega) (HOk.out.trans (HOw.out.trans HW5.out)) ⟨hOrd5.var, hOrd5.row⟩)
              have hor := or_shl gone n HBits.out.1 hn6
              have eg2 := HC.out.ef
              clear hOrd5 hB5 hO05 hO5 hnb
              go_still_tail 6, (by kernel_rfl)
              change wpList _ _ _ _ _ w5.drew
              generalize w5.drew = w6 at HW5 HIh hf z0 z1 z2 ⊢
              unfold SeaPost at HIh
              cases hd : dfsA (goodR alw h) all f (pre ++ [(n : Int)]) with
              | none =>
                rw [hd] at HIh
                have HE4 := hide (HE2.out.trans hd)
                clear hd hf' z0' z1' z2'
                go_wp2_with (go_at_fn 116; refine HIh.out.mono ?_; rintro e w7 ⟨rfl, hK7, hO7⟩; have HK7 := hide hK7; have HO7 := hide hO7; have u1 := hO7.var.cell 0; have uf1 := hO7.var.frozen 0; rw [List.length_append, List.length_singleton] at u1; simp only [List.getElem?_toArray, List.getElem?_cons_zero, List.getElem?_cons_succ] at u1; clear hK7 hO7)
                go_roundw
                case rel =>
                  refine ⟨k + 1, by omega, by go_num, by rw [← HE4.out]; exact HTk.out, (HW5.out.trans HK7.out).setCell (p := ⟨bo, 0, none⟩) (.inl rfl) _, ⟨?_, ?_⟩⟩
                  · exact HO7.out.var.set_ 0 _
                  · obtain ⟨cu, hcu, hcs, hcv⟩ := HO7.out.row
                    refine ⟨cu, hcu.far (p := ⟨bo, 0, none⟩) hng' _, hcs, fun j hj => ?_⟩
                    have := hcv j (by rw [List.length_append]; omega)
                    rwa [List.getElem_append_left hj] at this
                case measure => simp [intOf]; omega
              | some o =>
                rw [hd] at HIh
                have HE4 := hide (HE2.out.trans hd)
                clear hd hf' z0' z1' z2'
                go_wp2_with (go_at_fn 116; refine HIh.out.mono ?_; rintro e w7 ⟨rfl, hK7, hF7⟩; have HK7 := hide hK7; have HF7 := hide hF7; clear hK7 hF7)
                go_ret
                unfold SeaPost
                have hfin : dfsA (goodR alw h) all (f + 1) pre = some o := by
                  have h1 := HTk.out
                  have h2 := HE4.out
                  rw [HP.out]
                  generalize stepF h all alw f pre = F at h1 h2 ⊢
                  rw [← List.take_append_drop (k + 1) all, List.findSome?_append, h1, h2]
                  rfl
                rw [hfin]
                exact ⟨rfl, (HOw.out.mono HSub.out).trans ((HW5.out.mono HSub.out).trans HK7.out), HF7.out⟩
      · obtain rfl : k = all.length := by omega
        have HN := hide (show dfsA (goodR alw h) all (f + 1) pre = none by rw [HP.out]; have := hN.out; rw [List.take_length] at this; exact this)
        have HOn := hide hOn.out; have HOd := hide hOd.out
        clear hN hOn hOd
        go_wp2_with fail
        go_ret
        unfold SeaPost
        rw [HN.out]
        exact ⟨rfl, HOw.out.trans HOn.out, HOd.out⟩
theorem Only.after {S K : Nat → Prop} {a b c : World} (h : Below a.heap.size a b) (k : Only S b c) (hs : ∀ i, S i → i < a.heap.size → K i) : Only K a c :=
  ⟨k.os.trans h.os, k.tape.trans h.tape, k.output.trans h.output, Nat.le_trans h.size k.size, fun i hi hn => (k.block i (Nat.lt_of_lt_of_le hi h.size) fun e => hn (hs i e hi)).trans (h.block i hi)⟩
/-- What a search over the whole history does. -/
def EachPost (h : List Txn) (alw : List Int → Int → Bool) (Kc : Nat → Prop) (Found : World → List Int → Prop) (w : World) (e : Ending) (w' : World) : Prop :=
  (∃ v, e = .returned v) ∧ Only Kc w w' ∧
  match firstGood (goodR alw h) (doneL h) with
  | none => ∀ b, Kc b → w'.heap[b]? = w.heap[b]?
  | some o => Found w' o
set_option maxRecDepth 10000 in
set_option maxHeartbeats 2000000 in
theorem eachSerial_any (h : List Txn) (A : Option Addr) (c : Nat) (w : World) (alw : List Int → Int → Bool) (Kc : Nat → Prop) (Found : World → List Int → Prop) (gc gal : Nat) (lbc lbal : Array Value)
    (hv : histV h = true) (hKc : ∀ b, Kc b → b < w.heap.size) (hA : Row tTxn w (fun b => Old w b ∧ ¬ Kc b) A h)
    (ec : ∀ args w, (callFunc gc args).run Tryz.prog w = .ok (.enter gc args) w) (eal : ∀ args w, (callFunc gal args).run Tryz.prog w = .ok (.enter gal args) w)
    (hcall : ∀ (W : World) (o : List Int) (g cap : Nat), w.heap.size ≤ g → o.length ≤ 6 → o.length ≤ cap → cap ≤ 6 → Below w.heap.size w W → Row tInt W (Old W) (some ⟨g, 0, none⟩) o →
      Calls Tryz.prog gc (#[.slice (some ⟨g, 0, none⟩) o.length cap] ++ lbc) W fun e w' => e = .returned (.bool false) ∧ Only Kc W w' ∧ Found w' o)
    (halw : ∀ (W : World) (pre : List Int) (gone n : Nat), n < h.length → BitsOf gone pre → (∀ x ∈ pre, x < (h.length : Int)) → Only (fun b => Kc b ∨ w.heap.size ≤ b) w W →
      Calls Tryz.prog gal (#[.int .u64 gone, .int .i64 n] ++ lbal) W fun e w' => e = .returned (.bool (alw pre n)) ∧ Below W.heap.size W w') :
    Calls Tryz.prog 77 #[.slice A h.length c, .func (.func gal) #[] lbal, .func (.func gc) #[] lbc] w (EachPost h alw Kc Found w) := by
  obtain ⟨h6, hts⟩ := histV_parts hv
  obtain ⟨i0, hi, hz0, hz1, hz2⟩ := info_parts infoInt_
  have hal : (doneL h).length ≤ 6 := Nat.le_trans (doneI_len h _) h6
  have hmf : ∀ (fn : Fn) (first cap : Array Value) (w : World), (Instr.makeFunc fn first cap).run Tryz.prog w = .ok (.func fn first cap) w := fun _ _ _ _ => rfl
  have hmk : ∀ W : World, (Instr.makeSlice 23 (.int .i64 0) (.int .i64 ((doneL h).length : Int))).run Tryz.prog W = .ok (.slice (some ⟨W.heap.size, 0, none⟩) 0 (doneL h).length) (W.alloc (.cells (madeCells #[.int .i64 0] ((doneL h).length * 1)) 3)) := fun W => by
    have h := run_make_rowN (P := Tryz.prog) 23 3 i0 (.int .i64 0) Tryz.underlying23 hi hz0 .i64 .i64 0 (doneL h).length (Nat.zero_le _) (by rw [hz2]; omega) (by omega) W
    rw [hz1] at h
    exact h
  have HA := hide hA
  obtain ⟨wA, hwA⟩ : ∃ wA, wA = ((w.alloc (.cells #[.slice A h.length c] 30)).alloc (.cells #[.func (.func gal) #[] lbal] 72)).alloc (.cells #[.func (.func gc) #[] lbc] 102) := ⟨_, rfl⟩
  have HbA := hide (show Below w.heap.size w wA by rw [hwA]; exact (((Below.refl _ w).alloc (Nat.le_refl _) _).alloc (by simp) _).alloc (by simp; omega) _)
  have HsA := hide (show wA.heap.size = w.heap.size + 3 by rw [hwA]; simp)
  have HD := hide (implDone h A c wA (by omega) (HA.out.mono (fun b hb => Nat.lt_of_lt_of_le hb.1 HbA.out.size) (fun b hb => HbA.out.block b hb.1)))
  have HH := hide (show Blk wA w.heap.size 30 #[.slice A h.length c] by rw [hwA]; exact ((Blk.new w _ _).alloc _).alloc _)
  have HL := hide (show Blk wA (w.heap.size + 1) 72 #[.func (.func gal) #[] lbal] by rw [hwA]; have := (Blk.new (w.alloc (.cells #[.slice A h.length c] 30)) 72 #[.func (.func gal) #[] lbal]).alloc (.cells #[.func (.func gc) #[] lbc] 102); rwa [World.size_alloc] at this)
  have HCc := hide (show Blk wA (w.heap.size + 1 + 1) 102 #[.func (.func gc) #[] lbc] by rw [hwA]; have := Blk.new ((w.alloc (.cells #[.slice A h.length c] 30)).alloc (.cells #[.func (.func gal) #[] lbal] 72)) 102 #[.func (.func gc) #[] lbc]; rwa [World.size_alloc, World.size_alloc] at this)
  clear hA
  go_enter Tryz.func77, Tryz.ntmps77
  go_upto_region 1 with (fail)
  rw [← hwA]
  clear hwA
  have c0 := HH.out.cell 0
  simp only [List.getElem?_toArray, List.getElem?_cons_zero, List.getElem?_cons_succ] at c0
  go_upto_region 5 with (go_at_call 70; refine HD.out.mono ?_; rintro e w1 ⟨v1, rfl, hO1, hb1⟩; obtain ⟨A1, c1, rfl, h11, h12, _⟩ := hO1.sl; have HO1 := hide hO1; have Hb1 := hide hb1; clear hO1 hb1)
  generalize hW0 : World.alloc _ _ = w0
  have hba : Blk w0 w1.heap.size 23 #[.slice A1 (doneL h).length c1] := by rw [← hW0]; exact (((Blk.new w1 _ _).alloc _).alloc _).alloc _
  have hbg : Blk w0 (w1.heap.size + 1) 3 (madeCells #[.int .i64 0] (doneL h).length) := by
    rw [← hW0]
    have := ((Blk.new (w1.alloc (.cells #[.slice A1 (doneL h).length c1] 23)) 3 (madeCells #[.int .i64 0] (doneL h).length)).alloc (.cells #[.slice (some ⟨w1.heap.size + 1, 0, none⟩) 0 (doneL h).length] 23))
    rw [World.size_alloc] at this
    exact this.alloc _
  have hbo : Blk w0 (w1.heap.size + 1 + 1) 23 #[.slice (some ⟨w1.heap.size + 1, 0, none⟩) 0 (doneL h).length] := by
    rw [← hW0]
    have := Blk.new ((w1.alloc (.cells #[.slice A1 (doneL h).length c1] 23)).alloc (.cells (madeCells #[.int .i64 0] (doneL h).length) 3)) 23 #[.slice (some ⟨w1.heap.size + 1, 0, none⟩) 0 (doneL h).length]
    rw [World.size_alloc, World.size_alloc] at this
    exact this.alloc _
  have hbf : Blk w0 (w1.heap.size + 1 + 1 + 1) 131 #[.func (.func 116) #[] #[.pointer (some ⟨w1.heap.size + 1 + 1, 0, none⟩), .pointer (some ⟨w1.heap.size, 0, none⟩), .pointer (some ⟨w.heap.size + 1 + 1, 0, none⟩), .pointer (some ⟨w.heap.size + 1, 0, none⟩), .pointer (some ⟨w.heap.size, 0, none⟩), .pointer (some ⟨w1.heap.size + 1 + 1 + 1, 0, none⟩)]] := by
    rw [← hW0]
    have := Blk.new (((w1.alloc (.cells #[.slice A1 (doneL h).length c1] 23)).alloc (.cells (madeCells #[.int .i64 0] (doneL h).length) 3)).alloc (.cells #[.slice (some ⟨w1.heap.size + 1, 0, none⟩) 0 (doneL h).length] 23)) 131 #[.func (.func 116) #[] #[.pointer (some ⟨w1.heap.size + 1 + 1, 0, none⟩), .pointer (some ⟨w1.heap.size, 0, none⟩), .pointer (some ⟨w.heap.size + 1 + 1, 0, none⟩), .pointer (some ⟨w.heap.size + 1, 0, none⟩), .pointer (some ⟨w.heap.size, 0, none⟩), .pointer (some ⟨w1.heap.size + 1 + 1 + 1, 0, none⟩)]]
    rw [World.size_alloc, World.size_alloc, World.size_alloc] at this
    exact this
  have hb01 : Below w1.heap.size w1 w0 := by rw [← hW0]; exact ((((Below.refl _ w1).alloc (Nat.le_refl _) _).alloc (by simp) _).alloc (by simp; omega) _).alloc (by simp; omega) _
  have hs0 : w0.heap.size = w1.heap.size + 4 := by rw [← hW0]; simp
  clear hW0 hmk
  have hb0A : Below wA.heap.size wA w0 := Hb1.out.trans (hb01.mono Hb1.out.size)
  have hb0w : Below w.heap.size w w0 := HbA.out.trans (hb0A.mono HbA.out.size)
  have hsA := HsA.out
  have hs1 := Hb1.out.size
  have hkc : ∀ b, Kc b → b < w.heap.size := hKc
  have C : Sea h (doneL h) alw w0 (fun b => Ko (w1.heap.size + 1 + 1) (w1.heap.size + 1) b ∨ Kc b) Found (w1.heap.size + 1 + 1) (w1.heap.size + 1) w1.heap.size (w.heap.size + 1 + 1) (w.heap.size + 1) w.heap.size (w1.heap.size + 1 + 1 + 1) gc gal lbc lbal A1 A c1 c := {
    kl := fun b hb => by rcases hb with (hb | hb) | hb <;> first | omega | (have := hkc b hb; omega)
    ko := .inl (.inl rfl)
    kg := .inl (.inr rfl)
    ne := by omega
    vall := ⟨hba, fun hb => by rcases hb with (hb | hb) | hb <;> first | omega | (have := hkc _ hb; omega)⟩
    vh := ⟨HH.out.below hb0A HH.out.lt, fun hb => by rcases hb with (hb | hb) | hb <;> first | omega | (have := hkc _ hb; omega)⟩
    vc := ⟨HCc.out.below hb0A HCc.out.lt, fun hb => by rcases hb with (hb | hb) | hb <;> first | omega | (have := hkc _ hb; omega)⟩
    val := ⟨HL.out.below hb0A HL.out.lt, fun hb => by rcases hb with (hb | hb) | hb <;> first | omega | (have := hkc _ hb; omega)⟩
    vf := ⟨hbf, fun hb => by rcases hb with (hb | hb) | hb <;> first | omega | (have := hkc _ hb; omega)⟩
    rall := by
      have h1 := HO1.out.sl.row
      exact h1.mono (fun b hb => ⟨Nat.lt_of_lt_of_le hb.2 hb01.size, fun hk => by have h1 := hb.1; have h2 := hb.2; rcases hk with (hk | hk) | hk <;> first | omega | (have := hkc b hk; omega)⟩) (fun b hb => hb01.block b hb.2)
    rh := HA.out.mono (fun b hb => ⟨Nat.lt_of_lt_of_le hb.1 hb0w.size, fun hk => by have h1 := hb.1; unfold Old at h1; rcases hk with (hk | hk) | hk <;> first | omega | exact hb.2 hk⟩) (fun b hb => hb0w.block b hb.1)
    h6 := h6
    hok := hts
    a6 := hal
    inA := fun n hn => doneI_mem h _ n hn
    ec := ec
    eal := eal
    ef := enters_of Tryz.func116 (by kernel_rfl) rfl
    call := fun W o ho hO hOr => by
      have hOw : Below w.heap.size w W := (Only.after (K := fun b => w.heap.size ≤ b) hb0w hO (fun b hb hl => by rcases hb with hb | hb <;> omega)).below
      have := hcall W o (w1.heap.size + 1) (doneL h).length (by omega) (by omega) (by omega) hal hOw (by
        intro hp
        obtain ⟨cur, hcur, hcs, hcv⟩ := hOr.row
        refine ⟨_, 0, rfl, hcur.lt, fun k hk => ⟨_, rfl, fun j u hu => ?_⟩⟩
        obtain ⟨hj, rfl⟩ := List.getElem?_eq_some_iff.1 hu
        have hj0 : j = 0 := by simpa using hj
        subst hj0
        rw [hcur.cell]
        have := hcv k hk
        simpa [tInt, flat] using this)
      exact this.mono fun e w' ⟨h1, h2, h3⟩ => ⟨h1, h2.mono fun b hb => .inr hb, h3⟩
    alwd := fun W pre gone n hn hbits hin hO => halw W pre gone n hn hbits hin ((Only.of_below hb0w).trans (hO.mono fun b hb => by rcases hb with (hb | hb) | hb <;> first | exact .inl hb | (exact .inr (by omega)))) }
  have hOrd : Ord (w1.heap.size + 1 + 1) (w1.heap.size + 1) (doneL h).length [] w0 := ⟨hbo, _, hbg, by rw [size_madeCells], fun j hj => absurd hj (by simp)⟩
  have hF := from_any C (doneL h).length [] St0 0 w0 (by simp) rfl (goodR_nil _ _) BitsOf.zero (fun x hx => by cases hx) (Only.refl _ _) hOrd
  have HDf := hide (dfsA_first (goodR alw h) (goodR_prefix alw h) (goodR_nil _ _) (doneL h) (doneI_nodup h _))
  have hf0 := hbf.cell 0
  simp only [List.getElem?_toArray, List.getElem?_cons_zero, List.getElem?_cons_succ] at hf0
  have eg := C.ef
  have HK0 := hide hkc
  have HB0 := hide hb0w
  have HB01 := hide hb01
  unfold SeaPost at hF
  rw [HDf.out] at hF
  clear hba hbg hbo hbf hb01 hs0 hb0A hb0w hsA hs1 hkc C hOrd hcall halw hKc
  cases hd : firstGood (goodR alw h) (doneL h) with
  | none =>
    rw [hd] at hF
    have HF := hide hF
    have HX := hide hd
    clear hF hd
    go_wp2_with (go_at_fn 116; refine HF.out.mono ?_; rintro e w7 ⟨rfl, hK7, _⟩; have HK7 := hide hK7; clear hK7)
    go_end0
    unfold EachPost
    rw [HX.out]
    have hsA := HsA.out
    have hs1 := Hb1.out.size
    refine ⟨⟨_, rfl⟩, Only.after HB0.out HK7.out (fun b hb hl => ?_), fun b hb => ?_⟩
    · rcases hb with hb | hb <;> omega
    · have := HK0.out b hb
      exact (HK7.out.block b (Nat.lt_of_lt_of_le this HB0.out.size) (fun hk => by rcases hk with hk | hk <;> omega)).trans (HB0.out.block b this)
  | some o =>
    rw [hd] at hF
    have HF := hide hF
    have HX := hide hd
    clear hF hd
    go_wp2_with (go_at_fn 116; refine HF.out.mono ?_; rintro e w7 ⟨rfl, hK7, hF7⟩; have HK7 := hide hK7; have HF7 := hide hF7; clear hK7 hF7)
    go_end0
    unfold EachPost
    rw [HX.out]
    have hsA := HsA.out
    have hs1 := Hb1.out.size
    exact ⟨⟨_, rfl⟩, Only.after HB0.out HK7.out (fun b hb hl => by rcases hb with (hb | hb) | hb <;> first | omega | exact hb), HF7.out⟩
set_option maxRecDepth 10000 in
set_option maxHeartbeats 400000 in
theorem clone_Int (xs : List Int) (A : Option Addr) (c : Nat) (w : World) (hl : xs.length ≤ 2097152) (hA : Row tInt w (Old w) A xs) :
    Calls Tryz.prog 79 #[.slice A xs.length c] w fun e w' => ∃ v, e = .returned v ∧ Own tInt 3 w' (New w w') xs v ∧ Below w.heap.size w w' := by
  obtain ⟨i0, hi, hz0, hz1, hz2⟩ := info_parts infoInt_
  have qT : ∀ (w : World) (a : Option Addr) (n c n' c' : Nat), (binOp .eql 23 (.slice a n c) (.slice none n' c')).run Tryz.prog w = .ok (.bool a.isNone) w := fun w a n c n' c' => Lib.run_eql_slice_nil w _ _ a n c n' c' Tryz.underlying23
  rcases A with _ | A
  · have hnil : xs = [] := by
      rcases Nat.eq_zero_or_pos xs.length with h | h
      · exact List.eq_nil_of_length_eq_zero h
      · obtain ⟨b, off, hb, _⟩ := hA h; cases hb
    have HN := hide hnil
    clear hnil hA
    go_enter Tryz.func79, Tryz.ntmps79
    go_wp2
    go_ret
    exact ⟨_, rfl, by rw [HN.out]; exact Own.nil_, Below.refl _ _⟩
  · have HO := hide (Own.made (T := tInt) (e := 3) w (S := fun b => b = w.heap.size) #[] 0 (by simp) (by simp [maxLen]) rfl)
    have HR := hide ((hA.mono (w' := w.alloc (.cells #[] 3)) (S' := Old w) (fun _ h => h) (fun b h => Below.heap_alloc _ _ _ h)).anyInt)
    clear hA
    go_enter Tryz.func79, Tryz.ntmps79
    go_wp2_with (at_builtin; refine wpList_app tInt rfl (.tmp 5) (.tmp 6) 23 rfl 3 i0 _ 8 Tryz.underlying23 hi hz0 hz1 hz2 rfl (by decide) (fun b => b = w.heap.size) (fun _ => False) (fun b => w.heap.size ≤ b) [] xs _ rfl HO.out _ xs.length c rfl rfl HR.out (by simp only [maxLen, List.length_nil]; omega) (by simp only [List.length_nil]; omega) (fun b h => by subst h; simp [Old]) (fun b h => h.elim) (fun b h => by omega) (fun b h => h.elim) (by simp) ?_; intro v' w' hO2 hg2; have HO2 := hide hO2; have HG := hide hg2; clear hO2 hg2)
    go_ret
    refine ⟨v', rfl, HO2.out, ((Below.refl _ w).alloc (Nat.le_refl _) _).grown HG.out (by simp) (fun k hk => ?_)⟩
    have hk2 : some w.heap.size = some k := hk
    injection hk2 with hk3
    exact Nat.le_of_eq hk3

theorem clip_Int (n : Nat) (A : Option Addr) (c : Nat) (w : World) (hl : n ≤ c) (hc : c ≤ maxLen) :
    Calls Tryz.prog 80 #[.slice A n c] w fun e w' => e = .returned (.slice A n n) ∧ w = w' := by
  unfold maxLen at hc
  have h1 : (0 : Int) ≤ (n : Int) := by omega
  have h2 : (n : Int) ≤ (c : Int) := by omega
  go_enter Tryz.func80, Tryz.ntmps80
  go_wp2
  go_ret
  exact ⟨rfl, rfl⟩

/-- What is kept of the order that was found. -/
def FoundAt (lo fb kb : Nat) (w : World) (o : List Int) : Prop :=
  ∃ A c, Blk w fb 23 #[.slice A o.length c] ∧ Blk w kb 4 #[.bool true] ∧ HoldI w (In lo w.heap.size) o (.slice A o.length c)
set_option maxRecDepth 10000 in
set_option maxHeartbeats 400000 in
theorem found_any (o : List Int) (A : Option Addr) (c : Nat) (W : World) (lo fb kb : Nat) (u1 u2 : Value) (hf : Blk W fb 23 #[u1]) (hk : Blk W kb 4 #[u2]) (hne : fb ≠ kb) (hlo : lo ≤ W.heap.size) (hl : o.length ≤ 2097152) (hA : Row tInt W (Old W) A o) :
    Calls Tryz.prog 78 #[.slice A o.length c, .pointer (some ⟨fb, 0, none⟩), .pointer (some ⟨kb, 0, none⟩)] W fun e w' => e = .returned (.bool false) ∧ Only (fun b => b = fb ∨ b = kb) W w' ∧ FoundAt lo fb kb w' o := by
  have HC := hide (clone_Int o A c W hl hA)
  have HF := hide hf; have HK := hide hk
  have hfl := hf.lt; have hkl := hk.lt
  clear hf hk hA
  go_enter Tryz.func78, Tryz.ntmps78
  go_wp2_with (go_at_call 79; refine HC.out.mono ?_; rintro e w2 ⟨v, rfl, hO, hb⟩; obtain ⟨A2, c2, rfl, h21, h22, _⟩ := hO.sl; have HO := hide hO; have HB := hide hb; have d0 := (HF.out.below hb hfl).cell 0; have d1 := (HF.out.below hb hfl).frozen 0; have e0 := (HK.out.below hb hkl).cell 0; have e1 := (HK.out.below hb hkl).frozen 0; simp only [List.getElem?_toArray, List.getElem?_cons_zero, List.getElem?_cons_succ] at d0 e0; clear hO hb)
  go_ret
  obtain ⟨g, hH, _⟩ := HO.out.hold
  have hf2 := HF.out.below HB.out hfl
  have hk2 := HK.out.below HB.out hkl
  refine ⟨rfl, ((Only.of_below HB.out).setCell (p := ⟨fb, 0, none⟩) (.inl rfl) _).setCell (p := ⟨kb, 0, none⟩) (.inr rfl) _, A2, c2, ?_, ?_, g, ?_⟩
  · exact (hf2.set_ 0 _).far (p := ⟨kb, 0, none⟩) (fun h => hne h) _
  · exact (hk2.far (p := ⟨fb, 0, none⟩) (fun h => hne h.symm) _).set_ 0 _
  · refine hH.mono (fun b hb => ⟨Nat.le_trans hlo hb.1, by simpa using hb.2⟩) (fun b hb => ?_)
    have := hb.1
    rw [Below.heap_setCell _ _ _ _ (by simp; omega), Below.heap_setCell _ _ _ _ (by simp; omega)]
/-- What firstSerial answers. -/
def FirstPost (f : Option (List Int)) (w : World) (e : Ending) (w' : World) : Prop :=
  ∃ v, e = .returned (.tuple #[v, .bool f.isSome]) ∧ HoldI w' (New w w') (f.getD []) v ∧ Below w.heap.size w w'
set_option maxRecDepth 10000 in
set_option maxHeartbeats 1000000 in
theorem firstSerial_any (h : List Txn) (A : Option Addr) (c : Nat) (w : World) (alw : List Int → Int → Bool) (gal : Nat) (lbal : Array Value)
    (hv : histV h = true) (hA : Row tTxn w (Old w) A h)
    (eal : ∀ args w, (callFunc gal args).run Tryz.prog w = .ok (.enter gal args) w)
    (halw : ∀ (W : World) (pre : List Int) (gone n : Nat), n < h.length → BitsOf gone pre → (∀ x ∈ pre, x < (h.length : Int)) → Below w.heap.size w W →
      Calls Tryz.prog gal (#[.int .u64 gone, .int .i64 n] ++ lbal) W fun e w' => e = .returned (.bool (alw pre n)) ∧ Below W.heap.size W w') :
    Calls Tryz.prog 38 #[.slice A h.length c, .func (.func gal) #[] lbal] w (FirstPost (firstGood (goodR alw h) (doneL h)) w) := by
  have hmf : ∀ (fn : Fn) (first cap : Array Value) (w : World), (Instr.makeFunc fn first cap).run Tryz.prog w = .ok (.func fn first cap) w := fun _ _ _ _ => rfl
  have HA := hide hA; have HAl := hide halw
  clear hA halw
  go_enter Tryz.func38, Tryz.ntmps38
  go_upto_region 3 with (fail)
  generalize hW : World.alloc _ _ = W
  have hf : Blk W w.heap.size 23 #[.slice none 0 0] := by rw [← hW]; exact (Blk.new w 23 #[.slice none 0 0]).alloc _
  have hk : Blk W (w.heap.size + 1) 4 #[.bool false] := by
    rw [← hW]
    have := (Blk.new (w.alloc (.cells #[.slice none 0 0] 23)) 4 #[.bool false])
    rw [World.size_alloc] at this
    exact this
  have hb : Below w.heap.size w W := by rw [← hW]; exact ((Below.refl _ w).alloc (Nat.le_refl _) _).alloc (by simp) _
  have hs : W.heap.size = w.heap.size + 2 := by rw [← hW]; simp
  clear hW
  have HB := hide hb; have HS := hide hs; have HF := hide hf; have HK := hide hk
  have HE := hide (eachSerial_any h A c W alw (fun b => b = w.heap.size ∨ b = w.heap.size + 1) (FoundAt w.heap.size w.heap.size (w.heap.size + 1)) 78 gal #[.pointer (some ⟨w.heap.size, 0, none⟩), .pointer (some ⟨w.heap.size + 1, 0, none⟩)] lbal hv (fun b hb => by rcases hb with h | h <;> omega)
    (HA.out.mono (fun b hb => ⟨Nat.lt_of_lt_of_le hb HB.out.size, fun h => by have hb' : b < w.heap.size := hb; rcases h with h | h <;> omega⟩) (fun b hb => HB.out.block b hb))
    (enters_of Tryz.func78 (by kernel_rfl) rfl) eal
    (fun W2 o g cap hg ho hoc hcc hO hR => by
      have hl2 := hO.size
      have hu1 := HF.out.below hO (by omega)
      have hu2 := HK.out.below hO (by omega)
      exact found_any o _ cap W2 w.heap.size w.heap.size (w.heap.size + 1) _ _ hu1 hu2 (by omega) (by omega) (by omega) hR)
    (fun W2 pre gone n hn hbt hin hO => HAl.out W2 pre gone n hn hbt hin (Only.after (K := fun b => w.heap.size ≤ b) HB.out hO (fun b hb hl => by rcases hb with (hb | hb) | hb <;> omega)).below))
  clear hb hs hf hk
  go_upto_region 4 with (go_at_call 77; refine HE.out.mono ?_; rintro e w2 ⟨⟨v2, rfl⟩, hO2, hP⟩; have HO2 := hide hO2; have HP := hide hP; clear hO2 hP)
  have hB2 : Below w.heap.size w w2 := (Only.after (K := fun b => w.heap.size ≤ b) HB.out HO2.out (fun b hb hl => by omega)).below
  have HB2 := hide hB2
  clear hB2
  cases hd : firstGood (goodR alw h) (doneL h) with
  | none =>
    rw [hd] at HP
    have d0 := (HF.out.of (HP.out _ (.inl rfl))).cell 0
    have d1 := (HK.out.of (HP.out _ (.inr rfl))).cell 0
    simp only [List.getElem?_toArray, List.getElem?_cons_zero, List.getElem?_cons_succ] at d0 d1
    have HX := hide hd
    clear hd
    go_quiet ((go_at_call 80; exact Calls.quiet_of_same ((clip_Int 0 none 0 _ (Nat.le_refl _) (by simp [maxLen])).mono (fun _ _ h => ⟨h.1, h.2.symm⟩))))
    go_wp2_with fail
    go_ret2
    unfold FirstPost
    rw [HX.out]
    refine ⟨_, rfl, ⟨0, ?_⟩, HB2.out.trans ⟨rfl, rfl, rfl, Nat.le_refl _, fun _ _ => rfl⟩⟩
    exact Hold.nil 0
  | some o =>
    rw [hd] at HP
    obtain ⟨A2, c2, hF2, hK2, hH2⟩ := HP.out
    have d0 := hF2.cell 0
    have d1 := hK2.cell 0
    simp only [List.getElem?_toArray, List.getElem?_cons_zero, List.getElem?_cons_succ] at d0 d1
    have HX := hide hd
    have HH := hide hH2
    obtain ⟨A3, c3, hv2, h21, h22, _⟩ := hH2.sl
    injection hv2 with hA2 _ hc2
    subst hA2
    subst hc2
    have HClip := hide (fun W => clip_Int o.length A2 c2 W h21 h22)
    clear h21 h22 hd hF2 hK2 hH2
    go_quiet ((go_at_call 80; exact Calls.quiet_of_same ((HClip.out _).mono (fun _ _ h => ⟨h.1, h.2.symm⟩))))
    go_wp2_with fail
    go_ret2
    obtain ⟨g, hg⟩ := HH.out
    unfold FirstPost
    rw [HX.out]
    refine ⟨_, rfl, ⟨g, ?_⟩, HB2.out.trans ⟨rfl, rfl, rfl, Nat.le_refl _, fun _ _ => rfl⟩⟩
    exact hg.clip
end Go.Proofs.YtjiobgfaohldhaaGreat
