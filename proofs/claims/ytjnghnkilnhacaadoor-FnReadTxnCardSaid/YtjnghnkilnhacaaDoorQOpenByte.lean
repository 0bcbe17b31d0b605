/- l20Txn: some transaction; the texts and transactions that the text laws draw. sameInts: two lists of numbers are compared. Comparing equal histories answers true: sameOps, sameTxn, sameHistory. The law FnTxnText: texts of transactions can be read. What the arguments of a law read as: slices of numbers, of structs, of slices, opened to rows of cells. Over any program. Bytes as the argument of a law. -/
import Derived.Test.YtjnghnkilnhacaaDoorQHistD
import Derived.Test.YtjnghnkilnhacaaDoorQHBox
import Derived.Test.YtjnghnkilnhacaaDoorProg
import Derived.Test.YtjnghnkilnhacaaDoorQBuild
import Derived.Test.YtjnghnkilnhacaaDoorQLawRdT
import Derived.Test.YtjnghnkilnhacaaDoorQTxtI
import Derived.Test.YtjnghnkilnhacaaDoorQTabT
import Derived.BigQuiet
import Derived.ChangeOld
import Derived.OpenShut
import Derived.Deep.Slices
import Derived.Deep.Fields
namespace Go.Proofs.YtjnghnkilnhacaaDoor
open Go.RowKit
set_option linter.unusedVariables false
set_option linter.unusedSimpArgs false

/-- Some transaction, its operations in memory of the call's own. -/
def DrawnTxn (w : World) (R P : Nat) (en : Ending) (w' : World) : Prop :=
  ∃ (t : Txn) (v : Value), en = .returned (.agg #[.int .i64 t.Session, v, .bool t.Done]) ∧ t.Ops.length ≤ 30 ∧ Sl tOp w' (New w w') t.Ops v ∧ Rd w' R P ∧ Gr w w' R
/-- The drawn transaction so far: a variable at p2, the result's variable at p0. -/
structure TB (w W : World) (R P p0 p2 : Nat) (t : Txn) (A : Option Addr) (c : Nat) : Prop where
  rd : Rd W R P
  gr : Gr w W R
  v0 : Blk W p0 24 #[.int .i64 0, .slice none 0 0, .bool false]
  vt : Blk W p2 24 #[.int .i64 t.Session, .slice A t.Ops.length c, .bool t.Done]
  row : Row tOp W (fun b => w.heap.size ≤ b ∧ b < W.heap.size ∧ b ≠ p0 ∧ b ≠ p2) A t.Ops
  l1 : t.Ops.length ≤ 30
  l2 : t.Ops.length ≤ c
  l3 : c ≤ maxLen
  r1 : R < w.heap.size
  r2 : w.heap.size ≤ p0
  r3 : p0 < p2
section
variable {w W W' : World} {R P Q p0 p2 : Nat} {t : Txn} {A : Option Addr} {c : Nat}
theorem TB.gr_ (h : TB w W R P p0 p2 t A c) (g : Gr W W' R) (r : Rd W' R Q) : TB w W' R Q p0 p2 t A c :=
  have h1 := h.r1; have h2 := h.r2; have h3 := h.r3
  ⟨r, gr_trans h.gr g, h.v0.of (g.block _ h.v0.lt (fun e => by injection e with e; omega)), h.vt.of (g.block _ h.vt.lt (fun e => by injection e with e; omega)),
    h.row.mono (fun b hb => ⟨hb.1, Nat.lt_of_lt_of_le hb.2.1 g.size, hb.2.2⟩) (fun b hb => g.block b hb.2.1 (fun e => by injection e with e; have := hb.1; omega)), h.l1, h.l2, h.l3, h1, h2, h3⟩
/-- What the call hands back. -/
theorem TB.done (h : TB w W R P p0 p2 t A c) (hQ : P ≤ Q) : DrawnTxn w R Q (.returned (.agg #[.int .i64 t.Session, .slice A t.Ops.length c, .bool t.Done])) (((W.setCell ⟨p0, 0, none⟩ (.int .i64 t.Session)).setCell ⟨p0, 1, none⟩ (.slice A t.Ops.length c)).setCell ⟨p0, 2, none⟩ (.bool t.Done)) :=
  have h1 := h.r1; have h2 := h.r2; have h3 := h.r3; have h4 := h.l1
  ⟨t, _, rfl, by omega, ⟨A, c, rfl, h.l2, h.l3, h.row.mono (fun b hb => ⟨hb.1, by simpa [World.setCell] using hb.2.1⟩) (fun b hb => by
      rw [Below.heap_setCell _ _ _ _ hb.2.2.1, Below.heap_setCell _ _ _ _ hb.2.2.1, Below.heap_setCell _ _ _ _ hb.2.2.1])⟩,
    (((h.rd.up hQ).far (p := ⟨p0, 0, none⟩) (show R < p0 by omega) _).far (p := ⟨p0, 1, none⟩) (show R < p0 by omega) _).far (p := ⟨p0, 2, none⟩) (show R < p0 by omega) _,
    gr_setCell (gr_setCell (gr_setCell h.gr (p := ⟨p0, 0, none⟩) (.inr h2) _) (p := ⟨p0, 1, none⟩) (.inr h2) _) (p := ⟨p0, 2, none⟩) (.inr h2) _⟩
end
set_option maxRecDepth 10000 in
set_option maxHeartbeats 4000000 in
theorem txn_any (w : World) (R P : Nat) (n : Int) (h : Rd w R P) (hP : P ≤ 50) (hn : n ≤ 1000000) :
    Calls Tryd.prog 29 #[.pointer (some ⟨R, 0, none⟩), .int .i64 n] w (DrawnTxn w R (P + 420)) := by
  obtain ⟨i0, hi, hz0, hz1, hz2⟩ := info_parts infoOpD
  have HR0 := hide (h.alloc (.cells #[.int .i64 0, .slice none 0 0, .bool false] 24))
  have HG0 := hide (gr_alloc (gr_refl w R) (.cells #[.int .i64 0, .slice none 0 0, .bool false] 24))
  have HV0 := hide (Blk.new w 24 #[.int .i64 0, .slice none 0 0, .bool false])
  have HlR := hide h.lt
  have HP := hide hP
  have HN := hide hn
  have hz9 : w.heap.size < (w.alloc (.cells #[.int .i64 0, .slice none 0 0, .bool false] 24)).heap.size := by simp
  clear h hP hn
  go_enter Tryd.func29, Tryd.ntmps29
  go_upto_region 1 with fail
  generalize w.alloc _ = w0 at HR0 HG0 HV0 hz9 ⊢
  obtain ⟨p0, hp0⟩ : ∃ p0, p0 = w.heap.size := ⟨_, rfl⟩
  rw [← hp0] at HV0 hz9 ⊢
  have HP0 := hide hp0; clear hp0
  go_upto_region 2 with (go_at_call 48; refine (history_any w0 R P 4 0 HR0.out (by have := HP.out; omega) (by omega) (by omega) (by omega)).mono ?_; rintro e w1 ⟨xs, v, rfl, hx, ho, hS, hr, hg⟩; obtain ⟨A, c, rfl, _, _, hR⟩ := hS; have HXl := hide ho; have HX1 := hide hR; have HR1 := hide hr; have HG1 := hide hg; have hz1 := hg.size; clear ho hR hr hg)
  have HT0 := hide (show TB w ((w1.alloc (.cells #[] 41)).alloc (.cells #[.int .i64 0, .slice (some ⟨w1.heap.size, 0, none⟩) 0 0, .bool false] 24)) R (P + 400) p0 (w1.heap.size + 1) ⟨0, [], false⟩ (some ⟨w1.heap.size, 0, none⟩) 0 from by
    have hrl := HlR.out; have hp := HP0.out
    exact ⟨(HR1.out.alloc _).alloc _, gr_alloc (gr_alloc (gr_trans HG0.out HG1.out) _) _, ((HV0.out.of (HG1.out.block _ HV0.out.lt (fun e => by injection e with e; omega))).alloc _).alloc _,
      by have := Blk.new (w1.alloc (.cells #[] 41)) 24 #[.int .i64 0, .slice (some ⟨w1.heap.size, 0, none⟩) 0 0, .bool false]; simpa using this, Row.nil, by simp, by simp, by simp [maxLen], hrl, by omega, by omega⟩)
  have HX2 := hide (HX1.out.mono (w' := (w1.alloc (.cells #[] 41)).alloc (.cells #[.int .i64 0, .slice (some ⟨w1.heap.size, 0, none⟩) 0 0, .bool false] 24)) (S' := fun b => p0 < b ∧ b < w1.heap.size) (fun b hb => ⟨Nat.lt_of_lt_of_le hz9 hb.1, hb.2⟩) (fun b hb => (Below.heap_alloc _ _ _ (by have := hb.2; simp; omega)).trans (Below.heap_alloc _ _ _ hb.2)))
  have hqx : xs.length ≤ 9223372036854775807 := by omega
  clear HR0 HG0 HV0 HX1 HR1 HG1
  go_upto_region 3 with fail
  obtain ⟨p2, hp2⟩ : ∃ p2, p2 = w1.heap.size + 1 := ⟨_, rfl⟩
  rw [← hp2] at HT0 ⊢
  have hp2' : w1.heap.size < p2 := by omega
  generalize World.alloc _ _ = W2 at HT0 HX2 ⊢
  generalize w1.heap.size = p1 at HT0 HX2 hp2' ⊢
  clear hp2 hz1 hz9
  by_cases h0 : xs.length = 0
  focus
    obtain rfl : xs = [] := List.length_eq_zero_iff.1 h0
    clear h0
    go_upto_region 5 with fail
    obtain ⟨t, ht⟩ : ∃ t : Txn, t = ⟨0, [], false⟩ := ⟨_, rfl⟩
    have HT1 := hide (show TB w W2 R (P + 401) p0 p2 t (some ⟨p1, 0, none⟩) 0 from by rw [ht]; have h := HT0.out; exact ⟨h.rd.up (by omega), h.gr, h.v0, h.vt, h.row, h.l1, h.l2, h.l3, h.r1, h.r2, h.r3⟩)
    have HL5 := hide (show t.Ops.length ≤ 20 by rw [ht]; simp)
    obtain ⟨W3, hW3⟩ : ∃ W3, W3 = W2 := ⟨_, rfl⟩
    rw [← hW3] at HT1 ⊢
    generalize some (⟨p1, 0, none⟩ : Addr) = A3 at HT1
    obtain ⟨c3, hc3⟩ : ∃ c3 : Nat, c3 = 0 := ⟨_, rfl⟩
    rw [← hc3] at HT1
    clear HT0 HX2 hW3 ht hc3 hqx hp2' hx HXl
  rotate_left
  focus
    have h0' : (0 : Int) < (xs.length : Int) := by omega
    go_wp2_with fail
    refine (pick_any _ R _ xs.length HT0.out.rd (by have := HP.out; omega)).mono ?_
    rintro e w4 ⟨k, rfl, hk0, hk1, hr4, hg4⟩
    obtain ⟨q, rfl⟩ : ∃ n : Nat, k = (n : Int) := ⟨k.toNat, by omega⟩
    have hq : q < xs.length := by have := hk1 (by omega); omega
    have HT4 := hide (HT0.out.gr_ hg4 hr4)
    have HX4 := hide (HX2.out.mono (w' := w4) (fun _ h => h) (fun b hb => hg4.block b (by have h1 := HT0.out.vt.lt; have := hb.2; omega) (fun e => by injection e with e; have := HT0.out.r1; have := HT0.out.r2; have := hb.1; omega)))
    clear hk0 hk1 hr4 hg4 HT0 HX2
    obtain ⟨b, off, A2, c2, rfl, hbS, d0, d1, d2, h2, h3, h4⟩ := at_TxnG HX4.out hq
    have HL5 := hide (HXl.out xs[q] (List.getElem_mem hq))
    have HO4 := hide h4
    clear h4
    generalize xs[q] = t at d0 d1 d2 h2 HO4 HL5
    have y0 := HT4.out.vt.there (i := 0) (by simp)
    have y1 := HT4.out.vt.there (i := 1) (by simp)
    have y2 := HT4.out.vt.there (i := 2) (by simp)
    obtain ⟨⟨u0, k0⟩, f0⟩ := y0
    obtain ⟨⟨u1, k1⟩, f1⟩ := y1
    obtain ⟨⟨u2, k2⟩, f2⟩ := y2
    go_upto_region 5 with fail
    have HT1 := hide (show TB w (((w4.setCell ⟨p2, 0, none⟩ (.int .i64 t.Session)).setCell ⟨p2, 1, none⟩ (.slice A2 t.Ops.length c2)).setCell ⟨p2, 2, none⟩ (.bool t.Done)) R (P + 401) p0 p2 t A2 c2 from by
      have h := HT4.out
      have e1 := h.r1; have e2 := h.r2; have e3 := h.r3
      exact ⟨((h.rd.far (p := ⟨p2, 0, none⟩) (show R < p2 by omega) _).far (p := ⟨p2, 1, none⟩) (show R < p2 by omega) _).far (p := ⟨p2, 2, none⟩) (show R < p2 by omega) _,
        gr_setCell (gr_setCell (gr_setCell h.gr (p := ⟨p2, 0, none⟩) (.inr (show w.heap.size ≤ p2 by omega)) _) (p := ⟨p2, 1, none⟩) (.inr (show w.heap.size ≤ p2 by omega)) _) (p := ⟨p2, 2, none⟩) (.inr (show w.heap.size ≤ p2 by omega)) _,
        ((h.v0.far (p := ⟨p2, 0, none⟩) (Nat.ne_of_lt e3) _).far (p := ⟨p2, 1, none⟩) (Nat.ne_of_lt e3) _).far (p := ⟨p2, 2, none⟩) (Nat.ne_of_lt e3) _,
        ((h.vt.set_ 0 _).set_ 1 _).set_ 2 _,
        HO4.out.mono (fun b hb => ⟨by have := hb.1; omega, by have := hb.2; have := h.vt.lt; simp [World.setCell]; omega, by have := hb.1; omega, by have := hb.2; omega⟩) (fun b hb => by
          have h9 : b ≠ p2 := by have := hb.2; omega
          rw [Below.heap_setCell _ _ _ _ h9, Below.heap_setCell _ _ _ _ h9, Below.heap_setCell _ _ _ _ h9]),
        Nat.le_trans HL5.out (by decide), h2, h3, e1, e2, e3⟩)
    generalize World.setCell _ _ _ = W3 at HT1 ⊢
    generalize A2 = A3 at HT1
    generalize c2 = c3 at HT1
    clear HT4 HX4 HO4 d0 d1 d2 h2 h3 u0 k0 f0 u1 k1 f1 u2 k2 f2 HXl h0' h0 hp2' hqx hx
  all_goals
    go_wp2_with fail
    refine (odd_any _ R _ n HT1.out.rd (by have := HP.out; omega) HN.out).mono ?_
    rintro e w5 ⟨v5, rfl, hr5, hg5⟩
    have HT5 := hide (HT1.out.gr_ hg5 hr5)
    clear hr5 hg5 HT1
    cases v5 with
    | false =>
      have x0 := HT5.out.vt.cell 0; have x1 := HT5.out.vt.cell 1; have x2 := HT5.out.vt.cell 2
      have g0 := HT5.out.v0.cell 0; have g1 := HT5.out.v0.cell 1; have g2 := HT5.out.v0.cell 2
      have f0 := HT5.out.v0.frozen 0; have f1 := HT5.out.v0.frozen 1; have f2 := HT5.out.v0.frozen 2
      simp only [List.getElem?_toArray, List.getElem?_cons_zero, List.getElem?_cons_succ] at x0 x1 x2 g0 g1 g2
      go_wp2_with fail
      refine bodyPost_ret (v := .agg #[.int .i64 t.Session, .slice A3 t.Ops.length c3, .bool t.Done]) (by simp [results, Tryd.results29, go_sem, g0, g1, g2]) rfl ?_
      exact HT5.out.done (by omega)
    | true =>
      have HO6 := hide (Own.empty (T := tOp) (e := 41) w5 (fun b => w5.heap.size ≤ b) (Nat.le_refl _))
      have HT6 := hide (HT5.out.gr_ (gr_alloc (gr_refl w5 R) (.cells #[] 41)) (HT5.out.rd.alloc _))
      have HRy := hide HT6.out.row.anyOp
      have x1 := HT6.out.vt.cell 1
      simp only [List.getElem?_toArray, List.getElem?_cons_zero, List.getElem?_cons_succ] at x1
      have hl1 := HT5.out.l1
      have HKR := hide (show ¬ w5.heap.size ≤ R by have := HT5.out.rd.lt; omega)
      go_upto_region 7 with (first | (at_builtin; refine wpList_cat tOp rfl (.tmp 24) (.tmp 26) 22 rfl 41 i0 _ 24 Tryd.underlying22 hi hz0 hz1 hz2 rfl (by decide) (fun b => w5.heap.size ≤ b) (fun _ => False) [] t.Ops _ rfl HO6.out A3 t.Ops.length c3 rfl rfl HRy.out (fun _ h => h.elim) (fun b hb => Nat.le_trans (by simp) hb) (by simp only [maxLen, List.length_nil]; omega) (by simp only [List.length_nil]; omega) ?_; intro v7 w7 hO_ hK_; have hb_ := below_onlyK (((Below.refl w5.heap.size w5).alloc (Nat.le_refl _) (.cells #[] 41))) hK_ (by simp) (fun i h => h); have HT7 := hide (HT5.out.gr_ (Gr.of_below hb_) (HT5.out.rd.below hb_)); have HG7 := hide (Gr.of_below (R := R) hb_); have HO7 := hide hO_; have hz7 := hb_.size; clear hO_ hK_ hb_) | (go_at_call 49; refine (op_any w7 R _ 1 HT7.out.rd (by have := HP.out; omega) (by decide)).mono ?_; rintro e w8 ⟨oa, ob, oc, rfl, hr8, hg8⟩; have HT8 := hide (HT7.out.gr_ hg8 hr8); have HG8 := hide (gr_trans HG7.out hg8); have HO8 := hide (Own.onlyGr HO7.out hg8 HKR.out); have hz8 := hg8.size; clear hr8 hg8) | (at_builtin; refine wpList_put tOp rfl (.tmp 27) (.tmp 30) 22 rfl 41 i0 _ 24 Tryd.underlying22 hi hz0 hz1 hz2 rfl (by decide) (fun b => w5.heap.size ≤ b) (fun _ => False) ([] ++ t.Ops) ⟨oa, ob, oc⟩ [.int .i64 oa, .int .i64 ob, .int .i64 oc] _ rfl HO8.out _ rfl rfl (fun _ h => h.elim) (fun b hb => by omega) (by simp only [maxLen, List.nil_append]; omega) (by simp only [List.nil_append]; omega) ?_; intro v9 w9 hO_ hK_; obtain ⟨g9, c9, rfl, hg9⟩ := hO_.form (by simp); have HO9 := hide hO_; have HG9 := hide hg9; have HT9 := hide (HT5.out.gr_ (gr_only HG8.out hK_ (fun b h => h)) (HT8.out.rd.only hK_ (fun b h => by have := HT5.out.rd.lt; omega))); clear hO_ hK_ hg9; have f3 := HT9.out.vt.frozen 1; have x3 := HT9.out.vt.cell 1; simp only [List.getElem?_toArray, List.getElem?_cons_zero, List.getElem?_cons_succ] at x3))
      have HTA := hide (show TB w (w9.setCell ⟨p2, 1, none⟩ (.slice (some ⟨g9, 0, none⟩) (t.Ops.length + 1) c9)) R (P + 409) p0 p2 ⟨t.Session, t.Ops ++ [⟨oa, ob, oc⟩], t.Done⟩ (some ⟨g9, 0, none⟩) c9 from by
        have h := HT9.out
        have h5 := HT5.out.vt.lt
        have e1 := h.r1; have e2 := h.r2; have e3 := h.r3
        obtain ⟨A_, c_, hv_, hc_, hm_, hr_⟩ := HO9.out.sl
        rw [List.nil_append] at hv_ hc_ hr_
        injection hv_ with hA_ hl_ hc2_
        subst hc2_
        subst hA_
        exact ⟨(h.rd.up (by omega)).far (p := ⟨p2, 1, none⟩) (show R < p2 by omega) _, gr_setCell h.gr (p := ⟨p2, 1, none⟩) (.inr (show w.heap.size ≤ p2 by omega)) _,
          h.v0.far (p := ⟨p2, 1, none⟩) (Nat.ne_of_lt e3) _, by have h9 := h.vt.set_ 1 (.slice (some ⟨g9, 0, none⟩) (t.Ops.length + 1) c9); simpa using h9,
          hr_.mono (fun b hb => ⟨by have := hb.1; omega, by have := hb.2; simpa [World.setCell, Old] using this, by have := hb.1; omega, by have := hb.1; omega⟩) (fun b hb => Below.heap_setCell _ _ _ _ (by have := hb.1; simp only; omega)),
          by simp; have := HL5.out; omega, hc_, hm_, e1, e2, e3⟩)
      generalize World.setCell _ _ _ = WA at HTA ⊢
      have x0 := HTA.out.vt.cell 0; have x1 := HTA.out.vt.cell 1; have x2 := HTA.out.vt.cell 2
      have g0 := HTA.out.v0.cell 0; have g1 := HTA.out.v0.cell 1; have g2 := HTA.out.v0.cell 2
      have f0 := HTA.out.v0.frozen 0; have f1 := HTA.out.v0.frozen 1; have f2 := HTA.out.v0.frozen 2
      simp only [List.getElem?_toArray, List.getElem?_cons_zero, List.getElem?_cons_succ] at x0 x1 x2 g0 g1 g2
      simp only [List.length_append, List.length_cons, List.length_nil, Nat.zero_add] at x1
      go_wp2_with fail
      refine bodyPost_ret (v := .agg #[.int .i64 t.Session, .slice (some ⟨g9, 0, none⟩) (t.Ops.length + 1) c9, .bool t.Done]) (by simp [results, Tryd.results29, go_sem, g0, g1, g2]) rfl ?_
      have hd := HTA.out.done (Q := P + 420) (by omega)
      simp only [List.length_append, List.length_cons, List.length_nil, Nat.zero_add] at hd
      exact hd

theorem txnB_size (t : Txn) : (txnB t).size ≤ 43 := by
  unfold txnB
  by_cases h : txnOk t = true
  · rw [if_pos h]
    have h1 := prefL_len h t.Ops.length (Nat.le_refl _)
    have h2 := (txnOk_parts' h).2.2
    rw [prefL_all] at h1
    have h3 : (⟨(txnL t).toArray⟩ : ByteArray).size = (txnL t).length := by simp [ByteArray.size]
    omega
  · rw [if_neg h]
    decide
/-- Some transaction in memory of the call's own. -/
def DrawnT (w : World) (e : Ending) (w' : World) : Prop :=
  ∃ (t : Txn) (v : Value), e = .returned (.agg #[.int .i64 t.Session, v, .bool t.Done]) ∧ t.Ops.length ≤ 30 ∧ Sl tOp w' (New w w') t.Ops v ∧ Below w.heap.size w w'
set_option maxRecDepth 10000 in
set_option maxHeartbeats 1000000 in
theorem drawTxnText (bs : List Int) (A : Option Addr) (c : Nat) (w : World) (hl : bs.length ≤ 1048576) (hc : bs.length ≤ c) (hcm : c ≤ maxLen) (hA : Row tByte w (Old w) A bs) :
    Calls Tryd.prog 11 #[.slice A bs.length c] w (DrawnT w) := by
  have HB0 := hide ((Below.refl w.heap.size w).alloc (Nat.le_refl _) (.cells #[.int .i64 0, .slice none 0 0, .bool false] 24))
  have HV0 := hide (Blk.new w 24 #[.int .i64 0, .slice none 0 0, .bool false])
  have hz9 : w.heap.size < (w.alloc (.cells #[.int .i64 0, .slice none 0 0, .bool false] 24)).heap.size := by simp
  have HC := hide (open_any bs A c (w.alloc (.cells #[.int .i64 0, .slice none 0 0, .bool false] 24)) hl hc hcm (hA.old HB0.out))
  clear hA
  go_enter Tryd.func11, Tryd.ntmps11
  go_upto_region 1 with fail
  generalize w.alloc _ = w0 at HB0 HV0 hz9 HC ⊢
  go_wp2_with (first | (go_at_call 30; refine HC.out.mono ?_; rintro e w1 ⟨R, rfl, hR0, hr1, hb1⟩; have HR1 := hide hr1; have HRw := hide hR0; have HB1 := hide hb1; clear hR0 hr1 hb1) | (go_at_call 29; refine (txn_any w1 R 0 6 HR1.out (by omega) (by omega)).mono ?_; rintro e w2 ⟨t, v, rfl, ht, hS, hr2, hg2⟩; obtain ⟨A2, c2, rfl, h2, h3, h4⟩ := hS; have HTl := hide ht; have HS2 := hide h4; have HG2 := hide hg2; have hV2 := (HV0.out.below HB1.out HV0.out.lt).of (hg2.block _ (Nat.lt_of_lt_of_le hz9 HB1.out.size) (fun e => by injection e with e; have := HRw.out; omega)); have HV2 := hide hV2; have g0 := hV2.cell 0; have g1 := hV2.cell 1; have g2 := hV2.cell 2; have f0 := hV2.frozen 0; have f1 := hV2.frozen 1; have f2 := hV2.frozen 2; simp only [List.getElem?_toArray, List.getElem?_cons_zero, List.getElem?_cons_succ] at g0 g1 g2; clear ht h4 hr2 hg2 hV2))
  refine bodyPost_ret (v := .agg #[.int .i64 t.Session, .slice A2 t.Ops.length c2, .bool t.Done]) (by simp [results, Tryd.results11, go_sem, g0, g1, g2]) rfl ⟨t, _, rfl, HTl.out, ⟨A2, c2, rfl, h2, h3, HS2.out.mono (fun b hb => ⟨by have h5 := hb.1; have h6 := HB1.out.size; omega, by have h7 := hb.2; simpa [World.setCell] using h7⟩) (fun b hb => by
    have h8 : b ≠ w.heap.size := by have h5 := hb.1; have h6 := HB1.out.size; omega
    rw [Below.heap_setCell _ _ _ _ h8, Below.heap_setCell _ _ _ _ h8, Below.heap_setCell _ _ _ _ h8])⟩, ?_⟩
  have hb := below_gr (HB0.out.trans (HB1.out.mono HB0.out.size)) HG2.out (Nat.le_trans HB0.out.size HB1.out.size) (by have := HRw.out; have := HB0.out.size; omega)
  repeat (first | refine Below.setCell ?_ (by simp) _ | exact hb)
set_option maxRecDepth 10000 in
set_option maxHeartbeats 2000000 in
theorem drawReadTxn (bs : List Int) (A : Option Addr) (c : Nat) (w : World) (hl : bs.length ≤ 1048576) (hc : bs.length ≤ c) (hcm : c ≤ maxLen) (hA : Row tByte w (Old w) A bs) :
    Calls Tryd.prog 17 #[.slice A bs.length c] w fun e w' => ∃ s : ByteArray, e = .returned (.string s) ∧ s.size ≤ 1000 ∧ Below w.heap.size w w' := by
  have HC := hide (open_any bs A c w hl hc hcm hA)
  clear hA
  go_enter Tryd.func17, Tryd.ntmps17
  go_upto_region 3 with (first | (go_at_call 30; refine HC.out.mono ?_; rintro e w1 ⟨R, rfl, hR0, hr1, hb1⟩; have HR1 := hide hr1; have HRw := hide hR0; have HB1 := hide hb1; clear hR0 hr1 hb1) | (go_at_call 29; refine (txn_any w1 R 0 0 HR1.out (by omega) (by omega)).mono ?_; rintro e w2 ⟨t, v, rfl, ht, hS, hr2, hg2⟩; obtain ⟨A2, c2, rfl, h2, h3, h4⟩ := hS; have HTx := hide (specTxnText t A2 c2 w2 (by simp only [maxLen]; omega) (h4.mono (fun b hb => hb.2) (fun _ _ => rfl))); have HTz := hide (txnB_size t); have HR2 := hide hr2; have HB2 := hide (below_gr HB1.out hg2 HB1.out.size HRw.out); clear ht h4 hr2 hg2 h2 h3) | (go_at_call 13; refine HTx.out.mono ?_; rintro e w3 ⟨rfl, hb3⟩; have HR3 := hide (HR2.out.below hb3); have HB3 := hide (HB2.out.trans (hb3.mono HB2.out.size)); clear hb3))
  have hSz := HTz.out
  generalize txnB t = S at hSz ⊢
  clear HTx HTz HR2 HB2 HR1 HB1 HC
  go_wp2_with fail
  refine (odd_any w3 R _ 3 HR3.out (by omega) (by omega)).mono ?_
  rintro e w4 ⟨v4, rfl, hr4, hg4⟩
  have HR4 := hide hr4
  have HB4 := hide (below_gr HB3.out hg4 HB3.out.size HRw.out)
  have HZ4 := hide (Nat.lt_of_lt_of_le HR3.out.lt hg4.size)
  clear hr4 hg4 HR3 HB3
  cases v4 with
  | false =>
    go_wp2_with fail
    go_ret
    exact ⟨S, rfl, by omega, HB4.out⟩
  | true =>
    have hadd : ∀ W, (Op.stringOp .add S ⟨#[32, 120]⟩).run Tryd.prog W = .ok (.string (S ++ ⟨#[32, 120]⟩)) W := fun W => run_string_add_sum _ _ _ (by have : (⟨#[32, 120]⟩ : ByteArray).size = 2 := rfl; omega)
    have HV5 := hide (Blk.new w4 9 #[.string ⟨#[]⟩, .string ⟨#[115, 48]⟩, .string ⟨#[115, 48, 32, 121, 101, 115]⟩, .string ⟨#[115, 52, 32, 111, 107]⟩, .string ⟨#[115, 48, 32, 111, 107, 32]⟩, .string ⟨#[115, 48, 32, 32, 111, 107]⟩, .string ⟨#[115, 48, 32, 111, 107, 32, 114, 48]⟩, .string ⟨#[83, 48, 32, 111, 107]⟩, .string ⟨#[115, 48, 32, 111, 107, 32, 119, 48, 61, 48]⟩, .string ⟨#[115, 48, 32, 111, 102, 102, 32, 114, 48, 61, 49, 32, 114, 49, 61, 50, 32, 114, 50, 61, 51, 32, 114, 48, 61, 49, 32, 114, 48, 61, 49, 32, 114, 48, 61, 49, 32, 114, 48, 61, 49]⟩, .string (S ++ ⟨#[32, 120]⟩)])
    have HR5 := hide (HR4.out.alloc (.cells #[.string ⟨#[]⟩, .string ⟨#[115, 48]⟩, .string ⟨#[115, 48, 32, 121, 101, 115]⟩, .string ⟨#[115, 52, 32, 111, 107]⟩, .string ⟨#[115, 48, 32, 111, 107, 32]⟩, .string ⟨#[115, 48, 32, 32, 111, 107]⟩, .string ⟨#[115, 48, 32, 111, 107, 32, 114, 48]⟩, .string ⟨#[83, 48, 32, 111, 107]⟩, .string ⟨#[115, 48, 32, 111, 107, 32, 119, 48, 61, 48]⟩, .string ⟨#[115, 48, 32, 111, 102, 102, 32, 114, 48, 61, 49, 32, 114, 49, 61, 50, 32, 114, 50, 61, 51, 32, 114, 48, 61, 49, 32, 114, 48, 61, 49, 32, 114, 48, 61, 49, 32, 114, 48, 61, 49]⟩, .string (S ++ ⟨#[32, 120]⟩)] 9))
    have HB5 := hide (HB4.out.alloc HB4.out.size (.cells #[.string ⟨#[]⟩, .string ⟨#[115, 48]⟩, .string ⟨#[115, 48, 32, 121, 101, 115]⟩, .string ⟨#[115, 52, 32, 111, 107]⟩, .string ⟨#[115, 48, 32, 111, 107, 32]⟩, .string ⟨#[115, 48, 32, 32, 111, 107]⟩, .string ⟨#[115, 48, 32, 111, 107, 32, 114, 48]⟩, .string ⟨#[83, 48, 32, 111, 107]⟩, .string ⟨#[115, 48, 32, 111, 107, 32, 119, 48, 61, 48]⟩, .string ⟨#[115, 48, 32, 111, 102, 102, 32, 114, 48, 61, 49, 32, 114, 49, 61, 50, 32, 114, 50, 61, 51, 32, 114, 48, 61, 49, 32, 114, 48, 61, 49, 32, 114, 48, 61, 49, 32, 114, 48, 61, 49]⟩, .string (S ++ ⟨#[32, 120]⟩)] 9))
    have hz5 : w4.heap.size < (w4.alloc (.cells #[.string ⟨#[]⟩, .string ⟨#[115, 48]⟩, .string ⟨#[115, 48, 32, 121, 101, 115]⟩, .string ⟨#[115, 52, 32, 111, 107]⟩, .string ⟨#[115, 48, 32, 111, 107, 32]⟩, .string ⟨#[115, 48, 32, 32, 111, 107]⟩, .string ⟨#[115, 48, 32, 111, 107, 32, 114, 48]⟩, .string ⟨#[83, 48, 32, 111, 107]⟩, .string ⟨#[115, 48, 32, 111, 107, 32, 119, 48, 61, 48]⟩, .string ⟨#[115, 48, 32, 111, 102, 102, 32, 114, 48, 61, 49, 32, 114, 49, 61, 50, 32, 114, 50, 61, 51, 32, 114, 48, 61, 49, 32, 114, 48, 61, 49, 32, 114, 48, 61, 49, 32, 114, 48, 61, 49]⟩, .string (S ++ ⟨#[32, 120]⟩)] 9)).heap.size := by simp
    go_wp2_with fail
    refine (pick_any _ R _ 11 HR5.out (by omega)).mono ?_
    rintro e w6 ⟨k, rfl, hk0, hk1, hr6, hg6⟩
    obtain ⟨q, rfl⟩ : ∃ n : Nat, k = (n : Int) := ⟨k.toNat, by omega⟩
    have hq : q < 11 := by have := hk1 (by omega); omega
    have hV6 := HV5.out.of (hg6.block _ hz5 (fun e => by injection e with e; have := HZ4.out; omega))
    obtain ⟨z, hz, hzs⟩ : ∃ z : ByteArray, w6.cell? ⟨w4.heap.size, q, none⟩ = some (.string z) ∧ z.size ≤ 1000 := by
      rw [hV6.cell]
      have hl2 : (S ++ ⟨#[32, 120]⟩).size ≤ 1000 := by
        rw [ByteArray.size_append]
        have : (⟨#[32, 120]⟩ : ByteArray).size = 2 := rfl
        omega
      match q, hq with
      | 0, _ | 1, _ | 2, _ | 3, _ | 4, _ | 5, _ | 6, _ | 7, _ | 8, _ | 9, _ => exact ⟨_, rfl, by decide⟩
      | 10, _ => exact ⟨_, rfl, hl2⟩
    have HB6 := hide (below_gr HB5.out hg6 HB5.out.size HRw.out)
    clear hk0 hk1 hr6 hg6 HV5 HR5 HB5 HR4 HB4 hV6 hadd
    go_wp2_with fail
    go_ret
    exact ⟨z, rfl, hzs, HB6.out⟩
end Go.Proofs.YtjnghnkilnhacaaDoor
namespace Go.Proofs.YtjnghnkilnhacaaDoor
open Go.RowKit
set_option linter.unusedVariables false
set_option linter.unusedSimpArgs false

set_option maxRecDepth 10000 in
set_option maxHeartbeats 1000000 in
theorem sameOps_any (xs : List Op) (A B : Option Addr) (c d : Nat) (w : World) (hl : xs.length ≤ maxLen) (hA : Row tOp w (Old w) A xs) (hB : Row tOp w (Old w) B xs) :
    Calls Tryd.prog 39 #[.slice A xs.length c, .slice B xs.length d] w fun e w' => e = .returned (.bool true) ∧ Below w.heap.size w w' := by
  unfold maxLen at hl
  have HA := hide hA; have HB := hide hB
  clear hA hB
  go_enter Tryd.func39, Tryd.ntmps39
  go_wp2
  go_loopw [5] (fun i wr => ∃ k : Nat, k ≤ xs.length ∧ i = .int .i64 k ∧ Below w.heap.size w wr) (fun i _ => xs.length - (intOf i).toNat)
  case atStart => exact ⟨0, Nat.zero_le _, rfl, Below.refl _ _⟩
  case round =>
    obtain ⟨k, hk, rfl, hb⟩ := hrel
    by_cases hlt : k < xs.length
    · obtain ⟨b, off, hAe, hbS, c0, c1, c2⟩ := at_Op HA.out hb hlt
      obtain ⟨b2, off2, hBe, hbS2, d0, d1, d2⟩ := at_Op HB.out hb hlt
      subst hAe hBe
      have hki : (k : Int) < (xs.length : Int) := by omega
      generalize xs[k] = x at c0 c1 c2 d0 d1 d2
      clear hbS hbS2
      go_wp2
      go_quiet (fail)
      go_wp2
      go_roundw
      case rel => exact ⟨k + 1, by omega, by go_num, below_drewN hb _⟩
      case measure => simp [intOf]; omega
    · go_wp2
      go_ret
      exact ⟨rfl, hb⟩
set_option maxHeartbeats 1000000 in
theorem sameTxn_any (x : Txn) (w : World) (A B : Option Addr) (c d : Nat) (hl : x.Ops.length ≤ maxLen) (hA : Row tOp w (Old w) A x.Ops) (hB : Row tOp w (Old w) B x.Ops) :
    Calls Tryd.prog 16 #[.agg #[.int .i64 x.Session, .slice A x.Ops.length c, .bool x.Done], .agg #[.int .i64 x.Session, .slice B x.Ops.length d, .bool x.Done]] w fun e w' => e = .returned (.bool true) ∧ Below w.heap.size w w' := by
  go_enter Tryd.func16, Tryd.ntmps16
  go_wp2_with (go_at_call 39; refine (sameOps_any x.Ops A B c d _ hl (hA.old (((Below.refl _ w).alloc (Nat.le_refl _) _).alloc (by simp) _)) (hB.old (((Below.refl _ w).alloc (Nat.le_refl _) _).alloc (by simp) _))).mono ?_; rintro e w' ⟨rfl, hb'⟩; have HB := hide hb'; clear hb'; clear hA hB; obtain ⟨hc, hf⟩ := bcell HB.out; have hz : w.heap.size + 2 ≤ w'.heap.size := (by have := HB.out.size; simpa using this))
  go_ret
  exact ⟨rfl, (((Below.refl _ w).alloc (Nat.le_refl _) _).alloc (by simp) _).trans (HB.out.mono (by simp; omega))⟩
end Go.Proofs.YtjnghnkilnhacaaDoor
namespace Go.Proofs.YtjnghnkilnhacaaDoor
open Go.RowKit
set_option linter.unusedVariables false
set_option linter.unusedSimpArgs false

theorem rdT_of {t : Txn} (h : txnOk t = true) : rdT (txnB t).data.toList = t ∧ (readTL (txnB t).data.toList).isSome = true := by
  have hb : (txnB t).data.toList = txnL t := by unfold txnB; rw [if_pos h]
  unfold rdT
  rw [hb, readTL_of h]
  exact ⟨rfl, rfl⟩
set_option maxRecDepth 10000 in
set_option maxHeartbeats 4000000 in
theorem lawFnTxnText (bs : List Int) (A : Option Addr) (c : Nat) (w : World) (hm : bs.length ≤ maxLen) (hc : bs.length ≤ c) (hcm : c ≤ maxLen) (hA : Row tByte w (Old w) A bs) (hE : ErrOk w) :
    Calls Tryd.prog 4 #[.slice A bs.length c] w fun e w' => e = .returned (.bool true) ∧ Below w.heap.size w w' := by
  have hq : bs.length ≤ 9223372036854775807 := by simpa [maxLen] using hm
  by_cases hl : bs.length ≤ 1048576
  · have HD := hide (drawTxnText bs A c w hl hc hcm hA)
    have HE := hide hE
    clear hA hE
    go_enter Tryd.func4, Tryd.ntmps4
    go_upto_region 4 with (go_at_call 11; refine HD.out.mono ?_; rintro e w1 ⟨t, v, rfl, ht, hS, hb⟩; obtain ⟨A1, c1, rfl, _, _, hR⟩ := hS; have HR1 := hide (hR.mono (S' := Old w1) (fun b hb => hb.2) (fun _ _ => rfl)); have HTl := hide ht; have HB1 := hide hb; clear ht hR hb)
    have hbz := (Below.refl w1.heap.size w1).alloc (Nat.le_refl _) (.cells #[.int .i64 t.Session, .slice A1 t.Ops.length c1, .bool t.Done] 24)
    have HV2 := hide (Blk.new w1 24 #[.int .i64 t.Session, .slice A1 t.Ops.length c1, .bool t.Done])
    have HR2 := hide (HR1.out.old hbz)
    have HB2 := hide (HB1.out.trans (hbz.mono HB1.out.size))
    clear hbz HR1 HB1 HD
    generalize w1.alloc _ = w2 at HV2 HR2 HB2 ⊢
    generalize w1.heap.size = p at HV2 ⊢
    have htm : t.Ops.length ≤ maxLen := by have := HTl.out; simp only [maxLen]; omega
    have HIt := hide (fun (W : World) (hb : Below w2.heap.size w2 W) => implTxnText t A1 c1 W htm (HR2.out.old hb))
    have HSt := hide (fun (W : World) (hb : Below w2.heap.size w2 W) => specTxnText t A1 c1 W htm (HR2.out.old hb))
    have HVt := fun (W : World) (hb : Below w2.heap.size w2 W) => specTxnValid t A1 c1 W htm (HR2.out.old hb)
    have HX := hide (fun (W : World) (hb : Below w2.heap.size w2 W) => And.intro ((HV2.out.below hb HV2.out.lt).cell 0) (And.intro ((HV2.out.below hb HV2.out.lt).cell 1) ((HV2.out.below hb HV2.out.lt).cell 2)))
    simp only [List.getElem?_toArray, List.getElem?_cons_zero, List.getElem?_cons_succ] at HX
    have HRd := hide (fun (W : World) (h : ErrOk W) => implReadTxn (txnB t) W (Nat.le_trans (txnB_size t) (by decide)) h)
    have HRt := hide (fun h => rdT_of (t := t) h)
    have HNo := hide (fun (h : txnOk t = false) => show txnB t = ⟨#[]⟩ from by unfold txnB; rw [h]; rfl)
    have HSm := hide (fun (W : World) (B : Option Addr) (d : Nat) (hB : Row tOp W (Old W) B t.Ops) (hb : Below w2.heap.size w2 W) => sameTxn_any t W B A1 d c1 htm hB (HR2.out.old hb))
    generalize hq1 : txnOk t = q1 at HVt HRt HNo
    have HVt := hide HVt
    generalize txnB t = S at HIt HSt HRd HRt HNo
    clear HR2
    obtain ⟨x0, x1, x2⟩ := HX.out w2 (Below.refl _ _)
    go_upto_region 5 with (go_at_call 12; refine (HIt.out w2 (Below.refl _ _)).mono ?_; rintro e w3 ⟨rfl, hb⟩; have HB3 := hide hb; clear hb)
    clear x0 x1 x2
    obtain ⟨x0, x1, x2⟩ := HX.out w3 HB3.out
    have hss : (S.toList != S.toList) = false := by simp
    go_upto_region 7 with (go_at_call 13; refine (HSt.out w3 HB3.out).mono ?_; rintro e w4 ⟨rfl, hb⟩; have HB4 := hide (HB3.out.trans (hb.mono HB3.out.size)); clear hb)
    clear x0 x1 x2
    obtain ⟨x0, x1, x2⟩ := HX.out w4 HB4.out
    cases q1 with
    | false =>
      have HN2 := HNo.out rfl
      subst HN2
      go_wp2_with (first | (go_at_call 14; refine (HVt.out w4 HB4.out).mono ?_; rintro e w5 ⟨rfl, hb⟩; have HB5 := hide (HB4.out.trans (hb.mono HB4.out.size)); clear hb) | (go_at_call 15; refine (alive_any w5).mono ?_; rintro e w6 ⟨rfl, hb⟩; have HB6 := hide (HB2.out.trans ((HB5.out.trans (hb.mono HB5.out.size)).mono HB2.out.size)); clear hb))
      go_ret
      exact ⟨rfl, HB6.out⟩
    | true =>
      obtain ⟨hr1, hr2⟩ := HRt.out rfl
      have HRd := HRd.out
      rw [hr1, hr2] at HRd
      have HRd := hide HRd
      clear hr1 hr2
      go_upto_region 10 with (first | (go_at_call 14; refine (HVt.out w4 HB4.out).mono ?_; rintro e w5 ⟨rfl, hb⟩; have HB5 := hide (HB4.out.trans (hb.mono HB4.out.size)); have HE5 := hide (HE.out.below (HB2.out.trans (HB5.out.mono HB2.out.size))); clear hb) | (go_at_call 7; refine (HRd.out w5 HE5.out).mono ?_; rintro e w6 ⟨v, g, rfl, hH, _, hb⟩; obtain ⟨A6, c6, rfl, _, _, hR6⟩ := hH.old; have HR6 := hide hR6; have HB6 := hide (HB5.out.trans (hb.mono HB5.out.size)); clear hH hb hR6))
      clear x0 x1 x2
      have hbz := (Below.refl w6.heap.size w6).alloc (Nat.le_refl _) (.cells #[.int .i64 t.Session, .slice A6 t.Ops.length c6, .bool t.Done] 24)
      have HV7 := hide (Blk.new w6 24 #[.int .i64 t.Session, .slice A6 t.Ops.length c6, .bool t.Done])
      have HR7 := hide (HR6.out.old hbz)
      have HB7 := hide (HB6.out.trans (hbz.mono HB6.out.size))
      clear hbz HR6 HB6
      generalize w6.alloc _ = w7 at HV7 HR7 HB7 ⊢
      generalize w6.heap.size = p6 at HV7 ⊢
      obtain ⟨x0, x1, x2⟩ := HX.out w7 HB7.out
      have y0 := HV7.out.cell 0; have y1 := HV7.out.cell 1; have y2 := HV7.out.cell 2
      simp only [List.getElem?_toArray, List.getElem?_cons_zero, List.getElem?_cons_succ] at y0 y1 y2
      have HSm := hide (HSm.out w7 A6 c6 HR7.out HB7.out)
      go_wp2_with (go_at_call 16; refine HSm.out.mono ?_; rintro e w8 ⟨rfl, hb⟩; have HB8 := hide (HB2.out.trans ((HB7.out.trans (hb.mono HB7.out.size)).mono HB2.out.size)); clear hb)
      go_ret
      exact ⟨rfl, HB8.out⟩
  · clear hA hE
    go_enter Tryd.func4, Tryd.ntmps4
    go_wp2_with fail
    go_ret
    exact ⟨rfl, Below.refl _ _⟩
end Go.Proofs.YtjnghnkilnhacaaDoor
namespace Go.Proofs.YtjnghnkilnhacaaDoor
open Go.RowKit Go.ChangeShapes Go.WideShapes Go.Deep

theorem list_of_each {α : Type} (Q : Nat → α → Prop) : ∀ n : Nat, (∀ i, i < n → ∃ x, Q i x) → ∃ xs : List α, xs.length = n ∧ ∀ i (h : i < xs.length), Q i xs[i]
  | 0, _ => ⟨[], rfl, fun _ h => absurd h (by simp)⟩
  | n + 1, h => by
    obtain ⟨xs, hl, hx⟩ := list_of_each Q n (fun i hi => h i (by omega))
    obtain ⟨x, hq⟩ := h n (by omega)
    refine ⟨xs ++ [x], by simp [hl], fun i hi => ?_⟩
    rw [List.length_append] at hi
    simp only [List.length_cons, List.length_nil] at hi
    rcases Nat.lt_or_ge i xs.length with h1 | h1
    · rw [List.getElem_append_left h1]; exact hx i h1
    · obtain rfl : i = n := by omega
      simp [List.getElem_append_right, hl, hq]

section
variable {H : Type} {enc : TypeId × Value → H} {P : Program} {w : World} {base : Nat} {spare : Nat → Bool} {held : Bool}

theorem sl_of_trod {α : Type} (T : Ty α) {t e : TypeId} {fuel : Nat} {cs : List Value} {y : DataW H × List MemPlace} (ht : P.underlying t = some (.slice e)) (hC : P.cellsOf e = T.size) (hT : 0 < T.size)
    (he : ∀ n cs y, DataW.trod enc P w base spare held n e cs = some y → ∃ x, T.rel w (Old w) x cs) (h : DataW.trod enc P w base spare held fuel t cs = some y) : ∃ xs v, cs = [v] ∧ Sl T w (Old w) xs v := by
  rcases open_slice ht h with ⟨rfl, _⟩ | ⟨a, len, cap, m, n, D, Pl, rfl, _, hl, hm, hmm, _, hi⟩
  · exact ⟨[], _, rfl, none, 0, rfl, by simp, by simp [maxLen], Row.nil⟩
  · have hlm : len ≤ m := by rw [hmm]; split <;> omega
    obtain ⟨xs, hxl, hx⟩ := list_of_each (fun i x => ∃ cs', T.rel w (Old w) x cs' ∧ ∀ j, j < T.size → w.cell? ((a.add (i * T.size)).add j) = cs'[j]?) len (fun i hil => by
      obtain ⟨cs', hc, ht'⟩ := hi i (by omega)
      obtain ⟨_, _, hat⟩ := World.cells?_some hc
      obtain ⟨x, hr⟩ := he _ _ _ ht'
      rw [hC] at hat
      exact ⟨x, cs', hr, hat⟩)
    subst hxl
    refine ⟨xs, _, rfl, some a, cap, rfl, hl, hm, fun hp => ?_⟩
    obtain ⟨cs0, hr0, h0⟩ := hx 0 hp
    have hlen0 := T.len hr0
    have hcell0 := h0 0 hT
    rw [List.getElem?_eq_getElem (by omega)] at hcell0
    simp only [Nat.zero_mul] at hcell0
    have ha0 : (a.add 0).add 0 = a := by simp [Addr.add]
    rw [ha0] at hcell0
    obtain ⟨b, off, spot⟩ := a
    have hspot : spot = none := by simpa using World.cell?_spot hcell0
    subst hspot
    refine ⟨b, off, rfl, World.block_lt_of_cell? w _ hcell0, fun k hk => ?_⟩
    obtain ⟨cs', hr, hat⟩ := hx k hk
    refine ⟨cs', hr, fun j u hu => ?_⟩
    have hj : j < T.size := by rw [← T.len hr]; exact (List.getElem?_eq_some_iff.1 hu).1
    have h1 := hat j hj
    rw [Go.WideShapes.add_plain, Go.WideShapes.add_plain] at h1
    rw [h1, hu]

variable {i64 : TypeId}
end
end Go.Proofs.YtjnghnkilnhacaaDoor
namespace Go.Proofs.YtjnghnkilnhacaaDoor
open Go.RowKit Go.ChangeShapes Go.WideShapes Go.Deep
section
variable {H : Type} {enc : TypeId × Value → H} {P : Program} {w : World} {base : Nat} {spare : Nat → Bool} {held : Bool}
theorem elemByte {e : TypeId} (he : P.underlying e = some (.int .u8)) : ∀ n cs y, DataW.trod enc P w base spare held n e cs = some y → ∃ x, tByte.rel w (Old w) x cs := fun _ _ _ h => by
  obtain ⟨n, rfl, _, hw⟩ := DataW.trod_int he h
  have hmin : IntKind.u8.min = 0 := rfl
  have hmax : IntKind.u8.max = 255 := rfl
  simp only [Lit.wf, Bool.and_eq_true, decide_eq_true_eq] at hw
  exact ⟨n, rfl, by omega, by omega⟩
end
end Go.Proofs.YtjnghnkilnhacaaDoor
