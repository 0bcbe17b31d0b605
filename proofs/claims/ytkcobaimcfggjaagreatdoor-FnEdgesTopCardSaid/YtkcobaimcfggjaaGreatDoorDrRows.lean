/- l20Orders: some orders of values. -/
import Derived.Test.YtkcobaimcfggjaaGreatDoorHKit
import Derived.Test.YtkcobaimcfggjaaGreatDoorFirstO
import Derived.Deep.RegionLaw
namespace Go.Proofs.YtkcobaimcfggjaaGreatDoor
open Go.RowKit
set_option linter.unusedVariables false
set_option linter.unusedSimpArgs false

/-- A number of one row is written. -/
theorem Own.ivSet {e' : TypeId} {w : World} {S : Nat → Prop} {ps : List (List Int × Value)} {v : Value} (h : Own (tIV 3) e' w S ps v) (hD : DistV ps) {k i g n c : Nat} (hk : k < ps.length) (hv : ps[k].2 = .slice (some ⟨g, 0, none⟩) n c) (hi : i < ps[k].1.length) (y : Int) :
    Own (tIV 3) e' (w.setCell ⟨g, i, none⟩ (.int .i64 y)) S (ps.set k (ps[k].1.set i y, ps[k].2)) v := by
  rcases h with ⟨_, rfl⟩ | ⟨go, cap, cur, S', rfl, hg, hB, h1, h2, h3, h4, h5⟩
  · cases hk
  · have hgo : S' g := by
      obtain ⟨cs, ⟨_, _, h6⟩, _⟩ := h5 k hk
      exact h6 g (by rw [hv]; rfl)
    have hne : go ≠ g := fun e => (h4 g hgo).2 e.symm
    refine .inr ⟨go, cap, cur, S', by rw [List.length_set], hg, hB.far (p := ⟨g, i, none⟩) hne _, by rw [List.length_set]; exact h1, h2, h3, h4, fun j hj => ?_⟩
    rw [List.length_set] at hj
    obtain ⟨cs, ⟨h6, h7, h8⟩, hc⟩ := h5 j hj
    have hcell : ∀ q u, cs[q]? = some u → (w.setCell ⟨g, i, none⟩ (.int .i64 y)).cell? ⟨go, 0 + j * (tIV 3).size + q, none⟩ = some u := fun q u hu => (World.cell?_of_block (Below.heap_setCell _ _ _ _ hne)).trans (hc q u hu)
    by_cases hjk : k = j
    · subst hjk
      refine ⟨cs, ?_, hcell⟩
      rw [List.getElem_set_self]
      refine ⟨h6, ?_, h8⟩
      rw [hv] at h7 ⊢
      exact h7.setInt hi y
    · refine ⟨cs, ?_, hcell⟩
      rw [List.getElem_set_ne hjk]
      refine ⟨h6, h7.mono (fun _ h => h) (fun b hb => Below.heap_setCell _ _ _ _ fun e => ?_), h8⟩
      have hbg : b = g := e
      subst hbg
      unfold DistV at hD
      rw [List.pairwise_iff_getElem] at hD
      rcases Nat.lt_or_ge k j with hlt | hge
      · exact hD k j hk hj hlt b (by rw [hv]; rfl) hb
      · exact hD j k hj hk (by omega) b hb (by rw [hv]; rfl)
theorem DistV.set {ps : List (List Int × Value)} (h : DistV ps) {k : Nat} (hk : k < ps.length) (r : List Int) : DistV (ps.set k (r, ps[k].2)) := by
  unfold DistV at h ⊢
  rw [List.pairwise_iff_getElem] at h ⊢
  intro i j hi hj hij b h1 h2
  rw [List.length_set] at hi hj
  have e1 : ∀ m (hm : m < ps.length), ((ps.set k (r, ps[k].2))[m]'(by rw [List.length_set]; exact hm)).2 = ps[m].2 := fun m hm => by
    by_cases he : k = m
    · subst he; rw [List.getElem_set_self]
    · rw [List.getElem_set_ne he]
  rw [e1 i hi] at h1
  rw [e1 j hj] at h2
  exact h i j hi hj hij b h1 h2
/-- One row is replaced. -/
theorem Own.ivPut {e' : TypeId} {W W2 : World} {lo : Nat} {K : Nat → Prop} {ps : List (List Int × Value)} {go n c : Nat} (h : Own (tIV 3) e' W (fun b => lo ≤ b ∧ Old W b) ps (.slice (some ⟨go, 0, none⟩) n c)) (hD : DistV ps) {k : Nat} (hk : k < ps.length)
    (hN : Only K W W2) (hK : ∀ b, K b → ps[k].2.ownBlock = some b ∨ W.heap.size ≤ b) {row : List Int} {v : Value} (hv : Own tInt 3 W2 (fun b => K b ∧ Old W2 b) row v) :
    Own (tIV 3) e' (W2.setCell ⟨go, k, none⟩ v) (fun b => lo ≤ b ∧ Old (W2.setCell ⟨go, k, none⟩ v) b) (ps.set k (row, v)) (.slice (some ⟨go, 0, none⟩) n c) := by
  have hsz : (W2.setCell ⟨go, k, none⟩ v).heap.size = W2.heap.size := by simp [World.setCell]
  rcases h with ⟨h, _⟩ | ⟨go', cap, cur, S', he, hg, hB, h1, h2, h3, h4, h5⟩
  · cases h
  · injection he with e1 e2 e3
    injection e1 with e1
    injection e1 with e1
    subst e1
    subst e2
    subst e3
    have hlo : lo ≤ W.heap.size := Nat.le_trans hg.1 (Nat.le_of_lt hg.2)
    have hgK : ¬ K go := fun hKg => by
      rcases hK go hKg with h6 | h6
      · obtain ⟨cs, ⟨_, _, h7⟩, _⟩ := h5 k hk
        exact (h4 go (h7 go h6)).2 rfl
      · have := hg.2; unfold Old at this; omega
    have hB2 : Blk W2 go e' cur := hB.of (hN.block go hg.2 hgK)
    have hkc : k < cur.size := by
      have h33 : cur.size = c * 1 := h3
      omega
    have hin : ∀ b, v.ownBlock = some b → lo ≤ b ∧ b < W2.heap.size ∧ b ≠ go := fun b hb => by
      obtain ⟨h6, h7⟩ := hv.owned b hb
      refine ⟨?_, h7, fun e => hgK (e ▸ h6)⟩
      rcases hK b h6 with h8 | h8
      · obtain ⟨cs, ⟨_, _, h9⟩, _⟩ := h5 k hk
        exact (h4 b (h9 b h8)).1.1
      · omega
    refine .inr ⟨go, c, cur.setIfInBounds k v, fun b => (S' b ∨ v.ownBlock = some b), by rw [List.length_set], ⟨hg.1, by unfold Old; rw [hsz]; exact hB2.lt⟩, hB2.set_ k v, by rw [List.length_set]; exact h1, h2, by rw [Array.size_setIfInBounds]; exact h3, fun b hb => ?_, fun j hj => ?_⟩
    · rcases hb with hb | hb
      · exact ⟨⟨(h4 b hb).1.1, by unfold Old; rw [hsz]; exact Nat.lt_of_lt_of_le (h4 b hb).1.2 hN.size⟩, (h4 b hb).2⟩
      · obtain ⟨h6, h7, h8⟩ := hin b hb
        exact ⟨⟨h6, by unfold Old; rw [hsz]; exact h7⟩, h8⟩
    · rw [List.length_set] at hj
      obtain ⟨cs, ⟨h6, h7, h8⟩, hc⟩ := h5 j hj
      by_cases hjk : k = j
      · subst hjk
        refine ⟨[v], ?_, fun q u hu => ?_⟩
        · rw [List.getElem_set_self]
          exact ⟨rfl, (ofBlockV hv).mono (fun _ h => h) (fun b hb => Below.heap_setCell _ _ _ _ (hin b hb).2.2), fun b hb => .inr hb⟩
        · obtain ⟨hq, rfl⟩ := List.getElem?_eq_some_iff.1 hu
          have hq0 : q = 0 := by simpa using hq
          subst hq0
          rw [(hB2.set_ k v).cell]
          show (cur.setIfInBounds k v)[0 + k * 1 + 0]? = _
          rw [show 0 + k * 1 + 0 = k by omega]
          simp [hkc]
      · refine ⟨cs, ?_, fun q u hu => ?_⟩
        · rw [List.getElem_set_ne hjk]
          refine ⟨h6, h7.mono (fun _ h => h) (fun b hb => ?_), fun b hb => .inl (h8 b hb)⟩
          have hbS := h4 b (h8 b hb)
          rw [Below.heap_setCell _ _ _ _ hbS.2]
          refine hN.block b hbS.1.2 fun hKb => ?_
          rcases hK b hKb with h9 | h9
          · unfold DistV at hD
            rw [List.pairwise_iff_getElem] at hD
            rcases Nat.lt_or_ge k j with hlt | hge
            · exact hD k j hk hj hlt b h9 hb
            · exact hD j k hj hk (by omega) b hb h9
          · have := hbS.1.2; unfold Old at this; omega
        · have hq : q < (tIV 3).size := by rw [← (tIV 3).len (w := W) (S := S') (x := ps[j]) (cs := cs) ⟨h6, h7, h8⟩]; exact (List.getElem?_eq_some_iff.1 hu).1
          have hq1 : q < 1 := hq
          have hq0 : q = 0 := by omega
          subst hq0
          have h9 := hc 0 u hu
          rw [hB.cell] at h9
          rw [(hB2.set_ k v).cell]
          have e0 : 0 + j * (tIV 3).size + 0 = j := by show 0 + j * 1 + 0 = j; omega
          rw [e0] at h9 ⊢
          rw [Array.getElem?_setIfInBounds_ne hjk]
          exact h9
/-- Some rows of numbers, in memory of the call's own. -/
def DrawnRR (w : World) (R P : Nat) (e : Ending) (w' : World) : Prop := ∃ (os : List (List Int)) (v : Value), e = .returned v ∧ os.length ≤ 3 ∧ (∀ o ∈ os, o.length ≤ 12) ∧ Sl (tSlice tInt) w' (New w w') os v ∧ Rd w' R P ∧ Gr w w' R
/-- What holds of the rows while they are turned. -/
structure RW (lo : Nat) (W : World) (n : Nat) (ps : List (List Int × Value)) (v : Value) : Prop where
  own : Own (tIV 3) 30 W (fun b => lo ≤ b ∧ Old W b) ps v
  dist : DistV ps
  len : ps.length = n
  six : ∀ p ∈ ps, p.1.length ≤ 6
theorem RW.gr {lo R n : Nat} {W W' : World} {ps : List (List Int × Value)} {v : Value} (h : RW lo W n ps v) (g : Gr W W' R) (hR : R < lo) : RW lo W' n ps v :=
  ⟨Own.onlyGr h.own g (by omega), h.dist, h.len, h.six⟩
theorem RW.drew {lo n : Nat} {W : World} {ps : List (List Int × Value)} {v : Value} (h : RW lo W n ps v) : RW lo W.drew n ps v :=
  ⟨h.own.mono (fun _ h => h) (fun _ _ => rfl), h.dist, h.len, h.six⟩
theorem RW.set {lo n : Nat} {W : World} {ps : List (List Int × Value)} {v : Value} (h : RW lo W n ps v) {k i g m c : Nat} (hk : k < ps.length) (hv : ps[k].2 = .slice (some ⟨g, 0, none⟩) m c) (hi : i < ps[k].1.length) (y : Int) :
    RW lo (W.setCell ⟨g, i, none⟩ (.int .i64 y)) n (ps.set k (ps[k].1.set i y, ps[k].2)) v :=
  ⟨(h.own.ivSet h.dist hk hv hi y).mono (fun b hb => ⟨hb.1, by have := hb.2; simpa [Old, World.setCell] using this⟩) (fun _ _ => rfl), h.dist.set hk _, by rw [List.length_set]; exact h.len, fun p hp => by
    rcases List.mem_or_eq_of_mem_set hp with h1 | h1
    · exact h.six p h1
    · rw [h1]; show (ps[k].1.set i y).length ≤ 6; rw [List.length_set]; exact h.six _ (List.getElem_mem hk)⟩
/-- A row's slice, and its numbers. -/
theorem RW.row {lo n go m c : Nat} {W : World} {ps : List (List Int × Value)} (h : RW lo W n ps (.slice (some ⟨go, 0, none⟩) m c)) {k : Nat} (hk : k < ps.length) :
    W.cell? ⟨go, k, none⟩ = some ps[k].2 ∧ W.frozen? ⟨go, k, none⟩ = false ∧ Own tInt 3 W (fun b => ps[k].2.ownBlock = some b) ps[k].1 ps[k].2 ∧ ∀ b, ps[k].2.ownBlock = some b → lo ≤ b ∧ b < W.heap.size ∧ b ≠ go := by
  obtain ⟨cs, ⟨h1, h2, h3⟩, hc, hf⟩ := h.own.el hk
  have h4 := hc 0 ps[k].2 (by rw [h1]; rfl)
  rw [show k * (tIV 3).size + 0 = k from Nat.mul_one k] at h4
  exact ⟨h4, hf k, h2, fun b hb => ⟨(h3 b hb).1.1, (h3 b hb).1.2, (h3 b hb).2⟩⟩
theorem RW.set2 {lo n : Nat} {W : World} {ps : List (List Int × Value)} {v : Value} (h : RW lo W n ps v) {k i j g m c : Nat} (hk : k < ps.length) (hv : ps[k].2 = .slice (some ⟨g, 0, none⟩) m c) (hi : i < ps[k].1.length) (hj : j < ps[k].1.length) (a b : Int) :
    ∃ ps', RW lo ((W.setCell ⟨g, i, none⟩ (.int .i64 a)).setCell ⟨g, j, none⟩ (.int .i64 b)) n ps' v := by
  have h1 := h.set hk hv hi a
  have e : (ps.set k (ps[k].1.set i a, ps[k].2))[k]'(by rw [List.length_set]; exact hk) = (ps[k].1.set i a, ps[k].2) := by rw [List.getElem_set_self]
  exact ⟨_, h1.set (k := k) (g := g) (m := m) (c := c) (i := j) (by rw [List.length_set]; exact hk) (by rw [e]; exact hv) (by rw [e]; show j < (ps[k].1.set i a).length; rw [List.length_set]; exact hj) b⟩
/-- How the rows are handed back. -/
theorem RW.done {w W : World} {n : Nat} {ps : List (List Int × Value)} {v : Value} (h : RW w.heap.size W n ps v) (hn : n ≤ 3) : (ps.map Prod.fst).length ≤ 3 ∧ (∀ o ∈ ps.map Prod.fst, o.length ≤ 12) ∧ Sl (tSlice tInt) W (New w W) (ps.map Prod.fst) v :=
  ⟨by rw [List.length_map, h.len]; exact hn, fun o ho => by
    obtain ⟨p, hp, rfl⟩ := List.mem_map.1 ho
    have := h.six p hp
    omega, h.own.iv.mono (fun b hb => hb) (fun _ _ => rfl)⟩
set_option maxRecDepth 10000 in
set_option maxHeartbeats 8000000 in
theorem ordersD_any (w : World) (R P : Nat) (xs : List Txn) (A : Option Addr) (c : Nat) (n : Int) (h : Rd w R P) (hP : P ≤ 5000) (hn : n ≤ 1000000) (hx : HistS xs) (hA : Row tTxn w (fun b => R < b ∧ Old w b) A xs) :
    Calls Tryz.prog 49 #[.pointer (some ⟨R, 0, none⟩), .slice A xs.length c, .int .i64 n] w (DrawnRR w R (P + 40)) := by
  obtain ⟨i0, hi, hz0, hz1, hz2⟩ := info_parts infoInt_
  obtain ⟨hxm, hx20, hxo, hxn⟩ := hx.le
  have HlR := hide h.lt
  have HP := hide hP
  have HR0 := hide h
  have HF := hide (specFirstOrders xs A c w hx20 hxn hxo (hA.mono (fun b hb => hb.2) (fun _ _ => rfl)))
  clear h hP hA
  go_enter Tryz.func49, Tryz.ntmps49
  go_wp2_with fail
  refine HF.out.mono ?_
  rintro e w1 ⟨ps1, v1, rfl, hO1, hD1, hL1, h61, hb1⟩
  obtain ⟨nn, hnn⟩ : ∃ n, n = ps1.length := ⟨_, rfl⟩
  rw [← hnn] at hL1
  have HW1 := hide (show RW w.heap.size w1 nn ps1 v1 from ⟨hO1.mono (fun b hb => hb) (fun _ _ => rfl), hD1, hnn.symm, h61⟩)
  obtain ⟨A1, c1, hv1, hle1⟩ : ∃ A c, v1 = .slice A nn c ∧ nn ≤ c := by obtain ⟨A, c, h, h2, _⟩ := hO1.sl; exact ⟨A, c, by rw [hnn]; exact h, by rw [hnn]; exact h2⟩
  subst hv1
  have HR1 := hide (HR0.out.below hb1)
  have HG1 := hide (Gr.of_below hb1 (R := R))
  have hn3 : nn ≤ 3 := by omega
  have HL1 := hide hL1
  clear hO1 hD1 hL1 h61 hb1 hnn HR0 HF
  go_wp2_with fail
  go_loopw [8, 9, 10] (fun k _ _ wr => ∃ (kk : Nat) (ps : List (List Int × Value)), kk ≤ nn ∧ k = .int .i64 kk ∧ Hid (RW w.heap.size wr nn ps (.slice A1 nn c1)) ∧ Hid (Rd wr R (P + 8 * kk)) ∧ Hid (Gr w wr R)) (fun k _ _ _ => nn - (intOf k).toNat)
  case atStart => exact ⟨0, ps1, Nat.zero_le _, rfl, HW1.out, HR1.out, HG1.out⟩
  case round =>
    obtain ⟨kk, ps2, hkk, rfl, hW, hR, hG⟩ := hrel
    have HW2 := hide hW.out; have HR2 := hide hR.out; have HG2 := hide hG.out
    clear hW hR hG HW1 HR1 HG1
    by_cases hlt : kk < nn
    · have hki : (kk : Int) < (nn : Int) := by omega
      obtain ⟨go, cg, hge, hgS⟩ := HW2.out.own.form (by rw [HW2.out.len]; omega)
      injection hge with hge1 hge2 hge3
      clear hge2 hge3
      subst hge1
      clear hgS
      go_wp2_with fail
      go_loopw [9, 10] (fun j _ wr => ∃ (jj : Nat) (ps : List (List Int × Value)), jj ≤ 6 ∧ j = .int .i64 jj ∧ Hid (RW w.heap.size wr nn ps (.slice (some ⟨go, 0, none⟩) nn c1)) ∧ Hid (Rd wr R (P + 8 * kk + jj)) ∧ Hid (Gr w wr R)) (fun j _ _ => 6 - (intOf j).toNat)
      case atStart => exact ⟨0, ps2, by omega, rfl, HW2.out, HR2.out, HG2.out⟩
      case round =>
        obtain ⟨jj, ps, hjj, rfl, hW, hR, hG⟩ := hrel
        have HW3 := hide hW.out; have HR3 := hide hR.out; have HG3 := hide hG.out
        clear hW hR hG HW2 HR2 HG2
        have hkp : kk < ps.length := by rw [HW3.out.len]; exact hlt
        obtain ⟨r0, r1, r2, r3⟩ := HW3.out.row hkp
        have hs6 := HW3.out.six _ (List.getElem_mem hkp)
        obtain ⟨Ak, ck, hvk⟩ : ∃ A c, ps[kk].2 = .slice A ps[kk].1.length c := by obtain ⟨A, c, h, _⟩ := r2.sl; exact ⟨A, c, h⟩
        obtain ⟨nk, hnk⟩ : ∃ n, n = ps[kk].1.length := ⟨_, rfl⟩
        rw [← hnk] at hvk hs6
        rw [hvk] at r0
        have HVk := hide hvk
        have HNk := hide hnk
        have HR2_ := hide r2; have HR3_ := hide r3
        clear r1 r2 r3 hvk hnk
        by_cases hlj : jj + 1 < nk
        · have hji : (jj : Int) + 1 < (nk : Int) := by omega
          have hji0 : (jj : Int) < (nk : Int) := by omega
          go_wp2_with fail
          refine (pick_any _ R _ 4 HR3.out (by have := HP.out; omega)).mono ?_
          rintro e w4 ⟨z, rfl, _, _, hr4, hg4⟩
          have HW4 := hide (HW3.out.gr hg4 HlR.out)
          have HR4 := hide hr4
          have HG4 := hide (gr_trans HG3.out hg4)
          clear hr4 hg4 r0 HR2_ HR3_ HW3 HR3 HG3
          by_cases hz : z = 0
          · have hz' : (z == 0) = true := by simp [hz]
            obtain ⟨r0, r1, r2, r3⟩ := HW4.out.row hkp
            obtain ⟨gk, cgk, hgk, _⟩ := r2.form (by rw [← HNk.out]; omega)
            rw [← HNk.out] at hgk
            have hgo := r3 gk (by rw [hgk]; rfl)
            have hq0 : jj < ps[kk].1.length := by rw [← HNk.out]; omega
            have hq1 : jj + 1 < ps[kk].1.length := by rw [← HNk.out]; omega
            rw [hgk] at r0 r2
            have d0 := (r2.cellInt hq0).1
            have d1 := (r2.cellInt hq1).1
            have e0 := (r2.cellInt hq0).2
            have e1 := (r2.cellInt hq1).2
            have HX := hide (fun a b => HW4.out.set2 hkp hgk hq0 hq1 a b)
            have hne : go ≠ gk := fun e => hgo.2.2 e.symm
            have HGs := hide (fun a b : Value => gr_setCell (gr_setCell HG4.out (p := ⟨gk, jj, none⟩) (.inr hgo.1) a) (p := ⟨gk, jj + 1, none⟩) (.inr hgo.1) b)
            have HRs := hide (fun a b : Value => (HR4.out.far (p := ⟨gk, jj, none⟩) (Nat.lt_of_lt_of_le HlR.out hgo.1) a).far (p := ⟨gk, jj + 1, none⟩) (Nat.lt_of_lt_of_le HlR.out hgo.1) b)
            generalize ps[kk].1[jj] = a at d0
            generalize ps[kk].1[jj + 1] = b at d1
            have hw1 : IntKind.i64.wrap ((jj : Int) + 1) = (jj : Int) + 1 := IntWalk.i64_in _ (by omega)
            have hw2 : (0 : Int) ≤ (jj : Int) + 1 := by omega
            have hw3 : ((jj : Int) + 1).toNat = jj + 1 := by omega
            have hw4 : (0 : Int) ≤ (kk : Int) := by omega
            have hw5 : (0 : Int) ≤ (jj : Int) := by omega
            clear r1 r2 r3 hgo HW4 HG4 HR4 HVk hgk hz hq0 hq1
            go_wp2_with fail
            go_still_tail 14, (by kernel_rfl)
            change wpList _ _ _ _ _ w4.drew
            go_wp2_with fail
            go_roundw
            case rel =>
              obtain ⟨ps', hps⟩ := HX.out b a
              exact ⟨jj + 1, ps', by omega, by go_num, hps.drew, (HRs.out (.int .i64 b) (.int .i64 a)).keep (fun _ _ => rfl), gr_drewN (HGs.out (.int .i64 b) (.int .i64 a)) 1⟩
            case measure => simp [intOf]; omega
          · have hz' : (z == 0) = false := by simp [hz]
            clear hz
            go_wp2_with fail
            go_roundw
            case rel => exact ⟨jj + 1, ps, by omega, by go_num, HW4.out, HR4.out, HG4.out⟩
            case measure => simp [intOf]; omega
        · have hji : ¬ (jj : Int) + 1 < (nk : Int) := by omega
          go_wp2_with fail
          go_roundw
          case rel => exact ⟨kk + 1, ps, by omega, by go_num, HW3.out, hide (HR3.out.up (by omega)), HG3.out⟩
          case measure => simp [intOf]; omega
    · obtain rfl : kk = nn := by omega
      have hki : ¬ (kk : Int) < (kk : Int) := by omega
      go_wp2_with fail
      refine (odd_any _ R _ n HR2.out (by have := HP.out; omega) hn).mono ?_
      rintro e w5 ⟨v5, rfl, hr5, hg5⟩
      have HW5 := hide (HW2.out.gr hg5 HlR.out)
      have HR5 := hide (hr5.up (Q := P + 30) (by omega))
      have HG5 := hide (gr_trans HG2.out hg5)
      clear hr5 hg5 HW2 HR2 HG2
      cases v5 with
      | false =>
        obtain ⟨d1, d2, d3⟩ := HW5.out.done hn3
        have HD1 := hide d1; have HD2 := hide d2; have HD3 := hide d3
        clear d1 d2 d3
        go_wp2_with fail
        go_ret
        exact ⟨_, _, rfl, HD1.out, HD2.out, HD3.out, HR5.out.up (by omega), HG5.out⟩
      | true =>
        have hk03 := HL1.out
        rcases hk03 with h0 | h3
        · subst h0
          obtain ⟨d1, d2, d3⟩ := HW5.out.done hn3
          have HD1 := hide d1; have HD2 := hide d2; have HD3 := hide d3
          clear d1 d2 d3
          go_wp2_with fail
          go_ret
          exact ⟨_, _, rfl, HD1.out, HD2.out, HD3.out, HR5.out.up (by omega), HG5.out⟩
        · subst h3
          go_wp2_with fail
          refine (pick_any _ R _ 3 HR5.out (by have := HP.out; omega)).mono ?_
          rintro e w6 ⟨z, rfl, _, _, hr6, hg6⟩
          have HW6 := hide (HW5.out.gr hg6 HlR.out)
          have HR6 := hide hr6
          have HG6 := hide (gr_trans HG5.out hg6)
          clear hr6 hg6 HW5 HR5 HG5
          obtain ⟨go, cg, hge, hgS⟩ := HW6.out.own.form (by rw [HW6.out.len]; omega)
          injection hge with hge1 hge2 hge3
          clear hge2 hge3 hgS
          subst hge1
          have hp0 : 0 < ps2.length := by rw [HW6.out.len]; omega
          have hp1 : 1 < ps2.length := by rw [HW6.out.len]; omega
          by_cases hz0 : z = 0
          · have hz' : (z == 0) = true := by simp [hz0]
            have hc1 : (1 : Int) ≤ (c1 : Int) := by omega
            have hc2 : ¬ (c1 : Int) = 1 := by omega
            have hc3 : ((c1 : Int) == 1) = false := by rw [beq_eq_false_iff_ne]; omega
            obtain ⟨d1, d2, d3⟩ := HW6.out.done (by omega)
            obtain ⟨A', c', hv', hle', hcm', hr'⟩ := d3
            injection hv' with hv1 hv2 hv3
            subst hv1
            have HD1 := hide d1; have HD2 := hide d2
            have HRw := hide (hr'.cut 1)
            have HLn := hide (show (ps2.map Prod.fst).length = 3 by rw [List.length_map]; exact HW6.out.len)
            have HCm := hide (show c1 ≤ maxLen by rw [hv3]; exact hcm')
            clear d1 d2 hv2 hv3 hle' hcm' hr' hz0
            go_wp2_with fail
            go_ret
            exact ⟨(ps2.map Prod.fst).drop 1, .slice (some ⟨go, 1, none⟩) 2 (c1 - 1), rfl, by rw [List.length_drop]; have := HD1.out; omega, fun o ho => HD2.out o (List.mem_of_mem_drop ho), ⟨some ⟨go, 1, none⟩, c1 - 1, by rw [List.length_drop, HLn.out], by rw [List.length_drop, HLn.out]; omega, by have := HCm.out; omega, HRw.out⟩, HR6.out.up (by omega), HG6.out⟩
          by_cases hz1 : z = 1
          · have hz' : (z == 0) = false := by simp [hz0]
            have hz'' : (z == 1) = true := by simp [hz1]
            clear hz0 hz1
            obtain ⟨r0, r1, r2, r3⟩ := HW6.out.row hp0
            have hs6 := HW6.out.six _ (List.getElem_mem hp0)
            obtain ⟨Ar, cr, hvr⟩ : ∃ A c, ps2[0].2 = .slice A ps2[0].1.length c := by obtain ⟨A, c, h, _⟩ := r2.sl; exact ⟨A, c, h⟩
            obtain ⟨nr, hnr⟩ : ∃ n, n = ps2[0].1.length := ⟨_, rfl⟩
            rw [← hnr] at hvr
            have HOr := hide (show Own tInt 3 w6 (fun b => (ps2[0].2.ownBlock = some b ∨ w6.heap.size ≤ b) ∧ Old w6 b) ps2[0].1 (.slice Ar nr cr) from by rw [← hvr]; exact r2.mono (fun b hb => ⟨.inl hb, (r3 b hb).2.1⟩) (fun _ _ => rfl))
            have HR3 := hide r3
            have HVr := hide hvr
            rw [hvr] at r0
            have HNr := hide hnr
            have hgl : go < w6.heap.size ∧ w.heap.size ≤ go := by
              rcases HW6.out.own with ⟨h, _⟩ | ⟨g', cap', cur', S'', he, hg, _⟩
              · cases h
              · injection he with e1 _ _
                injection e1 with e1
                injection e1 with e1
                rw [e1]; exact ⟨hg.2, hg.1⟩
            have HGl := hide hgl
            have HKg := hide (show ¬ (ps2[0].2.ownBlock = some go ∨ w6.heap.size ≤ go) from fun h => by
              rcases h with h | h
              · exact (HR3.out go h).2.2 rfl
              · have := HGl.out; omega)
            clear r2 r3 hvr hnr hgl
            go_wp2_with (at_builtin; refine wpList_put tInt rfl (.tmp 91) (.tmp 92) 30 rfl 3 i0 _ 8 Tryz.underlying30 hi hz0 hz1 hz2 rfl (by decide) (fun b => ps2[0].2.ownBlock = some b ∨ w6.heap.size ≤ b) (fun _ => False) ps2[0].1 77 [.int .i64 77] _ rfl HOr.out _ rfl rfl (fun _ h => h.elim) (fun b hb => .inr hb) (by simp only [maxLen]; omega) (by omega) ?_; intro v8 w8 hO_ hK_; obtain ⟨A8, c8, hv8⟩ : ∃ A c, v8 = .slice A (nr + 1) c := (by obtain ⟨A, c, h, _⟩ := hO_.sl; rw [List.length_append, ← HNr.out] at h; exact ⟨A, c, h⟩); subst hv8; have q0 : w8.cell? ⟨go, 0, none⟩ = some (.slice Ar nr cr) := (World.cell?_of_block (hK_.block go HGl.out.1 HKg.out)).trans r0; have q1 : w8.frozen? ⟨go, 0, none⟩ = false := (by have h9 := r1; unfold World.frozen? at h9 ⊢; rw [hK_.block go HGl.out.1 HKg.out]; exact h9); have HO8 := hide hO_; have HN8 := hide hK_; clear hO_ hK_)
            go_ret
            have hX := Own.ivPut HW6.out.own HW6.out.dist hp0 HN8.out (fun b hb => hb) HO8.out
            refine ⟨_, _, rfl, ?_, ?_, hX.iv.mono (fun b hb => hb) (fun _ _ => rfl), ((HR6.out.only HN8.out (fun b hb => ?_)).far (p := ⟨go, 0, none⟩) (Nat.lt_of_lt_of_le HlR.out HGl.out.2) _).up (by omega), gr_setCell (gr_only HG6.out HN8.out (fun b hb => ?_)) (p := ⟨go, 0, none⟩) (.inr HGl.out.2) _⟩
            · rw [List.length_map, List.length_set, HW6.out.len]; omega
            · intro o ho
              obtain ⟨p, hp, rfl⟩ := List.mem_map.1 ho
              rcases List.mem_or_eq_of_mem_set hp with h1 | h1
              · have := HW6.out.six p h1; omega
              · rw [h1]; show (ps2[0].1 ++ [77]).length ≤ 12; rw [List.length_append]; simp; omega
            · rcases hb with hb | hb
              · exact Nat.lt_of_lt_of_le HlR.out (HR3.out b hb).1
              · exact Nat.lt_of_lt_of_le HlR.out (Nat.le_trans HG6.out.size hb)
            · rcases hb with hb | hb
              · exact (HR3.out b hb).1
              · exact Nat.le_trans HG6.out.size hb
          · have hz' : (z == 0) = false := by simp [hz0]
            have hz'' : (z == 1) = false := by simp [hz1]
            clear hz0 hz1
            obtain ⟨r0, r1, r2, r3⟩ := HW6.out.row hp1
            have hs6 := HW6.out.six _ (List.getElem_mem hp1)
            obtain ⟨Ar, cr, hvr⟩ : ∃ A c, ps2[1].2 = .slice A ps2[1].1.length c := by obtain ⟨A, c, h, _⟩ := r2.sl; exact ⟨A, c, h⟩
            have HRr := hide (show Row tInt w6 (fun b => ps2[1].2.ownBlock = some b) Ar ps2[1].1 from by
              obtain ⟨A', c', h1, _, _, h2⟩ := r2.sl
              rw [hvr] at h1
              injection h1 with h1 _ _
              subst h1
              exact h2)
            rw [hvr] at r0
            have HR3 := hide r3
            have hgl : go < w6.heap.size ∧ w.heap.size ≤ go := by
              rcases HW6.out.own with ⟨h, _⟩ | ⟨g', cap', cur', S'', he, hg, _⟩
              · cases h
              · injection he with e1 _ _
                injection e1 with e1
                injection e1 with e1
                rw [e1]; exact ⟨hg.2, hg.1⟩
            have HGl := hide hgl
            obtain ⟨row, hrow⟩ : ∃ row, row = ps2[1].1 := ⟨_, rfl⟩
            rw [← hrow] at r0 HRr hs6
            obtain ⟨nr, hnr⟩ : ∃ n, n = row.length := ⟨_, rfl⟩
            rw [← hnr] at r0 hs6
            have HNr := hide hnr
            have HOe := hide (show Own tInt 3 (w6.drew.alloc (.cells #[] 3)) (fun b => w6.heap.size ≤ b ∧ Old (w6.drew.alloc (.cells #[] 3)) b) [] (.slice (some ⟨w6.heap.size, 0, none⟩) 0 0) from Own.empty (T := tInt) (e := 3) w6.drew (fun b => w6.heap.size ≤ b) (Nat.le_refl _))
            have HNe := hide (show Only (fun b => w6.heap.size ≤ b) w6 (w6.drew.alloc (.cells #[] 3)) from (Only.drewN (K := fun b => w6.heap.size ≤ b) ⟨rfl, rfl, rfl, Nat.le_refl _, fun _ _ _ => rfl⟩ 1).trans (Only.of_alloc _ _))
            have HRe := hide (fun (W : World) (hN : Only (fun b => w6.heap.size ≤ b) w6 W) => (HRr.out.mono (w' := W) (S' := fun _ => True) (fun _ _ => trivial) (fun b hb => hN.block b (HR3.out b hb).2.1 (by have := (HR3.out b hb).2.1; omega))).anyInt)
            have HCe := hide (fun (W : World) (hN : Only (fun b => w6.heap.size ≤ b) w6 W) => (show W.cell? ⟨go, 1, none⟩ = some (.slice Ar nr cr) ∧ W.frozen? ⟨go, 1, none⟩ = false from ⟨(World.cell?_of_block (hN.block go HGl.out.1 (by have := HGl.out.1; omega))).trans r0, by have h9 := r1; unfold World.frozen? at h9 ⊢; rw [hN.block go HGl.out.1 (by have := HGl.out.1; omega)]; exact h9⟩))
            have hgl1 : go < w6.heap.size := hgl.1
            clear r2 r3 hvr hnr hgl hrow
            go_wp2_with fail
            go_region_law (first | (refine wp_cat tInt (.tmp 72) (.tmp 75) 30 rfl 3 i0 _ 8 Tryz.underlying30 hi hz0 hz1 hz2 rfl (by decide) (fun b => w6.heap.size ≤ b) (fun _ => False) [] row _ (by simp [Act.eval, Act.put]) HOe.out Ar nr cr (by simp [Act.eval, Act.put]) HNr.out (HRe.out _ HNe.out) (fun _ h => h.elim) (fun b hb => Nat.le_trans HNe.out.size hb) (by rw [← HNr.out]; simp only [maxLen, List.length_nil]; omega) (by rw [← HNr.out]; simp only [List.length_nil]; omega) ?_; intro v3 w3 hO_ hK_; rw [List.nil_append] at hO_; have HN3 := hide (HNe.out.trans hK_); have HO3 := hide hO_; have u0 := (HCe.out _ HN3.out).1; have u1 := (HCe.out _ HN3.out).2; clear hO_ hK_) | (refine wp_cat tInt (.tmp 76) (.tmp 79) 30 rfl 3 i0 _ 8 Tryz.underlying30 hi hz0 hz1 hz2 rfl (by decide) (fun b => w6.heap.size ≤ b) (fun _ => False) row row _ (by simp [Act.eval, Act.put]) HO3.out Ar nr cr (by simp [Act.eval, Act.put]) HNr.out (HRe.out _ HN3.out) (fun _ h => h.elim) (fun b hb => Nat.le_trans HN3.out.size hb) (by rw [← HNr.out]; simp only [maxLen]; omega) (by rw [← HNr.out]; omega) ?_; intro v4 w4 hO_ hK_; have HN4 := hide (HN3.out.trans hK_); have HO4 := hide hO_; have s0 := (HCe.out _ HN4.out).1; have s1 := (HCe.out _ HN4.out).2; obtain ⟨A4, c4, hv4⟩ : ∃ A c, v4 = .slice A (row ++ row).length c := (by obtain ⟨A, c, h, _⟩ := hO_.sl; exact ⟨A, c, h⟩); obtain ⟨n4, hn4⟩ : ∃ n, n = (row ++ row).length := ⟨_, rfl⟩; rw [← hn4] at hv4; subst hv4; clear hO_ hK_ hn4))
            all_goals
              go_wp2_with fail
              go_ret
              have hX := Own.ivPut HW6.out.own HW6.out.dist hp1 HN4.out (fun b hb => .inr hb) HO4.out
              refine ⟨_, _, rfl, ?_, ?_, hX.iv.mono (fun b hb => hb) (fun _ _ => rfl), ((HR6.out.only HN4.out (fun b hb => Nat.lt_of_lt_of_le HlR.out (Nat.le_trans HG6.out.size hb))).far (p := ⟨go, 1, none⟩) (Nat.lt_of_lt_of_le HlR.out HGl.out.2) _).up (by omega), gr_setCell (gr_only HG6.out HN4.out (fun b hb => Nat.le_trans HG6.out.size hb)) (p := ⟨go, 1, none⟩) (.inr HGl.out.2) _⟩
              · rw [List.length_map, List.length_set, HW6.out.len]; omega
              · intro o ho
                obtain ⟨p, hp, rfl⟩ := List.mem_map.1 ho
                rcases List.mem_or_eq_of_mem_set hp with h1 | h1
                · have := HW6.out.six p h1; omega
                · rw [h1]; show (row ++ row).length ≤ 12; rw [List.length_append, ← HNr.out]; omega
end Go.Proofs.YtkcobaimcfggjaaGreatDoor
