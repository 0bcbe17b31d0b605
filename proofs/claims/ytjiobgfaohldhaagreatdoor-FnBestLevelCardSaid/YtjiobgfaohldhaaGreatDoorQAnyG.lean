/- The reference's l9Far: how far it is to a number. The reference's CycleOf. A region that draws its order of evaluation and has guards that are met: one fact for each operation. No order is looked at. -/
import Derived.Test.YtjiobgfaohldhaaGreatDoorQGraph
import Derived.Test.YtjiobgfaohldhaaGreatDoorQToA
import Derived.Test.YtjiobgfaohldhaaGreatDoorQHBox
import Derived.Test.YtjiobgfaohldhaaGreatDoorQAnyOrder
namespace Go.Proofs.YtjiobgfaohldhaaGreatDoor
open Go.RowKit
set_option linter.unusedVariables false
set_option linter.unusedSimpArgs false

theorem edge_nat {many : Nat} {xs : List Edge} (hv : xs.all (edgeOk many) = true) {k : Nat} (hk : k < xs.length) : ∃ f t : Nat, xs[k].From = (f : Int) ∧ xs[k].To = (t : Int) ∧ f < many ∧ t < many := by
  have h := List.all_eq_true.1 hv xs[k] (List.getElem_mem hk)
  unfold edgeOk at h
  simp only [Bool.and_eq_true, inR_iff] at h
  exact ⟨xs[k].From.toNat, xs[k].To.toNat, by omega, by omega, by omega, by omega⟩
theorem farStep_at {s : Nat} {F : List Int} {e : Edge} {f t : Nat} (hf : e.From = (f : Int)) (ht : e.To = (t : Int)) (h1 : f < F.length) (h2 : t < F.length) :
    farStep s F e = if F[t] = (s : Int) ∧ F[f] < 0 then F.set f ((s : Int) + 1) else F := by
  unfold farStep
  rw [hf, ht, Int.toNat_natCast, Int.toNat_natCast, List.getD_eq_getElem?_getD, List.getD_eq_getElem?_getD, List.getElem?_eq_getElem h1, List.getElem?_eq_getElem h2]
  rfl
set_option maxRecDepth 10000 in
set_option maxHeartbeats 2000000 in
theorem specFar (many : Nat) (xs : List Edge) (t : Nat) (A : Option Addr) (c : Nat) (w : World) (hl : xs.length ≤ 144) (hm : many ≤ 6) (ht : t < many) (hv : xs.all (edgeOk many) = true) (hA : Row tEdge w (Old w) A xs) :
    Calls Tryz.prog 101 #[.int .i64 many, .slice A xs.length c, .int .i64 t] w fun e w' => ∃ v, e = .returned v ∧ Own tInt 3 w' (New w w') (farS many xs t) v ∧ Below w.heap.size w w' := by
  obtain ⟨i0, hi, hz0, hz1, hz2⟩ := info_parts infoInt_
  have HA := hide hA
  have HV := hide hv
  clear hA hv
  have HO0 := hide (Own.empty (T := tInt) (e := 3) w (fun b => w.heap.size ≤ b) (Nat.le_refl _))
  go_enter Tryz.func101, Tryz.ntmps101
  go_wp2_with fail
  go_loopw [7, 8] (fun v k wr => ∃ (kk : Nat) (vo : Value), vo = v ∧ kk ≤ many ∧ k = .int .i64 kk ∧ Hid (Own tInt 3 wr (fun b => w.heap.size ≤ b ∧ Old wr b) (List.replicate kk (-1)) v) ∧ Hid (Below w.heap.size w wr)) (fun _ k _ => many - (intOf k).toNat)
  case atStart => exact ⟨0, _, rfl, Nat.zero_le _, rfl, HO0.out, (Below.refl _ w).alloc (Nat.le_refl _) _⟩
  case round =>
    obtain ⟨kk, vo, rfl, hkk, rfl, hO, hB⟩ := hrel
    have HO := hide hO.out
    have HB := hide hB.out
    clear hO hB HO0
    by_cases hlt : kk < many
    · have hki : (kk : Int) < (many : Int) := by omega
      have hln : (List.replicate kk (-1 : Int)).length = kk := List.length_replicate
      have HLn := hide hln
      have HN := hide (show List.replicate (kk + 1) (-1 : Int) = List.replicate kk (-1) ++ [-1] from List.replicate_succ')
      generalize List.replicate kk (-1 : Int) = F at HO HLn HN
      clear hln
      go_wp2_with (at_builtin; refine wpList_put tInt rfl (.tmp 18) (.tmp 19) 27 rfl 3 i0 _ 8 Tryz.underlying27 hi hz0 hz1 hz2 rfl (by decide) (fun b => w.heap.size ≤ b) (fun _ => False) F (-1) [.int .i64 (-1)] _ rfl HO.out _ rfl rfl (fun _ h => h.elim) (fun b hb => Nat.le_trans HB.out.size hb) (by rw [HLn.out]; simp only [maxLen]; omega) (by rw [HLn.out]; omega) ?_; intro v3 w3 hO_ hK_; have HO3 := hide hO_; have HK3 := hide hK_; clear hO_ hK_)
      go_roundw
      case rel => exact ⟨kk + 1, _, rfl, by omega, by go_num, by rw [HN.out]; exact HO3.out, below_only HB.out HK3.out HB.out.size (fun _ h => h)⟩
      case measure => simp [intOf]; omega
    · obtain rfl : kk = many := by omega
      obtain ⟨g, cg, rfl, hg⟩ := HO.out.form (by rw [List.length_replicate]; omega)
      rw [List.length_replicate] at HO ⊢
      have hgl : g < wr.heap.size := hg.2
      have HG := hide hg
      obtain ⟨ct, cf⟩ := HO.out.cellInt (k := t) (by rw [List.length_replicate]; omega)
      have HF0 := hide (HO.out.alone.setInt (k := t) (by rw [List.length_replicate]; omega) 0)
      obtain ⟨F0, hF0⟩ : ∃ F0, F0 = (List.replicate kk (-1 : Int)).set t 0 := ⟨_, rfl⟩
      have HFl := hide (show F0.length = kk by rw [hF0]; simp)
      have HR := hide (show farS kk xs t = farN xs kk F0 by rw [hF0]; rfl)
      rw [← hF0] at HF0
      have hz : (t : Int) < (kk : Int) := by omega
      have HBs := hide (HB.out.setCell (p := ⟨g, t, none⟩) hg.1 (.int .i64 0))
      rw [List.getElem_replicate] at ct
      clear hF0 hg HO
      go_wp2_with fail
      go_loopw [9, 10, 11] (fun st _ _ wq => ∃ s : Nat, s ≤ kk ∧ st = .int .i64 s ∧ g < wq.heap.size ∧ Hid (Own tInt 3 wq (fun b => b = g) (farN xs s F0) (.slice (some ⟨g, 0, none⟩) kk cg)) ∧ Hid (Below w.heap.size w wq)) (fun st _ _ _ => kk - (intOf st).toNat)
      case atStart => exact ⟨0, Nat.zero_le _, rfl, by simpa using hgl, HF0.out, HBs.out⟩
      case round =>
        obtain ⟨s, hs, rfl, hgq, hO, hB⟩ := hrel
        have HO1 := hide hO.out
        have HB1 := hide hB.out
        clear hO hB HF0 HBs ct cf
        by_cases hlt2 : s < kk
        · have hsi : (s : Int) < (kk : Int) := by omega
          have HN := hide (show farN xs (s + 1) F0 = farRow s xs (farN xs s F0) from rfl)
          have HFl2 := hide (show (farN xs s F0).length = kk by rw [farN_len]; exact HFl.out)
          generalize farN xs s F0 = Fs at HN HFl2 HO1
          go_wp2_with fail
          go_loopw [10, 11] (fun kx _ wq => ∃ k : Nat, k ≤ xs.length ∧ kx = .int .i64 k ∧ g < wq.heap.size ∧ Hid (Own tInt 3 wq (fun b => b = g) (farRow s (xs.take k) Fs) (.slice (some ⟨g, 0, none⟩) kk cg)) ∧ Hid (Below w.heap.size w wq)) (fun kx _ _ => xs.length - (intOf kx).toNat)
          case atStart => exact ⟨0, Nat.zero_le _, rfl, hgq, HO1.out, HB1.out⟩
          case round =>
            obtain ⟨k, hk, rfl, hgr, hO, hB⟩ := hrel
            have HO2 := hide hO.out
            have HB2 := hide hB.out
            clear hO hB HO1 HB1
            by_cases hlt3 : k < xs.length
            · have hki : (k : Int) < (xs.length : Int) := by omega
              have HS := hide (farRow_succ s xs Fs k hlt3)
              have HFl3 := hide (show (farRow s (xs.take k) Fs).length = kk by rw [farRow_len]; exact HFl2.out)
              obtain ⟨b, off, hAe, hbS, d0, d1, d2⟩ := at_Edge HA.out HB2.out hlt3
              subst hAe
              obtain ⟨f, tt, hf, htt, hfm, htm⟩ := edge_nat HV.out hlt3
              have HSt := hide (fun (G : List Int) (hG : G.length = kk) => farStep_at (s := s) (F := G) hf htt (by omega) (by omega))
              rw [hf] at d0
              rw [htt] at d1
              generalize xs[k] = ee at HS HSt d2
              generalize ee.Kind = kd at d2
              generalize farRow s (xs.take k) Fs = G at HO2 HS HFl3
              have HSg := hide (HSt.out G HFl3.out)
              clear hf htt HSt
              have hfk : (f : Int) < (kk : Int) := by omega
              have htk : (tt : Int) < (kk : Int) := by omega
              go_upto_region 14 with (fail)
              have HOw := hide (HO2.out.mono (w' := wr.alloc (.cells #[.int .i64 f, .int .i64 tt, .int .i64 kd] 95)) (fun _ h => h) (fun b hb => by rw [hb]; exact Below.heap_alloc _ _ _ hgr))
              have HBw := hide (HB2.out.alloc HB2.out.size (.cells #[.int .i64 f, .int .i64 tt, .int .i64 kd] 95))
              have hBk := Blk.new wr 95 #[.int .i64 f, .int .i64 tt, .int .i64 kd]
              have hgW : g < (wr.alloc (.cells #[.int .i64 f, .int .i64 tt, .int .i64 kd] 95)).heap.size := by simp; omega
              generalize hW : wr.alloc (.cells #[.int .i64 f, .int .i64 tt, .int .i64 kd] 95) = W at HOw HBw hBk hgW ⊢
              have e0 := hBk.cell 0
              have e1 := hBk.cell 1
              simp only [List.getElem?_toArray, List.getElem?_cons_zero, List.getElem?_cons_succ] at e0 e1
              obtain ⟨p0, p1⟩ := HOw.out.cellInt (k := f) (by rw [HFl3.out]; exact hfm)
              obtain ⟨p2, p3⟩ := HOw.out.cellInt (k := tt) (by rw [HFl3.out]; exact htm)
              have HSe := hide (HOw.out.setInt (k := f) (by rw [HFl3.out]; exact hfm) ((s : Int) + 1))
              have HBt := hide (HBw.out.setCell (p := ⟨g, f, none⟩) HG.out.1 (.int .i64 ((s : Int) + 1)))
              have hfg : f < G.length := by rw [HFl3.out]; exact hfm
              have htg : tt < G.length := by rw [HFl3.out]; exact htm
              generalize G[f] = y at p0 HSg
              generalize G[tt] = z at p2 HSg
              clear hW hBk d0 d1 d2 hgr p3
              by_cases q1 : z = (s : Int)
              · subst q1
                by_cases q2 : y < 0
                · have HSh := hide (HSg.out.trans (if_pos ⟨rfl, q2⟩))
                  go_wp2_with fail
                  go_roundw
                  case rel => exact ⟨k + 1, by omega, by go_num, by simpa using hgW, by rw [HS.out, HSh.out]; exact HSe.out, HBt.out⟩
                  case measure => simp [intOf]; omega
                · have HSh := hide (HSg.out.trans (if_neg (fun h => q2 h.2)))
                  go_wp2_with fail
                  go_roundw
                  case rel => exact ⟨k + 1, by omega, by go_num, by simpa using hgW, by rw [HS.out, HSh.out]; exact HOw.out, HBw.out⟩
                  case measure => simp [intOf]; omega
              · have HSh := hide (HSg.out.trans (if_neg (fun h => q1 h.1)))
                have q3 : (z == (s : Int)) = false := by simpa using q1
                go_wp2_with fail
                go_roundw
                case rel => exact ⟨k + 1, by omega, by go_num, by simpa using hgW, by rw [HS.out, HSh.out]; exact HOw.out, HBw.out⟩
                case measure => simp [intOf]; omega
            · obtain rfl : k = xs.length := by omega
              have HOe := hide (show Own tInt 3 wr (fun b => b = g) (farN xs (s + 1) F0) _ from by rw [HN.out]; have := HO2.out; rwa [List.take_length] at this)
              clear HO2
              go_wp2_with fail
              go_roundw
              case rel => exact ⟨s + 1, by omega, by go_num, hgr, HOe.out, HB2.out⟩
              case measure => simp [intOf]; omega
        · obtain rfl : s = kk := by omega
          go_wp2_with fail
          go_ret
          exact ⟨_, rfl, by rw [HR.out]; exact HO1.out.mono (fun b hb => by rw [hb]; exact ⟨HG.out.1, hgq⟩) (fun _ _ => rfl), HB1.out⟩
/-- The cells of a row of numbers that stays where it is. -/
def Fix (g : Nat) (F : List Int) (w : World) : Prop := g < w.heap.size ∧ ∀ (t : Nat) (h : t < F.length), w.cell? ⟨g, t, none⟩ = some (.int .i64 F[t])
theorem Fix.block {g : Nat} {F : List Int} {w w' : World} (h : Fix g F w) (hs : w.heap.size ≤ w'.heap.size) (hb : w'.heap[g]? = w.heap[g]?) : Fix g F w' :=
  ⟨Nat.lt_of_lt_of_le h.1 hs, fun t ht => (World.cell?_of_block hb).trans (h.2 t ht)⟩
theorem Fix.below {g : Nat} {F : List Int} {w w' : World} (h : Fix g F w) (hb : Below w.heap.size w w') : Fix g F w' := h.block hb.size (hb.block g h.1)
theorem getD_atI {F : List Int} {t : Nat} (h : t < F.length) : F.getD t 0 = F[t] := by rw [List.getD_eq_getElem?_getD, List.getElem?_eq_getElem h]; rfl
set_option maxRecDepth 10000 in
set_option maxHeartbeats 4000000 in
theorem specCycT (n : Nat) (xs : List Edge) (A : Option Addr) (c : Nat) (w : World) (hl : xs.length ≤ 144) (hn : n ≤ 6) (hv : edgesV n xs = true) (hA : Row tEdge w (Old w) A xs) :
    Calls Tryz.prog 47 #[.int .i64 n, .slice A xs.length c] w fun e w' => ∃ v, e = .returned v ∧ Own tInt 3 w' (New w w') (cycFrom xs n n 0) v ∧ Below w.heap.size w w' := by
  obtain ⟨i0, hi, hz0, hz1, hz2⟩ := info_parts infoInt_
  have hva : xs.all (edgeOk n) = true := by unfold edgesV at hv; simp only [Bool.and_eq_true] at hv; exact hv.2
  have HV := hide hv
  have HVa := hide hva
  have HA := hide hA
  clear hA hv hva
  have HO0 := hide (Own.empty (T := tInt) (e := 3) w (fun b => w.heap.size ≤ b) (Nat.le_refl _))
  go_enter Tryz.func47, Tryz.ntmps47
  go_wp2_with fail
  go_loopw [5, 6, 7, 8, 9, 10, 11, 12, 13] (fun o s _ _ _ _ _ _ _ wr => ∃ sN : Nat, sN ≤ n ∧ s = .int .i64 sN ∧ o = .slice (some ⟨w.heap.size, 0, none⟩) 0 0 ∧ Hid (cycFrom xs n n 0 = cycFrom xs n (n - sN) sN) ∧ Hid (Own tInt 3 wr (fun b => b = w.heap.size) [] o) ∧ Hid (Below w.heap.size w wr) ∧ w.heap.size < wr.heap.size) (fun _ s _ _ _ _ _ _ _ _ => n - (intOf s).toNat)
  case atStart => exact ⟨0, Nat.zero_le _, rfl, rfl, rfl, HO0.out.alone, (Below.refl _ w).alloc (Nat.le_refl _) _, by simp⟩
  case round =>
    obtain ⟨sN, hs, rfl, rfl, hE, hO, hB, hgt⟩ := hrel
    have HE := hide hE.out
    have HO := hide hO.out
    have HB := hide hB.out
    clear hE hO hB HO0
    by_cases hlt : sN < n
    · have hsi : (sN : Int) < (n : Int) := by omega
      go_upto_region 5 with (go_at_call 87; refine (specEdgesValid n xs A c _ (by simp only [maxLen]; omega) (HA.out.old HB.out)).mono ?_; rintro e w2 ⟨rfl, hb2⟩; have HB2 := hide (HB.out.trans (hb2.mono HB.out.size)); have HO2 := hide (HO.out.mono (w' := w2) (fun _ h => h) (fun b hb => hb2.block b (by rw [hb]; exact hgt))); have hgt2 := Nat.lt_of_lt_of_le hgt hb2.size; rw [HV.out]; clear hb2)
      go_upto_region 6 with (go_at_call 101; refine (specFar n xs sN _ _ _ hl hn hlt HVa.out (HA.out.old HB2.out)).mono ?_; rintro e w3 ⟨v3, rfl, hO3, hb3⟩; have HB3 := hide (HB2.out.trans (hb3.mono HB2.out.size)); have HO3 := hide (HO2.out.mono (w' := w3) (fun _ h => h) (fun b hb => hb3.block b (by rw [hb]; exact hgt2))); have hgt3 := Nat.lt_of_lt_of_le hgt2 hb3.size; have HW3 := hide hO3; clear hb3 hO3)
      have hFl := farS_len n xs sN
      have hFb := farS_bd n xs sN
      obtain ⟨g, cg, rfl, hg⟩ := HW3.out.form (by omega)
      rw [hFl]
      have HFx := hide (show Fix g (farS n xs sN) w3 from ⟨hg.2, fun t ht => (HW3.out.cellInt ht).1⟩)
      have hgg : w.heap.size < g := Nat.lt_of_lt_of_le hgt2 hg.1
      have HCy := hide (show cycFrom xs n (n - sN) sN = if bestS xs (farS n xs sN) (sN : Int) < 0 then cycFrom xs n (n - (sN + 1)) (sN + 1) else (sN : Int) :: wayS xs (farS n xs sN) (n : Int) (bestS xs (farS n xs sN) (sN : Int)).toNat (sN : Int) by
        obtain ⟨m, hm⟩ : ∃ m, n - sN = m + 1 := ⟨n - sN - 1, by omega⟩
        rw [hm, cycFrom, show n - (sN + 1) = m by omega])
      have HBd := hide (bestS_bd (s := (sN : Int)) hFb (by omega) xs)
      have HFl := hide hFl
      clear HW3 hFl hFb hg HO2 HO HB HB2 hgt hgt2
      generalize farS n xs sN = F at HFx HCy HBd HFl
      go_wp2_with fail
      go_loopw [8, 9] (fun b kx wq => ∃ k : Nat, k ≤ xs.length ∧ kx = .int .i64 k ∧ b = .int .i64 (bestS (xs.take k) F (sN : Int)) ∧ Hid (Below w3.heap.size w3 wq)) (fun _ kx _ => xs.length - (intOf kx).toNat)
      case atStart => exact ⟨0, Nat.zero_le _, rfl, rfl, Below.refl _ _⟩
      case round =>
        obtain ⟨k, hk, rfl, rfl, hB⟩ := hrel
        have HBq := hide hB.out
        clear hB
        by_cases hlt2 : k < xs.length
        · have hki : (k : Int) < (xs.length : Int) := by omega
          obtain ⟨b, off, hAe, hbS, d0, d1, d2⟩ := at_Edge HA.out (HB3.out.trans (HBq.out.mono HB3.out.size)) hlt2
          subst hAe
          obtain ⟨f, tt, hf, htt, hfm, htm⟩ := edge_nat HVa.out hlt2
          have HS := hide (bestS_succ xs F (sN : Int) k hlt2)
          have htF : tt < F.length := by rw [HFl.out]; exact htm
          have hct := (HFx.out.below HBq.out).2 tt htF
          have hst : ∀ bb : Int, bestStep F (sN : Int) bb xs[k] = if (f : Int) = (sN : Int) ∧ 0 ≤ F[tt] ∧ (bb < 0 ∨ F[tt] < bb) then F[tt] else bb := fun bb => by unfold bestStep; rw [hf, htt, Int.toNat_natCast, getD_atI htF]
          have HSt := hide (hst (bestS (xs.take k) F (sN : Int)))
          rw [hf] at d0
          rw [htt] at d1
          clear hf htt d2 hst
          generalize bestS (xs.take k) F (sN : Int) = bb at HS HSt ⊢
          generalize xs[k] = ee at HS HSt
          generalize F[tt] = y at hct HSt
          have htk : (tt : Int) < (n : Int) := by omega
          have HNo := hide (fun (h : ¬ ((f : Int) = (sN : Int) ∧ 0 ≤ y ∧ (bb < 0 ∨ y < bb))) => HS.out.trans (HSt.out.trans (if_neg h)))
          have HYes := hide (fun (h : (f : Int) = (sN : Int) ∧ 0 ≤ y ∧ (bb < 0 ∨ y < bb)) => HS.out.trans (HSt.out.trans (if_pos h)))
          by_cases q1 : f = sN
          · subst q1
            by_cases q2 : 0 ≤ y
            · by_cases q3 : bb < 0
              · have HQ := hide (HYes.out ⟨rfl, q2, .inl q3⟩)
                go_wp2_with fail
                go_roundw
                case rel => exact ⟨k + 1, by omega, by go_num, by rw [HQ.out], HBq.out⟩
                case measure => simp [intOf]; omega
              · by_cases q4 : y < bb
                · have HQ := hide (HYes.out ⟨rfl, q2, .inr q4⟩)
                  go_wp2_with fail
                  go_roundw
                  case rel => exact ⟨k + 1, by omega, by go_num, by rw [HQ.out], HBq.out⟩
                  case measure => simp [intOf]; omega
                · have HQ := hide (HNo.out (fun h => h.2.2.elim q3 q4))
                  go_wp2_with fail
                  go_roundw
                  case rel => exact ⟨k + 1, by omega, by go_num, by rw [HQ.out], HBq.out⟩
                  case measure => simp [intOf]; omega
            · have HQ := hide (HNo.out (fun h => q2 h.2.1))
              have q5 : ¬ (y ≥ 0) := q2
              go_wp2_with fail
              go_roundw
              case rel => exact ⟨k + 1, by omega, by go_num, by rw [HQ.out], HBq.out⟩
              case measure => simp [intOf]; omega
          · have HQ := hide (HNo.out (fun h => q1 (by have := h.1; omega)))
            have q6 : ((f : Int) == (sN : Int)) = false := by rw [beq_eq_false_iff_ne]; omega
            go_wp2_with fail
            go_roundw
            case rel => exact ⟨k + 1, by omega, by go_num, by rw [HQ.out], HBq.out⟩
            case measure => simp [intOf]; omega
        · obtain rfl : k = xs.length := by omega
          rw [List.take_length]
          have HBe := hide (HB3.out.trans (HBq.out.mono HB3.out.size))
          have HFe := hide (HFx.out.below HBq.out)
          have HOe := hide (HO3.out.mono (w' := wr) (fun _ h => h) (fun b hb => HBq.out.block b (by rw [hb]; exact hgt3)))
          have hgte := Nat.lt_of_lt_of_le hgt3 HBq.out.size
          clear HFx HO3 HBq HB3 hgt3
          obtain ⟨be, hbe⟩ : ∃ be, be = bestS xs F (sN : Int) := ⟨_, rfl⟩
          rw [← hbe] at HCy HBd ⊢
          clear hbe
          by_cases q1 : be < 0
          · have HE2 := hide (HE.out.trans (HCy.out.trans (if_pos q1)))
            go_wp2_with fail
            go_roundw
            case rel => exact ⟨sN + 1, by omega, by go_num, rfl, HE2.out, HOe.out, HBe.out, hgte⟩
            case measure => simp [intOf]; omega
          · obtain ⟨bl, rfl⟩ : ∃ bl : Nat, be = (bl : Int) := ⟨be.toNat, by omega⟩
            have HE2 := hide (HE.out.trans (HCy.out.trans (if_neg q1)))
            rw [Int.toNat_natCast] at HE2
            have hb6 : bl ≤ 6 := by have := HBd.out.2; omega
            have HK0 := hide (show Own tInt 3 wr (fun b => (w.heap.size ≤ b ∧ b ≠ g) ∧ Old wr b) [] (.slice (some ⟨w.heap.size, 0, none⟩) 0 0) from HOe.out.mono (fun b hb => by rw [hb]; exact ⟨⟨Nat.le_refl _, by omega⟩, hgte⟩) (fun _ _ => rfl))
            have hgr : g < wr.heap.size := HFe.out.1
            go_wp2_with (at_builtin; refine wpList_put tInt rfl (.tmp 79) (.tmp 81) 27 rfl 3 i0 _ 8 Tryz.underlying27 hi hz0 hz1 hz2 rfl (by decide) (fun b => w.heap.size ≤ b ∧ b ≠ g) (fun _ => False) [] (sN : Int) [.int .i64 (sN : Int)] _ rfl HK0.out _ rfl rfl (fun _ h => h.elim) (fun b hb => by have := HBe.out.size; exact ⟨by omega, by omega⟩) (by simp [maxLen]) (by simp) ?_; intro v5 w5 hO_ hK_; have HO5 := hide hO_; have HB5 := hide (below_only HBe.out hK_ HBe.out.size (fun _ h => h.1)); have HF5 := hide (HFe.out.block hK_.size (hK_.block g hgr (fun h => h.2 rfl))); clear hO_ hK_)
            clear HOe HK0 HFe HBe hgr hgte
            go_loopw [5, 10, 11, 12, 13] (fun o a l _ _ wq => ∃ (ll : Nat) (ai : Int) (pre : List Int) (vo : Value), vo = o ∧ a = .int .i64 ai ∧ l = .int .i64 ll ∧ Hid (pre.length + ll ≤ 7) ∧ Hid (pre ++ wayS xs F (n : Int) ll ai = (sN : Int) :: wayS xs F (n : Int) bl (sN : Int)) ∧ Hid (Own tInt 3 wq (fun b => (w.heap.size ≤ b ∧ b ≠ g) ∧ Old wq b) pre o) ∧ Hid (Fix g F wq) ∧ Hid (Below w.heap.size w wq)) (fun _ _ l _ _ _ => (intOf l).toNat)
            case atStart => exact ⟨bl, _, [(sN : Int)], _, rfl, rfl, rfl, by simp [Hid]; omega, rfl, HO5.out, HF5.out, HB5.out⟩
            case round =>
              obtain ⟨ll, ai, pre, vo, rfl, rfl, rfl, hpl, hpw, hO, hF, hB⟩ := hrel
              have HPl := hide hpl.out; have HPw := hide hpw.out; have HO6 := hide hO.out; have HF6 := hide hF.out; have HB6 := hide hB.out
              clear hpl hpw hO hF hB HO5 HF5 HB5
              by_cases hgo : 0 < (ll : Int)
              · go_wp2_with fail
                go_loopw [12, 13] (fun nx kx wq => ∃ k : Nat, k ≤ xs.length ∧ kx = .int .i64 k ∧ nx = .int .i64 (nextS (xs.take k) F ai (ll : Int) (n : Int)) ∧ Hid (Below wr.heap.size wr wq)) (fun _ kx _ => xs.length - (intOf kx).toNat)
                case atStart => exact ⟨0, Nat.zero_le _, rfl, rfl, Below.refl _ _⟩
                case round =>
                  obtain ⟨k, hk, rfl, rfl, hB⟩ := hrel
                  have HBs := hide hB.out
                  clear hB
                  by_cases hlt2 : k < xs.length
                  · have hki : (k : Int) < (xs.length : Int) := by omega
                    obtain ⟨b, off, hAe, hbS, d0, d1, d2⟩ := at_Edge HA.out (HB6.out.trans (HBs.out.mono HB6.out.size)) hlt2
                    subst hAe
                    obtain ⟨f, tt, hf, htt, hfm, htm⟩ := edge_nat HVa.out hlt2
                    have HS := hide (nextS_succ xs F ai (ll : Int) (n : Int) k hlt2)
                    have htF : tt < F.length := by rw [HFl.out]; exact htm
                    have hct := (HF6.out.below HBs.out).2 tt htF
                    have hst : ∀ bb : Int, nextStep F ai (ll : Int) bb xs[k] = if (f : Int) = ai ∧ F[tt] = (ll : Int) then min bb (tt : Int) else bb := fun bb => by unfold nextStep; rw [hf, htt, Int.toNat_natCast, getD_atI htF]
                    have HSt := hide (hst (nextS (xs.take k) F ai (ll : Int) (n : Int)))
                    rw [hf] at d0
                    rw [htt] at d1
                    clear hf htt d2 hst
                    generalize nextS (xs.take k) F ai (ll : Int) (n : Int) = bb at HS HSt ⊢
                    generalize xs[k] = ee at HS HSt
                    generalize F[tt] = y at hct HSt
                    have htk : (tt : Int) < (n : Int) := by omega
                    by_cases q1 : (f : Int) = ai
                    · subst q1
                      by_cases q2 : y = (ll : Int)
                      · subst q2
                        have HQ := hide (HS.out.trans (HSt.out.trans (if_pos ⟨rfl, rfl⟩)))
                        go_wp2_with fail
                        go_roundw
                        case rel => exact ⟨k + 1, by omega, by go_num, by rw [HQ.out, show min bb (tt : Int) = if (tt : Int) < bb then (tt : Int) else bb by split <;> omega], HBs.out⟩
                        case measure => simp [intOf]; omega
                      · have HQ := hide (HS.out.trans (HSt.out.trans (if_neg (fun h => q2 h.2))))
                        have q5 : (y == (ll : Int)) = false := by rw [beq_eq_false_iff_ne]; exact q2
                        go_wp2_with fail
                        go_roundw
                        case rel => exact ⟨k + 1, by omega, by go_num, by rw [HQ.out], HBs.out⟩
                        case measure => simp [intOf]; omega
                    · have HQ := hide (HS.out.trans (HSt.out.trans (if_neg (fun h => q1 h.1))))
                      have q6 : ((f : Int) == ai) = false := by rw [beq_eq_false_iff_ne]; exact q1
                      go_wp2_with fail
                      go_roundw
                      case rel => exact ⟨k + 1, by omega, by go_num, by rw [HQ.out], HBs.out⟩
                      case measure => simp [intOf]; omega
                  · obtain rfl : k = xs.length := by omega
                    rw [List.take_length]
                    obtain ⟨lm, rfl⟩ : ∃ lm, ll = lm + 1 := ⟨ll - 1, by omega⟩
                    have HW := hide (show wayS xs F (n : Int) (lm + 1) ai = nextS xs F ai ((lm : Int) + 1) (n : Int) :: wayS xs F (n : Int) lm (nextS xs F ai ((lm : Int) + 1) (n : Int)) from rfl)
                    rw [show ((lm + 1 : Nat) : Int) = (lm : Int) + 1 from by omega]
                    generalize nextS xs F ai ((lm : Int) + 1) (n : Int) = nx at HW ⊢
                    have HB7 := hide (HB6.out.trans (HBs.out.mono HB6.out.size))
                    have HF7 := hide (HF6.out.below HBs.out)
                    have HO7 := hide (HO6.out.onlyBelow HBs.out)
                    have hgr : g < wr.heap.size := HF7.out.1
                    have hpl := HPl.out
                    clear HF6 HO6 HB6 HBs
                    go_wp2_with (at_builtin; refine wpList_put tInt rfl (.tmp 122) (.tmp 124) 27 rfl 3 i0 _ 8 Tryz.underlying27 hi hz0 hz1 hz2 rfl (by decide) (fun b => w.heap.size ≤ b ∧ b ≠ g) (fun _ => False) pre nx [.int .i64 nx] _ rfl HO7.out _ rfl rfl (fun _ h => h.elim) (fun b hb => by have := HB7.out.size; exact ⟨by omega, by omega⟩) (by simp only [maxLen]; omega) (by omega) ?_; intro v5 w5 hO_ hK_; have HO8 := hide hO_; have HB8 := hide (below_only HB7.out hK_ HB7.out.size (fun _ h => h.1)); have HF8 := hide (HF7.out.block hK_.size (hK_.block g hgr (fun h => h.2 rfl))); clear hO_ hK_)
                    go_roundw
                    case rel => exact ⟨lm, nx, pre ++ [nx], _, rfl, rfl, by go_num, by simp [Hid]; omega, by have := HPw.out; rw [HW.out] at this; rw [List.append_assoc]; exact this, HO8.out, HF8.out, HB8.out⟩
                    case measure => simp [intOf]
              · obtain rfl : ll = 0 := by omega
                have HPe := hide (show pre = (sN : Int) :: wayS xs F (n : Int) bl (sN : Int) by have := HPw.out; rwa [wayS, List.append_nil] at this)
                go_wp2_with fail
                go_ret
                exact ⟨_, rfl, by rw [HE2.out, ← HPe.out]; exact HO6.out.mono (fun b hb => ⟨hb.1.1, hb.2⟩) (fun _ _ => rfl), HB6.out⟩
    · obtain rfl : sN = n := by omega
      have HE2 := hide (show cycFrom xs sN sN 0 = [] from by have := HE.out; rwa [Nat.sub_self] at this)
      go_wp2_with fail
      go_ret
      exact ⟨_, rfl, by rw [HE2.out]; exact HO.out.mono (fun b hb => by rw [hb]; exact ⟨Nat.le_refl _, hgt⟩) (fun _ _ => rfl), HB.out⟩
set_option maxRecDepth 10000 in
set_option maxHeartbeats 1000000 in
/-- CycleOf of the reference answers the list. -/
theorem specCycleOf (many : Int) (xs : List Edge) (A : Option Addr) (c : Nat) (w : World) (hl : xs.length ≤ maxLen) (hA : Row tEdge w (Old w) A xs) :
    Calls Tryz.prog 47 #[.int .i64 many, .slice A xs.length c] w fun e w' => ∃ v, e = .returned v ∧ Own tInt 3 w' (New w w') (cycO many xs) v ∧ Below w.heap.size w w' := by
  cases hv : edgesV many xs with
  | true =>
    have h := hv
    unfold edgesV at h
    simp only [Bool.and_eq_true, inR_iff, decide_eq_true_eq] at h
    obtain ⟨n, rfl⟩ : ∃ n : Nat, many = (n : Int) := ⟨many.toNat, by omega⟩
    have := specCycT n xs A c w (by omega) (by omega) hv hA
    rw [show cycO n xs = cycFrom xs n n 0 by unfold cycO; rw [if_pos hv, Int.toNat_natCast]]
    exact this
  | false =>
    have HR := hide (show cycO many xs = [] by unfold cycO; rw [hv]; rfl)
    have HV := hide hv
    have HA := hide hA
    have HM := hide hl
    clear hA hv hl
    have HO0 := hide (Own.empty (T := tInt) (e := 3) w (fun b => w.heap.size ≤ b) (Nat.le_refl _))
    have HB0 := hide ((Below.refl _ w).alloc (Nat.le_refl _) (.cells #[] 3))
    rw [HR.out]
    clear HR
    go_enter Tryz.func47, Tryz.ntmps47
    go_wp2_with fail
    go_loopw [5, 6, 7, 8, 9, 10, 11, 12, 13] (fun o s _ _ _ _ _ _ _ wr => s = .int .i64 0 ∧ o = .slice (some ⟨w.heap.size, 0, none⟩) 0 0 ∧ wr = w.alloc (.cells #[] 3)) (fun _ _ _ _ _ _ _ _ _ _ => 0)
    case atStart => exact ⟨rfl, rfl, rfl⟩
    case round =>
      obtain ⟨rfl, rfl, rfl⟩ := hrel
      by_cases hgo : 0 < many
      · go_wp2_with (go_at_call 87; refine (specEdgesValid many xs A c _ HM.out (HA.out.old HB0.out)).mono ?_; rintro e w2 ⟨rfl, hb2⟩; have HB2 := hide (HB0.out.trans (hb2.mono HB0.out.size)); have HO2 := hide (HO0.out.onlyBelow hb2); rw [HV.out]; clear hb2)
        go_ret
        exact ⟨_, rfl, HO2.out, HB2.out⟩
      · go_wp2_with fail
        go_ret
        exact ⟨_, rfl, HO0.out, HB0.out⟩
end Go.Proofs.YtjiobgfaohldhaaGreatDoor
namespace Go.Proofs.YtjiobgfaohldhaaGreatDoor
open Go

def guardOf (ops : Array Oper) (i : Nat) : Option (Nat × Bool) := (ops[i]?).bind (·.guard)
/-- As wellB; an operation's guard waits among what it waits for. -/
def wellG (ops : Array Oper) (n size : Nat) : Bool := (List.range n).all (fun i =>
  (depsOf ops i).all (fun j => decide (j < i)) && ((guardOf ops i).map fun p => (depsOf ops i).contains p.1 && (dstOf ops p.1).isSome).getD true && ((dstOf ops i).map fun d => decide (d < size)).getD true &&
    (List.range n).all fun j => i == j || dstOf ops i == none || dstOf ops i != dstOf ops j)
theorem yielded_of {ops : Array Oper} {a : Act} {g d : Nat} {b : Bool} (hd : dstOf ops g = some d) (hv : a.tmps.getD d undef = .bool b) : yielded ops a.tmps g = some b := by
  unfold dstOf at hd
  unfold yielded
  rw [hd]
  show (match a.tmps[d]? with | some (.bool b) => some b | _ => none) = some b
  rw [Array.getD_eq_getD_getElem?] at hv
  cases hx : a.tmps[d]? with
  | none => rw [hx] at hv; cases hv
  | some v =>
    rw [hx] at hv
    have : v = .bool b := hv
    rw [this]
section
variable {P : Program} {ops : Array Oper} {Q : Exit → Act → World → Prop}
theorem well_atG {ops : Array Oper} {n m i : Nat} (h : wellG ops n m = true) (hi : i < n) : (∀ j ∈ depsOf ops i, j < i) ∧ (∀ p, guardOf ops i = some p → p.1 ∈ depsOf ops i ∧ (dstOf ops p.1).isSome = true) ∧ (∀ d, dstOf ops i = some d → d < m) ∧ ∀ j, j < n → i ≠ j → ∀ d, dstOf ops i = some d → dstOf ops j ≠ some d := by
  unfold wellG at h
  rw [List.all_eq_true] at h
  have h1 := h i (List.mem_range.2 hi)
  simp only [Bool.and_eq_true, List.all_eq_true, decide_eq_true_eq, Bool.or_eq_true, beq_iff_eq, bne_iff_ne, List.mem_range] at h1
  obtain ⟨⟨⟨h2, h3⟩, h4⟩, h5⟩ := h1
  refine ⟨h2, fun p hp => ?_, fun d hd => ?_, fun j hj hij d hd e => ?_⟩
  · rw [hp] at h3
    simpa [List.contains_iff_mem] using h3
  · rw [hd] at h4
    simpa using h4
  · rcases h5 j hj with (h6 | h6) | h6
    · exact hij h6
    · rw [hd] at h6; cases h6
    · exact h6 (hd.trans e.symm)
theorem anyOrderG (n : Nat) (J : (Nat → Bool) → World → Prop) (F : Nat → Value → World → Prop) (Ev : Nat → World → World → Prop) (a0 : Act) (hw : wellG ops n a0.tmps.size = true) (ht : tailB ops n = true) (hG : ∀ i p, i < n → guardOf ops i = some p → ∀ v w, F p.1 v w → v = .bool p.2)
    (hEv : ∀ i k v w w', i < n → k < n → needB ops n i k = false → F i v w → Ev k w w' → F i v w')
    (hstep : ∀ i o, i < n → ops[i]? = some o → ∀ (a : Act) (w : World) (L : Nat → Bool), L i = false → J L w → (∀ t, calmB ops n i t = true → a.tmps.getD t undef = a0.tmps.getD t undef) →
      (∀ j, j ∈ depsOf ops i → F j (valAt ops a j) w) → ∀ K : Act → World → Prop, (∀ v w', F i (if o.dst = none then undef else v) w' → J (fun j => if j = i then true else L j) w' → Ev i w w' → K (a.put o.dst v) w') → o.wp P a w K Q)
    (hend : ∀ (vs : Nat → Value) (w' : World) (L : Nat → Bool), (∀ i, i < n → L i = true) → J L w' → (∀ i, i < n → F i (vs i) w') → wpList P ops Q (ops.toList.drop n) (putAll ops vs a0 (List.range n)) w') :
    ∀ (fuel : Nat) (L : Array Bool) (a : Act) (w : World), openN ops.size L = fuel → Inv (ops := ops) n J F a0 L a w → wpAny P .any ops Q fuel L a w := by
  unfold tailB at ht
  simp only [Bool.and_eq_true, decide_eq_true_eq] at ht
  obtain ⟨⟨⟨⟨hsink, hchain⟩, hseq⟩, hopen⟩, hns⟩ := ht
  have hlt : ∀ {L : Array Bool} {i : Nat}, HeadInv .any ops n L → L.getD i false = true → i < n := fun {L i} hH h => by
    rcases Nat.lt_or_ge i n with h' | h'
    · exact h'
    · rcases Nat.lt_or_ge i ops.size with h2 | h2
      · have := hH.tail i h' h2
        rw [getD_both this] at h; cases h
      · simp [Array.getElem?_eq_none (show L.size ≤ i by rw [hH.size]; exact h2)] at h
  have hdone : ∀ (L : Array Bool) (a : Act) (w : World), Inv (ops := ops) n J F a0 L a w → (∀ i, i < n → L.getD i false = true) → ∀ fuel, openN ops.size L = fuel → wpAny P .any ops Q fuel L a w := fun L a w hI hall fuel hfu => by
    have h := hend (valAt ops a) w _ hall hI.j (fun i hi => hI.fact i (hall i hi))
    have ha : a = putAll ops (valAt ops a) a0 (List.range n) := by
      have hs := size_putAll ops (valAt ops a) (List.range n) a0
      refine act_ext (hI.size.trans hs.1.symm) (hI.defers.trans hs.2.symm) fun t ht => ?_
      refine (getD_putAll ops _ t _ _ a0 (fun i _ hd => ?_) ?_ (by rw [← hI.size]; exact ht)).symm
      · unfold valAt; rw [hd]
      · by_cases hex : ∃ i ∈ List.range n, dstOf ops i = some t
        · exact .inr hex
        · exact .inl (hI.same t fun i hi hd => hex ⟨i, List.mem_range.2 (hlt hI.head hi), hd⟩).symm
    rw [← ha] at h
    have hL : L = headL n ops.size := by
      refine Array.ext (by rw [hI.head.size]; simp [headL]) fun i h1 h2 => ?_
      have h3 : i < ops.size := by rw [← hI.head.size]; exact h1
      simp only [headL, List.getElem_toArray, List.getElem_map, List.getElem_range]
      by_cases hi : i < n
      · have := hall i hi
        simp [h1] at this
        rw [this]; simp [hi]
      · have := hI.head.tail i (by omega) h3
        simp [h1] at this
        rw [this]; simp [hi]
    subst hL
    rw [hopen] at hfu
    have hlen : (ops.toList.drop n).length = ops.size - n := by simp
    have := wpAny_of_seq (md := .any) (Q' := Q) (ops.toList.drop n) n (headL n ops.size) a w (fun j => by simp [List.getElem?_drop]) (by rw [hlen]; exact hseq) h
    rw [hlen] at this
    rw [← hfu]
    exact this
  intro fuel
  induction fuel with
  | zero =>
    intro L a w ho hI
    refine hdone L a w hI (fun i hi => ?_) 0 ho
    cases hL : L.getD i false with
    | true => rfl
    | false =>
      have hs : i < L.size := by rw [hI.head.size]; omega
      have := openN_set (n := ops.size) (show i < ops.size by omega) (show L.getD i true = false by simp [hs] at hL ⊢; exact hL)
      omega
  | succ fuel ih =>
    intro L a w ho hI
    by_cases hex : ∀ i, i < n → L.getD i false = true
    · exact hdone L a w hI hex _ ho
    have hun : ∃ i, i < n ∧ L.getD i false = false := by
      refine Classical.byContradiction fun hno => hex fun i hi => ?_
      cases hL : L.getD i false with
      | true => rfl
      | false => exact absurd ⟨i, hi, hL⟩ hno
    obtain ⟨i0, hi0, hu0⟩ := hun
    have hs0 : i0 < L.size := by rw [hI.head.size]; omega
    have hu1 : L.getD i0 true = false := by simp [hs0] at hu0 ⊢; exact hu0
    have hne : Region.ready .any ops L ≠ [] := fun hr => by
      have hall : ∀ m, ∀ i, i < m → i < n → L.getD i false = true := fun m => by
        induction m with
        | zero => intro i hi; omega
        | succ m ihm =>
          intro i hi hin
          cases hL : L.getD i false with
          | true => rfl
          | false =>
            exfalso
            have hio : i < ops.size := by omega
            have hs : i < L.size := by rw [hI.head.size]; exact hio
            have hmem : i ∈ Region.ready .any ops L := mem_ready.2 ⟨by simp [hs] at hL ⊢; exact hL, ops[i], by simp [hio], fun e he hb => by
              have hd : e.on ∈ depsOf ops i := (mem_deps (by simp [hio])).2 ⟨e, he, hb, rfl⟩
              have hlt := (well_atG hw hin).1 _ hd
              exact ihm e.on (by omega) (by omega)⟩
            rw [hr] at hmem
            cases hmem
      rw [hall (i0 + 1) i0 (by omega) hi0] at hu0
      cases hu0
    refine ⟨fun h => absurd h hne, fun i hi => ?_⟩
    have hin : i < n := by
      rcases Nat.lt_or_ge i n with h | h
      · exact h
      · exact absurd hi (tail_waits hsink hchain hns hI.head (n - i0) i0 rfl hi0 hu1 i h)
    obtain ⟨h0, o, hoi, hall⟩ := mem_ready.1 hi
    have hio : i < ops.size := (Array.getElem?_eq_some_iff.1 hoi).1
    have hiL : i < L.size := by rw [hI.head.size]; exact hio
    have hLi : L.getD i false = false := by simp [hiL] at h0 ⊢; exact h0
    have hwell := well_atG hw hin
    have hdo : dstOf ops i = o.dst := by unfold dstOf; rw [hoi]; rfl
    have hdep : ∀ j ∈ depsOf ops i, L.getD j false = true := fun j hj => by
      obtain ⟨e, he, hb, rfl⟩ := (mem_deps hoi).1 hj
      exact hall e he hb
    have hwd : Region.wanted o (yielded ops a.tmps) = true := by
      cases hg : o.guard with
      | none => simp [Region.wanted, hg]
      | some p =>
        obtain ⟨g, b⟩ := p
        have hgo : guardOf ops i = some (g, b) := by unfold guardOf; rw [hoi]; exact hg
        obtain ⟨hgd, hgs⟩ := hwell.2.1 (g, b) hgo
        have hv := hG i (g, b) hin hgo _ _ (hI.fact g (hdep g hgd))
        obtain ⟨d, hd⟩ := Option.isSome_iff_exists.1 hgs
        have hy : yielded ops a.tmps g = some b := yielded_of hd (by unfold valAt at hv; rw [hd] at hv; exact hv)
        simp [Region.wanted, hg, hy]
    unfold wpOp
    rw [hoi]
    simp only [hwd, if_true]
    refine .inl (hstep i o hin hoi a w (fun i => L.getD i false) hLi hI.j (fun t ht => ?_) (fun j hj => hI.fact j (hdep j hj)) _ fun v w' hF hJ hE => ?_)
    · refine hI.same t fun j hj hd => ?_
      unfold calmB at ht
      rw [List.all_eq_true] at ht
      have h1 := ht j (List.mem_range.2 (hlt hI.head hj))
      simp only [Bool.or_eq_true, bne_iff_ne, beq_iff_eq, List.contains_iff_mem] at h1
      rcases h1 with (h1 | h1) | h1
      · exact h1 hd
      · rw [h1, hLi] at hj; cases hj
      · have hjo : j < ops.size := by have := hlt hI.head hj; omega
        obtain ⟨e, he, hb, rfl⟩ := (mem_deps (show ops[j]? = some ops[j] by simp [hjo])).1 h1
        have := hI.head.closed j ops[j] (by simp [hjo]) hj e he hb
        rw [hLi] at this; cases this
    · have hset : ∀ j, (L.setIfInBounds i true).getD j false = if j = i then true else L.getD j false := fun j => by
        by_cases hji : j = i
        · subst hji; simp [hiL]
        · rw [getD_set_ne false (Ne.symm hji), if_neg hji]
      refine ih (L.setIfInBounds i true) (a.put o.dst v) w' (by have := openN_set hio h0; omega) ⟨?_, by rw [size_put]; exact hI.size, by rw [defers_put]; exact hI.defers, fun t ht => ?_, fun j hj => ?_, hI.head.set hi hin⟩
      · simp only [hset]; exact hJ
      · have hne : o.dst ≠ some t := by rw [← hdo]; exact ht i (by rw [hset, if_pos rfl])
        rw [getD_put_ne _ _ _ _ hne]
        exact hI.same t fun j hj => ht j (by rw [hset]; split <;> first | rfl | exact hj)
      · rw [hset] at hj
        by_cases hji : j = i
        · subst hji
          unfold valAt
          rw [hdo]
          cases hd : o.dst with
          | none => simpa [hd] using hF
          | some d =>
            simp only
            rw [getD_put_same _ _ _ (by rw [hI.size]; exact hwell.2.2.1 d (hdo.trans hd))]
            simpa [hd] using hF
        · rw [if_neg hji] at hj
          have hnd : needB ops n j i = false := by
            cases hq : needB ops n j i with
            | false => rfl
            | true =>
              have := need_listed hI.head n j hj hq
              rw [hLi] at this; cases this
          have hf := hEv _ _ _ _ _ (hlt hI.head hj) hin hnd (hI.fact j hj) hE
          have hv : valAt ops (a.put o.dst v) j = valAt ops a j := by
            unfold valAt
            cases hdj : dstOf ops j with
            | none => rfl
            | some d =>
              simp only
              refine getD_put_ne _ _ _ _ fun e => ?_
              exact hwell.2.2.2 j (hlt hI.head hj) (Ne.symm hji) d (hdo.trans e) hdj
          rw [hv]
          exact hf
theorem wp_region_factsG {l : List Oper} {id : Nat} {a0 : Act} {w0 : World} (n : Nat) (J : (Nat → Bool) → World → Prop) (F : Nat → Value → World → Prop) (Ev : Nat → World → World → Prop) (ds : List (Option Tmp)) (hm : P.follows .mixedOrders = true) (hw : wellG l.toArray n a0.tmps.size = true) (ht : tailB l.toArray n = true) (hG : ∀ i p, i < n → guardOf l.toArray i = some p → ∀ v w, F p.1 v w → v = .bool p.2)
    (hds : (List.range n).map (dstOf l.toArray) = ds) (h0 : J (fun _ => false) w0.drew) (hEv : ∀ i k v w w', i < n → k < n → needB l.toArray n i k = false → F i v w → Ev k w w' → F i v w')
    (hstep : ∀ i o, i < n → l.toArray[i]? = some o → ∀ (a : Act) (w : World) (L : Nat → Bool), L i = false → J L w → (∀ t, calmB l.toArray n i t = true → a.tmps.getD t undef = a0.tmps.getD t undef) →
      (∀ j d, depB l.toArray i j d = true → F j (a.tmps.getD d undef) w) → ∀ K : Act → World → Prop, (∀ v w', F i (if o.dst = none then undef else v) w' → J (fun j => if j = i then true else L j) w' → Ev i w w' → K (a.put o.dst v) w') → o.wp P a w K Q)
    (hend : ∀ (vs : Nat → Value) (w' : World) (L : Nat → Bool), (∀ i, i < n → L i = true) → J L w' → (∀ i, i < n → F i (vs i) w') → wpList P l.toArray Q (l.drop n) (putD vs ds 0 a0) w') : (Code.region id l.toArray true).wp P Q a0 w0 := by
  have hf : ∀ i : Nat, (Array.replicate l.toArray.size false).getD i false = false := fun i => getD_replicate_false _ _
  refine wp_region_any hm (anyOrderG n J F Ev a0 hw ht hG hEv (fun i o hi ho a w L hL hJ hc hd K hK => hstep i o hi ho a w L hL hJ hc (fun j d hjd => ?_) K hK) (fun vs w' L hL hJ hF => ?_) _ _ _ _ ?_ ⟨?_, rfl, rfl, fun _ _ => rfl, fun i hi => ?_, by simp, fun j oj _ hl => (by rw [hf] at hl; cases hl), fun t _ ht => getD_in (by simpa using ht) (hf _)⟩)
  · unfold depB at hjd
    simp only [Bool.and_eq_true, List.contains_iff_mem, beq_iff_eq] at hjd
    have h := hd j hjd.1
    unfold valAt at h
    rw [hjd.2] at h
    exact h
  · have h := hend vs w' L hL hJ hF
    rw [← hds, List.range_eq_range', ← putD_eq, ← List.range_eq_range'] at h
    exact h
  · unfold openN
    rw [List.countP_eq_length.2 fun i hi => by
      have hi' : i < l.length := by simpa using List.mem_range.1 hi
      simp [hi']]
    simp
  · simp only [hf]; exact h0
  · rw [hf] at hi; cases hi
end
end Go.Proofs.YtjiobgfaohldhaaGreatDoor
