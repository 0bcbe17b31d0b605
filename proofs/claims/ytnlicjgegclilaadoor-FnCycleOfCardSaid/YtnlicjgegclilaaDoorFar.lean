/- The reference's l9Far: how far it is to a number. -/
import Derived.Test.YtnlicjgegclilaaDoorFarM
import Derived.Test.YtnlicjgegclilaaDoorPut
import Derived.Test.YtnlicjgegclilaaDoorHBox
namespace Go.Proofs.YtnlicjgegclilaaDoor
open Go.RowKit
set_option linter.unusedVariables false
set_option linter.unusedSimpArgs false

theorem edge_nat {many : Nat} {xs : List Edge} (hv : xs.all (edgeOk many) = true) {k : Nat} (hk : k < xs.length) : ∃ f t : Nat, xs[k].From = (f : Int) ∧ xs[k].To = (t : Int) ∧ f < many ∧ t < many := by
  have h := List.all_eq_true.1 hv xs[k] (List.getElem_mem hk)
  unfold edgeOk at h
  simp only [Bool.and_eq_true, inR_iff] at h
  exact ⟨xs[k].From.toNat, xs[k].To.toNat, by omega, by omega, by omega, by omega⟩
theorem farStep_at {s : Nat} {F : List Int} {e : Edge} {f t : Nat} (hf : e.From = (f : Int)) (ht : e.To = (t : Int)) (h1 : f < F.length) (h2 : t < F.length) :
    farStep s F e = if F[t] = (s : Int) ∧ F[f] < 0 then F.set f ((s : Int) + 1) else F := by
  unfold farStep
  rw [hf, ht, Int.toNat_natCast, Int.toNat_natCast, List.getD_eq_getElem?_getD, List.getD_eq_getElem?_getD, List.getElem?_eq_getElem h1, List.getElem?_eq_getElem h2]
  rfl
set_option maxRecDepth 10000 in
set_option maxHeartbeats 2000000 in
theorem specFar (many : Nat) (xs : List Edge) (t : Nat) (A : Option Addr) (c : Nat) (w : World) (hl : xs.length ≤ 144) (hm : many ≤ 6) (ht : t < many) (hv : xs.all (edgeOk many) = true) (hA : Row tEdge w (Old w) A xs) :
    Calls Tryd.prog 27 #[.int .i64 many, .slice A xs.length c, .int .i64 t] w fun e w' => ∃ v, e = .returned v ∧ Own tInt 3 w' (New w w') (farS many xs t) v ∧ Below w.heap.size w w' := by
  obtain ⟨i0, hi, hz0, hz1, hz2⟩ := info_parts infoInt_
  have HA := hide hA
  have HV := hide hv
  clear hA hv
  have HO0 := hide (Own.empty (T := tInt) (e := 3) w (fun b => w.heap.size ≤ b) (Nat.le_refl _))
  go_enter Tryd.func27, Tryd.ntmps27
  go_wp2_with fail
  go_loopw [7, 8] (fun v k wr => ∃ (kk : Nat) (vo : Value), vo = v ∧ kk ≤ many ∧ k = .int .i64 kk ∧ Hid (Own tInt 3 wr (fun b => w.heap.size ≤ b ∧ Old wr b) (List.replicate kk (-1)) v) ∧ Hid (Below w.heap.size w wr)) (fun _ k _ => many - (intOf k).toNat)
  case atStart => exact ⟨0, _, rfl, Nat.zero_le _, rfl, HO0.out, (Below.refl _ w).alloc (Nat.le_refl _) _⟩
  case round =>
    obtain ⟨kk, vo, rfl, hkk, rfl, hO, hB⟩ := hrel
    have HO := hide hO.out
    have HB := hide hB.out
    clear hO hB HO0
    by_cases hlt : kk < many
    · have hki : (kk : Int) < (many : Int) := by omega
      have hln : (List.replicate kk (-1 : Int)).length = kk := List.length_replicate
      have HLn := hide hln
      have HN := hide (show List.replicate (kk + 1) (-1 : Int) = List.replicate kk (-1) ++ [-1] from List.replicate_succ')
      generalize List.replicate kk (-1 : Int) = F at HO HLn HN
      clear hln
      go_wp2_with (at_builtin; refine wpList_put tInt rfl (.tmp 18) (.tmp 19) 24 rfl 3 i0 _ 8 Tryd.underlying24 hi hz0 hz1 hz2 rfl (by decide) (fun b => w.heap.size ≤ b) (fun _ => False) F (-1) [.int .i64 (-1)] _ rfl HO.out _ rfl rfl (fun _ h => h.elim) (fun b hb => Nat.le_trans HB.out.size hb) (by rw [HLn.out]; simp only [maxLen]; omega) (by rw [HLn.out]; omega) ?_; intro v3 w3 hO_ hK_; have HO3 := hide hO_; have HK3 := hide hK_; clear hO_ hK_)
      go_roundw
      case rel => exact ⟨kk + 1, _, rfl, by omega, by go_num, by rw [HN.out]; exact HO3.out, below_only HB.out HK3.out HB.out.size (fun _ h => h)⟩
      case measure => simp [intOf]; omega
    · obtain rfl : kk = many := by omega
      obtain ⟨g, cg, rfl, hg⟩ := HO.out.form (by rw [List.length_replicate]; omega)
      rw [List.length_replicate] at HO ⊢
      have hgl : g < wr.heap.size := hg.2
      have HG := hide hg
      obtain ⟨ct, cf⟩ := HO.out.cellInt (k := t) (by rw [List.length_replicate]; omega)
      have HF0 := hide (HO.out.alone.setInt (k := t) (by rw [List.length_replicate]; omega) 0)
      obtain ⟨F0, hF0⟩ : ∃ F0, F0 = (List.replicate kk (-1 : Int)).set t 0 := ⟨_, rfl⟩
      have HFl := hide (show F0.length = kk by rw [hF0]; simp)
      have HR := hide (show farS kk xs t = farN xs kk F0 by rw [hF0]; rfl)
      rw [← hF0] at HF0
      have hz : (t : Int) < (kk : Int) := by omega
      have HBs := hide (HB.out.setCell (p := ⟨g, t, none⟩) hg.1 (.int .i64 0))
      rw [List.getElem_replicate] at ct
      clear hF0 hg HO
      go_wp2_with fail
      go_loopw [9, 10, 11] (fun st _ _ wq => ∃ s : Nat, s ≤ kk ∧ st = .int .i64 s ∧ g < wq.heap.size ∧ Hid (Own tInt 3 wq (fun b => b = g) (farN xs s F0) (.slice (some ⟨g, 0, none⟩) kk cg)) ∧ Hid (Below w.heap.size w wq)) (fun st _ _ _ => kk - (intOf st).toNat)
      case atStart => exact ⟨0, Nat.zero_le _, rfl, by simpa using hgl, HF0.out, HBs.out⟩
      case round =>
        obtain ⟨s, hs, rfl, hgq, hO, hB⟩ := hrel
        have HO1 := hide hO.out
        have HB1 := hide hB.out
        clear hO hB HF0 HBs ct cf
        by_cases hlt2 : s < kk
        · have hsi : (s : Int) < (kk : Int) := by omega
          have HN := hide (show farN xs (s + 1) F0 = farRow s xs (farN xs s F0) from rfl)
          have HFl2 := hide (show (farN xs s F0).length = kk by rw [farN_len]; exact HFl.out)
          generalize farN xs s F0 = Fs at HN HFl2 HO1
          go_wp2_with fail
          go_loopw [10, 11] (fun kx _ wq => ∃ k : Nat, k ≤ xs.length ∧ kx = .int .i64 k ∧ g < wq.heap.size ∧ Hid (Own tInt 3 wq (fun b => b = g) (farRow s (xs.take k) Fs) (.slice (some ⟨g, 0, none⟩) kk cg)) ∧ Hid (Below w.heap.size w wq)) (fun kx _ _ => xs.length - (intOf kx).toNat)
          case atStart => exact ⟨0, Nat.zero_le _, rfl, hgq, HO1.out, HB1.out⟩
          case round =>
            obtain ⟨k, hk, rfl, hgr, hO, hB⟩ := hrel
            have HO2 := hide hO.out
            have HB2 := hide hB.out
            clear hO hB HO1 HB1
            by_cases hlt3 : k < xs.length
            · have hki : (k : Int) < (xs.length : Int) := by omega
              have HS := hide (farRow_succ s xs Fs k hlt3)
              have HFl3 := hide (show (farRow s (xs.take k) Fs).length = kk by rw [farRow_len]; exact HFl2.out)
              obtain ⟨b, off, hAe, hbS, d0, d1, d2⟩ := at_Edge HA.out HB2.out hlt3
              subst hAe
              obtain ⟨f, tt, hf, htt, hfm, htm⟩ := edge_nat HV.out hlt3
              have HSt := hide (fun (G : List Int) (hG : G.length = kk) => farStep_at (s := s) (F := G) hf htt (by omega) (by omega))
              rw [hf] at d0
              rw [htt] at d1
              generalize xs[k] = ee at HS HSt d2
              generalize ee.Kind = kd at d2
              generalize farRow s (xs.take k) Fs = G at HO2 HS HFl3
              have HSg := hide (HSt.out G HFl3.out)
              clear hf htt HSt
              have hfk : (f : Int) < (kk : Int) := by omega
              have htk : (tt : Int) < (kk : Int) := by omega
              go_upto_region 14 with (fail)
              have HOw := hide (HO2.out.mono (w' := wr.alloc (.cells #[.int .i64 f, .int .i64 tt, .int .i64 kd] 49)) (fun _ h => h) (fun b hb => by rw [hb]; exact Below.heap_alloc _ _ _ hgr))
              have HBw := hide (HB2.out.alloc HB2.out.size (.cells #[.int .i64 f, .int .i64 tt, .int .i64 kd] 49))
              have hBk := Blk.new wr 49 #[.int .i64 f, .int .i64 tt, .int .i64 kd]
              have hgW : g < (wr.alloc (.cells #[.int .i64 f, .int .i64 tt, .int .i64 kd] 49)).heap.size := by simp; omega
              generalize hW : wr.alloc (.cells #[.int .i64 f, .int .i64 tt, .int .i64 kd] 49) = W at HOw HBw hBk hgW ⊢
              have e0 := hBk.cell 0
              have e1 := hBk.cell 1
              simp only [List.getElem?_toArray, List.getElem?_cons_zero, List.getElem?_cons_succ] at e0 e1
              obtain ⟨p0, p1⟩ := HOw.out.cellInt (k := f) (by rw [HFl3.out]; exact hfm)
              obtain ⟨p2, p3⟩ := HOw.out.cellInt (k := tt) (by rw [HFl3.out]; exact htm)
              have HSe := hide (HOw.out.setInt (k := f) (by rw [HFl3.out]; exact hfm) ((s : Int) + 1))
              have HBt := hide (HBw.out.setCell (p := ⟨g, f, none⟩) HG.out.1 (.int .i64 ((s : Int) + 1)))
              have hfg : f < G.length := by rw [HFl3.out]; exact hfm
              have htg : tt < G.length := by rw [HFl3.out]; exact htm
              generalize G[f] = y at p0 HSg
              generalize G[tt] = z at p2 HSg
              clear hW hBk d0 d1 d2 hgr p3
              by_cases q1 : z = (s : Int)
              · subst q1
                by_cases q2 : y < 0
                · have HSh := hide (HSg.out.trans (if_pos ⟨rfl, q2⟩))
                  go_wp2_with fail
                  go_roundw
                  case rel => exact ⟨k + 1, by omega, by go_num, by simpa using hgW, by rw [HS.out, HSh.out]; exact HSe.out, HBt.out⟩
                  case measure => simp [intOf]; omega
                · have HSh := hide (HSg.out.trans (if_neg (fun h => q2 h.2)))
                  go_wp2_with fail
                  go_roundw
                  case rel => exact ⟨k + 1, by omega, by go_num, by simpa using hgW, by rw [HS.out, HSh.out]; exact HOw.out, HBw.out⟩
                  case measure => simp [intOf]; omega
              · have HSh := hide (HSg.out.trans (if_neg (fun h => q1 h.1)))
                have q3 : (z == (s : Int)) = false := by simpa using q1
                go_wp2_with fail
                go_roundw
                case rel => exact ⟨k + 1, by omega, by go_num, by simpa using hgW, by rw [HS.out, HSh.out]; exact HOw.out, HBw.out⟩
                case measure => simp [intOf]; omega
            · obtain rfl : k = xs.length := by omega
              have HOe := hide (show Own tInt 3 wr (fun b => b = g) (farN xs (s + 1) F0) _ from by rw [HN.out]; have := HO2.out; rwa [List.take_length] at this)
              clear HO2
              go_wp2_with fail
              go_roundw
              case rel => exact ⟨s + 1, by omega, by go_num, hgr, HOe.out, HB2.out⟩
              case measure => simp [intOf]; omega
        · obtain rfl : s = kk := by omega
          go_wp2_with fail
          go_ret
          exact ⟨_, rfl, by rw [HR.out]; exact HO1.out.mono (fun b hb => by rw [hb]; exact ⟨HG.out.1, hgq⟩) (fun _ _ => rfl), HB1.out⟩
end Go.Proofs.YtnlicjgegclilaaDoor
