/- The reference's l9Far: how far it is to a number. The reference's CycleOf. -/
import Derived.Test.YtjiobgfaohldhaaGreatQGraph
import Derived.Test.YtjiobgfaohldhaaGreatQRanges
import Derived.Test.YtjiobgfaohldhaaGreatQHBox
namespace Go.Proofs.YtjiobgfaohldhaaGreat
open Go.RowKit
set_option linter.unusedVariables false
set_option linter.unusedSimpArgs false

theorem edge_nat {many : Nat} {xs : List Edge} (hv : xs.all (edgeOk many) = true) {k : Nat} (hk : k < xs.length) : ∃ f t : Nat, xs[k].From = (f : Int) ∧ xs[k].To = (t : Int) ∧ f < many ∧ t < many := by
  have h := List.all_eq_true.1 hv xs[k] (List.getElem_mem hk)
  unfold edgeOk at h
  simp only [Bool.and_eq_true, inR_iff] at h
  exact ⟨xs[k].From.toNat, xs[k].To.toNat, by omega, by omega, by omega, by omega⟩
theorem farStep_at {s : Nat} {F : List Int} {e : Edge} {f t : Nat} (hf : e.From = (f : Int)) (ht : e.To = (t : Int)) (h1 : f < F.length) (h2 : t < F.length) :
    farStep s F e = if F[t] = (s : Int) ∧ F[f] < 0 then F.set f ((s : Int) + 1) else F := by
  unfold farStep
  rw [hf, ht, Int.toNat_natCast, Int.toNat_natCast, List.getD_eq_getElem?_getD, List.getD_eq_getElem?_getD, List.getElem?_eq_getElem h1, List.getElem?_eq_getElem h2]
  rfl
set_option maxRecDepth 10000 in
set_option maxHeartbeats 2000000 in
theorem specFar (many : Nat) (xs : List Edge) (t : Nat) (A : Option Addr) (c : Nat) (w : World) (hl : xs.length ≤ 144) (hm : many ≤ 6) (ht : t < many) (hv : xs.all (edgeOk many) = true) (hA : Row tEdge w (Old w) A xs) :
    Calls Tryz.prog 76 #[.int .i64 many, .slice A xs.length c, .int .i64 t] w fun e w' => ∃ v, e = .returned v ∧ Own tInt 3 w' (New w w') (farS many xs t) v ∧ Below w.heap.size w w' := by
  obtain ⟨i0, hi, hz0, hz1, hz2⟩ := info_parts infoInt_
  have HA := hide hA
  have HV := hide hv
  clear hA hv
  have HO0 := hide (Own.empty (T := tInt) (e := 3) w (fun b => w.heap.size ≤ b) (Nat.le_refl _))
  go_enter Tryz.func76, Tryz.ntmps76
  go_wp2_with fail
  go_loopw [7, 8] (fun v k wr => ∃ (kk : Nat) (vo : Value), vo = v ∧ kk ≤ many ∧ k = .int .i64 kk ∧ Hid (Own tInt 3 wr (fun b => w.heap.size ≤ b ∧ Old wr b) (List.replicate kk (-1)) v) ∧ Hid (Below w.heap.size w wr)) (fun _ k _ => many - (intOf k).toNat)
  case atStart => exact ⟨0, _, rfl, Nat.zero_le _, rfl, HO0.out, (Below.refl _ w).alloc (Nat.le_refl _) _⟩
  case round =>
    obtain ⟨kk, vo, rfl, hkk, rfl, hO, hB⟩ := hrel
    have HO := hide hO.out
    have HB := hide hB.out
    clear hO hB HO0
    by_cases hlt : kk < many
    · have hki : (kk : Int) < (many : Int) := by omega
      have hln : (List.replicate kk (-1 : Int)).length = kk := List.length_replicate
      have HLn := hide hln
      have HN := hide (show List.replicate (kk + 1) (-1 : Int) = List.replicate kk (-1) ++ [-1] from List.replicate_succ')
      generalize List.replicate kk (-1 : Int) = F at HO HLn HN
      clear hln
      go_wp2_with (at_builtin; refine wpList_put tInt rfl (.tmp 18) (.tmp 19) 23 rfl 3 i0 _ 8 Tryz.underlying23 hi hz0 hz1 hz2 rfl (by decide) (fun b => w.heap.size ≤ b) (fun _ => False) F (-1) [.int .i64 (-1)] _ rfl HO.out _ rfl rfl (fun _ h => h.elim) (fun b hb => Nat.le_trans HB.out.size hb) (by rw [HLn.out]; simp only [maxLen]; omega) (by rw [HLn.out]; omega) ?_; intro v3 w3 hO_ hK_; have HO3 := hide hO_; have HK3 := hide hK_; clear hO_ hK_)
      go_roundw
      case rel => exact ⟨kk + 1, _, rfl, by omega, by go_num, by rw [HN.out]; exact HO3.out, below_only HB.out HK3.out HB.out.size (fun _ h => h)⟩
      case measure => simp [intOf]; omega
    · obtain rfl : kk = many := by omega
      obtain ⟨g, cg, rfl, hg⟩ := HO.out.form (by rw [List.length_replicate]; omega)
      rw [List.length_replicate] at HO ⊢
      have hgl : g < wr.heap.size := hg.2
      have HG := hide hg
      obtain ⟨ct, cf⟩ := HO.out.cellInt (k := t) (by rw [List.length_replicate]; omega)
      have HF0 := hide (HO.out.alone.setInt (k := t) (by rw [List.length_replicate]; omega) 0)
      obtain ⟨F0, hF0⟩ : ∃ F0, F0 = (List.replicate kk (-1 : Int)).set t 0 := ⟨_, rfl⟩
      have HFl := hide (show F0.length = kk by rw [hF0]; simp)
      have HR := hide (show farS kk xs t = farN xs kk F0 by rw [hF0]; rfl)
      rw [← hF0] at HF0
      have hz : (t : Int) < (kk : Int) := by omega
      have HBs := hide (HB.out.setCell (p := ⟨g, t, none⟩) hg.1 (.int .i64 0))
      rw [List.getElem_replicate] at ct
      clear hF0 hg HO
      go_wp2_with fail
      go_loopw [9, 10, 11] (fun st _ _ wq => ∃ s : Nat, s ≤ kk ∧ st = .int .i64 s ∧ g < wq.heap.size ∧ Hid (Own tInt 3 wq (fun b => b = g) (farN xs s F0) (.slice (some ⟨g, 0, none⟩) kk cg)) ∧ Hid (Below w.heap.size w wq)) (fun st _ _ _ => kk - (intOf st).toNat)
      case atStart => exact ⟨0, Nat.zero_le _, rfl, by simpa using hgl, HF0.out, HBs.out⟩
      case round =>
        obtain ⟨s, hs, rfl, hgq, hO, hB⟩ := hrel
        have HO1 := hide hO.out
        have HB1 := hide hB.out
        clear hO hB HF0 HBs ct cf
        by_cases hlt2 : s < kk
        · have hsi : (s : Int) < (kk : Int) := by omega
          have HN := hide (show farN xs (s + 1) F0 = farRow s xs (farN xs s F0) from rfl)
          have HFl2 := hide (show (farN xs s F0).length = kk by rw [farN_len]; exact HFl.out)
          generalize farN xs s F0 = Fs at HN HFl2 HO1
          go_wp2_with fail
          go_loopw [10, 11] (fun kx _ wq => ∃ k : Nat, k ≤ xs.length ∧ kx = .int .i64 k ∧ g < wq.heap.size ∧ Hid (Own tInt 3 wq (fun b => b = g) (farRow s (xs.take k) Fs) (.slice (some ⟨g, 0, none⟩) kk cg)) ∧ Hid (Below w.heap.size w wq)) (fun kx _ _ => xs.length - (intOf kx).toNat)
          case atStart => exact ⟨0, Nat.zero_le _, rfl, hgq, HO1.out, HB1.out⟩
          case round =>
            obtain ⟨k, hk, rfl, hgr, hO, hB⟩ := hrel
            have HO2 := hide hO.out
            have HB2 := hide hB.out
            clear hO hB HO1 HB1
            by_cases hlt3 : k < xs.length
            · have hki : (k : Int) < (xs.length : Int) := by omega
              have HS := hide (farRow_succ s xs Fs k hlt3)
              have HFl3 := hide (show (farRow s (xs.take k) Fs).length = kk by rw [farRow_len]; exact HFl2.out)
              obtain ⟨b, off, hAe, hbS, d0, d1, d2⟩ := at_Edge HA.out HB2.out hlt3
              subst hAe
              obtain ⟨f, tt, hf, htt, hfm, htm⟩ := edge_nat HV.out hlt3
              have HSt := hide (fun (G : List Int) (hG : G.length = kk) => farStep_at (s := s) (F := G) hf htt (by omega) (by omega))
              rw [hf] at d0
              rw [htt] at d1
              generalize xs[k] = ee at HS HSt d2
              generalize ee.Kind = kd at d2
              generalize farRow s (xs.take k) Fs = G at HO2 HS HFl3
              have HSg := hide (HSt.out G HFl3.out)
              clear hf htt HSt
              have hfk : (f : Int) < (kk : Int) := by omega
              have htk : (tt : Int) < (kk : Int) := by omega
              go_upto_region 14 with (fail)
              have HOw := hide (HO2.out.mono (w' := wr.alloc (.cells #[.int .i64 f, .int .i64 tt, .int .i64 kd] 86)) (fun _ h => h) (fun b hb => by rw [hb]; exact Below.heap_alloc _ _ _ hgr))
              have HBw := hide (HB2.out.alloc HB2.out.size (.cells #[.int .i64 f, .int .i64 tt, .int .i64 kd] 86))
              have hBk := Blk.new wr 86 #[.int .i64 f, .int .i64 tt, .int .i64 kd]
              have hgW : g < (wr.alloc (.cells #[.int .i64 f, .int .i64 tt, .int .i64 kd] 86)).heap.size := by simp; omega
              generalize hW : wr.alloc (.cells #[.int .i64 f, .int .i64 tt, .int .i64 kd] 86) = W at HOw HBw hBk hgW ⊢
              have e0 := hBk.cell 0
              have e1 := hBk.cell 1
              simp only [List.getElem?_toArray, List.getElem?_cons_zero, List.getElem?_cons_succ] at e0 e1
              obtain ⟨p0, p1⟩ := HOw.out.cellInt (k := f) (by rw [HFl3.out]; exact hfm)
              obtain ⟨p2, p3⟩ := HOw.out.cellInt (k := tt) (by rw [HFl3.out]; exact htm)
              have HSe := hide (HOw.out.setInt (k := f) (by rw [HFl3.out]; exact hfm) ((s : Int) + 1))
              have HBt := hide (HBw.out.setCell (p := ⟨g, f, none⟩) HG.out.1 (.int .i64 ((s : Int) + 1)))
              have hfg : f < G.length := by rw [HFl3.out]; exact hfm
              have htg : tt < G.length := by rw [HFl3.out]; exact htm
              generalize G[f] = y at p0 HSg
              generalize G[tt] = z at p2 HSg
              clear hW hBk d0 d1 d2 hgr p3
              by_cases q1 : z = (s : Int)
              · subst q1
                by_cases q2 : y < 0
                · have HSh := hide (HSg.out.trans (if_pos ⟨rfl, q2⟩))
                  go_wp2_with fail
                  go_roundw
                  case rel => exact ⟨k + 1, by omega, by go_num, by simpa using hgW, by rw [HS.out, HSh.out]; exact HSe.out, HBt.out⟩
                  case measure => simp [intOf]; omega
                · have HSh := hide (HSg.out.trans (if_neg (fun h => q2 h.2)))
                  go_wp2_with fail
                  go_roundw
                  case rel => exact ⟨k + 1, by omega, by go_num, by simpa using hgW, by rw [HS.out, HSh.out]; exact HOw.out, HBw.out⟩
                  case measure => simp [intOf]; omega
              · have HSh := hide (HSg.out.trans (if_neg (fun h => q1 h.1)))
                have q3 : (z == (s : Int)) = false := by simpa using q1
                go_wp2_with fail
                go_roundw
                case rel => exact ⟨k + 1, by omega, by go_num, by simpa using hgW, by rw [HS.out, HSh.out]; exact HOw.out, HBw.out⟩
                case measure => simp [intOf]; omega
            · obtain rfl : k = xs.length := by omega
              have HOe := hide (show Own tInt 3 wr (fun b => b = g) (farN xs (s + 1) F0) _ from by rw [HN.out]; have := HO2.out; rwa [List.take_length] at this)
              clear HO2
              go_wp2_with fail
              go_roundw
              case rel => exact ⟨s + 1, by omega, by go_num, hgr, HOe.out, HB2.out⟩
              case measure => simp [intOf]; omega
        · obtain rfl : s = kk := by omega
          go_wp2_with fail
          go_ret
          exact ⟨_, rfl, by rw [HR.out]; exact HO1.out.mono (fun b hb => by rw [hb]; exact ⟨HG.out.1, hgq⟩) (fun _ _ => rfl), HB1.out⟩
/-- The cells of a row of numbers that stays where it is. -/
def Fix (g : Nat) (F : List Int) (w : World) : Prop := g < w.heap.size ∧ ∀ (t : Nat) (h : t < F.length), w.cell? ⟨g, t, none⟩ = some (.int .i64 F[t])
theorem Fix.block {g : Nat} {F : List Int} {w w' : World} (h : Fix g F w) (hs : w.heap.size ≤ w'.heap.size) (hb : w'.heap[g]? = w.heap[g]?) : Fix g F w' :=
  ⟨Nat.lt_of_lt_of_le h.1 hs, fun t ht => (World.cell?_of_block hb).trans (h.2 t ht)⟩
theorem Fix.below {g : Nat} {F : List Int} {w w' : World} (h : Fix g F w) (hb : Below w.heap.size w w') : Fix g F w' := h.block hb.size (hb.block g h.1)
theorem getD_atI {F : List Int} {t : Nat} (h : t < F.length) : F.getD t 0 = F[t] := by rw [List.getD_eq_getElem?_getD, List.getElem?_eq_getElem h]; rfl
set_option maxRecDepth 10000 in
set_option maxHeartbeats 4000000 in
theorem specCycT (n : Nat) (xs : List Edge) (A : Option Addr) (c : Nat) (w : World) (hl : xs.length ≤ 144) (hn : n ≤ 6) (hv : edgesV n xs = true) (hA : Row tEdge w (Old w) A xs) :
    Calls Tryz.prog 37 #[.int .i64 n, .slice A xs.length c] w fun e w' => ∃ v, e = .returned v ∧ Own tInt 3 w' (New w w') (cycFrom xs n n 0) v ∧ Below w.heap.size w w' := by
  obtain ⟨i0, hi, hz0, hz1, hz2⟩ := info_parts infoInt_
  have hva : xs.all (edgeOk n) = true := by unfold edgesV at hv; simp only [Bool.and_eq_true] at hv; exact hv.2
  have HV := hide hv
  have HVa := hide hva
  have HA := hide hA
  clear hA hv hva
  have HO0 := hide (Own.empty (T := tInt) (e := 3) w (fun b => w.heap.size ≤ b) (Nat.le_refl _))
  go_enter Tryz.func37, Tryz.ntmps37
  go_wp2_with fail
  go_loopw [5, 6, 7, 8, 9, 10, 11, 12, 13] (fun o s _ _ _ _ _ _ _ wr => ∃ sN : Nat, sN ≤ n ∧ s = .int .i64 sN ∧ o = .slice (some ⟨w.heap.size, 0, none⟩) 0 0 ∧ Hid (cycFrom xs n n 0 = cycFrom xs n (n - sN) sN) ∧ Hid (Own tInt 3 wr (fun b => b = w.heap.size) [] o) ∧ Hid (Below w.heap.size w wr) ∧ w.heap.size < wr.heap.size) (fun _ s _ _ _ _ _ _ _ _ => n - (intOf s).toNat)
  case atStart => exact ⟨0, Nat.zero_le _, rfl, rfl, rfl, HO0.out.alone, (Below.refl _ w).alloc (Nat.le_refl _) _, by simp⟩
  case round =>
    obtain ⟨sN, hs, rfl, rfl, hE, hO, hB, hgt⟩ := hrel
    have HE := hide hE.out
    have HO := hide hO.out
    have HB := hide hB.out
    clear hE hO hB HO0
    by_cases hlt : sN < n
    · have hsi : (sN : Int) < (n : Int) := by omega
      go_upto_region 5 with (go_at_call 59; refine (specEdgesValid n xs A c _ (by simp only [maxLen]; omega) (HA.out.old HB.out)).mono ?_; rintro e w2 ⟨rfl, hb2⟩; have HB2 := hide (HB.out.trans (hb2.mono HB.out.size)); have HO2 := hide (HO.out.mono (w' := w2) (fun _ h => h) (fun b hb => hb2.block b (by rw [hb]; exact hgt))); have hgt2 := Nat.lt_of_lt_of_le hgt hb2.size; rw [HV.out]; clear hb2)
      go_upto_region 6 with (go_at_call 76; refine (specFar n xs sN _ _ _ hl hn hlt HVa.out (HA.out.old HB2.out)).mono ?_; rintro e w3 ⟨v3, rfl, hO3, hb3⟩; have HB3 := hide (HB2.out.trans (hb3.mono HB2.out.size)); have HO3 := hide (HO2.out.mono (w' := w3) (fun _ h => h) (fun b hb => hb3.block b (by rw [hb]; exact hgt2))); have hgt3 := Nat.lt_of_lt_of_le hgt2 hb3.size; have HW3 := hide hO3; clear hb3 hO3)
      have hFl := farS_len n xs sN
      have hFb := farS_bd n xs sN
      obtain ⟨g, cg, rfl, hg⟩ := HW3.out.form (by omega)
      rw [hFl]
      have HFx := hide (show Fix g (farS n xs sN) w3 from ⟨hg.2, fun t ht => (HW3.out.cellInt ht).1⟩)
      have hgg : w.heap.size < g := Nat.lt_of_lt_of_le hgt2 hg.1
      have HCy := hide (show cycFrom xs n (n - sN) sN = if bestS xs (farS n xs sN) (sN : Int) < 0 then cycFrom xs n (n - (sN + 1)) (sN + 1) else (sN : Int) :: wayS xs (farS n xs sN) (n : Int) (bestS xs (farS n xs sN) (sN : Int)).toNat (sN : Int) by
        obtain ⟨m, hm⟩ : ∃ m, n - sN = m + 1 := ⟨n - sN - 1, by omega⟩
        rw [hm, cycFrom, show n - (sN + 1) = m by omega])
      have HBd := hide (bestS_bd (s := (sN : Int)) hFb (by omega) xs)
      have HFl := hide hFl
      clear HW3 hFl hFb hg HO2 HO HB HB2 hgt hgt2
      generalize farS n xs sN = F at HFx HCy HBd HFl
      go_wp2_with fail
      go_loopw [8, 9] (fun b kx wq => ∃ k : Nat, k ≤ xs.length ∧ kx = .int .i64 k ∧ b = .int .i64 (bestS (xs.take k) F (sN : Int)) ∧ Hid (Below w3.heap.size w3 wq)) (fun _ kx _ => xs.length - (intOf kx).toNat)
      case atStart => exact ⟨0, Nat.zero_le _, rfl, rfl, Below.refl _ _⟩
      case round =>
        obtain ⟨k, hk, rfl, rfl, hB⟩ := hrel
        have HBq := hide hB.out
        clear hB
        by_cases hlt2 : k < xs.length
        · have hki : (k : Int) < (xs.length : Int) := by omega
          obtain ⟨b, off, hAe, hbS, d0, d1, d2⟩ := at_Edge HA.out (HB3.out.trans (HBq.out.mono HB3.out.size)) hlt2
          subst hAe
          obtain ⟨f, tt, hf, htt, hfm, htm⟩ := edge_nat HVa.out hlt2
          have HS := hide (bestS_succ xs F (sN : Int) k hlt2)
          have htF : tt < F.length := by rw [HFl.out]; exact htm
          have hct := (HFx.out.below HBq.out).2 tt htF
          have hst : ∀ bb : Int, bestStep F (sN : Int) bb xs[k] = if (f : Int) = (sN : Int) ∧ 0 ≤ F[tt] ∧ (bb < 0 ∨ F[tt] < bb) then F[tt] else bb := fun bb => by unfold bestStep; rw [hf, htt, Int.toNat_natCast, getD_atI htF]
          have HSt := hide (hst (bestS (xs.take k) F (sN : Int)))
          rw [hf] at d0
          rw [htt] at d1
          clear hf htt d2 hst
          generalize bestS (xs.take k) F (sN : Int) = bb at HS HSt ⊢
          generalize xs[k] = ee at HS HSt
          generalize F[tt] = y at hct HSt
          have htk : (tt : Int) < (n : Int) := by omega
          have HNo := hide (fun (h : ¬ ((f : Int) = (sN : Int) ∧ 0 ≤ y ∧ (bb < 0 ∨ y < bb))) => HS.out.trans (HSt.out.trans (if_neg h)))
          have HYes := hide (fun (h : (f : Int) = (sN : Int) ∧ 0 ≤ y ∧ (bb < 0 ∨ y < bb)) => HS.out.trans (HSt.out.trans (if_pos h)))
          by_cases q1 : f = sN
          · subst q1
            by_cases q2 : 0 ≤ y
            · by_cases q3 : bb < 0
              · have HQ := hide (HYes.out ⟨rfl, q2, .inl q3⟩)
                go_wp2_with fail
                go_roundw
                case rel => exact ⟨k + 1, by omega, by go_num, by rw [HQ.out], HBq.out⟩
                case measure => simp [intOf]; omega
              · by_cases q4 : y < bb
                · have HQ := hide (HYes.out ⟨rfl, q2, .inr q4⟩)
                  go_wp2_with fail
                  go_roundw
                  case rel => exact ⟨k + 1, by omega, by go_num, by rw [HQ.out], HBq.out⟩
                  case measure => simp [intOf]; omega
                · have HQ := hide (HNo.out (fun h => h.2.2.elim q3 q4))
                  go_wp2_with fail
                  go_roundw
                  case rel => exact ⟨k + 1, by omega, by go_num, by rw [HQ.out], HBq.out⟩
                  case measure => simp [intOf]; omega
            · have HQ := hide (HNo.out (fun h => q2 h.2.1))
              have q5 : ¬ (y ≥ 0) := q2
              go_wp2_with fail
              go_roundw
              case rel => exact ⟨k + 1, by omega, by go_num, by rw [HQ.out], HBq.out⟩
              case measure => simp [intOf]; omega
          · have HQ := hide (HNo.out (fun h => q1 (by have := h.1; omega)))
            have q6 : ((f : Int) == (sN : Int)) = false := by rw [beq_eq_false_iff_ne]; omega
            go_wp2_with fail
            go_roundw
            case rel => exact ⟨k + 1, by omega, by go_num, by rw [HQ.out], HBq.out⟩
            case measure => simp [intOf]; omega
        · obtain rfl : k = xs.length := by omega
          rw [List.take_length]
          have HBe := hide (HB3.out.trans (HBq.out.mono HB3.out.size))
          have HFe := hide (HFx.out.below HBq.out)
          have HOe := hide (HO3.out.mono (w' := wr) (fun _ h => h) (fun b hb => HBq.out.block b (by rw [hb]; exact hgt3)))
          have hgte := Nat.lt_of_lt_of_le hgt3 HBq.out.size
          clear HFx HO3 HBq HB3 hgt3
          obtain ⟨be, hbe⟩ : ∃ be, be = bestS xs F (sN : Int) := ⟨_, rfl⟩
          rw [← hbe] at HCy HBd ⊢
          clear hbe
          by_cases q1 : be < 0
          · have HE2 := hide (HE.out.trans (HCy.out.trans (if_pos q1)))
            go_wp2_with fail
            go_roundw
            case rel => exact ⟨sN + 1, by omega, by go_num, rfl, HE2.out, HOe.out, HBe.out, hgte⟩
            case measure => simp [intOf]; omega
          · obtain ⟨bl, rfl⟩ : ∃ bl : Nat, be = (bl : Int) := ⟨be.toNat, by omega⟩
            have HE2 := hide (HE.out.trans (HCy.out.trans (if_neg q1)))
            rw [Int.toNat_natCast] at HE2
            have hb6 : bl ≤ 6 := by have := HBd.out.2; omega
            have HK0 := hide (show Own tInt 3 wr (fun b => (w.heap.size ≤ b ∧ b ≠ g) ∧ Old wr b) [] (.slice (some ⟨w.heap.size, 0, none⟩) 0 0) from HOe.out.mono (fun b hb => by rw [hb]; exact ⟨⟨Nat.le_refl _, by omega⟩, hgte⟩) (fun _ _ => rfl))
            have hgr : g < wr.heap.size := HFe.out.1
            go_wp2_with (at_builtin; refine wpList_put tInt rfl (.tmp 79) (.tmp 81) 23 rfl 3 i0 _ 8 Tryz.underlying23 hi hz0 hz1 hz2 rfl (by decide) (fun b => w.heap.size ≤ b ∧ b ≠ g) (fun _ => False) [] (sN : Int) [.int .i64 (sN : Int)] _ rfl HK0.out _ rfl rfl (fun _ h => h.elim) (fun b hb => by have := HBe.out.size; exact ⟨by omega, by omega⟩) (by simp [maxLen]) (by simp) ?_; intro v5 w5 hO_ hK_; have HO5 := hide hO_; have HB5 := hide (below_only HBe.out hK_ HBe.out.size (fun _ h => h.1)); have HF5 := hide (HFe.out.block hK_.size (hK_.block g hgr (fun h => h.2 rfl))); clear hO_ hK_)
            clear HOe HK0 HFe HBe hgr hgte
            go_loopw [5, 10, 11, 12, 13] (fun o a l _ _ wq => ∃ (ll : Nat) (ai : Int) (pre : List Int) (vo : Value), vo = o ∧ a = .int .i64 ai ∧ l = .int .i64 ll ∧ Hid (pre.length + ll ≤ 7) ∧ Hid (pre ++ wayS xs F (n : Int) ll ai = (sN : Int) :: wayS xs F (n : Int) bl (sN : Int)) ∧ Hid (Own tInt 3 wq (fun b => (w.heap.size ≤ b ∧ b ≠ g) ∧ Old wq b) pre o) ∧ Hid (Fix g F wq) ∧ Hid (Below w.heap.size w wq)) (fun _ _ l _ _ _ => (intOf l).toNat)
            case atStart => exact ⟨bl, _, [(sN : Int)], _, rfl, rfl, rfl, by simp [Hid]; omega, rfl, HO5.out, HF5.out, HB5.out⟩
            case round =>
              obtain ⟨ll, ai, pre, vo, rfl, rfl, rfl, hpl, hpw, hO, hF, hB⟩ := hrel
              have HPl := hide hpl.out; have HPw := hide hpw.out; have HO6 := hide hO.out; have HF6 := hide hF.out; have HB6 := hide hB.out
              clear hpl hpw hO hF hB HO5 HF5 HB5
              by_cases hgo : 0 < (ll : Int)
              · go_wp2_with fail
                go_loopw [12, 13] (fun nx kx wq => ∃ k : Nat, k ≤ xs.length ∧ kx = .int .i64 k ∧ nx = .int .i64 (nextS (xs.take k) F ai (ll : Int) (n : Int)) ∧ Hid (Below wr.heap.size wr wq)) (fun _ kx _ => xs.length - (intOf kx).toNat)
                case atStart => exact ⟨0, Nat.zero_le _, rfl, rfl, Below.refl _ _⟩
                case round =>
                  obtain ⟨k, hk, rfl, rfl, hB⟩ := hrel
                  have HBs := hide hB.out
                  clear hB
                  by_cases hlt2 : k < xs.length
                  · have hki : (k : Int) < (xs.length : Int) := by omega
                    obtain ⟨b, off, hAe, hbS, d0, d1, d2⟩ := at_Edge HA.out (HB6.out.trans (HBs.out.mono HB6.out.size)) hlt2
                    subst hAe
                    obtain ⟨f, tt, hf, htt, hfm, htm⟩ := edge_nat HVa.out hlt2
                    have HS := hide (nextS_succ xs F ai (ll : Int) (n : Int) k hlt2)
                    have htF : tt < F.length := by rw [HFl.out]; exact htm
                    have hct := (HF6.out.below HBs.out).2 tt htF
                    have hst : ∀ bb : Int, nextStep F ai (ll : Int) bb xs[k] = if (f : Int) = ai ∧ F[tt] = (ll : Int) then min bb (tt : Int) else bb := fun bb => by unfold nextStep; rw [hf, htt, Int.toNat_natCast, getD_atI htF]
                    have HSt := hide (hst (nextS (xs.take k) F ai (ll : Int) (n : Int)))
                    rw [hf] at d0
                    rw [htt] at d1
                    clear hf htt d2 hst
                    generalize nextS (xs.take k) F ai (ll : Int) (n : Int) = bb at HS HSt ⊢
                    generalize xs[k] = ee at HS HSt
                    generalize F[tt] = y at hct HSt
                    have htk : (tt : Int) < (n : Int) := by omega
                    by_cases q1 : (f : Int) = ai
                    · subst q1
                      by_cases q2 : y = (ll : Int)
                      · subst q2
                        have HQ := hide (HS.out.trans (HSt.out.trans (if_pos ⟨rfl, rfl⟩)))
                        go_wp2_with fail
                        go_roundw
                        case rel => exact ⟨k + 1, by omega, by go_num, by rw [HQ.out, show min bb (tt : Int) = if (tt : Int) < bb then (tt : Int) else bb by split <;> omega], HBs.out⟩
                        case measure => simp [intOf]; omega
                      · have HQ := hide (HS.out.trans (HSt.out.trans (if_neg (fun h => q2 h.2))))
                        have q5 : (y == (ll : Int)) = false := by rw [beq_eq_false_iff_ne]; exact q2
                        go_wp2_with fail
                        go_roundw
                        case rel => exact ⟨k + 1, by omega, by go_num, by rw [HQ.out], HBs.out⟩
                        case measure => simp [intOf]; omega
                    · have HQ := hide (HS.out.trans (HSt.out.trans (if_neg (fun h => q1 h.1))))
                      have q6 : ((f : Int) == ai) = false := by rw [beq_eq_false_iff_ne]; exact q1
                      go_wp2_with fail
                      go_roundw
                      case rel => exact ⟨k + 1, by omega, by go_num, by rw [HQ.out], HBs.out⟩
                      case measure => simp [intOf]; omega
                  · obtain rfl : k = xs.length := by omega
                    rw [List.take_length]
                    obtain ⟨lm, rfl⟩ : ∃ lm, ll = lm + 1 := ⟨ll - 1, by omega⟩
                    have HW := hide (show wayS xs F (n : Int) (lm + 1) ai = nextS xs F ai ((lm : Int) + 1) (n : Int) :: wayS xs F (n : Int) lm (nextS xs F ai ((lm : Int) + 1) (n : Int)) from rfl)
                    rw [show ((lm + 1 : Nat) : Int) = (lm : Int) + 1 from by omega]
                    generalize nextS xs F ai ((lm : Int) + 1) (n : Int) = nx at HW ⊢
                    have HB7 := hide (HB6.out.trans (HBs.out.mono HB6.out.size))
                    have HF7 := hide (HF6.out.below HBs.out)
                    have HO7 := hide (HO6.out.onlyBelow HBs.out)
                    have hgr : g < wr.heap.size := HF7.out.1
                    have hpl := HPl.out
                    clear HF6 HO6 HB6 HBs
                    go_wp2_with (at_builtin; refine wpList_put tInt rfl (.tmp 122) (.tmp 124) 23 rfl 3 i0 _ 8 Tryz.underlying23 hi hz0 hz1 hz2 rfl (by decide) (fun b => w.heap.size ≤ b ∧ b ≠ g) (fun _ => False) pre nx [.int .i64 nx] _ rfl HO7.out _ rfl rfl (fun _ h => h.elim) (fun b hb => by have := HB7.out.size; exact ⟨by omega, by omega⟩) (by simp only [maxLen]; omega) (by omega) ?_; intro v5 w5 hO_ hK_; have HO8 := hide hO_; have HB8 := hide (below_only HB7.out hK_ HB7.out.size (fun _ h => h.1)); have HF8 := hide (HF7.out.block hK_.size (hK_.block g hgr (fun h => h.2 rfl))); clear hO_ hK_)
                    go_roundw
                    case rel => exact ⟨lm, nx, pre ++ [nx], _, rfl, rfl, by go_num, by simp [Hid]; omega, by have := HPw.out; rw [HW.out] at this; rw [List.append_assoc]; exact this, HO8.out, HF8.out, HB8.out⟩
                    case measure => simp [intOf]
              · obtain rfl : ll = 0 := by omega
                have HPe := hide (show pre = (sN : Int) :: wayS xs F (n : Int) bl (sN : Int) by have := HPw.out; rwa [wayS, List.append_nil] at this)
                go_wp2_with fail
                go_ret
                exact ⟨_, rfl, by rw [HE2.out, ← HPe.out]; exact HO6.out.mono (fun b hb => ⟨hb.1.1, hb.2⟩) (fun _ _ => rfl), HB6.out⟩
    · obtain rfl : sN = n := by omega
      have HE2 := hide (show cycFrom xs sN sN 0 = [] from by have := HE.out; rwa [Nat.sub_self] at this)
      go_wp2_with fail
      go_ret
      exact ⟨_, rfl, by rw [HE2.out]; exact HO.out.mono (fun b hb => by rw [hb]; exact ⟨Nat.le_refl _, hgt⟩) (fun _ _ => rfl), HB.out⟩
set_option maxRecDepth 10000 in
set_option maxHeartbeats 1000000 in
/-- CycleOf of the reference answers the list. -/
theorem specCycleOf (many : Int) (xs : List Edge) (A : Option Addr) (c : Nat) (w : World) (hl : xs.length ≤ maxLen) (hA : Row tEdge w (Old w) A xs) :
    Calls Tryz.prog 37 #[.int .i64 many, .slice A xs.length c] w fun e w' => ∃ v, e = .returned v ∧ Own tInt 3 w' (New w w') (cycO many xs) v ∧ Below w.heap.size w w' := by
  cases hv : edgesV many xs with
  | true =>
    have h := hv
    unfold edgesV at h
    simp only [Bool.and_eq_true, inR_iff, decide_eq_true_eq] at h
    obtain ⟨n, rfl⟩ : ∃ n : Nat, many = (n : Int) := ⟨many.toNat, by omega⟩
    have := specCycT n xs A c w (by omega) (by omega) hv hA
    rw [show cycO n xs = cycFrom xs n n 0 by unfold cycO; rw [if_pos hv, Int.toNat_natCast]]
    exact this
  | false =>
    have HR := hide (show cycO many xs = [] by unfold cycO; rw [hv]; rfl)
    have HV := hide hv
    have HA := hide hA
    have HM := hide hl
    clear hA hv hl
    have HO0 := hide (Own.empty (T := tInt) (e := 3) w (fun b => w.heap.size ≤ b) (Nat.le_refl _))
    have HB0 := hide ((Below.refl _ w).alloc (Nat.le_refl _) (.cells #[] 3))
    rw [HR.out]
    clear HR
    go_enter Tryz.func37, Tryz.ntmps37
    go_wp2_with fail
    go_loopw [5, 6, 7, 8, 9, 10, 11, 12, 13] (fun o s _ _ _ _ _ _ _ wr => s = .int .i64 0 ∧ o = .slice (some ⟨w.heap.size, 0, none⟩) 0 0 ∧ wr = w.alloc (.cells #[] 3)) (fun _ _ _ _ _ _ _ _ _ _ => 0)
    case atStart => exact ⟨rfl, rfl, rfl⟩
    case round =>
      obtain ⟨rfl, rfl, rfl⟩ := hrel
      by_cases hgo : 0 < many
      · go_wp2_with (go_at_call 59; refine (specEdgesValid many xs A c _ HM.out (HA.out.old HB0.out)).mono ?_; rintro e w2 ⟨rfl, hb2⟩; have HB2 := hide (HB0.out.trans (hb2.mono HB0.out.size)); have HO2 := hide (HO0.out.onlyBelow hb2); rw [HV.out]; clear hb2)
        go_ret
        exact ⟨_, rfl, HO2.out, HB2.out⟩
      · go_wp2_with fail
        go_ret
        exact ⟨_, rfl, HO0.out, HB0.out⟩
end Go.Proofs.YtjiobgfaohldhaaGreat
