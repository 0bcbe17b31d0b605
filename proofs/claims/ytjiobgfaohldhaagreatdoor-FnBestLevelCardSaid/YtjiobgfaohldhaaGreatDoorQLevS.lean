/- The reference's l10Upto and HasAnomaly. -/
import Derived.Test.YtjiobgfaohldhaaGreatDoorQFollow
import Derived.Test.YtjiobgfaohldhaaGreatDoorQAnyG
import Derived.Test.YtjiobgfaohldhaaGreatDoorQEdgI
namespace Go.Proofs.YtjiobgfaohldhaaGreatDoor
open Go.RowKit
set_option linter.unusedVariables false
set_option linter.unusedSimpArgs false

theorem upto_succ (k : Int) (xs : List Edge) (j : Nat) (hj : j < xs.length) : uptoE k (xs.take (j + 1)) = uptoE k (xs.take j) ++ (if decide (xs[j].Kind ≤ k) then [xs[j]] else []) := by
  unfold uptoE
  rw [List.take_succ_eq_append_getElem hj, List.filter_append]
  congr 1
  simp [List.filter_cons]
theorem upto_len (k : Int) (xs : List Edge) : (uptoE k xs).length ≤ xs.length := List.length_filter_le _ _
set_option maxRecDepth 10000 in
set_option maxHeartbeats 2000000 in
theorem specUpto (xs : List Edge) (kind : Int) (A : Option Addr) (c : Nat) (w : World) (hl : xs.length ≤ 144) (hA : Row tEdge w (Old w) A xs) :
    Calls Tryz.prog 138 #[.slice A xs.length c, .int .i64 kind] w fun e w' => ∃ v, e = .returned v ∧ Own tEdge 95 w' (New w w') (uptoE kind xs) v ∧ Below w.heap.size w w' := by
  obtain ⟨i0, hi, hz0, hz1, hz2⟩ := info_parts infoEdgeP
  have hq : xs.length ≤ 9223372036854775807 := by omega
  have HA := hide hA
  have HO0 := hide (Own.empty (T := tEdge) (e := 95) w (fun b => w.heap.size ≤ b) (Nat.le_refl _))
  have HB0 := hide ((Below.refl _ w).alloc (Nat.le_refl _) (.cells #[] 95))
  clear hA
  go_enter Tryz.func138, Tryz.ntmps138
  go_wp2_with fail
  go_loopw [5, 6] (fun v i wr => ∃ k : Nat, k ≤ xs.length ∧ i = .int .i64 k ∧ Hid (Own tEdge 95 wr (fun b => w.heap.size ≤ b ∧ Old wr b) (uptoE kind (xs.take k)) v) ∧ Hid (Below w.heap.size w wr)) (fun _ i _ => xs.length - (intOf i).toNat)
  case atStart => exact ⟨0, Nat.zero_le _, rfl, HO0.out, HB0.out⟩
  case round =>
    obtain ⟨k, hk, rfl, hO, hb⟩ := hrel
    have HO := hide hO.out; have HB := hide hb.out
    clear hO hb HO0 HB0
    by_cases hlt : k < xs.length
    · have hki : (k : Int) < (xs.length : Int) := by omega
      have HS := hide (upto_succ kind xs k hlt)
      have HL := hide (show (uptoE kind (xs.take k)).length ≤ 144 from Nat.le_trans (upto_len _ _) (by rw [List.length_take]; omega))
      obtain ⟨b, off, rfl, hbS, c0, c1, c2⟩ := at_Edge HA.out HB.out hlt
      generalize uptoE kind (xs.take k) = Y at HO HS HL
      cases hd : decide (xs[k].Kind ≤ kind) with
      | false =>
        have HS2 := hide (show uptoE kind (xs.take (k + 1)) = Y by rw [HS.out, hd]; simp)
        have hn : ¬ xs[k].Kind ≤ kind := of_decide_eq_false hd
        clear hd HS
        go_wp2_with fail
        go_roundw
        case rel => exact ⟨k + 1, by omega, by go_num, by rw [HS2.out]; exact HO.out, HB.out⟩
        case measure => simp [intOf]; omega
      | true =>
        have HS2 := hide (show uptoE kind (xs.take (k + 1)) = Y ++ [xs[k]] by rw [HS.out, hd]; rfl)
        have hn : xs[k].Kind ≤ kind := of_decide_eq_true hd
        clear hd HS
        generalize xs[k] = x at c0 c1 c2 HS2 hn
        obtain ⟨f, t, kd⟩ := x
        dsimp only at c0 c1 c2 hn
        go_wp2_with (at_builtin; refine wpList_put tEdge rfl (.tmp 21) (.tmp 26) 55 rfl 95 i0 _ 24 Tryz.underlying55 hi hz0 hz1 hz2 rfl (by decide) (fun b => w.heap.size ≤ b) (fun _ => False) Y ⟨f, t, kd⟩ [.int .i64 f, .int .i64 t, .int .i64 kd] _ rfl HO.out 1 rfl rfl (fun b h => h.elim) (fun b hb => Nat.le_trans HB.out.size hb) (by have := HL.out; simp only [maxLen]; omega) (by have := HL.out; omega) ?_; intro v6 w6 hO_ hK_; have HO6 := hide hO_; have HK6 := hide hK_; clear hO_ hK_)
        go_roundw
        case rel => exact ⟨k + 1, by omega, by go_num, by rw [HS2.out]; exact HO6.out, below_only HB.out HK6.out HB.out.size (fun i h => h)⟩
        case measure => simp [intOf]; omega
    · obtain rfl : k = xs.length := by omega
      rw [List.take_length] at HO
      go_wp2_with fail
      go_ret
      exact ⟨_, rfl, HO.out.mono (fun b h => ⟨h.1, h.2⟩) (fun _ _ => rfl), HB.out⟩
/-- The facts of the drawn region in HasAnomaly: operation 14 makes the list of ways, 20 points into it. -/
def FFar (far : List Int) (ft : Int) (V : Nat → Value) (i : Nat) (v : Value) (w : World) : Prop :=
  if i = 14 then ∃ A c, v = .slice A far.length c ∧ Row tInt w (Old w) A far
  else if i = 20 then ∃ p, v = .pointer (some p) ∧ w.cell? p = some (.int .i64 ft) ∧ Old w p.block
  else v = V i
theorem FFar.get {far : List Int} {ft : Int} {V : Nat → Value} {i : Nat} {v : Value} {w : World} (h : FFar far ft V i v w) (h1 : i ≠ 14) (h2 : i ≠ 20) : v = V i := by
  unfold FFar at h; rwa [if_neg h1, if_neg h2] at h
theorem FFar.val {far : List Int} {ft : Int} {V : Nat → Value} {i : Nat} {v : Value} {w : World} (h1 : i ≠ 14) (h2 : i ≠ 20) (h : v = V i) : FFar far ft V i v w := by
  unfold FFar; rwa [if_neg h1, if_neg h2]
theorem FFar.ev {far : List Int} {ft : Int} {V : Nat → Value} {i : Nat} {v : Value} {wa wb : World} (h : FFar far ft V i v wa) (hb : Below wa.heap.size wa wb) : FFar far ft V i v wb := by
  unfold FFar at *
  split
  · rename_i h1
    rw [if_pos h1] at h
    obtain ⟨A, c, h2, h3⟩ := h
    exact ⟨A, c, h2, h3.old hb⟩
  · rename_i h1
    rw [if_neg h1] at h
    split
    · rename_i h4
      rw [if_pos h4] at h
      obtain ⟨p, h2, h3, h5⟩ := h
      exact ⟨p, h2, (hb.cell h5).trans h3, Nat.lt_of_lt_of_le h5 hb.size⟩
    · rename_i h4
      rwa [if_neg h4] at h
theorem FFar.row {far : List Int} {ft : Int} {V : Nat → Value} {v : Value} {w : World} (h : FFar far ft V 14 v w) : ∃ A c, v = .slice A far.length c ∧ Row tInt w (Old w) A far := by
  unfold FFar at h; rwa [if_pos rfl] at h
theorem FFar.ptr {far : List Int} {ft : Int} {V : Nat → Value} {v : Value} {w : World} (h : FFar far ft V 20 v w) : ∃ p, v = .pointer (some p) ∧ w.cell? p = some (.int .i64 ft) ∧ Old w p.block := by
  unfold FFar at h; rwa [if_neg (by decide), if_pos rfl] at h
theorem FFar.mkRow {far : List Int} {ft : Int} {V : Nat → Value} {A : Option Addr} {c : Nat} {w : World} (h : Row tInt w (Old w) A far) : FFar far ft V 14 (.slice A far.length c) w := by
  unfold FFar; rw [if_pos rfl]; exact ⟨A, c, rfl, h⟩
theorem FFar.mkPtr {far : List Int} {ft : Int} {V : Nat → Value} {p : Addr} {w : World} (h : w.cell? p = some (.int .i64 ft)) (ho : Old w p.block) : FFar far ft V 20 (.pointer (some p)) w := by
  unfold FFar; rw [if_neg (by decide), if_pos rfl]; exact ⟨p, rfl, h, ho⟩
/-- An edge of the kind 3 with a way back. -/
def farP (n : Nat) (fl : List Edge) (e : Edge) : Bool := e.Kind == 3 && decide (0 ≤ (farS n fl e.From.toNat).getD e.To.toNat 0)
theorem sing_any {n : Nat} {xs : List Edge} (hv : edgesV (n : Int) xs = true) : singB xs = xs.any (farP n (uptoE 2 xs)) := by
  unfold singB
  rw [(upto_sub hv).2.1, Bool.eq_iff_iff, List.any_eq_true, List.any_eq_true]
  constructor
  · rintro ⟨e, he, h⟩
    refine ⟨e, he, ?_⟩
    unfold farP
    rw [← sing_far hv he]; exact h
  · rintro ⟨e, he, h⟩
    refine ⟨e, he, ?_⟩
    unfold farP at h
    rw [sing_far hv he]; exact h
theorem anyP_succ {p : Edge → Bool} {xs : List Edge} {k : Nat} (hk : k < xs.length) (h : (xs.take k).any p = false) : (xs.take (k + 1)).any p = p xs[k] := by
  rw [List.take_succ_eq_append_getElem hk, List.any_append, h]; simp
theorem ano_cyc {n : Nat} {xs : List Edge} (hv : edgesV (n : Int) xs = true) : anoB (n : Int) xs 1 = decide (0 < (cycO (n : Int) (uptoE 1 xs)).length) ∧ anoB (n : Int) xs 2 = decide (0 < (cycO (n : Int) (uptoE 2 xs)).length) ∧ anoB (n : Int) xs 4 = decide (0 < (cycO (n : Int) (uptoE 3 xs)).length) ∧ anoB (n : Int) xs 3 = xs.any (farP n (uptoE 2 xs)) := by
  obtain ⟨h1, h2, h3, h4⟩ := ano_three (many := (n : Int)) (xs := xs)
  obtain ⟨u1, u2, u3⟩ := upto_sub hv
  refine ⟨?_, ?_, ?_, ?_⟩
  · rw [h1, hv, Bool.true_and, round_cyc hv, u1]
  · rw [h2, hv, Bool.true_and, round_cyc hv, u2]
  · rw [h4, hv, Bool.true_and, round_cyc hv, u3]
  · rw [h3, hv, Bool.true_and, sing_any hv]
set_option maxRecDepth 10000 in
set_option maxHeartbeats 4000000 in
theorem specHasAnomaly (many : Int) (xs : List Edge) (kind : Int) (A : Option Addr) (c : Nat) (w : World) (hl : xs.length ≤ maxLen) (hA : Row tEdge w (Old w) A xs) :
    Calls Tryz.prog 107 #[.int .i64 many, .slice A xs.length c, .int .i64 kind] w fun e w' => e = .returned (.bool (anoB many xs kind)) ∧ Below w.heap.size w w' := by
  have HE := hide (specEdgesValid many xs A c w hl hA)
  cases hv : edgesV many xs with
  | false =>
    rw [hv] at HE
    have HR := hide (show anoB many xs kind = false by unfold anoB; rw [hv]; rfl)
    clear hv hA
    go_enter Tryz.func107, Tryz.ntmps107
    go_wp2_with (go_at_call 87; refine HE.out.mono ?_; rintro e w1 ⟨rfl, hb1⟩; have HB1 := hide hb1; clear hb1)
    go_ret
    exact ⟨ret_bool HR.out.symm, HB1.out⟩
  | true =>
    rw [hv] at HE
    obtain ⟨hall, hm0, hm6, h144⟩ := edgesV_all hv
    obtain ⟨n, rfl⟩ : ∃ n : Nat, many = (n : Int) := ⟨many.toNat, by omega⟩
    have HAc := hide (ano_cyc hv)
    have HUp := hide (fun (k : Int) (W : World) (hb : Below w.heap.size w W) => specUpto xs k A c W h144 (hA.old hb))
    have HUl := hide (fun k => Nat.le_trans (upto_len k xs) h144)
    have HAll := hide hall
    have HAu := hide (show (uptoE 2 xs).all (edgeOk n) = true from List.all_eq_true.2 fun e he => List.all_eq_true.1 hall e (List.mem_filter.1 he).1)
    have HA := hide hA
    have hqx : xs.length ≤ 9223372036854775807 := by omega
    clear hA hv hall hl
    by_cases k1 : kind = 1
    · subst k1
      have HR0 := hide HAc.out.1
      clear HAc
      go_enter Tryz.func107, Tryz.ntmps107
      go_wp2_with (first | (go_at_call 87; refine HE.out.mono ?_; rintro e w1 ⟨rfl, hb1⟩; have HB1 := hide hb1; clear hb1) | (go_at_call 138; refine (HUp.out 1 w1 HB1.out).mono ?_; rintro e w2 ⟨v2, rfl, hO2, hb2⟩; obtain ⟨A2, c2, rfl, h21, h22, h23⟩ := hO2.sl; have HR2 := hide (h23.mono (w' := w2) (S' := Old w2) (fun b h => h.2) (fun _ _ => rfl)); have HB2 := hide (HB1.out.trans (hb2.mono HB1.out.size)); have HB12 := hide hb2; clear h23 hb2 hO2) | (go_at_call 47; refine (specCycleOf (n : Int) (uptoE 1 xs) A2 c2 w2 (by have := HUl.out 1; simp only [maxLen]; omega) HR2.out).mono ?_; rintro e w3 ⟨v3, rfl, hO3, hb3⟩; obtain ⟨A3, c3, rfl, _⟩ := hO3.sl; have HB3 := hide (HB2.out.trans (hb3.mono HB2.out.size)); clear hb3 hO3))
      go_ret
      exact ⟨ret_bool HR0.out.symm, HB3.out⟩
    by_cases k2 : kind = 2
    · subst k2
      have HR0 := hide HAc.out.2.1
      clear HAc
      go_enter Tryz.func107, Tryz.ntmps107
      go_wp2_with (first | (go_at_call 87; refine HE.out.mono ?_; rintro e w1 ⟨rfl, hb1⟩; have HB1 := hide hb1; clear hb1) | (go_at_call 138; refine (HUp.out 2 w1 HB1.out).mono ?_; rintro e w2 ⟨v2, rfl, hO2, hb2⟩; obtain ⟨A2, c2, rfl, h21, h22, h23⟩ := hO2.sl; have HR2 := hide (h23.mono (w' := w2) (S' := Old w2) (fun b h => h.2) (fun _ _ => rfl)); have HB2 := hide (HB1.out.trans (hb2.mono HB1.out.size)); have HB12 := hide hb2; clear h23 hb2 hO2) | (go_at_call 47; refine (specCycleOf (n : Int) (uptoE 2 xs) A2 c2 w2 (by have := HUl.out 2; simp only [maxLen]; omega) HR2.out).mono ?_; rintro e w3 ⟨v3, rfl, hO3, hb3⟩; obtain ⟨A3, c3, rfl, _⟩ := hO3.sl; have HB3 := hide (HB2.out.trans (hb3.mono HB2.out.size)); clear hb3 hO3))
      go_ret
      exact ⟨ret_bool HR0.out.symm, HB3.out⟩
    by_cases k4 : kind = 4
    · subst k4
      have HR0 := hide HAc.out.2.2.1
      clear HAc
      go_enter Tryz.func107, Tryz.ntmps107
      go_wp2_with (first | (go_at_call 87; refine HE.out.mono ?_; rintro e w1 ⟨rfl, hb1⟩; have HB1 := hide hb1; clear hb1) | (go_at_call 138; refine (HUp.out 3 w1 HB1.out).mono ?_; rintro e w2 ⟨v2, rfl, hO2, hb2⟩; obtain ⟨A2, c2, rfl, h21, h22, h23⟩ := hO2.sl; have HR2 := hide (h23.mono (w' := w2) (S' := Old w2) (fun b h => h.2) (fun _ _ => rfl)); have HB2 := hide (HB1.out.trans (hb2.mono HB1.out.size)); have HB12 := hide hb2; clear h23 hb2 hO2) | (go_at_call 47; refine (specCycleOf (n : Int) (uptoE 3 xs) A2 c2 w2 (by have := HUl.out 3; simp only [maxLen]; omega) HR2.out).mono ?_; rintro e w3 ⟨v3, rfl, hO3, hb3⟩; obtain ⟨A3, c3, rfl, _⟩ := hO3.sl; have HB3 := hide (HB2.out.trans (hb3.mono HB2.out.size)); clear hb3 hO3))
      go_ret
      exact ⟨ret_bool HR0.out.symm, HB3.out⟩
    by_cases k3 : kind = 3
    · subst k3
      have HR0 := hide HAc.out.2.2.2
      clear HAc k1 k2 k4
      have hfl := HUl.out 2
      go_enter Tryz.func107, Tryz.ntmps107
      go_upto_region 13 with (first | (go_at_call 87; refine HE.out.mono ?_; rintro e w1 ⟨rfl, hb1⟩; have HB1 := hide hb1; clear hb1) | (go_at_call 138; refine (HUp.out 2 w1 HB1.out).mono ?_; rintro e w2 ⟨v2, rfl, hO2, hb2⟩; obtain ⟨A2, c2, rfl, h21, h22, h23⟩ := hO2.sl; have HR2 := hide (h23.mono (w' := w2) (S' := Old w2) (fun b h => h.2) (fun _ _ => rfl)); have HB2 := hide (HB1.out.trans (hb2.mono HB1.out.size)); have HB12 := hide hb2; clear h23 hb2 hO2))
      generalize uptoE 2 xs = fl at HR0 HAu HR2 h21 hfl
      go_loopw [8] (fun i wr => ∃ k : Nat, k ≤ xs.length ∧ i = .int .i64 k ∧ Hid ((xs.take k).any (farP n fl) = false) ∧ Hid (Below w2.heap.size w2 wr)) (fun i _ => xs.length - (intOf i).toNat)
      case atStart => exact ⟨0, Nat.zero_le _, rfl, by rw [List.take_zero]; rfl, Below.refl _ _⟩
      case round =>
        obtain ⟨k, hk, rfl, hI, hb⟩ := hrel
        have HI := hide hI.out; have HB3 := hide hb.out
        clear hI hb
        have HB4 := hide (HB2.out.trans (HB3.out.mono HB2.out.size))
        by_cases hlt : k < xs.length
        · have hki : (k : Int) < (xs.length : Int) := by omega
          obtain ⟨b, off, hAe, hbS, c0, c1, c2'⟩ := at_Edge HA.out HB4.out hlt
          subst hAe
          obtain ⟨f, t, hf, ht, hfn, htn⟩ := edge_nat HAll.out hlt
          have HPs := hide (anyP_succ (p := farP n fl) hlt HI.out)
          have HPx := hide (show farP n fl xs[k] = (xs[k].Kind == 3 && decide (0 ≤ (farS n fl f).getD t 0)) by unfold farP; rw [hf, ht]; rfl)
          have HPa := hide (fun (h : farP n fl xs[k] = true) => show xs.any (farP n fl) = true from List.any_eq_true.2 ⟨_, List.getElem_mem hlt, h⟩)
          rw [hf] at c0; rw [ht] at c1
          have HbS := hide (Nat.lt_of_lt_of_le hbS HB4.out.size)
          clear hf ht hbS
          generalize xs[k].Kind = kd at c2' HPx
          by_cases h3 : kd = 3
          · subst h3
            have HFa := hide (fun (W : World) (hb : Below w2.heap.size w2 W) => specFar n fl f A2 c2 W hfl (by omega) hfn HAu.out (HR2.out.old hb))
            have HFl := hide (farS_len n fl f)
            have HC := hide (fun (W : World) (hb : Below wr.heap.size wr W) => And.intro ((hb.cell (p := ⟨b, off + k * 3, none⟩) HbS.out).trans c0) (And.intro ((hb.cell (p := ⟨b, off + k * 3 + 1, none⟩) HbS.out).trans c1) ((hb.cell (p := ⟨b, off + k * 3 + 2, none⟩) HbS.out).trans c2')))
            generalize farS n fl f = far at HPx HFa HFl
            have HTf := hide (show t < far.length by rw [HFl.out]; exact htn)
            have HGt := hide (show far.getD t 0 = far[t]'HTf.out by simp [HTf.out])
            obtain ⟨ft, hft⟩ : ∃ ft : Int, ft = far[t]'HTf.out := ⟨_, rfl⟩
            have HFt := hide hft
            clear c0 c1 c2' hft
            go_upto_region 15 with fail
            refine wp_region_factsG 23 (fun _ W => Below wr.heap.size wr W) (FFar far ft (fun q9 : Nat => match q9 with | 0 => .slice (some ⟨b, off, none⟩) xs.length c | 1 => .int .i64 (k : Int) | 2 => .pointer (some ⟨b, off + k * 3, none⟩) | 3 => .pointer (some ⟨b, off + k * 3 + 2, none⟩) | 4 => .int .i64 3 | 5 => .bool true | 6 => .bool true | 7 => .int .i64 (n : Int) | 8 => .slice A2 fl.length c2 | 9 => .slice (some ⟨b, off, none⟩) xs.length c | 10 => .int .i64 (k : Int) | 11 => .pointer (some ⟨b, off + k * 3, none⟩) | 12 => .pointer (some ⟨b, off + k * 3, none⟩) | 13 => .int .i64 (f : Int) | 14 => undef | 15 => .slice (some ⟨b, off, none⟩) xs.length c | 16 => .int .i64 (k : Int) | 17 => .pointer (some ⟨b, off + k * 3, none⟩) | 18 => .pointer (some ⟨b, off + k * 3 + 1, none⟩) | 19 => .int .i64 (t : Int) | 20 => undef | 21 => .int .i64 ft | 22 => .bool (decide (0 ≤ ft)) | _ => undef)) (fun _ a b => Below a.heap.size a b) [some 48, some 49, some 50, some 51, some 52, some 53, some 54, some 55, some 56, some 57, some 58, some 59, some 60, some 61, some 62, some 63, some 64, some 65, some 66, some 67, some 68, some 69, some 70] (by kernel_rfl) (by kernel_rfl) (by kernel_rfl) ?_ (by kernel_rfl) ?_ ?_ ?_ ?_
            · intro i p9 hi hg v w9 hF
              have hp : p9 = (6, true) := by
                have hi' : i = 0 ∨ i = 1 ∨ i = 2 ∨ i = 3 ∨ i = 4 ∨ i = 5 ∨ i = 6 ∨ i = 7 ∨ i = 8 ∨ i = 9 ∨ i = 10 ∨ i = 11 ∨ i = 12 ∨ i = 13 ∨ i = 14 ∨ i = 15 ∨ i = 16 ∨ i = 17 ∨ i = 18 ∨ i = 19 ∨ i = 20 ∨ i = 21 ∨ i = 22 := by omega
                clear hF hi
                rcases hi' with rfl | rfl | rfl | rfl | rfl | rfl | rfl | rfl | rfl | rfl | rfl | rfl | rfl | rfl | rfl | rfl | rfl | rfl | rfl | rfl | rfl | rfl | rfl <;> first | (cases hg; done) | (exact (Option.some.inj hg).symm)
              subst hp
              exact hF.get (by decide) (by decide)
            · exact (Below.refl _ wr).drew
            · intro i k9 v wa wb _ _ _ hF hE; exact hF.ev hE
            · intro i o hi ho a wa L hL hJ hc hd K hK
              have hi' : i = 0 ∨ i = 1 ∨ i = 2 ∨ i = 3 ∨ i = 4 ∨ i = 5 ∨ i = 6 ∨ i = 7 ∨ i = 8 ∨ i = 9 ∨ i = 10 ∨ i = 11 ∨ i = 12 ∨ i = 13 ∨ i = 14 ∨ i = 15 ∨ i = 16 ∨ i = 17 ∨ i = 18 ∨ i = 19 ∨ i = 20 ∨ i = 21 ∨ i = 22 := by omega
              clear hi
              rcases hi' with rfl | rfl | rfl | rfl | rfl | rfl | rfl | rfl | rfl | rfl | rfl | rfl | rfl | rfl | rfl | rfl | rfl | rfl | rfl | rfl | rfl | rfl | rfl
              all_goals
                simp only [List.getElem?_toArray, List.getElem?_cons_zero, List.getElem?_cons_succ, Option.some.injEq] at ho
                subst ho
                simp only [reduceCtorEq, if_false] at hK
              · have e1 := (hc 1 (by kernel_rfl)).trans rfl
                go_simp
                exact hK _ _ (FFar.val (by decide) (by decide) rfl) hJ (Below.refl _ _)
              · have e8 := (hc 8 (by kernel_rfl)).trans rfl
                go_simp
                exact hK _ _ (FFar.val (by decide) (by decide) rfl) hJ (Below.refl _ _)
              · have e48 : a.tmps.getD 48 undef = .slice (some ⟨b, off, none⟩) xs.length c := (hd 0 48 (by kernel_rfl)).get (by decide) (by decide)
                have e49 : a.tmps.getD 49 undef = .int .i64 (k : Int) := (hd 1 49 (by kernel_rfl)).get (by decide) (by decide)
                have s2 : k < xs.length := hlt
                go_simp
                exact hK _ _ (FFar.val (by decide) (by decide) rfl) hJ (Below.refl _ _)
              · have e50 : a.tmps.getD 50 undef = .pointer (some ⟨b, off + k * 3, none⟩) := (hd 2 50 (by kernel_rfl)).get (by decide) (by decide)
                go_simp
                exact hK _ _ (FFar.val (by decide) (by decide) rfl) hJ (Below.refl _ _)
              · have e51 : a.tmps.getD 51 undef = .pointer (some ⟨b, off + k * 3 + 2, none⟩) := (hd 3 51 (by kernel_rfl)).get (by decide) (by decide)
                have c9 := (HC.out wa hJ).2.2
                go_simp
                exact hK _ _ (FFar.val (by decide) (by decide) rfl) hJ (Below.refl _ _)
              · have e52 : a.tmps.getD 52 undef = .int .i64 3 := (hd 4 52 (by kernel_rfl)).get (by decide) (by decide)
                go_simp
                exact hK _ _ (FFar.val (by decide) (by decide) rfl) hJ (Below.refl _ _)
              · have e53 : a.tmps.getD 53 undef = .bool true := (hd 5 53 (by kernel_rfl)).get (by decide) (by decide)
                go_simp
                exact hK _ _ (FFar.val (by decide) (by decide) rfl) hJ (Below.refl _ _)
              · have e0 := (hc 0 (by kernel_rfl)).trans rfl
                go_simp
                exact hK _ _ (FFar.val (by decide) (by decide) rfl) hJ (Below.refl _ _)
              · have e7 := (hc 7 (by kernel_rfl)).trans rfl
                go_simp
                exact hK _ _ (FFar.val (by decide) (by decide) rfl) hJ (Below.refl _ _)
              · have e1 := (hc 1 (by kernel_rfl)).trans rfl
                go_simp
                exact hK _ _ (FFar.val (by decide) (by decide) rfl) hJ (Below.refl _ _)
              · have e8 := (hc 8 (by kernel_rfl)).trans rfl
                go_simp
                exact hK _ _ (FFar.val (by decide) (by decide) rfl) hJ (Below.refl _ _)
              · have e57 : a.tmps.getD 57 undef = .slice (some ⟨b, off, none⟩) xs.length c := (hd 9 57 (by kernel_rfl)).get (by decide) (by decide)
                have e58 : a.tmps.getD 58 undef = .int .i64 (k : Int) := (hd 10 58 (by kernel_rfl)).get (by decide) (by decide)
                have s2 : k < xs.length := hlt
                go_simp
                exact hK _ _ (FFar.val (by decide) (by decide) rfl) hJ (Below.refl _ _)
              · have e59 : a.tmps.getD 59 undef = .pointer (some ⟨b, off + k * 3, none⟩) := (hd 11 59 (by kernel_rfl)).get (by decide) (by decide)
                go_simp
                exact hK _ _ (FFar.val (by decide) (by decide) rfl) hJ (Below.refl _ _)
              · have e60 : a.tmps.getD 60 undef = .pointer (some ⟨b, off + k * 3, none⟩) := (hd 12 60 (by kernel_rfl)).get (by decide) (by decide)
                have c9 := (HC.out wa hJ).1
                go_simp
                exact hK _ _ (FFar.val (by decide) (by decide) rfl) hJ (Below.refl _ _)
              · have e55 : a.tmps.getD 55 undef = .int .i64 (n : Int) := (hd 7 55 (by kernel_rfl)).get (by decide) (by decide)
                have e56 : a.tmps.getD 56 undef = .slice A2 fl.length c2 := (hd 8 56 (by kernel_rfl)).get (by decide) (by decide)
                have e61 : a.tmps.getD 61 undef = .int .i64 (f : Int) := (hd 13 61 (by kernel_rfl)).get (by decide) (by decide)
                go_simp
                refine (HFa.out wa (HB3.out.trans (hJ.mono HB3.out.size))).mono ?_
                rintro e w9 ⟨v9, rfl, hO9, hb9⟩
                obtain ⟨A9, d9, rfl, h91, h92, h93⟩ := hO9.sl
                exact hK _ _ (FFar.mkRow (h93.mono (fun b h => h.2) (fun _ _ => rfl))) (hJ.trans (hb9.mono hJ.size)) hb9
              · have e1 := (hc 1 (by kernel_rfl)).trans rfl
                go_simp
                exact hK _ _ (FFar.val (by decide) (by decide) rfl) hJ (Below.refl _ _)
              · have e8 := (hc 8 (by kernel_rfl)).trans rfl
                go_simp
                exact hK _ _ (FFar.val (by decide) (by decide) rfl) hJ (Below.refl _ _)
              · have e63 : a.tmps.getD 63 undef = .slice (some ⟨b, off, none⟩) xs.length c := (hd 15 63 (by kernel_rfl)).get (by decide) (by decide)
                have e64 : a.tmps.getD 64 undef = .int .i64 (k : Int) := (hd 16 64 (by kernel_rfl)).get (by decide) (by decide)
                have s2 : k < xs.length := hlt
                go_simp
                exact hK _ _ (FFar.val (by decide) (by decide) rfl) hJ (Below.refl _ _)
              · have e65 : a.tmps.getD 65 undef = .pointer (some ⟨b, off + k * 3, none⟩) := (hd 17 65 (by kernel_rfl)).get (by decide) (by decide)
                go_simp
                exact hK _ _ (FFar.val (by decide) (by decide) rfl) hJ (Below.refl _ _)
              · have e66 : a.tmps.getD 66 undef = .pointer (some ⟨b, off + k * 3 + 1, none⟩) := (hd 18 66 (by kernel_rfl)).get (by decide) (by decide)
                have c9 := (HC.out wa hJ).2.1
                go_simp
                exact hK _ _ (FFar.val (by decide) (by decide) rfl) hJ (Below.refl _ _)
              · obtain ⟨A9, d9, e62, hR9⟩ := (hd 14 62 (by kernel_rfl)).row
                have e67 : a.tmps.getD 67 undef = .int .i64 (t : Int) := (hd 19 67 (by kernel_rfl)).get (by decide) (by decide)
                obtain ⟨b9, off9, rfl, hb9, c9⟩ := at_Int hR9 (Below.refl _ wa) HTf.out
                have s2 : t < far.length := HTf.out
                go_simp
                exact hK _ _ (FFar.mkPtr (by rw [HFt.out]; exact c9) hb9) hJ (Below.refl _ _)
              · obtain ⟨p9, e68, hc9, _⟩ := (hd 20 68 (by kernel_rfl)).ptr
                go_simp
                exact hK _ _ (FFar.val (by decide) (by decide) rfl) hJ (Below.refl _ _)
              · have e69 : a.tmps.getD 69 undef = .int .i64 ft := (hd 21 69 (by kernel_rfl)).get (by decide) (by decide)
                go_simp
                exact hK _ _ (FFar.val (by decide) (by decide) rfl) hJ (Below.refl _ _)
            · intro vs wz L hL hJ hF
              have f6 : vs 6 = .bool true := (hF 6 (by decide)).get (by decide) (by decide)
              have f22 : vs 22 = .bool (decide (0 ≤ ft)) := (hF 22 (by decide)).get (by decide) (by decide)
              simp only [putD, Act.put, List.setIfInBounds_toArray, List.set_cons_zero, List.set_cons_succ, List.drop_succ_cons, List.drop_zero]
              rw [f6, f22]
              clear hF f6 f22
              have HJ := hide (HB3.out.trans (hJ.mono HB3.out.size))
              have HJ2 := hide (HB4.out.trans (hJ.mono HB4.out.size))
              clear hJ
              by_cases hpos : 0 ≤ ft
              · have HR := hide (show anoB (n : Int) xs 3 = true by rw [HR0.out]; exact HPa.out (by rw [HPx.out, HGt.out, ← HFt.out, decide_eq_true hpos]; rfl))
                clear HPa HPx HPs
                go_wp2_with fail
                go_ret
                exact ⟨ret_bool HR.out.symm, HJ2.out⟩
              · have HI2 := hide (show (xs.take (k + 1)).any (farP n fl) = false by rw [HPs.out, HPx.out, HGt.out, ← HFt.out, decide_eq_false hpos]; rfl)
                clear HPa HPx HPs
                go_wp2_with fail
                go_roundw
                case rel => exact ⟨k + 1, by omega, by go_num, HI2.out, HJ.out⟩
                case measure => simp [intOf]; omega
          · have h3b : (kd == 3) = false := by rw [beq_eq_false_iff_ne]; exact h3
            have HI2 := hide (show (xs.take (k + 1)).any (farP n fl) = false by rw [HPs.out, HPx.out, h3b]; rfl)
            clear HPs HPx HPa
            go_upto_region 15 with fail
            go_quiet (fail)
            go_wp2_with fail
            go_roundw
            case rel => exact ⟨k + 1, by omega, by go_num, HI2.out, below_drewN HB3.out _⟩
            case measure => simp [intOf]; omega
        · obtain rfl : k = xs.length := by omega
          have HR := hide (show anoB (n : Int) xs 3 = false by rw [HR0.out]; have := HI.out; rwa [List.take_length] at this)
          go_wp2_with fail
          go_ret
          exact ⟨ret_bool HR.out.symm, HB4.out⟩
    · have HR := hide (show anoB (n : Int) xs kind = false by unfold anoB; rw [if_neg k1, if_neg k2, if_neg k3, if_neg k4, Bool.and_false])
      clear HAc
      go_enter Tryz.func107, Tryz.ntmps107
      go_wp2_with (go_at_call 87; refine HE.out.mono ?_; rintro e w1 ⟨rfl, hb1⟩; have HB1 := hide hb1; clear hb1)
      go_ret
      exact ⟨ret_bool HR.out.symm, HB1.out⟩
end Go.Proofs.YtjiobgfaohldhaaGreatDoor
