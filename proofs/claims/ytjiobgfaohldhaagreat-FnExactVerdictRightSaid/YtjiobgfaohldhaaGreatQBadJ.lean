/- The reference's l13Has, OwnErrors and BadReads (of the kind BadOwn). The reference's BadReads, of the kind BadOwn. The program's ownErrors. The program's BadReads, of the kind BadOwn. -/
import Derived.Test.YtjiobgfaohldhaaGreatQInsS
import Derived.Test.YtjiobgfaohldhaaGreatQDone
import Derived.Test.YtjiobgfaohldhaaGreatQSnapN
namespace Go.Proofs.YtjiobgfaohldhaaGreat
open Go.RowKit Go.Maps
set_option linter.unusedVariables false
set_option linter.unusedSimpArgs false

theorem lastWs_len (ops : List Op) : (lastWs ops).length ≤ 3 := by rw [← lastWk_3]; exact lastWk_len ops 3
/-- The reads of a transaction that differ from what it did before. -/
def errAt (ops : List Op) (j : Nat) (o : Op) : Bool := o.Kind == 1 && decide (0 ≤ beforeV (ops.take j) o.Key) && (beforeV (ops.take j) o.Key != o.Value)
def ownE (who : Int) (ops : List Op) : Nat → List Span
  | 0 => []
  | j + 1 => ownE who ops j ++ (match ops[j]? with | some o => if errAt ops j o then [⟨who, j⟩] else [] | none => [])
theorem ownE_succ (who : Int) (ops : List Op) (j : Nat) (hj : j < ops.length) : ownE who ops (j + 1) = ownE who ops j ++ (if errAt ops j ops[j] then [⟨who, j⟩] else []) := by
  rw [ownE, List.getElem?_eq_getElem hj]
theorem ownE_len (who : Int) (ops : List Op) : ∀ j, (ownE who ops j).length ≤ j
  | 0 => Nat.le_refl _
  | j + 1 => by
    have := ownE_len who ops j
    rw [ownE, List.length_append]
    split
    · split <;> simp <;> omega
    · simp; omega
def ownEs (h : List Txn) : Nat → List Span
  | 0 => []
  | k + 1 => ownEs h k ++ (match h[k]? with | some t => ownE k t.Ops t.Ops.length | none => [])
theorem ownEs_succ (h : List Txn) (k : Nat) (hk : k < h.length) : ownEs h (k + 1) = ownEs h k ++ ownE k h[k].Ops h[k].Ops.length := by
  rw [ownEs, List.getElem?_eq_getElem hk]
theorem ownEs_len {h : List Txn} (hv : ∀ t ∈ h, t.Ops.length ≤ 6) : ∀ k, k ≤ h.length → (ownEs h k).length ≤ 6 * k
  | 0, _ => Nat.le_refl _
  | k + 1, hk => by
    have h1 := ownEs_len hv k (by omega)
    rw [ownEs_succ h k (by omega), List.length_append]
    have h2 := ownE_len k h[k].Ops h[k].Ops.length
    have h3 := hv h[k] (List.getElem_mem (by omega))
    omega
theorem ownE_who (who : Int) (ops : List Op) : ∀ j, ∀ x ∈ ownE who ops j, x.From = who
  | 0, x, hx => by cases hx
  | j + 1, x, hx => by
    rw [ownE, List.mem_append] at hx
    rcases hx with hx | hx
    · exact ownE_who who ops j x hx
    · split at hx
      · split at hx
        · rw [List.mem_singleton.1 hx]
        · cases hx
      · cases hx
theorem ownEs_who (h : List Txn) : ∀ k, k ≤ h.length → ∀ x ∈ ownEs h k, 0 ≤ x.From ∧ x.From < h.length
  | 0, _, x, hx => by cases hx
  | k + 1, hk, x, hx => by
    rw [ownEs_succ h k (by omega), List.mem_append] at hx
    rcases hx with hx | hx
    · exact ownEs_who h k (by omega) x hx
    · rw [ownE_who _ _ _ x hx]; omega
theorem infoPlace_ : (Tryz.prog.info? 114).map (fun i => (i.zero, i.size, i.bytes)) = some (some (.agg #[.int .i64 0, .int .i64 0]), 2, 16) := by kernel_rfl
set_option maxRecDepth 10000 in
set_option maxHeartbeats 2000000 in
theorem specOwnErrors (xs : List Txn) (A : Option Addr) (c : Nat) (w : World) (hv : histV xs = true) (hm : xs.length ≤ maxLen) (ht : opsN xs ≤ 1048576) (hA : Row tTxn w (Old w) A xs) :
    Calls Tryz.prog 98 #[.slice A xs.length c] w fun e w' => ∃ v, e = .returned v ∧ Own tSpan 114 w' (New w w') (ownEs xs xs.length) v ∧ Below w.heap.size w w' := by
  obtain ⟨i0, hi, hz0, hz1, hz2⟩ := info_parts infoPlace_
  have HC := hide (fun (W : World) (hb : Below w.heap.size w W) => specHistoryValid xs A c W hm (hA.old hb) ht)
  have HA := hide hA
  have hq : xs.length ≤ 9223372036854775807 := by simpa [maxLen] using hm
  have hx6 : xs.length ≤ 6 := (histV_parts hv).1
  have HV := hide (histV_parts hv).2
  have HLn := hide (ownEs_len (h := xs) (fun t ht => (txnOk_parts ((histV_parts hv).2 t ht)).2))
  rw [hv] at HC
  have HO0 := hide (Own.empty (T := tSpan) (e := 114) w (fun b => w.heap.size ≤ b) (Nat.le_refl _))
  clear hA hm ht hv
  go_enter Tryz.func98, Tryz.ntmps98
  go_wp2_with fail
  go_loopw [3, 4, 5, 6, 7] (fun v i _ _ _ wr => ∃ k : Nat, k ≤ xs.length ∧ i = .int .i64 k ∧ Hid (Own tSpan 114 wr (fun b => w.heap.size ≤ b ∧ Old wr b) (ownEs xs k) v) ∧ Below w.heap.size w wr) (fun _ i _ _ _ _ => xs.length - (intOf i).toNat)
  case atStart => exact ⟨0, Nat.zero_le _, rfl, HO0.out, (Below.refl _ w).alloc (Nat.le_refl _) _⟩
  case round =>
    obtain ⟨k, hk, rfl, hO, hb⟩ := hrel
    clear HO0
    by_cases hlt : k < xs.length
    · have HC1 := hide (HC.out wr hb)
      have HS := hide (ownEs_succ xs k hlt)
      have hl := HLn.out k hk
      have HB := hide hb
      have HOk := hide (txnOk_parts (HV.out _ (List.getElem_mem hlt))).1
      have ho6 := (txnOk_parts (HV.out _ (List.getElem_mem hlt))).2
      have hd : decide ((k : Int) < (xs.length : Int)) = true := by simpa using hlt
      obtain ⟨b, off, A2, c2, hA2, hbS, c0, c1, c3, hi1, hi2, hi3⟩ := at_Txn HA.out (Below.refl _ w) hlt
      subst hA2
      have HR := hide hi3; have HC01 := hide (And.intro c0 (And.intro c1 c3))
      have HbS := hide hbS
      clear c0 c1 c3 hi3
      go_wp2_with (go_at_call 49; refine HC1.out.mono ?_; rintro e w2 ⟨rfl, hb2⟩; have HB2 := hide (HB.out.trans (hb2.mono HB.out.size)); have HO2 := hide (hO.out.onlyBelow hb2); clear hb2)
      clear hO hb HC1
      go_loopw [3, 5, 6, 7] (fun v j _ _ wr2 => ∃ l : Nat, l ≤ xs[k].Ops.length ∧ j = .int .i64 l ∧ Hid (Own tSpan 114 wr2 (fun b => w.heap.size ≤ b ∧ Old wr2 b) (ownEs xs k ++ ownE k xs[k].Ops l) v) ∧ Hid (Below w.heap.size w wr2)) (fun _ j _ _ _ => xs[k].Ops.length - (intOf j).toNat)
      case atStart => exact ⟨0, Nat.zero_le _, rfl, by show Own _ _ _ _ (ownEs xs k ++ []) _; rw [List.append_nil]; exact HO2.out, HB2.out⟩
      case round =>
        obtain ⟨l, hl2, rfl, hO, hb⟩ := hrel
        have HB3 := hide hb.out; have HO3 := hide hO.out
        have d0 := (HB3.out.cell (p := ⟨b, off + k * 3, none⟩) HbS.out).trans HC01.out.1
        have d1 := (HB3.out.cell (p := ⟨b, off + k * 3 + 1, none⟩) HbS.out).trans HC01.out.2.1
        have d3 := (HB3.out.cell (p := ⟨b, off + k * 3 + 2, none⟩) HbS.out).trans HC01.out.2.2
        clear hO hb HO2
        have hel := ownE_len k xs[k].Ops l
        by_cases hlt2 : l < xs[k].Ops.length
        · obtain ⟨b2, off2, hA2, hbS2, e0, e1, e2⟩ := at_Op HR.out HB3.out hlt2
          subst hA2
          have HE := hide (ownE_succ k xs[k].Ops l hlt2)
          have HD := hide (show errAt xs[k].Ops l xs[k].Ops[l] = (xs[k].Ops[l].Kind == 1 && decide (0 ≤ beforeV (xs[k].Ops.take l) xs[k].Ops[l].Key) && (beforeV (xs[k].Ops.take l) xs[k].Ops[l].Key != xs[k].Ops[l].Value)) from rfl)
          go_upto_region 9 with (fail)
          have HBW := hide (HB3.out.alloc HB3.out.size (.cells #[.int .i64 xs[k].Ops[l].Kind, .int .i64 xs[k].Ops[l].Key, .int .i64 xs[k].Ops[l].Value] 82))
          have HOW := hide (HO3.out.onlyBelow ((Below.refl _ wr).alloc (Nat.le_refl _) (.cells #[.int .i64 xs[k].Ops[l].Kind, .int .i64 xs[k].Ops[l].Key, .int .i64 xs[k].Ops[l].Value] 82)))
          have HXW := hide (Blk.new wr 82 #[.int .i64 xs[k].Ops[l].Kind, .int .i64 xs[k].Ops[l].Key, .int .i64 xs[k].Ops[l].Value])
          have hzr : wr.heap.size < (wr.alloc (.cells #[.int .i64 xs[k].Ops[l].Kind, .int .i64 xs[k].Ops[l].Key, .int .i64 xs[k].Ops[l].Value] 82)).heap.size := by simp
          generalize wr.alloc _ = W at HBW HOW HXW hzr ⊢
          have x0 := HXW.out.cell 0; have x1 := HXW.out.cell 1; have x2 := HXW.out.cell 2
          simp only [List.getElem?_toArray, List.getElem?_cons_zero, List.getElem?_cons_succ] at x0 x1 x2
          clear d0 d1 d3 e0 e1 e2
          have d0 := (HBW.out.cell (p := ⟨b, off + k * 3, none⟩) HbS.out).trans HC01.out.1
          have d1 := (HBW.out.cell (p := ⟨b, off + k * 3 + 1, none⟩) HbS.out).trans HC01.out.2.1
          have d3 := (HBW.out.cell (p := ⟨b, off + k * 3 + 2, none⟩) HbS.out).trans HC01.out.2.2
          have hbs := HbS.out
          unfold Old at hbs
          have HBd := hide (show Below w.heap.size w W.drew from HBW.out.drew)
          have HOd := hide (show Own tSpan 114 W.drew (fun b => w.heap.size ≤ b ∧ Old W.drew b) (ownEs xs k ++ ownE k xs[k].Ops l) u3 from HOW.out.mono (fun _ h => h) (fun _ _ => rfl))
          have HXd := hide (show Blk W.drew wr.heap.size _ _ from HXW.out)
          have HCl := hide (l4Before_any xs[k] l xs[k].Ops[l].Key (some ⟨b2, off2, none⟩) c2 W.drew (by simp only [maxLen]; omega) hl2 (HR.out.old HBd.out))
          generalize beforeV (xs[k].Ops.take l) xs[k].Ops[l].Key = Bv at HCl HD
          go_still_tail 7, (by kernel_rfl)
          change wpList _ _ _ _ _ W.drew
          generalize W.drew = w4 at HBd HOd HXd HCl ⊢
          clear HBW HOW HXW x0 x1 x2 d0 d1 d3
          cases hkd : (xs[k].Ops[l].Kind == 1) with
          | false =>
            have HE2 := hide (show ownE k xs[k].Ops (l + 1) = ownE k xs[k].Ops l by rw [HE.out, HD.out, hkd]; simp)
            clear HE HD
            go_wp2_with (go_at_call 100; refine HCl.out.mono ?_; rintro e w5 ⟨rfl, hb5⟩; have HB5 := hide (HBd.out.trans (hb5.mono HBd.out.size)); have HO5 := hide (HOd.out.onlyBelow hb5); have hX5 := HXd.out.below hb5 HXd.out.lt; have x0 := hX5.cell 0; have x1 := hX5.cell 1; have x2 := hX5.cell 2; simp only [List.getElem?_toArray, List.getElem?_cons_zero, List.getElem?_cons_succ] at x0 x1 x2; have hz5 := hX5.lt; clear hX5 hb5)
            go_roundw
            case rel => exact ⟨l + 1, by omega, by go_num, by rw [HE2.out]; exact HO5.out, HB5.out⟩
            case measure => simp [intOf]; omega
          | true =>
            cases hge : decide (0 ≤ Bv) with
            | false =>
              have HE2 := hide (show ownE k xs[k].Ops (l + 1) = ownE k xs[k].Ops l by rw [HE.out, HD.out, hkd, hge]; simp)
              clear HE HD
              go_wp2_with (go_at_call 100; refine HCl.out.mono ?_; rintro e w5 ⟨rfl, hb5⟩; have HB5 := hide (HBd.out.trans (hb5.mono HBd.out.size)); have HO5 := hide (HOd.out.onlyBelow hb5); have hX5 := HXd.out.below hb5 HXd.out.lt; have x0 := hX5.cell 0; have x1 := hX5.cell 1; have x2 := hX5.cell 2; simp only [List.getElem?_toArray, List.getElem?_cons_zero, List.getElem?_cons_succ] at x0 x1 x2; have hz5 := hX5.lt; clear hX5 hb5)
              go_roundw
              case rel => exact ⟨l + 1, by omega, by go_num, by rw [HE2.out]; exact HO5.out, HB5.out⟩
              case measure => simp [intOf]; omega
            | true =>
              cases hne : (Bv != xs[k].Ops[l].Value) with
              | false =>
                have HE2 := hide (show ownE k xs[k].Ops (l + 1) = ownE k xs[k].Ops l by rw [HE.out, HD.out, hkd, hge, hne]; simp)
                clear HE HD
                go_wp2_with (go_at_call 100; refine HCl.out.mono ?_; rintro e w5 ⟨rfl, hb5⟩; have HB5 := hide (HBd.out.trans (hb5.mono HBd.out.size)); have HO5 := hide (HOd.out.onlyBelow hb5); have hX5 := HXd.out.below hb5 HXd.out.lt; have x0 := hX5.cell 0; have x1 := hX5.cell 1; have x2 := hX5.cell 2; simp only [List.getElem?_toArray, List.getElem?_cons_zero, List.getElem?_cons_succ] at x0 x1 x2; have hz5 := hX5.lt; clear hX5 hb5)
                go_roundw
                case rel => exact ⟨l + 1, by omega, by go_num, by rw [HE2.out]; exact HO5.out, HB5.out⟩
                case measure => simp [intOf]; omega
              | true =>
                have HE2 := hide (show ownE k xs[k].Ops (l + 1) = ownE k xs[k].Ops l ++ [⟨k, l⟩] by rw [HE.out, HD.out, hkd, hge, hne]; rfl)
                clear HE HD
                go_wp2_with (first | (go_at_call 100; refine HCl.out.mono ?_; rintro e w5 ⟨rfl, hb5⟩; have HB5 := hide (HBd.out.trans (hb5.mono HBd.out.size)); have HO5 := hide (HOd.out.onlyBelow hb5); have hX5 := HXd.out.below hb5 HXd.out.lt; have x0 := hX5.cell 0; have x1 := hX5.cell 1; have x2 := hX5.cell 2; simp only [List.getElem?_toArray, List.getElem?_cons_zero, List.getElem?_cons_succ] at x0 x1 x2; have hz5 := hX5.lt; clear hX5 hb5) | (at_builtin; refine wpList_put tSpan rfl (.tmp 58) (.tmp 62) 78 rfl 114 i0 _ 16 Tryz.underlying78 hi hz0 hz1 (by assumption) rfl (by decide) (fun b => w.heap.size ≤ b) (fun _ => False) (ownEs xs k ++ ownE k xs[k].Ops l) ⟨(k : Int), (l : Int)⟩ [.int .i64 k, .int .i64 l] _ rfl HO5.out 1 rfl rfl (fun _ h => h.elim) (fun b hb => Nat.le_trans HB5.out.size hb) (by rw [List.length_append]; simp only [maxLen]; omega) (by rw [List.length_append]; omega) ?_; intro v6 w6 hO_ hK_; have HO6 := hide hO_; have HK6 := hide hK_; clear hO_ hK_))
                go_roundw
                case rel => exact ⟨l + 1, by omega, by go_num, by rw [HE2.out, ← List.append_assoc]; exact HO6.out, below_only HB5.out HK6.out HB5.out.size (fun i h => h)⟩
                case measure => simp [intOf]; omega
        · obtain rfl : l = xs[k].Ops.length := by omega
          go_wp2_with fail
          go_roundw
          case rel => exact ⟨k + 1, by omega, by go_num, by rw [HS.out]; exact HO3.out, HB3.out⟩
          case measure => simp [intOf]; omega
    · obtain rfl : k = xs.length := by omega
      have hd : decide (((xs.length : Nat) : Int) < (xs.length : Int)) = false := by simp
      have HO1 := hide hO.out
      clear hO
      go_wp2_with fail
      go_ret
      exact ⟨_, rfl, HO1.out, hb⟩
def dnI (h : List Txn) (n : Int) : Bool := (h[n.toNat]?.map Txn.Done).getD false
def badS (h : List Txn) : List Span := (ownEs h h.length).filter fun x => dnI h x.From
theorem filter_take {α : Type} (p : α → Bool) (l : List α) (k : Nat) (hk : k < l.length) : (l.take (k + 1)).filter p = (l.take k).filter p ++ (if p l[k] then [l[k]] else []) := by
  rw [List.take_succ_eq_append_getElem hk, List.filter_append]
  congr 1
  simp [List.filter_cons]
set_option maxRecDepth 10000 in
set_option maxHeartbeats 2000000 in
theorem specBadOwn (xs : List Txn) (A : Option Addr) (c : Nat) (w : World) (hv : histV xs = true) (hm : xs.length ≤ maxLen) (ht : opsN xs ≤ 1048576) (hA : Row tTxn w (Old w) A xs) :
    Calls Tryz.prog 56 #[.slice A xs.length c, .int .i64 4] w fun e w' => ∃ v, e = .returned v ∧ Own tSpan 114 w' (New w w') (badS xs) v ∧ Below w.heap.size w w' := by
  obtain ⟨i0, hi, hz0, hz1, hz2⟩ := info_parts infoPlace_
  have HB1 := hide ((Below.refl _ w).alloc (Nat.le_refl _) (.cells #[] 114))
  have HC1 := hide (specHistoryValid xs A c _ hm (hA.old HB1.out) ht)
  have HEr := hide (fun (W : World) (hb : Below w.heap.size w W) => specOwnErrors xs A c W hv hm ht (hA.old hb))
  have HWho := hide (ownEs_who xs xs.length (Nat.le_refl _))
  have hx6 : xs.length ≤ 6 := (histV_parts hv).1
  have hL0 := ownEs_len (h := xs) (fun t ht => (txnOk_parts ((histV_parts hv).2 t ht)).2) xs.length (Nat.le_refl _)
  have HA := hide hA
  have hq : xs.length ≤ 9223372036854775807 := by simpa [maxLen] using hm
  rw [hv] at HC1
  have HO1 := hide (Own.empty (T := tSpan) (e := 114) w (fun b => w.heap.size ≤ b) (Nat.le_refl _))
  have HD := hide (show badS xs = (ownEs xs xs.length).filter (fun x => dnI xs x.From) from rfl)
  clear hA hm ht hv
  have hL : (ownEs xs xs.length).length ≤ 36 := by omega
  clear hL0
  generalize ownEs xs xs.length = L at HEr HWho HD hL
  have hqL : L.length ≤ 9223372036854775807 := by omega
  go_enter Tryz.func56, Tryz.ntmps56
  go_wp2_with (first | (go_at_call 49; refine HC1.out.mono ?_; rintro e w2 ⟨rfl, hb2⟩; have HB2 := hide (HB1.out.trans (hb2.mono HB1.out.size)); have hw2 := HB2.out.size; have hw22 := hb2.size; have HO2 := hide (HO1.out.onlyBelow hb2); have HE2 := hide (HEr.out _ HB2.out); clear hb2) | (go_at_call 96; refine (l1In _ _ _ _).mono ?_; rintro e w' ⟨rfl, rfl⟩) | (go_at_call 98; refine HE2.out.mono ?_; rintro e w3 ⟨v3, rfl, hO3, hb3⟩; obtain ⟨A3, c3, rfl, h31, h32, _⟩ := hO3.sl; have HR3 := hide (hO3.sl.row); have hw23 := hb3.size; have HB3 := hide (HB2.out.trans (hb3.mono HB2.out.size)); have HO3 := hide (HO2.out.onlyBelow hb3); clear hO3 hb3))
  go_loopw [5, 7] (fun v i wr => ∃ k : Nat, k ≤ L.length ∧ i = .int .i64 k ∧ Hid (Own tSpan 114 wr (fun b => (w.heap.size = b ∨ w3.heap.size ≤ b) ∧ Old wr b) ((L.take k).filter (fun x => dnI xs x.From)) v) ∧ Hid (Below w.heap.size w wr) ∧ Hid (Only (fun b => w.heap.size = b ∨ w3.heap.size ≤ b) w3 wr)) (fun _ i _ => L.length - (intOf i).toNat)
  case atStart =>
    refine ⟨0, by omega, rfl, ?_, HB3.out, Only.refl _ _⟩
    rcases HO3.out with ⟨h1, _⟩ | ⟨g, cap, cur, S', hv3, hg, hBk, k1, k2, k3, k4, k5⟩
    · cases h1
    · have hge : g = w.heap.size := by injection hv3 with h1 _ _; injection h1 with h1; injection h1 with h1 _ _; exact h1.symm
      subst hge
      have h0 : cap = 0 := by injection hv3 with _ _ h3; exact h3.symm
      exact .inr ⟨_, cap, cur, fun _ => False, by rw [h0]; rfl, ⟨.inl rfl, hg.2⟩, hBk, by simp, k2, k3, fun _ h => h.elim, fun j hj => absurd hj (by simp)⟩
  case round =>
    obtain ⟨k, hk, rfl, hO, hb, hK⟩ := hrel
    have HO := hide hO.out; have HB := hide hb.out; have HK := hide hK.out
    have hR := HR3.out.mono (w' := wr) (S' := Old wr) (fun b h => Nat.lt_of_lt_of_le h.2 hK.out.size) (fun b h => hK.out.block b h.2 (by have h1 := h.1; have h2 := h.2; have h3 := hw22; simp at h3; omega))
    clear hO hb hK
    by_cases hlt : k < L.length
    · obtain ⟨b0, off0, hA3, hbS0, e0, e1⟩ := at_Span hR (Below.refl _ _) hlt
      subst hA3
      obtain ⟨hn0, hn1⟩ := HWho.out _ (List.getElem_mem hlt)
      have HS := hide (filter_take (fun x : Span => dnI xs x.From) L k hlt)
      have hfl : ((L.take k).filter (fun x => dnI xs x.From)).length ≤ k := Nat.le_trans (List.length_filter_le _ _) (by rw [List.length_take]; omega)
      generalize L[k] = x at e0 e1 hn0 hn1 HS
      obtain ⟨who, at_⟩ := x
      dsimp only at e0 e1 hn0 hn1 HS
      obtain ⟨n, rfl⟩ : ∃ n : Nat, who = (n : Int) := ⟨who.toNat, by omega⟩
      have hnl : n < xs.length := by omega
      have HDn := hide (show dnI xs (n : Int) = xs[n].Done by unfold dnI; rw [Int.toNat_natCast, List.getElem?_eq_getElem hnl]; rfl)
      obtain ⟨b, off, A2, c2, hA2, hbS, c0, c1, c4, _, _, _⟩ := at_Txn HA.out HB.out hnl
      subst hA2
      clear hR
      cases hdn : xs[n].Done with
      | false =>
        have HS2 := hide (show (L.take (k + 1)).filter (fun x => dnI xs x.From) = (L.take k).filter (fun x => dnI xs x.From) by rw [HS.out, HDn.out, hdn]; simp)
        rw [hdn] at c4
        clear HS HDn hdn
        go_wp2_with fail
        go_roundw
        case rel => exact ⟨k + 1, by omega, by go_num, by rw [HS2.out]; exact HO.out, HB.out, HK.out⟩
        case measure => simp [intOf]; omega
      | true =>
        have HS2 := hide (show (L.take (k + 1)).filter (fun x => dnI xs x.From) = (L.take k).filter (fun x => dnI xs x.From) ++ [⟨n, at_⟩] by rw [HS.out, HDn.out, hdn]; rfl)
        rw [hdn] at c4
        have hz3 := HK.out.size
        clear HS HDn hdn
        go_wp2_with (at_builtin; refine wpList_put tSpan rfl (.tmp 39) (.tmp 44) 78 rfl 114 i0 _ 16 Tryz.underlying78 hi hz0 hz1 (by assumption) rfl (by decide) (fun b => w.heap.size = b ∨ w3.heap.size ≤ b) (fun _ => False) ((L.take k).filter (fun x => dnI xs x.From)) ⟨(n : Int), at_⟩ [.int .i64 n, .int .i64 at_] _ rfl HO.out 1 rfl rfl (fun _ h => h.elim) (fun b hb => .inr (Nat.le_trans hz3 hb)) (by simp only [maxLen]; omega) (by omega) ?_; intro v6 w6 hO_ hK_; have HO6 := hide hO_; have HK6 := hide hK_; clear hO_ hK_)
        go_roundw
        case rel => exact ⟨k + 1, by omega, by go_num, by rw [HS2.out]; exact HO6.out, below_only HB.out HK6.out HB.out.size (fun i h => by omega), HK.out.trans HK6.out⟩
        case measure => simp [intOf]; omega
    · obtain rfl : k = L.length := by omega
      have HO1 := hide (show Own tSpan 114 wr (fun b => (w.heap.size = b ∨ w3.heap.size ≤ b) ∧ Old wr b) (badS xs) u5 by have := HO.out; rw [List.take_length] at this; rw [HD.out]; exact this)
      clear HO hR
      go_wp2_with fail
      go_ret
      exact ⟨_, rfl, HO1.out.mono (fun b h => ⟨by have := h.1; omega, h.2⟩) (fun _ _ => rfl), HB.out⟩
theorem zeroIntV (w : World) : (zeroValue 3).run Tryz.prog w = .ok (.int .i64 0) w := by kernel_rfl
noncomputable def intV : ElKit Tryz.prog 3 Int := intEl Tryz.underlying3 zeroIntV
/-- The value of the last operation on each key. -/
def valF (ops : List Op) (key : Int) : Option Int := (lastOn ops key).map Op.Value
theorem valF_snoc (ops : List Op) (l : Nat) (hl : l < ops.length) : valF (ops.take (l + 1)) = (fun key => if key = ops[l].Key then some ops[l].Value else valF (ops.take l) key) := by
  funext key
  unfold valF
  rw [lastOn_snoc ops l hl]
  by_cases hk : key = ops[l].Key
  · subst hk; simp
  · have hb : (ops[l].Key == key) = false := by rw [beq_eq_false_iff_ne]; exact fun e => hk e.symm
    rw [if_neg hk]
    simp only [hb, Bool.false_eq_true, if_false]
theorem errAt_none {ops : List Op} {l : Nat} {o : Op} (h : lastOn (ops.take l) o.Key = none) : errAt ops l o = false := by
  unfold errAt
  rw [beforeV_none h]
  simp
theorem errAt_some {ops : List Op} {l : Nat} {o q : Op} (h : lastOn (ops.take l) o.Key = some q) (h0 : 0 ≤ q.Value) : errAt ops l o = (o.Kind == 1 && q.Value != o.Value) := by
  unfold errAt
  rw [beforeV_some h, decide_eq_true h0, Bool.and_true]
set_option maxRecDepth 10000 in
set_option maxHeartbeats 4000000 in
theorem implOwnErrors (t : Txn) (who : Int) (A : Option Addr) (c : Nat) (w : World) (h6 : t.Ops.length ≤ 6) (hok : ∀ o ∈ t.Ops, opOk o = true) (hA : Row tOp w (Old w) A t.Ops) :
    Calls Tryz.prog 117 #[.int .i64 who, .agg #[.int .i64 t.Session, .slice A t.Ops.length c, .bool t.Done]] w fun e w' => ∃ v, e = .returned v ∧ Own tSpan 114 w' (New w w') (ownE who t.Ops t.Ops.length) v ∧ Below w.heap.size w w' := by
  obtain ⟨i0, hi, hz0, hz1, hz2⟩ := info_parts infoPlace_
  have hmm := @run_makeMap Tryz.prog
  have HA := hide hA; have HOk := hide hok
  have hq : t.Ops.length ≤ 9223372036854775807 := by omega
  obtain ⟨w1, hw1⟩ : ∃ w1, w1 = w.alloc (.cells #[.int .i64 t.Session, .slice A t.Ops.length c, .bool t.Done] 57) := ⟨_, rfl⟩
  have hs1 : w1.heap.size = w.heap.size + 1 := by rw [hw1]; simp
  obtain ⟨wo, hwo⟩ : ∃ wo, wo = (w1.alloc (.cells #[] 114)).alloc (.map #[] 0) := ⟨_, rfl⟩
  have hso : wo.heap.size = w.heap.size + 3 := by rw [hwo]; simp [hs1]
  have HB0 := hide (show Below w.heap.size w wo by rw [hwo, hw1]; exact (((Below.refl _ w).alloc (Nat.le_refl _) _).alloc (by simp) _).alloc (by simp; omega) _)
  have HO0 := hide (show Own tSpan 114 wo (fun b => (b = w.heap.size + 1 ∨ wo.heap.size ≤ b) ∧ Old wo b) (ownE who t.Ops 0) (.slice (some ⟨w.heap.size + 1, 0, none⟩) 0 0) by
    refine .inr ⟨w.heap.size + 1, 0, #[], fun _ => False, rfl, ⟨.inl rfl, by unfold Old; omega⟩, (show Blk wo _ _ _ by rw [hwo]; exact (show Blk (w1.alloc (.cells #[] 114)) (w.heap.size + 1) _ _ by rw [← hs1]; exact Blk.new w1 _ _).alloc _), by simp [ownE], by simp [maxLen], rfl, fun b h => h.elim, fun k hk => absurd hk (by simp [ownE])⟩)
  have HT0 := hide (show TabG keyI intV wo (w.heap.size + 2) 0 (valF (t.Ops.take 0)) by
    have h := TabG.made (KK := keyI) (EE := intV) (w1.alloc (.cells #[] 114))
    rw [World.size_alloc, hs1, ← hwo] at h
    exact h.congr (fun x _ => rfl))
  clear hA hok
  go_enter Tryz.func117, Tryz.ntmps117
  go_wp2
  simp only [← hw1]
  generalize hW : World.alloc _ _ = W
  have hWo : W = wo := hW.symm.trans hwo.symm
  rw [hWo]
  clear hW hWo hwo W
  go_loopw [5, 7, 8, 9, 10, 16] (fun v _ _ _ _ i wr => ∃ l m : Nat, l ≤ t.Ops.length ∧ i = .int .i64 l ∧ m ≤ l ∧ wo.heap.size ≤ wr.heap.size ∧ Hid (Own tSpan 114 wr (fun b => (b = w.heap.size + 1 ∨ wo.heap.size ≤ b) ∧ Old wr b) (ownE who t.Ops l) v) ∧ Hid (TabG keyI intV wr (w.heap.size + 2) m (valF (t.Ops.take l))) ∧ Hid (Below w.heap.size w wr)) (fun _ _ _ _ _ i _ => t.Ops.length - (intOf i).toNat)
  case atStart => exact ⟨0, 0, Nat.zero_le _, rfl, Nat.le_refl _, Nat.le_refl _, HO0.out, HT0.out, HB0.out⟩
  case round =>
    obtain ⟨l, m, hl, rfl, hm, hwz, hO, hT, hb⟩ := hrel
    clear HO0 HT0 HB0
    have HZ := hide hwz; have HSo := hide hso
    clear hwz hso hs1 hmm
    by_cases hlt : l < t.Ops.length
    · obtain ⟨b2, off2, rfl, hbS2, d0, d1, d2⟩ := at_Op HA.out hb.out hlt
      have hok := HOk.out _ (List.getElem_mem hlt)
      have hp := opOk_parts hok
      have hky : keyI.ok t.Ops[l].Key := wf_small (by omega) (by omega)
      have hvy : intV.ok t.Ops[l].Value := wf_small (by omega) (by omega)
      have HS := hide (valF_snoc t.Ops l hlt)
      have HF := hide (ownE_succ who t.Ops l hlt)
      have hfl := ownE_len who t.Ops l
      have HW := hide (fun W => reads_any t.Ops[l] W)
      have HX := hide (Blk.new wr 82 #[.int .i64 t.Ops[l].Kind, .int .i64 t.Ops[l].Key, .int .i64 t.Ops[l].Value])
      have HT := hide (hT.out.keep (w' := wr.alloc (.cells #[.int .i64 t.Ops[l].Kind, .int .i64 t.Ops[l].Key, .int .i64 t.Ops[l].Value] 82)) (Below.heap_alloc _ _ _ hT.out.lt))
      have HB := hide (hb.out.alloc hb.out.size (.cells #[.int .i64 t.Ops[l].Kind, .int .i64 t.Ops[l].Key, .int .i64 t.Ops[l].Value] 82))
      have HO := hide (hO.out.onlyBelow ((Below.refl _ wr).alloc (Nat.le_refl _) (.cells #[.int .i64 t.Ops[l].Kind, .int .i64 t.Ops[l].Key, .int .i64 t.Ops[l].Value] 82)))
      have HOr := hide hO.out
      clear hok hp hT hb hO
      cases hlo : lastOn (t.Ops.take l) t.Ops[l].Key with
      | none =>
        have HG := hide (show valF (t.Ops.take l) t.Ops[l].Key = none by unfold valF; rw [hlo]; rfl)
        have HEr := hide (errAt_none hlo)
        clear hlo
        cases hkd : (t.Ops[l].Kind == 1) with
        | false =>
          have HW := hide (show Calls Tryz.prog 119 _ _ _ from HW.out (wr.alloc (.cells #[.int .i64 t.Ops[l].Kind, .int .i64 t.Ops[l].Key, .int .i64 t.Ops[l].Value] 82)))
          rw [hkd] at HW
          clear hkd
          have HF2 := hide (show ownE who t.Ops (l + 1) = ownE who t.Ops l by rw [HF.out, HEr.out]; simp)
          clear HF
          go_wp2_with (first | (at_lookup; refine wpList_tab_look_ok (KK := keyI) (EE := intV) _ rfl (.tmp 22) (.tmp 24) 152 rfl Tryz.underlying152 (w.heap.size + 2) _ _ rfl HT.out t.Ops[l].Key hky rfl ?_; rw [HG.out]; dsimp only [intV, intEl, Option.getD_some, Option.getD_none, Option.isSome_some, Option.isSome_none]) | (go_at_call 119; refine HW.out.mono ?_; rintro e w2 ⟨rfl, hb2⟩; have HB2 := hide hb2; have hX2 := HX.out.below hb2 HX.out.lt; have x0 := hX2.cell 0; have x1 := hX2.cell 1; have x2 := hX2.cell 2; simp only [List.getElem?_toArray, List.getElem?_cons_zero, List.getElem?_cons_succ] at x0 x1 x2; have HT2 := hide (HT.out.keep (hb2.block _ HT.out.lt)); have HB3 := hide (HB.out.trans (hb2.mono HB.out.size)); have hz2 : wr.heap.size < w2.heap.size := hX2.lt; have HO2 := hide (HO.out.onlyBelow hb2); have HX2 := hide hX2; have HZ2 := hide (Nat.le_trans HZ.out (Nat.le_of_lt hz2)); clear hb2 hX2) | (at_mapUpdate; refine wpList_tab_put (KK := keyI) (EE := intV) _ rfl (.tmp 45) (.tmp 47) (.tmp 49) 152 rfl Tryz.underlying152 (w.heap.size + 2) m _ rfl HT2.out (by simp only [maxLen]; omega) t.Ops[l].Key hky t.Ops[l].Value hvy rfl rfl ?_; intro w3 hT3 hg3; have HT3 := hide hT3; have HG3 := hide hg3; clear hT3 hg3))
          go_roundw
          case rel => exact ⟨l + 1, m + 1, by omega, by go_num, by omega, Nat.le_trans HZ2.out HG3.out.size, by rw [HF2.out]; exact HO2.out.only (Only.of_grown HG3.out (K := fun b => b = w.heap.size + 2) (fun i hi => by injection hi with hi; exact hi.symm)) (fun b h => ⟨h.2, fun e => by have := h.1; have := HSo.out; omega⟩) |>.mono (fun b h => ⟨h.1, Nat.lt_of_lt_of_le h.2 HG3.out.size⟩) (fun _ _ => rfl), by rw [HS.out]; exact HT3.out, below_tab HB3.out HG3.out (by omega) HB3.out.size⟩
          case measure => simp [intOf]; omega
        | true =>
          have HW := hide (show Calls Tryz.prog 119 _ _ _ from HW.out (wr.alloc (.cells #[.int .i64 t.Ops[l].Kind, .int .i64 t.Ops[l].Key, .int .i64 t.Ops[l].Value] 82)))
          rw [hkd] at HW
          clear hkd
          have HF2 := hide (show ownE who t.Ops (l + 1) = ownE who t.Ops l by rw [HF.out, HEr.out]; simp)
          clear HF
          go_wp2_with (first | (at_lookup; refine wpList_tab_look_ok (KK := keyI) (EE := intV) _ rfl (.tmp 22) (.tmp 24) 152 rfl Tryz.underlying152 (w.heap.size + 2) _ _ rfl HT.out t.Ops[l].Key hky rfl ?_; rw [HG.out]; dsimp only [intV, intEl, Option.getD_some, Option.getD_none, Option.isSome_some, Option.isSome_none]) | (go_at_call 119; refine HW.out.mono ?_; rintro e w2 ⟨rfl, hb2⟩; have HB2 := hide hb2; have hX2 := HX.out.below hb2 HX.out.lt; have x0 := hX2.cell 0; have x1 := hX2.cell 1; have x2 := hX2.cell 2; simp only [List.getElem?_toArray, List.getElem?_cons_zero, List.getElem?_cons_succ] at x0 x1 x2; have HT2 := hide (HT.out.keep (hb2.block _ HT.out.lt)); have HB3 := hide (HB.out.trans (hb2.mono HB.out.size)); have hz2 : wr.heap.size < w2.heap.size := hX2.lt; have HO2 := hide (HO.out.onlyBelow hb2); have HX2 := hide hX2; have HZ2 := hide (Nat.le_trans HZ.out (Nat.le_of_lt hz2)); clear hb2 hX2) | (at_mapUpdate; refine wpList_tab_put (KK := keyI) (EE := intV) _ rfl (.tmp 45) (.tmp 47) (.tmp 49) 152 rfl Tryz.underlying152 (w.heap.size + 2) m _ rfl HT2.out (by simp only [maxLen]; omega) t.Ops[l].Key hky t.Ops[l].Value hvy rfl rfl ?_; intro w3 hT3 hg3; have HT3 := hide hT3; have HG3 := hide hg3; clear hT3 hg3))
          go_roundw
          case rel => exact ⟨l + 1, m + 1, by omega, by go_num, by omega, Nat.le_trans HZ2.out HG3.out.size, by rw [HF2.out]; exact HO2.out.only (Only.of_grown HG3.out (K := fun b => b = w.heap.size + 2) (fun i hi => by injection hi with hi; exact hi.symm)) (fun b h => ⟨h.2, fun e => by have := h.1; have := HSo.out; omega⟩) |>.mono (fun b h => ⟨h.1, Nat.lt_of_lt_of_le h.2 HG3.out.size⟩) (fun _ _ => rfl), by rw [HS.out]; exact HT3.out, below_tab HB3.out HG3.out (by omega) HB3.out.size⟩
          case measure => simp [intOf]; omega
      | some q =>
        have HG := hide (show valF (t.Ops.take l) t.Ops[l].Key = some q.Value by unfold valF; rw [hlo]; rfl)
        have hq0 := (opOk_parts (HOk.out q (List.mem_of_mem_take (lastOn_some hlo).1))).2.2.1
        have HEr := hide (errAt_some hlo hq0)
        clear hlo hq0
        cases hkd : (t.Ops[l].Kind == 1) with
        | false =>
          have HW := hide (show Calls Tryz.prog 119 _ _ _ from HW.out (wr.alloc (.cells #[.int .i64 t.Ops[l].Kind, .int .i64 t.Ops[l].Key, .int .i64 t.Ops[l].Value] 82)))
          rw [hkd] at HW HEr
          clear hkd
          have HF2 := hide (show ownE who t.Ops (l + 1) = ownE who t.Ops l by rw [HF.out, HEr.out]; simp)
          clear HF
          go_wp2_with (first | (at_lookup; refine wpList_tab_look_ok (KK := keyI) (EE := intV) _ rfl (.tmp 22) (.tmp 24) 152 rfl Tryz.underlying152 (w.heap.size + 2) _ _ rfl HT.out t.Ops[l].Key hky rfl ?_; rw [HG.out]; dsimp only [intV, intEl, Option.getD_some, Option.getD_none, Option.isSome_some, Option.isSome_none]) | (go_at_call 119; refine HW.out.mono ?_; rintro e w2 ⟨rfl, hb2⟩; have HB2 := hide hb2; have hX2 := HX.out.below hb2 HX.out.lt; have x0 := hX2.cell 0; have x1 := hX2.cell 1; have x2 := hX2.cell 2; simp only [List.getElem?_toArray, List.getElem?_cons_zero, List.getElem?_cons_succ] at x0 x1 x2; have HT2 := hide (HT.out.keep (hb2.block _ HT.out.lt)); have HB3 := hide (HB.out.trans (hb2.mono HB.out.size)); have hz2 : wr.heap.size < w2.heap.size := hX2.lt; have HO2 := hide (HO.out.onlyBelow hb2); have HX2 := hide hX2; have HZ2 := hide (Nat.le_trans HZ.out (Nat.le_of_lt hz2)); clear hb2 hX2) | (at_mapUpdate; refine wpList_tab_put (KK := keyI) (EE := intV) _ rfl (.tmp 45) (.tmp 47) (.tmp 49) 152 rfl Tryz.underlying152 (w.heap.size + 2) m _ rfl HT2.out (by simp only [maxLen]; omega) t.Ops[l].Key hky t.Ops[l].Value hvy rfl rfl ?_; intro w3 hT3 hg3; have HT3 := hide hT3; have HG3 := hide hg3; clear hT3 hg3))
          go_roundw
          case rel => exact ⟨l + 1, m + 1, by omega, by go_num, by omega, Nat.le_trans HZ2.out HG3.out.size, by rw [HF2.out]; exact HO2.out.only (Only.of_grown HG3.out (K := fun b => b = w.heap.size + 2) (fun i hi => by injection hi with hi; exact hi.symm)) (fun b h => ⟨h.2, fun e => by have := h.1; have := HSo.out; omega⟩) |>.mono (fun b h => ⟨h.1, Nat.lt_of_lt_of_le h.2 HG3.out.size⟩) (fun _ _ => rfl), by rw [HS.out]; exact HT3.out, below_tab HB3.out HG3.out (by omega) HB3.out.size⟩
          case measure => simp [intOf]; omega
        | true =>
          have HW := hide (show Calls Tryz.prog 119 _ _ _ from HW.out (wr.alloc (.cells #[.int .i64 t.Ops[l].Kind, .int .i64 t.Ops[l].Key, .int .i64 t.Ops[l].Value] 82)))
          rw [hkd] at HW HEr
          clear hkd
          cases hne : (q.Value != t.Ops[l].Value) with
          | false =>
            rw [hne] at HEr
            have HF2 := hide (show ownE who t.Ops (l + 1) = ownE who t.Ops l by rw [HF.out, HEr.out]; simp)
            clear HF
            go_wp2_with (first | (at_lookup; refine wpList_tab_look_ok (KK := keyI) (EE := intV) _ rfl (.tmp 22) (.tmp 24) 152 rfl Tryz.underlying152 (w.heap.size + 2) _ _ rfl HT.out t.Ops[l].Key hky rfl ?_; rw [HG.out]; dsimp only [intV, intEl, Option.getD_some, Option.getD_none, Option.isSome_some, Option.isSome_none]) | (go_at_call 119; refine HW.out.mono ?_; rintro e w2 ⟨rfl, hb2⟩; have HB2 := hide hb2; have hX2 := HX.out.below hb2 HX.out.lt; have x0 := hX2.cell 0; have x1 := hX2.cell 1; have x2 := hX2.cell 2; simp only [List.getElem?_toArray, List.getElem?_cons_zero, List.getElem?_cons_succ] at x0 x1 x2; have HT2 := hide (HT.out.keep (hb2.block _ HT.out.lt)); have HB3 := hide (HB.out.trans (hb2.mono HB.out.size)); have hz2 : wr.heap.size < w2.heap.size := hX2.lt; have HO2 := hide (HO.out.onlyBelow hb2); have HX2 := hide hX2; have HZ2 := hide (Nat.le_trans HZ.out (Nat.le_of_lt hz2)); clear hb2 hX2) | (at_mapUpdate; refine wpList_tab_put (KK := keyI) (EE := intV) _ rfl (.tmp 45) (.tmp 47) (.tmp 49) 152 rfl Tryz.underlying152 (w.heap.size + 2) m _ rfl HT2.out (by simp only [maxLen]; omega) t.Ops[l].Key hky t.Ops[l].Value hvy rfl rfl ?_; intro w3 hT3 hg3; have HT3 := hide hT3; have HG3 := hide hg3; clear hT3 hg3))
            go_roundw
            case rel => exact ⟨l + 1, m + 1, by omega, by go_num, by omega, Nat.le_trans HZ2.out HG3.out.size, by rw [HF2.out]; exact HO2.out.only (Only.of_grown HG3.out (K := fun b => b = w.heap.size + 2) (fun i hi => by injection hi with hi; exact hi.symm)) (fun b h => ⟨h.2, fun e => by have := h.1; have := HSo.out; omega⟩) |>.mono (fun b h => ⟨h.1, Nat.lt_of_lt_of_le h.2 HG3.out.size⟩) (fun _ _ => rfl), by rw [HS.out]; exact HT3.out, below_tab HB3.out HG3.out (by omega) HB3.out.size⟩
            case measure => simp [intOf]; omega
          | true =>
            rw [hne] at HEr
            have HF2 := hide (show ownE who t.Ops (l + 1) = ownE who t.Ops l ++ [⟨who, l⟩] by rw [HF.out, HEr.out]; rfl)
            clear HF
            go_upto_region 8 with (first | (at_lookup; refine wpList_tab_look_ok (KK := keyI) (EE := intV) _ rfl (.tmp 22) (.tmp 24) 152 rfl Tryz.underlying152 (w.heap.size + 2) _ _ rfl HT.out t.Ops[l].Key hky rfl ?_; rw [HG.out]; dsimp only [intV, intEl, Option.getD_some, Option.getD_none, Option.isSome_some, Option.isSome_none]) | (go_at_call 119; refine HW.out.mono ?_; rintro e w2 ⟨rfl, hb2⟩; have HB2 := hide hb2; have hX2 := HX.out.below hb2 HX.out.lt; have x0 := hX2.cell 0; have x1 := hX2.cell 1; have x2 := hX2.cell 2; simp only [List.getElem?_toArray, List.getElem?_cons_zero, List.getElem?_cons_succ] at x0 x1 x2; have HT2 := hide (HT.out.keep (hb2.block _ HT.out.lt)); have HB3 := hide (HB.out.trans (hb2.mono HB.out.size)); have hz2 : wr.heap.size < w2.heap.size := hX2.lt; have HO2 := hide (HO.out.onlyBelow hb2); have HX2 := hide hX2; have HZ2 := hide (Nat.le_trans HZ.out (Nat.le_of_lt hz2)); clear hb2 hX2))
            have HO5 := hide (show Own tSpan 114 w2 (fun b => ((b = w.heap.size + 1 ∨ wo.heap.size ≤ b) ∧ b ≠ wr.heap.size) ∧ Old w2 b) (ownE who t.Ops l) u5 from
              HOr.out.mono (fun b h => ⟨⟨h.1, by have := h.2; unfold Old at this; omega⟩, by have := h.2; unfold Old at *; omega⟩) (fun b h => (HB2.out.block b (Nat.lt_of_lt_of_le h.2 (by simp))).trans (Below.heap_alloc _ _ _ h.2)))
            clear HO HO2 HOr
            go_wp2_with (first | (at_builtin; refine wpList_put tSpan rfl (.tmp 39) (.tmp 43) 78 rfl 114 i0 _ 16 Tryz.underlying78 hi hz0 hz1 (by assumption) rfl (by decide) (fun b => (b = w.heap.size + 1 ∨ wo.heap.size ≤ b) ∧ b ≠ wr.heap.size) (fun _ => False) (ownE who t.Ops l) ⟨who, (l : Int)⟩ [.int .i64 who, .int .i64 l] _ rfl HO5.out 1 rfl rfl (fun _ h => h.elim) (fun b hb => ⟨.inr (Nat.le_trans HZ2.out hb), by omega⟩) (by simp only [maxLen]; omega) (by omega) ?_; intro v5 w5 hO_ hK_; have HO6 := hide hO_; have HK6 := hide hK_; have HT5 := hide (HT2.out.keep (hK_.block _ HT2.out.lt (by have := HSo.out; omega))); have hX5 := HX2.out.of (hK_.block _ HX2.out.lt (by omega)); have y0 := hX5.cell 0; have y1 := hX5.cell 1; have y2 := hX5.cell 2; simp only [List.getElem?_toArray, List.getElem?_cons_zero, List.getElem?_cons_succ] at y0 y1 y2; have hz5 : wr.heap.size < w5.heap.size := hX5.lt; clear hX5 hO_ hK_ x0 x1 x2) | (at_mapUpdate; refine wpList_tab_put (KK := keyI) (EE := intV) _ rfl (.tmp 45) (.tmp 47) (.tmp 49) 152 rfl Tryz.underlying152 (w.heap.size + 2) m _ rfl HT5.out (by simp only [maxLen]; omega) t.Ops[l].Key hky t.Ops[l].Value hvy rfl rfl ?_; intro w3 hT3 hg3; have HT3 := hide hT3; have HG3 := hide hg3; clear hT3 hg3))
            go_roundw
            case rel => exact ⟨l + 1, m + 1, by omega, by go_num, by omega, Nat.le_trans HZ2.out (Nat.le_trans HK6.out.size HG3.out.size), by rw [HF2.out]; exact HO6.out.only (Only.of_grown HG3.out (K := fun b => b = w.heap.size + 2) (fun i hi => by injection hi with hi; exact hi.symm)) (fun b h => ⟨h.2, fun e => by have := h.1.1; have := HSo.out; omega⟩) |>.mono (fun b h => ⟨h.1.1, Nat.lt_of_lt_of_le h.2 HG3.out.size⟩) (fun _ _ => rfl), by rw [HS.out]; exact HT3.out, below_tab (below_only HB3.out HK6.out HB3.out.size (fun i h => by have := HSo.out; omega)) HG3.out (by omega) (Nat.le_trans HB3.out.size HK6.out.size)⟩
            case measure => simp [intOf]; omega
    · obtain rfl : l = t.Ops.length := by omega
      have HO1 := hide hO.out
      have HB1 := hide hb.out
      clear hO hT hb
      go_wp2_with fail
      go_ret
      exact ⟨_, rfl, HO1.out.mono (fun b h => ⟨by have := h.1; have := HSo.out; omega, h.2⟩) (fun _ _ => rfl), HB1.out⟩
def badL (h : List Txn) (l : List Int) : List Span := l.flatMap fun n => ownE n (opsOf h n) (opsOf h n).length
theorem badL_take (h : List Txn) (l : List Int) (k : Nat) (hk : k < l.length) : badL h (l.take (k + 1)) = badL h (l.take k) ++ ownE l[k] (opsOf h l[k]) (opsOf h l[k]).length := by
  unfold badL
  rw [List.take_succ_eq_append_getElem hk, List.flatMap_append]
  simp
theorem opsOf_nat {h : List Txn} {n : Nat} (hn : n < h.length) : opsOf h (n : Int) = h[n].Ops := by
  unfold opsOf
  rw [Int.toNat_natCast, List.getElem?_eq_getElem hn]; rfl
theorem badL_len {h : List Txn} (hv : ∀ t ∈ h, t.Ops.length ≤ 6) : ∀ (l : List Int), (badL h l).length ≤ 6 * l.length
  | [] => Nat.le_refl _
  | n :: r => by
    have h1 := badL_len hv r
    unfold badL at h1 ⊢
    rw [List.flatMap_cons, List.length_append, List.length_cons]
    have h2 := ownE_len n (opsOf h n) (opsOf h n).length
    have h3 : (opsOf h n).length ≤ 6 := by
      unfold opsOf
      cases hh : h[n.toNat]? with
      | none => simp
      | some t => exact hv t (List.mem_of_getElem? hh)
    omega
theorem bad_same (h : List Txn) : ∀ k, k ≤ h.length → (ownEs h k).filter (fun x => dnI h x.From) = badL h (doneI h k)
  | 0, _ => rfl
  | k + 1, hk => by
    rw [ownEs_succ h k (by omega), List.filter_append, bad_same h k (by omega), doneI_succ h k (by omega)]
    have hd : dnI h (k : Int) = h[k].Done := by unfold dnI; rw [Int.toNat_natCast, List.getElem?_eq_getElem (by omega)]; rfl
    have hf : (ownE k h[k].Ops h[k].Ops.length).filter (fun x => dnI h x.From) = if h[k].Done then ownE k h[k].Ops h[k].Ops.length else [] := by
      split
      · rename_i h1
        exact List.filter_eq_self.2 fun x hx => by rw [ownE_who _ _ _ x hx, hd, h1]
      · rename_i h1
        exact List.filter_eq_nil_iff.2 fun x hx => by rw [ownE_who _ _ _ x hx, hd]; simpa using h1
    rw [hf]
    unfold badL
    rw [List.flatMap_append]
    congr 1
    split
    · simp [opsOf_nat (h := h) (n := k) (by omega)]
    · rfl
theorem badS_eq (h : List Txn) : badS h = badL h (doneL h) := bad_same h h.length (Nat.le_refl _)
set_option maxRecDepth 10000 in
set_option maxHeartbeats 2000000 in
theorem implBadOwn (xs : List Txn) (A : Option Addr) (c : Nat) (w : World) (hv : histV xs = true) (hm : xs.length ≤ maxLen) (hA : Row tTxn w (Old w) A xs) :
    Calls Tryz.prog 81 #[.slice A xs.length c, .int .i64 4] w fun e w' => ∃ v, e = .returned v ∧ Sl tSpan w' (New w w') (badS xs) v ∧ Below w.heap.size w w' := by
  obtain ⟨i0, hi, hz0, hz1, hz2⟩ := info_parts infoPlace_
  have hx6 : xs.length ≤ 6 := (histV_parts hv).1
  have hmk : ∀ (W : World), (Instr.makeSlice 78 (.int .i64 0) (.int .i64 0)).run Tryz.prog W = .ok (.slice (some ⟨W.heap.size, 0, none⟩) 0 0) (W.alloc (.cells (madeCells (Value.cells (.agg #[.int .i64 0, .int .i64 0])) (0 * 2)) 114)) := fun W => by
    have h := run_make_rowN (P := Tryz.prog) 78 114 i0 _ Tryz.underlying78 hi hz0 .i64 .i64 0 0 (Nat.zero_le _) (by rw [hz2]; omega) (by omega) W
    rw [hz1] at h
    exact h
  have HC1 := hide (implHistoryValid xs A c w hm hA)
  have HDn := hide (fun (W : World) (hb : Below w.heap.size w W) => implDone xs A c W (by omega) (hA.old hb))
  have HV := hide (histV_parts hv).2
  have HLn := hide (fun l => badL_len (h := xs) (fun t ht => (txnOk_parts ((histV_parts hv).2 t ht)).2) l)
  have HQ := hide (badS_eq xs)
  have HA := hide hA
  have hq : xs.length ≤ 9223372036854775807 := by simpa [maxLen] using hm
  rw [hv] at HC1
  have HMem := hide (fun x (hx : x ∈ doneL xs) => doneI_mem xs _ x hx)
  have hdl : (doneL xs).length ≤ 6 := Nat.le_trans (doneI_len xs _) hx6
  clear hA hm hv
  generalize doneL xs = D at HDn HQ HMem hdl
  have hqD : D.length ≤ 9223372036854775807 := by omega
  go_enter Tryz.func81, Tryz.ntmps81
  go_upto_region 4 with (first | (go_at_call 66; refine HC1.out.mono ?_; rintro e w2 ⟨rfl, hb2⟩; have HB2 := hide hb2; clear hb2) | (go_at_call 114; refine (within _ _ _ _).mono ?_; rintro e w' ⟨rfl, rfl⟩))
  generalize hW : World.alloc _ _ = W
  have HB3 := hide (show Below w.heap.size w W by rw [← hW]; exact HB2.out.alloc HB2.out.size _)
  have hsW : W.heap.size = w2.heap.size + 1 := by rw [← hW]; simp
  have hw2 := HB2.out.size
  have HBk := hide (show Blk W w2.heap.size 114 #[] by rw [← hW]; have h0 : ∀ z : Array Value, madeCells z 0 = #[] := fun z => Array.eq_empty_of_size_eq_zero (by rw [size_madeCells]); rw [h0]; exact Blk.new w2 _ _)
  clear hW hmk
  go_wp2_with (go_at_call 70; refine (HDn.out _ HB3.out).mono ?_; rintro e w3 ⟨v3, rfl, hO3, hb3⟩; obtain ⟨A3, c3, rfl, h31, h32, _⟩ := hO3.sl; have HR3 := hide hO3.sl.row; have HB4 := hide (HB3.out.trans (hb3.mono HB3.out.size)); have HBk3 := hide (HBk.out.below hb3 HBk.out.lt); have hw3 := hb3.size; clear hO3 hb3)
  go_loopw [5, 7, 22] (fun v _ i wr => ∃ k : Nat, k ≤ D.length ∧ i = .int .i64 k ∧ Hid (Own tSpan 114 wr (fun b => (b = w2.heap.size ∨ w3.heap.size ≤ b) ∧ Old wr b) (badL xs (D.take k)) v) ∧ Hid (Below w.heap.size w wr) ∧ Hid (Only (fun b => b = w2.heap.size ∨ w3.heap.size ≤ b) w3 wr)) (fun _ _ i _ => D.length - (intOf i).toNat)
  case atStart => exact ⟨0, by omega, rfl, .inr ⟨w2.heap.size, 0, #[], fun _ => False, rfl, ⟨.inl rfl, HBk3.out.lt⟩, HBk3.out, by simp [badL], by simp [maxLen], rfl, fun _ h => h.elim, fun j hj => absurd hj (by simp [badL])⟩, HB4.out, Only.refl _ _⟩
  case round =>
    obtain ⟨k, hk, rfl, hO, hb, hK⟩ := hrel
    have HO := hide hO.out; have HB := hide hb.out; have HK := hide hK.out
    have hR := HR3.out.mono (w' := wr) (S' := Old wr) (fun b h => Nat.lt_of_lt_of_le h.2 hK.out.size) (fun b h => hK.out.block b h.2 (by have h1 := h.1; have h2 := h.2; omega))
    clear hO hb hK
    by_cases hlt : k < D.length
    · obtain ⟨b0, off0, hA3, hbS0, e0⟩ := at_Int hR (Below.refl _ _) hlt
      subst hA3
      obtain ⟨hn0, hn1⟩ := HMem.out _ (List.getElem_mem hlt)
      obtain ⟨n, hn⟩ : ∃ n : Nat, D[k] = (n : Int) := ⟨D[k].toNat, by omega⟩
      have hnl : n < xs.length := by omega
      have HS := hide (show badL xs (D.take (k + 1)) = badL xs (D.take k) ++ ownE n xs[n].Ops xs[n].Ops.length by rw [badL_take xs D k hlt, hn, opsOf_nat hnl])
      have hfl : (badL xs (D.take k)).length ≤ 6 * k := Nat.le_trans (HLn.out _) (by rw [List.length_take]; omega)
      rw [hn] at e0
      obtain ⟨b, off, A2, c2, hA2, hbS, d0, d1, d3, hj1, hj2, hj3⟩ := at_Txn HA.out HB.out hnl
      subst hA2
      have htx := HV.out _ (List.getElem_mem hnl)
      have ho6 := (txnOk_parts htx).2
      have hel := ownE_len (n : Int) xs[n].Ops xs[n].Ops.length
      have HE := hide (implOwnErrors xs[n] n A2 c2 wr ho6 (txnOk_parts htx).1 hj3)
      have hz3 := HK.out.size
      clear hR hn hn0 hn1 htx hj3
      generalize ownE (n : Int) xs[n].Ops xs[n].Ops.length = E at HE HS hel
      go_wp2_with (first | (go_at_call 117; refine HE.out.mono ?_; rintro e w5 ⟨v5, rfl, hO5, hb5⟩; obtain ⟨A5, c5, rfl, h51, h52, h53⟩ := hO5.sl; have HR5 := hide h53; have HO5 := hide (HO.out.onlyBelow hb5); have HL5 := hide (own_lt (B := wr.heap.size) HO.out (fun b h => h.2)); have HB5 := hide (HB.out.trans (hb5.mono HB.out.size)); have HK5 := hide (HK.out.trans (Only.of_below hb5)); have hz5 := hb5.size; clear hO5 hb5 h53) | (at_builtin; refine wpList_cat tSpan rfl (.tmp 28) (.tmp 34) 78 rfl 114 i0 _ 16 Tryz.underlying78 hi hz0 hz1 (by assumption) rfl (by decide) (fun b => b = w2.heap.size ∨ w3.heap.size ≤ b) (fun _ => False) (badL xs (D.take k)) E _ rfl HO5.out A5 _ c5 rfl rfl HR5.out.anySpan (fun _ h => h.elim) (fun b hb => .inr (by omega)) (by simp only [maxLen]; omega) (by omega) ?_; intro v6 w6 hO_ hK_; have HO6 := hide hO_; have HK6 := hide hK_; clear hO_ hK_))
      go_roundw
      case rel => exact ⟨k + 1, by omega, by go_num, by rw [HS.out]; exact HO6.out, below_only HB5.out HK6.out HB5.out.size (fun i h => by omega), HK5.out.trans HK6.out⟩
      case measure => simp [intOf]; omega
    · obtain rfl : k = D.length := by omega
      have HO1 := hide (show Own tSpan 114 wr (fun b => (b = w2.heap.size ∨ w3.heap.size ≤ b) ∧ Old wr b) (badS xs) u5 by have := HO.out; rw [List.take_length] at this; rw [HQ.out]; exact this)
      obtain ⟨A7, c7, rfl, h71, h72, _⟩ := HO1.out.sl
      clear HO hR
      go_wp2_with fail
      go_ret
      exact ⟨_, rfl, ⟨A7, _, rfl, Nat.le_refl _, Nat.le_trans h71 h72, HO1.out.sl.row.mono (fun b h => ⟨by have := h.1; omega, h.2⟩) (fun _ _ => rfl)⟩, HB.out⟩
/-- Committed transactions read what they did themselves. -/
def fineB (h : List Txn) : Bool := (badS h).length == 0
end Go.Proofs.YtjiobgfaohldhaaGreat
