/- The reference's l13Has, OwnErrors and BadReads (of the kind BadOwn). -/
import Derived.Test.YtmlbfhknapkhgaaLastS
import Derived.Test.YtmlbfhknapkhgaaDone
namespace Go.Proofs.Ytmlbfhknapkhgaa
open Go.RowKit Go.Maps
set_option linter.unusedVariables false
set_option linter.unusedSimpArgs false

/-- The value of the last write to a key, or -1. -/
def hasW (ops : List Op) (key : Int) : Int := ((lastW ops key).map Op.Value).getD (-1)
theorem find_lastWs (ops : List Op) (key : Int) (hk : key = 0 ∨ key = 1 ∨ key = 2) : (((lastWs ops).find? fun o => o.Key == key).map Op.Value).getD (-1) = hasW ops key := by
  have h : ∀ (k : Int), (lastW ops k).toList.find? (fun o => o.Key == key) = if k = key then lastW ops k else none := fun k => by
    cases hw : lastW ops k with
    | none => simp [Option.toList]
    | some o =>
      have ho := (lastW_some hw).2.2
      by_cases hkk : k = key
      · rw [if_pos hkk]; simp [Option.toList, ho, hkk]
      · rw [if_neg hkk]; simp [Option.toList, ho, hkk]
  unfold lastWs hasW
  rw [List.find?_append, List.find?_append, h, h, h]
  rcases hk with rfl | rfl | rfl
  · cases lastW ops 0 <;> rfl
  · cases lastW ops 1 <;> rfl
  · cases lastW ops 2 <;> rfl
theorem lastWs_len (ops : List Op) : (lastWs ops).length ≤ 3 := by rw [← lastWk_3]; exact lastWk_len ops 3
theorem find_take_none {α : Type} (p : α → Bool) (l : List α) (k : Nat) (hk : k < l.length) (h : (l.take k).find? p = none) (hp : p l[k] = false) : (l.take (k + 1)).find? p = none := by
  rw [List.take_succ_eq_append_getElem hk, List.find?_append, h]
  simp [hp]
theorem find_hit {α : Type} (p : α → Bool) (l : List α) (k : Nat) (hk : k < l.length) (h : (l.take k).find? p = none) (hp : p l[k] = true) : l.find? p = some l[k] := by
  have e : l.take k ++ l[k] :: l.drop (k + 1) = l := by rw [← List.drop_eq_getElem_cons hk, List.take_append_drop]
  have h2 : (l.take k ++ l[k] :: l.drop (k + 1)).find? p = some l[k] := by simp only [List.find?_append, h, List.find?_cons, hp, Option.none_or]
  rwa [e] at h2
set_option maxRecDepth 10000 in
set_option maxHeartbeats 1000000 in
theorem l13Has_any (t : Txn) (key : Int) (A : Option Addr) (c : Nat) (w : World) (hv : txnOk t = true) (hk : key = 0 ∨ key = 1 ∨ key = 2) (hA : Row tOp w (Old w) A t.Ops) :
    Calls Try.prog 78 #[.agg #[.int .i64 t.Session, .slice A t.Ops.length c, .bool t.Done], .int .i64 key] w fun e w' => e = .returned (.int .i64 (hasW t.Ops key)) ∧ Below w.heap.size w w' := by
  have HF := hide (find_lastWs t.Ops key hk)
  have hl3 := lastWs_len t.Ops
  have HB1 := hide ((Below.refl _ w).alloc (Nat.le_refl _) (.cells #[.int .i64 t.Session, .slice A t.Ops.length c, .bool t.Done] 66))
  have HLW := hide (specLastWrites t A c _ hv (hA.old HB1.out))
  clear hA hv hk
  generalize lastWs t.Ops = L at HF hl3 HLW
  have hq : L.length ≤ 9223372036854775807 := by omega
  go_enter Try.func78, Try.ntmps78
  go_wp2_with (go_at_call 127; refine HLW.out.mono ?_; rintro e w2 ⟨v, rfl, hO, hb2⟩; obtain ⟨A2, c2, rfl, h21, h22, _⟩ := hO.sl; have HR := hide (hO.sl.row.mono (S' := Old w2) (fun b h => h.2) (fun _ _ => rfl)); have HB2 := hide (HB1.out.trans (hb2.mono HB1.out.size)); clear hO hb2)
  clear HLW
  go_loopw [6] (fun i wr => ∃ k : Nat, k ≤ L.length ∧ i = .int .i64 k ∧ Hid ((L.take k).find? (fun o => o.Key == key) = none) ∧ Hid (Below w2.heap.size w2 wr)) (fun i _ => L.length - (intOf i).toNat)
  case atStart => exact ⟨0, Nat.zero_le _, rfl, rfl, Below.refl _ _⟩
  case round =>
    obtain ⟨k, hk, rfl, hN, hb⟩ := hrel
    by_cases hlt : k < L.length
    · obtain ⟨b, off, rfl, hbS, d0, d1, d2⟩ := at_Op HR.out hb.out hlt
      have HN := hide (find_take_none _ L k hlt hN.out)
      have HH := hide (find_hit _ L k hlt hN.out)
      have HB := hide hb.out
      clear hN hb
      cases hke : (L[k].Key == key) with
      | true =>
        have HQ := hide (show hasW t.Ops key = L[k].Value by rw [← HF.out, HH.out hke]; rfl)
        clear HN HH HF
        go_wp2
        go_ret
        exact ⟨by rw [HQ.out]; rfl, HB2.out.trans (HB.out.mono HB2.out.size)⟩
      | false =>
        have HN2 := hide (HN.out hke)
        clear HN HH
        go_wp2
        go_roundw
        case rel => exact ⟨k + 1, by omega, by go_num, HN2.out, HB.out⟩
        case measure => simp [intOf]; omega
    · obtain rfl : k = L.length := by omega
      have HQ := hide (show hasW t.Ops key = -1 by have := hN.out; rw [List.take_length] at this; rw [← HF.out, this]; rfl)
      have HB := hide hb.out
      clear hN hb HF
      go_wp2
      go_ret
      exact ⟨by rw [HQ.out]; rfl, HB2.out.trans (HB.out.mono HB2.out.size)⟩
/-- The reads of a transaction that differ from what it did before. -/
def errAt (ops : List Op) (j : Nat) (o : Op) : Bool := o.Kind == 1 && decide (0 ≤ beforeV (ops.take j) o.Key) && (beforeV (ops.take j) o.Key != o.Value)
def ownE (who : Int) (ops : List Op) : Nat → List Span
  | 0 => []
  | j + 1 => ownE who ops j ++ (match ops[j]? with | some o => if errAt ops j o then [⟨who, j⟩] else [] | none => [])
theorem ownE_succ (who : Int) (ops : List Op) (j : Nat) (hj : j < ops.length) : ownE who ops (j + 1) = ownE who ops j ++ (if errAt ops j ops[j] then [⟨who, j⟩] else []) := by
  rw [ownE, List.getElem?_eq_getElem hj]
theorem ownE_len (who : Int) (ops : List Op) : ∀ j, (ownE who ops j).length ≤ j
  | 0 => Nat.le_refl _
  | j + 1 => by
    have := ownE_len who ops j
    rw [ownE, List.length_append]
    split
    · split <;> simp <;> omega
    · simp; omega
def ownEs (h : List Txn) : Nat → List Span
  | 0 => []
  | k + 1 => ownEs h k ++ (match h[k]? with | some t => ownE k t.Ops t.Ops.length | none => [])
theorem ownEs_succ (h : List Txn) (k : Nat) (hk : k < h.length) : ownEs h (k + 1) = ownEs h k ++ ownE k h[k].Ops h[k].Ops.length := by
  rw [ownEs, List.getElem?_eq_getElem hk]
theorem ownEs_len {h : List Txn} (hv : ∀ t ∈ h, t.Ops.length ≤ 6) : ∀ k, k ≤ h.length → (ownEs h k).length ≤ 6 * k
  | 0, _ => Nat.le_refl _
  | k + 1, hk => by
    have h1 := ownEs_len hv k (by omega)
    rw [ownEs_succ h k (by omega), List.length_append]
    have h2 := ownE_len k h[k].Ops h[k].Ops.length
    have h3 := hv h[k] (List.getElem_mem (by omega))
    omega
theorem ownE_who (who : Int) (ops : List Op) : ∀ j, ∀ x ∈ ownE who ops j, x.From = who
  | 0, x, hx => by cases hx
  | j + 1, x, hx => by
    rw [ownE, List.mem_append] at hx
    rcases hx with hx | hx
    · exact ownE_who who ops j x hx
    · split at hx
      · split at hx
        · rw [List.mem_singleton.1 hx]
        · cases hx
      · cases hx
theorem ownEs_who (h : List Txn) : ∀ k, k ≤ h.length → ∀ x ∈ ownEs h k, 0 ≤ x.From ∧ x.From < h.length
  | 0, _, x, hx => by cases hx
  | k + 1, hk, x, hx => by
    rw [ownEs_succ h k (by omega), List.mem_append] at hx
    rcases hx with hx | hx
    · exact ownEs_who h k (by omega) x hx
    · rw [ownE_who _ _ _ x hx]; omega
theorem infoPlace_ : (Try.prog.info? 128).map (fun i => (i.zero, i.size, i.bytes)) = some (some (.agg #[.int .i64 0, .int .i64 0]), 2, 16) := by kernel_rfl
set_option maxRecDepth 10000 in
set_option maxHeartbeats 2000000 in
theorem specOwnErrors (xs : List Txn) (A : Option Addr) (c : Nat) (w : World) (hv : histV xs = true) (hm : xs.length ≤ maxLen) (ht : opsN xs ≤ 1048576) (hA : Row tTxn w (Old w) A xs) :
    Calls Try.prog 124 #[.slice A xs.length c] w fun e w' => ∃ v, e = .returned v ∧ Own tSpan 128 w' (New w w') (ownEs xs xs.length) v ∧ Below w.heap.size w w' := by
  obtain ⟨i0, hi, hz0, hz1, hz2⟩ := info_parts infoPlace_
  have HC := hide (fun (W : World) (hb : Below w.heap.size w W) => specHistoryValid xs A c W hm (hA.old hb) ht)
  have HA := hide hA
  have hq : xs.length ≤ 9223372036854775807 := by simpa [maxLen] using hm
  have hx6 : xs.length ≤ 6 := (histV_parts hv).1
  have HV := hide (histV_parts hv).2
  have HLn := hide (ownEs_len (h := xs) (fun t ht => (txnOk_parts ((histV_parts hv).2 t ht)).2))
  rw [hv] at HC
  have HO0 := hide (Own.empty (T := tSpan) (e := 128) w (fun b => w.heap.size ≤ b) (Nat.le_refl _))
  clear hA hm ht hv
  go_enter Try.func124, Try.ntmps124
  go_wp2_with fail
  go_loopw [3, 4, 5, 6, 7] (fun v i _ _ _ wr => ∃ k : Nat, k ≤ xs.length ∧ i = .int .i64 k ∧ Hid (Own tSpan 128 wr (fun b => w.heap.size ≤ b ∧ Old wr b) (ownEs xs k) v) ∧ Below w.heap.size w wr) (fun _ i _ _ _ _ => xs.length - (intOf i).toNat)
  case atStart => exact ⟨0, Nat.zero_le _, rfl, HO0.out, (Below.refl _ w).alloc (Nat.le_refl _) _⟩
  case round =>
    obtain ⟨k, hk, rfl, hO, hb⟩ := hrel
    clear HO0
    by_cases hlt : k < xs.length
    · have HC1 := hide (HC.out wr hb)
      have HS := hide (ownEs_succ xs k hlt)
      have hl := HLn.out k hk
      have HB := hide hb
      have HOk := hide (txnOk_parts (HV.out _ (List.getElem_mem hlt))).1
      have ho6 := (txnOk_parts (HV.out _ (List.getElem_mem hlt))).2
      have hd : decide ((k : Int) < (xs.length : Int)) = true := by simpa using hlt
      obtain ⟨b, off, A2, c2, hA2, hbS, c0, c1, c3, hi1, hi2, hi3⟩ := at_Txn HA.out (Below.refl _ w) hlt
      subst hA2
      have HR := hide hi3; have HC01 := hide (And.intro c0 (And.intro c1 c3))
      have HbS := hide hbS
      clear c0 c1 c3 hi3
      go_wp2_with (go_at_call 49; refine HC1.out.mono ?_; rintro e w2 ⟨rfl, hb2⟩; have HB2 := hide (HB.out.trans (hb2.mono HB.out.size)); have HO2 := hide (hO.out.onlyBelow hb2); clear hb2)
      clear hO hb HC1
      go_loopw [3, 5, 6, 7] (fun v j _ _ wr2 => ∃ l : Nat, l ≤ xs[k].Ops.length ∧ j = .int .i64 l ∧ Hid (Own tSpan 128 wr2 (fun b => w.heap.size ≤ b ∧ Old wr2 b) (ownEs xs k ++ ownE k xs[k].Ops l) v) ∧ Hid (Below w.heap.size w wr2)) (fun _ j _ _ _ => xs[k].Ops.length - (intOf j).toNat)
      case atStart => exact ⟨0, Nat.zero_le _, rfl, by show Own _ _ _ _ (ownEs xs k ++ []) _; rw [List.append_nil]; exact HO2.out, HB2.out⟩
      case round =>
        obtain ⟨l, hl2, rfl, hO, hb⟩ := hrel
        have HB3 := hide hb.out; have HO3 := hide hO.out
        have d0 := (HB3.out.cell (p := ⟨b, off + k * 3, none⟩) HbS.out).trans HC01.out.1
        have d1 := (HB3.out.cell (p := ⟨b, off + k * 3 + 1, none⟩) HbS.out).trans HC01.out.2.1
        have d3 := (HB3.out.cell (p := ⟨b, off + k * 3 + 2, none⟩) HbS.out).trans HC01.out.2.2
        clear hO hb HO2
        have hel := ownE_len k xs[k].Ops l
        by_cases hlt2 : l < xs[k].Ops.length
        · obtain ⟨b2, off2, hA2, hbS2, e0, e1, e2⟩ := at_Op HR.out HB3.out hlt2
          subst hA2
          have HE := hide (ownE_succ k xs[k].Ops l hlt2)
          have HD := hide (show errAt xs[k].Ops l xs[k].Ops[l] = (xs[k].Ops[l].Kind == 1 && decide (0 ≤ beforeV (xs[k].Ops.take l) xs[k].Ops[l].Key) && (beforeV (xs[k].Ops.take l) xs[k].Ops[l].Key != xs[k].Ops[l].Value)) from rfl)
          go_upto_region 9 with (fail)
          have HBW := hide (HB3.out.alloc HB3.out.size (.cells #[.int .i64 xs[k].Ops[l].Kind, .int .i64 xs[k].Ops[l].Key, .int .i64 xs[k].Ops[l].Value] 68))
          have HOW := hide (HO3.out.onlyBelow ((Below.refl _ wr).alloc (Nat.le_refl _) (.cells #[.int .i64 xs[k].Ops[l].Kind, .int .i64 xs[k].Ops[l].Key, .int .i64 xs[k].Ops[l].Value] 68)))
          have HXW := hide (Blk.new wr 68 #[.int .i64 xs[k].Ops[l].Kind, .int .i64 xs[k].Ops[l].Key, .int .i64 xs[k].Ops[l].Value])
          have hzr : wr.heap.size < (wr.alloc (.cells #[.int .i64 xs[k].Ops[l].Kind, .int .i64 xs[k].Ops[l].Key, .int .i64 xs[k].Ops[l].Value] 68)).heap.size := by simp
          generalize wr.alloc _ = W at HBW HOW HXW hzr ⊢
          have x0 := HXW.out.cell 0; have x1 := HXW.out.cell 1; have x2 := HXW.out.cell 2
          simp only [List.getElem?_toArray, List.getElem?_cons_zero, List.getElem?_cons_succ] at x0 x1 x2
          clear d0 d1 d3 e0 e1 e2
          have d0 := (HBW.out.cell (p := ⟨b, off + k * 3, none⟩) HbS.out).trans HC01.out.1
          have d1 := (HBW.out.cell (p := ⟨b, off + k * 3 + 1, none⟩) HbS.out).trans HC01.out.2.1
          have d3 := (HBW.out.cell (p := ⟨b, off + k * 3 + 2, none⟩) HbS.out).trans HC01.out.2.2
          have hbs := HbS.out
          unfold Old at hbs
          have HBd := hide (show Below w.heap.size w W.drew from HBW.out.drew)
          have HOd := hide (show Own tSpan 128 W.drew (fun b => w.heap.size ≤ b ∧ Old W.drew b) (ownEs xs k ++ ownE k xs[k].Ops l) u3 from HOW.out.mono (fun _ h => h) (fun _ _ => rfl))
          have HXd := hide (show Blk W.drew wr.heap.size _ _ from HXW.out)
          have HCl := hide (l4Before_any xs[k] l xs[k].Ops[l].Key (some ⟨b2, off2, none⟩) c2 W.drew (by simp only [maxLen]; omega) hl2 (HR.out.old HBd.out))
          generalize beforeV (xs[k].Ops.take l) xs[k].Ops[l].Key = Bv at HCl HD
          go_still_tail 7, (by kernel_rfl)
          change wpList _ _ _ _ _ W.drew
          generalize W.drew = w4 at HBd HOd HXd HCl ⊢
          clear HBW HOW HXW x0 x1 x2 d0 d1 d3
          cases hkd : (xs[k].Ops[l].Kind == 1) with
          | false =>
            have HE2 := hide (show ownE k xs[k].Ops (l + 1) = ownE k xs[k].Ops l by rw [HE.out, HD.out, hkd]; simp)
            clear HE HD
            go_wp2_with (go_at_call 139; refine HCl.out.mono ?_; rintro e w5 ⟨rfl, hb5⟩; have HB5 := hide (HBd.out.trans (hb5.mono HBd.out.size)); have HO5 := hide (HOd.out.onlyBelow hb5); have hX5 := HXd.out.below hb5 HXd.out.lt; have x0 := hX5.cell 0; have x1 := hX5.cell 1; have x2 := hX5.cell 2; simp only [List.getElem?_toArray, List.getElem?_cons_zero, List.getElem?_cons_succ] at x0 x1 x2; have hz5 := hX5.lt; clear hX5 hb5)
            go_roundw
            case rel => exact ⟨l + 1, by omega, by go_num, by rw [HE2.out]; exact HO5.out, HB5.out⟩
            case measure => simp [intOf]; omega
          | true =>
            cases hge : decide (0 ≤ Bv) with
            | false =>
              have HE2 := hide (show ownE k xs[k].Ops (l + 1) = ownE k xs[k].Ops l by rw [HE.out, HD.out, hkd, hge]; simp)
              clear HE HD
              go_wp2_with (go_at_call 139; refine HCl.out.mono ?_; rintro e w5 ⟨rfl, hb5⟩; have HB5 := hide (HBd.out.trans (hb5.mono HBd.out.size)); have HO5 := hide (HOd.out.onlyBelow hb5); have hX5 := HXd.out.below hb5 HXd.out.lt; have x0 := hX5.cell 0; have x1 := hX5.cell 1; have x2 := hX5.cell 2; simp only [List.getElem?_toArray, List.getElem?_cons_zero, List.getElem?_cons_succ] at x0 x1 x2; have hz5 := hX5.lt; clear hX5 hb5)
              go_roundw
              case rel => exact ⟨l + 1, by omega, by go_num, by rw [HE2.out]; exact HO5.out, HB5.out⟩
              case measure => simp [intOf]; omega
            | true =>
              cases hne : (Bv != xs[k].Ops[l].Value) with
              | false =>
                have HE2 := hide (show ownE k xs[k].Ops (l + 1) = ownE k xs[k].Ops l by rw [HE.out, HD.out, hkd, hge, hne]; simp)
                clear HE HD
                go_wp2_with (go_at_call 139; refine HCl.out.mono ?_; rintro e w5 ⟨rfl, hb5⟩; have HB5 := hide (HBd.out.trans (hb5.mono HBd.out.size)); have HO5 := hide (HOd.out.onlyBelow hb5); have hX5 := HXd.out.below hb5 HXd.out.lt; have x0 := hX5.cell 0; have x1 := hX5.cell 1; have x2 := hX5.cell 2; simp only [List.getElem?_toArray, List.getElem?_cons_zero, List.getElem?_cons_succ] at x0 x1 x2; have hz5 := hX5.lt; clear hX5 hb5)
                go_roundw
                case rel => exact ⟨l + 1, by omega, by go_num, by rw [HE2.out]; exact HO5.out, HB5.out⟩
                case measure => simp [intOf]; omega
              | true =>
                have HE2 := hide (show ownE k xs[k].Ops (l + 1) = ownE k xs[k].Ops l ++ [⟨k, l⟩] by rw [HE.out, HD.out, hkd, hge, hne]; rfl)
                clear HE HD
                go_wp2_with (first | (go_at_call 139; refine HCl.out.mono ?_; rintro e w5 ⟨rfl, hb5⟩; have HB5 := hide (HBd.out.trans (hb5.mono HBd.out.size)); have HO5 := hide (HOd.out.onlyBelow hb5); have hX5 := HXd.out.below hb5 HXd.out.lt; have x0 := hX5.cell 0; have x1 := hX5.cell 1; have x2 := hX5.cell 2; simp only [List.getElem?_toArray, List.getElem?_cons_zero, List.getElem?_cons_succ] at x0 x1 x2; have hz5 := hX5.lt; clear hX5 hb5) | (at_builtin; refine wpList_put tSpan rfl (.tmp 58) (.tmp 62) 82 rfl 128 i0 _ 16 Try.underlying82 hi hz0 hz1 (by assumption) rfl (by decide) (fun b => w.heap.size ≤ b) (fun _ => False) (ownEs xs k ++ ownE k xs[k].Ops l) ⟨(k : Int), (l : Int)⟩ [.int .i64 k, .int .i64 l] _ rfl HO5.out 1 rfl rfl (fun _ h => h.elim) (fun b hb => Nat.le_trans HB5.out.size hb) (by rw [List.length_append]; simp only [maxLen]; omega) (by rw [List.length_append]; omega) ?_; intro v6 w6 hO_ hK_; have HO6 := hide hO_; have HK6 := hide hK_; clear hO_ hK_))
                go_roundw
                case rel => exact ⟨l + 1, by omega, by go_num, by rw [HE2.out, ← List.append_assoc]; exact HO6.out, below_only HB5.out HK6.out HB5.out.size (fun i h => h)⟩
                case measure => simp [intOf]; omega
        · obtain rfl : l = xs[k].Ops.length := by omega
          go_wp2_with fail
          go_roundw
          case rel => exact ⟨k + 1, by omega, by go_num, by rw [HS.out]; exact HO3.out, HB3.out⟩
          case measure => simp [intOf]; omega
    · obtain rfl : k = xs.length := by omega
      have hd : decide (((xs.length : Nat) : Int) < (xs.length : Int)) = false := by simp
      have HO1 := hide hO.out
      clear hO
      go_wp2_with fail
      go_ret
      exact ⟨_, rfl, HO1.out, hb⟩
end Go.Proofs.Ytmlbfhknapkhgaa
