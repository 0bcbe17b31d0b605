/- The reference's l8Next, l8Has and l8Sorted. The reference's l8Sorted. The reference's l5Writer: the first writer of a value. The reference's EdgesOf. -/
import Derived.Test.YtjiobgfaohldhaaGreatQEdgI
import Derived.Test.YtjiobgfaohldhaaGreatQSnapN
import Derived.Test.YtjiobgfaohldhaaGreatQSortC
import Derived.Test.YtjiobgfaohldhaaGreatQInsS
namespace Go.Proofs.YtjiobgfaohldhaaGreat
open Go.RowKit
set_option linter.unusedVariables false
set_option linter.unusedSimpArgs false

theorem idx_at9 {α : Type} (p : α → Bool) : ∀ (xs : List α) (i : Nat) (h : i < xs.length), idx p xs = (i : Int) → p xs[i] = true
  | x :: xs, i, h, he => by
    cases hx : p x with
    | true =>
      simp only [idx, hx, if_true] at he
      obtain rfl : i = 0 := by omega
      exact hx
    | false =>
      simp only [idx, hx, Bool.false_eq_true, if_false] at he
      cases hi : idx p xs with
      | ofNat n =>
        rw [hi] at he
        obtain rfl : i = n + 1 := by simp only [Int.ofNat_eq_natCast] at he; omega
        have := idx_at9 p xs n (by simpa using h) (by rw [hi]; rfl)
        simpa using this
      | negSucc n =>
        rw [hi] at he
        simp only at he
        omega
theorem nxI_hit {o : List Int} {v : Int} (hv : v ≠ 0) {k : Nat} (hk : k + 1 < o.length) (h : (v == o[k]'(by omega)) = true) (hno : ∀ j (hj : j < o.length), j < k → (v == o[j]) = false) : nxI o v = some o[k + 1] := by
  unfold nxI
  rw [if_neg hv, idx_hit (fun y => v == y) o k (by omega) h (fun j hj hjk => hno j hj hjk), if_pos (by omega), Int.toNat_natCast, List.getElem?_eq_getElem hk]
theorem nxI_miss {o : List Int} {v : Int} (hv : v ≠ 0) (hno : ∀ j (hj : j < o.length), j + 1 < o.length → (v == o[j]) = false) : nxI o v = none := by
  unfold nxI
  rw [if_neg hv]
  rcases idx_lt9 (fun y => v == y) o with h | ⟨i, hi, h⟩
  · rw [h]; rfl
  · rw [h, if_pos (by omega), Int.toNat_natCast]
    by_cases hl : i + 1 < o.length
    · exfalso
      have h1 := idx_at9 (fun y => v == y) o i hi h
      rw [hno i hi hl] at h1
      cases h1
    · exact List.getElem?_eq_none (by omega)
set_option maxHeartbeats 1000000 in
theorem l8Next_any (o : List Int) (v : Int) (A : Option Addr) (c : Nat) (w : World) (hl : o.length ≤ 1000000) (hA : Row tInt w (Old w) A o) :
    Calls Tryz.prog 62 #[.slice A o.length c, .int .i64 v] w fun e w' => e = .returned (.int .i64 ((nxI o v).getD (-1))) ∧ w = w' := by
  have HA := hide hA
  clear hA
  by_cases hv : v = 0
  · subst hv
    cases o with
    | nil =>
      have HR := hide (show (nxI [] 0).getD (-1) = -1 from rfl)
      go_enter Tryz.func62, Tryz.ntmps62
      go_wp2_with fail
      go_loopw [5] (fun i wr => i = .int .i64 0 ∧ wr = w) (fun _ _ => 0)
      case atStart => exact ⟨rfl, rfl⟩
      case round =>
        obtain ⟨rfl, rfl⟩ := hrel
        go_wp2_with fail
        go_ret
        exact ⟨ret_int HR.out.symm, rfl⟩
    | cons y q =>
      have HR := hide (show (nxI (y :: q) 0).getD (-1) = y from rfl)
      obtain ⟨b, off, rfl, _, c0⟩ := at_Int HA.out (Below.refl _ w) (show 0 < (y :: q).length by simp)
      simp only [List.getElem_cons_zero, Nat.add_zero] at c0
      have hp : (0 : Int) < (q.length : Int) + 1 := by omega
      go_enter Tryz.func62, Tryz.ntmps62
      go_wp2_with fail
      go_ret
      exact ⟨ret_int HR.out.symm, rfl⟩
  · have hv' : (v == 0) = false := by rw [beq_eq_false_iff_ne]; exact hv
    have HV := hide hv
    clear hv
    go_enter Tryz.func62, Tryz.ntmps62
    go_wp2_with fail
    go_loopw [5] (fun i wr => ∃ k : Nat, k ≤ o.length ∧ i = .int .i64 k ∧ wr = w ∧ Hid (∀ j (hj : j < o.length), j < k → (v == o[j]) = false)) (fun i _ => o.length - (intOf i).toNat)
    case atStart => exact ⟨0, Nat.zero_le _, rfl, rfl, fun j hj h => absurd h (by omega)⟩
    case round =>
      obtain ⟨k, hk, rfl, rfl, hno⟩ := hrel
      have HNo := hide hno.out
      clear hno
      by_cases hlt : k + 1 < o.length
      · have hki : (k : Int) + 1 < (o.length : Int) := by omega
        have hk0 : k < o.length := by omega
        have hki0 : (k : Int) < (o.length : Int) := by omega
        obtain ⟨b, off, hAe, _, c0⟩ := at_Int HA.out (Below.refl _ wr) hk0
        obtain ⟨b', off', hAe', _, c1⟩ := at_Int HA.out (Below.refl _ wr) hlt
        subst hAe
        obtain ⟨rfl, rfl⟩ : b = b' ∧ off = off' := by simpa using hAe'
        clear hAe'
        cases hq : (v == o[k]) with
        | true =>
          have HR := hide (show (nxI o v).getD (-1) = o[k + 1] by rw [nxI_hit HV.out hlt hq HNo.out]; rfl)
          have hq2 : (o[k] == v) = true := by rw [beq_iff_eq] at hq ⊢; exact hq.symm
          go_wp2_with fail
          go_ret
          exact ⟨ret_int HR.out.symm, rfl⟩
        | false =>
          have HN2 := hide (show ∀ j (hj : j < o.length), j < k + 1 → (v == o[j]) = false from fun j hj h => by
            rcases Nat.lt_succ_iff_lt_or_eq.1 h with h | rfl
            · exact HNo.out j hj h
            · exact hq)
          have hq2 : (o[k] == v) = false := by rw [beq_eq_false_iff_ne] at hq ⊢; exact fun e => hq e.symm
          go_wp2_with fail
          go_roundw
          case rel => exact ⟨k + 1, by omega, by go_num, by first | rfl | trivial, HN2.out⟩
          case measure => simp [intOf]; omega
      · have HR := hide (show (nxI o v).getD (-1) = -1 by rw [nxI_miss HV.out (fun j hj hj1 => HNo.out j hj (by omega))]; rfl)
        have hkn : ¬ (k : Int) + 1 < (o.length : Int) := by omega
        go_wp2_with fail
        go_ret
        exact ⟨ret_int HR.out.symm, rfl⟩
theorem hasEd_succ {L : List Edge} {k : Nat} (hk : k < L.length) (e : Edge) : hasEd (L.take (k + 1)) e = (hasEd (L.take k) e || (L[k].From == e.From && L[k].To == e.To && L[k].Kind == e.Kind)) := by
  unfold hasEd
  rw [List.take_succ_eq_append_getElem hk, List.any_append]
  simp
theorem hasEd_hit {L : List Edge} {k : Nat} (hk : k < L.length) (e : Edge) (h : (L[k].From == e.From && L[k].To == e.To && L[k].Kind == e.Kind) = true) : hasEd L e = true := by
  unfold hasEd
  exact List.any_eq_true.2 ⟨L[k], List.getElem_mem hk, h⟩
set_option maxRecDepth 10000 in
set_option maxHeartbeats 1000000 in
theorem l8Has_any (L : List Edge) (e0 : Edge) (A : Option Addr) (c : Nat) (w : World) (hl : L.length ≤ 1000000) (hA : Row tEdge w (Old w) A L) :
    Calls Tryz.prog 101 #[.slice A L.length c, .agg #[.int .i64 e0.From, .int .i64 e0.To, .int .i64 e0.Kind]] w fun e w' => e = .returned (.bool (hasEd L e0)) ∧ Below w.heap.size w w' := by
  have HA := hide hA
  have HB0 := hide ((Below.refl _ w).alloc (Nat.le_refl _) (.cells #[.int .i64 e0.From, .int .i64 e0.To, .int .i64 e0.Kind] 86))
  have HX0 := hide (Blk.new w 86 #[.int .i64 e0.From, .int .i64 e0.To, .int .i64 e0.Kind])
  clear hA
  obtain ⟨ef, et, ek⟩ := e0
  dsimp only at HB0 HX0 ⊢
  have hq : L.length ≤ 9223372036854775807 := by omega
  go_enter Tryz.func101, Tryz.ntmps101
  go_wp2_with fail
  go_loopw [5] (fun i wr => ∃ k : Nat, k ≤ L.length ∧ i = .int .i64 k ∧ Hid (hasEd (L.take k) ⟨ef, et, ek⟩ = false) ∧ Hid (Blk wr w.heap.size 86 #[.int .i64 ef, .int .i64 et, .int .i64 ek]) ∧ Hid (Below w.heap.size w wr)) (fun i _ => L.length - (intOf i).toNat)
  case atStart => exact ⟨0, Nat.zero_le _, rfl, rfl, HX0.out, HB0.out⟩
  case round =>
    obtain ⟨k, hk, rfl, hno, hx, hb⟩ := hrel
    have HNo := hide hno.out; have HX := hide hx.out; have HB := hide hb.out
    clear hno hx hb HX0 HB0
    by_cases hlt : k < L.length
    · have hki : (k : Int) < (L.length : Int) := by omega
      obtain ⟨b, off, rfl, hbS, d0, d1, d2⟩ := at_Edge HA.out HB.out hlt
      have z0 := HX.out.cell 0; have z1 := HX.out.cell 1; have z2 := HX.out.cell 2
      simp only [List.getElem?_toArray, List.getElem?_cons_zero, List.getElem?_cons_succ] at z0 z1 z2
      have HSu := hide (hasEd_succ hlt ⟨ef, et, ek⟩)
      have HHit := hide (hasEd_hit hlt ⟨ef, et, ek⟩)
      generalize L[k] = x at d0 d1 d2 HSu HHit
      obtain ⟨xf, xt, xk⟩ := x
      dsimp only at d0 d1 d2 HSu HHit
      cases hq : (xf == ef && xt == et && xk == ek) with
      | true =>
        have HR := hide (HHit.out hq)
        simp only [Bool.and_eq_true, beq_iff_eq] at hq
        obtain ⟨⟨rfl, rfl⟩, rfl⟩ := hq
        go_wp2_with fail
        go_quiet (fail)
        go_wp2
        go_ret
        exact ⟨ret_bool HR.out.symm, below_drewN HB.out _⟩
      | false =>
        rw [HNo.out, hq] at HSu
        have HS2 := hide (show hasEd (L.take (k + 1)) ⟨ef, et, ek⟩ = false from HSu.out)
        clear HSu HHit
        cases qf : (xf == ef) with
        | false =>
          clear hq
          go_wp2_with fail
          go_quiet (fail)
          go_wp2
          go_roundw
          case rel => exact ⟨k + 1, by omega, by go_num, HS2.out, HX.out, below_drewN HB.out _⟩
          case measure => simp [intOf]; omega
        | true =>
          rw [qf, Bool.true_and] at hq
          cases qt : (xt == et) with
          | false =>
            clear hq
            go_wp2_with fail
            go_quiet (fail)
            go_wp2
            go_roundw
            case rel => exact ⟨k + 1, by omega, by go_num, HS2.out, HX.out, below_drewN HB.out _⟩
            case measure => simp [intOf]; omega
          | true =>
            rw [qt, Bool.true_and] at hq
            go_wp2_with fail
            go_quiet (fail)
            go_wp2
            go_roundw
            case rel => exact ⟨k + 1, by omega, by go_num, HS2.out, HX.out, below_drewN HB.out _⟩
            case measure => simp [intOf]; omega
    · have HR := hide (show hasEd L ⟨ef, et, ek⟩ = false by have h9 := HNo.out; rwa [show k = L.length by omega, List.take_length] at h9)
      have hkn : ¬ (k : Int) < (L.length : Int) := by omega
      go_wp2_with fail
      go_ret
      exact ⟨ret_bool HR.out.symm, HB.out⟩
def canK (L : List Edge) (f t : Nat) : Nat → List Edge
  | 0 => []
  | k + 1 => canK L f t k ++ (if hasEd L ⟨(f : Int), (t : Int), (k : Int) + 1⟩ then [⟨(f : Int), (t : Int), (k : Int) + 1⟩] else [])
def canT (L : List Edge) (f : Nat) : Nat → List Edge
  | 0 => []
  | t + 1 => canT L f t ++ canK L f t 4
def canF (L : List Edge) : Nat → List Edge
  | 0 => []
  | f + 1 => canF L f ++ canT L f 6
theorem canK_len (L : List Edge) (f t : Nat) : ∀ k, (canK L f t k).length ≤ k
  | 0 => Nat.le_refl _
  | k + 1 => by
    have := canK_len L f t k
    rw [canK, List.length_append]
    split <;> simp <;> omega
theorem canT_len (L : List Edge) (f : Nat) : ∀ t, (canT L f t).length ≤ 4 * t
  | 0 => Nat.le_refl _
  | t + 1 => by
    have := canT_len L f t
    have := canK_len L f t 4
    rw [canT, List.length_append]; omega
theorem canF_len (L : List Edge) : ∀ f, (canF L f).length ≤ 24 * f
  | 0 => Nat.le_refl _
  | f + 1 => by
    have := canF_len L f
    have := canT_len L f 6
    rw [canF, List.length_append]; omega
theorem canT_flat (L : List Edge) (f : Nat) : ∀ n, canT L f n = (List.range n).flatMap fun t => canK L f t 4
  | 0 => rfl
  | n + 1 => by rw [canT, canT_flat L f n, List.range_succ, List.flatMap_append]; simp
theorem canF_flat (L : List Edge) : ∀ n, canF L n = (List.range n).flatMap fun f => canT L f 6
  | 0 => rfl
  | n + 1 => by rw [canF, canF_flat L n, List.range_succ, List.flatMap_append]; simp
theorem canK_four (L : List Edge) (f t : Nat) : canK L f t 4 = [(⟨(f : Int), (t : Int), 1⟩ : Edge), ⟨(f : Int), (t : Int), 2⟩, ⟨(f : Int), (t : Int), 3⟩, ⟨(f : Int), (t : Int), 4⟩].filter (hasEd L) := by
  have h0 : (((0 : Nat) : Int) + 1) = 1 := rfl
  have h1 : (((1 : Nat) : Int) + 1) = 2 := rfl
  have h2 : (((2 : Nat) : Int) + 1) = 3 := rfl
  have h3 : (((3 : Nat) : Int) + 1) = 4 := rfl
  simp only [canK, h0, h1, h2, h3, List.filter_cons, List.filter_nil, List.nil_append]
  cases hasEd L ⟨(f : Int), (t : Int), 1⟩ <;> cases hasEd L ⟨(f : Int), (t : Int), 2⟩ <;> cases hasEd L ⟨(f : Int), (t : Int), 3⟩ <;> cases hasEd L ⟨(f : Int), (t : Int), 4⟩ <;> rfl
theorem canE_eq (L : List Edge) : canE L = canF L 6 := by
  unfold canE allEd
  rw [List.filter_flatMap, canF_flat]
  congr 1
  funext f
  rw [List.filter_flatMap, canT_flat]
  congr 1
  funext t
  exact (canK_four L f t).symm
set_option maxRecDepth 10000 in
set_option maxHeartbeats 4000000 in
theorem l8Sorted_any (L : List Edge) (A : Option Addr) (c : Nat) (w : World) (hl : L.length ≤ 1000000) (hA : Row tEdge w (Old w) A L) :
    Calls Tryz.prog 63 #[.slice A L.length c] w fun e w' => ∃ v, e = .returned v ∧ Own tEdge 86 w' (New w w') (canE L) v ∧ Below w.heap.size w w' := by
  obtain ⟨i0, hi, hz0, hz1, hz2⟩ := info_parts infoEdgeP
  have HA := hide hA
  have HO0 := hide (Own.empty (T := tEdge) (e := 86) w (fun b => w.heap.size ≤ b) (Nat.le_refl _))
  have HB0 := hide ((Below.refl _ w).alloc (Nat.le_refl _) (.cells #[] 86))
  clear hA
  rw [canE_eq]
  go_enter Tryz.func63, Tryz.ntmps63
  go_wp2_with fail
  go_loopw [3, 4, 5, 6, 7] (fun v f _ _ _ wr => ∃ (fN : Nat) (vo : Value), vo = v ∧ fN ≤ 6 ∧ f = .int .i64 fN ∧ Hid (Own tEdge 86 wr (fun b => w.heap.size ≤ b ∧ Old wr b) (canF L fN) v) ∧ Hid (Below w.heap.size w wr)) (fun _ f _ _ _ _ => 6 - (intOf f).toNat)
  case atStart => exact ⟨0, _, rfl, Nat.zero_le _, rfl, HO0.out, HB0.out⟩
  case round =>
    obtain ⟨fN, vo, rfl, hf6, rfl, hO, hB⟩ := hrel
    have HO := hide hO.out; have HB := hide hB.out
    clear hO hB HO0 HB0
    by_cases hlt : fN < 6
    · have hfi : (fN : Int) < 6 := by omega
      have HF := hide (show canF L (fN + 1) = canF L fN ++ canT L fN 6 from rfl)
      have hfl := canF_len L fN
      generalize canF L fN = LF at HO HF hfl
      go_wp2_with fail
      go_loopw [3, 5, 6, 7] (fun v t _ _ wr => ∃ (tN : Nat) (vo : Value), vo = v ∧ tN ≤ 6 ∧ t = .int .i64 tN ∧ Hid (Own tEdge 86 wr (fun b => w.heap.size ≤ b ∧ Old wr b) (LF ++ canT L fN tN) v) ∧ Hid (Below w.heap.size w wr)) (fun _ t _ _ _ => 6 - (intOf t).toNat)
      case atStart => exact ⟨0, _, rfl, Nat.zero_le _, rfl, by rw [canT, List.append_nil]; exact HO.out, HB.out⟩
      case round =>
        obtain ⟨tN, vo2, rfl, ht6, rfl, hO, hB⟩ := hrel
        have HO2 := hide hO.out; have HB2 := hide hB.out
        clear hO hB HO HB
        by_cases hlt2 : tN < 6
        · have hti : (tN : Int) < 6 := by omega
          have HT := hide (show LF ++ canT L fN (tN + 1) = (LF ++ canT L fN tN) ++ canK L fN tN 4 by rw [canT, List.append_assoc])
          have htl := canT_len L fN tN
          have hll : (LF ++ canT L fN tN).length ≤ 200 := by rw [List.length_append]; omega
          generalize LF ++ canT L fN tN = LT at HO2 HT hll
          go_wp2_with fail
          go_loopw [3, 6, 7] (fun v k _ wr => ∃ (kN : Nat) (vo : Value), vo = v ∧ kN ≤ 4 ∧ k = .int .i64 ((kN : Int) + 1) ∧ Hid (Own tEdge 86 wr (fun b => w.heap.size ≤ b ∧ Old wr b) (LT ++ canK L fN tN kN) v) ∧ Hid (Below w.heap.size w wr)) (fun _ k _ _ => 5 - (intOf k).toNat)
          case atStart => exact ⟨0, _, rfl, Nat.zero_le _, rfl, by rw [canK, List.append_nil]; exact HO2.out, HB2.out⟩
          case round =>
            obtain ⟨kN, vo3, rfl, hk4, rfl, hO, hB⟩ := hrel
            have HO3 := hide hO.out; have HB3 := hide hB.out
            clear hO hB HO2 HB2
            by_cases hlt3 : kN < 4
            · have hki : (kN : Int) + 1 ≤ 4 := by omega
              have HK := hide (show LT ++ canK L fN tN (kN + 1) = (LT ++ canK L fN tN kN) ++ (if hasEd L ⟨(fN : Int), (tN : Int), (kN : Int) + 1⟩ then [⟨(fN : Int), (tN : Int), (kN : Int) + 1⟩] else []) by rw [canK, List.append_assoc])
              have hkl := canK_len L fN tN kN
              have hlk : (LT ++ canK L fN tN kN).length ≤ 204 := by rw [List.length_append]; omega
              generalize LT ++ canK L fN tN kN = LK at HO3 HK hlk
              obtain ⟨kk, hkk⟩ : ∃ kk : Int, kk = (kN : Int) + 1 := ⟨_, rfl⟩
              have HKk := hide hkk
              rw [← hkk] at HK hki ⊢
              have hkm : kk ≤ 9 := by omega
              have hkn0 : 0 ≤ kk := by omega
              clear hkk
              have HX := hide (Blk.new wr 86 #[.int .i64 fN, .int .i64 tN, .int .i64 kk])
              have HB4 := hide (HB3.out.alloc HB3.out.size (.cells #[.int .i64 fN, .int .i64 tN, .int .i64 kk] 86))
              have HO4 := hide (HO3.out.onlyBelow ((Below.refl wr.heap.size wr).alloc (Nat.le_refl _) (.cells #[.int .i64 fN, .int .i64 tN, .int .i64 kk] 86)))
              go_upto_region 12 with (fail)
              generalize hW : World.alloc _ _ = W at HX HB4 HO4 ⊢
              obtain ⟨gb, hgb⟩ : ∃ gb, gb = wr.heap.size := ⟨_, rfl⟩
              rw [← hgb] at HX ⊢
              have x0 := HX.out.cell 0; have x1 := HX.out.cell 1; have x2 := HX.out.cell 2
              simp only [List.getElem?_toArray, List.getElem?_cons_zero, List.getElem?_cons_succ] at x0 x1 x2
              have HH := hide (fun (wz : World) (hb : Below w.heap.size w wz) => l8Has_any L ⟨(fN : Int), (tN : Int), kk⟩ A c wz hl (HA.out.old hb))
              clear hW hgb HO3 HB3
              cases hq : hasEd L ⟨(fN : Int), (tN : Int), kk⟩ with
              | false =>
                rw [hq] at HH HK
                have HK2 := hide (show _ = LK from HK.out.trans (by simp))
                clear hq HK
                go_wp2_with (go_at_call 101; refine (HH.out _ HB4.out).mono ?_; rintro e w5 ⟨rfl, hb5⟩; have HO5 := hide (HO4.out.onlyBelow hb5); have HB5 := hide (HB4.out.trans (hb5.mono HB4.out.size)); clear hb5)
                go_roundw
                case rel => exact ⟨kN + 1, _, rfl, by omega, by rw [HKk.out]; go_num, by rw [HK2.out]; exact HO5.out, HB5.out⟩
                case measure => simp [intOf]; have := HKk.out; omega
              | true =>
                rw [hq] at HH HK
                have HK2 := hide (show _ = LK ++ [⟨(fN : Int), (tN : Int), kk⟩] from HK.out.trans (by simp))
                clear hq HK
                go_wp2_with (first | (go_at_call 101; refine (HH.out _ HB4.out).mono ?_; rintro e w5 ⟨rfl, hb5⟩; have HO5 := hide (HO4.out.onlyBelow hb5); have HB5 := hide (HB4.out.trans (hb5.mono HB4.out.size)); have HX5 := hide (HX.out.below hb5 HX.out.lt); have v0 := HX5.out.cell 0; have v1 := HX5.out.cell 1; have v2 := HX5.out.cell 2; simp only [List.getElem?_toArray, List.getElem?_cons_zero, List.getElem?_cons_succ] at v0 v1 v2; clear hb5) | (at_builtin; go_loud (refine wpList_put tEdge rfl (.tmp 28) (.tmp 30) 53 rfl 86 i0 _ 24 Tryz.underlying53 hi hz0 hz1 hz2 rfl (by decide) (fun b => w.heap.size ≤ b) (fun _ => False) LK ⟨(fN : Int), (tN : Int), kk⟩ [.int .i64 fN, .int .i64 tN, .int .i64 kk] _ rfl HO5.out 1 rfl rfl (fun _ h => h.elim) (fun b hb => Nat.le_trans HB5.out.size hb) (by simp only [maxLen]; omega) (by omega) ?_; intro v6 w6 hO_ hK_; have HO6 := hide hO_; have HB6 := hide (below_only HB5.out hK_ HB5.out.size (fun _ h => h)); clear hO_ hK_)))
                go_roundw
                case rel => exact ⟨kN + 1, _, rfl, by omega, by rw [HKk.out]; go_num, by rw [HK2.out]; exact HO6.out, HB6.out⟩
                case measure => simp [intOf]; have := HKk.out; omega
            · have HKe := hide (show kN = 4 by omega)
              have HO5 := hide (show Own tEdge 86 wr (fun b => w.heap.size ≤ b ∧ Old wr b) (LF ++ canT L fN (tN + 1)) _ by rw [HT.out, ← HKe.out]; exact HO3.out)
              have hkn : ¬ (kN : Int) + 1 ≤ 4 := by omega
              go_wp2_with fail
              go_roundw
              case rel => exact ⟨tN + 1, _, rfl, by omega, by go_num, HO5.out, HB3.out⟩
              case measure => simp [intOf]; omega
        · have HTe := hide (show tN = 6 by omega)
          have HO5 := hide (show Own tEdge 86 wr (fun b => w.heap.size ≤ b ∧ Old wr b) (canF L (fN + 1)) _ by rw [HF.out, ← HTe.out]; exact HO2.out)
          have htn : ¬ (tN : Int) < 6 := by omega
          go_wp2_with fail
          go_roundw
          case rel => exact ⟨fN + 1, _, rfl, by omega, by go_num, HO5.out, HB2.out⟩
          case measure => simp [intOf]; omega
    · have HFe := hide (show fN = 6 by omega)
      have HO5 := hide (show Own tEdge 86 wr (fun b => w.heap.size ≤ b ∧ Old wr b) (canF L 6) _ by rw [← HFe.out]; exact HO.out)
      have hfn : ¬ (fN : Int) < 6 := by omega
      go_wp2_with fail
      go_ret
      exact ⟨_, rfl, HO5.out, HB.out⟩
theorem look_append_none {l r : List (Nat × Op)} {x y : Int} (h : look l x y = none) : look (l ++ r) x y = look r x y := by
  unfold look at h ⊢
  rw [Option.map_eq_none_iff] at h
  rw [List.find?_append, h]
  rfl
theorem look_hit {l r : List (Nat × Op)} {q : Nat × Op} {x y : Int} (h : look l x y = none) (hq : isW x y q.2 = true) : look (l ++ q :: r) x y = some (q.1 : Int) := by
  rw [look_append_none h]
  unfold look
  simp [hq]
set_option maxRecDepth 10000 in
set_option maxHeartbeats 1000000 in
theorem specWriter (xs : List Txn) (key value : Int) (A : Option Addr) (c : Nat) (w : World) (hm : xs.length ≤ maxLen) (hA : Row tTxn w (Old w) A xs) :
    Calls Tryz.prog 58 #[.slice A xs.length c, .int .i64 key, .int .i64 value] w fun e w' => e = .returned (.int .i64 ((look (num xs 0) key value).getD (-1))) ∧ Below w.heap.size w w' := by
  unfold maxLen at hm
  have HA := hide hA
  clear hA
  go_enter Tryz.func58, Tryz.ntmps58
  go_wp2
  go_loopw [7] (fun i wr => ∃ k : Nat, k ≤ xs.length ∧ i = .int .i64 k ∧ Hid (look (num (xs.take k) 0) key value = none) ∧ Below w.heap.size w wr) (fun i _ => xs.length - (intOf i).toNat)
  case atStart => exact ⟨0, Nat.zero_le _, rfl, rfl, Below.refl _ _⟩
  case round =>
    obtain ⟨k, hk, rfl, hI, hb⟩ := hrel
    by_cases hlt : k < xs.length
    · obtain ⟨b, off, A2, c2, rfl, hbS, c0, c1, c3, hi1, hi2, hi3⟩ := at_Txn HA.out hb hlt
      have hq2 : xs[k].Ops.length ≤ 9223372036854775807 := by have h := Nat.le_trans hi1 hi2; simpa [maxLen] using h
      have HR := hide hi3
      have HbS := hide (show b < wr.heap.size from Nat.lt_of_lt_of_le hbS hb.size)
      have Hc1 := hide c1
      clear hi3 hi2 hbS c0 c3
      go_wp2
      clear c1
      obtain ⟨wo, hwo⟩ : ∃ wo : World, wo = wr := ⟨_, rfl⟩
      rw [← hwo] at hb HR HbS Hc1 ⊢
      clear hwo
      have hp0 : pre xs k 0 hlt = num (xs.take k) 0 := by unfold pre; simp
      go_loopw [8] (fun j wr2 => ∃ l : Nat, l ≤ xs[k].Ops.length ∧ j = .int .i64 l ∧ Hid (look (pre xs k l hlt) key value = none) ∧ Below wo.heap.size wo wr2) (fun j _ => xs[k].Ops.length - (intOf j).toNat)
      case atStart => exact ⟨0, Nat.zero_le _, rfl, by rw [hp0]; exact hI, Below.refl _ _⟩
      case round =>
        obtain ⟨l, hl, rfl, hJ, hb2⟩ := hrel
        have c1 := (hb2.cell (p := ⟨b, off + k * 3 + 1, none⟩) HbS.out).trans Hc1.out
        by_cases hlt2 : l < xs[k].Ops.length
        · obtain ⟨b2, off2, rfl, hbS2, d0, d1, d2⟩ := at_Op HR.out hb2 hlt2
          cases hw : isW key value xs[k].Ops[l] with
          | true =>
            have HO := hide (show look (num xs 0) key value = some (k : Int) by
              obtain ⟨r, hr⟩ := num_split xs k l hlt hlt2
              rw [hr]
              exact look_hit hJ.out hw)
            have hw' := hw
            simp only [isW, Bool.and_eq_true, beq_iff_eq] at hw'
            obtain ⟨⟨hw0, hw1⟩, hw2⟩ := hw'
            rw [hw0] at d0; rw [hw1] at d1; rw [hw2] at d2
            clear hw hw0 hw1 hw2
            go_wp2
            go_ret
            exact ⟨by rw [HO.out]; rfl, hb.trans (hb2.mono hb.size)⟩
          | false =>
            have HJ := hide (show look (pre xs k (l + 1) hlt) key value = none by
              rw [pre_snoc xs k l hlt hlt2, look_snoc, hJ.out, if_neg (by rw [hw]; simp)]; rfl)
            have HW := hide hw
            clear hw
            go_wp2
            all_goals first
              | (exfalso; have hw := HW.out; simp [isW, *] at hw; done)
              | (go_roundw; (case rel => exact ⟨l + 1, by omega, by go_num, HJ.out, hb2⟩); (case measure => simp [intOf]; omega))
        · obtain rfl : l = xs[k].Ops.length := by omega
          have HP := hide (show look (num (xs.take (k + 1)) 0) key value = none by rw [← pre_all xs k hlt]; exact hJ.out)
          go_wp2
          go_roundw
          case rel => exact ⟨k + 1, by omega, by go_num, HP.out, hb.trans (hb2.mono hb.size)⟩
          case measure => simp [intOf]; omega
    · obtain rfl : k = xs.length := by omega
      have HE := hide (show look (num xs 0) key value = none by have h := hI.out; rwa [List.take_length] at h)
      clear HA hI
      go_wp2
      go_ret
      exact ⟨by rw [HE.out]; rfl, hb⟩
/-- The values of a drawn region's operations, one of which makes a block of one element. -/
def FApp (lo : Nat) (V : Nat → Value) (k : Nat) (t : TypeId) (cs : Array Value) (i : Nat) (v : Value) (wz : World) : Prop := if i = k then ∃ p, v = .slice (some ⟨p, 0, none⟩) 1 1 ∧ lo ≤ p ∧ Blk wz p t cs else v = V i
theorem FApp.ev {lo : Nat} {V : Nat → Value} {k : Nat} {t : TypeId} {cs : Array Value} {i : Nat} {v : Value} {wa wb : World} (h : FApp lo V k t cs i v wa) (hb : Below wa.heap.size wa wb) : FApp lo V k t cs i v wb := by
  unfold FApp at *
  split
  · rename_i hk
    rw [if_pos hk] at h
    obtain ⟨p, h1, h2, h3⟩ := h
    exact ⟨p, h1, h2, h3.below hb h3.lt⟩
  · rename_i hk
    rwa [if_neg hk] at h
theorem FApp.get {lo : Nat} {V : Nat → Value} {k : Nat} {t : TypeId} {cs : Array Value} {i : Nat} {v : Value} {wa : World} (h : FApp lo V k t cs i v wa) (hk : i ≠ k) : v = V i := by
  unfold FApp at h; rwa [if_neg hk] at h
theorem FApp.val {lo : Nat} {V : Nat → Value} {k : Nat} {t : TypeId} {cs : Array Value} {i : Nat} {v : Value} {wa : World} (hk : i ≠ k) (h : v = V i) : FApp lo V k t cs i v wa := by
  unfold FApp; rwa [if_neg hk]
theorem FApp.new {lo : Nat} {V : Nat → Value} {k : Nat} {t : TypeId} {cs : Array Value} {wa : World} (h : lo ≤ wa.heap.size) : FApp lo V k t cs k (.slice (some ⟨wa.heap.size, 0, none⟩) 1 1) (wa.alloc (.cells cs t)) := by
  unfold FApp; rw [if_pos rfl]; exact ⟨_, rfl, h, Blk.new _ _ _⟩
theorem le_refl_or (n : Nat) : n ≤ n := Nat.le_refl n
theorem FApp.app {lo : Nat} {V : Nat → Value} {k : Nat} {t : TypeId} {cs : Array Value} {v : Value} {wa : World} (h : FApp lo V k t cs k v wa) : ∃ p, v = .slice (some ⟨p, 0, none⟩) 1 1 ∧ lo ≤ p ∧ Blk wa p t cs := by
  unfold FApp at h; rwa [if_pos rfl] at h
theorem firstR_sub0 (ops : List Op) : ∀ k, ∀ o ∈ firstRs ops k, o ∈ ops
  | 0, o, ho => by cases ho
  | k + 1, o, ho => by
    rw [firstRs, List.mem_append] at ho
    rcases ho with ho | ho
    · exact firstR_sub0 ops k o ho
    · split at ho
      · rename_i x hx
        split at ho
        · rw [List.mem_singleton] at ho
          subst ho
          exact List.mem_of_getElem? hx
        · cases ho
      · cases ho
theorem firstR_sub {ops : List Op} {o : Op} (h : o ∈ firstR ops) : o ∈ ops := firstR_sub0 ops _ o h
theorem wr_cases (h : List Txn) (key v : Int) : wrI h key v = -1 ∨ ∃ m : Nat, m < h.length ∧ wrI h key v = (m : Int) := by
  unfold wrI
  cases hw : wrN h key v with
  | none => exact .inl rfl
  | some x =>
    obtain ⟨n, rfl, hn, _⟩ := wrN_some hw
    exact .inr ⟨n, hn, rfl⟩
theorem rowOneE {w : World} {p : Nat} {t : TypeId} {x : Edge} (h : Blk w p t #[.int .i64 x.From, .int .i64 x.To, .int .i64 x.Kind]) : RowAny tEdge w (fun _ => False) (some ⟨p, 0, none⟩) [x] := fun _ => ⟨p, 0, rfl, fun k hk => by
  obtain rfl : k = 0 := by simpa using hk
  refine ⟨_, rfl, fun j u hu => ?_⟩
  rw [h.cell]
  have hj : j < 3 := by have := (List.getElem?_eq_some_iff.1 hu).1; simpa using this
  match j, hj, hu with
  | 0, _, hu => simpa [tEdge, flat] using hu
  | 1, _, hu => simpa [tEdge, flat] using hu
  | 2, _, hu => simpa [tEdge, flat] using hu⟩
set_option maxRecDepth 10000 in
set_option maxHeartbeats 8000000 in
theorem specEdges1 (xs : List Txn) (os : List (List Int)) (A B : Option Addr) (c d : Nat) (w : World) (ht : opsN xs ≤ 1048576) (ho : ordB xs os = true) (hA : Row tTxn w (Old w) A xs) (hB : Row (tSlice tInt) w (Old w) B os) :
    Calls Tryz.prog 25 #[.slice A xs.length c, .slice B os.length d] w fun e w' => ∃ v, e = .returned v ∧ Sl tEdge w' (New w w') (canE (rawI xs os)) v ∧ Below w.heap.size w w' := by
  obtain ⟨i0, hi, hz0, hz1, hz2⟩ := info_parts infoEdgeP
  obtain ⟨hv, h3, hperm⟩ := ord_parts ho
  have h6 : xs.length ≤ 6 := (histV_parts hv).1
  have hlen : ∀ k, k < os.length → (os.getD k []).length ≤ 6 := fun k hk => by
    rw [(hperm k (by omega)).length_eq]
    exact Nat.le_trans (instV_len xs _ _) h6
  have HLen := hide hlen
  have HV := hide hv
  have HOV := hide (fun (W : World) (hb : Below w.heap.size w W) => specOrdersValid xs os A B c d W (by simp only [maxLen]; omega) ht (by omega) (fun o hm => by
    obtain ⟨k, hk, rfl⟩ := List.getElem_of_mem hm
    have := hlen k hk
    rw [List.getD_eq_getElem?_getD, List.getElem?_eq_getElem hk] at this
    simp only [Option.getD_some] at this
    omega) (hA.old hb) (hB.old hb))
  rw [ho] at HOV
  have HPut := hide (show ∀ (k : Nat), k < 3 → ∀ (i : Nat), i + 1 < (os.getD k []).length → ∀ (L : List Edge), putL xs L (wrI xs (k : Int) ((os.getD k []).getD i 0)) (wrI xs (k : Int) ((os.getD k []).getD (i + 1) 0)) 1 = L ++ [⟨wrI xs (k : Int) ((os.getD k []).getD i 0), wrI xs (k : Int) ((os.getD k []).getD (i + 1) 0), 1⟩] from fun k hk i h L => by
    rw [show (os.getD k []).getD i 0 = (os.getD k [])[i] by rw [List.getD_eq_getElem?_getD, List.getElem?_eq_getElem (show i < (os.getD k []).length by omega)]; rfl, show (os.getD k []).getD (i + 1) 0 = (os.getD k [])[i + 1] by rw [List.getD_eq_getElem?_getD, List.getElem?_eq_getElem h]; rfl]
    exact put_w ho hk h L)
  have HPk := hide (fun (k : Nat) (hk : k < 3) (x : Int) (hx : x ∈ os.getD k []) => instL_val hv ((hperm k hk).mem_iff.1 hx))
  have HWr := hide (fun (key z : Int) (W : World) (hb : Below w.heap.size w W) => show Calls Tryz.prog 58 #[.slice A xs.length c, .int .i64 key, .int .i64 z] W fun e w' => e = .returned (.int .i64 (wrI xs key z)) ∧ Below W.heap.size W w' from specWriter xs key z A c W (by simp only [maxLen]; omega) (hA.old hb))
  have HA := hide hA; have HB := hide hB
  have HO3 := hide ho
  have H3 := hide h3
  have hq3 : os.length ≤ 9223372036854775807 := by omega
  have HO0 := hide (Own.empty (T := tEdge) (e := 86) w (fun b => w.heap.size ≤ b) (Nat.le_refl _))
  have HB0 := hide ((Below.refl _ w).alloc (Nat.le_refl _) (.cells #[] 86))
  clear ho hA hB hperm hlen hv h3
  go_enter Tryz.func25, Tryz.ntmps25
  go_wp2_with (go_at_call 61; refine (HOV.out _ HB0.out).mono ?_; rintro e w1 ⟨rfl, hb1⟩; have HO1 := hide (HO0.out.onlyBelow hb1); have HB1 := hide (HB0.out.trans (hb1.mono HB0.out.size)); clear hb1)
  clear HO0 HB0 HOV
  go_loopw [5, 6, 7] (fun v ctr _ wr => ∃ (kk : Nat) (vo : Value), vo = v ∧ kk ≤ 3 ∧ ctr = .int .i64 kk ∧ (partK xs os kk).length ≤ 6 * kk ∧ Hid (Own tEdge 86 wr (fun b => w.heap.size ≤ b ∧ Old wr b) (partK xs os kk) v) ∧ Hid (Below w.heap.size w wr)) (fun _ ctr _ _ => 3 - (intOf ctr).toNat)
  case atStart => exact ⟨0, _, rfl, Nat.zero_le _, rfl, Nat.le_refl _, HO1.out, HB1.out⟩
  case round =>
    obtain ⟨kk, vo0, rfl, hkk, rfl, hll, hO, hBw⟩ := hrel
    have HO := hide hO.out; have HBw := hide hBw.out
    clear hO hBw HO1 HB1
    by_cases hlt : kk < 3
    · have hki : (kk : Int) ≤ 2 := by omega
      have hkl : kk < os.length := by have := H3.out; omega
      obtain ⟨b, off, A2, c2, rfl, hbS, d0w, hs1, hs2, hs3⟩ := at_IntS HB.out (Below.refl _ w) hkl
      have hgd : os.getD kk [] = os[kk] := by rw [List.getD_eq_getElem?_getD, List.getElem?_eq_getElem hkl]; rfl
      have hol := HLen.out kk hkl
      have HPk1 := hide (HPk.out kk hlt)
      have HPut1 := hide (HPut.out kk hlt)
      have HSk := hide (show partK xs os (kk + 1) = partW xs kk (os.getD kk []) (partK xs os kk) ((os.getD kk []).length - 1) from rfl)
      rw [hgd] at hol HPk1 HSk HPut1
      clear hgd
      generalize os[kk] = O at d0w hs1 hs3 hol HPk1 HPut1 HSk
      generalize partK xs os kk = L0 at HO HSk hll
      have HRo := hide hs3
      clear hs3 hs1 hs2
      go_wp2_with fail
      go_loopw [5, 7] (fun v ix wr => ∃ (i : Nat) (vo : Value), vo = v ∧ i ≤ O.length - 1 ∧ ix = .int .i64 i ∧ (partW xs kk O L0 i).length ≤ L0.length + i ∧ Hid (Own tEdge 86 wr (fun b => w.heap.size ≤ b ∧ Old wr b) (partW xs kk O L0 i) v) ∧ Hid (Below w.heap.size w wr)) (fun _ ix _ => O.length - (intOf ix).toNat)
      case atStart => exact ⟨0, _, rfl, Nat.zero_le _, rfl, Nat.le_refl _, HO.out, HBw.out⟩
      case round =>
        obtain ⟨i, vo, rfl, hi1, rfl, hwl, hO, hBw⟩ := hrel
        clear HO HBw
        have HO := hide hO.out; have HBw := hide hBw.out
        clear hO hBw
        have d0 := (HBw.out.cell (p := ⟨b, off + kk, none⟩) hbS).trans d0w
        by_cases hlt2 : i + 1 < O.length
        · have hki2 : (i : Int) + 1 < (O.length : Int) := by omega
          have HSw := hide (show partW xs kk O L0 (i + 1) = partW xs kk O L0 i ++ [⟨wrI xs (kk : Int) O[i], wrI xs (kk : Int) O[i + 1], 1⟩] by
            have h9 := HPut1.out i hlt2 (partW xs kk O L0 i)
            rw [show O.getD i 0 = O[i] by rw [List.getD_eq_getElem?_getD, List.getElem?_eq_getElem (show i < O.length by omega)]; rfl, show O.getD (i + 1) 0 = O[i + 1] by rw [List.getD_eq_getElem?_getD, List.getElem?_eq_getElem hlt2]; rfl] at h9
            rw [← h9, partW]
            rw [show O.getD i 0 = O[i] by rw [List.getD_eq_getElem?_getD, List.getElem?_eq_getElem (show i < O.length by omega)]; rfl, show O.getD (i + 1) 0 = O[i + 1] by rw [List.getD_eq_getElem?_getD, List.getElem?_eq_getElem hlt2]; rfl])
          have hp := fun (wz : World) (hb : Below w.heap.size w wz) => at_Int HRo.out hb (show i < O.length by omega)
          have hq := fun (wz : World) (hb : Below w.heap.size w wz) => at_Int HRo.out hb hlt2
          obtain ⟨b2, off2, hA2, _, _⟩ := hp w (Below.refl _ _)
          subst hA2
          have HCx := hide (fun (wz : World) (hb : Below w.heap.size w wz) => show wz.cell? ⟨b2, off2 + i, none⟩ = some (.int .i64 O[i]) from by
            obtain ⟨b3, off3, h1, _, h2⟩ := hp wz hb
            obtain ⟨rfl, rfl⟩ : b2 = b3 ∧ off2 = off3 := by simpa using h1
            exact h2)
          have HCy := hide (fun (wz : World) (hb : Below w.heap.size w wz) => show wz.cell? ⟨b2, off2 + (i + 1), none⟩ = some (.int .i64 O[i + 1]) from by
            obtain ⟨b3, off3, h1, _, h2⟩ := hq wz hb
            obtain ⟨rfl, rfl⟩ : b2 = b3 ∧ off2 = off3 := by simpa using h1
            exact h2)
          clear hp hq HPut1
          generalize O[i] = x at HSw HCx
          generalize O[i + 1] = y at HSw HCy
          generalize partW xs kk O L0 i = L1 at HO HSw hwl
          have px := True.intro; have py := True.intro
          go_upto_region 10 with (fail)
          refine wp_region_facts 24 (fun _ wz => Below wr.heap.size wr wz) (FApp (wr.heap.size) (fun q9 => match q9 with | 0 => vo | 1 => .slice A xs.length c | 2 => .int .i64 kk | 3 => .slice (some ⟨b, off, none⟩) os.length d | 4 => .int .i64 kk | 5 => .pointer (some ⟨b, off + kk, none⟩) | 6 => .slice (some ⟨b2, off2, none⟩) O.length c2 | 7 => .int .i64 i | 8 => .pointer (some ⟨b2, off2 + i, none⟩) | 9 => .int .i64 x | 10 => .int .i64 (wrI xs kk x) | 11 => .slice A xs.length c | 12 => .int .i64 kk | 13 => .slice (some ⟨b, off, none⟩) os.length d | 14 => .int .i64 kk | 15 => .pointer (some ⟨b, off + kk, none⟩) | 16 => .slice (some ⟨b2, off2, none⟩) O.length c2 | 17 => .int .i64 i | 18 => .int .i64 ((i : Int) + 1) | 19 => .pointer (some ⟨b2, off2 + (i + 1), none⟩) | 20 => .int .i64 y | 21 => .int .i64 (wrI xs kk y) | 22 => .agg #[.int .i64 (wrI xs kk x), .int .i64 (wrI xs kk y), .int .i64 1] | _ => undef) 23 86 #[.int .i64 (wrI xs kk x), .int .i64 (wrI xs kk y), .int .i64 1]) (fun _ wa wb => Below wa.heap.size wa wb) [some 33, some 34, some 35, some 36, some 37, some 38, some 39, some 40, some 41, some 42, some 43, some 44, some 45, some 46, some 47, some 48, some 49, some 50, some 51, some 52, some 53, some 54, some 55, some 56] (by kernel_rfl) (by kernel_rfl) (by kernel_rfl) (by kernel_rfl) ?_ ?_ ?_ ?_
          · exact (Below.refl _ wr).drew
          · intro i k v wa wb _ _ _ h hb; exact h.ev hb
          · intro i o hi ho a wa L hL hI hc hd K hK
            have hi' : i = 0 ∨ i = 1 ∨ i = 2 ∨ i = 3 ∨ i = 4 ∨ i = 5 ∨ i = 6 ∨ i = 7 ∨ i = 8 ∨ i = 9 ∨ i = 10 ∨ i = 11 ∨ i = 12 ∨ i = 13 ∨ i = 14 ∨ i = 15 ∨ i = 16 ∨ i = 17 ∨ i = 18 ∨ i = 19 ∨ i = 20 ∨ i = 21 ∨ i = 22 ∨ i = 23 := by omega
            clear hi
            rcases hi' with rfl | rfl | rfl | rfl | rfl | rfl | rfl | rfl | rfl | rfl | rfl | rfl | rfl | rfl | rfl | rfl | rfl | rfl | rfl | rfl | rfl | rfl | rfl | rfl
            all_goals
              simp only [List.getElem?_toArray, List.getElem?_cons_zero, List.getElem?_cons_succ, Option.some.injEq] at ho
              subst ho
              simp only [reduceCtorEq, if_false] at hK
            · have e5 := (hc 5 (by kernel_rfl)).trans rfl
              go_simp
              exact hK _ _ (FApp.val (by decide) rfl) hI (Below.refl _ _)
            · have e0 := (hc 0 (by kernel_rfl)).trans rfl
              go_simp
              exact hK _ _ (FApp.val (by decide) rfl) hI (Below.refl _ _)
            · have e6 := (hc 6 (by kernel_rfl)).trans rfl
              go_simp
              exact hK _ _ (FApp.val (by decide) rfl) hI (Below.refl _ _)
            · have e1 := (hc 1 (by kernel_rfl)).trans rfl
              go_simp
              exact hK _ _ (FApp.val (by decide) rfl) hI (Below.refl _ _)
            · have e6 := (hc 6 (by kernel_rfl)).trans rfl
              go_simp
              exact hK _ _ (FApp.val (by decide) rfl) hI (Below.refl _ _)
            · have e36 : a.tmps.getD 36 undef = .slice (some ⟨b, off, none⟩) os.length d := (hd 3 36 (by kernel_rfl)).get (by decide)
              have e37 : a.tmps.getD 37 undef = .int .i64 kk := (hd 4 37 (by kernel_rfl)).get (by decide)
              go_simp
              exact hK _ _ (FApp.val (by decide) rfl) hI (Below.refl _ _)
            · have e38 : a.tmps.getD 38 undef = .pointer (some ⟨b, off + kk, none⟩) := (hd 5 38 (by kernel_rfl)).get (by decide)
              have hbz := HBw.out.trans (hI.mono HBw.out.size)
              have c0 := (hbz.cell (p := ⟨b, off + kk, none⟩) hbS).trans d0w
              go_simp
              exact hK _ _ (FApp.val (by decide) rfl) hI (Below.refl _ _)
            · have e7 := (hc 7 (by kernel_rfl)).trans rfl
              go_simp
              exact hK _ _ (FApp.val (by decide) rfl) hI (Below.refl _ _)
            · have e39 : a.tmps.getD 39 undef = .slice (some ⟨b2, off2, none⟩) O.length c2 := (hd 6 39 (by kernel_rfl)).get (by decide)
              have e40 : a.tmps.getD 40 undef = .int .i64 i := (hd 7 40 (by kernel_rfl)).get (by decide)
              have s2 : i < O.length := by omega
              go_simp
              exact hK _ _ (FApp.val (by decide) rfl) hI (Below.refl _ _)
            · have e41 : a.tmps.getD 41 undef = .pointer (some ⟨b2, off2 + i, none⟩) := (hd 8 41 (by kernel_rfl)).get (by decide)
              have c0 := HCx.out wa (HBw.out.trans (hI.mono HBw.out.size))
              go_simp
              exact hK _ _ (FApp.val (by decide) rfl) hI (Below.refl _ _)
            · have e34 : a.tmps.getD 34 undef = .slice A xs.length c := (hd 1 34 (by kernel_rfl)).get (by decide)
              have e35 : a.tmps.getD 35 undef = .int .i64 kk := (hd 2 35 (by kernel_rfl)).get (by decide)
              have e42 : a.tmps.getD 42 undef = .int .i64 x := (hd 9 42 (by kernel_rfl)).get (by decide)
              go_simp
              refine (HWr.out kk x wa (HBw.out.trans (hI.mono HBw.out.size))).mono ?_
              rintro e w2 ⟨rfl, hb⟩
              exact hK _ _ (FApp.val (by decide) rfl) (hI.trans (hb.mono hI.size)) hb
            · have e0 := (hc 0 (by kernel_rfl)).trans rfl
              go_simp
              exact hK _ _ (FApp.val (by decide) rfl) hI (Below.refl _ _)
            · have e6 := (hc 6 (by kernel_rfl)).trans rfl
              go_simp
              exact hK _ _ (FApp.val (by decide) rfl) hI (Below.refl _ _)
            · have e1 := (hc 1 (by kernel_rfl)).trans rfl
              go_simp
              exact hK _ _ (FApp.val (by decide) rfl) hI (Below.refl _ _)
            · have e6 := (hc 6 (by kernel_rfl)).trans rfl
              go_simp
              exact hK _ _ (FApp.val (by decide) rfl) hI (Below.refl _ _)
            · have e46 : a.tmps.getD 46 undef = .slice (some ⟨b, off, none⟩) os.length d := (hd 13 46 (by kernel_rfl)).get (by decide)
              have e47 : a.tmps.getD 47 undef = .int .i64 kk := (hd 14 47 (by kernel_rfl)).get (by decide)
              go_simp
              exact hK _ _ (FApp.val (by decide) rfl) hI (Below.refl _ _)
            · have e48 : a.tmps.getD 48 undef = .pointer (some ⟨b, off + kk, none⟩) := (hd 15 48 (by kernel_rfl)).get (by decide)
              have hbz := HBw.out.trans (hI.mono HBw.out.size)
              have c0 := (hbz.cell (p := ⟨b, off + kk, none⟩) hbS).trans d0w
              go_simp
              exact hK _ _ (FApp.val (by decide) rfl) hI (Below.refl _ _)
            · have e7 := (hc 7 (by kernel_rfl)).trans rfl
              go_simp
              exact hK _ _ (FApp.val (by decide) rfl) hI (Below.refl _ _)
            · have e50 : a.tmps.getD 50 undef = .int .i64 i := (hd 17 50 (by kernel_rfl)).get (by decide)
              have s1 : IntKind.i64.wrap ((i : Int) + 1) = (i : Int) + 1 := by rw [IntKind.wrap_i64]; omega
              go_simp
              exact hK _ _ (FApp.val (by decide) rfl) hI (Below.refl _ _)
            · have e49 : a.tmps.getD 49 undef = .slice (some ⟨b2, off2, none⟩) O.length c2 := (hd 16 49 (by kernel_rfl)).get (by decide)
              have e51 : a.tmps.getD 51 undef = .int .i64 ((i : Int) + 1) := (hd 18 51 (by kernel_rfl)).get (by decide)
              have s2 : i + 1 < O.length := by omega
              go_simp
              exact hK _ _ (FApp.val (by decide) rfl) hI (Below.refl _ _)
            · have e52 : a.tmps.getD 52 undef = .pointer (some ⟨b2, off2 + (i + 1), none⟩) := (hd 19 52 (by kernel_rfl)).get (by decide)
              have c0 := HCy.out wa (HBw.out.trans (hI.mono HBw.out.size))
              go_simp
              exact hK _ _ (FApp.val (by decide) rfl) hI (Below.refl _ _)
            · have e44 : a.tmps.getD 44 undef = .slice A xs.length c := (hd 11 44 (by kernel_rfl)).get (by decide)
              have e45 : a.tmps.getD 45 undef = .int .i64 kk := (hd 12 45 (by kernel_rfl)).get (by decide)
              have e53 : a.tmps.getD 53 undef = .int .i64 y := (hd 20 53 (by kernel_rfl)).get (by decide)
              go_simp
              refine (HWr.out kk y wa (HBw.out.trans (hI.mono HBw.out.size))).mono ?_
              rintro e w2 ⟨rfl, hb⟩
              exact hK _ _ (FApp.val (by decide) rfl) (hI.trans (hb.mono hI.size)) hb
            · have e43 : a.tmps.getD 43 undef = .int .i64 (wrI xs kk x) := (hd 10 43 (by kernel_rfl)).get (by decide)
              have e54 : a.tmps.getD 54 undef = .int .i64 (wrI xs kk y) := (hd 21 54 (by kernel_rfl)).get (by decide)
              rw [Array.getD_eq_getD_getElem?] at e43 e54
              go_simp
              exact hK _ _ (FApp.val (by decide) rfl) hI (Below.refl _ _)
            · have e55 : a.tmps.getD 55 undef = .agg #[.int .i64 (wrI xs kk x), .int .i64 (wrI xs kk y), .int .i64 1] := (hd 22 55 (by kernel_rfl)).get (by decide)
              rw [Array.getD_eq_getD_getElem?] at e55
              go_simp
              exact hK _ _ (FApp.new (Nat.le_trans (le_refl_or _) hI.size)) (hI.alloc hI.size _) ((Below.refl _ _).alloc (Nat.le_refl _) _)
          · intro vs wz L hL hI hF
            have f0 : vs 0 = vo := (hF 0 (by decide)).get (by decide)
            obtain ⟨p9, f23, hp9, hB9⟩ := (hF 23 (by decide)).app
            simp only [putD, Act.put, List.setIfInBounds_toArray, List.set_cons_zero, List.set_cons_succ, List.drop_succ_cons, List.drop_zero]
            rw [f0, f23]
            have HI := hide hI
            have HR9 := hide (rowOneE (x := ⟨wrI xs kk x, wrI xs kk y, 1⟩) hB9)
            have HO5 := hide (HO.out.onlyBelow hI)
            have HB5 := hide (HBw.out.trans (hI.mono HBw.out.size))
            clear hI hF hB9 HO
            go_wp2_with (at_builtin; go_loud (refine wpList_cat tEdge rfl (.tmp 33) (.tmp 56) 53 rfl 86 i0 _ 24 Tryz.underlying53 hi hz0 hz1 hz2 rfl (by decide) (fun b => w.heap.size ≤ b) (fun _ => False) L1 [⟨wrI xs kk x, wrI xs kk y, 1⟩] _ rfl HO5.out _ 1 1 rfl rfl HR9.out (fun _ h => h.elim) (fun b hb => Nat.le_trans HB5.out.size hb) (by simp only [maxLen, List.length_singleton]; omega) (by simp only [List.length_singleton]; omega) ?_; intro v6 w6 hO_ hK_; have HO6 := hide hO_; have HB6 := hide (below_only HB5.out hK_ HB5.out.size (fun _ h => h)); clear hO_ hK_))
            go_roundw
            case rel => exact ⟨i + 1, _, rfl, by omega, by go_num, by rw [HSw.out]; simp only [List.length_append, List.length_singleton]; omega, by rw [HSw.out]; exact HO6.out, HB6.out⟩
            case measure => simp [intOf]; omega
        · have hie : i = O.length - 1 := by omega
          have HO3 := hide (show Own tEdge 86 wr (fun b => w.heap.size ≤ b ∧ Old wr b) (partK xs os (kk + 1)) vo by rw [HSk.out, ← hie]; exact HO.out)
          have HL3 := hide (show (partK xs os (kk + 1)).length ≤ 6 * (kk + 1) by rw [HSk.out, ← hie]; omega)
          have hnn : ¬ (i : Int) + 1 < (O.length : Int) := by omega
          have hiw : IntKind.i64.wrap ((i : Int) + 1) = (i : Int) + 1 := by rw [IntKind.wrap_i64]; omega
          clear HO hie HSk hwl hi1
          go_wp2_with fail
          go_roundw
          case rel => exact ⟨kk + 1, _, rfl, by omega, by go_num, HL3.out, HO3.out, HBw.out⟩
          case measure => simp [intOf]; omega
    · have HK3 := hide (show kk = 3 by omega)
      have HO1 := hide (show Own tEdge 86 wr (fun b => w.heap.size ≤ b ∧ Old wr b) (partK xs os 3) vo0 by rw [← HK3.out]; exact HO.out)
      have hl18 : (partK xs os 3).length ≤ 18 := by have := HK3.out; subst this; omega
      have HRaw := hide (show rawI xs os = partD xs os (partK xs os 3) (doneI xs xs.length) from rfl)
      have hkn : ¬ (kk : Int) ≤ 2 := by omega
      have hx6 : xs.length ≤ 9223372036854775807 := by omega
      have HP0 := hide (show partD xs os (partK xs os 3) (doneI xs 0) = partK xs os 3 from rfl)
      have HDn := hide (fun k hk => partD_done xs os (partK xs os 3) k hk)
      clear HO hll HK3
      generalize partK xs os 3 = L3 at HO1 hl18 HRaw HP0 HDn
      go_wp2_with fail
      go_loopw [5, 8, 9, 10, 11, 12] (fun v ctr _ _ _ _ wr => ∃ (n : Nat) (vo : Value), vo = v ∧ n ≤ xs.length ∧ ctr = .int .i64 n ∧ (partD xs os L3 (doneI xs n)).length ≤ 18 + 12 * n ∧ Hid (Own tEdge 86 wr (fun b => w.heap.size ≤ b ∧ Old wr b) (partD xs os L3 (doneI xs n)) v) ∧ Hid (Below w.heap.size w wr)) (fun _ ctr _ _ _ _ _ => xs.length - (intOf ctr).toNat)
      case atStart => exact ⟨0, _, rfl, Nat.zero_le _, rfl, by rw [HP0.out]; omega, by rw [HP0.out]; exact HO1.out, HBw.out⟩
      case round =>
        obtain ⟨n, vo, rfl, hn, rfl, hll, hO, hB⟩ := hrel
        clear HBw HO1
        have HO := hide hO.out; have HBw := hide hB.out
        clear hO hB
        by_cases hlt2 : n < xs.length
        · have hni : (n : Int) < (xs.length : Int) := by omega
          obtain ⟨b1, off1, A2, c2, rfl, hb1S, d0, d1, d2, hc2, hm2, hRo⟩ := at_Txn HA.out HBw.out hlt2
          have htx : txnOk xs[n] = true := (histV_parts HV.out).2 _ (List.getElem_mem hlt2)
          have HFR := hide (specFirstReads xs[n] A2 c2 wr htx hRo)
          have hRl : (firstR xs[n].Ops).length ≤ 6 := Nat.le_trans (firstRs_len _ _) (txnOk_parts htx).2
          have HD1 := hide (HDn.out n hlt2)
          have HOk := hide (show ∀ r ∈ firstR xs[n].Ops, 0 ≤ r.Key ∧ r.Key ≤ 2 from fun r hr => by
            have := opOk_parts ((txnOk_parts htx).1 r (firstR_sub hr))
            have := this.2.1
            omega)
          have HDo := hide (dne_nat (h := xs) hlt2)
          clear htx hRo
          generalize partD xs os L3 (doneI xs n) = LD at HO hll HD1
          generalize xs[n].Session = sn at d0 HFR
          generalize firstR xs[n].Ops = R at hRl HFR HD1 HOk
          generalize xs[n].Ops.length = ol at d1 HFR hc2
          cases hdn : xs[n].Done with
          | false =>
            rw [hdn] at d2 HD1 HDo HFR
            have HD2 := hide (show partD xs os L3 (doneI xs (n + 1)) = LD from HD1.out.trans (by simp))
            clear hdn HD1
            go_wp2_with (go_at_call 57; refine HFR.out.mono ?_; rintro e w4 ⟨v4, rfl, hO4, hb4⟩; obtain ⟨A4, c4, rfl, h41, h42, _⟩ := hO4.sl; have HO5 := hide (HO.out.onlyBelow hb4); have HB5 := hide (HBw.out.trans (hb4.mono HBw.out.size)); have HB4 := hide hb4; clear hO4 hb4)
            have c2z := (HB4.out.cell (p := ⟨b1, off1 + n * 3 + 2, none⟩) (Nat.lt_of_lt_of_le hb1S HBw.out.size)).trans d2
            go_loopw [5, 10, 11, 12] (fun v l _ _ wq => v = vo ∧ l = .int .i64 0 ∧ wq = w4) (fun _ _ _ _ _ => 0)
            case atStart => exact ⟨rfl, rfl, rfl⟩
            case round =>
              obtain ⟨rfl, rfl, rfl⟩ := hrel
              by_cases hR0 : 0 < R.length
              all_goals
                have hR1 := hR0
                first | (have hR2 : (0 : Int) < (R.length : Int) := by omega) | (have hR2 : ¬ (0 : Int) < (R.length : Int) := by omega)
                clear hR1
                go_wp2_with fail
                go_roundw
                case rel => exact ⟨n + 1, _, rfl, by omega, by go_num, by rw [HD2.out]; omega, by rw [HD2.out]; exact HO5.out, HB5.out⟩
                case measure => simp [intOf]; omega
          | true =>
            rw [hdn] at d2 HD1 HDo HFR
            have HD2 := hide (show partD xs os L3 (doneI xs (n + 1)) = partR xs os (n : Int) LD R from HD1.out.trans (by simp))
            clear hdn HD1
            obtain ⟨w0, hw0⟩ : ∃ w0, w0 = wr := ⟨_, rfl⟩
            have HPR := hide (fun l hl => partR_succ xs os (n : Int) LD R l hl)
            have HPR0 := hide (show partR xs os (n : Int) LD (R.take 0) = LD from rfl)
            go_wp2_with (go_at_call 57; refine HFR.out.mono ?_; rintro e w4 ⟨v4, rfl, hO4, hb4⟩; obtain ⟨A4, c4, rfl, h41, h42, h43⟩ := hO4.sl; have HR4 := hide h43; have HO5 := hide (show Own tEdge 86 w4 (fun b => (w.heap.size ≤ b ∧ ¬ (w0.heap.size ≤ b ∧ b < w4.heap.size)) ∧ Old w4 b) LD vo from HO.out.mono (fun b h => ⟨⟨h.1, fun h9 => by have := h.2; rw [hw0] at h9; unfold Old at this; omega⟩, Nat.lt_of_lt_of_le h.2 hb4.size⟩) (fun b h => hb4.block b h.2)); have HB5 := hide (HBw.out.trans (hb4.mono HBw.out.size)); have HB4 := hide hb4; clear hO4 hb4 h43)
            rw [← hw0] at HR4
            have HNew := hide (show ∀ b, New w0 w4 b → b < w4.heap.size ∧ ¬ (w.heap.size ≤ b ∧ ¬ (w0.heap.size ≤ b ∧ b < w4.heap.size)) from fun b h => ⟨h.2, fun h9 => h9.2 h⟩)
            have HC2 := hide (fun (wz : World) (hb : Only (fun b => w.heap.size ≤ b ∧ ¬ (w0.heap.size ≤ b ∧ b < w4.heap.size)) w4 wz) => show wz.cell? ⟨b1, off1 + n * 3 + 2, none⟩ = some (.bool true) from (World.cell?_of_block (a := ⟨b1, off1 + n * 3 + 2, none⟩) (hb.block b1 (Nat.lt_of_lt_of_le hb1S HB5.out.size) (fun h9 => by have := hb1S; unfold Old at this; omega))).trans ((HB4.out.cell (p := ⟨b1, off1 + n * 3 + 2, none⟩) (Nat.lt_of_lt_of_le hb1S HBw.out.size)).trans d2))
            clear hw0
            clear d0 d1 d2 HO HFR
            go_loopw [5, 10, 11, 12] (fun v l _ _ wq => ∃ (ll : Nat) (vo2 : Value), vo2 = v ∧ ll ≤ R.length ∧ l = .int .i64 ll ∧ (partR xs os (n : Int) LD (R.take ll)).length ≤ 18 + 12 * n + 2 * ll ∧ Hid (Own tEdge 86 wq (fun b => (w.heap.size ≤ b ∧ ¬ (w0.heap.size ≤ b ∧ b < w4.heap.size)) ∧ Old wq b) (partR xs os (n : Int) LD (R.take ll)) v) ∧ Hid (Only (fun b => w.heap.size ≤ b ∧ ¬ (w0.heap.size ≤ b ∧ b < w4.heap.size)) w4 wq)) (fun _ l _ _ _ => R.length - (intOf l).toNat)
            case atStart => exact ⟨0, _, rfl, Nat.zero_le _, rfl, by rw [HPR0.out]; omega, by rw [HPR0.out]; exact HO5.out, Only.refl _ _⟩
            case round =>
              obtain ⟨ll, vo2, rfl, hll2, rfl, hlen2, hO, hB⟩ := hrel
              clear HO5
              have HO := hide hO.out; have HBq := hide hB.out
              clear hO hB
              have c2z := HC2.out wr HBq.out
              by_cases hlt3 : ll < R.length
              · have hli : (ll : Int) < (R.length : Int) := by omega
                obtain ⟨b4, off4, hA4, hS4, _⟩ := HR4.out (by omega)
                have hr4 := at_Op (HR4.out.mono (w' := w4) (S' := Old w4) (fun b h => h.2) (fun _ _ => rfl)) (Below.refl _ w4) hlt3
                subst hA4
                have HCk := hide (fun (wz : World) (hb : Only (fun b => w.heap.size ≤ b ∧ ¬ (w0.heap.size ≤ b ∧ b < w4.heap.size)) w4 wz) => show wz.cell? ⟨b4, off4 + ll * 3 + 1, none⟩ = some (.int .i64 R[ll].Key) ∧ wz.cell? ⟨b4, off4 + ll * 3 + 2, none⟩ = some (.int .i64 R[ll].Value) from by
                  obtain ⟨b3, off3, h1, _, _, h2, h3⟩ := hr4
                  obtain ⟨rfl, rfl⟩ : b4 = b3 ∧ off4 = off3 := by simpa using h1
                  have hn4 := HNew.out b4 hS4
                  exact ⟨(World.cell?_of_block (hb.block b4 hn4.1 hn4.2)).trans h2, (World.cell?_of_block (hb.block b4 hn4.1 hn4.2)).trans h3⟩)
                clear hr4 hS4
                have HSt := hide (HPR.out ll hlt3)
                have HOkr := hide (HOk.out R[ll] (List.getElem_mem hlt3))
                generalize R[ll] = r at HCk HSt HOkr
                generalize partR xs os (n : Int) LD (R.take ll) = L1 at HO HSt hlen2
                have HRd := hide (rd_eq HDo.out L1 r)
                obtain ⟨rk, ry, rv⟩ := r
                dsimp only at HCk HRd HOkr
                obtain ⟨kq, hkq⟩ : ∃ kq : Nat, ry = (kq : Int) := ⟨ry.toNat, by have := HOkr.out; omega⟩
                subst hkq
                have hk5 : kq < os.length := by have := HOkr.out; have := H3.out; omega
                have hk5i : (kq : Int) < (os.length : Int) := by omega
                have hk50 : (0 : Int) ≤ (kq : Int) := by omega
                have hgd5 : os.getD ((kq : Int)).toNat [] = os[kq] := by rw [Int.toNat_natCast, List.getD_eq_getElem?_getD, List.getElem?_eq_getElem hk5]; rfl
                obtain ⟨b5, off5, A5, c5, hB5e, hb5S, d5w, _, _, hs5⟩ := at_IntS HB.out (Below.refl _ w) hk5
                have hol5 : os[kq].length ≤ 6 := by have := HLen.out kq hk5; rwa [List.getD_eq_getElem?_getD, List.getElem?_eq_getElem hk5] at this
                have HNo := hide (fun (LL : List Edge) (hx : nxI os[kq] rv = none) => ov_none (h := xs) (os := os) (n := (n : Int)) (L := LL) (r := ⟨rk, kq, rv⟩) (by simp only; rw [hgd5]; exact hx))
                have HSo := hide (fun (LL : List Edge) (y : Int) (hx : nxI os[kq] rv = some y) => ov_some HO3.out (n := (n : Int)) HDo.out (L := LL) (r := ⟨rk, kq, rv⟩) HOkr.out (y := y) (by simp only; rw [hgd5]; exact hx))
                have HR5 := hide hs5
                have HD5 := hide d5w
                subst hB5e
                clear hs5 d5w hgd5
                generalize os[kq] = O5 at HR5 HD5 hol5 HNo HSo
                have HNx := hide (fun (wz : World) (hb : Below w.heap.size w wz) => l8Next_any O5 rv A5 c5 wz (by omega) (HR5.out.old hb))
                go_upto_region 18 with (fail)
                refine wp_region_vals 12 (fun wz => Below wr.heap.size wr wz) (fun q9 => match q9 with | 0 => .slice (some ⟨b1, off1, none⟩) xs.length c | 1 => .slice (some ⟨b4, off4, none⟩) R.length c4 | 2 => .int .i64 ll | 3 => .pointer (some ⟨b4, off4 + ll * 3, none⟩) | 4 => .pointer (some ⟨b4, off4 + ll * 3 + 1, none⟩) | 5 => .int .i64 kq | 6 => .slice (some ⟨b4, off4, none⟩) R.length c4 | 7 => .int .i64 ll | 8 => .pointer (some ⟨b4, off4 + ll * 3, none⟩) | 9 => .pointer (some ⟨b4, off4 + ll * 3 + 2, none⟩) | 10 => .int .i64 rv | 11 => .int .i64 (wrI xs kq rv) | _ => undef) [some 82, some 83, some 84, some 85, some 86, some 87, some 88, some 89, some 90, some 91, some 92, some 93] (by kernel_rfl) (by kernel_rfl) (by kernel_rfl) (by kernel_rfl) (by kernel_rfl) ?_ ?_ ?_
                · exact (Below.refl _ wr).drew
                · intro i o hi ho a wa hI hc hd K hK
                  have hi' : i = 0 ∨ i = 1 ∨ i = 2 ∨ i = 3 ∨ i = 4 ∨ i = 5 ∨ i = 6 ∨ i = 7 ∨ i = 8 ∨ i = 9 ∨ i = 10 ∨ i = 11 := by omega
                  clear hi
                  rcases hi' with rfl | rfl | rfl | rfl | rfl | rfl | rfl | rfl | rfl | rfl | rfl | rfl
                  all_goals
                    simp only [List.getElem?_toArray, List.getElem?_cons_zero, List.getElem?_cons_succ, Option.some.injEq] at ho
                    subst ho
                  · have e0 := (hc 0 (by kernel_rfl)).trans rfl
                    go_simp
                    exact hK _ hI
                  · have e9 := (hc 9 (by kernel_rfl)).trans rfl
                    go_simp
                    exact hK _ hI
                  · have e10 := (hc 10 (by kernel_rfl)).trans rfl
                    go_simp
                    exact hK _ hI
                  · have e83 : a.tmps.getD 83 undef = .slice (some ⟨b4, off4, none⟩) R.length c4 := hd 1 83 (by kernel_rfl)
                    have e84 : a.tmps.getD 84 undef = .int .i64 ll := hd 2 84 (by kernel_rfl)
                    have s2 : ll < R.length := hlt3
                    go_simp
                    exact hK _ hI
                  · have e85 : a.tmps.getD 85 undef = .pointer (some ⟨b4, off4 + ll * 3, none⟩) := hd 3 85 (by kernel_rfl)
                    go_simp
                    exact hK _ hI
                  · have e86 : a.tmps.getD 86 undef = .pointer (some ⟨b4, off4 + ll * 3 + 1, none⟩) := hd 4 86 (by kernel_rfl)
                    have hbq := HBq.out.trans (Only.of_below hI)
                    have c0 := (HCk.out wa hbq).1
                    go_simp
                    exact hK _ hI
                  · have e9 := (hc 9 (by kernel_rfl)).trans rfl
                    go_simp
                    exact hK _ hI
                  · have e10 := (hc 10 (by kernel_rfl)).trans rfl
                    go_simp
                    exact hK _ hI
                  · have e88 : a.tmps.getD 88 undef = .slice (some ⟨b4, off4, none⟩) R.length c4 := hd 6 88 (by kernel_rfl)
                    have e89 : a.tmps.getD 89 undef = .int .i64 ll := hd 7 89 (by kernel_rfl)
                    have s2 : ll < R.length := hlt3
                    go_simp
                    exact hK _ hI
                  · have e90 : a.tmps.getD 90 undef = .pointer (some ⟨b4, off4 + ll * 3, none⟩) := hd 8 90 (by kernel_rfl)
                    go_simp
                    exact hK _ hI
                  · have e91 : a.tmps.getD 91 undef = .pointer (some ⟨b4, off4 + ll * 3 + 2, none⟩) := hd 9 91 (by kernel_rfl)
                    have hbq := HBq.out.trans (Only.of_below hI)
                    have c0 := (HCk.out wa hbq).2
                    go_simp
                    exact hK _ hI
                  · have e82 : a.tmps.getD 82 undef = .slice (some ⟨b1, off1, none⟩) xs.length c := hd 0 82 (by kernel_rfl)
                    have e87 : a.tmps.getD 87 undef = .int .i64 kq := hd 5 87 (by kernel_rfl)
                    have e92 : a.tmps.getD 92 undef = .int .i64 rv := hd 10 92 (by kernel_rfl)
                    go_simp
                    refine (HWr.out kq rv wa (below_only HB5.out (HBq.out.trans (Only.of_below hI)) HB5.out.size (fun b h => h.1))).mono ?_
                    rintro e w2 ⟨rfl, hb⟩
                    exact hK _ (hI.trans (hb.mono hI.size))
                · intro wz hI
                  simp only [putD, Act.put, List.setIfInBounds_toArray, List.set_cons_zero, List.set_cons_succ, List.drop_succ_cons, List.drop_zero]
                  have HOz := hide (HO.out.onlyBelow hI)
                  have HBz4 := hide (HBq.out.trans (Only.of_below hI))
                  have HBz := hide (below_only HB5.out HBz4.out HB5.out.size (fun b h => h.1))
                  have HSt2 := hide (show partR xs os (n : Int) LD (R.take (ll + 1)) = ovL xs os (rdL xs L1 (n : Int) ⟨rk, kq, rv⟩) (n : Int) ⟨rk, kq, rv⟩ from HSt.out)
                  clear HO hI HSt HBq c2z
                  have hL2 : (rdL xs L1 (n : Int) ⟨rk, kq, rv⟩).length ≤ L1.length + 1 := by unfold rdL; exact putL_len _ _ _ _ _
                  generalize rdL xs L1 (n : Int) ⟨rk, kq, rv⟩ = L2 at HRd HSt2 hL2
                  rcases wr_cases xs kq rv with hw | ⟨m, hm, hw⟩
                  · rw [hw] at HRd ⊢
                    have HO7 := hide (show Own tEdge 86 wz (fun b => (w.heap.size ≤ b ∧ ¬ (w0.heap.size ≤ b ∧ b < w4.heap.size)) ∧ Old wz b) L2 vo2 by rw [HRd.out, dne_neg]; exact HOz.out)
                    clear HRd HOz hw
                    go_upto_region 21 with (fail)
                    refine wp_region_vals 14 (fun wy => Below wz.heap.size wz wy) (fun q9 => match q9 with | 0 => .slice (some ⟨b5, off5, none⟩) os.length d | 1 => .slice (some ⟨b4, off4, none⟩) R.length c4 | 2 => .int .i64 ll | 3 => .pointer (some ⟨b4, off4 + ll * 3, none⟩) | 4 => .pointer (some ⟨b4, off4 + ll * 3 + 1, none⟩) | 5 => .int .i64 kq | 6 => .pointer (some ⟨b5, off5 + kq, none⟩) | 7 => .slice A5 O5.length c5 | 8 => .slice (some ⟨b4, off4, none⟩) R.length c4 | 9 => .int .i64 ll | 10 => .pointer (some ⟨b4, off4 + ll * 3, none⟩) | 11 => .pointer (some ⟨b4, off4 + ll * 3 + 2, none⟩) | 12 => .int .i64 rv | 13 => .int .i64 ((nxI O5 rv).getD (-1)) | _ => undef) [some 114, some 115, some 116, some 117, some 118, some 119, some 120, some 121, some 122, some 123, some 124, some 125, some 126, some 127] (by kernel_rfl) (by kernel_rfl) (by kernel_rfl) (by kernel_rfl) (by kernel_rfl) ?_ ?_ ?_
                    · exact (Below.refl _ wz).drew
                    · intro i o hi ho a wa hI hc hd K hK
                      have hi' : i = 0 ∨ i = 1 ∨ i = 2 ∨ i = 3 ∨ i = 4 ∨ i = 5 ∨ i = 6 ∨ i = 7 ∨ i = 8 ∨ i = 9 ∨ i = 10 ∨ i = 11 ∨ i = 12 ∨ i = 13 := by omega
                      clear hi
                      rcases hi' with rfl | rfl | rfl | rfl | rfl | rfl | rfl | rfl | rfl | rfl | rfl | rfl | rfl | rfl
                      all_goals
                        simp only [List.getElem?_toArray, List.getElem?_cons_zero, List.getElem?_cons_succ, Option.some.injEq] at ho
                        subst ho
                      · have e1 := (hc 1 (by kernel_rfl)).trans rfl
                        go_simp
                        exact hK _ hI
                      · have e9 := (hc 9 (by kernel_rfl)).trans rfl
                        go_simp
                        exact hK _ hI
                      · have e10 := (hc 10 (by kernel_rfl)).trans rfl
                        go_simp
                        exact hK _ hI
                      · have e115 : a.tmps.getD 115 undef = .slice (some ⟨b4, off4, none⟩) R.length c4 := hd 1 115 (by kernel_rfl)
                        have e116 : a.tmps.getD 116 undef = .int .i64 ll := hd 2 116 (by kernel_rfl)
                        have s2 : ll < R.length := hlt3
                        go_simp
                        exact hK _ hI
                      · have e117 : a.tmps.getD 117 undef = .pointer (some ⟨b4, off4 + ll * 3, none⟩) := hd 3 117 (by kernel_rfl)
                        go_simp
                        exact hK _ hI
                      · have e118 : a.tmps.getD 118 undef = .pointer (some ⟨b4, off4 + ll * 3 + 1, none⟩) := hd 4 118 (by kernel_rfl)
                        have hbq := HBz4.out.trans (Only.of_below hI)
                        have c0 := (HCk.out wa hbq).1
                        go_simp
                        exact hK _ hI
                      · have e114 : a.tmps.getD 114 undef = .slice (some ⟨b5, off5, none⟩) os.length d := hd 0 114 (by kernel_rfl)
                        have e119 : a.tmps.getD 119 undef = .int .i64 kq := hd 5 119 (by kernel_rfl)
                        have s2 : kq < os.length := hk5
                        go_simp
                        exact hK _ hI
                      · have e120 : a.tmps.getD 120 undef = .pointer (some ⟨b5, off5 + kq, none⟩) := hd 6 120 (by kernel_rfl)
                        have c0 := ((HBz.out.trans (hI.mono HBz.out.size)).cell (p := ⟨b5, off5 + kq, none⟩) hb5S).trans HD5.out
                        go_simp
                        exact hK _ hI
                      · have e9 := (hc 9 (by kernel_rfl)).trans rfl
                        go_simp
                        exact hK _ hI
                      · have e10 := (hc 10 (by kernel_rfl)).trans rfl
                        go_simp
                        exact hK _ hI
                      · have e122 : a.tmps.getD 122 undef = .slice (some ⟨b4, off4, none⟩) R.length c4 := hd 8 122 (by kernel_rfl)
                        have e123 : a.tmps.getD 123 undef = .int .i64 ll := hd 9 123 (by kernel_rfl)
                        have s2 : ll < R.length := hlt3
                        go_simp
                        exact hK _ hI
                      · have e124 : a.tmps.getD 124 undef = .pointer (some ⟨b4, off4 + ll * 3, none⟩) := hd 10 124 (by kernel_rfl)
                        go_simp
                        exact hK _ hI
                      · have e125 : a.tmps.getD 125 undef = .pointer (some ⟨b4, off4 + ll * 3 + 2, none⟩) := hd 11 125 (by kernel_rfl)
                        have hbq := HBz4.out.trans (Only.of_below hI)
                        have c0 := (HCk.out wa hbq).2
                        go_simp
                        exact hK _ hI
                      · have e121 : a.tmps.getD 121 undef = .slice A5 O5.length c5 := hd 7 121 (by kernel_rfl)
                        have e126 : a.tmps.getD 126 undef = .int .i64 rv := hd 12 126 (by kernel_rfl)
                        go_simp
                        refine (HNx.out wa (HBz.out.trans (hI.mono HBz.out.size))).mono ?_
                        rintro e w2 ⟨rfl, rfl⟩
                        exact hK _ hI
                    · intro wy hI
                      simp only [putD, Act.put, List.setIfInBounds_toArray, List.set_cons_zero, List.set_cons_succ, List.drop_succ_cons, List.drop_zero]
                      have HO8 := hide (HO7.out.onlyBelow hI)
                      have HBy4 := hide (HBz4.out.trans (Only.of_below hI))
                      have HBy := hide (HBz.out.trans (hI.mono HBz.out.size))
                      have hcky := HCk.out wy HBy4.out
                      obtain ⟨g1, g2⟩ := hcky
                      clear HO7 HBz4 HBz hI HNx
                      cases hnx : nxI O5 rv with
                      | none =>
                        have HL3 := hide (HSt2.out.trans (HNo.out L2 hnx))
                        clear hnx HSt2 HNo HSo
                        go_wp2_with fail
                        go_roundw
                        case rel => exact ⟨ll + 1, _, rfl, by omega, by go_num, by rw [HL3.out]; omega, by rw [HL3.out]; exact HO8.out, HBy4.out⟩
                        case measure => simp [intOf]; omega
                      | some y =>
                        obtain ⟨hy1, hy2⟩ := HSo.out L2 y hnx
                        have HL2b := hide (HSt2.out.trans hy2)
                        have HWy := hide (HWr.out kq y)
                        have hy0 : (0 : Int) ≤ y := by omega
                        clear hnx HSt2 HNo HSo hy2 hy1
                        simp only at HL2b
                        generalize wrI xs (kq : Int) y = wq at HL2b HWy
                        by_cases hwn : wq = (n : Int)
                        · have hwb : (wq != (n : Int)) = false := by rw [hwn]; simp
                          have hwb2 : (wq == (n : Int)) = true := by rw [hwn]; simp
                          rw [hwb] at HL2b
                          have HL3 := hide (show partR xs os (n : Int) LD (R.take (ll + 1)) = L2 from HL2b.out.trans (by simp))
                          clear hwn HL2b
                          go_wp2_with (go_at_call 58; refine (HWy.out _ HBy.out).mono ?_; rintro e wy ⟨rfl, hb⟩; have HO8 := hide (HO8.out.onlyBelow hb); have HBy4 := hide (HBy4.out.trans (Only.of_below hb)); have HBy := hide (HBy.out.trans (hb.mono HBy.out.size)); have g3 := (HCk.out _ HBy4.out).1; clear hb)
                          go_roundw
                          case rel => exact ⟨ll + 1, _, rfl, by omega, by go_num, by rw [HL3.out]; omega, by rw [HL3.out]; exact HO8.out, HBy4.out⟩
                          case measure => simp [intOf]; omega
                        · have hwb : (wq != (n : Int)) = true := by rw [bne_iff_ne]; exact hwn
                          have hwb2 : (wq == (n : Int)) = false := by rw [beq_eq_false_iff_ne]; exact hwn
                          rw [hwb] at HL2b
                          have HL3 := hide (show partR xs os (n : Int) LD (R.take (ll + 1)) = L2 ++ [⟨(n : Int), wq, 3⟩] from HL2b.out.trans (by simp))
                          have HLl := hide (show (partR xs os (n : Int) LD (R.take (ll + 1))).length ≤ 18 + 12 * n + 2 * (ll + 1) by rw [HL3.out, List.length_append, List.length_singleton]; omega)
                          clear hwn HL2b
                          go_wp2_with (first | (go_at_call 58; refine (HWy.out _ HBy.out).mono ?_; rintro e wy ⟨rfl, hb⟩; have HO8 := hide (HO8.out.onlyBelow hb); have HBy4 := hide (HBy4.out.trans (Only.of_below hb)); have HBy := hide (HBy.out.trans (hb.mono HBy.out.size)); have g3 := (HCk.out _ HBy4.out).1; clear hb) | (at_builtin; go_loud (refine wpList_put tEdge rfl (.tmp 142) (.tmp 153) 53 rfl 86 i0 _ 24 Tryz.underlying53 hi hz0 hz1 hz2 rfl (by decide) (fun b => w.heap.size ≤ b ∧ ¬ (w0.heap.size ≤ b ∧ b < w4.heap.size)) (fun _ => False) L2 ⟨(n : Int), wq, 3⟩ [.int .i64 n, .int .i64 wq, .int .i64 3] _ rfl HO8.out 1 rfl rfl (fun _ h => h.elim) (fun b hb => ⟨Nat.le_trans HBy.out.size hb, fun h9 => by have := HBy4.out.size; omega⟩) (by simp only [maxLen]; omega) (by omega) ?_; intro v9 w9 hO_ hK_; rw [← HL3.out] at hO_; have HO9 := hide hO_; have HB9 := hide (HBy4.out.trans hK_); clear hO_ hK_ HL3)))
                          go_roundw
                          case rel => exact ⟨ll + 1, _, rfl, by omega, by go_num, HLl.out, HO9.out, HB9.out⟩
                          case measure => simp [intOf]; omega
                  · rw [hw] at HRd ⊢
                    rw [dne_nat hm] at HRd
                    obtain ⟨b9, off9, _, _, h91, _, _, _, e2, _, _, _⟩ := at_Txn HA.out HBz.out hm
                    obtain ⟨rfl, rfl⟩ : b1 = b9 ∧ off1 = off9 := by simpa using h91
                    have hmi : (m : Int) < (xs.length : Int) := by omega
                    have hm0 : (0 : Int) ≤ (m : Int) := by omega
                    clear h91
                    cases hdm : xs[m].Done with
                    | false =>
                      rw [hdm] at HRd e2
                      have HO7 := hide (show Own tEdge 86 wz (fun b => (w.heap.size ≤ b ∧ ¬ (w0.heap.size ≤ b ∧ b < w4.heap.size)) ∧ Old wz b) L2 vo2 by rw [HRd.out]; exact HOz.out)
                      clear HRd HOz hw hdm
                      go_upto_region 21 with (fail)
                      refine wp_region_vals 14 (fun wy => Below wz.heap.size wz wy) (fun q9 => match q9 with | 0 => .slice (some ⟨b5, off5, none⟩) os.length d | 1 => .slice (some ⟨b4, off4, none⟩) R.length c4 | 2 => .int .i64 ll | 3 => .pointer (some ⟨b4, off4 + ll * 3, none⟩) | 4 => .pointer (some ⟨b4, off4 + ll * 3 + 1, none⟩) | 5 => .int .i64 kq | 6 => .pointer (some ⟨b5, off5 + kq, none⟩) | 7 => .slice A5 O5.length c5 | 8 => .slice (some ⟨b4, off4, none⟩) R.length c4 | 9 => .int .i64 ll | 10 => .pointer (some ⟨b4, off4 + ll * 3, none⟩) | 11 => .pointer (some ⟨b4, off4 + ll * 3 + 2, none⟩) | 12 => .int .i64 rv | 13 => .int .i64 ((nxI O5 rv).getD (-1)) | _ => undef) [some 114, some 115, some 116, some 117, some 118, some 119, some 120, some 121, some 122, some 123, some 124, some 125, some 126, some 127] (by kernel_rfl) (by kernel_rfl) (by kernel_rfl) (by kernel_rfl) (by kernel_rfl) ?_ ?_ ?_
                      · exact (Below.refl _ wz).drew
                      · intro i o hi ho a wa hI hc hd K hK
                        have hi' : i = 0 ∨ i = 1 ∨ i = 2 ∨ i = 3 ∨ i = 4 ∨ i = 5 ∨ i = 6 ∨ i = 7 ∨ i = 8 ∨ i = 9 ∨ i = 10 ∨ i = 11 ∨ i = 12 ∨ i = 13 := by omega
                        clear hi
                        rcases hi' with rfl | rfl | rfl | rfl | rfl | rfl | rfl | rfl | rfl | rfl | rfl | rfl | rfl | rfl
                        all_goals
                          simp only [List.getElem?_toArray, List.getElem?_cons_zero, List.getElem?_cons_succ, Option.some.injEq] at ho
                          subst ho
                        · have e1 := (hc 1 (by kernel_rfl)).trans rfl
                          go_simp
                          exact hK _ hI
                        · have e9 := (hc 9 (by kernel_rfl)).trans rfl
                          go_simp
                          exact hK _ hI
                        · have e10 := (hc 10 (by kernel_rfl)).trans rfl
                          go_simp
                          exact hK _ hI
                        · have e115 : a.tmps.getD 115 undef = .slice (some ⟨b4, off4, none⟩) R.length c4 := hd 1 115 (by kernel_rfl)
                          have e116 : a.tmps.getD 116 undef = .int .i64 ll := hd 2 116 (by kernel_rfl)
                          have s2 : ll < R.length := hlt3
                          go_simp
                          exact hK _ hI
                        · have e117 : a.tmps.getD 117 undef = .pointer (some ⟨b4, off4 + ll * 3, none⟩) := hd 3 117 (by kernel_rfl)
                          go_simp
                          exact hK _ hI
                        · have e118 : a.tmps.getD 118 undef = .pointer (some ⟨b4, off4 + ll * 3 + 1, none⟩) := hd 4 118 (by kernel_rfl)
                          have hbq := HBz4.out.trans (Only.of_below hI)
                          have c0 := (HCk.out wa hbq).1
                          go_simp
                          exact hK _ hI
                        · have e114 : a.tmps.getD 114 undef = .slice (some ⟨b5, off5, none⟩) os.length d := hd 0 114 (by kernel_rfl)
                          have e119 : a.tmps.getD 119 undef = .int .i64 kq := hd 5 119 (by kernel_rfl)
                          have s2 : kq < os.length := hk5
                          go_simp
                          exact hK _ hI
                        · have e120 : a.tmps.getD 120 undef = .pointer (some ⟨b5, off5 + kq, none⟩) := hd 6 120 (by kernel_rfl)
                          have c0 := ((HBz.out.trans (hI.mono HBz.out.size)).cell (p := ⟨b5, off5 + kq, none⟩) hb5S).trans HD5.out
                          go_simp
                          exact hK _ hI
                        · have e9 := (hc 9 (by kernel_rfl)).trans rfl
                          go_simp
                          exact hK _ hI
                        · have e10 := (hc 10 (by kernel_rfl)).trans rfl
                          go_simp
                          exact hK _ hI
                        · have e122 : a.tmps.getD 122 undef = .slice (some ⟨b4, off4, none⟩) R.length c4 := hd 8 122 (by kernel_rfl)
                          have e123 : a.tmps.getD 123 undef = .int .i64 ll := hd 9 123 (by kernel_rfl)
                          have s2 : ll < R.length := hlt3
                          go_simp
                          exact hK _ hI
                        · have e124 : a.tmps.getD 124 undef = .pointer (some ⟨b4, off4 + ll * 3, none⟩) := hd 10 124 (by kernel_rfl)
                          go_simp
                          exact hK _ hI
                        · have e125 : a.tmps.getD 125 undef = .pointer (some ⟨b4, off4 + ll * 3 + 2, none⟩) := hd 11 125 (by kernel_rfl)
                          have hbq := HBz4.out.trans (Only.of_below hI)
                          have c0 := (HCk.out wa hbq).2
                          go_simp
                          exact hK _ hI
                        · have e121 : a.tmps.getD 121 undef = .slice A5 O5.length c5 := hd 7 121 (by kernel_rfl)
                          have e126 : a.tmps.getD 126 undef = .int .i64 rv := hd 12 126 (by kernel_rfl)
                          go_simp
                          refine (HNx.out wa (HBz.out.trans (hI.mono HBz.out.size))).mono ?_
                          rintro e w2 ⟨rfl, rfl⟩
                          exact hK _ hI
                      · intro wy hI
                        simp only [putD, Act.put, List.setIfInBounds_toArray, List.set_cons_zero, List.set_cons_succ, List.drop_succ_cons, List.drop_zero]
                        have HO8 := hide (HO7.out.onlyBelow hI)
                        have HBy4 := hide (HBz4.out.trans (Only.of_below hI))
                        have HBy := hide (HBz.out.trans (hI.mono HBz.out.size))
                        have hcky := HCk.out wy HBy4.out
                        obtain ⟨g1, g2⟩ := hcky
                        clear HO7 HBz4 HBz hI HNx
                        cases hnx : nxI O5 rv with
                        | none =>
                          have HL3 := hide (HSt2.out.trans (HNo.out L2 hnx))
                          clear hnx HSt2 HNo HSo
                          go_wp2_with fail
                          go_roundw
                          case rel => exact ⟨ll + 1, _, rfl, by omega, by go_num, by rw [HL3.out]; omega, by rw [HL3.out]; exact HO8.out, HBy4.out⟩
                          case measure => simp [intOf]; omega
                        | some y =>
                          obtain ⟨hy1, hy2⟩ := HSo.out L2 y hnx
                          have HL2b := hide (HSt2.out.trans hy2)
                          have HWy := hide (HWr.out kq y)
                          have hy0 : (0 : Int) ≤ y := by omega
                          clear hnx HSt2 HNo HSo hy2 hy1
                          simp only at HL2b
                          generalize wrI xs (kq : Int) y = wq at HL2b HWy
                          by_cases hwn : wq = (n : Int)
                          · have hwb : (wq != (n : Int)) = false := by rw [hwn]; simp
                            have hwb2 : (wq == (n : Int)) = true := by rw [hwn]; simp
                            rw [hwb] at HL2b
                            have HL3 := hide (show partR xs os (n : Int) LD (R.take (ll + 1)) = L2 from HL2b.out.trans (by simp))
                            clear hwn HL2b
                            go_wp2_with (go_at_call 58; refine (HWy.out _ HBy.out).mono ?_; rintro e wy ⟨rfl, hb⟩; have HO8 := hide (HO8.out.onlyBelow hb); have HBy4 := hide (HBy4.out.trans (Only.of_below hb)); have HBy := hide (HBy.out.trans (hb.mono HBy.out.size)); have g3 := (HCk.out _ HBy4.out).1; clear hb)
                            go_roundw
                            case rel => exact ⟨ll + 1, _, rfl, by omega, by go_num, by rw [HL3.out]; omega, by rw [HL3.out]; exact HO8.out, HBy4.out⟩
                            case measure => simp [intOf]; omega
                          · have hwb : (wq != (n : Int)) = true := by rw [bne_iff_ne]; exact hwn
                            have hwb2 : (wq == (n : Int)) = false := by rw [beq_eq_false_iff_ne]; exact hwn
                            rw [hwb] at HL2b
                            have HL3 := hide (show partR xs os (n : Int) LD (R.take (ll + 1)) = L2 ++ [⟨(n : Int), wq, 3⟩] from HL2b.out.trans (by simp))
                            have HLl := hide (show (partR xs os (n : Int) LD (R.take (ll + 1))).length ≤ 18 + 12 * n + 2 * (ll + 1) by rw [HL3.out, List.length_append, List.length_singleton]; omega)
                            clear hwn HL2b
                            go_wp2_with (first | (go_at_call 58; refine (HWy.out _ HBy.out).mono ?_; rintro e wy ⟨rfl, hb⟩; have HO8 := hide (HO8.out.onlyBelow hb); have HBy4 := hide (HBy4.out.trans (Only.of_below hb)); have HBy := hide (HBy.out.trans (hb.mono HBy.out.size)); have g3 := (HCk.out _ HBy4.out).1; clear hb) | (at_builtin; go_loud (refine wpList_put tEdge rfl (.tmp 142) (.tmp 153) 53 rfl 86 i0 _ 24 Tryz.underlying53 hi hz0 hz1 hz2 rfl (by decide) (fun b => w.heap.size ≤ b ∧ ¬ (w0.heap.size ≤ b ∧ b < w4.heap.size)) (fun _ => False) L2 ⟨(n : Int), wq, 3⟩ [.int .i64 n, .int .i64 wq, .int .i64 3] _ rfl HO8.out 1 rfl rfl (fun _ h => h.elim) (fun b hb => ⟨Nat.le_trans HBy.out.size hb, fun h9 => by have := HBy4.out.size; omega⟩) (by simp only [maxLen]; omega) (by omega) ?_; intro v9 w9 hO_ hK_; rw [← HL3.out] at hO_; have HO9 := hide hO_; have HB9 := hide (HBy4.out.trans hK_); clear hO_ hK_ HL3)))
                            go_roundw
                            case rel => exact ⟨ll + 1, _, rfl, by omega, by go_num, HLl.out, HO9.out, HB9.out⟩
                            case measure => simp [intOf]; omega
                    | true =>
                      rw [hdm] at HRd e2
                      by_cases hmn : m = n
                      · have hmb : ((m : Int) != (n : Int)) = false := by rw [hmn]; simp
                        rw [hmb] at HRd
                        have HO7 := hide (show Own tEdge 86 wz (fun b => (w.heap.size ≤ b ∧ ¬ (w0.heap.size ≤ b ∧ b < w4.heap.size)) ∧ Old wz b) L2 vo2 by rw [HRd.out]; exact HOz.out)
                        clear HRd HOz hw hdm hmn
                        go_upto_region 21 with (fail)
                        refine wp_region_vals 14 (fun wy => Below wz.heap.size wz wy) (fun q9 => match q9 with | 0 => .slice (some ⟨b5, off5, none⟩) os.length d | 1 => .slice (some ⟨b4, off4, none⟩) R.length c4 | 2 => .int .i64 ll | 3 => .pointer (some ⟨b4, off4 + ll * 3, none⟩) | 4 => .pointer (some ⟨b4, off4 + ll * 3 + 1, none⟩) | 5 => .int .i64 kq | 6 => .pointer (some ⟨b5, off5 + kq, none⟩) | 7 => .slice A5 O5.length c5 | 8 => .slice (some ⟨b4, off4, none⟩) R.length c4 | 9 => .int .i64 ll | 10 => .pointer (some ⟨b4, off4 + ll * 3, none⟩) | 11 => .pointer (some ⟨b4, off4 + ll * 3 + 2, none⟩) | 12 => .int .i64 rv | 13 => .int .i64 ((nxI O5 rv).getD (-1)) | _ => undef) [some 114, some 115, some 116, some 117, some 118, some 119, some 120, some 121, some 122, some 123, some 124, some 125, some 126, some 127] (by kernel_rfl) (by kernel_rfl) (by kernel_rfl) (by kernel_rfl) (by kernel_rfl) ?_ ?_ ?_
                        · exact (Below.refl _ wz).drew
                        · intro i o hi ho a wa hI hc hd K hK
                          have hi' : i = 0 ∨ i = 1 ∨ i = 2 ∨ i = 3 ∨ i = 4 ∨ i = 5 ∨ i = 6 ∨ i = 7 ∨ i = 8 ∨ i = 9 ∨ i = 10 ∨ i = 11 ∨ i = 12 ∨ i = 13 := by omega
                          clear hi
                          rcases hi' with rfl | rfl | rfl | rfl | rfl | rfl | rfl | rfl | rfl | rfl | rfl | rfl | rfl | rfl
                          all_goals
                            simp only [List.getElem?_toArray, List.getElem?_cons_zero, List.getElem?_cons_succ, Option.some.injEq] at ho
                            subst ho
                          · have e1 := (hc 1 (by kernel_rfl)).trans rfl
                            go_simp
                            exact hK _ hI
                          · have e9 := (hc 9 (by kernel_rfl)).trans rfl
                            go_simp
                            exact hK _ hI
                          · have e10 := (hc 10 (by kernel_rfl)).trans rfl
                            go_simp
                            exact hK _ hI
                          · have e115 : a.tmps.getD 115 undef = .slice (some ⟨b4, off4, none⟩) R.length c4 := hd 1 115 (by kernel_rfl)
                            have e116 : a.tmps.getD 116 undef = .int .i64 ll := hd 2 116 (by kernel_rfl)
                            have s2 : ll < R.length := hlt3
                            go_simp
                            exact hK _ hI
                          · have e117 : a.tmps.getD 117 undef = .pointer (some ⟨b4, off4 + ll * 3, none⟩) := hd 3 117 (by kernel_rfl)
                            go_simp
                            exact hK _ hI
                          · have e118 : a.tmps.getD 118 undef = .pointer (some ⟨b4, off4 + ll * 3 + 1, none⟩) := hd 4 118 (by kernel_rfl)
                            have hbq := HBz4.out.trans (Only.of_below hI)
                            have c0 := (HCk.out wa hbq).1
                            go_simp
                            exact hK _ hI
                          · have e114 : a.tmps.getD 114 undef = .slice (some ⟨b5, off5, none⟩) os.length d := hd 0 114 (by kernel_rfl)
                            have e119 : a.tmps.getD 119 undef = .int .i64 kq := hd 5 119 (by kernel_rfl)
                            have s2 : kq < os.length := hk5
                            go_simp
                            exact hK _ hI
                          · have e120 : a.tmps.getD 120 undef = .pointer (some ⟨b5, off5 + kq, none⟩) := hd 6 120 (by kernel_rfl)
                            have c0 := ((HBz.out.trans (hI.mono HBz.out.size)).cell (p := ⟨b5, off5 + kq, none⟩) hb5S).trans HD5.out
                            go_simp
                            exact hK _ hI
                          · have e9 := (hc 9 (by kernel_rfl)).trans rfl
                            go_simp
                            exact hK _ hI
                          · have e10 := (hc 10 (by kernel_rfl)).trans rfl
                            go_simp
                            exact hK _ hI
                          · have e122 : a.tmps.getD 122 undef = .slice (some ⟨b4, off4, none⟩) R.length c4 := hd 8 122 (by kernel_rfl)
                            have e123 : a.tmps.getD 123 undef = .int .i64 ll := hd 9 123 (by kernel_rfl)
                            have s2 : ll < R.length := hlt3
                            go_simp
                            exact hK _ hI
                          · have e124 : a.tmps.getD 124 undef = .pointer (some ⟨b4, off4 + ll * 3, none⟩) := hd 10 124 (by kernel_rfl)
                            go_simp
                            exact hK _ hI
                          · have e125 : a.tmps.getD 125 undef = .pointer (some ⟨b4, off4 + ll * 3 + 2, none⟩) := hd 11 125 (by kernel_rfl)
                            have hbq := HBz4.out.trans (Only.of_below hI)
                            have c0 := (HCk.out wa hbq).2
                            go_simp
                            exact hK _ hI
                          · have e121 : a.tmps.getD 121 undef = .slice A5 O5.length c5 := hd 7 121 (by kernel_rfl)
                            have e126 : a.tmps.getD 126 undef = .int .i64 rv := hd 12 126 (by kernel_rfl)
                            go_simp
                            refine (HNx.out wa (HBz.out.trans (hI.mono HBz.out.size))).mono ?_
                            rintro e w2 ⟨rfl, rfl⟩
                            exact hK _ hI
                        · intro wy hI
                          simp only [putD, Act.put, List.setIfInBounds_toArray, List.set_cons_zero, List.set_cons_succ, List.drop_succ_cons, List.drop_zero]
                          have HO8 := hide (HO7.out.onlyBelow hI)
                          have HBy4 := hide (HBz4.out.trans (Only.of_below hI))
                          have HBy := hide (HBz.out.trans (hI.mono HBz.out.size))
                          have hcky := HCk.out wy HBy4.out
                          obtain ⟨g1, g2⟩ := hcky
                          clear HO7 HBz4 HBz hI HNx
                          cases hnx : nxI O5 rv with
                          | none =>
                            have HL3 := hide (HSt2.out.trans (HNo.out L2 hnx))
                            clear hnx HSt2 HNo HSo
                            go_wp2_with fail
                            go_roundw
                            case rel => exact ⟨ll + 1, _, rfl, by omega, by go_num, by rw [HL3.out]; omega, by rw [HL3.out]; exact HO8.out, HBy4.out⟩
                            case measure => simp [intOf]; omega
                          | some y =>
                            obtain ⟨hy1, hy2⟩ := HSo.out L2 y hnx
                            have HL2b := hide (HSt2.out.trans hy2)
                            have HWy := hide (HWr.out kq y)
                            have hy0 : (0 : Int) ≤ y := by omega
                            clear hnx HSt2 HNo HSo hy2 hy1
                            simp only at HL2b
                            generalize wrI xs (kq : Int) y = wq at HL2b HWy
                            by_cases hwn : wq = (n : Int)
                            · have hwb : (wq != (n : Int)) = false := by rw [hwn]; simp
                              have hwb2 : (wq == (n : Int)) = true := by rw [hwn]; simp
                              rw [hwb] at HL2b
                              have HL3 := hide (show partR xs os (n : Int) LD (R.take (ll + 1)) = L2 from HL2b.out.trans (by simp))
                              clear hwn HL2b
                              go_wp2_with (go_at_call 58; refine (HWy.out _ HBy.out).mono ?_; rintro e wy ⟨rfl, hb⟩; have HO8 := hide (HO8.out.onlyBelow hb); have HBy4 := hide (HBy4.out.trans (Only.of_below hb)); have HBy := hide (HBy.out.trans (hb.mono HBy.out.size)); have g3 := (HCk.out _ HBy4.out).1; clear hb)
                              go_roundw
                              case rel => exact ⟨ll + 1, _, rfl, by omega, by go_num, by rw [HL3.out]; omega, by rw [HL3.out]; exact HO8.out, HBy4.out⟩
                              case measure => simp [intOf]; omega
                            · have hwb : (wq != (n : Int)) = true := by rw [bne_iff_ne]; exact hwn
                              have hwb2 : (wq == (n : Int)) = false := by rw [beq_eq_false_iff_ne]; exact hwn
                              rw [hwb] at HL2b
                              have HL3 := hide (show partR xs os (n : Int) LD (R.take (ll + 1)) = L2 ++ [⟨(n : Int), wq, 3⟩] from HL2b.out.trans (by simp))
                              have HLl := hide (show (partR xs os (n : Int) LD (R.take (ll + 1))).length ≤ 18 + 12 * n + 2 * (ll + 1) by rw [HL3.out, List.length_append, List.length_singleton]; omega)
                              clear hwn HL2b
                              go_wp2_with (first | (go_at_call 58; refine (HWy.out _ HBy.out).mono ?_; rintro e wy ⟨rfl, hb⟩; have HO8 := hide (HO8.out.onlyBelow hb); have HBy4 := hide (HBy4.out.trans (Only.of_below hb)); have HBy := hide (HBy.out.trans (hb.mono HBy.out.size)); have g3 := (HCk.out _ HBy4.out).1; clear hb) | (at_builtin; go_loud (refine wpList_put tEdge rfl (.tmp 142) (.tmp 153) 53 rfl 86 i0 _ 24 Tryz.underlying53 hi hz0 hz1 hz2 rfl (by decide) (fun b => w.heap.size ≤ b ∧ ¬ (w0.heap.size ≤ b ∧ b < w4.heap.size)) (fun _ => False) L2 ⟨(n : Int), wq, 3⟩ [.int .i64 n, .int .i64 wq, .int .i64 3] _ rfl HO8.out 1 rfl rfl (fun _ h => h.elim) (fun b hb => ⟨Nat.le_trans HBy.out.size hb, fun h9 => by have := HBy4.out.size; omega⟩) (by simp only [maxLen]; omega) (by omega) ?_; intro v9 w9 hO_ hK_; rw [← HL3.out] at hO_; have HO9 := hide hO_; have HB9 := hide (HBy4.out.trans hK_); clear hO_ hK_ HL3)))
                              go_roundw
                              case rel => exact ⟨ll + 1, _, rfl, by omega, by go_num, HLl.out, HO9.out, HB9.out⟩
                              case measure => simp [intOf]; omega
                      · have hmb : ((m : Int) != (n : Int)) = true := by rw [bne_iff_ne]; omega
                        rw [hmb] at HRd
                        have HL2 := hide (show L2 = L1 ++ [⟨(m : Int), (n : Int), 2⟩] from HRd.out.trans (by simp))
                        have HOz2 := hide HOz.out
                        clear HRd hw hdm hmn HOz
                        go_upto_region 21 with (at_builtin; go_loud (refine wpList_put tEdge rfl (.tmp 108) (.tmp 112) 53 rfl 86 i0 _ 24 Tryz.underlying53 hi hz0 hz1 hz2 rfl (by decide) (fun b => w.heap.size ≤ b ∧ ¬ (w0.heap.size ≤ b ∧ b < w4.heap.size)) (fun _ => False) L1 ⟨(m : Int), (n : Int), 2⟩ [.int .i64 m, .int .i64 n, .int .i64 2] _ rfl HOz2.out 1 rfl rfl (fun _ h => h.elim) (fun b hb => ⟨Nat.le_trans HBz.out.size hb, fun h9 => by have := HBz4.out.size; omega⟩) (by simp only [maxLen]; omega) (by omega) ?_; intro vo2 wz hO_ hK_; rw [← HL2.out] at hO_; have HO7 := hide hO_; have HBz := hide (below_only HBz.out hK_ HBz.out.size (fun _ h => h.1)); have HBz4 := hide (HBz4.out.trans hK_); clear hO_ hK_ HL2))
                        refine wp_region_vals 14 (fun wy => Below wz.heap.size wz wy) (fun q9 => match q9 with | 0 => .slice (some ⟨b5, off5, none⟩) os.length d | 1 => .slice (some ⟨b4, off4, none⟩) R.length c4 | 2 => .int .i64 ll | 3 => .pointer (some ⟨b4, off4 + ll * 3, none⟩) | 4 => .pointer (some ⟨b4, off4 + ll * 3 + 1, none⟩) | 5 => .int .i64 kq | 6 => .pointer (some ⟨b5, off5 + kq, none⟩) | 7 => .slice A5 O5.length c5 | 8 => .slice (some ⟨b4, off4, none⟩) R.length c4 | 9 => .int .i64 ll | 10 => .pointer (some ⟨b4, off4 + ll * 3, none⟩) | 11 => .pointer (some ⟨b4, off4 + ll * 3 + 2, none⟩) | 12 => .int .i64 rv | 13 => .int .i64 ((nxI O5 rv).getD (-1)) | _ => undef) [some 114, some 115, some 116, some 117, some 118, some 119, some 120, some 121, some 122, some 123, some 124, some 125, some 126, some 127] (by kernel_rfl) (by kernel_rfl) (by kernel_rfl) (by kernel_rfl) (by kernel_rfl) ?_ ?_ ?_
                        · exact (Below.refl _ wz).drew
                        · intro i o hi ho a wa hI hc hd K hK
                          have hi' : i = 0 ∨ i = 1 ∨ i = 2 ∨ i = 3 ∨ i = 4 ∨ i = 5 ∨ i = 6 ∨ i = 7 ∨ i = 8 ∨ i = 9 ∨ i = 10 ∨ i = 11 ∨ i = 12 ∨ i = 13 := by omega
                          clear hi
                          rcases hi' with rfl | rfl | rfl | rfl | rfl | rfl | rfl | rfl | rfl | rfl | rfl | rfl | rfl | rfl
                          all_goals
                            simp only [List.getElem?_toArray, List.getElem?_cons_zero, List.getElem?_cons_succ, Option.some.injEq] at ho
                            subst ho
                          · have e1 := (hc 1 (by kernel_rfl)).trans rfl
                            go_simp
                            exact hK _ hI
                          · have e9 := (hc 9 (by kernel_rfl)).trans rfl
                            go_simp
                            exact hK _ hI
                          · have e10 := (hc 10 (by kernel_rfl)).trans rfl
                            go_simp
                            exact hK _ hI
                          · have e115 : a.tmps.getD 115 undef = .slice (some ⟨b4, off4, none⟩) R.length c4 := hd 1 115 (by kernel_rfl)
                            have e116 : a.tmps.getD 116 undef = .int .i64 ll := hd 2 116 (by kernel_rfl)
                            have s2 : ll < R.length := hlt3
                            go_simp
                            exact hK _ hI
                          · have e117 : a.tmps.getD 117 undef = .pointer (some ⟨b4, off4 + ll * 3, none⟩) := hd 3 117 (by kernel_rfl)
                            go_simp
                            exact hK _ hI
                          · have e118 : a.tmps.getD 118 undef = .pointer (some ⟨b4, off4 + ll * 3 + 1, none⟩) := hd 4 118 (by kernel_rfl)
                            have hbq := HBz4.out.trans (Only.of_below hI)
                            have c0 := (HCk.out wa hbq).1
                            go_simp
                            exact hK _ hI
                          · have e114 : a.tmps.getD 114 undef = .slice (some ⟨b5, off5, none⟩) os.length d := hd 0 114 (by kernel_rfl)
                            have e119 : a.tmps.getD 119 undef = .int .i64 kq := hd 5 119 (by kernel_rfl)
                            have s2 : kq < os.length := hk5
                            go_simp
                            exact hK _ hI
                          · have e120 : a.tmps.getD 120 undef = .pointer (some ⟨b5, off5 + kq, none⟩) := hd 6 120 (by kernel_rfl)
                            have c0 := ((HBz.out.trans (hI.mono HBz.out.size)).cell (p := ⟨b5, off5 + kq, none⟩) hb5S).trans HD5.out
                            go_simp
                            exact hK _ hI
                          · have e9 := (hc 9 (by kernel_rfl)).trans rfl
                            go_simp
                            exact hK _ hI
                          · have e10 := (hc 10 (by kernel_rfl)).trans rfl
                            go_simp
                            exact hK _ hI
                          · have e122 : a.tmps.getD 122 undef = .slice (some ⟨b4, off4, none⟩) R.length c4 := hd 8 122 (by kernel_rfl)
                            have e123 : a.tmps.getD 123 undef = .int .i64 ll := hd 9 123 (by kernel_rfl)
                            have s2 : ll < R.length := hlt3
                            go_simp
                            exact hK _ hI
                          · have e124 : a.tmps.getD 124 undef = .pointer (some ⟨b4, off4 + ll * 3, none⟩) := hd 10 124 (by kernel_rfl)
                            go_simp
                            exact hK _ hI
                          · have e125 : a.tmps.getD 125 undef = .pointer (some ⟨b4, off4 + ll * 3 + 2, none⟩) := hd 11 125 (by kernel_rfl)
                            have hbq := HBz4.out.trans (Only.of_below hI)
                            have c0 := (HCk.out wa hbq).2
                            go_simp
                            exact hK _ hI
                          · have e121 : a.tmps.getD 121 undef = .slice A5 O5.length c5 := hd 7 121 (by kernel_rfl)
                            have e126 : a.tmps.getD 126 undef = .int .i64 rv := hd 12 126 (by kernel_rfl)
                            go_simp
                            refine (HNx.out wa (HBz.out.trans (hI.mono HBz.out.size))).mono ?_
                            rintro e w2 ⟨rfl, rfl⟩
                            exact hK _ hI
                        · intro wy hI
                          simp only [putD, Act.put, List.setIfInBounds_toArray, List.set_cons_zero, List.set_cons_succ, List.drop_succ_cons, List.drop_zero]
                          have HO8 := hide (HO7.out.onlyBelow hI)
                          have HBy4 := hide (HBz4.out.trans (Only.of_below hI))
                          have HBy := hide (HBz.out.trans (hI.mono HBz.out.size))
                          have hcky := HCk.out wy HBy4.out
                          obtain ⟨g1, g2⟩ := hcky
                          clear HO7 HBz4 HBz hI HNx
                          cases hnx : nxI O5 rv with
                          | none =>
                            have HL3 := hide (HSt2.out.trans (HNo.out L2 hnx))
                            clear hnx HSt2 HNo HSo
                            go_wp2_with fail
                            go_roundw
                            case rel => exact ⟨ll + 1, _, rfl, by omega, by go_num, by rw [HL3.out]; omega, by rw [HL3.out]; exact HO8.out, HBy4.out⟩
                            case measure => simp [intOf]; omega
                          | some y =>
                            obtain ⟨hy1, hy2⟩ := HSo.out L2 y hnx
                            have HL2b := hide (HSt2.out.trans hy2)
                            have HWy := hide (HWr.out kq y)
                            have hy0 : (0 : Int) ≤ y := by omega
                            clear hnx HSt2 HNo HSo hy2 hy1
                            simp only at HL2b
                            generalize wrI xs (kq : Int) y = wq at HL2b HWy
                            by_cases hwn : wq = (n : Int)
                            · have hwb : (wq != (n : Int)) = false := by rw [hwn]; simp
                              have hwb2 : (wq == (n : Int)) = true := by rw [hwn]; simp
                              rw [hwb] at HL2b
                              have HL3 := hide (show partR xs os (n : Int) LD (R.take (ll + 1)) = L2 from HL2b.out.trans (by simp))
                              clear hwn HL2b
                              go_wp2_with (go_at_call 58; refine (HWy.out _ HBy.out).mono ?_; rintro e wy ⟨rfl, hb⟩; have HO8 := hide (HO8.out.onlyBelow hb); have HBy4 := hide (HBy4.out.trans (Only.of_below hb)); have HBy := hide (HBy.out.trans (hb.mono HBy.out.size)); have g3 := (HCk.out _ HBy4.out).1; clear hb)
                              go_roundw
                              case rel => exact ⟨ll + 1, _, rfl, by omega, by go_num, by rw [HL3.out]; omega, by rw [HL3.out]; exact HO8.out, HBy4.out⟩
                              case measure => simp [intOf]; omega
                            · have hwb : (wq != (n : Int)) = true := by rw [bne_iff_ne]; exact hwn
                              have hwb2 : (wq == (n : Int)) = false := by rw [beq_eq_false_iff_ne]; exact hwn
                              rw [hwb] at HL2b
                              have HL3 := hide (show partR xs os (n : Int) LD (R.take (ll + 1)) = L2 ++ [⟨(n : Int), wq, 3⟩] from HL2b.out.trans (by simp))
                              have HLl := hide (show (partR xs os (n : Int) LD (R.take (ll + 1))).length ≤ 18 + 12 * n + 2 * (ll + 1) by rw [HL3.out, List.length_append, List.length_singleton]; omega)
                              clear hwn HL2b
                              go_wp2_with (first | (go_at_call 58; refine (HWy.out _ HBy.out).mono ?_; rintro e wy ⟨rfl, hb⟩; have HO8 := hide (HO8.out.onlyBelow hb); have HBy4 := hide (HBy4.out.trans (Only.of_below hb)); have HBy := hide (HBy.out.trans (hb.mono HBy.out.size)); have g3 := (HCk.out _ HBy4.out).1; clear hb) | (at_builtin; go_loud (refine wpList_put tEdge rfl (.tmp 142) (.tmp 153) 53 rfl 86 i0 _ 24 Tryz.underlying53 hi hz0 hz1 hz2 rfl (by decide) (fun b => w.heap.size ≤ b ∧ ¬ (w0.heap.size ≤ b ∧ b < w4.heap.size)) (fun _ => False) L2 ⟨(n : Int), wq, 3⟩ [.int .i64 n, .int .i64 wq, .int .i64 3] _ rfl HO8.out 1 rfl rfl (fun _ h => h.elim) (fun b hb => ⟨Nat.le_trans HBy.out.size hb, fun h9 => by have := HBy4.out.size; omega⟩) (by simp only [maxLen]; omega) (by omega) ?_; intro v9 w9 hO_ hK_; rw [← HL3.out] at hO_; have HO9 := hide hO_; have HB9 := hide (HBy4.out.trans hK_); clear hO_ hK_ HL3)))
                              go_roundw
                              case rel => exact ⟨ll + 1, _, rfl, by omega, by go_num, HLl.out, HO9.out, HB9.out⟩
                              case measure => simp [intOf]; omega
              · have HO6 := hide (show Own tEdge 86 wr (fun b => w.heap.size ≤ b ∧ Old wr b) (partD xs os L3 (doneI xs (n + 1))) vo2 by rw [HD2.out, ← show R.take ll = R from List.take_of_length_le (by omega)]; exact HO.out.mono (fun b h => ⟨h.1.1, h.2⟩) (fun _ _ => rfl))
                have HL6 := hide (show (partD xs os L3 (doneI xs (n + 1))).length ≤ 18 + 12 * (n + 1) by rw [HD2.out, ← show R.take ll = R from List.take_of_length_le (by omega)]; omega)
                have hln : ¬ (ll : Int) < (R.length : Int) := by omega
                clear HO hlen2
                go_wp2_with fail
                go_roundw
                case rel => exact ⟨n + 1, _, rfl, by omega, by go_num, HL6.out, HO6.out, below_only HB5.out HBq.out HB5.out.size (fun b h => h.1)⟩
                case measure => simp [intOf]; omega
        · have hne : n = xs.length := by omega
          have HO9 := hide (show Own tEdge 86 wr (fun b => w.heap.size ≤ b ∧ Old wr b) (rawI xs os) vo by rw [HRaw.out, ← hne]; exact HO.out)
          have hl9 : (rawI xs os).length ≤ 1000 := by rw [HRaw.out, ← hne]; omega
          have hnn : ¬ (n : Int) < (xs.length : Int) := by omega
          clear HO hll
          obtain ⟨A9, c9, rfl, h91, h92, h93⟩ := HO9.out.sl
          have HSo := hide (l8Sorted_any (rawI xs os) A9 c9 wr (by omega) (h93.mono (fun b h => h.2) fun _ _ => rfl))
          clear h93 HRaw hne
          go_wp2_with (go_at_call 63; refine HSo.out.mono ?_; rintro e w9 ⟨u, rfl, hu, hb9⟩; have HU := hide hu; have HB9 := hide hb9; clear hu hb9)
          go_ret
          exact ⟨_, rfl, HU.out.sl.mono (fun b h => ⟨Nat.le_trans HBw.out.size h.1, h.2⟩) (fun _ _ => rfl), HBw.out.trans (HB9.out.mono HBw.out.size)⟩
end Go.Proofs.YtjiobgfaohldhaaGreat
