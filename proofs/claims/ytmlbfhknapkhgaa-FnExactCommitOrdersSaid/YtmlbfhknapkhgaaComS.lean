/- The orders of values of a schedule: the two ways to tell them are one; the reference's CommitOrders. -/
import Derived.Test.YtmlbfhknapkhgaaSnapR
import Derived.Test.YtmlbfhknapkhgaaOwnList
import Derived.Test.YtmlbfhknapkhgaaSnapS
import Derived.BigQuiet
namespace Go.Proofs.Ytmlbfhknapkhgaa
open Go.RowKit Go.Maps
set_option linter.unusedVariables false
set_option linter.unusedSimpArgs false

/-- The numbers that are committed by the first k of a schedule. -/
def cOrd (ns : List Int) : Nat → List Int
  | 0 => []
  | k + 1 => cOrd ns k ++ (if (ns.take k).count (ns.getD k 0) == 1 then [ns.getD k 0] else [])
/-- The values that an order installs for a key. -/
def instK (h : List Txn) (key : Int) (ord : List Int) : List Int := ord.flatMap fun n => (lastW (opsOf h n) key).toList.map Op.Value
def instR (h : List Txn) (ord : List Int) : List (List Int) := [instK h 0 ord, instK h 1 ord, instK h 2 ord]
def cVal (h : List Txn) (ns : List Int) (key : Int) : Nat → List Int
  | 0 => []
  | k + 1 => cVal h ns key k ++ (if decide (0 ≤ hasW (opsOf h (ns.getD k 0)) key) && (ns.take k).count (ns.getD k 0) == 1 then [hasW (opsOf h (ns.getD k 0)) key] else [])
def comR (h : List Txn) (ns : List Int) : List (List Int) := if srB h ns then instR h (cOrd ns ns.length) else []
theorem opsOf_ok {h : List Txn} (hv : histV h = true) (n : Int) : ∀ o ∈ opsOf h n, opOk o = true := by
  intro o ho
  unfold opsOf at ho
  cases hx : h[n.toNat]? with
  | none => rw [hx] at ho; simp at ho
  | some t =>
    rw [hx] at ho
    exact (txnOk_parts ((histV_parts hv).2 t (List.mem_of_getElem? hx))).1 o (by simpa using ho)
theorem instK_append (h : List Txn) (key : Int) (a b : List Int) : instK h key (a ++ b) = instK h key a ++ instK h key b := by
  unfold instK; rw [List.flatMap_append]
theorem instK_one (h : List Txn) (key n : Int) : instK h key [n] = (lastW (opsOf h n) key).toList.map Op.Value := by
  unfold instK; simp
theorem cVal_inst {h : List Txn} (hv : histV h = true) (ns : List Int) (key : Int) : ∀ k, instK h key (cOrd ns k) = cVal h ns key k
  | 0 => rfl
  | k + 1 => by
    rw [cOrd, cVal, instK_append, cVal_inst hv ns key k]
    congr 1
    cases hc : ((ns.take k).count (ns.getD k 0) == 1) with
    | false => simp [instK]
    | true =>
      rw [if_pos rfl, instK_one, Bool.and_true]
      unfold hasW
      cases hw : lastW (opsOf h (ns.getD k 0)) key with
      | none => simp
      | some o =>
        have := (opOk_parts (opsOf_ok hv _ o (lastW_some hw).1)).2.2.1
        simp [this]
theorem instK_len (h : List Txn) (key : Int) : ∀ ord : List Int, (instK h key ord).length ≤ ord.length
  | [] => by simp [instK]
  | n :: l => by
    have h1 : instK h key (n :: l) = (lastW (opsOf h n) key).toList.map Op.Value ++ instK h key l := by unfold instK; rw [List.flatMap_cons]
    rw [h1, List.length_append, List.length_map, List.length_cons]
    have h2 := instK_len h key l
    have h3 : (lastW (opsOf h n) key).toList.length ≤ 1 := by cases lastW (opsOf h n) key <;> simp
    omega
theorem cOrd_len (ns : List Int) : ∀ k, (cOrd ns k).length ≤ k
  | 0 => by simp [cOrd]
  | k + 1 => by
    have := cOrd_len ns k
    rw [cOrd, List.length_append]
    split
    · simp; omega
    · simp; omega
theorem cOrd_mem {ns : List Int} : ∀ k, k ≤ ns.length → ∀ n ∈ cOrd ns k, n ∈ ns
  | 0, _ => fun n hn => by simp [cOrd] at hn
  | k + 1, hk => fun n hn => by
    rw [cOrd, List.mem_append] at hn
    rcases hn with hn | hn
    · exact cOrd_mem k (by omega) n hn
    · split at hn
      · simp only [List.mem_singleton] at hn
        rw [List.getD_eq_getElem?_getD, List.getElem?_eq_getElem (by omega)] at hn
        have hn2 : n = ns[k] := hn
        rw [hn2]
        exact List.getElem_mem _
      · cases hn
theorem srB_parts {h : List Txn} {ns : List Int} (hs : srB h ns = true) : histV h = true ∧ ns.length ≤ 12 ∧ (∀ n, ns.count n ≤ 2) ∧ ∀ n ∈ ns, dneOf h n = true := by
  unfold srB at hs
  simp only [Bool.and_eq_true, decide_eq_true_eq] at hs
  obtain ⟨⟨⟨h1, h2⟩, h3⟩, h4⟩ := hs
  obtain ⟨S, hS⟩ := Option.isSome_iff_exists.1 h4
  have h5 := snapRun_seen hS
  have h6 := snapRun_count hS (fun n => by simp [SS0])
  have h7 : (doneL h).length ≤ 6 := Nat.le_trans (doneI_len h _) (histV_parts h1).1
  refine ⟨h1, by omega, fun n => ?_, h5.2⟩
  have := h6 n
  rw [h5.1] at this
  simpa [SS0] using this
theorem con_take {ns : List Int} (hc : ∀ n, ns.count n ≤ 2) (k : Nat) (hk : k < ns.length) : (ns.take k).contains ns[k] = ((ns.take k).count ns[k] == 1) := by
  have h1 := take_count_succ ns ns[k] k hk
  have h2 : ns.getD k 0 = ns[k] := by rw [List.getD_eq_getElem?_getD, List.getElem?_eq_getElem hk]; rfl
  rw [if_pos h2] at h1
  have h3 : (ns.take (k + 1)).count ns[k] ≤ ns.count ns[k] := (List.take_sublist _ _).count_le _
  have h4 := hc ns[k]
  by_cases hm : ns[k] ∈ ns.take k
  · have := List.count_pos_iff.2 hm
    rw [List.contains_iff_mem.2 hm]
    symm; rw [beq_iff_eq]; omega
  · have h5 := List.count_eq_zero.2 hm
    rw [h5]
    simpa using hm
theorem any_take {ns : List Int} (hc : ∀ n, ns.count n ≤ 2) (k : Nat) (hk : k < ns.length) : (ns.take k).any (fun y => ns[k] == y) = ((ns.take k).count ns[k] == 1) := by
  rw [← con_take hc k hk, List.contains_eq_any_beq]
theorem cOrd_succ (ns : List Int) (k : Nat) (hk : k < ns.length) : cOrd ns (k + 1) = cOrd ns k ++ (if (ns.take k).count ns[k] == 1 then [ns[k]] else []) := by
  have h2 : ns.getD k 0 = ns[k] := by rw [List.getD_eq_getElem?_getD, List.getElem?_eq_getElem hk]; rfl
  rw [cOrd, h2]
theorem cVal_succ (h : List Txn) (ns : List Int) (key : Int) (k : Nat) (hk : k < ns.length) : cVal h ns key (k + 1) = cVal h ns key k ++ (if decide (0 ≤ hasW (opsOf h ns[k]) key) && (ns.take k).count ns[k] == 1 then [hasW (opsOf h ns[k]) key] else []) := by
  have h2 : ns.getD k 0 = ns[k] := by rw [List.getD_eq_getElem?_getD, List.getElem?_eq_getElem hk]; rfl
  rw [cVal, h2]
theorem cVal_len (h : List Txn) (ns : List Int) (key : Int) : ∀ k, (cVal h ns key k).length ≤ k
  | 0 => by simp [cVal]
  | k + 1 => by
    have := cVal_len h ns key k
    rw [cVal, List.length_append]
    split
    · simp; omega
    · simp; omega
theorem comR_len (h : List Txn) (ns : List Int) : (comR h ns).length ≤ 1048576 ∧ ∀ x ∈ comR h ns, x.length ≤ 1048576 := by
  unfold comR
  split
  · rename_i hs
    have h12 := (srB_parts hs).2.1
    have hl := cOrd_len ns ns.length
    refine ⟨by simp [instR], fun x hx => ?_⟩
    simp only [instR, List.mem_cons, List.not_mem_nil, or_false] at hx
    rcases hx with rfl | rfl | rfl
    · have := instK_len h 0 (cOrd ns ns.length); omega
    · have := instK_len h 1 (cOrd ns ns.length); omega
    · have := instK_len h 2 (cOrd ns ns.length); omega
  · exact ⟨by simp, fun x hx => by cases hx⟩
/-- The lists of the first keys. -/
def comK (h : List Txn) (ord : List Int) : Nat → List (List Int)
  | 0 => []
  | k + 1 => comK h ord k ++ [instK h (k : Int) ord]
theorem comK_len (h : List Txn) (ord : List Int) : ∀ k, (comK h ord k).length = k
  | 0 => rfl
  | k + 1 => by rw [comK, List.length_append, comK_len h ord k]; rfl
theorem dne_in_ {h : List Txn} {n : Int} (hd : dneOf h n = true) : 0 ≤ n ∧ n < h.length := by
  unfold dneOf at hd
  simp only [Bool.and_eq_true, decide_eq_true_eq] at hd
  exact hd.1
theorem Own.ofBlock {e : TypeId} {w : World} {S : Nat → Prop} {xs : List Int} {v : Value} (h : Own tInt e w S xs v) : Own tInt e w (fun b => v.ownBlock = some b) xs v := by
  rcases h with ⟨rfl, rfl⟩ | ⟨g, cap, cur, S', rfl, hg, hB, h1, h2, h3, h4, h5⟩
  · exact .inl ⟨rfl, rfl⟩
  · exact .inr ⟨g, cap, cur, fun _ => False, rfl, rfl, hB, h1, h2, h3, fun b h => h.elim, fun k hk => h5 k hk⟩
set_option maxRecDepth 10000 in
set_option maxHeartbeats 4000000 in
theorem specCommitOrders (xs : List Txn) (ns : List Int) (A B : Option Addr) (c d : Nat) (w : World) (hm : xs.length ≤ 1048576) (hn6 : ∀ x ∈ xs, x.Ops.length ≤ 1048576) (ht : opsN xs ≤ 1048576) (hmn : ns.length ≤ 1048576) (hd1 : ns.length ≤ d) (hd2 : d ≤ maxLen) (hA : Row tTxn w (Old w) A xs) (hN : Row tInt w (Old w) B ns) :
    Calls Try.prog 31 #[.slice A xs.length c, .slice B ns.length d] w fun e w' => ∃ v, e = .returned v ∧ Sl (tSlice tInt) w' (New w w') (comR xs ns) v ∧ Below w.heap.size w w' := by
  obtain ⟨i0, hi, hz0, hz1, hz2⟩ := info_parts infoInt_
  obtain ⟨i1, hi1, hz01, hz11, hz21⟩ := info_parts infoIntS_
  have HOw := hide (ownTxnList xs A c w hm hn6 hA)
  have HSr := hide (fun (W : World) (A1 : Option Addr) (c1 : Nat) (h1 : Row tTxn W (Old W) A1 xs) (h2 : Row tInt W (Old W) B ns) => specSnapshotRight xs ns A1 B c1 d W (by simp only [maxLen]; omega) ht hmn hd1 hd2 h1 h2)
  have HR := hide (show comR xs ns = if srB xs ns then instR xs (cOrd ns ns.length) else [] from rfl)
  have HN := hide hN
  clear hA hN
  go_enter Try.func31, Try.ntmps31
  go_upto_region 2 with (go_at_call 48; refine HOw.out.mono ?_; rintro e w1 ⟨v1, rfl, hO1, hb1⟩; obtain ⟨A1, c1, rfl, h11, h12, hrow⟩ := hO1.weakTxn.sl; have HA1 := hide (hrow.mono (S' := Old w1) (fun b h => h.2) (fun _ _ => rfl)); have HB1 := hide hb1; clear hb1 hO1 hrow)
  have HN1 := hide (HN.out.old HB1.out)
  have hw1 := HB1.out.size
  clear HN HOw
  have HBa := hide ((Below.refl _ w1).alloc (Nat.le_refl _) (.cells #[] 31))
  have HO0 := hide (Own.empty (T := tSlice tInt) (e := 31) w1 (fun b => w1.heap.size ≤ b) (Nat.le_refl _))
  have HSc := hide (HSr.out (w1.alloc (.cells #[] 31)) A1 c1 (HA1.out.old HBa.out) (HN1.out.old HBa.out))
  clear HSr
  cases hs : srB xs ns with
  | false =>
    rw [hs] at HSc HR
    clear hs
    go_wp2_with (go_at_call 26; refine HSc.out.mono ?_; rintro e w2 ⟨rfl, hb2⟩; have HB2 := hide hb2; clear hb2)
    go_ret
    refine ⟨_, rfl, ?_, HB1.out.trans ((HBa.out.trans (HB2.out.mono HBa.out.size)).mono hw1)⟩
    rw [HR.out]
    exact (HO0.out.onlyBelow HB2.out).sl.mono (fun b h => ⟨Nat.le_trans hw1 h.1, h.2⟩) (fun _ _ => rfl)
  | true =>
    rw [hs] at HSc HR
    obtain ⟨hv, h12n, hc2, hdn⟩ := srB_parts hs
    have HDn := hide (fun n hn => dne_in_ (hdn n hn))
    have HTx := hide (histV_parts hv).2
    have HCv := hide (fun (key : Int) (k : Nat) => cVal_inst hv ns key k)
    have HCs := hide (fun (key : Int) (k : Nat) (hk : k < ns.length) => cVal_succ xs ns key k hk)
    have hx6 : xs.length ≤ 6 := (histV_parts hv).1
    have hqn : ns.length ≤ 9223372036854775807 := by omega
    have hq : xs.length ≤ 9223372036854775807 := by omega
    clear hs hv hc2 hdn
    go_wp2_with (go_at_call 26; refine HSc.out.mono ?_; rintro e w2 ⟨rfl, hb2⟩; have HB2 := hide hb2; clear hb2)
    have HB3 := hide (HBa.out.trans (HB2.out.mono HBa.out.size))
    have HO1 := hide (HO0.out.onlyBelow HB2.out)
    have hz12 : w1.heap.size ≤ w2.heap.size := HB3.out.size
    clear HO0 HBa HB2 HSc
    obtain ⟨O, hOe⟩ : ∃ O, O = cOrd ns ns.length := ⟨_, rfl⟩
    rw [← hOe] at HR
    have HOe := hide hOe
    clear hOe
    go_loopw [5, 6, 7, 8, 9] (fun v i _ _ _ wr => ∃ k : Nat, k ≤ 3 ∧ i = .int .i64 k ∧ w1.heap.size ≤ wr.heap.size ∧ Hid (Own (tSlice tInt) 31 wr (fun b => w1.heap.size ≤ b ∧ Old wr b) (comK xs O k) v) ∧ Hid (Below w1.heap.size w1 wr)) (fun _ i _ _ _ _ => 3 - (intOf i).toNat)
    case atStart => exact ⟨0, by omega, rfl, hz12, HO1.out, HB3.out⟩
    case round =>
      obtain ⟨k, hk, rfl, hwz, hO, hb⟩ := hrel
      have HO := hide hO.out; have HB := hide hb.out; have HZ := hide hwz
      clear hO hb hwz HO1 HB3 hz12
      by_cases hlt : k < 3
      · have hk2 : decide ((k : Int) ≤ 2) = true := decide_eq_true (by omega)
        have hky : (k : Int) = 0 ∨ (k : Int) = 1 ∨ (k : Int) = 2 := by omega
        have hck := comK_len xs O k
        obtain ⟨wo, hwo⟩ : ∃ wo : World, wo = wr := ⟨_, rfl⟩
        rw [← hwo] at HO HB HZ ⊢
        clear hwo
        go_wp2_with fail
        have HV0 := hide (Own.empty (T := tInt) (e := 3) wo (fun b => wo.heap.size ≤ b) (Nat.le_refl _))
        have HBv := hide ((Below.refl _ wo).alloc (Nat.le_refl _) (.cells #[] 3))
        go_loopw [7, 8, 9] (fun v i _ wr => ∃ j : Nat, j ≤ ns.length ∧ i = .int .i64 j ∧ wo.heap.size ≤ wr.heap.size ∧ Hid (Own tInt 3 wr (fun b => wo.heap.size ≤ b ∧ Old wr b) (cVal xs ns k j) v) ∧ Hid (Below wo.heap.size wo wr)) (fun _ i _ _ => ns.length - (intOf i).toNat)
        case atStart => exact ⟨0, Nat.zero_le _, rfl, by simp, HV0.out, HBv.out⟩
        case round =>
          obtain ⟨j, hj, rfl, hwz2, hO2, hb2⟩ := hrel
          have HV := hide hO2.out; have HBw := hide hb2.out; have HZ2 := hide hwz2
          have HBr := hide (HB.out.trans (hb2.out.mono HB.out.size))
          clear hO2 hb2 hwz2 HV0 HBv
          by_cases hlt2 : j < ns.length
          · obtain ⟨b0, off0, rfl, hbS0, e0⟩ := at_Int HN1.out HBr.out hlt2
            obtain ⟨hn0, hn1⟩ := HDn.out _ (List.getElem_mem hlt2)
            obtain ⟨m, hme⟩ : ∃ m : Nat, ns[j] = (m : Int) := ⟨ns[j].toNat, by omega⟩
            have hml : m < xs.length := by omega
            obtain ⟨b, off, A5, c5, hA5, hbS, g0, g1, g3, hj1, hj2, hj3⟩ := at_Txn HA1.out HBr.out hml
            subst hA5
            have hlenj : (ns.take j).length = j := by rw [List.length_take]; omega
            have HCnt := hide (fun (W : World) (hW : Below w1.heap.size w1 W) => (l13Count_pure (ns.take j) (m : Int) (some ⟨b0, off0, none⟩) d W (by rw [hlenj]; simp only [maxLen]; omega) ((HN1.out.old hW).take_ j)))
            rw [hlenj] at HCnt
            have HHas := hide (l13Has_any xs[m] (k : Int) A5 c5 wr (HTx.out _ (List.getElem_mem hml)) hky hj3)
            have HS := hide (HCs.out (k : Int) j hlt2)
            have hcl := cVal_len xs ns (k : Int) j
            rw [hme] at e0 HS
            have hop := opsOf_nat (h := xs) hml
            rw [hop] at HS
            have hjd : (j : Int) ≤ (d : Int) := by omega
            have hjd0 : (0 : Int) ≤ (j : Int) := by omega
            generalize hasW xs[m].Ops (k : Int) = q at HHas HS
            generalize (ns.take j).count (m : Int) = cn at HCnt HS
            have hbl0 : b0 < w1.heap.size := hbS0
            clear hn0 hn1 hme hop hj3 hlenj
            cases hq2 : decide (0 ≤ q) with
            | false =>
              have hqg : decide (q ≥ 0) = false := hq2
              have HS2 := hide (show cVal xs ns (k : Int) (j + 1) = cVal xs ns (k : Int) j by rw [HS.out, hq2]; simp)
              clear hq2 HS
              go_upto_region 13 with (go_at_call 78; refine HHas.out.mono ?_; rintro e w5 ⟨rfl, hb5⟩; have HB5 := hide hb5; clear hb5)
              go_quiet (fail)
              go_wp2_with fail
              go_roundw
              case rel => exact ⟨j + 1, by omega, by go_num, Nat.le_trans HZ2.out HB5.out.size, by rw [HS2.out]; exact (HV.out.onlyBelow HB5.out).mono (fun _ h => h) (fun _ _ => rfl), below_drewN (HBw.out.trans (HB5.out.mono HBw.out.size)) _⟩
              case measure => simp [intOf]; omega
            | true =>
              have hqg : decide (q ≥ 0) = true := hq2
              cases hcn : (cn == 1) with
              | false =>
                have hci : ((cn : Int) == 1) = false := by rw [beq_eq_false_iff_ne] at hcn ⊢; omega
                have HS2 := hide (show cVal xs ns (k : Int) (j + 1) = cVal xs ns (k : Int) j by rw [HS.out, hq2, hcn]; simp)
                clear hq2 HS hcn
                go_upto_region 13 with (go_at_call 78; refine HHas.out.mono ?_; rintro e w5 ⟨rfl, hb5⟩; have HB5 := hide hb5; have HB6 := hide (HBr.out.trans (hb5.mono HBr.out.size)); have e05 := (hb5.cell (p := ⟨b0, off0 + j, none⟩) (Nat.lt_of_lt_of_le hbl0 HBr.out.size)).trans e0; clear hb5)
                go_region_held3 (fun V => V.cell? ⟨b0, off0 + j, none⟩ = some (.int .i64 m) ∧ Below w1.heap.size w1 V)
                  (first
                    | ((try dsimp only); exact ⟨e05, HB6.out.drew⟩)
                    | go_keep)
                  ((first | (go_at_call 71; refine (HCnt.out _ HB6.out.drew).mono ?_; rintro e w' ⟨rfl, rfl⟩)))
                go_wp2_with fail
                go_roundw
                case rel => exact ⟨j + 1, by omega, by go_num, Nat.le_trans HZ2.out HB5.out.size, by rw [HS2.out]; exact (HV.out.onlyBelow HB5.out).mono (fun _ h => h) (fun _ _ => rfl), (HBw.out.trans (HB5.out.mono HBw.out.size)).drew⟩
                case measure => simp [intOf]; omega
              | true =>
                have hci : ((cn : Int) == 1) = true := by rw [beq_iff_eq] at hcn ⊢; omega
                have HS2 := hide (show cVal xs ns (k : Int) (j + 1) = cVal xs ns (k : Int) j ++ [q] by rw [HS.out, hq2, hcn]; simp)
                clear hq2 HS hcn
                go_upto_region 13 with (go_at_call 78; refine HHas.out.mono ?_; rintro e w5 ⟨rfl, hb5⟩; have HB5 := hide hb5; have HB6 := hide (HBr.out.trans (hb5.mono HBr.out.size)); have e05 := (hb5.cell (p := ⟨b0, off0 + j, none⟩) (Nat.lt_of_lt_of_le hbl0 HBr.out.size)).trans e0; clear hb5)
                go_region_held3 (fun V => V.cell? ⟨b0, off0 + j, none⟩ = some (.int .i64 m) ∧ Below w1.heap.size w1 V)
                  (first
                    | ((try dsimp only); exact ⟨e05, HB6.out.drew⟩)
                    | go_keep)
                  ((first | (go_at_call 71; refine (HCnt.out _ HB6.out.drew).mono ?_; rintro e w' ⟨rfl, rfl⟩)))
                generalize hW : World.drew _ = W
                have HVW := hide (show Own tInt 3 W (fun b => wo.heap.size ≤ b ∧ Old W b) (cVal xs ns (k : Int) j) _ from by rw [← hW]; exact (HV.out.onlyBelow HB5.out).mono (fun _ h => h) (fun _ _ => rfl))
                have HBW := hide (show Below wo.heap.size wo W by rw [← hW]; exact (HBw.out.trans (HB5.out.mono HBw.out.size)).drew)
                clear hW
                go_wp2_with (at_builtin; refine wpList_put tInt rfl (.tmp 51) (.tmp 53) 31 rfl 3 i0 _ 8 Try.underlying31 hi hz0 hz1 hz2 rfl (by decide) (fun b => wo.heap.size ≤ b) (fun _ => False) (cVal xs ns (k : Int) j) q [.int .i64 q] _ rfl HVW.out 1 rfl rfl (fun _ h => h.elim) (fun b hb => Nat.le_trans HBW.out.size hb) (by simp only [maxLen]; omega) (by omega) ?_; intro v6 w6 hO_ hK_; have HO6 := hide hO_; have HK6 := hide hK_; clear hO_ hK_)
                go_roundw
                case rel => exact ⟨j + 1, by omega, by go_num, Nat.le_trans HBW.out.size HK6.out.size, by rw [HS2.out]; exact HO6.out, below_only HBW.out HK6.out HBW.out.size (fun i hi => hi)⟩
                case measure => simp [intOf]; omega
          · obtain rfl : j = ns.length := by omega
            have HVi := hide (show cVal xs ns (k : Int) ns.length = instK xs (k : Int) O by rw [HOe.out, HCv.out])
            rw [HVi.out] at HV
            have hil := instK_len xs (k : Int) O
            have hol : O.length ≤ 12 := by rw [HOe.out]; exact Nat.le_trans (cOrd_len ns _) h12n
            obtain ⟨A6, c6, rfl, h61, h62, -⟩ := HV.out.sl
            have HS6 := hide HV.out.ofBlock.sl
            have HOd := hide HV.out.owned
            have HOo := hide ((HO.out.onlyBelow HBw.out).mono (S2 := fun b => w1.heap.size ≤ b ∧ Old wr b) (fun _ h => h) (fun _ _ => rfl))
            have HOold := hide (HO.out.owned)
            generalize hys : instK xs (k : Int) O = ys at HV HS6 hil h61 HOd
            generalize hyl : ys.length = n6 at HS6 h61 HOd hil
            have HYs := hide hys; have HYl := hide hyl
            clear hys hyl HV HVi
            go_wp2_with (at_builtin; refine wpList_put (tSlice tInt) rfl (.tmp 55) (.tmp 57) 41 rfl 31 i1 _ 24 Try.underlying41 hi1 hz01 hz11 hz21 rfl (by decide) (fun b => w1.heap.size ≤ b) (fun b => (Value.slice A6 n6 c6).ownBlock = some b) (comK xs O k) ys [.slice A6 n6 c6] _ rfl HOo.out 1 rfl ⟨_, rfl, HS6.out⟩ (fun b h => ⟨Nat.le_trans HZ.out (HOd.out b h).1, (HOd.out b h).2, fun e9 => by have h1 := (HOold.out b e9).2; have h2 := (HOd.out b h).1; unfold Old at h1; omega⟩) (fun b hb => Nat.le_trans HZ.out (Nat.le_trans HBw.out.size hb)) (by simp only [maxLen]; omega) (by omega) ?_; intro v7 w7 hO_ hK_; have HO7 := hide hO_; have HK7 := hide hK_; clear hO_ hK_)
            go_roundw
            case rel => exact ⟨k + 1, by omega, by go_num, Nat.le_trans HBr.out.size HK7.out.size, by rw [comK, HYs.out]; exact HO7.out, below_only HBr.out HK7.out HBr.out.size (fun i hi => hi)⟩
            case measure => simp [intOf]; omega
      · obtain rfl : k = 3 := by omega
        go_wp2_with fail
        go_ret
        refine ⟨_, rfl, ?_, HB1.out.trans (HB.out.mono hw1)⟩
        rw [HR.out]
        exact HO.out.sl.mono (fun b h => ⟨Nat.le_trans hw1 h.1, h.2⟩) (fun _ _ => rfl)
end Go.Proofs.Ytmlbfhknapkhgaa
