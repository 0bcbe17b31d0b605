/- The program's FirstOrders and AllOrders. The program's ordersIn; the facts of a drawn region in which one call makes a row. -/
import Derived.Test.YtjiobgfaohldhaaGreatQPutN
import Derived.Test.YtjiobgfaohldhaaGreatQAllM
import Derived.Test.YtjiobgfaohldhaaGreatQFirst
namespace Go.Proofs.YtjiobgfaohldhaaGreat
open Go.RowKit
set_option linter.unusedVariables false
set_option linter.unusedSimpArgs false

def firstP (h : List Txn) : Nat → List (List Int)
  | 0 => []
  | k + 1 => firstP h k ++ [instL h (k : Int)]
theorem firstP_len (h : List Txn) : ∀ k, (firstP h k).length = k
  | 0 => rfl
  | k + 1 => by rw [firstP, List.length_append, firstP_len h k]; rfl
theorem firstL_at (h : List Txn) (k : Nat) (hk : k < (firstL h).length) : (firstL h)[k] = instL h (k : Int) := by
  have h3 : k = 0 ∨ k = 1 ∨ k = 2 := by simp [firstL] at hk; omega
  rcases h3 with rfl | rfl | rfl <;> rfl
theorem instL_le {h : List Txn} (hv : histV h = true) (key : Int) : (instL h key).length ≤ 6 := by
  rw [← instD_all]
  exact Nat.le_trans (instD_len _ _ _) (Nat.le_trans (doneI_len h _) (histV_parts hv).1)
theorem fct_le6 {n : Nat} (h : n ≤ 6) : fct n ≤ 720 := by
  have : n = 0 ∨ n = 1 ∨ n = 2 ∨ n = 3 ∨ n = 4 ∨ n = 5 ∨ n = 6 := by omega
  rcases this with rfl | rfl | rfl | rfl | rfl | rfl | rfl <;> decide
theorem manyK_le {h : List Txn} (hv : histV h = true) : ∀ k, k ≤ 3 → manyK h k ≤ 720 ^ k
  | 0, _ => by simp [manyK]
  | k + 1, hk => by
    rw [manyK, Nat.pow_succ]
    exact Nat.mul_le_mul (manyK_le hv k (by omega)) (fct_le6 (instL_le hv _))
theorem manyK_bd {h : List Txn} (hv : histV h = true) (k : Nat) (hk : k ≤ 3) : manyK h k ≤ 373248000 :=
  Nat.le_trans (manyK_le hv k hk) (Nat.le_trans (Nat.pow_le_pow_right (by omega) hk) (by decide))
theorem stepO_nil (l : List Int) : stepO [] l = [] := rfl
theorem stepO_succ (P : List (List (List Int))) (l : List Int) (i : Nat) (hi : i < P.length) : stepO (P.take (i + 1)) l = stepO (P.take i) l ++ (permsI l.length l).map fun o => P[i] ++ [o] := by
  unfold stepO
  rw [List.take_succ_eq_append_getElem hi, List.flatMap_append]
  simp
theorem partO_mlen (h : List Txn) : ∀ k, ∀ x ∈ partO h k, x.length = k
  | 0, x, hx => by rw [partO] at hx; simp at hx; subst hx; rfl
  | k + 1, x, hx => by
    rw [partO, stepO_mem] at hx
    obtain ⟨b, hb, o, ho, rfl⟩ := hx
    rw [List.length_append, partO_mlen h k b hb]; rfl
theorem partO_ilen {h : List Txn} (hv : histV h = true) : ∀ k, ∀ x ∈ partO h k, ∀ y ∈ x, y.length ≤ 6
  | 0, x, hx, y, hy => by rw [partO] at hx; simp at hx; subst hx; cases hy
  | k + 1, x, hx, y, hy => by
    rw [partO, stepO_mem] at hx
    obtain ⟨b, hb, o, ho, rfl⟩ := hx
    rw [List.mem_append] at hy
    rcases hy with hy | hy
    · exact partO_ilen hv k b hb y hy
    · have : y = o := by simpa using hy
      subst this
      rw [permsI_mem_len _ _ _ rfl ho]; exact instL_le hv _
theorem at_SliceG {α : Type} {T : Ty α} {xs : List (List α)} {A : Option Addr} {w : World} {S : Nat → Prop} {k : Nat} (hR : Row (tSlice T) w S A xs) (hk : k < xs.length) :
    ∃ b off A2 c2, A = some ⟨b, off, none⟩ ∧ S b ∧ w.cell? ⟨b, off + k, none⟩ = some (.slice A2 xs[k].length c2) ∧ xs[k].length ≤ c2 ∧ c2 ≤ maxLen ∧ Row T w S A2 xs[k] := by
  obtain ⟨b, off, rfl, hbS, hc⟩ := hR (by omega)
  obtain ⟨cs, hr, hcs⟩ := hc k hk
  obtain ⟨v, rfl, A2, c2, rfl, h1, h2, h3⟩ := hr
  exact ⟨b, off, A2, c2, rfl, hbS, by simpa [tSlice] using hcs 0 _ rfl, h1, h2, h3⟩
theorem infoIntSS_ : (Tryz.prog.info? 24).map (fun i => (i.zero, i.size, i.bytes)) = some (some (.slice none 0 0), 1, 24) := by kernel_rfl
theorem clip_IntSSS (n : Nat) (A : Option Addr) (c : Nat) (w : World) (hl : n ≤ c) (hc : c ≤ maxLen) :
    Calls Tryz.prog 105 #[.slice A n c] w fun e w' => e = .returned (.slice A n n) ∧ w = w' := by
  unfold maxLen at hc
  have h1 : (0 : Int) ≤ (n : Int) := by omega
  have h2 : (n : Int) ≤ (c : Int) := by omega
  go_enter Tryz.func105, Tryz.ntmps105
  go_wp2
  go_ret
  exact ⟨rfl, rfl⟩
set_option maxRecDepth 10000 in
set_option maxHeartbeats 4000000 in
theorem implFirstOrders (xs : List Txn) (A : Option Addr) (c : Nat) (w : World) (hm : xs.length ≤ maxLen) (hA : Row tTxn w (Old w) A xs) :
    Calls Tryz.prog 103 #[.slice A xs.length c] w fun e w' => ∃ v, e = .returned v ∧ (histV xs = false → v = .slice none 0 0) ∧ (histV xs = true → Own (tSlice tInt) 23 w' (New w w') (firstL xs) v) ∧ Below w.heap.size w w' := by
  obtain ⟨i1, hi1, hz01, hz11, hz21⟩ := info_parts infoIntS_
  have hmk : ∀ W : World, (Instr.makeSlice 24 (.int .i64 0) (.int .i64 3)).run Tryz.prog W = .ok (.slice (some ⟨W.heap.size, 0, none⟩) 0 3) (W.alloc (.cells (madeCells (Value.cells (.slice none 0 0)) (3 * 1)) 23)) := fun W => by
    have h := run_make_rowN (P := Tryz.prog) 24 23 i1 (.slice none 0 0) Tryz.underlying24 hi1 hz01 .i64 .i64 0 3 (Nat.zero_le _) (by rw [hz21]; omega) (by omega) W
    rw [hz11] at h
    exact h
  have HC := hide (implHistoryValid xs A c w hm hA)
  have HA := hide hA
  clear hA
  cases hv : histV xs with
  | false =>
    rw [hv] at HC
    go_enter Tryz.func103, Tryz.ntmps103
    go_wp2_with (go_at_call 66; refine HC.out.mono ?_; rintro e w1 ⟨rfl, hb1⟩; have HB1 := hide hb1; clear hb1)
    go_ret
    exact ⟨_, rfl, fun _ => rfl, fun h => by simp at h, HB1.out⟩
  | true =>
    rw [hv] at HC
    have HV := hide hv
    have HI := hide (fun (W : World) (key : Int) (hk : key = 0 ∨ key = 1 ∨ key = 2) (hb : Below w.heap.size w W) => implInstalled xs key A c W hv hk (HA.out.old hb))
    have HX6 := hide (fun key => instL_le hv key)
    clear hv hm
    have HO := hide (fun W : World => Own.made (T := tSlice tInt) (e := 23) W (S := fun b => W.heap.size ≤ b ∧ Old (W.alloc (.cells (madeCells (Value.cells (.slice none 0 0)) (3 * 1)) 23)) b) (madeCells (Value.cells (.slice none 0 0)) (3 * 1)) 3 (by rw [size_madeCells]; rfl) (by simp [maxLen]) ⟨Nat.le_refl _, by simp [Old]⟩)
    go_enter Tryz.func103, Tryz.ntmps103
    go_wp2_with (go_at_call 66; refine HC.out.mono ?_; rintro e w1 ⟨rfl, hb1⟩; have HB1 := hide hb1; clear hb1)
    clear hmk HC
    have hz1 := HB1.out.size
    have HO1 := hide ((HO.out w1).mono (S2 := fun b => w.heap.size ≤ b ∧ Old (w1.alloc (.cells (madeCells (Value.cells (.slice none 0 0)) (3 * 1)) 23)) b) (fun b h => ⟨Nat.le_trans hz1 h.1, h.2⟩) (fun _ _ => rfl))
    have HB2 := hide (HB1.out.alloc hz1 (.cells (madeCells (Value.cells (.slice none 0 0)) (3 * 1)) 23))
    clear HO hz1
    go_loopw [3, 4, 9] (fun v _ i wr => ∃ k : Nat, k ≤ 3 ∧ i = .int .i64 k ∧ Hid (Own (tSlice tInt) 23 wr (fun b => w.heap.size ≤ b ∧ Old wr b) (firstP xs k) v) ∧ Hid (Below w.heap.size w wr)) (fun _ _ i _ => 3 - (intOf i).toNat)
    case atStart => exact ⟨0, by omega, rfl, HO1.out, HB2.out⟩
    case round =>
      obtain ⟨k, hk, rfl, hO, hb⟩ := hrel
      have HO := hide hO.out; have HB := hide hb.out
      clear hO hb HO1 HB2
      by_cases hlt : k < 3
      · have hki : (k : Int) < 3 := by omega
        have HF := hide (HI.out wr (k : Int) (by omega) HB.out)
        have HL := hide (firstP_len xs k)
        have HP := hide (show firstP xs k ++ [instL xs (k : Int)] = firstP xs (k + 1) from rfl)
        have HXk := hide (HX6.out (k : Int))
        have HQ := hide HB.out.size
        generalize instL xs (k : Int) = L at HF HP HXk
        generalize firstP xs k = F at HO HL HP
        go_wp2_with (first | (go_at_call 124; refine HF.out.mono ?_; rintro e w4 ⟨v4, rfl, hO4, hb4⟩; obtain ⟨A4, c4, rfl, h41, h42, _⟩ := hO4.sl; have HO4 := hide hO4; have HB4 := hide hb4; clear hO4 hb4) | (at_builtin; refine wpList_put (tSlice tInt) rfl (.tmp 12) (.tmp 16) 24 rfl 23 i1 _ 24 Tryz.underlying24 hi1 hz01 hz11 hz21 rfl (by decide) (fun b => w.heap.size ≤ b) (fun b => wr.heap.size ≤ b ∧ Old w4 b) F L [.slice A4 L.length c4] _ rfl (HO.out.onlyBelow HB4.out) 1 rfl ⟨_, rfl, HO4.out.sl⟩ (fun b h => ⟨Nat.le_trans HQ.out h.1, h.2, fun e => by have := own_lt (B := wr.heap.size) HO.out (fun b h => h.2) b e; have := h.1; omega⟩) (fun b hb => by have := HB4.out.size; have := HQ.out; omega) (by have := HL.out; simp only [maxLen]; omega) (by have := HL.out; omega) ?_; intro v9 w9 hO_ hK_; have HO9 := hide hO_; have HK9 := hide hK_; clear hO_ hK_))
        rw [HP.out] at HO9
        have HB9 := hide (below_only (HB.out.trans (HB4.out.mono HQ.out)) HK9.out (Nat.le_trans HQ.out HB4.out.size) (fun i hi => hi))
        go_roundw
        case rel => exact ⟨k + 1, by omega, by go_num, HO9.out, HB9.out⟩
        case measure => simp [intOf]; omega
      · obtain rfl : k = 3 := by omega
        go_wp2_with fail
        go_ret
        exact ⟨_, rfl, fun h => by simp [HV.out] at h, fun _ => HO.out.mono (fun b h => ⟨h.1, h.2⟩) (fun _ _ => rfl), HB.out⟩
set_option maxRecDepth 10000 in
set_option maxHeartbeats 4000000 in
theorem implAllOrders (xs : List Txn) (A : Option Addr) (c : Nat) (w : World) (hm : xs.length ≤ maxLen) (hA : Row tTxn w (Old w) A xs) :
    Calls Tryz.prog 65 #[.slice A xs.length c] w fun e w' => ∃ v, e = .returned v ∧ Sl (tSlice (tSlice tInt)) w' (New w w') (allO xs) v ∧ Below w.heap.size w w' := by
  obtain ⟨i1, hi1, hz01, hz11, hz21⟩ := info_parts infoIntS_
  obtain ⟨i2, hi2, hz02, hz12, hz22⟩ := info_parts infoIntSS_
  have hmk : ∀ W : World, (Instr.makeSlice 24 (.int .i64 0) (.int .i64 3)).run Tryz.prog W = .ok (.slice (some ⟨W.heap.size, 0, none⟩) 0 3) (W.alloc (.cells (madeCells (Value.cells (.slice none 0 0)) (3 * 1)) 23)) := fun W => by
    have h := run_make_rowN (P := Tryz.prog) 24 23 i1 (.slice none 0 0) Tryz.underlying24 hi1 hz01 .i64 .i64 0 3 (Nat.zero_le _) (by rw [hz21]; omega) (by omega) W
    rw [hz11] at h
    exact h
  have hqn : ∀ (w : World) (a : Option Addr) (n c n' c' : Nat), (binOp .eql 24 (.slice a n c) (.slice none n' c')).run Tryz.prog w = .ok (.bool a.isNone) w := fun w a n c n' c' => Lib.run_eql_slice_nil w _ _ a n c n' c' Tryz.underlying24
  have HFi := hide (implFirstOrders xs A c w hm hA)
  clear hA
  cases hv : histV xs with
  | false =>
    rw [hv] at HFi
    have HE := hide (show allO xs = [] by unfold allO; rw [hv]; rfl)
    go_enter Tryz.func65, Tryz.ntmps65
    go_wp2_with (go_at_call 103; refine HFi.out.mono ?_; rintro e w1 ⟨v1, rfl, h1, -, hb1⟩; obtain rfl := h1 rfl; have HB1 := hide hb1; clear hb1)
    go_ret
    exact ⟨_, rfl, by rw [HE.out]; exact ⟨none, 0, rfl, Nat.le_refl _, by simp [maxLen], Row.nil⟩, HB1.out⟩
  | true =>
  rw [hv] at HFi
  have HV := hide hv
  have HX6 := hide (fun key => instL_le hv key)
  have HMb := hide (fun k hk => manyK_bd hv k hk)
  have HIl := hide (partO_ilen hv)
  clear hm
  go_enter Tryz.func65, Tryz.ntmps65
  go_upto_region 6 with (go_at_call 103; refine HFi.out.mono ?_; rintro e w1 ⟨v1, rfl, -, h1, hb1⟩; obtain ⟨A1, c1, rfl, h11, h12, h13⟩ := (h1 rfl).sl; obtain ⟨p1, rfl⟩ : ∃ p, A1 = some p := (by obtain ⟨b, off, rfl, _⟩ := h13 (by simp [firstL]); exact ⟨_, rfl⟩); have HA1 := hide (h13.mono (w' := w1) (S' := Old w1) (fun b h => h.2) (fun _ _ => rfl)); have HB1 := hide hb1; clear hb1 h13 h1)
  clear HFi
  have HLn := hide (show (firstL xs).length = 3 from rfl)
  have HFa := hide (firstL_at xs)
  have hz1 := HB1.out.size
  have hm3 : (0 : Int) ≤ 3 := by omega
  go_loopw [4, 6, 7, 25] (fun m _ _ i wr => ∃ k : Nat, k ≤ 3 ∧ i = .int .i64 k ∧ m = .int .i64 (manyK xs k : Nat) ∧ w1 = wr) (fun _ _ _ i _ => 3 - (intOf i).toNat)
  case atStart => exact ⟨0, by omega, rfl, rfl, rfl⟩
  case round =>
    obtain ⟨k, hk, rfl, rfl, rfl⟩ := hrel
    by_cases hlt : k < 3
    · have hki : (k : Int) < 3 := by omega
      have hlt3 : k < (firstL xs).length := hlt
      obtain ⟨b, off, A2, c2, hp1, hbS, d0, hs1, hs2, hs3⟩ := at_IntS HA1.out (Below.refl _ w1) hlt3
      obtain rfl : p1 = ⟨b, off, none⟩ := by injection hp1
      rw [HFa.out k hlt3] at d0
      have HL6 := hide (HX6.out (k : Int))
      have hM := HMb.out k hk
      have HMs := hide (show manyK xs (k + 1) = manyK xs k * fct (instL xs (k : Int)).length from rfl)
      clear hs1 hs2 hs3 hlt3
      generalize manyK xs k = m at hM HMs
      generalize (instL xs (k : Int)).length = n at d0 HL6 HMs
      have hn6 : n ≤ 6 := HL6.out
      have hnq : n ≤ 9223372036854775807 := by omega
      go_wp2_with fail
      clear d0
      go_loopw [4, 7, 31] (fun m2 _ j wq => ∃ l : Nat, l ≤ n ∧ j = .int .i64 l ∧ m2 = .int .i64 ((m * fct l : Nat) : Int) ∧ w1 = wq) (fun _ _ j _ => n - (intOf j).toNat)
      case atStart => exact ⟨0, Nat.zero_le _, rfl, by rw [fct, Nat.mul_one], rfl⟩
      case round =>
        obtain ⟨l, hl, rfl, rfl, rfl⟩ := hrel
        by_cases hlt2 : l < n
        · have hli : (l : Int) < (n : Int) := by omega
          have hf := fct_le6 (n := l) (by omega)
          have hmf : m * fct l ≤ 373248000 * 720 := Nat.mul_le_mul hM hf
          have HFs := hide (show m * fct (l + 1) = m * fct l * (l + 1) by rw [fct, Nat.mul_comm (l + 1), Nat.mul_assoc])
          generalize m * fct l = q at hmf HFs
          have hw1 : IntKind.i64.wrap ((l : Int) + 1) = (l : Int) + 1 := by rw [IntKind.wrap_i64]; omega
          have hw2 : IntKind.i64.wrap ((q : Int) * ((l : Int) + 1)) = (q : Int) * ((l : Int) + 1) := by
            have h1 : q * (l + 1) ≤ 373248000 * 720 * 7 := Nat.mul_le_mul hmf (by omega)
            have h2 : ((q * (l + 1) : Nat) : Int) = (q : Int) * ((l : Int) + 1) := by push_cast; rfl
            rw [← h2, IntKind.wrap_i64]; omega
          clear hf
          go_wp2_with fail
          go_roundw
          case rel => exact ⟨l + 1, by omega, by go_num, by rw [HFs.out]; push_cast; rfl, trivial⟩
          case measure => simp [intOf]; omega
        · obtain rfl : l = n := by omega
          go_wp2_with fail
          go_roundw
          case rel => exact ⟨k + 1, by omega, by go_num, by rw [HMs.out], trivial⟩
          case measure => simp [intOf]; omega
    · obtain rfl : k = 3 := by omega
      have HAl := hide (show allO xs = if decide (manyK xs 3 ≤ 200) then partO xs 3 else [] by unfold allO; rw [HV.out]; rfl)
      have hM := HMb.out 3 hk
      clear hlt hk
      by_cases h200 : (200 : Int) < ((manyK xs 3 : Nat) : Int)
      · have HE := hide (show allO xs = [] by rw [HAl.out]; rw [if_neg]; rw [decide_eq_true_eq]; omega)
        generalize manyK xs 3 = m at h200 hM
        go_wp2_with fail
        go_ret
        exact ⟨_, rfl, by rw [HE.out]; exact ⟨none, 0, rfl, Nat.le_refl _, by simp [maxLen], Row.nil⟩, HB1.out⟩
      have HE := hide (show allO xs = partO xs 3 by rw [HAl.out]; rw [if_pos]; rw [decide_eq_true_eq]; omega)
      have h200' : ¬ (200 : Int) < ((manyK xs 3 : Nat) : Int) := h200
      have HMl := hide (show ∀ k, k ≤ 3 → (partO xs k).length ≤ 200 from fun k hk => by
        rw [partO_len]
        have h0 : manyK xs 0 ≤ manyK xs 1 := manyK_mono xs 0
        have h1 : manyK xs 1 ≤ manyK xs 2 := manyK_mono xs 1
        have h2 : manyK xs 2 ≤ manyK xs 3 := manyK_mono xs 2
        rcases (by omega : k = 0 ∨ k = 1 ∨ k = 2 ∨ k = 3) with rfl | rfl | rfl | rfl <;> omega)
      clear h200 HAl
      generalize manyK xs 3 = m at h200' hM
      have HO0 := hide (Own.one (T := tSlice (tSlice tInt)) (e := 24) (w1.alloc (.cells #[] 23)) (K := fun b => w1.heap.size ≤ b ∧ Old ((w1.alloc (.cells #[] 23)).alloc (.cells #[.slice (some ⟨w1.heap.size, 0, none⟩) 0 0] 24)) b) [.slice (some ⟨w1.heap.size, 0, none⟩) 0 0] ⟨_, rfl, (Own.empty (T := tSlice tInt) (e := 23) w1 (fun b => w1.heap.size ≤ b) (Nat.le_refl _)).sl⟩ (fun b h => ⟨⟨h.1, Nat.lt_of_lt_of_le h.2 (by simp)⟩, h.2⟩) ⟨by simp, by simp [Old]⟩)
      have HB0 := hide (((Below.refl _ w1).alloc (Nat.le_refl _) (.cells #[] 23)).alloc (by simp) (.cells #[.slice (some ⟨w1.heap.size, 0, none⟩) 0 0] 24))
      go_upto_region 18 with fail
      clear h200' hM
      have HZ := hide hz1
      clear hz1
      go_loopw [8, 10, 11, 13, 15, 16, 18, 46] (fun out _ _ _ _ _ _ i wc => ∃ k : Nat, k ≤ 3 ∧ i = .int .i64 k ∧ Hid (Own (tSlice (tSlice tInt)) 24 wc (fun b => w1.heap.size ≤ b ∧ Old wc b) (partO xs k) out) ∧ Hid (Below w1.heap.size w1 wc)) (fun _ _ _ _ _ _ _ i _ => 3 - (intOf i).toNat)
      case atStart => exact ⟨0, by omega, rfl, by have h := HO0.out; rw [show (w1.alloc (Obj.cells #[] 23)).heap.size = w1.heap.size + 1 by simp] at h; exact h, HB0.out⟩
      case round =>
        obtain ⟨k, hk, rfl, hO, hb⟩ := hrel
        have HO := hide hO.out; have HB := hide hb.out
        clear hO hb HO0 HB0
        obtain ⟨Ao, co, rfl, ho1, ho2, ho3⟩ := HO.out.sl
        have HRo := hide (ho3.mono (w' := wr) (S' := Old wr) (fun b h => h.2) (fun _ _ => rfl))
        have hom := HMl.out k hk
        have hoq : (partO xs k).length ≤ 9223372036854775807 := by omega
        have HPl := hide (partO_mlen xs k)
        have HPi := hide (HIl.out k)
        have HSt := hide (fun i hi => stepO_succ (partO xs k) (instL xs (k : Int)) i hi)
        have HPn := hide (show stepO (partO xs k) (instL xs (k : Int)) = partO xs (k + 1) from rfl)
        have HQ := hide HB.out.size
        clear ho3
        by_cases hlt : k < 3
        · have hlt3 : k < (firstL xs).length := hlt
          have hki : (k : Int) < ((firstL xs).length : Int) := Int.ofNat_lt.2 hlt3
          obtain ⟨b, off, A2, c2, hp1, hbS, d0, hs1, hs2, hs3⟩ := at_IntS HA1.out HB.out hlt3
          obtain rfl : p1 = ⟨b, off, none⟩ := by injection hp1
          rw [HFa.out k hlt3] at d0 hs1 hs3
          have HA2 := hide hs3
          have hL6 := HX6.out (k : Int)
          clear hlt3 hs3 hp1
          generalize partO xs k = P at HRo hom hoq HPl HPi HSt HPn ho1 HO
          generalize instL xs (k : Int) = L at d0 hs1 HA2 hL6 HSt HPn
          have hLq : L.length ≤ 9223372036854775807 := by omega
          go_upto_region 22 with fail
          clear d0
          have HN0 := hide (Own.empty (T := tSlice (tSlice tInt)) (e := 24) wr (fun b => wr.heap.size ≤ b) (Nat.le_refl _))
          have HNb := hide ((Below.refl _ wr).alloc (Nat.le_refl _) (.cells #[] 24))
          obtain ⟨wx, hwx⟩ : ∃ wx : World, wx = wr := ⟨_, rfl⟩
          subst hwx
          have HSl := hide (fun i => stepO_len (P.take i) L)
          go_loopw [11, 13, 15, 16, 18, 53] (fun nx _ _ _ _ i wq => ∃ i' : Nat, i' ≤ P.length ∧ i = .int .i64 i' ∧ Hid (Own (tSlice (tSlice tInt)) 24 wq (fun b => wx.heap.size ≤ b ∧ Old wq b) (stepO (P.take i') L) nx) ∧ Hid (Below wx.heap.size wx wq)) (fun _ _ _ _ _ i _ => P.length - (intOf i).toNat)
          case atStart => exact ⟨0, Nat.zero_le _, rfl, by rw [List.take_zero, stepO_nil]; exact HN0.out, HNb.out⟩
          case round =>
            obtain ⟨i, hi, rfl, hO, hb⟩ := hrel
            have HNx := hide hO.out; have HBq := hide hb.out
            clear hO hb HN0 HNb
            by_cases hlt2 : i < P.length
            · have hii : (i : Int) < (P.length : Int) := by omega
              obtain ⟨b3, off3, A3, c3, rfl, hb3S, e0, e1, e2, hR3⟩ := at_SliceG HRo.out hlt2
              replace e0 := (HBq.out.cell (p := ⟨b3, off3 + i, none⟩) hb3S).trans e0
              have HR3 := hide hR3
              have h3l := HPl.out _ (List.getElem_mem hlt2)
              have HI3 := hide (HPi.out _ (List.getElem_mem hlt2))
              have HSs := hide (HSt.out i hlt2)
              have HPm := hide (permuted_any L.length L A2 c2 wr rfl (by omega) hs1 hs2 (HA2.out.old HBq.out))
              have HML := hide (permsI_len L.length L rfl)
              have HMm := hide (fun o => permsI_mem_len L.length L o rfl)
              have hfc := fct_le6 hL6
              have hXl : (stepO (P.take i) L).length ≤ 200 * 720 := by
                rw [HSl.out i]
                exact Nat.mul_le_mul (by rw [List.length_take]; omega) hfc
              have hML7 : (permsI L.length L).length ≤ 720 := by rw [HML.out]; exact hfc
              have HX7 := hide hXl
              have HM7 := hide hML7
              have hMq : (permsI L.length L).length ≤ 9223372036854775807 := by omega
              have hbq : P[i].length ≤ 9223372036854775807 := by omega
              have HK3 := hide (show P[i].length ≤ 3 by omega)
              clear hR3 hXl hML7 hfc HML h3l
              generalize P[i] = bg at e0 e1 e2 HR3 HI3 HSs hbq HK3
              generalize permsI L.length L = M at HPm HSs HMm HM7 hMq
              generalize stepO (P.take i) L = X at HNx HSs HX7
              go_upto_region 25 with (go_at_call 104; refine HPm.out.mono ?_; rintro e w5 ⟨v5, rfl, hO5, hb5⟩; obtain ⟨A5, c5, rfl, h51, h52, h53⟩ := hO5.sl; have HR5 := hide h53; have HB5 := hide hb5; clear h53 hb5 hO5)
              clear e0
              obtain ⟨wq, hwq⟩ : ∃ wq : World, wq = wr := ⟨_, rfl⟩
              subst hwq
              have HZq := hide HBq.out.size
              have HZ5 := hide HB5.out.size
              have HN5 := hide (hOu_keepP HNx.out (K := fun b => wx.heap.size ≤ b) HB5.out (fun b h => h.1))
              have HNl := hide (own_lt (B := wq.heap.size) HNx.out (fun b h => h.2))
              clear HNx HPm
              go_loopw [11, 15, 16, 18, 60] (fun nx _ _ _ j we => ∃ (l : Nat) (vn : Value), vn = nx ∧ l ≤ M.length ∧ j = .int .i64 l ∧ Hid (Own (tSlice (tSlice tInt)) 24 we (fun b => wx.heap.size ≤ b ∧ Old we b) (X ++ (M.take l).map fun o => bg ++ [o]) nx) ∧ Hid (∀ b, nx.ownBlock = some b → b < wq.heap.size ∨ w5.heap.size ≤ b) ∧ Hid (Only (fun b => wx.heap.size ≤ b ∧ ¬ (wq.heap.size ≤ b ∧ b < w5.heap.size)) w5 we)) (fun _ _ _ _ j _ => M.length - (intOf j).toNat)
              case atStart => exact ⟨0, _, rfl, Nat.zero_le _, rfl, by rw [List.take_zero, List.map_nil, List.append_nil]; exact HN5.out, fun b hb => .inl (HNl.out b hb), Only.refl _ _⟩
              case round =>
                obtain ⟨l, vn, rfl, hl, rfl, hO, hN, hOn⟩ := hrel
                have HNx := hide hO.out; have HNo := hide hN.out; have HOn := hide hOn.out
                clear hO hN hOn HN5 HNl
                by_cases hlt4 : l < M.length
                · have hli : (l : Int) < (M.length : Int) := by omega
                  obtain ⟨b6, off6, A6, c6, hA5e, hb6, f0, f1, f2, hR6⟩ := at_SliceG (HR5.out.mono (w' := wr) (S' := New wq w5) (fun _ h => h) (fun b h => HOn.out.block b h.2 (fun h9 => h9.2 h))) hlt4
                  subst hA5e
                  have HR6 := hide hR6
                  have hm6 := HMm.out _ (List.getElem_mem hlt4)
                  have HLt := hide (show ∀ p : List (List Int), p = bg ++ [M[l]] → (X ++ (M.take l).map fun o => bg ++ [o]) ++ [p] = X ++ (M.take (l + 1)).map fun o => bg ++ [o] from by
                    intro p hp
                    rw [List.take_succ_eq_append_getElem hlt4, List.map_append, ← List.append_assoc, hp]
                    rfl)
                  have HLn := hide (show (X ++ (M.take l).map fun o => bg ++ [o]).length + 1 ≤ 200 * 720 + 721 by
                    have h1 := HX7.out; have h2 := HM7.out; rw [List.length_append, List.length_map, List.length_take]; omega)
                  have hm6q : M[l].length ≤ 9223372036854775807 := by omega
                  have HM6 := hide (show M[l].length ≤ 6 by omega)
                  have HB6 := hide (show Below wx.heap.size wx wr from below_only (HBq.out.trans (HB5.out.mono HZq.out)) HOn.out (Nat.le_trans HZq.out HZ5.out) (fun i hi => hi.1))
                  have HZw := hide HOn.out.size
                  have HZx := hide HB6.out.size
                  generalize X ++ (M.take l).map (fun o => bg ++ [o]) = Y at HNx HLt HLn
                  generalize M[l] = m9 at f0 f1 f2 HR6 HLt hm6q hm6 HM6
                  have HOr0 := hide (Own.made (T := tSlice tInt) (e := 23) wr (S := fun b => wr.heap.size ≤ b ∧ Old (wr.alloc (.cells (madeCells (Value.cells (.slice none 0 0)) (3 * 1)) 23)) b) (madeCells (Value.cells (.slice none 0 0)) (3 * 1)) 3 (by rw [size_madeCells]; rfl) (by simp [maxLen]) ⟨Nat.le_refl _, by simp [Old]⟩)
                  have HBr0 := hide ((Below.refl _ wr).alloc (Nat.le_refl _) (.cells (madeCells (Value.cells (.slice none 0 0)) (3 * 1)) 23))
                  clear hR6 hb6 hm6
                  go_upto_region 29 with fail
                  clear f0
                  obtain ⟨we, hwe⟩ : ∃ we : World, we = wr := ⟨_, rfl⟩
                  subst hwe
                  go_loopw [16, 18, 67] (fun od _ x wf => ∃ (y : Nat) (vo : Value), vo = od ∧ y ≤ bg.length ∧ x = .int .i64 y ∧ Hid (Own (tSlice tInt) 23 wf (fun b => we.heap.size ≤ b ∧ Old wf b) (bg.take y) od) ∧ Hid (Below we.heap.size we wf)) (fun _ _ x _ => bg.length - (intOf x).toNat)
                  case atStart => exact ⟨0, _, rfl, Nat.zero_le _, rfl, HOr0.out, HBr0.out⟩
                  case round =>
                    obtain ⟨y, vo, rfl, hy, rfl, hO, hb⟩ := hrel
                    have HOr := hide hO.out; have HBf := hide hb.out
                    clear hO hb HOr0 HBr0
                    have HQ := hide HBf.out.size
                    by_cases hlt5 : y < bg.length
                    · have hyi : (y : Int) < (bg.length : Int) := by omega
                      have HBx := hide (HB6.out.trans (HBf.out.mono HZx.out))
                      obtain ⟨b7, off7, A7, c7, rfl, hb7, g0, g1, g2, hR7⟩ := at_SliceG HR3.out hlt5
                      replace g0 := (HBx.out.cell (p := ⟨b7, off7 + y, none⟩) hb7).trans g0
                      have h7l := HI3.out _ (List.getElem_mem hlt5)
                      have HTk := hide (show bg.take y ++ [bg[y]] = bg.take (y + 1) from (List.take_succ_eq_append_getElem hlt5).symm)
                      have HTl := hide (show (bg.take y).length ≤ 3 by have := HK3.out; rw [List.length_take]; omega)
                      have HCl := hide (clone_Int bg[y] A7 c7 wr (by omega) (hR7.old HBx.out))
                      clear hR7
                      generalize bg.take y = F at HOr HTk HTl
                      generalize bg[y] = G at g0 g1 g2 h7l HTk HCl
                      go_wp2_with (first | (go_at_call 79; refine HCl.out.mono ?_; rintro e w4 ⟨v4, rfl, hO4, hb4⟩; obtain ⟨A4, c4, rfl, h41, h42, _⟩ := hO4.sl; have HO4 := hide hO4; have HB4 := hide hb4; clear hO4 hb4) | (at_builtin; refine wpList_put (tSlice tInt) rfl (.tmp 71) (.tmp 74) 24 rfl 23 i1 _ 24 Tryz.underlying24 hi1 hz01 hz11 hz21 rfl (by decide) (fun b => we.heap.size ≤ b) (fun b => wr.heap.size ≤ b ∧ Old w4 b) F G [.slice A4 G.length c4] _ rfl (HOr.out.onlyBelow HB4.out) 1 rfl ⟨_, rfl, HO4.out.sl⟩ (fun b h => ⟨Nat.le_trans HQ.out h.1, h.2, fun e => by have := own_lt (B := wr.heap.size) HOr.out (fun b h => h.2) b e; have := h.1; omega⟩) (fun b hb => by have := HB4.out.size; have := HQ.out; omega) (by have := HTl.out; simp only [maxLen]; omega) (by have := HTl.out; omega) ?_; intro v9 w9 hO_ hK_; have HO9 := hide hO_; have HK9 := hide hK_; clear hO_ hK_))
                      rw [HTk.out] at HO9
                      have HB9 := hide (below_only (HBf.out.trans (HB4.out.mono HQ.out)) HK9.out (Nat.le_trans HQ.out HB4.out.size) (fun i hi => hi))
                      go_roundw
                      case rel => exact ⟨y + 1, _, rfl, by omega, by go_num, HO9.out, HB9.out⟩
                      case measure => simp [intOf]; omega
                    · obtain rfl : y = bg.length := by omega
                      rw [List.take_length] at HOr
                      have HCp := hide (clip_Int m9.length A6 c6 wr f1 f2)
                      have HSy := hide (fun b (h : New wq w5 b) => show (we.heap.size ≤ b ∨ (wq.heap.size ≤ b ∧ b < w5.heap.size)) ∧ Old wr b ∧ vo.ownBlock ≠ some b from ⟨.inr h, Nat.lt_of_lt_of_le h.2 (Nat.le_trans HZw.out HQ.out), fun e => by have h1 := HOr.out.owned b e; have h2 := h.2; have h3 := HZw.out; have h4 := h1.1; unfold Old at h2; omega⟩)
                      have HRm := hide (HR6.out.mono (w' := wr) (S' := New wq w5) (fun _ h => h) (fun b h => HBf.out.block b (Nat.lt_of_lt_of_le h.2 HZw.out)))
                      have HOw := hide (fun b e => (HOr.out.owned b e).1)
                      have HNl := hide (own_lt (B := we.heap.size) HNx.out (fun b h => h.2))
                      have HNw := hide (fun b e => (HNx.out.owned b e).1)
                      go_wp2_with (first | (go_at_call 80; refine HCp.out.mono ?_; rintro e w7 ⟨rfl, rfl⟩) | (at_builtin; refine wpList_putN (tSlice tInt) rfl (.tmp 78) (.tmp 81) 24 rfl 23 i1 _ 24 Tryz.underlying24 hi1 hz01 hz11 hz21 rfl (by decide) (fun b => we.heap.size ≤ b ∨ (wq.heap.size ≤ b ∧ b < w5.heap.size)) (New wq w5) bg m9 [.slice A6 m9.length m9.length] vo rfl (HOr.out.mono (fun b h => ⟨.inl h.1, h.2⟩) (fun _ _ => rfl)) 1 rfl ⟨_, rfl, A6, m9.length, rfl, Nat.le_refl _, Nat.le_trans f1 f2, HRm.out⟩ HSy.out (fun b hb => .inl (Nat.le_trans HQ.out hb)) (by have := HK3.out; simp only [maxLen]; omega) (by have := HK3.out; omega) ?_; intro v9 w9 hO_ hK_ hN_; obtain ⟨A9, c9, rfl, h91, h92, _⟩ := hO_.sl; have HO9 := hide hO_; have HK9 := hide hK_; clear hO_ hK_ hN_; have hs9 := HK9.out.size; have HS9 := hide (show Sl (tSlice tInt) w9 (fun b => (we.heap.size ≤ b ∨ (wq.heap.size ≤ b ∧ b < w5.heap.size)) ∧ Old w9 b) (bg ++ [m9]) (.slice A9 (bg.length + 1) c9) from by have h := HO9.out.sl; rw [List.length_append] at h; exact h); have HSz := hide (show Own (tSlice (tSlice tInt)) 24 w9 (fun b => wx.heap.size ≤ b ∧ Old w9 b) Y vn from HNx.out.mono (fun b h => ⟨h.1, Nat.lt_of_lt_of_le h.2 (Nat.le_trans HQ.out hs9)⟩) (fun b h => (HK9.out.block b (Nat.lt_of_lt_of_le h.2 HQ.out) (fun e => by have h1 := HOw.out b e; have h2 := h.2; unfold Old at h2; omega)).trans (HBf.out.block b h.2))); have HSx := hide (fun b (h : (we.heap.size ≤ b ∨ (wq.heap.size ≤ b ∧ b < w5.heap.size)) ∧ Old w9 b) => show wx.heap.size ≤ b ∧ Old w9 b ∧ vn.ownBlock ≠ some b from ⟨by have h1 := h.1; have h2 := HZx.out; have h3 := HZq.out; omega, h.2, fun e => by have h1 := HNo.out b e; have h2 := HNl.out b e; have h3 := h.1; omega⟩); have HZ9 := hide (Nat.le_trans HZx.out (Nat.le_trans HQ.out hs9)); clear hs9) | (at_builtin; (refine wpList_putN (tSlice (tSlice tInt)) rfl (.tmp 77) (.tmp 83) 48 rfl 24 i2 _ 24 Tryz.underlying48 hi2 hz02 hz12 hz22 rfl (by decide) (fun b => wx.heap.size ≤ b) (fun b => (we.heap.size ≤ b ∨ (wq.heap.size ≤ b ∧ b < w5.heap.size)) ∧ Old w9 b) Y (bg ++ [m9]) [.slice A9 (bg.length + 1) c9] vn rfl HSz.out 1 rfl ⟨_, rfl, HS9.out⟩ HSx.out (fun b hb => Nat.le_trans HZ9.out hb) (by have := HLn.out; simp only [maxLen]; omega) (by have := HLn.out; omega) ?_); intro v10 w10 hO_ hK_ hN_; have HO10 := hide hO_; have HK10 := hide hK_; have HN10 := hide hN_; clear hO_ hK_ hN_))
                      have HL10 := HO10.out
                      rw [HLt.out _ rfl] at HL10
                      have HL10 := hide HL10
                      go_roundw
                      case rel => exact ⟨l + 1, _, rfl, by omega, by go_num, HL10.out, fun b e => by
                        rcases HN10.out b e with h | h
                        · exact HNo.out b h
                        · have h1 := HZ9.out; have h2 := HK9.out.size; have h3 := HQ.out; have h4 := HZw.out; exact .inr (by omega), ((HOn.out.trans (Only.of_below HBf.out)).trans (HK9.out.mono (fun b e => by have h1 := HOw.out b e; have h2 := HZx.out; have h3 := HZw.out; exact ⟨by omega, fun h => by omega⟩))).trans (HK10.out.mono (fun b e => ⟨HNw.out b e, fun h => by have := HNo.out b e; omega⟩))⟩
                      case measure => simp [intOf]; omega
                · obtain rfl : l = M.length := by omega
                  have HO8 := HNx.out
                  rw [List.take_length, ← HSs.out] at HO8
                  have HO8 := hide HO8
                  have HB6 := hide (show Below wx.heap.size wx wr from below_only (HBq.out.trans (HB5.out.mono HZq.out)) HOn.out (Nat.le_trans HZq.out HZ5.out) (fun i hi => hi.1))
                  clear HNx
                  go_wp2_with fail
                  go_roundw
                  case rel => exact ⟨i + 1, by omega, by go_num, HO8.out, HB6.out⟩
                  case measure => simp [intOf]; omega
            · obtain rfl : i = P.length := by omega
              have HO8 := HNx.out
              rw [List.take_length, HPn.out] at HO8
              have HO8 := hide (show Own (tSlice (tSlice tInt)) 24 wr (fun b => w1.heap.size ≤ b ∧ Old wr b) (partO xs (k + 1)) _ from HO8.mono (fun b h => ⟨Nat.le_trans HQ.out h.1, h.2⟩) (fun _ _ => rfl))
              have HB8 := hide (HB.out.trans (HBq.out.mono HQ.out))
              clear HNx
              go_wp2_with fail
              go_roundw
              case rel => exact ⟨k + 1, by omega, by go_num, HO8.out, HB8.out⟩
              case measure => simp [intOf]; omega
        · obtain rfl : k = 3 := by omega
          have HF := hide (clip_IntSSS (partO xs 3).length Ao co wr ho1 ho2)
          go_wp2_with (go_at_call 105; refine HF.out.mono ?_; rintro e w7 ⟨rfl, rfl⟩)
          go_ret
          have hX := HO.out.sl
          exact ⟨_, rfl, by rw [HE.out]; exact ⟨Ao, (partO xs 3).length, rfl, Nat.le_refl _, Nat.le_trans hom (by decide), (hX.row.mono (fun b h => ⟨Nat.le_trans HZ.out h.1, h.2⟩) (fun _ _ => rfl))⟩, HB1.out.trans (HB.out.mono HZ.out)⟩
end Go.Proofs.YtjiobgfaohldhaaGreat
namespace Go.Proofs.YtjiobgfaohldhaaGreat
open Go.RowKit
set_option linter.unusedVariables false
set_option linter.unusedSimpArgs false

/-- Operation i0 makes a row that reads as xs; all others yield known values. -/
def FRow {α : Type} (T : Ty α) (xs : List α) (i0 : Nat) (V : Nat → Value) (i : Nat) (v : Value) (w : World) : Prop :=
  if i = i0 then ∃ A c, v = .slice A xs.length c ∧ Row T w (Old w) A xs else v = V i
section
variable {α : Type} {T : Ty α} {xs : List α} {i0 : Nat} {V : Nat → Value} {i : Nat} {v : Value} {w : World}
theorem FRow.get (h : FRow T xs i0 V i v w) (hi : i ≠ i0) : v = V i := by unfold FRow at h; rwa [if_neg hi] at h
theorem FRow.val (hi : i ≠ i0) (h : v = V i) : FRow T xs i0 V i v w := by unfold FRow; rwa [if_neg hi]
theorem FRow.row (h : FRow T xs i0 V i0 v w) : ∃ A c, v = .slice A xs.length c ∧ Row T w (Old w) A xs := by unfold FRow at h; rwa [if_pos rfl] at h
theorem FRow.mk {A : Option Addr} {c : Nat} (h : Row T w (Old w) A xs) : FRow T xs i0 V i0 (.slice A xs.length c) w := by unfold FRow; rw [if_pos rfl]; exact ⟨A, c, rfl, h⟩
theorem FRow.ev {wb : World} (h : FRow T xs i0 V i v w) (hb : Below w.heap.size w wb) : FRow T xs i0 V i v wb := by
  unfold FRow at *
  split
  · rename_i h1
    rw [if_pos h1] at h
    obtain ⟨A, c, h2, h3⟩ := h
    exact ⟨A, c, h2, h3.old hb⟩
  · rename_i h1
    rwa [if_neg h1] at h
end
set_option maxRecDepth 10000 in
set_option maxHeartbeats 1000000 in
theorem implOrdersIn (xs : List Txn) (A : Option Addr) (c : Nat) (w : World) (hm : xs.length ≤ maxLen) (hA : Row tTxn w (Old w) A xs) :
    Calls Tryz.prog 29 #[.slice A xs.length c] w fun e w' => ∃ v, e = .returned (.tuple #[v, .bool (decide (0 < (allO xs).length))]) ∧ Sl (tSlice (tSlice tInt)) w' (New w w') (allO xs) v ∧ Below w.heap.size w w' := by
  have HAo := hide (implAllOrders xs A c w hm hA)
  have hl2 := allO_len xs
  have hqa : (allO xs).length ≤ 9223372036854775807 := by omega
  clear hA
  go_enter Tryz.func29, Tryz.ntmps29
  go_wp2_with (go_at_call 65; refine HAo.out.mono ?_; rintro e w1 ⟨v1, rfl, hS1, hb1⟩; have HS1 := hide hS1; obtain ⟨A1, c1, rfl, h11, h12, _⟩ := hS1; have HB1 := hide hb1; clear hb1)
  go_ret2
  exact ⟨_, by first | rfl | simp, HS1.out, HB1.out⟩
end Go.Proofs.YtjiobgfaohldhaaGreat
