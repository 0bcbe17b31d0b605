/- The reference's l3Words. The conversions of the laws package make new memory that reads as their argument: transactions. The reference's copies of transactions. The reference's copies of histories: l1OwnTxnList. -/
import Derived.Test.YtjnghnkilnhacaaGreatDoorQTxtJ
import Derived.Test.YtjnghnkilnhacaaGreatDoorQVals
import Derived.Test.YtjnghnkilnhacaaGreatDoorQHBox
import Derived.Test.YtjnghnkilnhacaaGreatDoorProg
import Derived.Test.YtjnghnkilnhacaaGreatDoorQElems
import Derived.Test.YtjnghnkilnhacaaGreatDoorQTabT
import Derived.Test.YtjnghnkilnhacaaGreatDoorQHistS
import Derived.Laws.BytesArg
namespace Go.Proofs.YtjnghnkilnhacaaGreatDoor
open Go.RowKit
set_option linter.unusedVariables false
set_option linter.unusedSimpArgs false

/-- The last word grows by a byte. -/
def addLast (x : UInt8) : List Bs → List Bs
  | [] => [[x]]
  | [w] => [w ++ [x]]
  | w :: v :: ws => w :: addLast x (v :: ws)
theorem addLast_cons (x : UInt8) (w : Bs) {ws : List Bs} (h : ws ≠ []) : addLast x (w :: ws) = w :: addLast x ws := by
  cases ws with
  | nil => exact absurd rfl h
  | cons v ws => rfl
theorem addLast_set (x : UInt8) : ∀ (ws : List Bs), ws ≠ [] → addLast x ws = ws.set (ws.length - 1) (ws.getD (ws.length - 1) [] ++ [x])
  | [], h => absurd rfl h
  | [w], _ => rfl
  | w :: v :: ws, _ => by
    rw [addLast, addLast_set x (v :: ws) (by simp)]
    simp
theorem putHead_add (x y : UInt8) {ws : List Bs} (h : ws ≠ []) : putHead y (addLast x ws) = addLast x (putHead y ws) := by
  match ws, h with
  | [w], _ => rfl
  | w :: v :: ws, _ => rfl
theorem wordsL_snoc {x : UInt8} (hx : x ≠ 32) : ∀ l : Bs, wordsL (l ++ [x]) = addLast x (wordsL l)
  | [] => by
    show wordsL [x] = [[x]]
    simp [wordsL, hx, putHead]
  | y :: l => by
    rw [List.cons_append, wordsL, wordsL_snoc hx l]
    conv => rhs; rw [wordsL]
    split
    · rw [addLast_cons _ _ (wordsL_ne l)]
    · rw [putHead_add _ _ (wordsL_ne l)]
theorem putHead_app (y : UInt8) {ws : List Bs} (h : ws ≠ []) (v : Bs) : putHead y (ws ++ [v]) = putHead y ws ++ [v] := by
  match ws, h with
  | w :: ws, _ => rfl
theorem wordsL_snoc_sp : ∀ l : Bs, wordsL (l ++ [32]) = wordsL l ++ [[]]
  | [] => by
    show wordsL [32] = [[], []]
    simp [wordsL]
  | y :: l => by
    rw [List.cons_append, wordsL, wordsL_snoc_sp l]
    conv => rhs; rw [wordsL]
    split
    · rfl
    · rw [putHead_app _ (wordsL_ne l)]
theorem wordsL_len : ∀ l : Bs, (wordsL l).length ≤ l.length + 1
  | [] => by simp [wordsL]
  | y :: l => by
    have ih := wordsL_len l
    unfold wordsL
    split
    · simp only [List.length_cons]; omega
    · cases h : wordsL l with
      | nil => exact absurd h (wordsL_ne l)
      | cons w ws => rw [h] at ih; simp only [putHead, List.length_cons] at ih ⊢; omega
theorem wordsL_le : ∀ l : Bs, ∀ v ∈ wordsL l, v.length ≤ l.length
  | [], v, hv => by obtain rfl : v = [] := by simpa [wordsL] using hv
                    simp
  | y :: l, v, hv => by
    have ih := wordsL_le l
    unfold wordsL at hv
    split at hv
    · rcases List.mem_cons.1 hv with rfl | hv
      · simp
      · have := ih v hv; simp only [List.length_cons]; omega
    · cases h : wordsL l with
      | nil => exact absurd h (wordsL_ne l)
      | cons w ws =>
        rw [h] at hv ih
        simp only [putHead] at hv
        rcases List.mem_cons.1 hv with rfl | hv
        · have := ih w List.mem_cons_self; simp only [List.length_cons]; omega
        · have := ih v (List.mem_cons_of_mem _ hv); simp only [List.length_cons]; omega
theorem Own.cellStr {e : TypeId} {w : World} {S : Nat → Prop} {xs : List ByteArray} {g c n : Nat} (h : Own tStr e w S xs (.slice (some ⟨g, 0, none⟩) n c)) {k : Nat} (hk : k < xs.length) : w.cell? ⟨g, k, none⟩ = some (.string xs[k]) ∧ w.frozen? ⟨g, k, none⟩ = false := by
  obtain ⟨cs, hr, hc, hf⟩ := h.el hk
  have h1 : cs = [.string xs[k]] := hr
  subst h1
  have := hc 0 _ rfl
  rw [show k * tStr.size + 0 = k from Nat.mul_one k] at this
  exact ⟨this, hf k⟩
theorem Own.setStr {e : TypeId} {w : World} {K : Nat → Prop} {xs : List ByteArray} {g c n : Nat} (h : Own tStr e w (fun b => K b ∧ Old w b) xs (.slice (some ⟨g, 0, none⟩) n c)) {k : Nat} (hk : k < xs.length) (y : ByteArray) : Own tStr e (w.setCell ⟨g, k, none⟩ (.string y)) (fun b => K b ∧ Old (w.setCell ⟨g, k, none⟩ (.string y)) b) (xs.set k y) (.slice (some ⟨g, 0, none⟩) n c) := by
  have := h.setEl hk (x := y) (cs := [.string y]) rfl
  rw [show k * tStr.size = k from Nat.mul_one k] at this
  exact this.mono (fun b hb => ⟨hb.1, by have := hb.2; unfold Old at this ⊢; simpa [World.setCell] using this⟩) (fun _ _ => rfl)
theorem addLast_data {xs : List ByteArray} {ws : List Bs} {i : Nat} {s : ByteArray} (hne : ws ≠ []) (hx : xs.map (·.data.toList) = ws) (hn : xs.length - 1 < xs.length) (hi : i < s.size) :
    (xs.set (xs.length - 1) (xs[xs.length - 1] ++ s.extract i (i + 1))).map (·.data.toList) = addLast s[i] ws := by
  rw [addLast_set _ _ hne, ← hx, List.map_set, List.length_map]
  congr 1
  rw [data_app, Lib.extract_data]
  congr 1
  · rw [List.getD_eq_getElem?_getD, List.getElem?_map, List.getElem?_eq_getElem hn]; rfl
  · rw [show i + 1 - i = 1 by omega]
    have hl : i < s.data.toList.length := by rw [Array.length_toList]; exact hi
    rw [List.drop_eq_getElem_cons hl]
    rfl
set_option maxRecDepth 10000 in
set_option maxHeartbeats 4000000 in
theorem l3Words_any (s : ByteArray) (w : World) (hs : s.size ≤ 4294967295) : Calls Tryz.prog 59 #[.string s] w fun e w' => ∃ xs v, e = .returned v ∧ xs.map (·.data.toList) = wordsL s.data.toList ∧ Own tStr 9 w' (fun b => w.heap.size ≤ b ∧ Old w' b) xs v ∧ Below w.heap.size w w' := by
  obtain ⟨i0, hi, hz0, hz1, hz2⟩ := info_parts infoStr_
  have HSz := hide (show s.size = s.data.toList.length by rw [Array.length_toList]; rfl)
  have HO0 := hide (Own.one (T := tStr) (e := 9) w (S := fun _ => False) (K := fun b => w.heap.size ≤ b ∧ Old (w.alloc (.cells #[.string ⟨#[]⟩] 9)) b) (x := ⟨#[]⟩) [.string ⟨#[]⟩] rfl (fun _ h => h.elim) ⟨Nat.le_refl _, by simp [Old]⟩)
  have HB0 := hide ((Below.refl _ w).alloc (Nat.le_refl _) (.cells #[.string ⟨#[]⟩] 9))
  go_enter Tryz.func59, Tryz.ntmps59
  go_upto_region 3 with fail
  generalize w.alloc _ = w1 at HO0 HB0 ⊢
  go_loopw [3, 4] (fun v k wr => ∃ (i : Nat) (xs : List ByteArray) (u : Value), v = u ∧ k = .int .i64 i ∧ i ≤ s.size ∧ Hid (xs.map (·.data.toList) = wordsL (s.data.toList.take i)) ∧ Hid (Own tStr 9 wr (fun b => w.heap.size ≤ b ∧ Old wr b) xs u) ∧ Hid (Below w.heap.size w wr)) (fun _ k _ => s.size - (intOf k).toNat)
  case atStart => exact ⟨0, [⟨#[]⟩], _, rfl, rfl, Nat.zero_le _, rfl, HO0.out, HB0.out⟩
  case round =>
    obtain ⟨i, xs, u, rfl, rfl, hile, hL, hO, hb⟩ := hrel
    have HL := hide hL.out; have HO := hide hO.out; have HWr := hide hb.out
    clear hL hO hb HO0 HB0
    have HXl := hide (show 0 < xs.length ∧ xs.length ≤ i + 1 by
      have h := congrArg List.length HL.out
      rw [List.length_map] at h
      have h1 := wordsL_len (s.data.toList.take i)
      have h2 : 0 < (wordsL (s.data.toList.take i)).length := List.length_pos_iff.2 (wordsL_ne _)
      rw [List.length_take] at h1
      omega)
    by_cases hlt : i < s.size
    · have hki : (i : Int) < (s.size : Int) := by omega
      have hll : i < s.data.toList.length := by rw [← HSz.out]; exact hlt
      have hx : s.data.toList[i] = s[i]'hlt := by rw [Array.getElem_toList]; rfl
      have HT := hide (show s.data.toList.take (i + 1) = s.data.toList.take i ++ [s[i]'hlt] by rw [List.take_succ_eq_append_getElem hll, hx])
      have hwi : wrap64 ((i : Int) + 1) = (i : Int) + 1 := by unfold wrap64; omega
      by_cases hsp : s[i]'hlt = 32
      · have hk0 : (((s[i]'hlt).toNat : Int) == 32) = true := by rw [hsp]; rfl
        have hk1 : ((s[i]'hlt).toNat : Int) = 32 := by rw [hsp]; rfl
        have HS := hide (show (xs ++ [(⟨#[]⟩ : ByteArray)]).map (·.data.toList) = wordsL (s.data.toList.take (i + 1)) by rw [HT.out, hsp, wordsL_snoc_sp, List.map_append, HL.out]; rfl)
        clear hsp hx hll
        go_wp2_with (at_builtin; refine wpList_put tStr rfl (.tmp 16) (.tmp 17) 38 rfl 9 i0 _ 16 Tryz.underlying38 hi hz0 hz1 hz2 rfl (by decide) (fun b => w.heap.size ≤ b) (fun _ => False) xs ⟨#[]⟩ [.string ⟨#[]⟩] _ rfl HO.out _ rfl rfl (fun _ h => h.elim) (fun b hb => Nat.le_trans HWr.out.size hb) (by have := HXl.out; simp only [maxLen]; omega) (by have := HXl.out; omega) ?_; intro v6 w6 hO_ hK_; have HO6 := hide hO_; have HW6 := hide (below_only HWr.out hK_ HWr.out.size (fun i hi => hi)); clear hO_ hK_)
        go_roundw
        case rel => exact ⟨i + 1, _, _, rfl, by go_num, by omega, HS.out, HO6.out, HW6.out⟩
        case measure => simp [intOf]; omega
      · have hk1 : ¬ ((s[i]'hlt).toNat : Int) = 32 := by intro e; apply hsp; apply UInt8.toNat_inj.1; show (s[i]'hlt).toNat = 32; omega
        have hk0 : (((s[i]'hlt).toNat : Int) == 32) = false := by rw [beq_eq_false_iff_ne]; exact hk1
        obtain ⟨g, c, rfl, hgK⟩ := HO.out.form HXl.out.1
        have hgl := hgK.1
        have HGl := hide hgl
        have HG := hide hgK.2
        obtain ⟨n, hn⟩ : ∃ n, n = xs.length := ⟨_, rfl⟩
        have hn0 : 0 < n := by rw [hn]; exact HXl.out.1
        have hn9 : n ≤ i + 1 := by rw [hn]; exact HXl.out.2
        have hn1 : n - 1 < xs.length := by omega
        obtain ⟨L, hLd⟩ : ∃ L, L = xs[n - 1]'hn1 := ⟨_, rfl⟩
        have HC := hide (show wr.cell? ⟨g, n - 1, none⟩ = some (.string L) by rw [hLd]; exact (HO.out.cellStr hn1).1)
        have HLs := hide (show L.size ≤ i by
          have h1 : L.data.toList ∈ xs.map (·.data.toList) := List.mem_map.2 ⟨L, by rw [hLd]; exact List.getElem_mem hn1, rfl⟩
          rw [HL.out] at h1
          have h2 := wordsL_le _ _ h1
          rw [List.length_take] at h2
          rw [ba_size rfl]
          omega)
        have HAd := hide (fun W => run_string_add_sum (P := Tryz.prog) W L (s.extract i (i + 1)) (by have := HLs.out; rw [ByteArray.size_extract]; omega))
        have HS := hide (show (xs.set (n - 1) (L ++ s.extract i (i + 1))).map (·.data.toList) = wordsL (s.data.toList.take (i + 1)) by
          subst hn; subst hLd
          rw [HT.out, wordsL_snoc hsp]
          exact addLast_data (wordsL_ne _) HL.out hn1 hlt)
        have HN1 := hide (show IntKind.i64.wrap ((n : Int) - 1) = (n : Int) - 1 by rw [IntKind.wrap_i64]; omega)
        have HN2 := hide (show (0 : Int) ≤ (n : Int) - 1 by omega)
        have HN3 := hide (show (n : Int) - 1 < (n : Int) by omega)
        have HN4 := hide (show ((n : Int) - 1).toNat = n - 1 by omega)
        have HN5 := hide (show (1 : Int) ≤ (n : Int) by omega)
        have HI1 := hide (show IntKind.i64.wrap ((i : Int) + 1) = (i : Int) + 1 by rw [IntKind.wrap_i64]; omega)
        have HI2 := hide (show (i : Int) ≤ (i : Int) + 1 by omega)
        have HI3 := hide (show (i : Int) + 1 ≤ (s.size : Int) by omega)
        have HI4 := hide (show ((i : Int) + 1).toNat = i + 1 by omega)
        have HI5 := hide (show (0 : Int) ≤ (i : Int) by omega)
        have HO := hide (show Own tStr 9 wr (fun b => w.heap.size ≤ b ∧ Old wr b) xs (.slice (some ⟨g, 0, none⟩) n c) by rw [hn]; exact HO.out)
        rw [← hn]
        clear hsp hx hll hwi hn hLd hgK hgl
        go_upto_region 7 with fail
        clear hk0 hk1
        refine wp_region_vals 17 (fun W => Below wr.heap.size wr W) (fun q9 => match q9 with | 0 => .slice (some ⟨g, 0, none⟩) n c | 1 => .slice (some ⟨g, 0, none⟩) n c | 2 => .int .i64 (n : Int) | 3 => .int .i64 ((n : Int) - 1) | 4 => .slice (some ⟨g, 0, none⟩) n c | 5 => .slice (some ⟨g, 0, none⟩) n c | 6 => .int .i64 (n : Int) | 7 => .int .i64 ((n : Int) - 1) | 8 => .pointer (some ⟨g, n - 1, none⟩) | 9 => .string L | 10 => .string s | 11 => .int .i64 (i : Int) | 12 => .int .i64 (i : Int) | 13 => .int .i64 ((i : Int) + 1) | 14 => .string (s.extract i (i + 1)) | 15 => .string (L ++ s.extract i (i + 1)) | 16 => .pointer (some ⟨g, n - 1, none⟩) | _ => undef) [some 19, some 20, some 21, some 22, some 23, some 24, some 25, some 26, some 27, some 28, some 29, some 30, some 31, some 32, some 33, some 34, some 35] (by kernel_rfl) (by kernel_rfl) (by kernel_rfl) (by kernel_rfl) (by kernel_rfl) ?_ ?_ ?_
        · exact (Below.refl _ wr).drew
        · intro i o hi ho a wa hI hc hd K hK
          have hi' : i = 0 ∨ i = 1 ∨ i = 2 ∨ i = 3 ∨ i = 4 ∨ i = 5 ∨ i = 6 ∨ i = 7 ∨ i = 8 ∨ i = 9 ∨ i = 10 ∨ i = 11 ∨ i = 12 ∨ i = 13 ∨ i = 14 ∨ i = 15 ∨ i = 16 := by omega
          clear hi
          rcases hi' with rfl | rfl | rfl | rfl | rfl | rfl | rfl | rfl | rfl | rfl | rfl | rfl | rfl | rfl | rfl | rfl | rfl
          all_goals
            simp only [List.getElem?_toArray, List.getElem?_cons_zero, List.getElem?_cons_succ, Option.some.injEq] at ho
            subst ho
          · have e3 := (hc 3 (by kernel_rfl)).trans rfl
            go_simp
            exact hK _ hI
          · have e3 := (hc 3 (by kernel_rfl)).trans rfl
            go_simp
            exact hK _ hI
          · have e20 : a.tmps.getD 20 undef = .slice (some ⟨g, 0, none⟩) n c := hd 1 20 (by kernel_rfl)
            go_simp
            exact hK _ hI
          · have e21 : a.tmps.getD 21 undef = .int .i64 (n : Int) := hd 2 21 (by kernel_rfl)
            have q1 := HN1.out; have q2 := HN2.out; have q3 := HN3.out; have q4 := HN4.out; have q5 := HN5.out
            go_simp
            exact hK _ hI
          · have e3 := (hc 3 (by kernel_rfl)).trans rfl
            go_simp
            exact hK _ hI
          · have e3 := (hc 3 (by kernel_rfl)).trans rfl
            go_simp
            exact hK _ hI
          · have e24 : a.tmps.getD 24 undef = .slice (some ⟨g, 0, none⟩) n c := hd 5 24 (by kernel_rfl)
            go_simp
            exact hK _ hI
          · have e25 : a.tmps.getD 25 undef = .int .i64 (n : Int) := hd 6 25 (by kernel_rfl)
            have q1 := HN1.out; have q2 := HN2.out; have q3 := HN3.out; have q4 := HN4.out; have q5 := HN5.out
            go_simp
            exact hK _ hI
          · have e23 : a.tmps.getD 23 undef = .slice (some ⟨g, 0, none⟩) n c := hd 4 23 (by kernel_rfl)
            have e26 : a.tmps.getD 26 undef = .int .i64 ((n : Int) - 1) := hd 7 26 (by kernel_rfl)
            have q1 := HN1.out; have q2 := HN2.out; have q3 := HN3.out; have q4 := HN4.out; have q5 := HN5.out
            go_simp
            exact hK _ hI
          · have e27 : a.tmps.getD 27 undef = .pointer (some ⟨g, n - 1, none⟩) := hd 8 27 (by kernel_rfl)
            have c0 := (hI.cell (show (⟨g, n - 1, none⟩ : Addr).block < wr.heap.size from HG.out)).trans HC.out
            go_simp
            exact hK _ hI
          · have e0 := (hc 0 (by kernel_rfl)).trans rfl
            go_simp
            exact hK _ hI
          · have e4 := (hc 4 (by kernel_rfl)).trans rfl
            go_simp
            exact hK _ hI
          · have e4 := (hc 4 (by kernel_rfl)).trans rfl
            go_simp
            exact hK _ hI
          · have e31 : a.tmps.getD 31 undef = .int .i64 (i : Int) := hd 12 31 (by kernel_rfl)
            have q1 := HI1.out; have q2 := HI2.out; have q3 := HI3.out
            go_simp
            exact hK _ hI
          · have e29 : a.tmps.getD 29 undef = .string s := hd 10 29 (by kernel_rfl)
            have e30 : a.tmps.getD 30 undef = .int .i64 (i : Int) := hd 11 30 (by kernel_rfl)
            have e32 : a.tmps.getD 32 undef = .int .i64 ((i : Int) + 1) := hd 13 32 (by kernel_rfl)
            have q1 := HI1.out; have q2 := HI2.out; have q3 := HI3.out; have q4 := HI4.out; have q5 := HI5.out
            go_simp
            exact hK _ hI
          · have e28 : a.tmps.getD 28 undef = .string L := hd 9 28 (by kernel_rfl)
            have e33 : a.tmps.getD 33 undef = .string (s.extract i (i + 1)) := hd 14 33 (by kernel_rfl)
            have q1 := HAd.out wa
            go_simp
            exact hK _ hI
          · have e19 : a.tmps.getD 19 undef = .slice (some ⟨g, 0, none⟩) n c := hd 0 19 (by kernel_rfl)
            have e22 : a.tmps.getD 22 undef = .int .i64 ((n : Int) - 1) := hd 3 22 (by kernel_rfl)
            have q1 := HN1.out; have q2 := HN2.out; have q3 := HN3.out; have q4 := HN4.out; have q5 := HN5.out
            go_simp
            exact hK _ hI
        · intro wz hI
          simp only [putD, Act.put, List.setIfInBounds_toArray, List.set_cons_zero, List.set_cons_succ, List.drop_succ_cons, List.drop_zero]
          have HOz := hide (HO.out.onlyBelow hI)
          have HWz := hide (HWr.out.trans (hI.mono HWr.out.size))
          have d0 := (HOz.out.cellStr hn1).2
          have d1 := (HOz.out.cellStr hn1).1
          have HO5 := hide (HOz.out.setStr hn1 (L ++ s.extract i (i + 1)))
          have HW5 := hide (HWz.out.setCell (p := ⟨g, n - 1, none⟩) HGl.out (.string (L ++ s.extract i (i + 1))))
          clear hI
          go_wp2_with fail
          go_roundw
          case rel => exact ⟨i + 1, _, _, rfl, by go_num, by omega, HS.out, HO5.out, HW5.out⟩
          case measure => simp [intOf]; omega
    · obtain rfl : i = s.size := by omega
      have HLa := hide (show xs.map (·.data.toList) = wordsL s.data.toList by have h := HL.out; rw [HSz.out, List.take_length] at h; exact h)
      go_wp2_with fail
      go_ret
      exact ⟨xs, _, rfl, HLa.out, HO.out, HWr.out⟩
end Go.Proofs.YtjnghnkilnhacaaGreatDoor
namespace Go.Proofs.YtjnghnkilnhacaaGreatDoor
open Go.RowKit
set_option linter.unusedVariables false
set_option linter.unusedSimpArgs false

theorem infoTxn_ : (Tryz.prog.info? 41).map (fun i => (i.zero, i.size, i.bytes)) = some (some (.agg #[.int .i64 0, .slice none 0 0, .bool false]), 3, 40) := by kernel_rfl
theorem infoOpT : (Tryz.prog.info? 46).map (fun i => (i.zero, i.size, i.bytes)) = some (some (.agg #[.int .i64 0, .int .i64 0, .int .i64 0]), 3, 24) := by kernel_rfl
end Go.Proofs.YtjnghnkilnhacaaGreatDoor
