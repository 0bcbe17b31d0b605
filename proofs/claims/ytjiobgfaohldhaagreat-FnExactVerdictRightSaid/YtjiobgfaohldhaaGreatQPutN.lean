/- The program's permuted: all orders of a list. Append laws that tell where the new slice's own block lies. -/
import Derived.Test.YtjiobgfaohldhaaGreatQConcat
import Derived.Test.YtjiobgfaohldhaaGreatQNest2
import Derived.Test.YtjiobgfaohldhaaGreatQAllF
import Derived.Test.YtjiobgfaohldhaaGreatQEdgI
import Derived.Test.YtjiobgfaohldhaaGreatQRanges
namespace Go.Proofs.YtjiobgfaohldhaaGreat
open Go.RowKit
set_option linter.unusedVariables false
set_option linter.unusedSimpArgs false

theorem rowTwoS {w : World} {p : Nat} {t : TypeId} {x y : List Int} {u v : Value} {S : Nat → Prop} (hB : Blk w p t #[u, v]) (hS : S p) (hu : Sl tInt w S x u) (hv : Sl tInt w S y v) : Row (tSlice tInt) w S (some ⟨p, 0, none⟩) [x, y] := fun _ => ⟨p, 0, rfl, hS, fun k hk => by
  have hk2 : k < 2 := by simpa using hk
  have h01 : k = 0 ∨ k = 1 := by omega
  rcases h01 with rfl | rfl
  · refine ⟨[u], ⟨u, rfl, hu⟩, fun j z hz => ?_⟩
    obtain ⟨hj, rfl⟩ := List.getElem?_eq_some_iff.1 hz
    have hj0 : j = 0 := by simpa using hj
    subst hj0
    rw [hB.cell]; rfl
  · refine ⟨[v], ⟨v, rfl, hv⟩, fun j z hz => ?_⟩
    obtain ⟨hj, rfl⟩ := List.getElem?_eq_some_iff.1 hz
    have hj0 : j = 0 := by simpa using hj
    subst hj0
    rw [hB.cell]; rfl⟩
theorem hOu_keepP {α : Type} {T : Ty α} {e : TypeId} {w w4 w5 : World} {K : Nat → Prop} {xs : List α} {v : Value} (h : Own T e w4 (fun b => w.heap.size ≤ b ∧ Old w4 b) xs v) (hb : Below w4.heap.size w4 w5) (hK : ∀ b, w.heap.size ≤ b ∧ Old w4 b → K b) : Own T e w5 (fun b => K b ∧ Old w5 b) xs v :=
  h.mono (fun b h => ⟨hK b h, Nat.lt_of_lt_of_le h.2 hb.size⟩) fun b h => hb.block b h.2
theorem oneIntP {e : TypeId} (w : World) {S : Nat → Prop} (x : Int) (hS : S w.heap.size) :
    Own tInt e (w.alloc (.cells #[.int .i64 x] e)) S [x] (.slice (some ⟨w.heap.size, 0, none⟩) 1 1) :=
  .inr ⟨_, 1, _, fun _ => False, rfl, hS, Blk.new _ _ _, by simp, by simp [maxLen], rfl, fun _ h => h.elim, fun k hk => by
    obtain rfl : k = 0 := by simpa using hk
    refine ⟨_, rfl, fun j u hu => ?_⟩
    obtain ⟨hj, rfl⟩ := List.getElem?_eq_some_iff.1 hu
    have hj0 : j = 0 := by simpa using hj
    subst hj0
    rw [(Blk.new w e _).cell]
    rfl⟩
set_option maxRecDepth 10000 in
set_option maxHeartbeats 4000000 in
theorem permuted_any (n : Nat) : ∀ (xs : List Int) (A : Option Addr) (c : Nat) (w : World), xs.length = n → n ≤ 8 → xs.length ≤ c → c ≤ maxLen → Row tInt w (Old w) A xs →
    Calls Tryz.prog 104 #[.slice A xs.length c] w fun e w' => ∃ v, e = .returned v ∧ Own (tSlice tInt) 23 w' (New w w') (permsI n xs) v ∧ Below w.heap.size w w' := by
  induction n with
  | zero =>
    intro xs A c w hl hn hc hcm hA
    obtain ⟨i1, hi1, hz01, hz11, hz21⟩ := info_parts infoIntS_
    have h0 : ((xs.length : Int) == 0) = true := by rw [beq_iff_eq]; omega
    clear hA
    go_enter Tryz.func104, Tryz.ntmps104
    go_wp2_with fail
    go_ret
    have h1 := Own.empty (T := tInt) (e := 3) w (fun b => w.heap.size ≤ b) (Nat.le_refl _)
    have h2 := Own.one (T := tSlice tInt) (e := 23) (w.alloc (.cells #[] 3)) (K := New w ((w.alloc (.cells #[] 3)).alloc (.cells #[.slice (some ⟨w.heap.size, 0, none⟩) 0 0] 23))) [.slice (some ⟨w.heap.size, 0, none⟩) 0 0] ⟨_, rfl, h1.sl⟩ (fun b h => ⟨⟨h.1, Nat.lt_of_lt_of_le h.2 (by simp)⟩, h.2⟩) ⟨by simp, by simp⟩
    exact ⟨_, rfl, by simpa [permsI] using h2, ((Below.refl _ w).alloc (Nat.le_refl _) _).alloc (by simp) _⟩
  | succ n ih =>
    intro xs A c w hl hn hc hcm hA
    have HA := hide hA
    have hq : xs.length ≤ 9223372036854775807 := by omega
    have hc' : c ≤ 9223372036854775807 := by simpa [maxLen] using hcm
    have HCm := hide hcm
    have h0 : ((xs.length : Int) == 0) = false := by rw [beq_eq_false_iff_ne]; omega
    have HL := hide hl
    clear hA hl hcm
    obtain ⟨i0, hi, hz0, hz1, hz2⟩ := info_parts infoInt_
    obtain ⟨i1, hi1, hz01, hz11, hz21⟩ := info_parts infoIntS_
    go_enter Tryz.func104, Tryz.ntmps104
    go_wp2_with fail
    go_loopw [3, 4, 5, 6, 8, 17] (fun v _ _ _ _ i wr => ∃ k : Nat, k ≤ xs.length ∧ i = .int .i64 k ∧ Hid (Own (tSlice tInt) 23 wr (fun b => w.heap.size ≤ b ∧ Old wr b) (permsK n xs k) v) ∧ Below w.heap.size w wr) (fun _ _ _ _ _ i _ => xs.length - (intOf i).toNat)
    case atStart => exact ⟨0, Nat.zero_le _, rfl, Own.empty w (fun b => w.heap.size ≤ b) (Nat.le_refl _), (Below.refl _ w).alloc (Nat.le_refl _) _⟩
    case round =>
      obtain ⟨k, hk, rfl, hOu, hb⟩ := hrel
      by_cases hlt : k < xs.length
      · obtain ⟨b, off, rfl, hbS, c0⟩ := at_Int HA.out hb hlt
        have hki : (k : Int) < (xs.length : Int) := by omega
        have hk1 : (k : Int) ≤ (c : Int) := by omega
        have hk2 : (k : Int) + 1 ≤ (xs.length : Int) := by omega
        have hk3 : (0 : Int) ≤ (k : Int) + 1 := by omega
        have HT := hide (show (xs.take k).length = k by rw [List.length_take]; omega)
        have HT2 := hide (show xs.take k ++ xs.drop (k + 1) = xs.eraseIdx k from (List.eraseIdx_eq_take_drop_succ _ _).symm)
        have HD := hide (show (xs.drop (k + 1)).length = xs.length - (k + 1) from List.length_drop)
        obtain ⟨A2, hA2, hrow2⟩ : ∃ A2 : Option Addr, (if c = k + 1 then (some ⟨b, off, none⟩ : Option Addr) else some ⟨b, off + (k + 1), none⟩) = A2 ∧ Row tInt w (Old w) A2 (xs.drop (k + 1)) := by
          refine ⟨_, rfl, ?_⟩
          split
          · rw [List.drop_of_length_le (by omega)]; exact Row.nil
          · have := HA.out.cut (k + 1)
            simpa [Addr.add, tInt, flat] using this
        have HR2 := hide hrow2
        have hs : IntKind.i64.wrap ((k : Int) + 1) = (k : Int) + 1 := by rw [IntKind.wrap_i64]; omega
        have HOu := hide hOu.out
        generalize hx0 : xs[k] = x0 at c0
        have HX0 := hide hx0
        clear hrow2 hOu hx0
        go_upto_region 7 with (fail)
        clear c0
        refine wp_region_vals 7 (fun wz => Below wr.heap.size wr wz) (fun q9 => match q9 with | 0 => .slice (some ⟨b, off, none⟩) xs.length c | 1 => .int .i64 k | 2 => .slice (some ⟨b, off, none⟩) k c | 3 => .slice (some ⟨b, off, none⟩) xs.length c | 4 => .int .i64 k | 5 => .int .i64 ((k : Int) + 1) | 6 => .slice A2 (xs.length - (k + 1)) (c - (k + 1)) | _ => undef) [some 22, some 23, some 24, some 25, some 26, some 27, some 28] (by kernel_rfl) (by kernel_rfl) (by kernel_rfl) (by kernel_rfl) (by kernel_rfl) ?_ ?_ ?_
        · exact (Below.refl _ wr).drew
        · intro i o hi ho a wa hI hc hd K hK
          have hi' : i = 0 ∨ i = 1 ∨ i = 2 ∨ i = 3 ∨ i = 4 ∨ i = 5 ∨ i = 6 := by omega
          clear hi
          rcases hi' with rfl | rfl | rfl | rfl | rfl | rfl | rfl
          all_goals
            simp only [List.getElem?_toArray, List.getElem?_cons_zero, List.getElem?_cons_succ, Option.some.injEq] at ho
            subst ho
          · have e0 := (hc 0 (by kernel_rfl)).trans rfl
            go_simp
            exact hK _ hI
          · have e4 := (hc 4 (by kernel_rfl)).trans rfl
            go_simp
            exact hK _ hI
          · have e22 : a.tmps.getD 22 undef = .slice (some ⟨b, off, none⟩) xs.length c := hd 0 22 (by kernel_rfl)
            have e23 : a.tmps.getD 23 undef = .int .i64 k := hd 1 23 (by kernel_rfl)
            have s1 : (k : Int) ≤ (c : Int) := hk1
            have s2 : (0 : Int) ≤ (k : Int) := by omega
            go_simp
            exact hK _ hI
          · have e0 := (hc 0 (by kernel_rfl)).trans rfl
            go_simp
            exact hK _ hI
          · have e4 := (hc 4 (by kernel_rfl)).trans rfl
            go_simp
            exact hK _ hI
          · have e26 : a.tmps.getD 26 undef = .int .i64 k := hd 4 26 (by kernel_rfl)
            have s3 : IntKind.i64.wrap ((k : Int) + 1) = (k : Int) + 1 := hs
            go_simp
            exact hK _ hI
          · have e25 : a.tmps.getD 25 undef = .slice (some ⟨b, off, none⟩) xs.length c := hd 3 25 (by kernel_rfl)
            have e27 : a.tmps.getD 27 undef = .int .i64 ((k : Int) + 1) := hd 5 27 (by kernel_rfl)
            have s4 : (k : Int) + 1 ≤ (xs.length : Int) := hk2
            have s5 : (0 : Int) ≤ (k : Int) + 1 := hk3
            have s6 := hA2
            go_simp
            exact hK _ hI
        · intro wz hI
          simp only [putD, Act.put, List.setIfInBounds_toArray, List.set_cons_zero, List.set_cons_succ, List.drop_succ_cons, List.drop_zero]
          have HBz := hide (hb.trans (hI.mono hb.size))
          have HIz := hide hI
          obtain ⟨W1, hW1⟩ : ∃ W1, W1 = wz.alloc (.cells #[.slice (some ⟨b, off, none⟩) k c, .slice A2 (xs.length - (k + 1)) (c - (k + 1))] 23) := ⟨_, rfl⟩
          have HB1 := hide (show Below w.heap.size w W1 by rw [hW1]; exact HBz.out.alloc HBz.out.size _)
          have HB11 := hide (show Below wr.heap.size wr W1 by rw [hW1]; exact HIz.out.alloc HIz.out.size _)
          have HRw := hide (show Row (tSlice tInt) W1 (Old W1) (some ⟨wz.heap.size, 0, none⟩) [xs.take k, xs.drop (k + 1)] by
            refine rowTwoS (by rw [hW1]; exact Blk.new wz _ _) (by rw [hW1]; simp [Old]) ⟨_, c, by rw [HT.out], by rw [HT.out]; omega, HCm.out, (HA.out.old HB1.out).takeN k⟩ ⟨A2, c - (k + 1), by rw [HD.out], by rw [HD.out]; omega, by have := HCm.out; omega, HR2.out.old HB1.out⟩)
          have HCc := hide (concat_Int [xs.take k, xs.drop (k + 1)] _ 2 W1 (by simp) (fun x hx => by
            have h1 := HL.out
            simp only [List.mem_cons, List.not_mem_nil, or_false] at hx
            rcases hx with rfl | rfl
            · rw [HT.out]; omega
            · rw [HD.out]; omega) HRw.out)
          rw [show [xs.take k, xs.drop (k + 1)].flatten = xs.eraseIdx k by rw [← HT2.out]; simp] at HCc
          clear hI HR2 HRw
          go_wp2_with (rw [← hW1]; go_at_call 131; refine HCc.out.mono ?_; rintro e w4 ⟨v4, rfl, hO4, hb4⟩; have HO4 := hide hO4; have HB4 := hide (HB1.out.trans (hb4.mono HB1.out.size)); have HB41 := hide (HB11.out.trans (hb4.mono HB11.out.size)); clear hO4 hb4)
          have hO4 := HO4.out
          obtain ⟨A4, c4, rfl, h41, h42, _⟩ := hO4.sl
          have hlen : (xs.eraseIdx k).length = n := by rw [List.length_eraseIdx_of_lt hlt]; have := HL.out; omega
          have HI := hide (ih (xs.eraseIdx k) A4 c4 w4 hlen (by omega) h41 h42 (by
            obtain ⟨A5, c5, hv5, _, _, hr5⟩ := hO4.sl.mono (w' := w4) (S' := Old w4) (fun b h => h.2) (fun _ _ => rfl)
            injection hv5 with h1 _ _
            subst h1
            exact hr5))
          have HOu := hide (HOu.out.onlyBelow HB41.out)
          have HSu := hide (permsK_succ n xs k)
          have HLk := hide (permsK_len n xs HL.out k hk)
          have HLp := hide (permsI_len n (xs.eraseIdx k) hlen)
          have HLm := hide (fun o => permsI_mem_len n (xs.eraseIdx k) o hlen)
          have HF := hide (fct_le (n := n) (by omega))
          have HGd := hide (show xs.getD k 0 = x0 by rw [← HX0.out]; simp [hlt])
          have HM : Hid (xs.length ≤ 8) := by show _ ≤ _; have := HL.out; omega
          rw [HGd.out] at HSu
          clear hO4 hlen HO4 hA2 hs HCc HB11
          generalize permsI n (xs.eraseIdx k) = M at HI HSu HLp HLm
          generalize hE : xs.eraseIdx k = E at *
          go_wp2_with fail
          refine HI.out.mono ?_
          rintro e w5 ⟨v5, rfl, hO5, hb5⟩
          obtain ⟨A5, c5, rfl, h51, h52, hR5⟩ := hO5.sl
          have hOx := hOu_keepP HOu.out (K := fun b => w.heap.size ≤ b ∧ ¬ (w4.heap.size ≤ b ∧ b < w5.heap.size)) hb5 (fun b h => ⟨h.1, fun e => by have := h.2; unfold Old at this; omega⟩)
          have HOx := hide hOx
          have HR5 := hide hR5
          have HB5 := hide (HB4.out.trans (hb5.mono HB4.out.size))
          have H45 := hide hb5.size
          have hM5 : M.length ≤ 40320 := by have := HLp.out; have := HF.out; omega
          have hq5 : M.length ≤ 9223372036854775807 := by omega
          have HTot : Hid ((permsK n xs k).length + M.length ≤ 9 * 40320) := by
            show _ ≤ _
            have h1 := HLk.out; have h2 := HF.out; have h3 := HM.out
            have h4 : k * fct n ≤ 8 * 40320 := Nat.mul_le_mul (by omega) h2
            omega
          clear hOx hO5 hb5 hR5 HI HOu HB41
          go_wp2_with fail
          obtain ⟨wo, hwo⟩ : ∃ wo : World, wo = wr := ⟨_, rfl⟩
          clear hb
          go_loopw [3, 8, 34] (fun v _ j wq => ∃ (l : Nat) (vo : Value), vo = v ∧ l ≤ M.length ∧ j = .int .i64 l ∧ Hid (Own (tSlice tInt) 23 wq (fun b => (w.heap.size ≤ b ∧ ¬ (w4.heap.size ≤ b ∧ b < w5.heap.size)) ∧ Old wq b) (permsK n xs k ++ (M.take l).map fun o => x0 :: o) v) ∧ Hid (Only (fun b => w.heap.size ≤ b ∧ ¬ (w4.heap.size ≤ b ∧ b < w5.heap.size)) w5 wq)) (fun _ _ j _ => M.length - (intOf j).toNat)
          case atStart => exact ⟨0, _, rfl, Nat.zero_le _, rfl, by rw [List.take_zero, List.map_nil, List.append_nil]; exact HOx.out, Only.refl _ _⟩
          case round =>
            obtain ⟨l, vo, rfl, hl, rfl, hO, hOn⟩ := hrel
            have HO := hide hO.out; have HOn := hide hOn.out
            clear hO hOn HOx
            by_cases hlt2 : l < M.length
            · have hli : (l : Int) < (M.length : Int) := by omega
              obtain ⟨b6, off6, A6, c6, hA5e, hb6, hc6, h61, h62, hR6⟩ := at_IntS (HR5.out.mono (w' := wr) (S' := Old wr) (fun b h => Nat.lt_of_lt_of_le h.2 HOn.out.size) (fun b h => HOn.out.block b h.2 (fun h9 => h9.2 h))) (Below.refl _ wr) hlt2
              subst hA5e
              have hl6 := HLm.out M[l] (List.getElem_mem hlt2)
              have hl6' : M[l].length ≤ 8 := by omega
              have HO1 := hide (oneIntP (e := 3) wr (S := fun b => wr.heap.size ≤ b ∧ Old (wr.alloc (.cells #[.int .i64 x0] 3)) b) x0 ⟨Nat.le_refl _, by simp [Old]⟩)
              have HR6 := hide ((hR6.mono (w' := wr.alloc (.cells #[.int .i64 x0] 3)) (S' := fun _ => True) (fun _ _ => trivial) (fun b hb => Below.heap_alloc _ _ _ hb)).anyInt)
              have HOl := hide (own_lt (B := wr.heap.size) HO.out (fun b h => h.2))
              have HLt := hide (show ∀ p : List Int, p = x0 :: M[l] → (permsK n xs k ++ (M.take l).map fun o => x0 :: o) ++ [p] = permsK n xs k ++ (M.take (l + 1)).map fun o => x0 :: o from by
                intro p hp
                rw [List.take_succ_eq_append_getElem hlt2, List.map_append, ← List.append_assoc, hp]
                rfl)
              have HLn := hide (show (permsK n xs k ++ (M.take l).map fun o => x0 :: o).length + 1 ≤ 9 * 40320 by
                have h1 := HTot.out; rw [List.length_append, List.length_map, List.length_take]; omega)
              have HOs := hide HOn.out.size
              have Hz5 := hide (show w.heap.size ≤ wr.heap.size from Nat.le_trans HB5.out.size HOn.out.size)
              generalize permsK n xs k ++ (M.take l).map (fun o => x0 :: o) = P9 at HO HOl HLt HLn
              generalize M[l] = m9 at hc6 hR6 hl6 hl6' HR6 HLt
              clear hb6 hl6 hR6
              go_wp2_with (first | (at_builtin; refine wpList_cat tInt rfl (.tmp 40) (.tmp 41) 23 rfl 3 i0 _ 8 Tryz.underlying23 hi hz0 hz1 hz2 rfl (by decide) (fun b => wr.heap.size ≤ b) (fun _ => False) [x0] m9 _ rfl HO1.out A6 _ c6 rfl rfl HR6.out (fun _ h => h.elim) (fun b hb => Nat.le_trans (by simp) hb) (by simp only [maxLen, List.length_singleton]; omega) (by simp only [List.length_singleton]; omega) ?_; intro v8 w8 hO_ hK_; obtain ⟨A8, c8, rfl, h81, h82, _⟩ := hO_.sl; have HO8 := hide hO_; have HK8 := hide hK_; clear hO_ hK_) | (at_builtin; refine wpList_put (tSlice tInt) rfl (.tmp 38) (.tmp 43) 24 rfl 23 i1 _ 24 Tryz.underlying24 hi1 hz01 hz11 hz21 rfl (by decide) (fun b => w.heap.size ≤ b ∧ ¬ (w4.heap.size ≤ b ∧ b < w5.heap.size)) (fun b => wr.heap.size ≤ b ∧ Old w8 b) P9 ([x0] ++ m9) [.slice A8 ([x0] ++ m9).length c8] _ rfl (HO.out.mono (w' := w8) (S2 := fun b => (w.heap.size ≤ b ∧ ¬ (w4.heap.size ≤ b ∧ b < w5.heap.size)) ∧ Old w8 b) (fun b h => ⟨h.1, by have := HK8.out.size; have := h.2; simp [Old] at *; omega⟩) (fun b h => (HK8.out.block b (Nat.lt_of_lt_of_le h.2 (by simp)) (by have := h.2; unfold Old at this; omega)).trans (Below.heap_alloc _ _ _ h.2))) 1 rfl ⟨_, rfl, HO8.out.sl⟩ (fun b h => ⟨⟨Nat.le_trans Hz5.out h.1, fun e => by have := HOs.out; have := h.1; omega⟩, h.2, fun e => by have := HOl.out b e; have := h.1; omega⟩) (fun b hb => by have := HK8.out.size; simp at this; have := HOs.out; have := Hz5.out; exact ⟨by omega, fun e => by omega⟩) (by have := HLn.out; simp only [maxLen]; omega) (by have := HLn.out; omega) ?_; intro v9 w9 hO_ hK_; have HO9 := hide hO_; have HK9 := hide hK_; clear hO_ hK_))
              have HL9 := hide (HLt.out _ rfl : _ = permsK n xs k ++ (M.take (l + 1)).map fun o => x0 :: o)
              have HB9 := hide ((Only.of_below (S := fun b => wr.heap.size ≤ b) ((Below.refl _ wr).alloc (Nat.le_refl _) (.cells #[.int .i64 x0] 3))).trans HK8.out)
              go_roundw
              case rel => exact ⟨l + 1, _, rfl, by omega, by go_num, (by have h9 := HO9.out; have e9 := HL9.out; exact e9 ▸ h9), (HOn.out.trans (HB9.out.mono (fun b hb => ⟨Nat.le_trans Hz5.out hb, fun e => by have := HOs.out; omega⟩))).trans HK9.out⟩
              case measure => simp [intOf]; omega
            · obtain rfl : l = M.length := by omega
              have HO8 := hide (show Own (tSlice tInt) 23 wr (fun b => w.heap.size ≤ b ∧ Old wr b) (permsK n xs (k + 1)) _ from by
                rw [HSu.out]
                have := HO.out
                rw [List.take_length] at this
                exact this.mono (fun b h => ⟨h.1.1, h.2⟩) (fun _ _ => rfl))
              have HB8 := hide (below_only HB5.out HOn.out HB5.out.size (fun i hi => hi.1))
              clear HO HOn
              go_wp2_with fail
              go_roundw
              case rel => exact ⟨k + 1, by omega, by go_num, HO8.out, HB8.out⟩
              case measure => simp [intOf]; omega
      · obtain rfl : k = xs.length := by omega
        have HP := hide (permsI_succ n xs (by rintro rfl; have := HL.out; simp at this))
        have HB8 := hide hb
        have HO8 := hide hOu.out
        clear hb hOu
        go_wp2_with fail
        go_ret
        exact ⟨_, rfl, by rw [HP.out]; exact HO8.out, HB8.out⟩
end Go.Proofs.YtjiobgfaohldhaaGreat
namespace Go.Proofs.YtjiobgfaohldhaaGreat
open Go.RowKit
set_option linter.unusedVariables false
set_option linter.unusedSimpArgs false

/-- Read in another world, over any blocks. -/
def tFar {α : Type} (w0 : World) (T : Ty α) : Ty α where
  size := T.size
  rel _ _ x cs := T.rel w0 (fun _ => True) x cs
  len h := T.len h
  one h := T.one h
  mono h _ _ := h
theorem Own.far_ {α : Type} {T : Ty α} {e : TypeId} {w w2 : World} {S : Nat → Prop} {xs : List α} {v : Value} (h : Own T e w S xs v) : Own (tFar w T) e w (fun b => v.ownBlock = some b) xs v := by
  rcases h with ⟨rfl, rfl⟩ | ⟨g, cap, cur, S', rfl, hg, hB, h1, h2, h3, h4, h5⟩
  · exact .inl ⟨rfl, rfl⟩
  · exact .inr ⟨g, cap, cur, fun _ => False, rfl, rfl, hB, h1, h2, h3, fun b h => h.elim, fun k hk => by
      obtain ⟨cs, hr, hc⟩ := h5 k hk
      exact ⟨cs, T.mono hr (fun _ _ => trivial) (fun _ _ => rfl), hc⟩⟩
section
variable {P : Program}
theorem run_appN {α : Type} (T : Ty α) (w : World) (t ty e : TypeId) (i : TypeInfo) (z : Value) (bytes : Nat) (ht : P.underlying t = some (.slice e)) (hi : P.info? e = some i) (hz : i.zero = some z)
    (hsize : i.size = T.size) (hby : i.bytes = bytes) (hzs : z.cells.size = T.size) (hsz : 0 < T.size)
    (S Sy S2 : Nat → Prop) (xs ys : List α) (v : Value) (hO : Own T e w S xs v) (A : Option Addr) (c : Nat) (hy : RowAny T w Sy A ys)
    (h63 : xs.length + ys.length ≤ maxLen) (hbytes : (xs.length + ys.length) * bytes ≤ 140737488355328)
    (hSo : ∀ b, S b → Old w b) (hSy : ∀ b, Sy b → Old w b ∧ v.ownBlock ≠ some b) (h1 : ∀ b, S b → S2 b) (h2 : ∀ b, Sy b → S2 b) (h3 : S2 w.heap.size) :
    ∃ v' w', (Builtin.append_ #[t, t] ty #[v, .slice A ys.length c]).run P w = .ok v' w' ∧ Own T e w' (fun b => S2 b ∧ Old w' b) (xs ++ ys) v' ∧ w.grownBy w' v.ownBlock ∧ ∀ b, v'.ownBlock = some b → v.ownBlock = some b ∨ b = w.heap.size := by
  obtain ⟨v', w', hr, h4, h5⟩ := run_app (P := P) T w t ty e i z bytes ht hi hz hsize hby hzs hsz S Sy S2 xs ys v hO A c hy h63 hbytes hSo hSy h1 h2 h3
  have hyf : RowAny (tFar w T) w (fun _ => False) A ys := fun hp => by
    obtain ⟨b, off, hA, hrow⟩ := hy hp
    refine ⟨b, off, hA, fun k hk => ?_⟩
    obtain ⟨cs, hr, hc⟩ := hrow k hk
    exact ⟨cs, T.mono hr (fun _ _ => trivial) (fun _ _ => rfl), hc⟩
  obtain ⟨v2, w2, hr2, h6, h7⟩ := run_app (P := P) (tFar w T) w t ty e i z bytes ht hi hz hsize hby hzs hsz (fun b => v.ownBlock = some b) (fun _ => False) (fun b => v.ownBlock = some b ∨ b = w.heap.size) xs ys v (Own.far_ (w2 := w) hO) A c hyf h63 hbytes (fun b hb => hSo b (hO.owned b hb)) (fun b h => h.elim) (fun b h => .inl h) (fun b h => h.elim) (.inr rfl)
  have he : v2 = v' := by
    rw [hr] at hr2; injection hr2 with e1 _; exact e1.symm
  subst he
  exact ⟨v2, w', hr, h4, h5, fun b hb => (h6.owned b hb).1⟩
theorem wp_appN {α : Type} (T : Ty α) {w : World} {o : Oper} {a : Act} {K : Act → World → Prop} {Q : Exit → Act → World → Prop} (s x : Operand) (t : TypeId)
    (ho : o.op = .call { callee := .builtin .append, args := #[s, x], argTypes := #[t, t] })
    (e : TypeId) (i : TypeInfo) (z : Value) (bytes : Nat) (ht : P.underlying t = some (.slice e)) (hi : P.info? e = some i) (hz : i.zero = some z)
    (hsize : i.size = T.size) (hby : i.bytes = bytes) (hzs : z.cells.size = T.size) (hsz : 0 < T.size)
    (S Sy S2 : Nat → Prop) (xs ys : List α) (v : Value) (hs : a.eval s = v) (hO : Own T e w S xs v) (A : Option Addr) (m c : Nat) (hx : a.eval x = .slice A m c) (hm : m = ys.length) (hy : RowAny T w Sy A ys)
    (h63 : xs.length + ys.length ≤ maxLen) (hbytes : (xs.length + ys.length) * bytes ≤ 140737488355328)
    (hSo : ∀ b, S b → Old w b) (hSy : ∀ b, Sy b → Old w b ∧ v.ownBlock ≠ some b) (h1 : ∀ b, S b → S2 b) (h2 : ∀ b, Sy b → S2 b) (h3 : S2 w.heap.size)
    (h : ∀ v' w', Own T e w' (fun b => S2 b ∧ Old w' b) (xs ++ ys) v' → w.grownBy w' v.ownBlock → (∀ b, v'.ownBlock = some b → v.ownBlock = some b ∨ b = w.heap.size) → K (a.put o.dst v') w') : o.wp P a w K Q := by
  subst hm
  obtain ⟨v', w', hrun, h4, h5, h6⟩ := run_appN (P := P) T w t o.type e i z bytes ht hi hz hsize hby hzs hsz S Sy S2 xs ys v hO A c hy h63 hbytes hSo hSy h1 h2 h3
  unfold Oper.wp execOp
  simp only [ho, resolve, invoke, builtin, Sem.run_bind, Sem.run_pure, Result.andThen_ok, List.map_toArray, List.map_cons, List.map_nil, hs, hx, hrun]
  exact h v' w' h4 h5 h6
/-- append of one element: as wpList_put; what turns is the slice's own block alone, and where the new one lies. -/
theorem wpList_putN {α : Type} (T : Ty α) {w : World} {ops : Array Oper} {rest : List Oper} {o : Oper} {a : Act} {Q : Exit → Act → World → Prop} (hgd : Region.wanted o (yielded ops a.tmps) = true) (s x : Operand) (t : TypeId)
    (ho : o.op = .call { callee := .builtin .append, args := #[s, x], argTypes := #[t, t] })
    (e : TypeId) (i : TypeInfo) (z : Value) (bytes : Nat) (ht : P.underlying t = some (.slice e)) (hi : P.info? e = some i) (hz : i.zero = some z)
    (hsize : i.size = T.size) (hby : i.bytes = bytes) (hzs : z.cells.size = T.size) (hsz : 0 < T.size)
    (K Sy : Nat → Prop) (xs : List α) (y : α) (cs : List Value) (v : Value) (hs : a.eval s = v) (hO : Own T e w (fun b => K b ∧ Old w b) xs v) (c : Nat) (hx : a.eval x = .slice (some ⟨w.heap.size, 0, none⟩) 1 c)
    (hy : T.rel w Sy y cs) (hSy : ∀ b, Sy b → K b ∧ Old w b ∧ v.ownBlock ≠ some b) (hK : ∀ b, w.heap.size ≤ b → K b)
    (h63 : xs.length + 1 ≤ maxLen) (hbytes : (xs.length + 1) * bytes ≤ 140737488355328)
    (h : ∀ v' w', Own T e w' (fun b => K b ∧ Old w' b) (xs ++ [y]) v' → Only (fun b => v.ownBlock = some b) w w' → (∀ b, v'.ownBlock = some b → v.ownBlock = some b ∨ w.heap.size ≤ b) → wpList P ops Q rest (a.put o.dst v') w') : wpList P ops Q (o :: rest) a (w.alloc (.cells cs.toArray e)) := by
  have hO1 := hO.mono (w' := w.alloc (.cells cs.toArray e)) (fun _ h => h) (fun b hb => Below.heap_alloc _ _ _ hb.2)
  refine BigFrame.wpList_want hgd fun _ hKK => wp_appN T s x t ho e i z bytes ht hi hz hsize hby hzs hsz (fun b => K b ∧ Old w b) Sy K xs [y] v hs hO1 _ 1 c hx rfl (row_one e hy (fun b hb => (hSy b hb).2.1)) h63 hbytes
    (fun b hb => Nat.lt_of_lt_of_le hb.2 (by simp)) (fun b hb => ⟨Nat.lt_of_lt_of_le (hSy b hb).2.1 (by simp), (hSy b hb).2.2⟩) (fun b hb => hb.1) (fun b hb => (hSy b hb).1) (hK _ (by simp)) (fun v' w' h1 h2 h3 => hKK _ _ (h v' w' h1 ?_ fun b hb => ?_))
  · exact (Only.of_alloc w _).trans (Only.of_grown h2 fun i hi => hi)
  · rcases h3 b hb with h4 | h4
    · exact .inl h4
    · exact .inr (by rw [h4]; simp)
end
end Go.Proofs.YtjiobgfaohldhaaGreat
