/- The program's permuted: all orders of a list. Append laws that tell where the new slice's own block lies. The conversions of the laws package make new memory that reads as their argument: transactions. The reference's copies of transactions. The reference's copies of histories: l1OwnTxnList. The program's copies: slices.Clone, slices.Clip of operations; copyTxn, copyHistory. slices.DeleteFunc of operations, in place. -/
import Derived.Test.YtjiobgfaohldhaaGreatDoorQSearchM
import Derived.Test.YtjiobgfaohldhaaGreatDoorQContC
import Derived.Test.YtjiobgfaohldhaaGreatDoorQEdgI
import Derived.Test.YtjiobgfaohldhaaGreatDoorQToA
import Derived.Test.YtjiobgfaohldhaaGreatDoorProg
import Derived.Test.YtjiobgfaohldhaaGreatDoorQRanges
import Derived.Test.YtjiobgfaohldhaaGreatDoorQFirstI
import Derived.WalkSpells
import Derived.Lib.SliceRun
namespace Go.Proofs.YtjiobgfaohldhaaGreatDoor
open Go.RowKit
set_option linter.unusedVariables false
set_option linter.unusedSimpArgs false

theorem rowTwoS {w : World} {p : Nat} {t : TypeId} {x y : List Int} {u v : Value} {S : Nat → Prop} (hB : Blk w p t #[u, v]) (hS : S p) (hu : Sl tInt w S x u) (hv : Sl tInt w S y v) : Row (tSlice tInt) w S (some ⟨p, 0, none⟩) [x, y] := fun _ => ⟨p, 0, rfl, hS, fun k hk => by
  have hk2 : k < 2 := by simpa using hk
  have h01 : k = 0 ∨ k = 1 := by omega
  rcases h01 with rfl | rfl
  · refine ⟨[u], ⟨u, rfl, hu⟩, fun j z hz => ?_⟩
    obtain ⟨hj, rfl⟩ := List.getElem?_eq_some_iff.1 hz
    have hj0 : j = 0 := by simpa using hj
    subst hj0
    rw [hB.cell]; rfl
  · refine ⟨[v], ⟨v, rfl, hv⟩, fun j z hz => ?_⟩
    obtain ⟨hj, rfl⟩ := List.getElem?_eq_some_iff.1 hz
    have hj0 : j = 0 := by simpa using hj
    subst hj0
    rw [hB.cell]; rfl⟩
theorem hOu_keepP {α : Type} {T : Ty α} {e : TypeId} {w w4 w5 : World} {K : Nat → Prop} {xs : List α} {v : Value} (h : Own T e w4 (fun b => w.heap.size ≤ b ∧ Old w4 b) xs v) (hb : Below w4.heap.size w4 w5) (hK : ∀ b, w.heap.size ≤ b ∧ Old w4 b → K b) : Own T e w5 (fun b => K b ∧ Old w5 b) xs v :=
  h.mono (fun b h => ⟨hK b h, Nat.lt_of_lt_of_le h.2 hb.size⟩) fun b h => hb.block b h.2
theorem oneIntP {e : TypeId} (w : World) {S : Nat → Prop} (x : Int) (hS : S w.heap.size) :
    Own tInt e (w.alloc (.cells #[.int .i64 x] e)) S [x] (.slice (some ⟨w.heap.size, 0, none⟩) 1 1) :=
  .inr ⟨_, 1, _, fun _ => False, rfl, hS, Blk.new _ _ _, by simp, by simp [maxLen], rfl, fun _ h => h.elim, fun k hk => by
    obtain rfl : k = 0 := by simpa using hk
    refine ⟨_, rfl, fun j u hu => ?_⟩
    obtain ⟨hj, rfl⟩ := List.getElem?_eq_some_iff.1 hu
    have hj0 : j = 0 := by simpa using hj
    subst hj0
    rw [(Blk.new w e _).cell]
    rfl⟩
set_option maxRecDepth 10000 in
set_option maxHeartbeats 4000000 in
theorem permuted_any (n : Nat) : ∀ (xs : List Int) (A : Option Addr) (c : Nat) (w : World), xs.length = n → n ≤ 8 → xs.length ≤ c → c ≤ maxLen → Row tInt w (Old w) A xs →
    Calls Tryz.prog 49 #[.slice A xs.length c] w fun e w' => ∃ v, e = .returned v ∧ Own (tSlice tInt) 27 w' (New w w') (permsI n xs) v ∧ Below w.heap.size w w' := by
  induction n with
  | zero =>
    intro xs A c w hl hn hc hcm hA
    obtain ⟨i1, hi1, hz01, hz11, hz21⟩ := info_parts infoIntS_
    have h0 : ((xs.length : Int) == 0) = true := by rw [beq_iff_eq]; omega
    clear hA
    go_enter Tryz.func49, Tryz.ntmps49
    go_wp2_with fail
    go_ret
    have h1 := Own.empty (T := tInt) (e := 3) w (fun b => w.heap.size ≤ b) (Nat.le_refl _)
    have h2 := Own.one (T := tSlice tInt) (e := 27) (w.alloc (.cells #[] 3)) (K := New w ((w.alloc (.cells #[] 3)).alloc (.cells #[.slice (some ⟨w.heap.size, 0, none⟩) 0 0] 27))) [.slice (some ⟨w.heap.size, 0, none⟩) 0 0] ⟨_, rfl, h1.sl⟩ (fun b h => ⟨⟨h.1, Nat.lt_of_lt_of_le h.2 (by simp)⟩, h.2⟩) ⟨by simp, by simp⟩
    exact ⟨_, rfl, by simpa [permsI] using h2, ((Below.refl _ w).alloc (Nat.le_refl _) _).alloc (by simp) _⟩
  | succ n ih =>
    intro xs A c w hl hn hc hcm hA
    have HA := hide hA
    have hq : xs.length ≤ 9223372036854775807 := by omega
    have hc' : c ≤ 9223372036854775807 := by simpa [maxLen] using hcm
    have HCm := hide hcm
    have h0 : ((xs.length : Int) == 0) = false := by rw [beq_eq_false_iff_ne]; omega
    have HL := hide hl
    clear hA hl hcm
    obtain ⟨i0, hi, hz0, hz1, hz2⟩ := info_parts infoInt_
    obtain ⟨i1, hi1, hz01, hz11, hz21⟩ := info_parts infoIntS_
    go_enter Tryz.func49, Tryz.ntmps49
    go_wp2_with fail
    go_loopw [3, 4, 5, 6, 8, 17] (fun v _ _ _ _ i wr => ∃ k : Nat, k ≤ xs.length ∧ i = .int .i64 k ∧ Hid (Own (tSlice tInt) 27 wr (fun b => w.heap.size ≤ b ∧ Old wr b) (permsK n xs k) v) ∧ Below w.heap.size w wr) (fun _ _ _ _ _ i _ => xs.length - (intOf i).toNat)
    case atStart => exact ⟨0, Nat.zero_le _, rfl, Own.empty w (fun b => w.heap.size ≤ b) (Nat.le_refl _), (Below.refl _ w).alloc (Nat.le_refl _) _⟩
    case round =>
      obtain ⟨k, hk, rfl, hOu, hb⟩ := hrel
      by_cases hlt : k < xs.length
      · obtain ⟨b, off, rfl, hbS, c0⟩ := at_Int HA.out hb hlt
        have hki : (k : Int) < (xs.length : Int) := by omega
        have hk1 : (k : Int) ≤ (c : Int) := by omega
        have hk2 : (k : Int) + 1 ≤ (xs.length : Int) := by omega
        have hk3 : (0 : Int) ≤ (k : Int) + 1 := by omega
        have HT := hide (show (xs.take k).length = k by rw [List.length_take]; omega)
        have HT2 := hide (show xs.take k ++ xs.drop (k + 1) = xs.eraseIdx k from (List.eraseIdx_eq_take_drop_succ _ _).symm)
        have HD := hide (show (xs.drop (k + 1)).length = xs.length - (k + 1) from List.length_drop)
        obtain ⟨A2, hA2, hrow2⟩ : ∃ A2 : Option Addr, (if c = k + 1 then (some ⟨b, off, none⟩ : Option Addr) else some ⟨b, off + (k + 1), none⟩) = A2 ∧ Row tInt w (Old w) A2 (xs.drop (k + 1)) := by
          refine ⟨_, rfl, ?_⟩
          split
          · rw [List.drop_of_length_le (by omega)]; exact Row.nil
          · have := HA.out.cut (k + 1)
            simpa [Addr.add, tInt, flat] using this
        have HR2 := hide hrow2
        have hs : IntKind.i64.wrap ((k : Int) + 1) = (k : Int) + 1 := by rw [IntKind.wrap_i64]; omega
        have HOu := hide hOu.out
        generalize hx0 : xs[k] = x0 at c0
        have HX0 := hide hx0
        clear hrow2 hOu hx0
        go_upto_region 7 with (fail)
        clear c0
        refine wp_region_vals 7 (fun wz => Below wr.heap.size wr wz) (fun q9 => match q9 with | 0 => .slice (some ⟨b, off, none⟩) xs.length c | 1 => .int .i64 k | 2 => .slice (some ⟨b, off, none⟩) k c | 3 => .slice (some ⟨b, off, none⟩) xs.length c | 4 => .int .i64 k | 5 => .int .i64 ((k : Int) + 1) | 6 => .slice A2 (xs.length - (k + 1)) (c - (k + 1)) | _ => undef) [some 22, some 23, some 24, some 25, some 26, some 27, some 28] (by kernel_rfl) (by kernel_rfl) (by kernel_rfl) (by kernel_rfl) (by kernel_rfl) ?_ ?_ ?_
        · exact (Below.refl _ wr).drew
        · intro i o hi ho a wa hI hc hd K hK
          have hi' : i = 0 ∨ i = 1 ∨ i = 2 ∨ i = 3 ∨ i = 4 ∨ i = 5 ∨ i = 6 := by omega
          clear hi
          rcases hi' with rfl | rfl | rfl | rfl | rfl | rfl | rfl
          all_goals
            simp only [List.getElem?_toArray, List.getElem?_cons_zero, List.getElem?_cons_succ, Option.some.injEq] at ho
            subst ho
          · have e0 := (hc 0 (by kernel_rfl)).trans rfl
            go_simp
            exact hK _ hI
          · have e4 := (hc 4 (by kernel_rfl)).trans rfl
            go_simp
            exact hK _ hI
          · have e22 : a.tmps.getD 22 undef = .slice (some ⟨b, off, none⟩) xs.length c := hd 0 22 (by kernel_rfl)
            have e23 : a.tmps.getD 23 undef = .int .i64 k := hd 1 23 (by kernel_rfl)
            have s1 : (k : Int) ≤ (c : Int) := hk1
            have s2 : (0 : Int) ≤ (k : Int) := by omega
            go_simp
            exact hK _ hI
          · have e0 := (hc 0 (by kernel_rfl)).trans rfl
            go_simp
            exact hK _ hI
          · have e4 := (hc 4 (by kernel_rfl)).trans rfl
            go_simp
            exact hK _ hI
          · have e26 : a.tmps.getD 26 undef = .int .i64 k := hd 4 26 (by kernel_rfl)
            have s3 : IntKind.i64.wrap ((k : Int) + 1) = (k : Int) + 1 := hs
            go_simp
            exact hK _ hI
          · have e25 : a.tmps.getD 25 undef = .slice (some ⟨b, off, none⟩) xs.length c := hd 3 25 (by kernel_rfl)
            have e27 : a.tmps.getD 27 undef = .int .i64 ((k : Int) + 1) := hd 5 27 (by kernel_rfl)
            have s4 : (k : Int) + 1 ≤ (xs.length : Int) := hk2
            have s5 : (0 : Int) ≤ (k : Int) + 1 := hk3
            have s6 := hA2
            go_simp
            exact hK _ hI
        · intro wz hI
          simp only [putD, Act.put, List.setIfInBounds_toArray, List.set_cons_zero, List.set_cons_succ, List.drop_succ_cons, List.drop_zero]
          have HBz := hide (hb.trans (hI.mono hb.size))
          have HIz := hide hI
          obtain ⟨W1, hW1⟩ : ∃ W1, W1 = wz.alloc (.cells #[.slice (some ⟨b, off, none⟩) k c, .slice A2 (xs.length - (k + 1)) (c - (k + 1))] 27) := ⟨_, rfl⟩
          have HB1 := hide (show Below w.heap.size w W1 by rw [hW1]; exact HBz.out.alloc HBz.out.size _)
          have HB11 := hide (show Below wr.heap.size wr W1 by rw [hW1]; exact HIz.out.alloc HIz.out.size _)
          have HRw := hide (show Row (tSlice tInt) W1 (Old W1) (some ⟨wz.heap.size, 0, none⟩) [xs.take k, xs.drop (k + 1)] by
            refine rowTwoS (by rw [hW1]; exact Blk.new wz _ _) (by rw [hW1]; simp [Old]) ⟨_, c, by rw [HT.out], by rw [HT.out]; omega, HCm.out, (HA.out.old HB1.out).takeN k⟩ ⟨A2, c - (k + 1), by rw [HD.out], by rw [HD.out]; omega, by have := HCm.out; omega, HR2.out.old HB1.out⟩)
          have HCc := hide (concat_Int [xs.take k, xs.drop (k + 1)] _ 2 W1 (by simp) (fun x hx => by
            have h1 := HL.out
            simp only [List.mem_cons, List.not_mem_nil, or_false] at hx
            rcases hx with rfl | rfl
            · rw [HT.out]; omega
            · rw [HD.out]; omega) HRw.out)
          rw [show [xs.take k, xs.drop (k + 1)].flatten = xs.eraseIdx k by rw [← HT2.out]; simp] at HCc
          clear hI HR2 HRw
          go_wp2_with (rw [← hW1]; go_at_call 102; refine HCc.out.mono ?_; rintro e w4 ⟨v4, rfl, hO4, hb4⟩; have HO4 := hide hO4; have HB4 := hide (HB1.out.trans (hb4.mono HB1.out.size)); have HB41 := hide (HB11.out.trans (hb4.mono HB11.out.size)); clear hO4 hb4)
          have hO4 := HO4.out
          obtain ⟨A4, c4, rfl, h41, h42, _⟩ := hO4.sl
          have hlen : (xs.eraseIdx k).length = n := by rw [List.length_eraseIdx_of_lt hlt]; have := HL.out; omega
          have HI := hide (ih (xs.eraseIdx k) A4 c4 w4 hlen (by omega) h41 h42 (by
            obtain ⟨A5, c5, hv5, _, _, hr5⟩ := hO4.sl.mono (w' := w4) (S' := Old w4) (fun b h => h.2) (fun _ _ => rfl)
            injection hv5 with h1 _ _
            subst h1
            exact hr5))
          have HOu := hide (HOu.out.onlyBelow HB41.out)
          have HSu := hide (permsK_succ n xs k)
          have HLk := hide (permsK_len n xs HL.out k hk)
          have HLp := hide (permsI_len n (xs.eraseIdx k) hlen)
          have HLm := hide (fun o => permsI_mem_len n (xs.eraseIdx k) o hlen)
          have HF := hide (fct_le (n := n) (by omega))
          have HGd := hide (show xs.getD k 0 = x0 by rw [← HX0.out]; simp [hlt])
          have HM : Hid (xs.length ≤ 8) := by show _ ≤ _; have := HL.out; omega
          rw [HGd.out] at HSu
          clear hO4 hlen HO4 hA2 hs HCc HB11
          generalize permsI n (xs.eraseIdx k) = M at HI HSu HLp HLm
          generalize hE : xs.eraseIdx k = E at *
          go_wp2_with fail
          refine HI.out.mono ?_
          rintro e w5 ⟨v5, rfl, hO5, hb5⟩
          obtain ⟨A5, c5, rfl, h51, h52, hR5⟩ := hO5.sl
          have hOx := hOu_keepP HOu.out (K := fun b => w.heap.size ≤ b ∧ ¬ (w4.heap.size ≤ b ∧ b < w5.heap.size)) hb5 (fun b h => ⟨h.1, fun e => by have := h.2; unfold Old at this; omega⟩)
          have HOx := hide hOx
          have HR5 := hide hR5
          have HB5 := hide (HB4.out.trans (hb5.mono HB4.out.size))
          have H45 := hide hb5.size
          have hM5 : M.length ≤ 40320 := by have := HLp.out; have := HF.out; omega
          have hq5 : M.length ≤ 9223372036854775807 := by omega
          have HTot : Hid ((permsK n xs k).length + M.length ≤ 9 * 40320) := by
            show _ ≤ _
            have h1 := HLk.out; have h2 := HF.out; have h3 := HM.out
            have h4 : k * fct n ≤ 8 * 40320 := Nat.mul_le_mul (by omega) h2
            omega
          clear hOx hO5 hb5 hR5 HI HOu HB41
          go_wp2_with fail
          obtain ⟨wo, hwo⟩ : ∃ wo : World, wo = wr := ⟨_, rfl⟩
          clear hb
          go_loopw [3, 8, 34] (fun v _ j wq => ∃ (l : Nat) (vo : Value), vo = v ∧ l ≤ M.length ∧ j = .int .i64 l ∧ Hid (Own (tSlice tInt) 27 wq (fun b => (w.heap.size ≤ b ∧ ¬ (w4.heap.size ≤ b ∧ b < w5.heap.size)) ∧ Old wq b) (permsK n xs k ++ (M.take l).map fun o => x0 :: o) v) ∧ Hid (Only (fun b => w.heap.size ≤ b ∧ ¬ (w4.heap.size ≤ b ∧ b < w5.heap.size)) w5 wq)) (fun _ _ j _ => M.length - (intOf j).toNat)
          case atStart => exact ⟨0, _, rfl, Nat.zero_le _, rfl, by rw [List.take_zero, List.map_nil, List.append_nil]; exact HOx.out, Only.refl _ _⟩
          case round =>
            obtain ⟨l, vo, rfl, hl, rfl, hO, hOn⟩ := hrel
            have HO := hide hO.out; have HOn := hide hOn.out
            clear hO hOn HOx
            by_cases hlt2 : l < M.length
            · have hli : (l : Int) < (M.length : Int) := by omega
              obtain ⟨b6, off6, A6, c6, hA5e, hb6, hc6, h61, h62, hR6⟩ := at_IntS (HR5.out.mono (w' := wr) (S' := Old wr) (fun b h => Nat.lt_of_lt_of_le h.2 HOn.out.size) (fun b h => HOn.out.block b h.2 (fun h9 => h9.2 h))) (Below.refl _ wr) hlt2
              subst hA5e
              have hl6 := HLm.out M[l] (List.getElem_mem hlt2)
              have hl6' : M[l].length ≤ 8 := by omega
              have HO1 := hide (oneIntP (e := 3) wr (S := fun b => wr.heap.size ≤ b ∧ Old (wr.alloc (.cells #[.int .i64 x0] 3)) b) x0 ⟨Nat.le_refl _, by simp [Old]⟩)
              have HR6 := hide ((hR6.mono (w' := wr.alloc (.cells #[.int .i64 x0] 3)) (S' := fun _ => True) (fun _ _ => trivial) (fun b hb => Below.heap_alloc _ _ _ hb)).anyInt)
              have HOl := hide (own_lt (B := wr.heap.size) HO.out (fun b h => h.2))
              have HLt := hide (show ∀ p : List Int, p = x0 :: M[l] → (permsK n xs k ++ (M.take l).map fun o => x0 :: o) ++ [p] = permsK n xs k ++ (M.take (l + 1)).map fun o => x0 :: o from by
                intro p hp
                rw [List.take_succ_eq_append_getElem hlt2, List.map_append, ← List.append_assoc, hp]
                rfl)
              have HLn := hide (show (permsK n xs k ++ (M.take l).map fun o => x0 :: o).length + 1 ≤ 9 * 40320 by
                have h1 := HTot.out; rw [List.length_append, List.length_map, List.length_take]; omega)
              have HOs := hide HOn.out.size
              have Hz5 := hide (show w.heap.size ≤ wr.heap.size from Nat.le_trans HB5.out.size HOn.out.size)
              generalize permsK n xs k ++ (M.take l).map (fun o => x0 :: o) = P9 at HO HOl HLt HLn
              generalize M[l] = m9 at hc6 hR6 hl6 hl6' HR6 HLt
              clear hb6 hl6 hR6
              go_wp2_with (first | (at_builtin; refine wpList_cat tInt rfl (.tmp 40) (.tmp 41) 27 rfl 3 i0 _ 8 Tryz.underlying27 hi hz0 hz1 hz2 rfl (by decide) (fun b => wr.heap.size ≤ b) (fun _ => False) [x0] m9 _ rfl HO1.out A6 _ c6 rfl rfl HR6.out (fun _ h => h.elim) (fun b hb => Nat.le_trans (by simp) hb) (by simp only [maxLen, List.length_singleton]; omega) (by simp only [List.length_singleton]; omega) ?_; intro v8 w8 hO_ hK_; obtain ⟨A8, c8, rfl, h81, h82, _⟩ := hO_.sl; have HO8 := hide hO_; have HK8 := hide hK_; clear hO_ hK_) | (at_builtin; refine wpList_put (tSlice tInt) rfl (.tmp 38) (.tmp 43) 31 rfl 27 i1 _ 24 Tryz.underlying31 hi1 hz01 hz11 hz21 rfl (by decide) (fun b => w.heap.size ≤ b ∧ ¬ (w4.heap.size ≤ b ∧ b < w5.heap.size)) (fun b => wr.heap.size ≤ b ∧ Old w8 b) P9 ([x0] ++ m9) [.slice A8 ([x0] ++ m9).length c8] _ rfl (HO.out.mono (w' := w8) (S2 := fun b => (w.heap.size ≤ b ∧ ¬ (w4.heap.size ≤ b ∧ b < w5.heap.size)) ∧ Old w8 b) (fun b h => ⟨h.1, by have := HK8.out.size; have := h.2; simp [Old] at *; omega⟩) (fun b h => (HK8.out.block b (Nat.lt_of_lt_of_le h.2 (by simp)) (by have := h.2; unfold Old at this; omega)).trans (Below.heap_alloc _ _ _ h.2))) 1 rfl ⟨_, rfl, HO8.out.sl⟩ (fun b h => ⟨⟨Nat.le_trans Hz5.out h.1, fun e => by have := HOs.out; have := h.1; omega⟩, h.2, fun e => by have := HOl.out b e; have := h.1; omega⟩) (fun b hb => by have := HK8.out.size; simp at this; have := HOs.out; have := Hz5.out; exact ⟨by omega, fun e => by omega⟩) (by have := HLn.out; simp only [maxLen]; omega) (by have := HLn.out; omega) ?_; intro v9 w9 hO_ hK_; have HO9 := hide hO_; have HK9 := hide hK_; clear hO_ hK_))
              have HL9 := hide (HLt.out _ rfl : _ = permsK n xs k ++ (M.take (l + 1)).map fun o => x0 :: o)
              have HB9 := hide ((Only.of_below (S := fun b => wr.heap.size ≤ b) ((Below.refl _ wr).alloc (Nat.le_refl _) (.cells #[.int .i64 x0] 3))).trans HK8.out)
              go_roundw
              case rel => exact ⟨l + 1, _, rfl, by omega, by go_num, (by have h9 := HO9.out; have e9 := HL9.out; exact e9 ▸ h9), (HOn.out.trans (HB9.out.mono (fun b hb => ⟨Nat.le_trans Hz5.out hb, fun e => by have := HOs.out; omega⟩))).trans HK9.out⟩
              case measure => simp [intOf]; omega
            · obtain rfl : l = M.length := by omega
              have HO8 := hide (show Own (tSlice tInt) 27 wr (fun b => w.heap.size ≤ b ∧ Old wr b) (permsK n xs (k + 1)) _ from by
                rw [HSu.out]
                have := HO.out
                rw [List.take_length] at this
                exact this.mono (fun b h => ⟨h.1.1, h.2⟩) (fun _ _ => rfl))
              have HB8 := hide (below_only HB5.out HOn.out HB5.out.size (fun i hi => hi.1))
              clear HO HOn
              go_wp2_with fail
              go_roundw
              case rel => exact ⟨k + 1, by omega, by go_num, HO8.out, HB8.out⟩
              case measure => simp [intOf]; omega
      · obtain rfl : k = xs.length := by omega
        have HP := hide (permsI_succ n xs (by rintro rfl; have := HL.out; simp at this))
        have HB8 := hide hb
        have HO8 := hide hOu.out
        clear hb hOu
        go_wp2_with fail
        go_ret
        exact ⟨_, rfl, by rw [HP.out]; exact HO8.out, HB8.out⟩
end Go.Proofs.YtjiobgfaohldhaaGreatDoor
namespace Go.Proofs.YtjiobgfaohldhaaGreatDoor
open Go.RowKit
set_option linter.unusedVariables false
set_option linter.unusedSimpArgs false

/-- Read in another world, over any blocks. -/
def tFar {α : Type} (w0 : World) (T : Ty α) : Ty α where
  size := T.size
  rel _ _ x cs := T.rel w0 (fun _ => True) x cs
  len h := T.len h
  one h := T.one h
  mono h _ _ := h
theorem Own.far_ {α : Type} {T : Ty α} {e : TypeId} {w w2 : World} {S : Nat → Prop} {xs : List α} {v : Value} (h : Own T e w S xs v) : Own (tFar w T) e w (fun b => v.ownBlock = some b) xs v := by
  rcases h with ⟨rfl, rfl⟩ | ⟨g, cap, cur, S', rfl, hg, hB, h1, h2, h3, h4, h5⟩
  · exact .inl ⟨rfl, rfl⟩
  · exact .inr ⟨g, cap, cur, fun _ => False, rfl, rfl, hB, h1, h2, h3, fun b h => h.elim, fun k hk => by
      obtain ⟨cs, hr, hc⟩ := h5 k hk
      exact ⟨cs, T.mono hr (fun _ _ => trivial) (fun _ _ => rfl), hc⟩⟩
section
variable {P : Program}
theorem run_appN {α : Type} (T : Ty α) (w : World) (t ty e : TypeId) (i : TypeInfo) (z : Value) (bytes : Nat) (ht : P.underlying t = some (.slice e)) (hi : P.info? e = some i) (hz : i.zero = some z)
    (hsize : i.size = T.size) (hby : i.bytes = bytes) (hzs : z.cells.size = T.size) (hsz : 0 < T.size)
    (S Sy S2 : Nat → Prop) (xs ys : List α) (v : Value) (hO : Own T e w S xs v) (A : Option Addr) (c : Nat) (hy : RowAny T w Sy A ys)
    (h63 : xs.length + ys.length ≤ maxLen) (hbytes : (xs.length + ys.length) * bytes ≤ 140737488355328)
    (hSo : ∀ b, S b → Old w b) (hSy : ∀ b, Sy b → Old w b ∧ v.ownBlock ≠ some b) (h1 : ∀ b, S b → S2 b) (h2 : ∀ b, Sy b → S2 b) (h3 : S2 w.heap.size) :
    ∃ v' w', (Builtin.append_ #[t, t] ty #[v, .slice A ys.length c]).run P w = .ok v' w' ∧ Own T e w' (fun b => S2 b ∧ Old w' b) (xs ++ ys) v' ∧ w.grownBy w' v.ownBlock ∧ ∀ b, v'.ownBlock = some b → v.ownBlock = some b ∨ b = w.heap.size := by
  obtain ⟨v', w', hr, h4, h5⟩ := run_app (P := P) T w t ty e i z bytes ht hi hz hsize hby hzs hsz S Sy S2 xs ys v hO A c hy h63 hbytes hSo hSy h1 h2 h3
  have hyf : RowAny (tFar w T) w (fun _ => False) A ys := fun hp => by
    obtain ⟨b, off, hA, hrow⟩ := hy hp
    refine ⟨b, off, hA, fun k hk => ?_⟩
    obtain ⟨cs, hr, hc⟩ := hrow k hk
    exact ⟨cs, T.mono hr (fun _ _ => trivial) (fun _ _ => rfl), hc⟩
  obtain ⟨v2, w2, hr2, h6, h7⟩ := run_app (P := P) (tFar w T) w t ty e i z bytes ht hi hz hsize hby hzs hsz (fun b => v.ownBlock = some b) (fun _ => False) (fun b => v.ownBlock = some b ∨ b = w.heap.size) xs ys v (Own.far_ (w2 := w) hO) A c hyf h63 hbytes (fun b hb => hSo b (hO.owned b hb)) (fun b h => h.elim) (fun b h => .inl h) (fun b h => h.elim) (.inr rfl)
  have he : v2 = v' := by
    rw [hr] at hr2; injection hr2 with e1 _; exact e1.symm
  subst he
  exact ⟨v2, w', hr, h4, h5, fun b hb => (h6.owned b hb).1⟩
theorem wp_appN {α : Type} (T : Ty α) {w : World} {o : Oper} {a : Act} {K : Act → World → Prop} {Q : Exit → Act → World → Prop} (s x : Operand) (t : TypeId)
    (ho : o.op = .call { callee := .builtin .append, args := #[s, x], argTypes := #[t, t] })
    (e : TypeId) (i : TypeInfo) (z : Value) (bytes : Nat) (ht : P.underlying t = some (.slice e)) (hi : P.info? e = some i) (hz : i.zero = some z)
    (hsize : i.size = T.size) (hby : i.bytes = bytes) (hzs : z.cells.size = T.size) (hsz : 0 < T.size)
    (S Sy S2 : Nat → Prop) (xs ys : List α) (v : Value) (hs : a.eval s = v) (hO : Own T e w S xs v) (A : Option Addr) (m c : Nat) (hx : a.eval x = .slice A m c) (hm : m = ys.length) (hy : RowAny T w Sy A ys)
    (h63 : xs.length + ys.length ≤ maxLen) (hbytes : (xs.length + ys.length) * bytes ≤ 140737488355328)
    (hSo : ∀ b, S b → Old w b) (hSy : ∀ b, Sy b → Old w b ∧ v.ownBlock ≠ some b) (h1 : ∀ b, S b → S2 b) (h2 : ∀ b, Sy b → S2 b) (h3 : S2 w.heap.size)
    (h : ∀ v' w', Own T e w' (fun b => S2 b ∧ Old w' b) (xs ++ ys) v' → w.grownBy w' v.ownBlock → (∀ b, v'.ownBlock = some b → v.ownBlock = some b ∨ b = w.heap.size) → K (a.put o.dst v') w') : o.wp P a w K Q := by
  subst hm
  obtain ⟨v', w', hrun, h4, h5, h6⟩ := run_appN (P := P) T w t o.type e i z bytes ht hi hz hsize hby hzs hsz S Sy S2 xs ys v hO A c hy h63 hbytes hSo hSy h1 h2 h3
  unfold Oper.wp execOp
  simp only [ho, resolve, invoke, builtin, Sem.run_bind, Sem.run_pure, Result.andThen_ok, List.map_toArray, List.map_cons, List.map_nil, hs, hx, hrun]
  exact h v' w' h4 h5 h6
/-- append of one element: as wpList_put; what turns is the slice's own block alone, and where the new one lies. -/
theorem wpList_putN {α : Type} (T : Ty α) {w : World} {ops : Array Oper} {rest : List Oper} {o : Oper} {a : Act} {Q : Exit → Act → World → Prop} (hgd : Region.wanted o (yielded ops a.tmps) = true) (s x : Operand) (t : TypeId)
    (ho : o.op = .call { callee := .builtin .append, args := #[s, x], argTypes := #[t, t] })
    (e : TypeId) (i : TypeInfo) (z : Value) (bytes : Nat) (ht : P.underlying t = some (.slice e)) (hi : P.info? e = some i) (hz : i.zero = some z)
    (hsize : i.size = T.size) (hby : i.bytes = bytes) (hzs : z.cells.size = T.size) (hsz : 0 < T.size)
    (K Sy : Nat → Prop) (xs : List α) (y : α) (cs : List Value) (v : Value) (hs : a.eval s = v) (hO : Own T e w (fun b => K b ∧ Old w b) xs v) (c : Nat) (hx : a.eval x = .slice (some ⟨w.heap.size, 0, none⟩) 1 c)
    (hy : T.rel w Sy y cs) (hSy : ∀ b, Sy b → K b ∧ Old w b ∧ v.ownBlock ≠ some b) (hK : ∀ b, w.heap.size ≤ b → K b)
    (h63 : xs.length + 1 ≤ maxLen) (hbytes : (xs.length + 1) * bytes ≤ 140737488355328)
    (h : ∀ v' w', Own T e w' (fun b => K b ∧ Old w' b) (xs ++ [y]) v' → Only (fun b => v.ownBlock = some b) w w' → (∀ b, v'.ownBlock = some b → v.ownBlock = some b ∨ w.heap.size ≤ b) → wpList P ops Q rest (a.put o.dst v') w') : wpList P ops Q (o :: rest) a (w.alloc (.cells cs.toArray e)) := by
  have hO1 := hO.mono (w' := w.alloc (.cells cs.toArray e)) (fun _ h => h) (fun b hb => Below.heap_alloc _ _ _ hb.2)
  refine BigFrame.wpList_want hgd fun _ hKK => wp_appN T s x t ho e i z bytes ht hi hz hsize hby hzs hsz (fun b => K b ∧ Old w b) Sy K xs [y] v hs hO1 _ 1 c hx rfl (row_one e hy (fun b hb => (hSy b hb).2.1)) h63 hbytes
    (fun b hb => Nat.lt_of_lt_of_le hb.2 (by simp)) (fun b hb => ⟨Nat.lt_of_lt_of_le (hSy b hb).2.1 (by simp), (hSy b hb).2.2⟩) (fun b hb => hb.1) (fun b hb => (hSy b hb).1) (hK _ (by simp)) (fun v' w' h1 h2 h3 => hKK _ _ (h v' w' h1 ?_ fun b hb => ?_))
  · exact (Only.of_alloc w _).trans (Only.of_grown h2 fun i hi => hi)
  · rcases h3 b hb with h4 | h4
    · exact .inl h4
    · exact .inr (by rw [h4]; simp)
end
end Go.Proofs.YtjiobgfaohldhaaGreatDoor
namespace Go.Proofs.YtjiobgfaohldhaaGreatDoor
open Go.RowKit
set_option linter.unusedVariables false
set_option linter.unusedSimpArgs false

theorem infoTxn_ : (Tryz.prog.info? 70).map (fun i => (i.zero, i.size, i.bytes)) = some (some (.agg #[.int .i64 0, .slice none 0 0, .bool false]), 3, 40) := by kernel_rfl
theorem infoOpT : (Tryz.prog.info? 50).map (fun i => (i.zero, i.size, i.bytes)) = some (some (.agg #[.int .i64 0, .int .i64 0, .int .i64 0]), 3, 24) := by kernel_rfl
set_option maxRecDepth 10000 in
set_option maxHeartbeats 1000000 in
theorem ownTxn (t : Txn) (A : Option Addr) (c : Nat) (w : World) (hm : t.Ops.length ≤ 1048576) (hA : Row tOp w (Old w) A t.Ops) :
    Calls Tryz.prog 99 #[.agg #[.int .i64 t.Session, .slice A t.Ops.length c, .bool t.Done]] w fun e w' => ∃ v, e = .returned (.agg #[.int .i64 t.Session, v, .bool t.Done]) ∧ Own tOp 50 w' (New w w') t.Ops v ∧ Below w.heap.size w w' := by
  obtain ⟨i0, hi, hz0, hz1, hz2⟩ := info_parts infoOpT
  have HA := hide hA
  clear hA
  go_enter Tryz.func99, Tryz.ntmps99
  go_upto_region 2 with (fail)
  generalize hW : World.alloc _ _ = W
  have hb3 : Below w.heap.size w W := by rw [← hW]; exact (((Below.refl _ w).alloc (Nat.le_refl _) _).alloc (by simp) _).alloc (by simp; omega) _
  have hs3 : W.heap.size = w.heap.size + 3 := by rw [← hW]; simp
  have hB0 : Blk W w.heap.size 70 #[.int .i64 t.Session, .slice A t.Ops.length c, .bool t.Done] := by rw [← hW]; exact ((Blk.new w _ _).alloc _).alloc _
  have hB1 : Blk W (w.heap.size + 1) 70 #[.int .i64 0, .slice none 0 0, .bool false] := by rw [← hW]; have := (Blk.new (w.alloc (.cells #[.int .i64 t.Session, .slice A t.Ops.length c, .bool t.Done] 70)) 70 #[.int .i64 0, .slice none 0 0, .bool false]).alloc (.cells #[.int .i64 t.Session, .slice A t.Ops.length c, .bool t.Done] 70); simpa using this
  have hB2 : Blk W (w.heap.size + 1 + 1) 70 #[.int .i64 t.Session, .slice A t.Ops.length c, .bool t.Done] := by rw [← hW]; have := Blk.new ((w.alloc (.cells #[.int .i64 t.Session, .slice A t.Ops.length c, .bool t.Done] 70)).alloc (.cells #[.int .i64 0, .slice none 0 0, .bool false] 70)) 70 #[.int .i64 t.Session, .slice A t.Ops.length c, .bool t.Done]; simpa using this
  clear hW
  have c01 := hB0.cell 1
  simp only [List.getElem?_toArray, List.getElem?_cons_zero, List.getElem?_cons_succ] at c01
  have hz : w.heap.size < W.heap.size := by omega
  have HB := hide hb3; have HS := hide hs3; have H1 := hide hB1; have H2 := hide hB2
  have HOe := hide (Own.empty (T := tOp) (e := 50) W (fun b => W.heap.size ≤ b) (Nat.le_refl _))
  have HRy := hide (((HA.out.old hb3).old ((Below.refl _ W).alloc (Nat.le_refl _) (.cells #[] 50))).anyOp)
  clear hb3 hs3 hB0 hB1 hB2 HA
  go_wp2_with (at_builtin; refine wpList_cat tOp rfl (.tmp 5) (.tmp 7) 68 rfl 50 i0 _ 24 Tryz.underlying68 hi hz0 hz1 hz2 rfl (by decide) (fun b => W.heap.size ≤ b) (fun _ => False) [] t.Ops _ rfl HOe.out _ _ _ rfl rfl HRy.out (fun _ h => h.elim) (fun b hb => Nat.le_trans (by simp) hb) (by skip; simp only [maxLen, List.length_nil]; omega) (by skip; simp only [List.length_nil]; omega) ?_; intro v3 w4 hO_ hK_; have HO4 := hide hO_; have HK4 := hide ((Only.of_alloc (K := fun b => W.heap.size ≤ b) W (.cells #[] 50)).trans hK_); clear hO_ hK_; have H14 := hide (H1.out.of (HK4.out.block _ H1.out.lt (by have := H1.out.lt; omega))); have H24 := hide (H2.out.of (HK4.out.block _ H2.out.lt (by have := H2.out.lt; omega))); obtain ⟨d0, f0⟩ := (⟨H24.out.cell 0, H24.out.frozen 0⟩ : _ ∧ _); obtain ⟨d1, f1⟩ := (⟨H24.out.cell 1, H24.out.frozen 1⟩ : _ ∧ _); obtain ⟨d2, f2⟩ := (⟨H24.out.cell 2, H24.out.frozen 2⟩ : _ ∧ _); obtain ⟨e0, g0⟩ := (⟨H14.out.cell 0, H14.out.frozen 0⟩ : _ ∧ _); obtain ⟨e1, g1⟩ := (⟨H14.out.cell 1, H14.out.frozen 1⟩ : _ ∧ _); obtain ⟨e2, g2⟩ := (⟨H14.out.cell 2, H14.out.frozen 2⟩ : _ ∧ _); simp only [List.getElem?_toArray, List.getElem?_cons_zero, List.getElem?_cons_succ] at d0 d1 d2 e0 e1 e2; obtain ⟨A3, c3, rfl, h31, h32, _⟩ := HO4.out.sl)
  have HB4 := hide (below_only HB.out HK4.out HB.out.size (fun i hi => by have := HB.out.size; omega))
  refine bodyPost_ret (v := .agg #[.int .i64 t.Session, .slice A3 t.Ops.length c3, .bool t.Done]) (by simp [results, Tryz.results99, go_sem, e0, e1, e2]) rfl ⟨_, rfl, ?_, ?_⟩
  · refine Own.mono (S := In (w.heap.size + 3) w4.heap.size) ?_ (fun b h => ⟨by have := h.1; omega, by simpa using h.2⟩) (fun _ _ => rfl)
    repeat (first | refine Own.setLow (n := w.heap.size + 3) ?_ (fun b h => h.1) (by simp; try omega) _ | exact HO4.out.mono (fun b h => ⟨by have := HS.out; have := h.1; omega, h.2⟩) (fun _ _ => rfl))
  · repeat (first | refine Below.setCell ?_ (by simp; try omega) _ | exact HB4.out)
theorem take_snoc' {α : Type} (xs : List α) (k : Nat) (h : k < xs.length) : xs.take (k + 1) = xs.take k ++ [xs[k]] := List.take_succ_eq_append_getElem h
set_option maxRecDepth 10000 in
set_option maxHeartbeats 1000000 in
theorem ownTxnList (xs : List Txn) (A : Option Addr) (c : Nat) (w : World) (hm : xs.length ≤ 1048576) (hn : ∀ x ∈ xs, x.Ops.length ≤ 1048576) (hA : Row tTxn w (Old w) A xs) :
    Calls Tryz.prog 45 #[.slice A xs.length c] w fun e w' => ∃ v, e = .returned v ∧ Own (tTxnO 50) 70 w' (New w w') xs v ∧ Below w.heap.size w w' := by
  obtain ⟨i0, hi, hz0, hz1, hz2⟩ := info_parts infoTxn_
  have HA := hide hA
  have HN := hide hn
  clear hA hn
  go_enter Tryz.func45, Tryz.ntmps45
  go_wp2
  go_loopw [3, 4] (fun v i wr => ∃ k : Nat, k ≤ xs.length ∧ i = .int .i64 k ∧ Hid (Own (tTxnO 50) 70 wr (fun b => w.heap.size ≤ b ∧ Old wr b) (xs.take k) v) ∧ Below w.heap.size w wr) (fun _ i _ => xs.length - (intOf i).toNat)
  case atStart => exact ⟨0, Nat.zero_le _, rfl, Own.empty w (fun b => w.heap.size ≤ b) (Nat.le_refl _), (Below.refl _ _).alloc (Nat.le_refl _) _⟩
  case round =>
    obtain ⟨k, hk, rfl, hO, hb⟩ := hrel
    by_cases hlt : k < xs.length
    · obtain ⟨b, off, A2, c2, rfl, hbS, c0, c1, c3, hi1, hi2, hi3⟩ := at_Txn HA.out hb hlt
      have HC := hide (ownTxn xs[k] A2 c2 wr (HN.out _ (List.getElem_mem hlt)) hi3)
      have HS := hide (take_snoc' xs k hlt)
      have HB := hide hb
      have HL := hide (own_lt (B := wr.heap.size) hO.out (fun b h => h.2))
      clear hi1 hi2 hi3
      go_wp2_with (first | (go_at_call 99; refine HC.out.mono ?_; rintro e w' ⟨v2, rfl, hO2, hb2⟩; have HO2 := hide hO2; have HB2 := hide hb2; have HO1 := hide (hO.out.onlyBelow hb2); clear hO2 hb2 hO) | (at_builtin; refine wpList_put (tTxnO 50) rfl (.tmp 12) (.tmp 18) 23 rfl 70 i0 _ 40 Tryz.underlying23 hi hz0 hz1 hz2 rfl (by decide) (fun b => w.heap.size ≤ b) (New wr w') (xs.take k) xs[k] [.int .i64 xs[k].Session, v2, .bool xs[k].Done] _ rfl HO1.out _ rfl ⟨_, rfl, HO2.out⟩ (fun b h => ⟨Nat.le_trans HB.out.size h.1, h.2, fun e => by have := HL.out b e; have := h.1; omega⟩) (fun b hb => Nat.le_trans (Nat.le_trans HB.out.size HB2.out.size) hb) (by rw [List.length_take]; simp only [maxLen]; omega) (by rw [List.length_take]; omega) ?_; intro v3 w3 hO_ hK_; have HO3 := hide hO_; have HK3 := hide hK_; clear hO_ hK_))
      go_roundw
      case rel => exact ⟨k + 1, by omega, by go_num, by rw [HS.out]; exact HO3.out, below_only (HB.out.trans (HB2.out.mono HB.out.size)) HK3.out (Nat.le_trans HB.out.size HB2.out.size) (fun _ h => h)⟩
      case measure => simp [intOf]; omega
    · obtain rfl : k = xs.length := by omega
      have HS := hide (show xs.take xs.length = xs from List.take_length)
      go_wp2
      go_ret
      exact ⟨_, rfl, by have := hO.out; rw [HS.out] at this; exact this, hb⟩
end Go.Proofs.YtjiobgfaohldhaaGreatDoor
namespace Go.Proofs.YtjiobgfaohldhaaGreatDoor
open Go.RowKit
set_option linter.unusedVariables false
set_option linter.unusedSimpArgs false

/-- The cells of an operation at place k. -/
def OpAt (cur : Array Value) (k : Nat) (o : Op) : Prop := cur[k * 3]? = some (.int .i64 o.Kind) ∧ cur[k * 3 + 1]? = some (.int .i64 o.Key) ∧ cur[k * 3 + 2]? = some (.int .i64 o.Value)
theorem opAt_put {cur : Array Value} {i : Nat} {o : Op} (hi : i * 3 + 2 < cur.size) : OpAt (((cur.setIfInBounds (i * 3) (.int .i64 o.Kind)).setIfInBounds (i * 3 + 1) (.int .i64 o.Key)).setIfInBounds (i * 3 + 2) (.int .i64 o.Value)) i o := by
  refine ⟨?_, ?_, ?_⟩
  · rw [Array.getElem?_setIfInBounds_ne (by omega), Array.getElem?_setIfInBounds_ne (by omega), Array.getElem?_setIfInBounds, if_pos rfl, if_pos (by omega)]
  · rw [Array.getElem?_setIfInBounds_ne (by omega), Array.getElem?_setIfInBounds, if_pos rfl, if_pos (by simp; omega)]
  · rw [Array.getElem?_setIfInBounds, if_pos rfl, if_pos (by simp; omega)]
theorem opAt_other {cur : Array Value} {i k : Nat} {o : Op} (a b c : Value) (h : OpAt cur k o) (hik : k ≠ i) : OpAt (((cur.setIfInBounds (i * 3) a).setIfInBounds (i * 3 + 1) b).setIfInBounds (i * 3 + 2) c) k o := by
  obtain ⟨h0, h1, h2⟩ := h
  refine ⟨?_, ?_, ?_⟩
  · rw [Array.getElem?_setIfInBounds_ne (by omega), Array.getElem?_setIfInBounds_ne (by omega), Array.getElem?_setIfInBounds_ne (by omega)]; exact h0
  · rw [Array.getElem?_setIfInBounds_ne (by omega), Array.getElem?_setIfInBounds_ne (by omega), Array.getElem?_setIfInBounds_ne (by omega)]; exact h1
  · rw [Array.getElem?_setIfInBounds_ne (by omega), Array.getElem?_setIfInBounds_ne (by omega), Array.getElem?_setIfInBounds_ne (by omega)]; exact h2
theorem setCells_blk {g : Nat} {e : TypeId} : ∀ (vs : List Value) (o : Nat) (w : World) (cur : Array Value), Blk w g e cur → ∃ cur', Blk (w.setCells g o vs) g e cur' ∧ cur'.size = cur.size ∧ (∀ j, j < o → cur'[j]? = cur[j]?) ∧ Only (fun b => b = g) w (w.setCells g o vs)
  | [], o, w, cur, h => ⟨cur, h, rfl, fun _ _ => rfl, Only.refl _ _⟩
  | v :: r, o, w, cur, h => by
    obtain ⟨cur', h1, h2, h3, h4⟩ := setCells_blk r (o + 1) (w.setCell ⟨g, o, none⟩ v) _ (h.set_ o v)
    refine ⟨cur', h1, by rw [h2]; simp, fun j hj => ?_, (Only.setCell (S := fun b => b = g) (Only.refl _ w) (p := ⟨g, o, none⟩) rfl v).trans h4⟩
    rw [h3 j (by omega), Array.getElem?_setIfInBounds_ne (by omega)]
theorem run_clear_any {P : Program} {w : World} {g : Nat} {e : TypeId} {cur : Array Value} (t : TypeId) (z : Value) (ht : P.underlying t = some (.slice e)) (hv : ∀ w, (zeroValue e).run P w = .ok z w) (hz : ∀ u ∈ z.cells.toList, u.oneCell' = true)
    (o n c : Nat) (hn : 0 < n) (hB : Blk w g e cur) (hs : o + n * z.cells.size ≤ cur.size) :
    ∃ w' cur', (∀ ty, (Builtin.clear_ #[t] ty #[.slice (some ⟨g, o, none⟩) n c]).run P w = .ok (.tuple #[]) w') ∧ Blk w' g e cur' ∧ cur'.size = cur.size ∧ (∀ j, j < o → cur'[j]? = cur[j]?) ∧ Only (fun b => b = g) w w' := by
  obtain ⟨zs, hzs⟩ : ∃ zs, zs = (Builtin.zeroCells z.cells n).toList := ⟨_, rfl⟩
  have hlen : zs.length = n * z.cells.size := by rw [hzs]; simp [Builtin.zeroCells]
  have hone : ∀ v ∈ zs, v.oneCell' = true := by
    intro v hv2
    rw [hzs] at hv2
    simp only [Builtin.zeroCells, Array.toList_map, List.mem_map, Array.mem_toList_iff] at hv2
    obtain ⟨a, ha, rfl⟩ := hv2
    have hpos : 0 < z.cells.size := by
      rcases Nat.eq_zero_or_pos z.cells.size with h0 | h0
      · rw [h0] at ha; simp at ha
      · exact h0
    have hlt := Nat.mod_lt a hpos
    apply hz
    rw [getElem!_pos z.cells _ hlt]
    exact Array.mem_toList_iff.2 (Array.getElem_mem hlt)
  have hst := run_storeCells_cells (P := P) g o zs 0 w
    (fun j hj => by rw [Nat.add_zero, hB.cell, Array.getElem?_eq_getElem (by omega)]; rfl) (fun j hj => by rw [Nat.add_zero]; exact hB.frozen _) hone
  rw [Nat.add_zero] at hst
  obtain ⟨cur', h1, h2, h3, h4⟩ := setCells_blk zs o w cur hB
  refine ⟨_, cur', fun ty => ?_, h1, h2, h3, h4⟩
  obtain ⟨m, rfl⟩ : ∃ m, n = m + 1 := ⟨n - 1, by omega⟩
  simp [Builtin.clear_, run_underlying ht, hv, ← hzs, hst]

end Go.Proofs.YtjiobgfaohldhaaGreatDoor
