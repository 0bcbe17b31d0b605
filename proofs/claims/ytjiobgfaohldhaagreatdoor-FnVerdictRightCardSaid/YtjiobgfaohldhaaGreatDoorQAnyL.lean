/- The reference's l7Orders: all orders of a list. A region that draws its order of evaluation and has guards that are met: one fact for each operation. No order is looked at. A region that draws its order of evaluation: one fact for each operation, which may depend on what has come up. No order is looked at. -/
import Derived.Test.YtjiobgfaohldhaaGreatDoorQNest2
import Derived.Test.YtjiobgfaohldhaaGreatDoorQToB
import Derived.Test.YtjiobgfaohldhaaGreatDoorQAllF
import Derived.Test.YtjiobgfaohldhaaGreatDoorQAnyOrder
import Derived.Deep.RegionLaw
import Derived.Deep.AppendLies
namespace Go.Proofs.YtjiobgfaohldhaaGreatDoor
open Go.RowKit
set_option linter.unusedVariables false
set_option linter.unusedSimpArgs false

theorem hOu_keep {α : Type} {T : Ty α} {e : TypeId} {w w4 w5 : World} {K : Nat → Prop} {xs : List α} {v : Value} (h : Own T e w4 (fun b => w.heap.size ≤ b ∧ Old w4 b) xs v) (hb : Below w4.heap.size w4 w5) (hK : ∀ b, w.heap.size ≤ b ∧ Old w4 b → K b) : Own T e w5 (fun b => K b ∧ Old w5 b) xs v :=
  h.mono (fun b h => ⟨hK b h, Nat.lt_of_lt_of_le h.2 hb.size⟩) fun b h => hb.block b h.2
/-- A slice of one number, newly made. -/
theorem Own.oneInt {e : TypeId} (w : World) {S : Nat → Prop} (x : Int) (hS : S w.heap.size) :
    Own tInt e (w.alloc (.cells #[.int .i64 x] e)) S [x] (.slice (some ⟨w.heap.size, 0, none⟩) 1 1) :=
  .inr ⟨_, 1, _, fun _ => False, rfl, hS, Blk.new _ _ _, by simp, by simp [maxLen], rfl, fun _ h => h.elim, fun k hk => by
    obtain rfl : k = 0 := by simpa using hk
    refine ⟨_, rfl, fun j u hu => ?_⟩
    obtain ⟨hj, rfl⟩ := List.getElem?_eq_some_iff.1 hu
    have hj0 : j = 0 := by simpa using hj
    subst hj0
    rw [(Blk.new w e _).cell]
    rfl⟩
set_option maxRecDepth 10000 in
set_option maxHeartbeats 4000000 in
theorem orders_any (n : Nat) : ∀ (xs : List Int) (A : Option Addr) (c : Nat) (w : World), xs.length = n → n ≤ 8 → xs.length ≤ c → c ≤ maxLen → Row tInt w (Old w) A xs →
    Calls Tryz.prog 55 #[.slice A xs.length c] w fun e w' => ∃ v, e = .returned v ∧ Own (tIntSO 3) 27 w' (New w w') (permsI n xs) v ∧ Below w.heap.size w w' := by
  induction n with
  | zero =>
    intro xs A c w hl hn hc hcm hA
    obtain ⟨i1, hi1, hz01, hz11, hz21⟩ := info_parts infoIntS_
    have h0 : ((xs.length : Int) == 0) = true := by rw [beq_iff_eq]; omega
    clear hA
    go_enter Tryz.func55, Tryz.ntmps55
    go_wp2_with fail
    go_ret
    have h1 := Own.empty (T := tInt) (e := 3) w (fun b => w.heap.size ≤ b) (Nat.le_refl _)
    have h2 := Own.one (T := tIntSO 3) (e := 27) (w.alloc (.cells #[] 3)) (K := New w ((w.alloc (.cells #[] 3)).alloc (.cells #[.slice (some ⟨w.heap.size, 0, none⟩) 0 0] 27))) [.slice (some ⟨w.heap.size, 0, none⟩) 0 0] ⟨_, rfl, h1⟩ (fun b h => ⟨⟨h.1, Nat.lt_of_lt_of_le h.2 (by simp)⟩, h.2⟩) ⟨by simp, by simp⟩
    exact ⟨_, rfl, by simpa [permsI] using h2, ((Below.refl _ w).alloc (Nat.le_refl _) _).alloc (by simp) _⟩
  | succ n ih =>
    intro xs A c w hl hn hc hcm hA
    have HA := hide hA
    have hq : xs.length ≤ 9223372036854775807 := by omega
    have hc' : c ≤ 9223372036854775807 := by simpa [maxLen] using hcm
    have h0 : ((xs.length : Int) == 0) = false := by rw [beq_eq_false_iff_ne]; omega
    have HL := hide hl
    clear hA hl hcm
    obtain ⟨i0, hi, hz0, hz1, hz2⟩ := info_parts infoInt_
    obtain ⟨i1, hi1, hz01, hz11, hz21⟩ := info_parts infoIntS_
    go_enter Tryz.func55, Tryz.ntmps55
    go_wp2_with fail
    go_loopw [3, 4, 5, 6, 7] (fun v i _ _ _ wr => ∃ k : Nat, k ≤ xs.length ∧ i = .int .i64 k ∧ Hid (Own (tIntSO 3) 27 wr (fun b => w.heap.size ≤ b ∧ Old wr b) (permsK n xs k) v) ∧ Below w.heap.size w wr) (fun _ i _ _ _ _ => xs.length - (intOf i).toNat)
    case atStart => exact ⟨0, Nat.zero_le _, rfl, Own.empty w (fun b => w.heap.size ≤ b) (Nat.le_refl _), (Below.refl _ w).alloc (Nat.le_refl _) _⟩
    case round =>
      obtain ⟨k, hk, rfl, hOu, hb⟩ := hrel
      by_cases hlt : k < xs.length
      · obtain ⟨b, off, rfl, hbS, _⟩ := at_Int HA.out hb hlt
        have hk1 : (k : Int) ≤ (c : Int) := by omega
        have hk2 : (k : Int) + 1 ≤ (xs.length : Int) := by omega
        have hk3 : (0 : Int) ≤ (k : Int) + 1 := by omega
        have HOe := hide (Own.empty (T := tInt) (e := 3) wr.drew (fun b => wr.heap.size ≤ b) (Nat.le_refl _))
        have hRw := (HA.out.old hb).mono (w' := wr.drew.alloc (.cells #[] 3)) (S' := fun _ => True) (fun _ _ => trivial) (fun b hb => Below.heap_alloc _ _ _ hb)
        have HR1 := hide (hRw.takeN k).anyInt
        have HT := hide (show (xs.take k).length = k by rw [List.length_take]; omega)
        have HT2 := hide (show xs.take k ++ xs.drop (k + 1) = xs.eraseIdx k from (List.eraseIdx_eq_take_drop_succ _ _).symm)
        have HD := hide (show (xs.drop (k + 1)).length = xs.length - (k + 1) from List.length_drop)
        obtain ⟨A2, hA2, hrow2⟩ : ∃ A2 : Option Addr, (if c = k + 1 then (some ⟨b, off, none⟩ : Option Addr) else some ⟨b, off + (k + 1), none⟩) = A2 ∧ Row tInt wr (Old wr) A2 (xs.drop (k + 1)) := by
          refine ⟨_, rfl, ?_⟩
          split
          · rw [List.drop_of_length_le (by omega)]; exact Row.nil
          · have := (HA.out.old hb).cut (k + 1)
            simpa [Addr.add, tInt, flat] using this
        have HR2 := hide hrow2
        have HLb := hide hbS
        clear hRw hrow2
        have HM : Hid (xs.length ≤ 8) := by show _ ≤ _; have := HL.out; omega
        have hs : IntKind.i64.wrap ((k : Int) + 1) = (k : Int) + 1 := by rw [IntKind.wrap_i64]; omega
        go_upto_region 7 with (fail)
        go_region_law (first | (refine wp_cat tInt (.tmp 20) (.tmp 23) 27 rfl 3 i0 _ 8 Tryz.underlying27 hi hz0 hz1 hz2 rfl (by decide) (fun b => wr.heap.size ≤ b) (fun _ => False) [] (xs.take k) _ rfl HOe.out _ k c (by simp [Act.eval, Act.put]) HT.out.symm HR1.out (fun _ h => h.elim) (fun b hb => Nat.le_trans (by simp) hb) (by have := HM.out; rw [HT.out]; simp only [maxLen, List.length_nil]; omega) (by have := HM.out; rw [HT.out]; simp only [List.length_nil]; omega) ?_; intro v3 w3 hO_ hK_; have HO3 := hide hO_; have HK3 := hide hK_; clear hO_ hK_) | (refine wp_cat tInt (.tmp 24) (.tmp 28) 27 rfl 3 i0 _ 8 Tryz.underlying27 hi hz0 hz1 hz2 rfl (by decide) (fun b => wr.heap.size ≤ b) (fun _ => False) ([] ++ xs.take k) (xs.drop (k + 1)) _ rfl HO3.out A2 _ (c - (k + 1)) (by simp [Act.eval, Act.put]) HD.out.symm ((HR2.out.mono (w' := w3) (S' := fun _ => True) (fun _ _ => trivial) (fun x hx => (HK3.out.block x (Nat.lt_of_lt_of_le hx (by simp)) (by unfold Old at hx; omega)).trans (Below.heap_alloc _ _ _ hx))).anyInt) (fun _ h => h.elim) (fun b hb => by have := HK3.out.size; simp at this; omega) (by have := HM.out; rw [List.nil_append, HT.out, HD.out]; simp only [maxLen]; omega) (by have := HM.out; rw [List.nil_append, HT.out, HD.out]; omega) ?_; intro v4 w4 hO_ hK_; have HO4 := hide hO_; have HK4 := hide hK_; clear hO_ hK_))
        have HB4 := hide (show Below w.heap.size w w4 from below_only hb ((Only.of_below ((Below.refl _ wr).drew.alloc (by simp) (.cells #[] 3))).trans (HK3.out.trans HK4.out)) hb.size (fun i hi => by have := hb.size; omega))
        have HB41 := hide (show Below wr.heap.size wr w4 from below_only ((Below.refl _ wr).drew.alloc (by simp) (.cells #[] 3)) (HK3.out.trans HK4.out) (by simp) (fun i hi => hi))
        have hO4 := HO4.out
        rw [List.nil_append, HT2.out] at hO4
        obtain ⟨A4, c4, rfl, h41, h42, _⟩ := hO4.sl
        have hlen : (xs.eraseIdx k).length = n := by rw [List.length_eraseIdx_of_lt hlt]; have := HL.out; omega
        have HI := hide (ih (xs.eraseIdx k) A4 c4 w4 hlen (by omega) h41 h42 (by
          obtain ⟨A5, c5, hv5, _, _, hr5⟩ := hO4.sl.mono (w' := w4) (S' := Old w4) (fun b h => h.2) (fun _ _ => rfl)
          injection hv5 with h1 _ _
          subst h1
          exact hr5))
        have HOu := hide (hOu.out.onlyBelow HB41.out)
        have HSu := hide (permsK_succ n xs k)
        have HLk := hide (permsK_len n xs HL.out k hk)
        have HLp := hide (permsI_len n (xs.eraseIdx k) hlen)
        have HLm := hide (fun o => permsI_mem_len n (xs.eraseIdx k) o hlen)
        have HF := hide (fct_le (n := n) (by omega))
        have HGd := hide (show xs.getD k 0 = xs[k] by simp [hlt])
        clear hO4 hOu hlen HO3 HO4 HR1 HR2 HOe hA2 hs
        generalize permsI n (xs.eraseIdx k) = M at HI HSu HLp HLm
        generalize hE : xs.eraseIdx k = E at *
        go_wp2_with fail
        refine HI.out.mono ?_
        rintro e w5 ⟨v5, rfl, hO5, hb5⟩
        obtain ⟨A5, c5, rfl, h51, h52, hR5⟩ := hO5.weakIntS.old
        have hOx := hOu_keep HOu.out (K := fun b => w.heap.size ≤ b ∧ ¬ (w4.heap.size ≤ b ∧ b < w5.heap.size)) hb5 (fun b h => ⟨h.1, fun e => by have := h.2; unfold Old at this; omega⟩)
        have HOx := hide hOx
        have HR5 := hide (hO5.weakIntS.sl)
        have HB5 := hide (HB4.out.trans (hb5.mono HB4.out.size))
        have H45 := hide hb5.size
        have HB4s := hide HB4.out.size
        have hb1 : b < w.heap.size := HLb.out
        have Hrow := hide (fun (W : World) (hW : Only (fun b => w.heap.size ≤ b ∧ ¬ (w4.heap.size ≤ b ∧ b < w5.heap.size)) w5 W) => (HA.out.mono (w' := W) (S' := Old w) (fun _ h => h) (fun x hx => (hW.block x (Nat.lt_of_lt_of_le hx HB5.out.size) (fun h => by have := h.1; unfold Old at hx; omega)).trans (HB5.out.block x hx))))
        have Hmore := hide (fun (W : World) (hW : Only (fun b => w.heap.size ≤ b ∧ ¬ (w4.heap.size ≤ b ∧ b < w5.heap.size)) w5 W) => (HR5.out.mono (w' := W) (S' := New w4 w5) (fun _ h => h) (fun x hx => hW.block x hx.2 (fun h => h.2 ⟨hx.1, hx.2⟩))))
        have hM5 : M.length ≤ 40320 := by have := HLp.out; have := HF.out; omega
        have hq5 : M.length ≤ 9223372036854775807 := by omega
        have HTot : Hid ((permsK n xs k).length + M.length ≤ 9 * 40320) := by
          show _ ≤ _
          have h1 := HLk.out; have h2 := HF.out; have h3 := HM.out
          have h4 : k * fct n ≤ 8 * 40320 := Nat.mul_le_mul (by omega) h2
          omega
        clear hOx hO5 hb5 hR5 HI HOu HB41
        go_wp2_with fail
        obtain ⟨wo, hwo⟩ : ∃ wo : World, wo = wr := ⟨_, rfl⟩
        rw [← hwo] at *
        clear hwo
        go_loopw [3, 7] (fun v j wr => ∃ l : Nat, l ≤ M.length ∧ j = .int .i64 l ∧ Hid (Own (tIntSO 3) 27 wr (fun b => (w.heap.size ≤ b ∧ ¬ (w4.heap.size ≤ b ∧ b < w5.heap.size)) ∧ Old wr b) (permsK n xs k ++ (M.take l).map fun o => xs[k] :: o) v) ∧ Hid (Only (fun b => w.heap.size ≤ b ∧ ¬ (w4.heap.size ≤ b ∧ b < w5.heap.size)) w5 wr)) (fun _ j _ => M.length - (intOf j).toNat)
        case atStart => exact ⟨0, Nat.zero_le _, rfl, by rw [List.take_zero, List.map_nil, List.append_nil]; exact HOx.out, Only.refl _ _⟩
        case round =>
          obtain ⟨l, hl, rfl, hO, hOn⟩ := hrel
          by_cases hlt2 : l < M.length
          · obtain ⟨bx, offx, hbx, hbxo, hcx⟩ := at_Int ((Hrow.out wr hOn.out).mono (w' := wr) (S' := Old wr) (fun x hx => Nat.lt_of_lt_of_le (Nat.lt_of_lt_of_le hx HB5.out.size) hOn.out.size) (fun _ _ => rfl)) (Below.refl _ wr) hlt
            obtain ⟨rfl, rfl⟩ : b = bx ∧ off = offx := by simpa using hbx
            obtain ⟨b6, off6, A6, c6, rfl, hb6, hc6, h61, h62, hR6⟩ := at_IntS ((Hmore.out wr hOn.out).mono (w' := wr) (S' := Old wr) (fun x hx => Nat.lt_of_lt_of_le hx.2 hOn.out.size) (fun _ _ => rfl)).row (Below.refl _ wr) hlt2
            have hzb : b < wr.heap.size := hbxo
            have hzb6 : b6 < wr.heap.size := hb6
            have hl6 := HLm.out M[l] (List.getElem_mem hlt2)
            have hl6' : M[l].length ≤ 8 := by omega
            have HO1 := hide (Own.oneInt (e := 3) wr.drew (S := fun b => wr.heap.size ≤ b ∧ Old (wr.drew.alloc (.cells #[.int .i64 xs[k]] 3)) b) xs[k] ⟨Nat.le_refl _, by simp [Old]⟩)
            have HR6 := hide ((hR6.mono (w' := wr.drew.alloc (.cells #[.int .i64 xs[k]] 3)) (S' := fun _ => True) (fun _ _ => trivial) (fun b hb => Below.heap_alloc _ _ _ hb)).anyInt)
            have HOl := hide (own_lt (B := wr.heap.size) hO.out (fun b h => h.2))
            have HLt := hide (show ∀ p : List Int, p = xs[k] :: M[l] → (permsK n xs k ++ (M.take l).map fun o => xs[k] :: o) ++ [p] = permsK n xs k ++ (M.take (l + 1)).map fun o => xs[k] :: o by
              intro p hp
              rw [List.take_succ_eq_append_getElem hlt2, List.map_append, ← List.append_assoc, hp]
              rfl)
            have HLn := hide (show (permsK n xs k ++ (M.take l).map fun o => xs[k] :: o).length + 1 ≤ 9 * 40320 by
              have h1 := HTot.out; rw [List.length_append, List.length_map, List.length_take]; omega)
            have HOw := hide hO.out
            have HOn := hide hOn.out
            have HOs := hide hOn.out.size
            have Hz5 := hide (show w.heap.size ≤ wr.heap.size from Nat.le_trans HB5.out.size hOn.out.size)
            clear hbxo hb6 hl6 hR6 hO hOn hbx
            go_upto_region 12 with (fail)
            go_region_law (first | (refine wp_cat tInt (.tmp 43) (.tmp 47) 27 rfl 3 i0 _ 8 Tryz.underlying27 hi hz0 hz1 hz2 rfl (by decide) (fun b => wr.heap.size ≤ b) (fun _ => False) [xs[k]] M[l] _ rfl HO1.out A6 _ c6 (by simp [Act.eval, Act.put]) rfl HR6.out (fun _ h => h.elim) (fun b hb => Nat.le_trans (by simp) hb) (by simp only [maxLen, List.length_singleton]; omega) (by simp only [List.length_singleton]; omega) ?_; intro v8 w8 hO_ hK_; obtain ⟨A8, c8, rfl, h81, h82, _⟩ := hO_.sl; have HO8 := hide hO_; have HK8 := hide hK_; clear hO_ hK_) | (refine wp_put (tIntSO 3) (.tmp 38) (.tmp 49) 31 rfl 27 i1 _ 24 Tryz.underlying31 hi1 hz01 hz11 hz21 rfl (by decide) (fun b => w.heap.size ≤ b ∧ ¬ (w4.heap.size ≤ b ∧ b < w5.heap.size)) (fun b => wr.heap.size ≤ b ∧ Old w8 b) _ ([xs[k]] ++ M[l]) [.slice A8 ([xs[k]] ++ M[l]).length c8] _ (by simp [Act.eval, Act.put]) (HOw.out.mono (w' := w8) (S2 := fun b => (w.heap.size ≤ b ∧ ¬ (w4.heap.size ≤ b ∧ b < w5.heap.size)) ∧ Old w8 b) (fun b h => ⟨h.1, by have := HK8.out.size; have := h.2; simp [Old] at *; omega⟩) (fun b h => (HK8.out.block b (Nat.lt_of_lt_of_le h.2 (by simp)) (by have := h.2; unfold Old at this; omega)).trans (Below.heap_alloc _ _ _ h.2))) 1 (by simp [Act.eval, Act.put]) ⟨_, rfl, HO8.out⟩ (fun b h => ⟨⟨Nat.le_trans Hz5.out h.1, fun e => by have := HOs.out; have := h.1; omega⟩, h.2, fun e => by have := HOl.out b e; have := h.1; omega⟩) (fun b hb => by have := HK8.out.size; simp at this; have := HOs.out; have := Hz5.out; exact ⟨by omega, fun e => by omega⟩) (by have := HLn.out; simp only [maxLen]; omega) (by have := HLn.out; omega) ?_; intro v9 w9 hO_ hK_; have HO9 := hide hO_; have HK9 := hide hK_; clear hO_ hK_))
            all_goals
              have HL9 := hide (HLt.out _ rfl : _ = permsK n xs k ++ (M.take (l + 1)).map fun o => xs[k] :: o)
              have HB9 := hide ((Only.of_below (S := fun b => wr.heap.size ≤ b) ((Below.refl _ wr).drew.alloc (by simp) (.cells #[.int .i64 xs[k]] 3))).trans HK8.out)
              go_wp2_with fail
              go_roundw
              case rel => exact ⟨l + 1, by omega, by go_num, (by have h9 := HO9.out; have e9 := HL9.out; exact e9 ▸ h9), (HOn.out.trans (HB9.out.mono (fun b hb => ⟨Nat.le_trans Hz5.out hb, fun e => by have := HOs.out; omega⟩))).trans HK9.out⟩
              case measure => simp [intOf]; omega
          · obtain rfl : l = M.length := by omega
            have HO8 := hide (show Own (tIntSO 3) 27 wr (fun b => w.heap.size ≤ b ∧ Old wr b) (permsK n xs (k + 1)) _ from by
              rw [HSu.out, HGd.out]
              have := hO.out
              rw [List.take_length] at this
              exact this.mono (fun b h => ⟨h.1.1, h.2⟩) (fun _ _ => rfl))
            have HB8 := hide (below_only HB5.out hOn.out HB5.out.size (fun i hi => hi.1))
            clear hO hOn
            go_wp2_with fail
            go_roundw
            case rel => exact ⟨k + 1, by omega, by go_num, HO8.out, HB8.out⟩
            case measure => simp [intOf]; omega
      · obtain rfl : k = xs.length := by omega
        have HP := hide (permsI_succ n xs (by rintro rfl; have := HL.out; simp at this))
        have HB8 := hide hb
        clear hb
        go_wp2_with fail
        go_ret
        exact ⟨_, rfl, by rw [HP.out]; exact hOu.out, HB8.out⟩
end Go.Proofs.YtjiobgfaohldhaaGreatDoor
namespace Go.Proofs.YtjiobgfaohldhaaGreatDoor
open Go

def guardOf (ops : Array Oper) (i : Nat) : Option (Nat × Bool) := (ops[i]?).bind (·.guard)
/-- As wellB; an operation's guard waits among what it waits for. -/
def wellG (ops : Array Oper) (n size : Nat) : Bool := (List.range n).all (fun i =>
  (depsOf ops i).all (fun j => decide (j < i)) && ((guardOf ops i).map fun p => (depsOf ops i).contains p.1 && (dstOf ops p.1).isSome).getD true && ((dstOf ops i).map fun d => decide (d < size)).getD true &&
    (List.range n).all fun j => i == j || dstOf ops i == none || dstOf ops i != dstOf ops j)
theorem yielded_of {ops : Array Oper} {a : Act} {g d : Nat} {b : Bool} (hd : dstOf ops g = some d) (hv : a.tmps.getD d undef = .bool b) : yielded ops a.tmps g = some b := by
  unfold dstOf at hd
  unfold yielded
  rw [hd]
  show (match a.tmps[d]? with | some (.bool b) => some b | _ => none) = some b
  rw [Array.getD_eq_getD_getElem?] at hv
  cases hx : a.tmps[d]? with
  | none => rw [hx] at hv; cases hv
  | some v =>
    rw [hx] at hv
    have : v = .bool b := hv
    rw [this]
section
variable {P : Program} {ops : Array Oper} {Q : Exit → Act → World → Prop}
theorem well_atG {ops : Array Oper} {n m i : Nat} (h : wellG ops n m = true) (hi : i < n) : (∀ j ∈ depsOf ops i, j < i) ∧ (∀ p, guardOf ops i = some p → p.1 ∈ depsOf ops i ∧ (dstOf ops p.1).isSome = true) ∧ (∀ d, dstOf ops i = some d → d < m) ∧ ∀ j, j < n → i ≠ j → ∀ d, dstOf ops i = some d → dstOf ops j ≠ some d := by
  unfold wellG at h
  rw [List.all_eq_true] at h
  have h1 := h i (List.mem_range.2 hi)
  simp only [Bool.and_eq_true, List.all_eq_true, decide_eq_true_eq, Bool.or_eq_true, beq_iff_eq, bne_iff_ne, List.mem_range] at h1
  obtain ⟨⟨⟨h2, h3⟩, h4⟩, h5⟩ := h1
  refine ⟨h2, fun p hp => ?_, fun d hd => ?_, fun j hj hij d hd e => ?_⟩
  · rw [hp] at h3
    simpa [List.contains_iff_mem] using h3
  · rw [hd] at h4
    simpa using h4
  · rcases h5 j hj with (h6 | h6) | h6
    · exact hij h6
    · rw [hd] at h6; cases h6
    · exact h6 (hd.trans e.symm)
end
end Go.Proofs.YtjiobgfaohldhaaGreatDoor
namespace Go.Proofs.YtjiobgfaohldhaaGreatDoor
open Go

section
variable {P : Program} {ops : Array Oper} {Q : Exit → Act → World → Prop}
theorem need_run {n : Nat} {L : Array Bool} (hH : HeadInv .any ops n L) {i k : Nat} (hk : k ≠ i) (h : needB ops n i k = true) (hd : ∀ j ∈ depsOf ops i, L.getD j false = true) : L.getD k false = true := by
  cases n with
  | zero => exact absurd (by simpa [needB] using h : i = k).symm hk
  | succ f =>
    unfold needB at h
    simp only [Bool.or_eq_true, beq_iff_eq, List.any_eq_true] at h
    rcases h with h | ⟨j, hj, h⟩
    · exact absurd h.symm hk
    · exact need_listed hH f j (hd j hj) h
structure InvL (n : Nat) (J : (Nat → Bool) → World → Prop) (F : (Nat → Bool) → Nat → Value → World → Prop) (a0 : Act) (L : Array Bool) (a : Act) (w : World) : Prop where
  j : J (fun i => L.getD i false) w
  size : a.tmps.size = a0.tmps.size
  defers : a.defers = a0.defers
  same : ∀ t, (∀ i, L.getD i false = true → dstOf ops i ≠ some t) → a.tmps.getD t undef = a0.tmps.getD t undef
  fact : ∀ i, L.getD i false = true → F (fun i => L.getD i false) i (valAt ops a i) w
  head : HeadInv .any ops n L
theorem anyOrderL (n : Nat) (J : (Nat → Bool) → World → Prop) (F : (Nat → Bool) → Nat → Value → World → Prop) (Ev : Nat → World → World → Prop) (a0 : Act) (hw : wellG ops n a0.tmps.size = true) (ht : tailB ops n = true) (hG : ∀ i p, i < n → guardOf ops i = some p → ∀ L v w, F L p.1 v w → v = .bool p.2)
    (hEv : ∀ (L : Nat → Bool) i k v w w', i < n → k < n → needB ops n i k = false → L k = false → (∀ j, j ≠ k → needB ops n k j = true → L j = true) → F L i v w → Ev k w w' → F (fun j => if j = k then true else L j) i v w')
    (hstep : ∀ i o, i < n → ops[i]? = some o → ∀ (a : Act) (w : World) (L : Nat → Bool), L i = false → J L w → (∀ t, calmB ops n i t = true → a.tmps.getD t undef = a0.tmps.getD t undef) →
      (∀ j, j ∈ depsOf ops i → F L j (valAt ops a j) w) → ∀ K : Act → World → Prop, (∀ v w', F (fun j => if j = i then true else L j) i (if o.dst = none then undef else v) w' → J (fun j => if j = i then true else L j) w' → Ev i w w' → K (a.put o.dst v) w') → o.wp P a w K Q)
    (hend : ∀ (vs : Nat → Value) (w' : World) (L : Nat → Bool), (∀ i, i < n → L i = true) → J L w' → (∀ i, i < n → F L i (vs i) w') → wpList P ops Q (ops.toList.drop n) (putAll ops vs a0 (List.range n)) w') :
    ∀ (fuel : Nat) (L : Array Bool) (a : Act) (w : World), openN ops.size L = fuel → InvL (ops := ops) n J F a0 L a w → wpAny P .any ops Q fuel L a w := by
  unfold tailB at ht
  simp only [Bool.and_eq_true, decide_eq_true_eq] at ht
  obtain ⟨⟨⟨⟨hsink, hchain⟩, hseq⟩, hopen⟩, hns⟩ := ht
  have hlt : ∀ {L : Array Bool} {i : Nat}, HeadInv .any ops n L → L.getD i false = true → i < n := fun {L i} hH h => by
    rcases Nat.lt_or_ge i n with h' | h'
    · exact h'
    · rcases Nat.lt_or_ge i ops.size with h2 | h2
      · have := hH.tail i h' h2
        rw [getD_both this] at h; cases h
      · simp [Array.getElem?_eq_none (show L.size ≤ i by rw [hH.size]; exact h2)] at h
  have hdone : ∀ (L : Array Bool) (a : Act) (w : World), InvL (ops := ops) n J F a0 L a w → (∀ i, i < n → L.getD i false = true) → ∀ fuel, openN ops.size L = fuel → wpAny P .any ops Q fuel L a w := fun L a w hI hall fuel hfu => by
    have h := hend (valAt ops a) w _ hall hI.j (fun i hi => hI.fact i (hall i hi))
    have ha : a = putAll ops (valAt ops a) a0 (List.range n) := by
      have hs := size_putAll ops (valAt ops a) (List.range n) a0
      refine act_ext (hI.size.trans hs.1.symm) (hI.defers.trans hs.2.symm) fun t ht => ?_
      refine (getD_putAll ops _ t _ _ a0 (fun i _ hd => ?_) ?_ (by rw [← hI.size]; exact ht)).symm
      · unfold valAt; rw [hd]
      · by_cases hex : ∃ i ∈ List.range n, dstOf ops i = some t
        · exact .inr hex
        · exact .inl (hI.same t fun i hi hd => hex ⟨i, List.mem_range.2 (hlt hI.head hi), hd⟩).symm
    rw [← ha] at h
    have hL : L = headL n ops.size := by
      refine Array.ext (by rw [hI.head.size]; simp [headL]) fun i h1 h2 => ?_
      have h3 : i < ops.size := by rw [← hI.head.size]; exact h1
      simp only [headL, List.getElem_toArray, List.getElem_map, List.getElem_range]
      by_cases hi : i < n
      · have := hall i hi
        simp [h1] at this
        rw [this]; simp [hi]
      · have := hI.head.tail i (by omega) h3
        simp [h1] at this
        rw [this]; simp [hi]
    subst hL
    rw [hopen] at hfu
    have hlen : (ops.toList.drop n).length = ops.size - n := by simp
    have := wpAny_of_seq (md := .any) (Q' := Q) (ops.toList.drop n) n (headL n ops.size) a w (fun j => by simp [List.getElem?_drop]) (by rw [hlen]; exact hseq) h
    rw [hlen] at this
    rw [← hfu]
    exact this
  intro fuel
  induction fuel with
  | zero =>
    intro L a w ho hI
    refine hdone L a w hI (fun i hi => ?_) 0 ho
    cases hL : L.getD i false with
    | true => rfl
    | false =>
      have hs : i < L.size := by rw [hI.head.size]; omega
      have := openN_set (n := ops.size) (show i < ops.size by omega) (show L.getD i true = false by simp [hs] at hL ⊢; exact hL)
      omega
  | succ fuel ih =>
    intro L a w ho hI
    by_cases hex : ∀ i, i < n → L.getD i false = true
    · exact hdone L a w hI hex _ ho
    have hun : ∃ i, i < n ∧ L.getD i false = false := by
      refine Classical.byContradiction fun hno => hex fun i hi => ?_
      cases hL : L.getD i false with
      | true => rfl
      | false => exact absurd ⟨i, hi, hL⟩ hno
    obtain ⟨i0, hi0, hu0⟩ := hun
    have hs0 : i0 < L.size := by rw [hI.head.size]; omega
    have hu1 : L.getD i0 true = false := by simp [hs0] at hu0 ⊢; exact hu0
    have hne : Region.ready .any ops L ≠ [] := fun hr => by
      have hall : ∀ m, ∀ i, i < m → i < n → L.getD i false = true := fun m => by
        induction m with
        | zero => intro i hi; omega
        | succ m ihm =>
          intro i hi hin
          cases hL : L.getD i false with
          | true => rfl
          | false =>
            exfalso
            have hio : i < ops.size := by omega
            have hs : i < L.size := by rw [hI.head.size]; exact hio
            have hmem : i ∈ Region.ready .any ops L := mem_ready.2 ⟨by simp [hs] at hL ⊢; exact hL, ops[i], by simp [hio], fun e he hb => by
              have hd : e.on ∈ depsOf ops i := (mem_deps (by simp [hio])).2 ⟨e, he, hb, rfl⟩
              have hlt := (well_atG hw hin).1 _ hd
              exact ihm e.on (by omega) (by omega)⟩
            rw [hr] at hmem
            cases hmem
      rw [hall (i0 + 1) i0 (by omega) hi0] at hu0
      cases hu0
    refine ⟨fun h => absurd h hne, fun i hi => ?_⟩
    have hin : i < n := by
      rcases Nat.lt_or_ge i n with h | h
      · exact h
      · exact absurd hi (tail_waits hsink hchain hns hI.head (n - i0) i0 rfl hi0 hu1 i h)
    obtain ⟨h0, o, hoi, hall⟩ := mem_ready.1 hi
    have hio : i < ops.size := (Array.getElem?_eq_some_iff.1 hoi).1
    have hiL : i < L.size := by rw [hI.head.size]; exact hio
    have hLi : L.getD i false = false := by simp [hiL] at h0 ⊢; exact h0
    have hwell := well_atG hw hin
    have hdo : dstOf ops i = o.dst := by unfold dstOf; rw [hoi]; rfl
    have hdep : ∀ j ∈ depsOf ops i, L.getD j false = true := fun j hj => by
      obtain ⟨e, he, hb, rfl⟩ := (mem_deps hoi).1 hj
      exact hall e he hb
    have hwd : Region.wanted o (yielded ops a.tmps) = true := by
      cases hg : o.guard with
      | none => simp [Region.wanted, hg]
      | some p =>
        obtain ⟨g, b⟩ := p
        have hgo : guardOf ops i = some (g, b) := by unfold guardOf; rw [hoi]; exact hg
        obtain ⟨hgd, hgs⟩ := hwell.2.1 (g, b) hgo
        have hv := hG i (g, b) hin hgo _ _ _ (hI.fact g (hdep g hgd))
        obtain ⟨d, hd⟩ := Option.isSome_iff_exists.1 hgs
        have hy : yielded ops a.tmps g = some b := yielded_of hd (by unfold valAt at hv; rw [hd] at hv; exact hv)
        simp [Region.wanted, hg, hy]
    unfold wpOp
    rw [hoi]
    simp only [hwd, if_true]
    refine .inl (hstep i o hin hoi a w (fun i => L.getD i false) hLi hI.j (fun t ht => ?_) (fun j hj => hI.fact j (hdep j hj)) _ fun v w' hF hJ hE => ?_)
    · refine hI.same t fun j hj hd => ?_
      unfold calmB at ht
      rw [List.all_eq_true] at ht
      have h1 := ht j (List.mem_range.2 (hlt hI.head hj))
      simp only [Bool.or_eq_true, bne_iff_ne, beq_iff_eq, List.contains_iff_mem] at h1
      rcases h1 with (h1 | h1) | h1
      · exact h1 hd
      · rw [h1, hLi] at hj; cases hj
      · have hjo : j < ops.size := by have := hlt hI.head hj; omega
        obtain ⟨e, he, hb, rfl⟩ := (mem_deps (show ops[j]? = some ops[j] by simp [hjo])).1 h1
        have := hI.head.closed j ops[j] (by simp [hjo]) hj e he hb
        rw [hLi] at this; cases this
    · have hset : ∀ j, (L.setIfInBounds i true).getD j false = if j = i then true else L.getD j false := fun j => by
        by_cases hji : j = i
        · subst hji; simp [hiL]
        · rw [getD_set_ne false (Ne.symm hji), if_neg hji]
      refine ih (L.setIfInBounds i true) (a.put o.dst v) w' (by have := openN_set hio h0; omega) ⟨?_, by rw [size_put]; exact hI.size, by rw [defers_put]; exact hI.defers, fun t ht => ?_, fun j hj => ?_, hI.head.set hi hin⟩
      · simp only [hset]; exact hJ
      · have hne : o.dst ≠ some t := by rw [← hdo]; exact ht i (by rw [hset, if_pos rfl])
        rw [getD_put_ne _ _ _ _ hne]
        exact hI.same t fun j hj => ht j (by rw [hset]; split <;> first | rfl | exact hj)
      · rw [hset] at hj
        simp only [hset]
        by_cases hji : j = i
        · subst hji
          unfold valAt
          rw [hdo]
          cases hd : o.dst with
          | none => simpa [hd] using hF
          | some d =>
            simp only
            rw [getD_put_same _ _ _ (by rw [hI.size]; exact hwell.2.2.1 d (hdo.trans hd))]
            simpa [hd] using hF
        · rw [if_neg hji] at hj
          have hnd : needB ops n j i = false := by
            cases hq : needB ops n j i with
            | false => rfl
            | true =>
              have := need_listed hI.head n j hj hq
              rw [hLi] at this; cases this
          have hf := hEv _ _ _ _ _ _ (hlt hI.head hj) hin hnd hLi (fun j2 hj2 hn2 => need_run hI.head hj2 hn2 hdep) (hI.fact j hj) hE
          have hv : valAt ops (a.put o.dst v) j = valAt ops a j := by
            unfold valAt
            cases hdj : dstOf ops j with
            | none => rfl
            | some d =>
              simp only
              refine getD_put_ne _ _ _ _ fun e => ?_
              exact hwell.2.2.2 j (hlt hI.head hj) (Ne.symm hji) d (hdo.trans e) hdj
          rw [hv]
          exact hf
theorem wp_region_factsL {l : List Oper} {id : Nat} {a0 : Act} {w0 : World} (n : Nat) (J : (Nat → Bool) → World → Prop) (F : (Nat → Bool) → Nat → Value → World → Prop) (Ev : Nat → World → World → Prop) (ds : List (Option Tmp)) (hm : P.follows .mixedOrders = true) (hw : wellG l.toArray n a0.tmps.size = true) (ht : tailB l.toArray n = true) (hG : ∀ i p, i < n → guardOf l.toArray i = some p → ∀ L v w, F L p.1 v w → v = .bool p.2)
    (hds : (List.range n).map (dstOf l.toArray) = ds) (h0 : J (fun _ => false) w0.drew) (hEv : ∀ (L : Nat → Bool) i k v w w', i < n → k < n → needB l.toArray n i k = false → L k = false → (∀ j, j ≠ k → needB l.toArray n k j = true → L j = true) → F L i v w → Ev k w w' → F (fun j => if j = k then true else L j) i v w')
    (hstep : ∀ i o, i < n → l.toArray[i]? = some o → ∀ (a : Act) (w : World) (L : Nat → Bool), L i = false → J L w → (∀ t, calmB l.toArray n i t = true → a.tmps.getD t undef = a0.tmps.getD t undef) →
      (∀ j d, depB l.toArray i j d = true → F L j (a.tmps.getD d undef) w) → ∀ K : Act → World → Prop, (∀ v w', F (fun j => if j = i then true else L j) i (if o.dst = none then undef else v) w' → J (fun j => if j = i then true else L j) w' → Ev i w w' → K (a.put o.dst v) w') → o.wp P a w K Q)
    (hend : ∀ (vs : Nat → Value) (w' : World) (L : Nat → Bool), (∀ i, i < n → L i = true) → J L w' → (∀ i, i < n → F L i (vs i) w') → wpList P l.toArray Q (l.drop n) (putD vs ds 0 a0) w') : (Code.region id l.toArray true).wp P Q a0 w0 := by
  have hf : ∀ i : Nat, (Array.replicate l.toArray.size false).getD i false = false := fun i => getD_replicate_false _ _
  refine wp_region_any hm (anyOrderL n J F Ev a0 hw ht hG hEv (fun i o hi ho a w L hL hJ hc hd K hK => hstep i o hi ho a w L hL hJ hc (fun j d hjd => ?_) K hK) (fun vs w' L hL hJ hF => ?_) _ _ _ _ ?_ ⟨?_, rfl, rfl, fun _ _ => rfl, fun i hi => ?_, by simp, fun j oj _ hl => (by rw [hf] at hl; cases hl), fun t _ ht => getD_in (by simpa using ht) (hf _)⟩)
  · unfold depB at hjd
    simp only [Bool.and_eq_true, List.contains_iff_mem, beq_iff_eq] at hjd
    have h := hd j hjd.1
    unfold valAt at h
    rw [hjd.2] at h
    exact h
  · have h := hend vs w' L hL hJ hF
    rw [← hds, List.range_eq_range', ← putD_eq, ← List.range_eq_range'] at h
    exact h
  · unfold openN
    rw [List.countP_eq_length.2 fun i hi => by
      have hi' : i < l.length := by simpa using List.mem_range.1 hi
      simp [hi']]
    simp
  · simp only [hf]; exact h0
  · rw [hf] at hi; cases hi
end
end Go.Proofs.YtjiobgfaohldhaaGreatDoor
