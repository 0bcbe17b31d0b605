/- Rows of numbers that the call itself made, each in a block of its own; the reference's FirstOrders. -/
import Derived.Test.YtkcobaimcfggjaaGreatDoorInsS
import Derived.Test.YtkcobaimcfggjaaGreatDoorOwnList
namespace Go.Proofs.YtkcobaimcfggjaaGreatDoor
open Go.RowKit
set_option linter.unusedVariables false
set_option linter.unusedSimpArgs false

/-- A list of numbers whose slice is part of the datum; it lies in that slice's own block. -/
def tIV (e : TypeId) : Ty (List Int × Value) where
  size := 1
  rel w S p cs := cs = [p.2] ∧ Own tInt e w (fun b => p.2.ownBlock = some b) p.1 p.2 ∧ ∀ b, p.2.ownBlock = some b → S b
  len h := by rw [h.1]; rfl
  one h u hu := by
    obtain ⟨h1, h2, _⟩ := h
    obtain ⟨A, c, h3, _⟩ := h2.sl
    rw [h1, h3] at hu
    simp at hu
    subst hu; rfl
  mono h h2 h3 := ⟨h.1, h.2.1.mono (fun _ h => h) (fun b hb => h3 b (h.2.2 b hb)), fun b hb => h2 b (h.2.2 b hb)⟩
/-- Different rows lie in different blocks. -/
def DistV (ps : List (List Int × Value)) : Prop := ps.Pairwise fun p q => ∀ b, p.2.ownBlock = some b → q.2.ownBlock ≠ some b
theorem DistV.snoc {ps : List (List Int × Value)} {p : List Int × Value} (h : DistV ps) (hp : ∀ q ∈ ps, ∀ b, q.2.ownBlock = some b → p.2.ownBlock ≠ some b) : DistV (ps ++ [p]) := by
  unfold DistV
  rw [List.pairwise_append]
  exact ⟨h, List.pairwise_singleton _ _, fun a ha b hb => by rw [List.mem_singleton] at hb; rw [hb]; exact hp a ha⟩
theorem ofBlockV {e : TypeId} {w : World} {S : Nat → Prop} {xs : List Int} {v : Value} (h : Own tInt e w S xs v) : Own tInt e w (fun b => v.ownBlock = some b) xs v := by
  rcases h with ⟨rfl, rfl⟩ | ⟨g, cap, cur, S', rfl, hg, hB, h1, h2, h3, h4, h5⟩
  · exact .inl ⟨rfl, rfl⟩
  · exact .inr ⟨g, cap, cur, fun _ => False, rfl, rfl, hB, h1, h2, h3, fun _ h => h.elim, fun k hk => h5 k hk⟩
theorem Own.iv {e e' : TypeId} {w : World} {S : Nat → Prop} {ps : List (List Int × Value)} {v : Value} (h : Own (tIV e) e' w S ps v) : Sl (tSlice tInt) w S (ps.map Prod.fst) v := by
  obtain ⟨A, c, rfl, h1, h2, h3⟩ := h.sl
  refine ⟨A, c, by simp, by simpa using h1, h2, fun hp => ?_⟩
  obtain ⟨b, off, rfl, hb, hr⟩ := h3 (by simpa using hp)
  refine ⟨b, off, rfl, hb, fun k hk => ?_⟩
  rw [List.length_map] at hk
  obtain ⟨cs, ⟨h4, h5, h6⟩, hc⟩ := hr k hk
  exact ⟨cs, ⟨ps[k].2, h4, by rw [List.getElem_map]; exact h5.sl.mono (fun b hb => h6 b hb) (fun _ _ => rfl)⟩, hc⟩
theorem insR_len (xs : List Txn) (key : Int) : (insR xs key).length ≤ 6 := by
  unfold insR
  split
  · rename_i hv
    have h1 := instV_len xs key xs.length
    have h2 := (histV_parts hv).1
    unfold instL
    omega
  · simp
/-- What the reference's FirstOrders answers: three rows or none. -/
def DrawnRows (w : World) (e : Ending) (w' : World) : Prop :=
  ∃ (ps : List (List Int × Value)) (v : Value), e = .returned v ∧ Own (tIV 3) 30 w' (New w w') ps v ∧ DistV ps ∧ (ps.length = 0 ∨ ps.length = 3) ∧ (∀ p ∈ ps, p.1.length ≤ 6) ∧ Below w.heap.size w w'
theorem infoIntSV : (Tryz.prog.info? 30).map (fun i => (i.zero, i.size, i.bytes)) = some (some (.slice none 0 0), 1, 24) := by kernel_rfl
set_option maxRecDepth 10000 in
set_option maxHeartbeats 2000000 in
theorem specFirstOrders (xs : List Txn) (A : Option Addr) (c : Nat) (w : World) (hm : xs.length ≤ 1048576) (hn6 : ∀ x ∈ xs, x.Ops.length ≤ 1048576) (ht : opsN xs ≤ 1048576) (hA : Row tTxn w (Old w) A xs) :
    Calls Tryz.prog 111 #[.slice A xs.length c] w (DrawnRows w) := by
  obtain ⟨i1, hi1, hz01, hz11, hz21⟩ := info_parts infoIntSV
  have hxm : xs.length ≤ maxLen := by simp only [maxLen]; omega
  have HOw := hide (ownTxnList xs A c w hm hn6 hA)
  clear hA
  go_enter Tryz.func111, Tryz.ntmps111
  go_upto_region 2 with (go_at_call 76; refine HOw.out.mono ?_; rintro e w1 ⟨v1, rfl, hO1, hb1⟩; obtain ⟨A1, c1, rfl, h11, h12, hrow⟩ := hO1.weakTxn.sl; have HA1 := hide (hrow.mono (S' := Old w1) (fun b h => h.2) (fun _ _ => rfl)); have HB1 := hide hb1; clear hb1 hO1 hrow)
  clear HOw
  have HO0 := hide (Own.empty (T := tIV 3) (e := 30) w1 (fun b => w1.heap.size ≤ b) (Nat.le_refl _))
  have HBa := hide ((Below.refl _ w1).alloc (Nat.le_refl _) (.cells #[] 30))
  have hw1 := HB1.out.size
  have HVc := hide (fun (W : World) (hb : Below w1.heap.size w1 W) => specHistoryValid xs A1 c1 W hxm (HA1.out.old hb) ht)
  cases hv : histV xs with
  | false =>
    rw [hv] at HVc
    clear hv
    go_wp2_with fail
    go_loopw [3, 4] (fun v i wr => i = .int .i64 0 ∧ Hid (Own (tIV 3) 30 wr (fun b => w1.heap.size ≤ b ∧ Old wr b) [] v) ∧ Hid (Below w1.heap.size w1 wr)) (fun _ i _ => (0 : Nat))
    case atStart => exact ⟨rfl, HO0.out, HBa.out⟩
    case round =>
      obtain ⟨rfl, hO, hb⟩ := hrel
      have HO := hide hO.out; have HB := hide hb.out
      clear hO hb HO0 HBa
      obtain ⟨wx, hwx⟩ : ∃ wx, wx = wr := ⟨_, rfl⟩
      rw [← hwx] at HO HB ⊢
      clear hwx
      have HV2 := hide (HVc.out wx HB.out)
      go_wp2_with fail
      refine HV2.out.mono ?_
      rintro e w2 ⟨rfl, hb2⟩
      have HO2 := hide (HO.out.onlyBelow hb2)
      have HB2 := hide (HB.out.trans (hb2.mono HB.out.size))
      clear hb2
      go_wp2_with fail
      go_ret
      exact ⟨[], _, rfl, HO2.out.mono (fun b h => ⟨Nat.le_trans hw1 h.1, h.2⟩) (fun _ _ => rfl), List.Pairwise.nil, (.inl rfl), (fun p hp => by cases hp), HB1.out.trans (HB2.out.mono hw1)⟩
  | true =>
    rw [hv] at HVc
    clear hv
    go_wp2_with fail
    go_loopw [3, 4] (fun v i wr => ∃ (k : Nat) (ps : List (List Int × Value)) (vo : Value), vo = v ∧ k ≤ 3 ∧ i = .int .i64 k ∧ ps.length = k ∧ Hid (DistV ps) ∧ Hid (∀ p ∈ ps, p.1.length ≤ 6) ∧ Hid (∀ p ∈ ps, ∀ b, p.2.ownBlock = some b → b < wr.heap.size) ∧ Hid (Own (tIV 3) 30 wr (fun b => w1.heap.size ≤ b ∧ Old wr b) ps v) ∧ Hid (Below w1.heap.size w1 wr)) (fun _ i _ => 3 - (intOf i).toNat)
    case atStart => exact ⟨0, [], _, rfl, Nat.zero_le _, rfl, rfl, List.Pairwise.nil, (fun p hp => by cases hp), (fun p hp => by cases hp), HO0.out, HBa.out⟩
    case round =>
      obtain ⟨k, ps, vo, rfl, hk, rfl, hpl, hD, hL, hQ, hO, hb⟩ := hrel
      have HO := hide hO.out; have HB := hide hb.out
      clear hO hb HO0 HBa
      by_cases hlt : k < 3
      · have hk2 : (k : Int) ≤ 2 := by omega
        have HV2 := hide (HVc.out wr HB.out)
        have HLk := hide (insR_len xs (k : Int))
        go_wp2_with fail
        refine HV2.out.mono ?_
        rintro e w2 ⟨rfl, hb2⟩
        have HO2 := hide (HO.out.onlyBelow hb2)
        have HB2 := hide (HB.out.trans (hb2.mono HB.out.size))
        have HZ2 := hide hb2.size
        clear hb2 HO
        go_wp2_with fail
        refine (specInstalled xs (k : Int) A1 c1 w2 hxm ht (by omega) (HA1.out.old HB2.out)).mono ?_
        rintro e w3 ⟨v3, rfl, hO3, hb3⟩
        have HO3 := hide (HO2.out.onlyBelow hb3)
        have HB3 := hide (HB2.out.trans (hb3.mono HB2.out.size))
        have HX3 := hide hb3.size
        have HR3 := hide (show (tIV 3).rel w3 (fun b => w2.heap.size ≤ b ∧ b < w3.heap.size) (insR xs (k : Int), v3) [v3] from ⟨rfl, ofBlockV hO3, fun b hb => hO3.owned b hb⟩)
        have HN3 := hide (fun b (h : vo.ownBlock = some b) => (HO2.out.owned b h).2)
        have HQ3 := hide (show ∀ b, v3.ownBlock = some b → w2.heap.size ≤ b ∧ b < w3.heap.size from fun b hb => hO3.owned b hb)
        obtain ⟨A3, c3, hv3⟩ : ∃ A c, v3 = .slice A (insR xs (k : Int)).length c := by obtain ⟨A, c, h, _⟩ := hO3.sl; exact ⟨A, c, h⟩
        generalize insR xs (k : Int) = row at HLk HR3 hv3
        obtain ⟨n3, hn3⟩ : ∃ n, n = row.length := ⟨_, rfl⟩
        rw [← hn3] at hv3
        subst hv3
        clear hO3 hb3 HO2 hn3
        go_wp2_with (at_builtin; refine wpList_put (tIV 3) rfl (.tmp 16) (.tmp 20) 24 rfl 30 i1 _ 24 Tryz.underlying24 hi1 hz01 hz11 hz21 rfl (by decide) (fun b => w1.heap.size ≤ b) (fun b => w2.heap.size ≤ b ∧ b < w3.heap.size) ps (row, .slice A3 n3 c3) [.slice A3 n3 c3] _ rfl HO3.out _ rfl HR3.out (fun b hb => ⟨Nat.le_trans HB2.out.size hb.1, hb.2, fun e => by have := HN3.out b e; have h2 := hb.1; unfold Old at this; omega⟩) (fun b hb => Nat.le_trans HB3.out.size hb) (by simp only [maxLen]; omega) (by omega) ?_; intro v8 w8 hO_ hK_; have HO8 := hide hO_; have HB8 := hide (below_only HB3.out hK_ HB3.out.size (fun b h => h)); have HS8 := hide hK_.size; clear hO_ hK_)
        go_roundw
        case rel =>
          refine ⟨k + 1, ps ++ [((row, .slice A3 n3 c3) : List Int × Value)], v8, rfl, by omega, by go_num, by simp; omega, ?_, ?_, ?_, HO8.out, HB8.out⟩
          · exact hD.out.snoc fun q hq b h1 h2 => by
              have h3 := hQ.out q hq b h1
              have h4 := HQ3.out b h2
              have h5 := HZ2.out
              omega
          · intro p hp
            rcases List.mem_append.1 hp with h1 | h1
            · exact hL.out p h1
            · rw [List.mem_singleton] at h1; rw [h1]; exact HLk.out
          · intro p hp b h2
            rcases List.mem_append.1 hp with h1 | h1
            · have h3 := hQ.out p h1 b h2
              have h4 := HZ2.out
              have h5 := HS8.out
              have h6 := HO3.out
              have h7 := HB3.out.size
              exact Nat.lt_of_lt_of_le (Nat.lt_of_lt_of_le h3 (Nat.le_trans h4 HX3.out)) h5
            · rw [List.mem_singleton] at h1
              rw [h1] at h2
              have h4 := HQ3.out b h2
              have h5 := HS8.out
              omega
        case measure => simp [intOf]; omega
      · obtain rfl : k = 3 := by omega
        have hk2 : ¬ ((3 : Nat) : Int) ≤ 2 := by omega
        go_wp2_with fail
        go_ret
        exact ⟨ps, _, rfl, HO.out.mono (fun b h => ⟨Nat.le_trans hw1 h.1, h.2⟩) (fun _ _ => rfl), hD.out, .inr hpl, hL.out, HB1.out.trans (HB.out.mono hw1)⟩
end Go.Proofs.YtkcobaimcfggjaaGreatDoor
