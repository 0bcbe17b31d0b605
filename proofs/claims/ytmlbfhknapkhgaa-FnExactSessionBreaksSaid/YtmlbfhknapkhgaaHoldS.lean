/- Lists of lists of numbers in memory of the call's own that can be marked, each list in a block of its own. -/
import Derived.Test.YtmlbfhknapkhgaaHold
namespace Go.Proofs.Ytmlbfhknapkhgaa
open Go.RowKit
set_option linter.unusedVariables false
set_option linter.unusedSimpArgs false

/-- Lists that hold something lie in blocks that are told apart. -/
def Far (ps : List (List Int × Nat)) : Prop := ps.Pairwise fun a b => 0 < a.1.length → 0 < b.1.length → a.2 ≠ b.2
def HoldS (w : World) (S : Nat → Prop) (xss : List (List Int)) (v : Value) : Prop :=
  ∃ ps g, ps.map Prod.fst = xss ∧ Hold (tIntSB 3) 31 w S ps v g ∧ Far ps
theorem HoldS.mono {w w' : World} {S S' : Nat → Prop} {xss : List (List Int)} {v : Value} (h : HoldS w S xss v) (h1 : ∀ b, S b → S' b) (h2 : ∀ b, S b → w'.heap[b]? = w.heap[b]?) : HoldS w' S' xss v := by
  obtain ⟨ps, g, e, h3, h4⟩ := h
  exact ⟨ps, g, e, h3.mono h1 h2, h4⟩
theorem HoldS.sl {w : World} {S : Nat → Prop} {xss : List (List Int)} {v : Value} (h : HoldS w S xss v) : Sl (tSlice tInt) w S xss v := by
  obtain ⟨ps, g, rfl, h3, h4⟩ := h
  exact h3.sl.intSB
/-- The mark at which list j begins. -/
def kS (k : Int) (ls : List Nat) (j : Nat) : Int := k + ((ls.take j).sum : Nat)
theorem kS_succ (k : Int) (ls : List Nat) (j : Nat) (h : j < ls.length) : kS k ls (j + 1) = kS k ls j + (ls[j] : Int) := by
  unfold kS
  rw [List.take_succ_eq_append_getElem h, List.sum_append]
  simp
  omega
theorem kS_le (k : Int) (ls : List Nat) (B : Nat) (hB : ∀ l ∈ ls, l ≤ B) : ∀ j, kS k ls j ≤ k + j * B
  | 0 => by simp [kS]
  | j + 1 => by
    have h1 := kS_le k ls B hB j
    have h5 : (((j + 1 : Nat) : Int) * (B : Int)) = (j : Int) * (B : Int) + B := by rw [Int.natCast_add, Int.add_mul]; simp
    by_cases hj : j < ls.length
    · have h2 := kS_succ k ls j hj
      have h3 := hB _ (List.getElem_mem hj)
      omega
    · have h2 : kS k ls (j + 1) = kS k ls j := by unfold kS; rw [List.take_of_length_le (by omega), List.take_of_length_le (by omega)]
      omega
theorem kS_ge (k : Int) (ls : List Nat) (j : Nat) : k ≤ kS k ls j := by unfold kS; omega
/-- Lists of which the first i bear their marks. -/
structure MS (S : Nat → Prop) (g : Nat) (k : Int) (ls gs : List Nat) (i : Nat) (w : World) : Prop where
  blk : ∃ cur, Blk w g 31 cur
  inn : ∀ j (hj : j < ls.length) (hg : j < gs.length), ∃ A c, w.cell? ⟨g, j, none⟩ = some (.slice A ls[j] c) ∧ (0 < ls[j] → A = some ⟨gs[j], 0, none⟩ ∧ S gs[j] ∧ ∃ cur, Blk w gs[j] 3 cur ∧ ls[j] ≤ cur.size ∧ (j < i → ∀ t, t < ls[j] → cur[t]? = some (.int .i64 (kS k ls j + t))))
theorem MS.keep {S : Nat → Prop} {g : Nat} {k : Int} {ls gs : List Nat} {i : Nat} {w w' : World} (h : MS S g k ls gs i w) (hw : ∀ b, S b → w'.heap[b]? = w.heap[b]?) (hg : S g) : MS S g k ls gs i w' := by
  obtain ⟨⟨cur, hb⟩, hi⟩ := h
  refine ⟨⟨cur, hb.of (hw g hg)⟩, fun j hj hgj => ?_⟩
  obtain ⟨A, c, h1, h2⟩ := hi j hj hgj
  refine ⟨A, c, (World.cell?_of_block (hw g hg)).trans h1, fun hp => ?_⟩
  obtain ⟨h3, h4, cur2, h5, h6⟩ := h2 hp
  exact ⟨h3, h4, cur2, h5.of (hw _ h4), h6⟩
def MarkedS (w : World) (S : Nat → Prop) (A : Option Addr) (k : Int) (ls gs : List Nat) : Prop :=
  0 < ls.length → ∃ g, A = some ⟨g, 0, none⟩ ∧ S g ∧ ls.length = gs.length ∧ MS S g k ls gs ls.length w
theorem MarkedS.keep {w w' : World} {S : Nat → Prop} {A : Option Addr} {k : Int} {ls gs : List Nat} (h : MarkedS w S A k ls gs) (hw : ∀ b, S b → w'.heap[b]? = w.heap[b]?) : MarkedS w' S A k ls gs := fun hp => by
  obtain ⟨g, hA, hg, hl, hm⟩ := h hp
  exact ⟨g, hA, hg, hl, hm.keep hw hg⟩
theorem MS.start {w : World} {S : Nat → Prop} {ps : List (List Int × Nat)} {A : Option Addr} {n c g : Nat} (h : Hold (tIntSB 3) 31 w S ps (.slice A n c) g) (hp : 0 < ps.length) (k : Int) :
    A = some ⟨g, 0, none⟩ ∧ S g ∧ MS S g k (ps.map fun p => p.1.length) (ps.map Prod.snd) 0 w := by
  obtain ⟨A', c', hv, hc, hm, hr⟩ := h
  injection hv with h1 h2 h3
  subst h1
  obtain ⟨rfl, hg, ⟨cur, hB, hs⟩, S', hS', hrow⟩ := hr hp
  refine ⟨rfl, hg, ⟨cur, hB⟩, fun j hj hgj => ?_⟩
  have hj2 : j < ps.length := by simpa using hj
  obtain ⟨cs, ⟨v, rfl, A3, c3, rfl, h4, h5, h6⟩, hcs⟩ := hrow j hj2
  refine ⟨A3, c3, ?_, fun hpos => ?_⟩
  · have := hcs 0 _ rfl
    simp only [tIntSB, Nat.zero_add] at this
    simpa using this
  · simp only [List.getElem_map] at hpos ⊢
    obtain ⟨rfl, hg2, ⟨cur2, hB2, hs2⟩, _⟩ := h6 hpos
    have hs3 : ps[j].1.length * 1 ≤ cur2.size := hs2
    exact ⟨rfl, (hS' _ hg2).1, cur2, hB2, by omega, fun h => absurd h (by omega)⟩
set_option maxRecDepth 10000 in
set_option maxHeartbeats 1000000 in
theorem markIntSS_own (ls gs : List Nat) (k : Int) (A : Option Addr) (c : Nat) (w : World) (S : Nat → Prop) (hn : ls.length ≤ 1048576) (hs : ∀ l ∈ ls, l ≤ 1048576) (h0 : 0 ≤ k) (h1 : k ≤ 1048576) (hlg : ls.length = gs.length)
    (hup : ∀ i j (hi : i < ls.length) (hj : j < ls.length) (gi : i < gs.length) (gj : j < gs.length), i ≠ j → 0 < ls[i] → 0 < ls[j] → gs[i] ≠ gs[j])
    (hS : 0 < ls.length → ∃ g, A = some ⟨g, 0, none⟩ ∧ S g ∧ MS S g k ls gs 0 w) :
    Calls Try.prog 34 #[.slice A ls.length c, .int .i64 k] w fun e w' => e = .returned (.int .i64 (kS k ls ls.length)) ∧ Only S w w' ∧ MarkedS w' S A k ls gs := by
  have HS := hide hS
  have HU := hide hup
  have HLG := hide hlg
  have HK := hide (fun j => kS_le k ls 1048576 hs j)
  have HKS := hide (kS_succ k ls)
  clear hS hup hlg
  go_enter Try.func34, Try.ntmps34
  go_wp2
  go_loopw [1, 5] (fun m i wr => ∃ (j : Nat), j ≤ ls.length ∧ i = .int .i64 j ∧ m = .int .i64 (kS k ls j) ∧ Hid (Only S w wr) ∧ Hid (0 < ls.length → ∃ g, A = some ⟨g, 0, none⟩ ∧ S g ∧ MS S g k ls gs j wr)) (fun _ i _ => ls.length - (intOf i).toNat)
  case atStart => exact ⟨0, Nat.zero_le _, rfl, by simp [kS], Only.refl _ _, HS.out⟩
  case round =>
    obtain ⟨j, hj, rfl, rfl, hOn, hM⟩ := hrel
    by_cases hlt : j < ls.length
    · obtain ⟨g, rfl, hg, hMT⟩ := hM.out (by omega)
      have hlg : j < gs.length := by have := HLG.out; omega
      obtain ⟨A2, c2, c1, hin⟩ := hMT.inn j hlt hlg
      obtain ⟨cur, hB⟩ := hMT.blk
      have hlen := hs _ (List.getElem_mem hlt)
      have hk0 := kS_ge k ls j
      have hk1 := HK.out j
      have hRoom : Room wr S 3 A2 ls[j] := fun hp => by
        obtain ⟨hA, hg2, cur2, hB2, hs2, _⟩ := hin hp
        exact ⟨gs[j], cur2, hA, hg2, hB2, hs2⟩
      have HMT := hide hMT
      have HIn := hide hin
      have HS2 := hide (HKS.out j hlt)
      generalize hln : ls[j] = ln at c1 hlen hRoom HIn HS2
      generalize hkj : kS k ls j = r at hk0 hk1 HS2
      have HC := hide (markIntS ln r A2 c2 wr S (by omega) (by omega) (by omega) hRoom)
      have HRoom := hide hRoom
      have HB := hide hB
      have Hln := hide hln; have Hkj := hide hkj
      clear hMT hB hRoom hin hln hkj
      go_wp2_with (go_at_call 22; refine HC.out.mono ?_; rintro e w2 ⟨rfl, ho, hsh, hma⟩; have hne2 : ∀ b, (S b ∧ 0 < ln ∧ ∃ a, A2 = some a ∧ a.block = b) → b ≠ g := (fun b hb e => by obtain ⟨_, hp, a, hA, rfl⟩ := hb; obtain ⟨g2, cur2, hA2, _, hB2, _⟩ := HRoom.out hp; rw [hA] at hA2; have hh : a = ⟨g2, 0, none⟩ := (by simpa using hA2); subst hh; exact Blk.ne_ HB.out hB2 (by decide) e.symm); have HG2 := hide (ho.block g HB.out.lt (fun h => hne2 g h rfl)); have HO2 := hide ho; have HSh := hide hsh; have HMa := hide hma; clear ho hsh hne2 hma)
      go_roundw
      case rel =>
        refine ⟨j + 1, by omega, by go_num, by rw [HS2.out], hOn.out.trans (HO2.out.mono (fun b hb => hb.1)), fun _ => ⟨g, rfl, hg, ⟨cur, HB.out.of HG2.out⟩, fun i hi hgi => ?_⟩⟩
        obtain ⟨A3, c3, d1, d2⟩ := HMT.out.inn i hi hgi
        refine ⟨A3, c3, (World.cell?_of_block HG2.out).trans d1, fun hp => ?_⟩
        obtain ⟨e1, e2, cur3, e3, e4, e5⟩ := d2 hp
        by_cases hij : i = j
        · subst hij
          have hln2 := Hln.out
          obtain ⟨g4, hA4, hg4, hc4⟩ := HMa.out (by omega)
          have hA5 := (HIn.out (by omega)).1
          have h46 : g4 = gs[i] := by rw [hA5] at hA4; simpa using hA4.symm
          subst h46
          obtain ⟨b2, hb2, hs2⟩ := HSh.out _ _ _ e3
          refine ⟨e1, e2, b2, hb2, by omega, fun _ t ht => ?_⟩
          rw [← hb2.cell, hc4 t (by omega), Hkj.out]
        · by_cases hz : 0 < ln
          · have hne : gs[i] ≠ gs[j] := HU.out i j hi hlt hgi hlg hij hp (by rw [Hln.out]; exact hz)
            have e4' : Blk w2 gs[i] _ cur3 := e3.of (HO2.out.block _ e3.lt (fun ⟨_, hp2, a, hA, hab⟩ => by
              have hA5 := (HIn.out (by omega)).1
              rw [hA5] at hA
              have : a = ⟨gs[j], 0, none⟩ := by simpa using hA.symm
              subst this
              exact hne hab.symm))
            exact ⟨e1, e2, cur3, e4', e4, fun h => e5 (by omega)⟩
          · exact ⟨e1, e2, cur3, e3.of (HO2.out.block _ e3.lt (fun ⟨_, hp2, _⟩ => hz hp2)), e4, fun h => e5 (by omega)⟩
      case measure => simp [intOf]; omega
    · obtain rfl : j = ls.length := by omega
      go_wp2
      go_ret
      exact ⟨rfl, hOn.out, fun hp => by obtain ⟨g, h1, h2, h3⟩ := hM.out hp; exact ⟨g, h1, h2, HLG.out, h3⟩⟩
set_option maxRecDepth 10000 in
set_option maxHeartbeats 1000000 in
theorem heldIntSS (ls gs : List Nat) (k : Int) (A : Option Addr) (c : Nat) (w : World) (S : Nat → Prop) (hn : ls.length ≤ 1048576) (hs : ∀ l ∈ ls, l ≤ 1048576) (h0 : 0 ≤ k) (h1 : k ≤ 1048576) (hM : MarkedS w S A k ls gs) :
    Calls Try.prog 35 #[.slice A ls.length c, .int .i64 k] w fun e w' => e = .returned (.int .i64 (kS k ls ls.length)) ∧ w = w' := by
  have HM := hide hM
  have HK := hide (fun j => kS_le k ls 1048576 hs j)
  have HKS := hide (kS_succ k ls)
  clear hM
  go_enter Try.func35, Try.ntmps35
  go_wp2
  go_loop [1, 5] (fun m i => ∃ (j : Nat), j ≤ ls.length ∧ i = .int .i64 j ∧ m = .int .i64 (kS k ls j)) (fun _ i => ls.length - (intOf i).toNat)
  case atStart => exact ⟨0, Nat.zero_le _, rfl, by simp [kS]⟩
  case round =>
    obtain ⟨j, hj, rfl, rfl⟩ := hrel
    by_cases hlt : j < ls.length
    · obtain ⟨g, rfl, hg, hlg, hMT⟩ := HM.out (by omega)
      obtain ⟨A2, c2, c1, hin⟩ := hMT.inn j hlt (by omega)
      have hlen := hs _ (List.getElem_mem hlt)
      have hk0 := kS_ge k ls j
      have hk1 := HK.out j
      have HS2 := hide (HKS.out j hlt)
      have hMa : MarksAt w S A2 (kS k ls j) ls[j] := fun hp => by
        obtain ⟨hA, hg2, cur2, hB2, hs2, hc⟩ := hin hp
        exact ⟨_, hA, hg2, fun t ht => by rw [hB2.cell]; exact hc hlt t ht⟩
      clear hin hMT hlg
      generalize ls[j] = ln at c1 hlen hMa HS2
      generalize kS k ls j = r at hk0 hk1 HS2 hMa ⊢
      have HC := hide (heldIntS ln r A2 c2 w S (by omega) (by omega) (by omega) hMa)
      have hneg : decide (r + (ln : Int) < 0) = false := by simp; omega
      clear hMa
      go_wp2_with (go_at_call 23; refine HC.out.mono ?_; rintro e w2 ⟨rfl, rfl⟩)
      go_round
      case rel => exact ⟨j + 1, by omega, by go_num, by rw [HS2.out]⟩
      case measure => simp [intOf]; omega
    · obtain rfl : j = ls.length := by omega
      go_wp2
      go_ret
      exact ⟨rfl, rfl⟩
/-- The lengths of the lists. -/
def lensS (xss : List (List Int)) : List Nat := xss.map List.length
theorem markIntS_hold (xss : List (List Int)) (k : Int) (A : Option Addr) (c : Nat) (w : World) (S : Nat → Prop) (hn : xss.length ≤ 1048576) (hs : ∀ x ∈ xss, x.length ≤ 1048576) (h0 : 0 ≤ k) (h1 : k ≤ 1048576) (hH : HoldS w S xss (.slice A xss.length c)) :
    Calls Try.prog 34 #[.slice A xss.length c, .int .i64 k] w fun e w' => ∃ gs, e = .returned (.int .i64 (kS k (lensS xss) xss.length)) ∧ Only S w w' ∧ MarkedS w' S A k (lensS xss) gs := by
  obtain ⟨ps, g, hps, hh, hup⟩ := hH
  have hl : (lensS xss).length = xss.length := List.length_map _
  have hpl : ps.length = xss.length := by rw [← hps, List.length_map]
  have hle : lensS xss = ps.map fun p => p.1.length := by unfold lensS; rw [← hps, List.map_map]; rfl
  have h := markIntSS_own (lensS xss) (ps.map Prod.snd) k A c w S (by omega) (fun l hlm => by obtain ⟨x, hx, rfl⟩ := List.mem_map.1 hlm; exact hs x hx) h0 h1 (by rw [hl, List.length_map, hpl])
    (fun i j hi hj gi gj hij p1 p2 => by
      rw [List.length_map] at gi gj
      simp only [hle, List.getElem_map] at p1 p2 ⊢
      have hpw := List.pairwise_iff_getElem.1 hup
      rcases Nat.lt_or_gt_of_ne hij with h | h
      · exact hpw i j gi gj h p1 p2
      · exact (hpw j i gj gi h p2 p1).symm)
    (fun hp => by
      obtain ⟨e1, e2, e3⟩ := MS.start hh (by omega) k
      exact ⟨g, e1, e2, by rw [hle]; exact e3⟩)
  rw [hl] at h
  exact h.mono fun e w' ⟨e1, e2, e3⟩ => ⟨_, e1, e2, e3⟩
theorem heldIntS_list (xss : List (List Int)) (gs : List Nat) (k : Int) (A : Option Addr) (c : Nat) (w : World) (S : Nat → Prop) (hn : xss.length ≤ 1048576) (hs : ∀ x ∈ xss, x.length ≤ 1048576) (h0 : 0 ≤ k) (h1 : k ≤ 1048576) (hM : MarkedS w S A k (lensS xss) gs) :
    Calls Try.prog 35 #[.slice A xss.length c, .int .i64 k] w fun e w' => e = .returned (.int .i64 (kS k (lensS xss) xss.length)) ∧ w = w' := by
  have hl : (lensS xss).length = xss.length := List.length_map _
  have h := heldIntSS (lensS xss) gs k A c w S (by omega) (fun l hlm => by obtain ⟨x, hx, rfl⟩ := List.mem_map.1 hlm; exact hs x hx) h0 h1 hM
  rw [hl] at h
  exact h
end Go.Proofs.Ytmlbfhknapkhgaa
