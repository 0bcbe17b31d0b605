/- Lists of lists of numbers in memory of the call's own that can be marked, each list in a block of its own. The facts of the drawn regions of both VerdictOf; what a verdict is made of. slices.Concat at ints. -/
import Derived.Test.YtjiobgfaohldhaaGreatQAllF
import Derived.Test.YtjiobgfaohldhaaGreatQAllM
import Derived.Test.YtjiobgfaohldhaaGreatQAnyOrder
import Derived.Test.YtjiobgfaohldhaaGreatQRanges
import Derived.Test.YtjiobgfaohldhaaGreatQToA
import Derived.Shelf.Spec.SlicesGrow
import Derived.Laws.AppendOwn
namespace Go.Proofs.YtjiobgfaohldhaaGreat
open Go.RowKit
set_option linter.unusedVariables false
set_option linter.unusedSimpArgs false

/-- Lists that hold something lie in blocks that are told apart. -/
def Far (ps : List (List Int × Nat)) : Prop := ps.Pairwise fun a b => 0 < a.1.length → 0 < b.1.length → a.2 ≠ b.2
def HoldS (w : World) (S : Nat → Prop) (xss : List (List Int)) (v : Value) : Prop :=
  ∃ ps g, ps.map Prod.fst = xss ∧ Hold (tIntSB 3) 23 w S ps v g ∧ Far ps
theorem HoldS.mono {w w' : World} {S S' : Nat → Prop} {xss : List (List Int)} {v : Value} (h : HoldS w S xss v) (h1 : ∀ b, S b → S' b) (h2 : ∀ b, S b → w'.heap[b]? = w.heap[b]?) : HoldS w' S' xss v := by
  obtain ⟨ps, g, e, h3, h4⟩ := h
  exact ⟨ps, g, e, h3.mono h1 h2, h4⟩
theorem HoldS.sl {w : World} {S : Nat → Prop} {xss : List (List Int)} {v : Value} (h : HoldS w S xss v) : Sl (tSlice tInt) w S xss v := by
  obtain ⟨ps, g, rfl, h3, h4⟩ := h
  exact h3.sl.intSB
/-- The mark at which list j begins. -/
def kS (k : Int) (ls : List Nat) (j : Nat) : Int := k + ((ls.take j).sum : Nat)
theorem kS_succ (k : Int) (ls : List Nat) (j : Nat) (h : j < ls.length) : kS k ls (j + 1) = kS k ls j + (ls[j] : Int) := by
  unfold kS
  rw [List.take_succ_eq_append_getElem h, List.sum_append]
  simp
  omega
theorem kS_le (k : Int) (ls : List Nat) (B : Nat) (hB : ∀ l ∈ ls, l ≤ B) : ∀ j, kS k ls j ≤ k + j * B
  | 0 => by simp [kS]
  | j + 1 => by
    have h1 := kS_le k ls B hB j
    have h5 : (((j + 1 : Nat) : Int) * (B : Int)) = (j : Int) * (B : Int) + B := by rw [Int.natCast_add, Int.add_mul]; simp
    by_cases hj : j < ls.length
    · have h2 := kS_succ k ls j hj
      have h3 := hB _ (List.getElem_mem hj)
      omega
    · have h2 : kS k ls (j + 1) = kS k ls j := by unfold kS; rw [List.take_of_length_le (by omega), List.take_of_length_le (by omega)]
      omega
theorem kS_ge (k : Int) (ls : List Nat) (j : Nat) : k ≤ kS k ls j := by unfold kS; omega
/-- Lists of which the first i bear their marks. -/
structure MS (S : Nat → Prop) (g : Nat) (k : Int) (ls gs : List Nat) (i : Nat) (w : World) : Prop where
  blk : ∃ cur, Blk w g 23 cur
  inn : ∀ j (hj : j < ls.length) (hg : j < gs.length), ∃ A c, w.cell? ⟨g, j, none⟩ = some (.slice A ls[j] c) ∧ (0 < ls[j] → A = some ⟨gs[j], 0, none⟩ ∧ S gs[j] ∧ ∃ cur, Blk w gs[j] 3 cur ∧ ls[j] ≤ cur.size ∧ (j < i → ∀ t, t < ls[j] → cur[t]? = some (.int .i64 (kS k ls j + t))))
theorem MS.keep {S : Nat → Prop} {g : Nat} {k : Int} {ls gs : List Nat} {i : Nat} {w w' : World} (h : MS S g k ls gs i w) (hw : ∀ b, S b → w'.heap[b]? = w.heap[b]?) (hg : S g) : MS S g k ls gs i w' := by
  obtain ⟨⟨cur, hb⟩, hi⟩ := h
  refine ⟨⟨cur, hb.of (hw g hg)⟩, fun j hj hgj => ?_⟩
  obtain ⟨A, c, h1, h2⟩ := hi j hj hgj
  refine ⟨A, c, (World.cell?_of_block (hw g hg)).trans h1, fun hp => ?_⟩
  obtain ⟨h3, h4, cur2, h5, h6⟩ := h2 hp
  exact ⟨h3, h4, cur2, h5.of (hw _ h4), h6⟩
def MarkedS (w : World) (S : Nat → Prop) (A : Option Addr) (k : Int) (ls gs : List Nat) : Prop :=
  0 < ls.length → ∃ g, A = some ⟨g, 0, none⟩ ∧ S g ∧ ls.length = gs.length ∧ MS S g k ls gs ls.length w
theorem MarkedS.keep {w w' : World} {S : Nat → Prop} {A : Option Addr} {k : Int} {ls gs : List Nat} (h : MarkedS w S A k ls gs) (hw : ∀ b, S b → w'.heap[b]? = w.heap[b]?) : MarkedS w' S A k ls gs := fun hp => by
  obtain ⟨g, hA, hg, hl, hm⟩ := h hp
  exact ⟨g, hA, hg, hl, hm.keep hw hg⟩
theorem MS.start {w : World} {S : Nat → Prop} {ps : List (List Int × Nat)} {A : Option Addr} {n c g : Nat} (h : Hold (tIntSB 3) 23 w S ps (.slice A n c) g) (hp : 0 < ps.length) (k : Int) :
    A = some ⟨g, 0, none⟩ ∧ S g ∧ MS S g k (ps.map fun p => p.1.length) (ps.map Prod.snd) 0 w := by
  obtain ⟨A', c', hv, hc, hm, hr⟩ := h
  injection hv with h1 h2 h3
  subst h1
  obtain ⟨rfl, hg, ⟨cur, hB, hs⟩, S', hS', hrow⟩ := hr hp
  refine ⟨rfl, hg, ⟨cur, hB⟩, fun j hj hgj => ?_⟩
  have hj2 : j < ps.length := by simpa using hj
  obtain ⟨cs, ⟨v, rfl, A3, c3, rfl, h4, h5, h6⟩, hcs⟩ := hrow j hj2
  refine ⟨A3, c3, ?_, fun hpos => ?_⟩
  · have := hcs 0 _ rfl
    simp only [tIntSB, Nat.zero_add] at this
    simpa using this
  · simp only [List.getElem_map] at hpos ⊢
    obtain ⟨rfl, hg2, ⟨cur2, hB2, hs2⟩, _⟩ := h6 hpos
    have hs3 : ps[j].1.length * 1 ≤ cur2.size := hs2
    exact ⟨rfl, (hS' _ hg2).1, cur2, hB2, by omega, fun h => absurd h (by omega)⟩
set_option maxRecDepth 10000 in
set_option maxHeartbeats 1000000 in
theorem markIntSS_own (ls gs : List Nat) (k : Int) (A : Option Addr) (c : Nat) (w : World) (S : Nat → Prop) (hn : ls.length ≤ 1048576) (hs : ∀ l ∈ ls, l ≤ 1048576) (h0 : 0 ≤ k) (h1 : k ≤ 1048576) (hlg : ls.length = gs.length)
    (hup : ∀ i j (hi : i < ls.length) (hj : j < ls.length) (gi : i < gs.length) (gj : j < gs.length), i ≠ j → 0 < ls[i] → 0 < ls[j] → gs[i] ≠ gs[j])
    (hS : 0 < ls.length → ∃ g, A = some ⟨g, 0, none⟩ ∧ S g ∧ MS S g k ls gs 0 w) :
    Calls Tryz.prog 45 #[.slice A ls.length c, .int .i64 k] w fun e w' => e = .returned (.int .i64 (kS k ls ls.length)) ∧ Only S w w' ∧ MarkedS w' S A k ls gs := by
  have HS := hide hS
  have HU := hide hup
  have HLG := hide hlg
  have HK := hide (fun j => kS_le k ls 1048576 hs j)
  have HKS := hide (kS_succ k ls)
  clear hS hup hlg
  go_enter Tryz.func45, Tryz.ntmps45
  go_wp2
  go_loopw [1, 5] (fun m i wr => ∃ (j : Nat), j ≤ ls.length ∧ i = .int .i64 j ∧ m = .int .i64 (kS k ls j) ∧ Hid (Only S w wr) ∧ Hid (0 < ls.length → ∃ g, A = some ⟨g, 0, none⟩ ∧ S g ∧ MS S g k ls gs j wr)) (fun _ i _ => ls.length - (intOf i).toNat)
  case atStart => exact ⟨0, Nat.zero_le _, rfl, by simp [kS], Only.refl _ _, HS.out⟩
  case round =>
    obtain ⟨j, hj, rfl, rfl, hOn, hM⟩ := hrel
    by_cases hlt : j < ls.length
    · obtain ⟨g, rfl, hg, hMT⟩ := hM.out (by omega)
      have hlg : j < gs.length := by have := HLG.out; omega
      obtain ⟨A2, c2, c1, hin⟩ := hMT.inn j hlt hlg
      obtain ⟨cur, hB⟩ := hMT.blk
      have hlen := hs _ (List.getElem_mem hlt)
      have hk0 := kS_ge k ls j
      have hk1 := HK.out j
      have hRoom : Room wr S 3 A2 ls[j] := fun hp => by
        obtain ⟨hA, hg2, cur2, hB2, hs2, _⟩ := hin hp
        exact ⟨gs[j], cur2, hA, hg2, hB2, hs2⟩
      have HMT := hide hMT
      have HIn := hide hin
      have HS2 := hide (HKS.out j hlt)
      generalize hln : ls[j] = ln at c1 hlen hRoom HIn HS2
      generalize hkj : kS k ls j = r at hk0 hk1 HS2
      have HC := hide (markIntS ln r A2 c2 wr S (by omega) (by omega) (by omega) hRoom)
      have HRoom := hide hRoom
      have HB := hide hB
      have Hln := hide hln; have Hkj := hide hkj
      clear hMT hB hRoom hin hln hkj
      go_wp2_with (go_at_call 44; refine HC.out.mono ?_; rintro e w2 ⟨rfl, ho, hsh, hma⟩; have hne2 : ∀ b, (S b ∧ 0 < ln ∧ ∃ a, A2 = some a ∧ a.block = b) → b ≠ g := (fun b hb e => by obtain ⟨_, hp, a, hA, rfl⟩ := hb; obtain ⟨g2, cur2, hA2, _, hB2, _⟩ := HRoom.out hp; rw [hA] at hA2; have hh : a = ⟨g2, 0, none⟩ := (by simpa using hA2); subst hh; exact Blk.ne_ HB.out hB2 (by decide) e.symm); have HG2 := hide (ho.block g HB.out.lt (fun h => hne2 g h rfl)); have HO2 := hide ho; have HSh := hide hsh; have HMa := hide hma; clear ho hsh hne2 hma)
      go_roundw
      case rel =>
        refine ⟨j + 1, by omega, by go_num, by rw [HS2.out], hOn.out.trans (HO2.out.mono (fun b hb => hb.1)), fun _ => ⟨g, rfl, hg, ⟨cur, HB.out.of HG2.out⟩, fun i hi hgi => ?_⟩⟩
        obtain ⟨A3, c3, d1, d2⟩ := HMT.out.inn i hi hgi
        refine ⟨A3, c3, (World.cell?_of_block HG2.out).trans d1, fun hp => ?_⟩
        obtain ⟨e1, e2, cur3, e3, e4, e5⟩ := d2 hp
        by_cases hij : i = j
        · subst hij
          have hln2 := Hln.out
          obtain ⟨g4, hA4, hg4, hc4⟩ := HMa.out (by omega)
          have hA5 := (HIn.out (by omega)).1
          have h46 : g4 = gs[i] := by rw [hA5] at hA4; simpa using hA4.symm
          subst h46
          obtain ⟨b2, hb2, hs2⟩ := HSh.out _ _ _ e3
          refine ⟨e1, e2, b2, hb2, by omega, fun _ t ht => ?_⟩
          rw [← hb2.cell, hc4 t (by omega), Hkj.out]
        · by_cases hz : 0 < ln
          · have hne : gs[i] ≠ gs[j] := HU.out i j hi hlt hgi hlg hij hp (by rw [Hln.out]; exact hz)
            have e4' : Blk w2 gs[i] _ cur3 := e3.of (HO2.out.block _ e3.lt (fun ⟨_, hp2, a, hA, hab⟩ => by
              have hA5 := (HIn.out (by omega)).1
              rw [hA5] at hA
              have : a = ⟨gs[j], 0, none⟩ := by simpa using hA.symm
              subst this
              exact hne hab.symm))
            exact ⟨e1, e2, cur3, e4', e4, fun h => e5 (by omega)⟩
          · exact ⟨e1, e2, cur3, e3.of (HO2.out.block _ e3.lt (fun ⟨_, hp2, _⟩ => hz hp2)), e4, fun h => e5 (by omega)⟩
      case measure => simp [intOf]; omega
    · obtain rfl : j = ls.length := by omega
      go_wp2
      go_ret
      exact ⟨rfl, hOn.out, fun hp => by obtain ⟨g, h1, h2, h3⟩ := hM.out hp; exact ⟨g, h1, h2, HLG.out, h3⟩⟩
set_option maxRecDepth 10000 in
set_option maxHeartbeats 1000000 in
theorem heldIntSS (ls gs : List Nat) (k : Int) (A : Option Addr) (c : Nat) (w : World) (S : Nat → Prop) (hn : ls.length ≤ 1048576) (hs : ∀ l ∈ ls, l ≤ 1048576) (h0 : 0 ≤ k) (h1 : k ≤ 1048576) (hM : MarkedS w S A k ls gs) :
    Calls Tryz.prog 47 #[.slice A ls.length c, .int .i64 k] w fun e w' => e = .returned (.int .i64 (kS k ls ls.length)) ∧ w = w' := by
  have HM := hide hM
  have HK := hide (fun j => kS_le k ls 1048576 hs j)
  have HKS := hide (kS_succ k ls)
  clear hM
  go_enter Tryz.func47, Tryz.ntmps47
  go_wp2
  go_loop [1, 5] (fun m i => ∃ (j : Nat), j ≤ ls.length ∧ i = .int .i64 j ∧ m = .int .i64 (kS k ls j)) (fun _ i => ls.length - (intOf i).toNat)
  case atStart => exact ⟨0, Nat.zero_le _, rfl, by simp [kS]⟩
  case round =>
    obtain ⟨j, hj, rfl, rfl⟩ := hrel
    by_cases hlt : j < ls.length
    · obtain ⟨g, rfl, hg, hlg, hMT⟩ := HM.out (by omega)
      obtain ⟨A2, c2, c1, hin⟩ := hMT.inn j hlt (by omega)
      have hlen := hs _ (List.getElem_mem hlt)
      have hk0 := kS_ge k ls j
      have hk1 := HK.out j
      have HS2 := hide (HKS.out j hlt)
      have hMa : MarksAt w S A2 (kS k ls j) ls[j] := fun hp => by
        obtain ⟨hA, hg2, cur2, hB2, hs2, hc⟩ := hin hp
        exact ⟨_, hA, hg2, fun t ht => by rw [hB2.cell]; exact hc hlt t ht⟩
      clear hin hMT hlg
      generalize ls[j] = ln at c1 hlen hMa HS2
      generalize kS k ls j = r at hk0 hk1 HS2 hMa ⊢
      have HC := hide (heldIntS ln r A2 c2 w S (by omega) (by omega) (by omega) hMa)
      have hneg : decide (r + (ln : Int) < 0) = false := by simp; omega
      clear hMa
      go_wp2_with (go_at_call 46; refine HC.out.mono ?_; rintro e w2 ⟨rfl, rfl⟩)
      go_round
      case rel => exact ⟨j + 1, by omega, by go_num, by rw [HS2.out]⟩
      case measure => simp [intOf]; omega
    · obtain rfl : j = ls.length := by omega
      go_wp2
      go_ret
      exact ⟨rfl, rfl⟩
/-- The lengths of the lists. -/
def lensS (xss : List (List Int)) : List Nat := xss.map List.length
theorem markIntS_hold (xss : List (List Int)) (k : Int) (A : Option Addr) (c : Nat) (w : World) (S : Nat → Prop) (hn : xss.length ≤ 1048576) (hs : ∀ x ∈ xss, x.length ≤ 1048576) (h0 : 0 ≤ k) (h1 : k ≤ 1048576) (hH : HoldS w S xss (.slice A xss.length c)) :
    Calls Tryz.prog 45 #[.slice A xss.length c, .int .i64 k] w fun e w' => ∃ gs, e = .returned (.int .i64 (kS k (lensS xss) xss.length)) ∧ Only S w w' ∧ MarkedS w' S A k (lensS xss) gs := by
  obtain ⟨ps, g, hps, hh, hup⟩ := hH
  have hl : (lensS xss).length = xss.length := List.length_map _
  have hpl : ps.length = xss.length := by rw [← hps, List.length_map]
  have hle : lensS xss = ps.map fun p => p.1.length := by unfold lensS; rw [← hps, List.map_map]; rfl
  have h := markIntSS_own (lensS xss) (ps.map Prod.snd) k A c w S (by omega) (fun l hlm => by obtain ⟨x, hx, rfl⟩ := List.mem_map.1 hlm; exact hs x hx) h0 h1 (by rw [hl, List.length_map, hpl])
    (fun i j hi hj gi gj hij p1 p2 => by
      rw [List.length_map] at gi gj
      simp only [hle, List.getElem_map] at p1 p2 ⊢
      have hpw := List.pairwise_iff_getElem.1 hup
      rcases Nat.lt_or_gt_of_ne hij with h | h
      · exact hpw i j gi gj h p1 p2
      · exact (hpw j i gj gi h p2 p1).symm)
    (fun hp => by
      obtain ⟨e1, e2, e3⟩ := MS.start hh (by omega) k
      exact ⟨g, e1, e2, by rw [hle]; exact e3⟩)
  rw [hl] at h
  exact h.mono fun e w' ⟨e1, e2, e3⟩ => ⟨_, e1, e2, e3⟩
theorem heldIntS_list (xss : List (List Int)) (gs : List Nat) (k : Int) (A : Option Addr) (c : Nat) (w : World) (S : Nat → Prop) (hn : xss.length ≤ 1048576) (hs : ∀ x ∈ xss, x.length ≤ 1048576) (h0 : 0 ≤ k) (h1 : k ≤ 1048576) (hM : MarkedS w S A k (lensS xss) gs) :
    Calls Tryz.prog 47 #[.slice A xss.length c, .int .i64 k] w fun e w' => e = .returned (.int .i64 (kS k (lensS xss) xss.length)) ∧ w = w' := by
  have hl : (lensS xss).length = xss.length := List.length_map _
  have h := heldIntSS (lensS xss) gs k A c w S (by omega) (fun l hlm => by obtain ⟨x, hx, rfl⟩ := List.mem_map.1 hlm; exact hs x hx) h0 h1 hM
  rw [hl] at h
  exact h
end Go.Proofs.YtjiobgfaohldhaaGreat
namespace Go.Proofs.YtjiobgfaohldhaaGreat
open Go.RowKit
set_option linter.unusedVariables false
set_option linter.unusedSimpArgs false

theorem cycO_le7 (many : Int) (xs : List Edge) : (cycO many xs).length ≤ 7 := by
  unfold cycO
  split
  · rename_i h
    unfold edgesV at h
    simp only [Bool.and_eq_true, inR_iff] at h
    have := cycFrom_len xs many.toNat many.toNat 0
    omega
  · simp
/-- The verdict as a struct; the zero value where there is none. -/
def verdD (h : List Txn) : Verd := (verdO h).getD ⟨false, [], []⟩
theorem verdO_no {h : List Txn} (he : ¬ 0 < (allO h).length) : verdO h = none := by
  have : allO h = [] := List.eq_nil_of_length_eq_zero (by omega)
  unfold verdO; rw [this]; rfl
theorem verdO_ser {h : List Txn} (he : 0 < (allO h).length) {o : List Int} (hf : findF h = some o) : verdO h = some ⟨true, o, []⟩ := by
  have : (allO h).isEmpty = false := by cases hx : allO h with | nil => rw [hx] at he; simp at he | cons _ _ => rfl
  unfold verdO; rw [this, hf]; rfl
theorem verdO_bad {h : List Txn} (he : 0 < (allO h).length) (hf : findF h = none) (hr : readsB h = false) : verdO h = some ⟨false, [], []⟩ := by
  have : (allO h).isEmpty = false := by cases hx : allO h with | nil => rw [hx] at he; simp at he | cons _ _ => rfl
  unfold verdO; rw [this, hf, hr]; rfl
theorem verdO_cyc {h : List Txn} (he : 0 < (allO h).length) (hf : findF h = none) (hr : readsB h = true) : verdO h = some ⟨false, [], cycsO h⟩ := by
  have : (allO h).isEmpty = false := by cases hx : allO h with | nil => rw [hx] at he; simp at he | cons _ _ => rfl
  unfold verdO; rw [this, hf, hr]; rfl
/-- The cycles of the first k orders. -/
def cycK (h : List Txn) (all : List (List (List Int))) (k : Nat) : List (List Int) := (all.take k).map fun os => cycO (h.length : Int) (edgR h os)
theorem cycK_succ (h : List Txn) (all : List (List (List Int))) (k : Nat) (hk : k < all.length) : cycK h all (k + 1) = cycK h all k ++ [cycO (h.length : Int) (edgR h all[k])] := by
  unfold cycK
  rw [List.take_succ_eq_append_getElem hk, List.map_append]; rfl
theorem cycK_all (h : List Txn) : cycK h (allO h) (allO h).length = cycsO h := by unfold cycK cycsO; rw [List.take_length]
theorem cycK_len (h : List Txn) (all : List (List (List Int))) (k : Nat) (hk : k ≤ all.length) : (cycK h all k).length = k := by unfold cycK; rw [List.length_map, List.length_take]; omega

abbrev TB : Ty (List Int × Nat) := tIntSB 3
theorem Hold.ge {α : Type} {T : Ty α} {e : TypeId} {w : World} {S : Nat → Prop} {xs : List α} {v : Value} {g lo : Nat} (h : Hold T e w S xs v g) (hS : ∀ b, S b → lo ≤ b) : ∃ g', lo ≤ g' ∧ Hold T e w S xs v g' := by
  by_cases hp : 0 < xs.length
  · obtain ⟨A, c, rfl, h1, h2, h3⟩ := h
    exact ⟨g, hS _ (h3 hp).2.1, A, c, rfl, h1, h2, h3⟩
  · obtain ⟨A, c, rfl, h1, h2, h3⟩ := h
    exact ⟨lo, Nat.le_refl _, A, c, rfl, h1, h2, fun h => absurd h hp⟩
theorem own_old {e : TypeId} {w : World} {lo hi : Nat} {ps : List (List Int × Nat)} {v : Value} (h : Own TB e w (fun b => lo ≤ b ∧ b < hi) ps v) : ∀ p ∈ ps, 0 < p.1.length → p.2 < hi := by
  intro p hp h0
  rcases h with ⟨rfl, rfl⟩ | ⟨g, cap, cur, S', rfl, hg, hB, h1, h2, h3, h4, h5⟩
  · cases hp
  · obtain ⟨k, hk, rfl⟩ := List.getElem_of_mem hp
    obtain ⟨cs, ⟨u, rfl, A, c, rfl, _, _, h6⟩, _⟩ := h5 k hk
    exact ((h4 _ (h6 h0).2.1).1).2
theorem far_snoc {ps : List (List Int × Nat)} {p : List Int × Nat} {hi : Nat} (h : Far ps) (h1 : ∀ q ∈ ps, 0 < q.1.length → q.2 < hi) (h2 : hi ≤ p.2) : Far (ps ++ [p]) := by
  unfold Far at *
  refine List.pairwise_append.2 ⟨h, by simp, fun a ha b hb h3 h4 e => ?_⟩
  obtain rfl : b = p := by simpa using hb
  have := h1 a ha h3
  omega
structure JVer (wr : World) (lo ia : Nat) (L : Nat → Bool) (W : World) : Prop where
  fresh : L ia = false → Below wr.heap.size wr W
  only : Only (fun b => lo ≤ b) wr W
theorem JVer.start (wr : World) (lo ia : Nat) (L : Nat → Bool) : JVer wr lo ia L wr.drew := ⟨fun _ => (Below.refl _ wr).drew, Only.of_below (Below.refl _ wr).drew⟩
theorem JVer.up {wr W W' : World} {lo ia i : Nat} {L : Nat → Bool} (h : JVer wr lo ia L W) (hi : ia ≠ i) (hb : Below W.heap.size W W') : JVer wr lo ia (fun j => if j = i then true else L j) W' :=
  ⟨fun hL => (h.fresh (by simpa [hi] using hL)).trans (hb.mono h.only.size), h.only.trans (.of_below hb)⟩
theorem JVer.app {wr W W' : World} {lo ia : Nat} {L : Nat → Bool} (h : JVer wr lo ia L W) (k : Only (fun b => lo ≤ b) W W') : JVer wr lo ia (fun j => if j = ia then true else L j) W' :=
  ⟨fun hL => by simp at hL, h.only.trans k⟩
def FVer (ie lo hi : Nat) (es : List Edge) (cy : List Int) (ps : List (List Int × Nat)) (V : Nat → Value) (i : Nat) (v : Value) (W : World) : Prop :=
  if i = ie then ∃ A c, v = .slice A es.length c ∧ Row tEdge W (fun b => hi ≤ b ∧ Old W b) A es
  else if i = ie + 1 then ∃ g, hi ≤ g ∧ Hold tInt 3 W (fun b => hi ≤ b ∧ Old W b) cy v g
  else if i = ie + 2 then ∃ p g, hi ≤ g ∧ v = .slice (some ⟨p, 0, none⟩) 1 1 ∧ hi ≤ p ∧ Old W p ∧ RowAny TB W (fun b => hi ≤ b ∧ Old W b) (some ⟨p, 0, none⟩) [(cy, g)]
  else if i = ie + 3 then ∃ g, hi ≤ g ∧ Own TB 23 W (fun b => lo ≤ b ∧ Old W b) (ps ++ [(cy, g)]) v
  else v = V i
variable {ie lo hi : Nat} {es : List Edge} {cy : List Int} {ps : List (List Int × Nat)} {V : Nat → Value} {v : Value} {W : World}
theorem FVer.get {i : Nat} (h : FVer ie lo hi es cy ps V i v W) (hi : i ≠ ie ∧ i ≠ ie + 1 ∧ i ≠ ie + 2 ∧ i ≠ ie + 3) : v = V i := by
  unfold FVer at h
  rwa [if_neg hi.1, if_neg hi.2.1, if_neg hi.2.2.1, if_neg hi.2.2.2] at h
theorem FVer.val {i : Nat} (hi' : i ≠ ie ∧ i ≠ ie + 1 ∧ i ≠ ie + 2 ∧ i ≠ ie + 3) (h : v = V i) : FVer ie lo hi es cy ps V i v W := by
  unfold FVer
  rwa [if_neg hi'.1, if_neg hi'.2.1, if_neg hi'.2.2.1, if_neg hi'.2.2.2]
theorem FVer.iff0 : FVer ie lo hi es cy ps V ie v W ↔ ∃ A c, v = .slice A es.length c ∧ Row tEdge W (fun b => hi ≤ b ∧ Old W b) A es := by unfold FVer; rw [if_pos rfl]
theorem FVer.iff1 : FVer ie lo hi es cy ps V (ie + 1) v W ↔ ∃ g, hi ≤ g ∧ Hold tInt 3 W (fun b => hi ≤ b ∧ Old W b) cy v g := by unfold FVer; rw [if_neg (by omega), if_pos rfl]
theorem FVer.iff2 : FVer ie lo hi es cy ps V (ie + 2) v W ↔ ∃ p g, hi ≤ g ∧ v = .slice (some ⟨p, 0, none⟩) 1 1 ∧ hi ≤ p ∧ Old W p ∧ RowAny TB W (fun b => hi ≤ b ∧ Old W b) (some ⟨p, 0, none⟩) [(cy, g)] := by unfold FVer; rw [if_neg (by omega), if_neg (by omega), if_pos rfl]
theorem FVer.iff3 : FVer ie lo hi es cy ps V (ie + 3) v W ↔ ∃ g, hi ≤ g ∧ Own TB 23 W (fun b => lo ≤ b ∧ Old W b) (ps ++ [(cy, g)]) v := by unfold FVer; rw [if_neg (by omega), if_neg (by omega), if_neg (by omega), if_pos rfl]
theorem FVer.ev {i : Nat} {wa wb : World} (h : FVer ie lo hi es cy ps V i v wa) (hk : Only (fun b => b < hi) wa wb) (hb : i = ie + 3 → Below wa.heap.size wa wb) : FVer ie lo hi es cy ps V i v wb := by
  have hup : ∀ b, (hi ≤ b ∧ Old wa b) → (hi ≤ b ∧ Old wb b) := fun b h => ⟨h.1, Nat.lt_of_lt_of_le h.2 hk.size⟩
  have hst : ∀ b, (hi ≤ b ∧ Old wa b) → wb.heap[b]? = wa.heap[b]? := fun b h => hk.block b h.2 (by have := h.1; omega)
  by_cases h0 : i = ie
  · subst h0
    obtain ⟨A, c, rfl, hR⟩ := FVer.iff0.1 h
    exact FVer.iff0.2 ⟨A, c, rfl, hR.mono hup hst⟩
  · by_cases h1 : i = ie + 1
    · subst h1
      obtain ⟨g, hg, hH⟩ := FVer.iff1.1 h
      exact FVer.iff1.2 ⟨g, hg, hH.mono hup hst⟩
    · by_cases h2 : i = ie + 2
      · subst h2
        obtain ⟨p, g, hg, rfl, hp, hpo, hy⟩ := FVer.iff2.1 h
        exact FVer.iff2.2 ⟨p, g, hg, rfl, hp, (hup p ⟨hp, hpo⟩).2, hy.stay hup hst (hst p ⟨hp, hpo⟩)⟩
      · by_cases h3 : i = ie + 3
        · subst h3
          obtain ⟨g, hg, hO⟩ := FVer.iff3.1 h
          exact FVer.iff3.2 ⟨g, hg, own_stay hO (hb rfl)⟩
        · exact FVer.val ⟨h0, h1, h2, h3⟩ (h.get ⟨h0, h1, h2, h3⟩)
end Go.Proofs.YtjiobgfaohldhaaGreat
namespace Go.Proofs.YtjiobgfaohldhaaGreat
open Go.RowKit Go.Shelf
set_option linter.unusedVariables false
set_option linter.unusedSimpArgs false

def growRen : Ren := ⟨fun | 4 => 149 | n => n, fun | 22 => 23 | 25 => 3 | 3 => 3 | 4 => 4 | 9 => 9 | 20 => 20 | 0 => 0 | n => n, fun n => n⟩
set_option maxRecDepth 100000 in
theorem growLays : Lays8.n4 Tryz.prog growRen where
  mixed := by kernel_rfl
  f4 := ⟨ "slices.Grow[[]int,int]", by decide, Tryz.func149.trans (congrArg some (by kernel_rfl))⟩
  t0 := Tryz.underlying0
  a0 := Tryz.isAgg0
  z0 := Tryz.sizeOf0
  v0 := Tryz.zeroValue0
  t3 := Tryz.underlying3
  a3 := Tryz.isAgg3
  z3 := Tryz.sizeOf3
  v3 := Tryz.zeroValue3
  t4 := Tryz.underlying4
  a4 := Tryz.isAgg4
  z4 := Tryz.sizeOf4
  v4 := Tryz.zeroValue4
  t9 := Tryz.underlying9
  a9 := Tryz.isAgg9
  z9 := Tryz.sizeOf9
  v9 := Tryz.zeroValue9
  t20 := Tryz.underlying20
  a20 := Tryz.isAgg20
  z20 := Tryz.sizeOf20
  v20 := Tryz.zeroValue20
  t22 := Tryz.underlying23
  a22 := Tryz.isAgg23
  z22 := Tryz.sizeOf23
  v22 := Tryz.zeroValue23
def lens (xs : List (List Int)) : Nat := (xs.map List.length).sum
theorem lens_succ (xs : List (List Int)) (k : Nat) (h : k < xs.length) : lens (xs.take (k + 1)) = lens (xs.take k) + xs[k].length := by
  unfold lens
  rw [List.take_succ_eq_append_getElem h, List.map_append, List.sum_append]; simp
theorem lens_flat (xs : List (List Int)) : xs.flatten.length = lens xs := by unfold lens; rw [List.length_flatten]
theorem lens_le {xs : List (List Int)} {n : Nat} (h : ∀ x ∈ xs, x.length ≤ n) : lens xs ≤ n * xs.length := by
  unfold lens
  induction xs with
  | nil => simp
  | cons x r ih =>
    have h1 := h x (by simp)
    have h2 := ih (fun y hy => h y (List.mem_cons_of_mem _ hy))
    rw [List.map_cons, List.sum_cons, List.length_cons, Nat.mul_add]
    omega
theorem lens_take {xs : List (List Int)} {n : Nat} (h : ∀ x ∈ xs, x.length ≤ n) (k : Nat) : lens (xs.take k) ≤ n * k := by
  have := lens_le (xs := xs.take k) (n := n) (fun x hx => h x (List.mem_of_mem_take hx))
  have h2 : (xs.take k).length ≤ k := by rw [List.length_take]; omega
  exact Nat.le_trans this (Nat.mul_le_mul_left _ h2)
theorem grow_nil (n : Nat) (w : World) (hn : n ≤ 1048576) :
    Calls Tryz.prog 149 #[.slice none 0 0, .int .i64 n] w fun e w' => ∃ v, e = .returned v ∧ Own tInt 3 w' (New w w') [] v ∧ Below w.heap.size w w' := by
  by_cases h0 : n = 0
  · subst h0
    refine (Any8.slices_Grow_room growLays none 0 0 0 w (Nat.le_refl _) (by omega) (by omega) (by omega)).mono ?_
    rintro e w' ⟨rfl, rfl⟩
    exact ⟨_, rfl, .inl ⟨rfl, rfl⟩, Below.refl _ _⟩
  · obtain ⟨i0, hi, hz0, hz1, hz2⟩ := info_parts infoInt_
    refine (Any8.slices_Grow_grow growLays i0 _ hi hz0 (by rw [hz1]; decide) none 0 0 n [] w (Nat.le_refl _) (by omega) (by rw [hz2]; omega) (by omega) (by simp) (fun _ => rfl) (fun a h => by cases h)).mono ?_
    rintro e w' ⟨rfl, rfl⟩
    have hg := grownCap_ge w (0 + n) 0 3
    have hm := grownCap_le_maxLen w (0 + n) 0 3 (by simp only [maxLen]; omega)
    refine ⟨_, rfl, .inr ⟨w.heap.size, _, _, fun _ => False, rfl, ⟨Nat.le_refl _, by simp⟩, heap_alloc_new w.drew _, Nat.zero_le _, hm, ?_, fun _ h => h.elim, fun k hk => absurd hk (by simp)⟩, (Below.refl _ w).drew.alloc (by simp) _⟩
    simp only [Array.size_append, size_zeroCells, Value.cells, List.size_toArray, List.length_nil]
    show 0 + (0 + n - 0) * 1 + (grownCap w (0 + n) 0 3 - (0 + n)) * 1 = grownCap w (0 + n) 0 3 * 1
    omega
set_option maxRecDepth 10000 in
set_option maxHeartbeats 2000000 in
theorem concat_Int (xs : List (List Int)) (A : Option Addr) (c : Nat) (w : World) (hl : xs.length ≤ 16) (hx : ∀ x ∈ xs, x.length ≤ 1000) (hA : Row (tSlice tInt) w (Old w) A xs) :
    Calls Tryz.prog 131 #[.slice A xs.length c] w fun e w' => ∃ v, e = .returned v ∧ Own tInt 3 w' (New w w') xs.flatten v ∧ Below w.heap.size w w' := by
  obtain ⟨i0, hi, hz0, hz1, hz2⟩ := info_parts infoInt_
  have HA := hide hA; have HX := hide hx
  have HLt := hide (fun k => lens_take (xs := xs) (n := 1000) hx k)
  clear hA hx
  have hq : xs.length ≤ 9223372036854775807 := by omega
  go_enter Tryz.func131, Tryz.ntmps131
  go_wp2
  go_loopw [3, 5, 11] (fun n _ i wr => ∃ k : Nat, k ≤ xs.length ∧ i = .int .i64 k ∧ n = .int .i64 (lens (xs.take k)) ∧ Hid (Below w.heap.size w wr)) (fun _ _ i _ => xs.length - (intOf i).toNat)
  case atStart => exact ⟨0, Nat.zero_le _, rfl, rfl, Below.refl _ _⟩
  case round =>
    obtain ⟨k, hk, rfl, rfl, hb⟩ := hrel
    have HB := hide hb.out
    clear hb
    by_cases hlt : k < xs.length
    · have hki : (k : Int) < (xs.length : Int) := by omega
      obtain ⟨b, off, A2, c2, rfl, hbS, d0, hs1, hs2, hs3⟩ := at_IntS HA.out HB.out hlt
      have HS := hide (lens_succ xs k hlt)
      have h1 := HX.out _ (List.getElem_mem hlt)
      have h2 := HLt.out k
      generalize lens (xs.take k) = s at HS h2
      generalize xs[k].length = n at d0 HS h1
      have hsum : IntKind.i64.wrap ((s : Int) + (n : Int)) = (s : Int) + (n : Int) := by rw [IntKind.wrap_i64]; omega
      have hng : ¬ ((s : Int) + (n : Int) < 0) := by omega
      clear hs3 hs1 hs2
      go_wp2
      go_roundw
      case rel => exact ⟨k + 1, by omega, by go_num, by rw [HS.out]; go_num, HB.out⟩
      case measure => simp [intOf]; omega
    · obtain rfl : k = xs.length := by omega
      have h2 := HLt.out xs.length
      have HFl := hide (fun k (h : k < xs.length) => show (xs.take (k + 1)).flatten = (xs.take k).flatten ++ xs[k] by rw [List.take_succ_eq_append_getElem h, List.flatten_append]; simp)
      have HFn := hide (fun k => lens_flat (xs.take k))
      rw [List.take_length] at h2 ⊢
      have hln : lens xs ≤ 16000 := by omega
      have HGr := hide (grow_nil (lens xs) wr (by omega))
      generalize lens xs = s at HGr hln
      obtain ⟨wo, hwo⟩ : ∃ wo : World, wo = wr := ⟨_, rfl⟩
      rw [← hwo] at HB HGr ⊢
      clear hwo h2
      go_wp2_with (go_at_call 149; refine HGr.out.mono ?_; rintro e w2 ⟨v2, rfl, hO2, hb2⟩; have HO2 := hide hO2; have HB2 := hide hb2; clear hO2 hb2)
      go_loopw [6, 8, 27] (fun v _ i wr => ∃ (k : Nat) (vo : Value), vo = v ∧ k ≤ xs.length ∧ i = .int .i64 k ∧ Hid (Own tInt 3 wr (fun b => wo.heap.size ≤ b ∧ Old wr b) (xs.take k).flatten v) ∧ Hid (Below wo.heap.size wo wr)) (fun _ _ i _ => xs.length - (intOf i).toNat)
      case atStart => exact ⟨0, _, rfl, Nat.zero_le _, rfl, HO2.out, HB2.out⟩
      case round =>
        obtain ⟨k, vo, rfl, hk, rfl, hO, hb⟩ := hrel
        have HO := hide hO.out; have HBr := hide hb.out
        have HBw := hide (HB.out.trans (hb.out.mono HB.out.size))
        clear hO hb HO2 HB2
        by_cases hlt : k < xs.length
        · have hki : (k : Int) < (xs.length : Int) := by omega
          obtain ⟨b, off, A2, c2, rfl, hbS, d0, hs1, hs2, hs3⟩ := at_IntS HA.out (Below.refl _ w) hlt
          have d1 := (HBw.out.cell (p := ⟨b, off + k, none⟩) hbS).trans d0
          have HS := hide (HFl.out k hlt)
          have h1 := HX.out _ (List.getElem_mem hlt)
          have h2 := HLt.out k
          have h3 := HFn.out k
          have HRx := hide (hs3.mono (w' := wr) (S' := fun _ => True) (fun _ _ => trivial) (fun b hb => HBw.out.block b hb)).anyInt
          generalize lens (xs.take k) = s2 at h2 h3
          generalize (xs.take k).flatten = L at HO HS h3
          generalize xs[k] = x at d1 HS h1 HRx
          clear hs3 hs1 hs2 d0
          go_wp2_with (at_builtin; refine wpList_cat tInt rfl (.tmp 31) (.tmp 32) 23 rfl 3 i0 _ 8 Tryz.underlying23 hi hz0 hz1 hz2 rfl (by decide) (fun b => wo.heap.size ≤ b) (fun _ => False) L x _ rfl HO.out A2 _ c2 rfl rfl HRx.out (fun _ h => h.elim) (fun b hb => Nat.le_trans HBr.out.size hb) (by simp only [maxLen]; omega) (by omega) ?_; intro v6 w6 hO_ hK_; have HO6 := hide hO_; have HB6 := hide (below_only HBr.out hK_ HBr.out.size (fun _ h => h)); clear hO_ hK_)
          go_roundw
          case rel => exact ⟨k + 1, _, rfl, by omega, by go_num, by rw [HS.out]; exact HO6.out, HB6.out⟩
          case measure => simp [intOf]; omega
        · obtain rfl : k = xs.length := by omega
          have hO9 := HO.out
          rw [List.take_length] at hO9
          have HO9 := hide hO9
          clear HO hO9
          go_wp2_with fail
          go_ret
          exact ⟨_, rfl, HO9.out.mono (fun b hb => ⟨Nat.le_trans HB.out.size hb.1, hb.2⟩) (fun _ _ => rfl), HBw.out⟩
end Go.Proofs.YtjiobgfaohldhaaGreat
