/- The marks that the laws package writes into transactions and reads back. -/
import Derived.Test.YtmlbfhknapkhgaaDoorHold
import Derived.Test.YtmlbfhknapkhgaaDoorToC
import Derived.Test.YtmlbfhknapkhgaaDoorHistS
namespace Go.Proofs.YtmlbfhknapkhgaaDoor
open Go.RowKit
set_option linter.unusedVariables false
set_option linter.unusedSimpArgs false

theorem get3 {cur : Array Value} {j : Nat} {a b c : Value} (h : j * 3 + 2 < cur.size) (i : Nat) :
    (((cur.setIfInBounds (j * 3) a).setIfInBounds (j * 3 + 1) b).setIfInBounds (j * 3 + 2) c)[i]? = if i = j * 3 + 2 then some c else if i = j * 3 + 1 then some b else if i = j * 3 then some a else cur[i]? := by
  by_cases h2 : i = j * 3 + 2
  · subst h2; rw [if_pos rfl, Array.getElem?_setIfInBounds, if_pos rfl, if_pos (by simp; omega)]
  · rw [if_neg h2, Array.getElem?_setIfInBounds_ne (by omega)]
    by_cases h1 : i = j * 3 + 1
    · subst h1; rw [if_pos rfl, Array.getElem?_setIfInBounds, if_pos rfl, if_pos (by simp; omega)]
    · rw [if_neg h1, Array.getElem?_setIfInBounds_ne (by omega)]
      by_cases h0 : i = j * 3
      · subst h0; rw [if_pos rfl, Array.getElem?_setIfInBounds, if_pos rfl, if_pos (by omega)]
      · rw [if_neg h0, Array.getElem?_setIfInBounds_ne (by omega)]
set_option maxRecDepth 10000 in
set_option maxHeartbeats 1000000 in
theorem markOpS (n : Nat) (k : Int) (A : Option Addr) (c : Nat) (w : World) (S : Nat → Prop) (hn : n ≤ 2097152) (h0 : 0 ≤ k) (h1 : k ≤ 4611686018427387904) (hR : Room w S 95 A (n * 3)) :
    Calls Tryd.prog 44 #[.slice A n c, .int .i64 k] w fun e w' => e = .returned (.int .i64 (k + 3 * (n : Int))) ∧ Only (fun b => S b ∧ 0 < n ∧ ∃ a, A = some a ∧ a.block = b) w w' ∧ Shape w w' ∧ MarksAt w' S A k (n * 3) := by
  go_enter Tryd.func44, Tryd.ntmps44
  go_wp2
  go_loopw [1, 5] (fun m i wr => ∃ j : Nat, j ≤ n ∧ i = .int .i64 j ∧ m = .int .i64 (k + 3 * (j : Int)) ∧ Hid (Only (fun b => S b ∧ 0 < n ∧ ∃ a, A = some a ∧ a.block = b) w wr) ∧ Hid (Shape w wr) ∧ Hid (MarksAt wr S A k (j * 3))) (fun _ i _ => n - (intOf i).toNat)
  case atStart => exact ⟨0, Nat.zero_le _, rfl, by simp, Only.refl _ _, Shape.refl _, fun h => absurd h (by omega)⟩
  case round =>
    obtain ⟨j, hj, rfl, rfl, hO, hS, hM⟩ := hrel
    by_cases hlt : j < n
    · obtain ⟨g, cur, rfl, hg, hB, hsz⟩ := (hR.shape hS.out) (by omega)
      obtain ⟨⟨u0, k0⟩, f0⟩ := hB.there (i := j * 3) (by omega)
      obtain ⟨⟨u1, k1⟩, f1⟩ := hB.there (i := j * 3 + 1) (by omega)
      obtain ⟨⟨u2, k2⟩, f2⟩ := hB.there (i := j * 3 + 2) (by omega)
      have HB := hide hB
      have hsum1 : IntKind.i64.wrap (k + 3 * (j : Int) + 1) = k + 3 * (j : Int) + 1 := by rw [IntKind.wrap_i64]; omega
      have hsum2 : IntKind.i64.wrap (k + 3 * (j : Int) + 1 + 1) = k + 3 * (j : Int) + 1 + 1 := by rw [IntKind.wrap_i64]; omega
      have hsum3 : IntKind.i64.wrap (k + 3 * (j : Int) + 1 + 1 + 1) = k + 3 * (j : Int) + 1 + 1 + 1 := by rw [IntKind.wrap_i64]; omega
      clear hR hB
      go_wp2
      go_roundw
      case rel =>
        refine ⟨j + 1, by omega, by go_num, by rw [show k + 3 * ((j + 1 : Nat) : Int) = k + 3 * (j : Int) + 1 + 1 + 1 by omega], ((hO.out.setCell (p := ⟨g, j * 3, none⟩) ⟨hg, by omega, _, rfl, rfl⟩ _).setCell (p := ⟨g, j * 3 + 1, none⟩) ⟨hg, by omega, _, rfl, rfl⟩ _).setCell (p := ⟨g, j * 3 + 2, none⟩) ⟨hg, by omega, _, rfl, rfl⟩ _, hS.out.trans (((Shape.setCell _ _ _ _).trans (Shape.setCell _ _ _ _)).trans (Shape.setCell _ _ _ _)), fun _ => ⟨g, rfl, hg, fun i hi => ?_⟩⟩
        rw [(((HB.out.set_ (j * 3) _).set_ (j * 3 + 1) _).set_ (j * 3 + 2) _).cell, get3 (by omega)]
        split
        · rename_i h; subst h; congr 2; omega
        · split
          · rename_i h; subst h; congr 2; omega
          · split
            · rename_i h; subst h; congr 2; omega
            · obtain ⟨g', hA, _, hc⟩ := hM.out (by omega)
              have hgg : g' = g := by simpa using hA.symm
              subst hgg
              rw [← HB.out.cell]
              exact hc i (by omega)
      case measure => simp [intOf]; omega
    · obtain rfl : j = n := by omega
      clear hR
      go_wp2
      go_ret
      exact ⟨rfl, hO.out, hS.out, hM.out⟩
theorem Own.roomOp {e : TypeId} {w : World} {S : Nat → Prop} {xs : List Op} {A : Option Addr} {n c : Nat} (h : Own tOp e w S xs (.slice A n c)) : Room w S e A (xs.length * 3) := fun hn => by
  rcases h with ⟨h, rfl⟩ | ⟨g, cap, cur, S', hv, hg, hB, h1, h2, h3, _⟩
  · simp at hn
  · injection hv with hA _ _
    refine ⟨g, cur, hA, hg, hB, ?_⟩
    rw [h3]; show xs.length * 3 ≤ cap * 3; omega
set_option maxRecDepth 10000 in
set_option maxHeartbeats 1000000 in
theorem markTxnS_arg (xs : List Txn) (k : Int) (A : Option Addr) (c : Nat) (w : World) (S : Nat → Prop) (hn : xs.length ≤ 1048576) (hs : ∀ x ∈ xs, x.Ops.length ≤ 1048576) (hk0 : k = 1) (hO : Own (tTxnO 95) 64 w S xs (.slice A xs.length c)) :
    Calls Tryd.prog 15 #[.slice A xs.length c, .int .i64 k] w fun e w' => (∃ r : Int, e = .returned (.int .i64 r) ∧ 0 ≤ r) ∧ Only S w w' := by
  subst hk0
  have hOuter : 0 < xs.length → ∃ g cur S', A = some ⟨g, 0, none⟩ ∧ S g ∧ Blk w g 64 cur ∧ xs.length * 3 ≤ cur.size ∧ (∀ b, S' b → S b) ∧ RowAt (tTxnO 95) w S' g 0 xs := fun h => by
    rcases hO with ⟨_, rfl⟩ | ⟨g, cap, cur, S', hv, hg, hB, h1, _, h3, h4, h5⟩
    · simp at h
    · injection hv with hA _ _
      exact ⟨g, cur, S', hA, hg, hB, by rw [h3]; exact Nat.mul_le_mul_right 3 h1, fun b hb => (h4 b hb).1, h5⟩
  have HOut := hide hOuter
  clear hO hOuter
  go_enter Tryd.func15, Tryd.ntmps15
  go_wp2
  go_loopw [1, 5] (fun m i wr => ∃ (j : Nat) (r : Int), j ≤ xs.length ∧ i = .int .i64 j ∧ m = .int .i64 r ∧ 0 ≤ r ∧ r ≤ 1 + j * 4194304 ∧ Hid (Only S w wr) ∧ Hid (Shape w wr) ∧ Hid (∀ i (h : i < xs.length) g, A = some ⟨g, 0, none⟩ → wr.cell? ⟨g, i * 3 + 1, none⟩ = w.cell? ⟨g, i * 3 + 1, none⟩)) (fun _ i _ => xs.length - (intOf i).toNat)
  case atStart => exact ⟨0, 1, Nat.zero_le _, rfl, rfl, by omega, by omega, Only.refl _ _, Shape.refl _, fun _ _ _ _ => rfl⟩
  case round =>
    obtain ⟨j, r, hj, rfl, rfl, hr0, hr1, hOn, hSh, hCe⟩ := hrel
    by_cases hlt : j < xs.length
    · obtain ⟨g, cur, S', rfl, hg, hB, hsz, hSS, hrow⟩ := HOut.out (by omega)
      obtain ⟨cs, ⟨v, rfl, hOv⟩, hcs⟩ := hrow j hlt
      obtain ⟨cur', hB', hsz'⟩ := hSh.out g _ cur hB
      have c1 : wr.cell? ⟨g, j * 3 + 1, none⟩ = some v := by
        rw [hCe.out j hlt g rfl]
        simpa [tTxnO] using hcs 1 v rfl
      obtain ⟨⟨u0, k0⟩, f0⟩ := hB'.there (i := j * 3) (by omega)
      have hlen := hs _ (List.getElem_mem hlt)
      obtain ⟨A2, c2, rfl, _, _, _⟩ := hOv.sl
      have hRoom := hOv.roomOp
      have HC := hide (markOpS xs[j].Ops.length (r + 1) A2 c2 (wr.setCell ⟨g, j * 3, none⟩ (.int .i64 r)) S' (by omega) (by omega) (by omega) ((hRoom.shape hSh.out).shape (Shape.setCell _ _ _ _)))
      have HRoom := hide hRoom
      have HB := hide hB
      have HB' := hide (hB'.set_ (j * 3) (.int .i64 r))
      have HSz : Hid (j * 3 + 2 < (cur'.setIfInBounds (j * 3) (.int .i64 r)).size) := by show _ < _; simp; omega
      have HSS := hide hSS
      have hsum1 : IntKind.i64.wrap (r + 1) = r + 1 := by rw [IntKind.wrap_i64]; omega
      clear hOv hB hrow hcs hRoom hSS hB' hsz'
      generalize xs[j].Ops.length = ln at HC c1 hlen HRoom
      have hsum2 : IntKind.i64.wrap (r + 1 + 3 * (ln : Int) + 1) = r + 1 + 3 * (ln : Int) + 1 := by rw [IntKind.wrap_i64]; omega
      go_wp2_with (go_at_call 44; refine HC.out.mono ?_; rintro e w2 ⟨rfl, ho, hsh, _⟩; have hne2 : ∀ b, (S' b ∧ 0 < ln ∧ ∃ a, A2 = some a ∧ a.block = b) → b ≠ g := (fun b hb e => by obtain ⟨_, hp, a, hA, rfl⟩ := hb; obtain ⟨g2, cur2, hA2, _, hB2, _⟩ := HRoom.out (by omega); rw [hA] at hA2; have hh : a = ⟨g2, 0, none⟩ := (by simpa using hA2); subst hh; exact Blk.ne_ HB.out hB2 (by decide) e.symm); have HG2 := hide (ho.block g HB'.out.lt (fun h => hne2 g h rfl)); have hB2 := HB'.out.of HG2.out; obtain ⟨⟨u2, k2⟩, f2⟩ := hB2.there (i := j * 3 + 2) HSz.out; have HO2 := hide ho; have HS2 := hide hsh; have HB2 := hide hB2; clear ho hsh hne2 hB2)
      go_roundw
      case rel =>
        refine ⟨j + 1, _, by omega, by go_num, rfl, by omega, by omega, ((hOn.out.setCell (p := ⟨g, j * 3, none⟩) hg _).trans (HO2.out.mono (fun b hb => HSS.out b hb.1))).setCell (p := ⟨g, j * 3 + 2, none⟩) hg _, (hSh.out.trans (Shape.setCell _ _ _ _)).trans (HS2.out.trans (Shape.setCell _ _ _ _)), fun i hi g' hg' => ?_⟩
        obtain rfl : g = g' := by simpa using hg'
        rw [← hCe.out i hi g rfl, World.cell?_setCell_other _ _ _ _ (by intro e; injection e with _ e _; omega), World.cell?_of_block HG2.out, World.cell?_setCell_other _ _ _ _ (by intro e; injection e with _ e _; omega)]
      case measure => simp [intOf]; omega
    · obtain rfl : j = xs.length := by omega
      go_wp2
      go_ret
      exact ⟨⟨r, rfl, hr0⟩, hOn.out⟩

/-- The mark at which transaction j begins. -/
def kAt (k : Int) (ls : List Nat) (j : Nat) : Int := k + (((ls.take j).map fun l => 2 + 3 * l).sum : Nat)
theorem kAt_succ (k : Int) (ls : List Nat) (j : Nat) (h : j < ls.length) : kAt k ls (j + 1) = kAt k ls j + 1 + 3 * (ls[j] : Int) + 1 := by
  unfold kAt
  rw [List.take_succ_eq_append_getElem h, List.map_append, List.sum_append]
  simp
  omega
theorem kAt_le (k : Int) (ls : List Nat) (B : Nat) (hB : ∀ l ∈ ls, l ≤ B) : ∀ j, kAt k ls j ≤ k + j * (2 + 3 * B)
  | 0 => by simp [kAt]
  | j + 1 => by
    have h1 := kAt_le k ls B hB j
    by_cases hj : j < ls.length
    · have h2 := kAt_succ k ls j hj
      have h3 := hB _ (List.getElem_mem hj)
      have h4 : (ls[j] : Int) ≤ (B : Int) := by omega
      have h5 : (((j + 1 : Nat) : Int) * (2 + 3 * (B : Int))) = (j : Int) * (2 + 3 * (B : Int)) + (2 + 3 * (B : Int)) := by rw [Int.natCast_add, Int.add_mul]; simp
      omega
    · have h2 : kAt k ls (j + 1) = kAt k ls j := by unfold kAt; rw [List.take_of_length_le (by omega), List.take_of_length_le (by omega)]
      have h5 : (((j + 1 : Nat) : Int) * (2 + 3 * (B : Int))) = (j : Int) * (2 + 3 * (B : Int)) + (2 + 3 * (B : Int)) := by rw [Int.natCast_add, Int.add_mul]; simp
      omega
theorem kAt_ge (k : Int) (ls : List Nat) (j : Nat) : k ≤ kAt k ls j := by unfold kAt; omega
/-- Transactions of which the first i bear their marks. -/
structure MT (S : Nat → Prop) (g : Nat) (k : Int) (ls gs : List Nat) (i : Nat) (w : World) : Prop where
  blk : ∃ cur, Blk w g 64 cur ∧ ls.length * 3 ≤ cur.size
  inn : ∀ j (hj : j < ls.length) (hg : j < gs.length), ∃ A c, w.cell? ⟨g, j * 3 + 1, none⟩ = some (.slice A ls[j] c) ∧ (0 < ls[j] → A = some ⟨gs[j], 0, none⟩ ∧ S gs[j] ∧ ∃ cur, Blk w gs[j] 95 cur ∧ ls[j] * 3 ≤ cur.size ∧ (j < i → ∀ t, t < ls[j] * 3 → cur[t]? = some (.int .i64 (kAt k ls j + 1 + t))))
  out : ∀ j (hj : j < ls.length), j < i → w.cell? ⟨g, j * 3, none⟩ = some (.int .i64 (kAt k ls j)) ∧ w.cell? ⟨g, j * 3 + 2, none⟩ = some (.bool ((kAt k ls j + 1) % 3 == 0))
theorem MT.keep {S : Nat → Prop} {g : Nat} {k : Int} {ls gs : List Nat} {i : Nat} {w w' : World} (h : MT S g k ls gs i w) (hw : ∀ b, S b → w'.heap[b]? = w.heap[b]?) (hg : S g) : MT S g k ls gs i w' := by
  obtain ⟨⟨cur, hb, hs⟩, hi, ho⟩ := h
  refine ⟨⟨cur, hb.of (hw g hg), hs⟩, fun j hj hgj => ?_, fun j hj hji => ?_⟩
  · obtain ⟨A, c, h1, h2⟩ := hi j hj hgj
    refine ⟨A, c, (World.cell?_of_block (hw g hg)).trans h1, fun hp => ?_⟩
    obtain ⟨h3, h4, cur2, h5, h6⟩ := h2 hp
    exact ⟨h3, h4, cur2, h5.of (hw _ h4), h6⟩
  · obtain ⟨h1, h2⟩ := ho j hj hji
    exact ⟨(World.cell?_of_block (hw g hg)).trans h1, (World.cell?_of_block (hw g hg)).trans h2⟩
/-- A history that bears its marks. -/
def Marked (w : World) (S : Nat → Prop) (A : Option Addr) (k : Int) (ls gs : List Nat) : Prop :=
  0 < ls.length → ∃ g, A = some ⟨g, 0, none⟩ ∧ S g ∧ ls.length = gs.length ∧ MT S g k ls gs ls.length w
theorem Marked.keep {w w' : World} {S : Nat → Prop} {A : Option Addr} {k : Int} {ls gs : List Nat} (h : Marked w S A k ls gs) (hw : ∀ b, S b → w'.heap[b]? = w.heap[b]?) : Marked w' S A k ls gs := fun hp => by
  obtain ⟨g, hA, hg, hl, hm⟩ := h hp
  exact ⟨g, hA, hg, hl, hm.keep hw hg⟩
theorem MT.start {w : World} {S : Nat → Prop} {ps : List (Txn × Nat)} {A : Option Addr} {n c g : Nat} (h : Hold (tTxnB 95) 64 w S ps (.slice A n c) g) (hp : 0 < ps.length) (k : Int) :
    A = some ⟨g, 0, none⟩ ∧ S g ∧ MT S g k (ps.map fun p => p.1.Ops.length) (ps.map Prod.snd) 0 w := by
  obtain ⟨A', c', hv, hc, hm, hr⟩ := h
  injection hv with h1 h2 h3
  subst h1
  obtain ⟨rfl, hg, ⟨cur, hB, hs⟩, S', hS', hrow⟩ := hr hp
  refine ⟨rfl, hg, ⟨cur, hB, by rw [List.length_map]; exact hs⟩, fun j hj hgj => ?_, fun j hj h => absurd h (by omega)⟩
  rw [List.length_map] at hj
  obtain ⟨cs, ⟨v, rfl, hH⟩, hcs⟩ := hrow j hj
  obtain ⟨A2, c2, rfl, h4, h5, h6⟩ := hH
  refine ⟨A2, c2, ?_, fun hpos => ?_⟩
  · have := hcs 1 _ rfl
    simp only [tTxnB, Nat.zero_add] at this
    simpa using this
  · simp only [List.getElem_map] at hpos ⊢
    obtain ⟨rfl, hg2, ⟨cur2, hB2, hs2⟩, _⟩ := h6 hpos
    exact ⟨rfl, (hS' _ hg2).1, cur2, hB2, hs2, fun h => absurd h (by omega)⟩
set_option maxRecDepth 10000 in
set_option maxHeartbeats 1000000 in
theorem markTxnS_own (ls gs : List Nat) (k : Int) (A : Option Addr) (c : Nat) (w : World) (S : Nat → Prop) (hn : ls.length ≤ 1048576) (hs : ∀ l ∈ ls, l ≤ 1048576) (h0 : 0 ≤ k) (h1 : k ≤ 1048576) (hlg : ls.length = gs.length) (hup : gs.Pairwise (· < ·))
    (hS : 0 < ls.length → ∃ g, A = some ⟨g, 0, none⟩ ∧ S g ∧ MT S g k ls gs 0 w) :
    Calls Tryd.prog 15 #[.slice A ls.length c, .int .i64 k] w fun e w' => e = .returned (.int .i64 (kAt k ls ls.length)) ∧ Only S w w' ∧ Marked w' S A k ls gs := by
  have HS := hide hS
  have HU := hide hup
  have HLG := hide hlg
  have HK := hide (fun j => kAt_le k ls 1048576 hs j)
  have HKS := hide (kAt_succ k ls)
  clear hS hup hlg
  go_enter Tryd.func15, Tryd.ntmps15
  go_wp2
  go_loopw [1, 5] (fun m i wr => ∃ (j : Nat), j ≤ ls.length ∧ i = .int .i64 j ∧ m = .int .i64 (kAt k ls j) ∧ Hid (Only S w wr) ∧ Hid (0 < ls.length → ∃ g, A = some ⟨g, 0, none⟩ ∧ S g ∧ MT S g k ls gs j wr)) (fun _ i _ => ls.length - (intOf i).toNat)
  case atStart => exact ⟨0, Nat.zero_le _, rfl, by simp [kAt], Only.refl _ _, HS.out⟩
  case round =>
    obtain ⟨j, hj, rfl, rfl, hOn, hM⟩ := hrel
    by_cases hlt : j < ls.length
    · obtain ⟨g, rfl, hg, hMT⟩ := hM.out (by omega)
      have hlg : j < gs.length := by have := HLG.out; omega
      obtain ⟨A2, c2, c1, hin⟩ := hMT.inn j hlt hlg
      obtain ⟨cur, hB, hsz⟩ := hMT.blk
      obtain ⟨⟨u0, k0⟩, f0⟩ := hB.there (i := j * 3) (by omega)
      have hlen := hs _ (List.getElem_mem hlt)
      have hk0 := kAt_ge k ls j
      have hk1 := HK.out j
      have hRoom : Room wr S 95 A2 (ls[j] * 3) := fun hp => by
        obtain ⟨hA, hg2, cur2, hB2, hs2, _⟩ := hin (by omega)
        exact ⟨gs[j], cur2, hA, hg2, hB2, hs2⟩
      have HMT := hide hMT
      have HIn := hide hin
      have HS2 := hide (HKS.out j hlt)
      generalize hln : ls[j] = ln at c1 hlen hRoom HIn HS2
      generalize hkj : kAt k ls j = r at hk0 hk1 HS2
      have HC := hide (markOpS ln (r + 1) A2 c2 (wr.setCell ⟨g, j * 3, none⟩ (.int .i64 r)) S (by omega) (by omega) (by omega) (hRoom.shape (Shape.setCell _ _ _ _)))
      have HRoom := hide hRoom
      have HB := hide hB
      have HB' := hide (hB.set_ (j * 3) (.int .i64 r))
      have HSz : Hid (j * 3 + 2 < (cur.setIfInBounds (j * 3) (.int .i64 r)).size) := by show _ < _; simp; omega
      have hsum1 : IntKind.i64.wrap (r + 1) = r + 1 := by rw [IntKind.wrap_i64]; omega
      have hsum2 : IntKind.i64.wrap (r + 1 + 3 * (ln : Int) + 1) = r + 1 + 3 * (ln : Int) + 1 := by rw [IntKind.wrap_i64]; omega
      have Hln := hide hln; have Hkj := hide hkj
      clear hMT hB hRoom hin hln hkj
      go_wp2_with (go_at_call 44; refine HC.out.mono ?_; rintro e w2 ⟨rfl, ho, hsh, hma⟩; have hne2 : ∀ b, (S b ∧ 0 < ln ∧ ∃ a, A2 = some a ∧ a.block = b) → b ≠ g := (fun b hb e => by obtain ⟨_, hp, a, hA, rfl⟩ := hb; obtain ⟨g2, cur2, hA2, _, hB2, _⟩ := HRoom.out (by omega); rw [hA] at hA2; have hh : a = ⟨g2, 0, none⟩ := (by simpa using hA2); subst hh; exact Blk.ne_ HB.out hB2 (by decide) e.symm); have HG2 := hide (ho.block g HB'.out.lt (fun h => hne2 g h rfl)); have hB2 := HB'.out.of HG2.out; obtain ⟨⟨u2, k2⟩, f2⟩ := hB2.there (i := j * 3 + 2) HSz.out; have HO2 := hide ho; have HSh := hide hsh; have HB2 := hide hB2; have HMa := hide hma; clear ho hsh hne2 hB2 hma)
      go_roundw
      case rel =>
        refine ⟨j + 1, by omega, by go_num, by rw [HS2.out], ((hOn.out.setCell (p := ⟨g, j * 3, none⟩) hg _).trans (HO2.out.mono (fun b hb => hb.1))).setCell (p := ⟨g, j * 3 + 2, none⟩) hg _, fun _ => ⟨g, rfl, hg, ?_⟩⟩
        have hcell : ∀ i, i ≠ j * 3 → i ≠ j * 3 + 2 → (w2.setCell ⟨g, j * 3 + 2, none⟩ (.bool ((r + 1) % 3 == 0))).cell? ⟨g, i, none⟩ = wr.cell? ⟨g, i, none⟩ := fun i h1 h2 => by
          rw [World.cell?_setCell_other _ _ _ _ (by intro e; injection e with _ e _; omega), World.cell?_of_block HG2.out, World.cell?_setCell_other _ _ _ _ (by intro e; injection e with _ e _; omega)]
        refine ⟨⟨_, HB2.out.set_ (j * 3 + 2) _, by simpa using hsz⟩, fun i hi hgi => ?_, fun i hi hij => ?_⟩
        · obtain ⟨A3, c3, d1, d2⟩ := HMT.out.inn i hi hgi
          refine ⟨A3, c3, by rw [hcell _ (by omega) (by omega)]; exact d1, fun hp => ?_⟩
          obtain ⟨e1, e2, cur3, e3, e4, e5⟩ := d2 hp
          have hgg : gs[i] ≠ g := fun h => Blk.ne_ HB.out e3 (by decide) h.symm
          by_cases hij : i = j
          · subst hij
            have hln2 := Hln.out
            obtain ⟨g4, hA4, hg4, hc4⟩ := HMa.out (by omega)
            have hA5 := (HIn.out (by omega)).1
            have h46 : g4 = gs[i] := by rw [hA5] at hA4; simpa using hA4.symm
            subst h46
            have e3' : Blk (wr.setCell ⟨g, i * 3, none⟩ (.int .i64 r)) gs[i] _ cur3 := e3.far (p := ⟨g, i * 3, none⟩) hgg _
            obtain ⟨b2, hb2, hs2⟩ := HSh.out _ _ _ e3'
            refine ⟨e1, e2, b2, hb2.far (p := ⟨g, i * 3 + 2, none⟩) hgg _, by omega, fun _ t ht => ?_⟩
            rw [← hb2.cell, hc4 t (by omega), Hkj.out]
          · have hne : gs[i] ≠ gs[j] := by
              have hpw := List.pairwise_iff_getElem.1 HU.out
              rcases Nat.lt_or_gt_of_ne hij with h | h
              · have := hpw i j hgi hlg h; omega
              · have := hpw j i hlg hgi h; omega
            have e3' : Blk (wr.setCell ⟨g, j * 3, none⟩ (.int .i64 r)) gs[i] _ cur3 := e3.far (p := ⟨g, j * 3, none⟩) hgg _
            have e4' : Blk w2 gs[i] _ cur3 := e3'.of (HO2.out.block _ e3'.lt (fun ⟨_, hp2, a, hA, hab⟩ => by
              have hA5 := (HIn.out (by omega)).1
              rw [hA5] at hA
              have : a = ⟨gs[j], 0, none⟩ := by simpa using hA.symm
              subst this
              exact hne hab.symm))
            exact ⟨e1, e2, cur3, e4'.far (p := ⟨g, j * 3 + 2, none⟩) hgg _, e4, fun h => e5 (by omega)⟩
        · by_cases hij2 : i = j
          · subst hij2
            have hB3 := HB2.out.set_ (i * 3 + 2) (.bool ((r + 1) % 3 == 0))
            have hsz2 : i * 3 + 2 < cur.size := by omega
            rw [Hkj.out]
            refine ⟨?_, ?_⟩
            · rw [hB3.cell, Array.getElem?_setIfInBounds_ne (by omega), Array.getElem?_setIfInBounds, if_pos rfl, if_pos (by omega)]
            · rw [hB3.cell, Array.getElem?_setIfInBounds, if_pos rfl, if_pos (by simp; omega)]
          · obtain ⟨f1, f2⟩ := HMT.out.out i hi (by omega)
            exact ⟨by rw [hcell _ (by omega) (by omega)]; exact f1, by rw [hcell _ (by omega) (by omega)]; exact f2⟩
      case measure => simp [intOf]; omega
    · obtain rfl : j = ls.length := by omega
      go_wp2
      go_ret
      exact ⟨rfl, hOn.out, fun hp => by obtain ⟨g, h1, h2, h3⟩ := hM.out hp; exact ⟨g, h1, h2, HLG.out, h3⟩⟩

end Go.Proofs.YtmlbfhknapkhgaaDoor
