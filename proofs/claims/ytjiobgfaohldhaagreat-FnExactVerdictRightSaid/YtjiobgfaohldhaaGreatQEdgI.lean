/- The program's put: one more edge behind the list that EdgesOf gathers. The edges that the program's EdgesOf gathers, as lists. No program in sight. The edges that the reference's EdgesOf gathers are those of the program, for valid orders. No program in sight. A region that draws its order and only makes memory: one value for each operation. The program's EdgesOf. -/
import Derived.Test.YtjiobgfaohldhaaGreatQReadM
import Derived.Test.YtjiobgfaohldhaaGreatQAllF
import Derived.Test.YtjiobgfaohldhaaGreatQToA
import Derived.Test.YtjiobgfaohldhaaGreatQOrdS
import Derived.Test.YtjiobgfaohldhaaGreatQAnyOrder
import Derived.Test.YtjiobgfaohldhaaGreatQGraph
namespace Go.Proofs.YtjiobgfaohldhaaGreat
open Go.RowKit
set_option linter.unusedVariables false
set_option linter.unusedSimpArgs false

theorem infoEdgeP : (Tryz.prog.info? 86).map (fun i => (i.zero, i.size, i.bytes)) = some (some (.agg #[.int .i64 0, .int .i64 0, .int .i64 0]), 3, 24) := by kernel_rfl
/-- The list that is gathered, behind its variable. -/
structure EL (w wr : World) (bl bh : Nat) (hv : Value) (K : Nat → Prop) (L : List Edge) : Prop where
  hb : Blk wr bh 30 #[hv]
  lv : ∃ v, Blk wr bl 53 #[v] ∧ Own tEdge 86 wr (fun b => K b ∧ Old wr b) L v
  b : Below w.heap.size w wr
  lt : bh < bl
  le : w.heap.size ≤ bh
  ks : ∀ b, K b → bh < b ∧ b ≠ bl
section
variable {w wr w' : World} {bl bh : Nat} {hv : Value} {K K' : Nat → Prop} {L : List Edge}
theorem EL.below (h : EL w wr bl bh hv K L) (hb : Below wr.heap.size wr w') : EL w w' bl bh hv K L := by
  obtain ⟨v, h1, h2⟩ := h.lv
  exact ⟨h.hb.below hb h.hb.lt, ⟨v, h1.below hb h1.lt, h2.mono (fun b hb' => ⟨hb'.1, Nat.lt_of_lt_of_le hb'.2 hb.size⟩) (fun b hb' => hb.block b hb'.2)⟩, h.b.trans (hb.mono h.b.size), h.lt, h.le, h.ks⟩
theorem EL.to (h : EL w wr bl bh hv K L) (hK : ∀ b, K b → Old wr b → K' b) (hs : ∀ b, K' b → bh < b ∧ b ≠ bl) : EL w wr bl bh hv K' L := by
  obtain ⟨v, h1, h2⟩ := h.lv
  exact ⟨h.hb, ⟨v, h1, h2.mono (fun b hb' => ⟨hK b hb'.1 hb'.2, hb'.2⟩) (fun _ _ => rfl)⟩, h.b, h.lt, h.le, hs⟩
end
/-- One more edge, if it leads from one committed transaction to another. -/
def putL (h : List Txn) (L : List Edge) (f t k : Int) : List Edge := if dneOf h f && dneOf h t && (f != t) then L ++ [⟨f, t, k⟩] else L
theorem putL_len (h : List Txn) (L : List Edge) (f t k : Int) : (putL h L f t k).length ≤ L.length + 1 := by
  unfold putL; split <;> simp
theorem dne_neg {h : List Txn} : dneOf h (-1) = false := by unfold dneOf; simp
theorem dne_nat {h : List Txn} {n : Nat} (hn : n < h.length) : dneOf h (n : Int) = h[n].Done := by
  unfold dneOf
  rw [Int.toNat_natCast, List.getElem?_eq_getElem hn]
  simp
  omega
set_option maxRecDepth 10000 in
set_option maxHeartbeats 4000000 in
theorem put_any (h : List Txn) (A : Option Addr) (c : Nat) (w W : World) (bl bh : Nat) (K : Nat → Prop) (L : List Edge) (f t k : Int) (h6 : h.length ≤ 6) (hf0 : -1 ≤ f) (hf1 : f < h.length) (ht0 : -1 ≤ t) (ht1 : t < h.length)
    (hE : EL w W bl bh (.slice A h.length c) K L) (hA : Row tTxn w (Old w) A h) (hL : L.length ≤ 100000) (hK : ∀ b, W.heap.size ≤ b → K b) :
    Calls Tryz.prog 89 #[.int .i64 f, .int .i64 t, .int .i64 k, .pointer (some ⟨bh, 0, none⟩), .pointer (some ⟨bl, 0, none⟩)] W fun e w' => e = .returned (.tuple #[]) ∧ EL w w' bl bh (.slice A h.length c) K (putL h L f t k) ∧ Only (fun b => b = bl ∨ K b) W w' := by
  obtain ⟨i0, hi, hz0, hz1, hz2⟩ := info_parts infoEdgeP
  have HE := hide hE
  have HK := hide hK
  have hcb := (hE.hb.cell 0)
  simp only [List.getElem?_toArray, List.getElem?_cons_zero] at hcb
  clear hE hK
  by_cases hfn : f < 0
  · have hP := hide (show putL h L f t k = L by
      obtain rfl : f = -1 := by omega
      unfold putL; rw [dne_neg]; rfl)
    have hfn' : ¬ 0 ≤ f := by omega
    rw [hP.out]
    go_enter Tryz.func89, Tryz.ntmps89
    go_wp2_with fail
    go_end0
    exact ⟨rfl, HE.out, Only.refl _ _⟩
  · obtain ⟨n, rfl⟩ : ∃ n : Nat, f = (n : Int) := ⟨f.toNat, by omega⟩
    have hnl : n < h.length := by omega
    by_cases htn : t < 0
    · have hP := hide (show putL h L n t k = L by
        obtain rfl : t = -1 := by omega
        unfold putL; rw [dne_neg, Bool.and_false]; rfl)
      have htn' : ¬ 0 ≤ t := by omega
      rw [hP.out]
      go_enter Tryz.func89, Tryz.ntmps89
      go_wp2_with fail
      go_end0
      exact ⟨rfl, HE.out, Only.refl _ _⟩
    · obtain ⟨m, rfl⟩ : ∃ m : Nat, t = (m : Int) := ⟨t.toNat, by omega⟩
      have hml : m < h.length := by omega
      obtain ⟨b, off, A3, c3, hAe, hbS, e0, e1, e3, hj1, hj2, hj3⟩ := at_Txn hA HE.out.b hnl
      obtain ⟨b', off', A4, c4, hAe', hbS', f0, f1, f3, _, _, _⟩ := at_Txn hA HE.out.b hml
      rw [hAe] at hAe'
      obtain ⟨rfl, rfl⟩ : b = b' ∧ off = off' := by simpa using hAe'
      subst hAe
      have hdn := dne_nat hnl
      have hdm := dne_nat hml
      clear hAe' e0 e1 f0 f1 hj1 hj2 hj3
      cases hnm : ((n : Int) != (m : Int)) with
      | false =>
        have hP := hide (show putL h L n m k = L by unfold putL; rw [hnm, Bool.and_false]; rfl)
        rw [hP.out]
        clear hdn hdm
        go_enter Tryz.func89, Tryz.ntmps89
        go_wp2_with fail
        go_end0
        exact ⟨rfl, HE.out, Only.refl _ _⟩
      | true =>
        cases hd1 : h[n].Done with
        | false =>
          have hP := hide (show putL h L n m k = L by unfold putL; rw [hdn, hd1]; rfl)
          rw [hP.out]
          rw [hd1] at e3
          clear hdn hdm hd1
          go_enter Tryz.func89, Tryz.ntmps89
          go_wp2_with fail
          go_end0
          exact ⟨rfl, HE.out, Only.refl _ _⟩
        | true =>
          cases hd2 : h[m].Done with
          | false =>
            have hP := hide (show putL h L n m k = L by unfold putL; rw [hdn, hdm, hd1, hd2]; rfl)
            rw [hP.out]
            rw [hd1] at e3
            rw [hd2] at f3
            clear hdn hdm hd1 hd2
            go_enter Tryz.func89, Tryz.ntmps89
            go_wp2_with fail
            go_end0
            exact ⟨rfl, HE.out, Only.refl _ _⟩
          | true =>
            have hP := hide (show putL h L n m k = L ++ [⟨n, m, k⟩] by unfold putL; rw [hdn, hdm, hd1, hd2, hnm]; rfl)
            rw [hP.out]
            rw [hd1] at e3
            rw [hd2] at f3
            clear hdn hdm hd1 hd2
            obtain ⟨v, hbl, hO⟩ := HE.out.lv
            have HBl := hide hbl
            have HO := hide hO
            have hcl := (hbl.cell 0)
            simp only [List.getElem?_toArray, List.getElem?_cons_zero] at hcl
            have hfl := hbl.frozen 0
            clear hO hbl
            go_enter Tryz.func89, Tryz.ntmps89
            go_wp2_with (at_builtin; go_loud (refine wpList_put tEdge rfl (.tmp 33) (.tmp 38) 53 rfl 86 i0 _ 24 Tryz.underlying53 hi hz0 hz1 hz2 rfl (by decide) K (fun _ => False) L ⟨n, m, k⟩ [.int .i64 n, .int .i64 m, .int .i64 k] _ rfl HO.out 1 rfl rfl (fun _ h => h.elim) HK.out (by simp only [maxLen]; omega) (by omega) ?_; intro v6 w6 hO_ hK_; have HO6 := hide hO_; have HK6 := hide hK_; have HBl6 := hide (HBl.out.of (hK_.block _ HBl.out.lt (fun h9 => by have := HE.out.ks _ h9; omega))); obtain ⟨⟨ul, cl6⟩, fl6⟩ := HBl6.out.there (i := 0) (by simp); obtain ⟨A6, n6, c6, rfl⟩ : ∃ A n c, v6 = .slice A n c := (by obtain ⟨A, c, h9, _⟩ := hO_.sl; exact ⟨A, _, c, h9⟩); clear hO_ hK_))
            go_end0
            refine ⟨rfl, ⟨?_, ⟨.slice A6 n6 c6, ?_, ?_⟩, ?_, HE.out.lt, HE.out.le, HE.out.ks⟩, ?_⟩
            · exact (HE.out.hb.of (HK6.out.block _ HE.out.hb.lt (fun h9 => by have := HE.out.ks _ h9; have := HE.out.lt; omega))).far (by have := HE.out.lt; simp; omega) _
            · have := HBl6.out.set_ 0 (.slice A6 n6 c6)
              simpa using this
            · exact HO6.out.mono (fun b hb => ⟨hb.1, by have := hb.2; simpa [Old] using this⟩) (fun b hb => Below.heap_setCell _ _ _ _ (by have := HE.out.ks _ hb.1; simp; omega))
            · exact Below.setCell (below_only HE.out.b HK6.out HE.out.b.size (fun b h9 => by have := HE.out.ks _ h9; have := HE.out.lt; have := HE.out.le; omega)) (by have := HE.out.lt; have := HE.out.le; simp; omega) _
            · exact (HK6.out.mono (fun b hb => .inr hb)).setCell (.inl rfl) _
/-- The edges between values that stand side by side: the first i of an order. -/
def partW (h : List Txn) (key : Nat) (o : List Int) (L : List Edge) : Nat → List Edge
  | 0 => L
  | i + 1 => putL h (partW h key o L i) (wrI h (key : Int) (o.getD i 0)) (wrI h (key : Int) (o.getD (i + 1) 0)) 1
def partK (h : List Txn) (os : List (List Int)) : Nat → List Edge
  | 0 => []
  | k + 1 => partW h k (os.getD k []) (partK h os k) ((os.getD k []).length - 1)
/-- The place behind a value. -/
def nxI (o : List Int) (v : Int) : Option Int := if v = 0 then o[0]? else if 0 ≤ idx (fun y => v == y) o then o[(idx (fun y => v == y) o).toNat + 1]? else none
def rdL (h : List Txn) (L : List Edge) (n : Int) (r : Op) : List Edge := putL h L (wrI h r.Key r.Value) n 2
def ovL (h : List Txn) (os : List (List Int)) (L : List Edge) (n : Int) (r : Op) : List Edge := match nxI (os.getD r.Key.toNat []) r.Value with
  | some y => putL h L n (wrI h r.Key y) 3
  | none => L
def stepR (h : List Txn) (os : List (List Int)) (n : Int) (L : List Edge) (r : Op) : List Edge := ovL h os (rdL h L n r) n r
def partR (h : List Txn) (os : List (List Int)) (n : Int) (L : List Edge) (rs : List Op) : List Edge := rs.foldl (stepR h os n) L
theorem partR_succ (h : List Txn) (os : List (List Int)) (n : Int) (L : List Edge) (rs : List Op) (l : Nat) (hl : l < rs.length) : partR h os n L (rs.take (l + 1)) = stepR h os n (partR h os n L (rs.take l)) rs[l] := by
  unfold partR
  rw [List.take_succ_eq_append_getElem hl, List.foldl_append]; rfl
def partD (h : List Txn) (os : List (List Int)) (L : List Edge) (ns : List Int) : List Edge := ns.foldl (fun L n => partR h os n L (firstR (opsOf h n))) L
theorem partD_succ (h : List Txn) (os : List (List Int)) (L : List Edge) (ns : List Int) (k : Nat) (hk : k < ns.length) : partD h os L (ns.take (k + 1)) = partR h os ns[k] (partD h os L (ns.take k)) (firstR (opsOf h ns[k])) := by
  unfold partD
  rw [List.take_succ_eq_append_getElem hk, List.foldl_append]; rfl
def rawI (h : List Txn) (os : List (List Int)) : List Edge := partD h os (partK h os 3) (doneL h)
theorem wrI_bd {h : List Txn} (key v : Int) : -1 ≤ wrI h key v ∧ wrI h key v < h.length ∨ wrI h key v = -1 := by
  unfold wrI
  cases hw : wrN h key v with
  | none => exact .inr rfl
  | some x =>
    obtain ⟨n, rfl, hn, _⟩ := wrN_some hw
    exact .inl ⟨by simp, by simpa using hn⟩
theorem wrI_range {h : List Txn} (hp : 0 < h.length) (key v : Int) : -1 ≤ wrI h key v ∧ wrI h key v < h.length := by
  rcases wrI_bd (h := h) key v with h1 | h1
  · exact h1
  · omega
theorem instL_val {h : List Txn} (hv : histV h = true) {key v : Int} (hm : v ∈ instL h key) : 1 ≤ v ∧ v ≤ 99 := by
  obtain ⟨n, hn, _, ⟨d, hd, rfl⟩, _⟩ := ins_ex hv hm
  obtain ⟨h1, h2, _⟩ := lastW_some hd
  have := opOk_parts (op_ok hv _ d h1)
  have h0 := this.2.2.2.2 h2
  omega
/-- What valid orders say. -/
theorem ord_parts {h : List Txn} {os : List (List Int)} (ho : ordB h os = true) : histV h = true ∧ os.length = 3 ∧ ∀ k : Nat, k < 3 → (os.getD k []).Perm (instL h (k : Int)) := by
  unfold ordB at ho
  simp only [Bool.and_eq_true, decide_eq_true_eq] at ho
  obtain ⟨hv, h3, hk⟩ := ho
  refine ⟨hv, h3, fun k hk3 => ?_⟩
  unfold ordK at hk
  have := List.all_eq_true.1 hk k (List.mem_range.2 hk3)
  exact (same_iff (instL_nodup hv _)).1 this
theorem ord_wr {h : List Txn} {os : List (List Int)} (ho : ordB h os = true) {k : Nat} (hk : k < 3) {x : Int} (hx : x ∈ os.getD k []) : ∃ n : Nat, n < h.length ∧ dneOf h (n : Int) = true ∧ (∃ d, lastW (opsOf h (n : Int)) (k : Int) = some d ∧ d.Value = x) ∧ wrI h (k : Int) x = (n : Int) := by
  obtain ⟨hv, h3, hp⟩ := ord_parts ho
  obtain ⟨n, hn, hd, hl, hw⟩ := ins_ex hv ((hp k hk).mem_iff.1 hx)
  exact ⟨n, hn, hd, hl, by unfold wrI; rw [hw]; rfl⟩
theorem put_w {h : List Txn} {os : List (List Int)} (ho : ordB h os = true) {k : Nat} (hk : k < 3) {i : Nat} (hi : i + 1 < (os.getD k []).length) (L : List Edge) :
    putL h L (wrI h (k : Int) ((os.getD k [])[i]'(by omega))) (wrI h (k : Int) ((os.getD k [])[i + 1])) 1 = L ++ [⟨wrI h (k : Int) ((os.getD k [])[i]'(by omega)), wrI h (k : Int) ((os.getD k [])[i + 1]), 1⟩] := by
  obtain ⟨hv, h3, hp⟩ := ord_parts ho
  have hnd : (os.getD k []).Nodup := (hp k hk).nodup_iff.2 (instL_nodup hv _)
  obtain ⟨n1, _, hd1, ⟨d1, hl1, hv1⟩, hw1⟩ := ord_wr ho hk (List.getElem_mem (show i < (os.getD k []).length by omega))
  obtain ⟨n2, _, hd2, ⟨d2, hl2, hv2⟩, hw2⟩ := ord_wr ho hk (List.getElem_mem hi)
  rw [hw1, hw2]
  unfold putL
  rw [if_pos]
  rw [hd1, hd2]
  simp only [Bool.true_and, bne_iff_ne, ne_eq]
  intro he
  rw [he] at hl1
  have hdd : d1 = d2 := by rw [hl1] at hl2; exact Option.some.inj hl2
  have hxx : (os.getD k [])[i] = (os.getD k [])[i + 1] := by rw [← hv1, ← hv2, hdd]
  exact List.pairwise_iff_getElem.1 hnd i (i + 1) (by omega) hi (by omega) hxx
theorem rd_eq {h : List Txn} {n : Int} (hn : dneOf h n = true) (L : List Edge) (r : Op) : rdL h L n r = if dneOf h (wrI h r.Key r.Value) && (wrI h r.Key r.Value != n) then L ++ [⟨wrI h r.Key r.Value, n, 2⟩] else L := by
  unfold rdL putL
  rw [hn, Bool.and_true]
theorem nxI_mem {o : List Int} {v y : Int} (h : nxI o v = some y) : y ∈ o := by
  unfold nxI at h
  split at h
  · exact List.mem_of_getElem? h
  · split at h
    · exact List.mem_of_getElem? h
    · cases h
theorem ov_none {h : List Txn} {os : List (List Int)} {n : Int} {L : List Edge} {r : Op} (hx : nxI (os.getD r.Key.toNat []) r.Value = none) : ovL h os L n r = L := by
  unfold ovL; rw [hx]
theorem ov_some {h : List Txn} {os : List (List Int)} (ho : ordB h os = true) {n : Int} (hn : dneOf h n = true) {L : List Edge} {r : Op} (hk : 0 ≤ r.Key ∧ r.Key ≤ 2) {y : Int} (hx : nxI (os.getD r.Key.toNat []) r.Value = some y) : (1 ≤ y ∧ y ≤ 99) ∧ ovL h os L n r = if wrI h r.Key y != n then L ++ [⟨n, wrI h r.Key y, 3⟩] else L := by
  obtain ⟨hv, h3, hp⟩ := ord_parts ho
  have hm := nxI_mem hx
  have hk3 : r.Key.toNat < 3 := by omega
  have hkk : ((r.Key.toNat : Nat) : Int) = r.Key := by omega
  obtain ⟨m, hm1, hd, _, hw⟩ := ord_wr ho hk3 hm
  rw [hkk] at hw
  refine ⟨instL_val hv ((hp _ hk3).mem_iff.1 hm), ?_⟩
  unfold ovL
  rw [hx]
  simp only
  unfold putL
  rw [hw, hn, hd]
  simp only [Bool.true_and]
  have hb : (n != (m : Int)) = ((m : Int) != n) := by
    rw [Bool.eq_iff_iff]
    simp only [bne_iff_ne, ne_eq]
    exact ⟨fun h1 h2 => h1 h2.symm, fun h1 h2 => h1 h2.symm⟩
  rw [hb]
theorem partD_done (h : List Txn) (os : List (List Int)) (L : List Edge) (k : Nat) (hk : k < h.length) : partD h os L (doneI h (k + 1)) = if h[k].Done then partR h os (k : Int) (partD h os L (doneI h k)) (firstR h[k].Ops) else partD h os L (doneI h k) := by
  rw [doneI_succ h k hk]
  unfold partD
  rw [List.foldl_append]
  cases h[k].Done with
  | false => rfl
  | true =>
    simp only [if_true, List.foldl_cons, List.foldl_nil]
    rw [opsOf_nat hk]
open Go
/-- Each of the first n operations yields its value in a world of which I holds; the rest waits for them all. -/
theorem wp_region_vals {P : Program} {Q : Exit → Act → World → Prop} {l : List Oper} {id : Nat} {a0 : Act} {w0 : World} (n : Nat) (I : World → Prop) (V : Nat → Value) (ds : List (Option Tmp)) (hm : P.follows .mixedOrders = true) (hw : wellB l.toArray n a0.tmps.size = true) (ht : tailB l.toArray n = true)
    (hds : (List.range n).map (dstOf l.toArray) = ds) (hall : ds.all (·.isSome) = true) (h0 : I w0.drew)
    (hstep : ∀ i o, i < n → l.toArray[i]? = some o → ∀ (a : Act) (w : World), I w → (∀ t, calmB l.toArray n i t = true → a.tmps.getD t undef = a0.tmps.getD t undef) →
      (∀ j d, depB l.toArray i j d = true → a.tmps.getD d undef = V j) → ∀ K : Act → World → Prop, (∀ w', I w' → K (a.put o.dst (V i)) w') → o.wp P a w K Q)
    (hend : ∀ (w' : World), I w' → wpList P l.toArray Q (l.drop n) (putD V ds 0 a0) w') : (Code.region id l.toArray true).wp P Q a0 w0 := by
  have hd : ∀ i o, i < n → l.toArray[i]? = some o → o.dst ≠ none := fun i o hi ho hn => by
    have h1 : dstOf l.toArray i ∈ ds := by
      rw [← hds]
      exact List.mem_map_of_mem (List.mem_range.2 hi)
    have h2 := List.all_eq_true.1 hall _ h1
    unfold dstOf at h2
    rw [ho] at h2
    simp [hn] at h2
  refine wp_region_facts n (fun _ w => I w) (fun i v _ => v = V i) (fun _ _ _ => True) ds hm hw ht hds h0 (fun i k v w w' _ _ _ h _ => h) (fun i o hi ho a w L _ hI hc hdep K hK => ?_) (fun vs w' L _ hI hF => ?_)
  · refine hstep i o hi ho a w hI hc (fun j d hjd => hdep j d hjd) K (fun w' hI' => ?_)
    exact hK (V i) w' (by rw [if_neg (hd i o hi ho)]) hI' trivial
  · have := hend w' hI
    have hp : putD V ds 0 a0 = putD vs ds 0 a0 := by
      have hlen : ds.length = n := by rw [← hds]; simp
      have H : ∀ (ds : List (Option Tmp)) (k : Nat) (a : Act), k + ds.length ≤ n → putD V ds k a = putD vs ds k a := by
        intro ds
        induction ds with
        | nil => intro k a _; rfl
        | cons d ds ih =>
          intro k a hk
          simp only [List.length_cons] at hk
          simp only [putD]
          rw [hF k (by omega)]
          exact ih (k + 1) _ (by omega)
      exact H ds 0 a0 (by omega)
    rw [← hp]
    exact this
theorem Own.emptyAtE {α : Type} {T : Ty α} {e : TypeId} {w : World} {S : Nat → Prop} {p : Nat} (hB : Blk w p e #[]) (hp : S p) : Own T e w S ([] : List α) (.slice (some ⟨p, 0, none⟩) 0 0) :=
  .inr ⟨p, 0, #[], fun _ => False, rfl, hp, hB, by simp, by simp [maxLen], by simp, fun _ h => h.elim, fun k hk => absurd hk (by simp)⟩
theorem idx_lt9 {α : Type} (p : α → Bool) : ∀ (xs : List α), idx p xs = -1 ∨ ∃ i : Nat, i < xs.length ∧ idx p xs = (i : Int)
  | [] => .inl rfl
  | x :: xs => by
    cases hx : p x with
    | true => exact .inr ⟨0, by simp, by simp [idx, hx]⟩
    | false =>
      rcases idx_lt9 p xs with h1 | ⟨i, hi, h1⟩
      · left; simp only [idx, hx, h1]; rfl
      · right; exact ⟨i + 1, by simpa using hi, by simp only [idx, hx, h1]; rfl⟩
def hasEd (L : List Edge) (e : Edge) : Bool := L.any fun x => x.From == e.From && x.To == e.To && x.Kind == e.Kind
def allEd : List Edge := (List.range 6).flatMap fun f : Nat => (List.range 6).flatMap fun t : Nat => [⟨(f : Int), (t : Int), 1⟩, ⟨(f : Int), (t : Int), 2⟩, ⟨(f : Int), (t : Int), 3⟩, ⟨(f : Int), (t : Int), 4⟩]
/-- Edges in their order, each once. -/
def canE (L : List Edge) : List Edge := allEd.filter (hasEd L)
/-- What is asked of 'sorted'. -/
def SortC : Prop := ∀ (W : World) (K : Nat → Prop) (L : List Edge) (v : Value), Own tEdge 86 W (fun b => K b ∧ Old W b) L v → L.length ≤ 1000 → (∀ e ∈ L, ∃ f t : Nat, e.From = (f : Int) ∧ e.To = (t : Int) ∧ f < 6 ∧ t < 6 ∧ 1 ≤ e.Kind ∧ e.Kind ≤ 4) → (∀ b, W.heap.size ≤ b → K b) →
  Calls Tryz.prog 93 #[v] W fun e w' => ∃ u, e = .returned u ∧ Sl tEdge w' (fun b => K b ∧ Old w' b) (canE L) u ∧ Only K W w'
theorem putL_ok {h : List Txn} (h6 : h.length ≤ 6) {L : List Edge} {f t k : Int} (hk : 1 ≤ k ∧ k ≤ 4) (hL : ∀ e ∈ L, ∃ f t : Nat, e.From = (f : Int) ∧ e.To = (t : Int) ∧ f < 6 ∧ t < 6 ∧ 1 ≤ e.Kind ∧ e.Kind ≤ 4) : ∀ e ∈ putL h L f t k, ∃ f t : Nat, e.From = (f : Int) ∧ e.To = (t : Int) ∧ f < 6 ∧ t < 6 ∧ 1 ≤ e.Kind ∧ e.Kind ≤ 4 := by
  unfold putL
  split
  · rename_i hc
    simp only [Bool.and_eq_true] at hc
    intro e he
    rcases List.mem_append.1 he with he | he
    · exact hL e he
    · simp at he
      subst he
      obtain ⟨a, rfl, ha, _⟩ := mem_num_done (done_mem hc.1.1)
      obtain ⟨b, rfl, hb, _⟩ := mem_num_done (done_mem hc.1.2)
      exact ⟨a, b, rfl, rfl, by omega, by omega, hk.1, hk.2⟩
  · exact hL
def EdOk (L : List Edge) : Prop := ∀ e ∈ L, ∃ f t : Nat, e.From = (f : Int) ∧ e.To = (t : Int) ∧ f < 6 ∧ t < 6 ∧ 1 ≤ e.Kind ∧ e.Kind ≤ 4
theorem partW_ok {h : List Txn} (h6 : h.length ≤ 6) (key : Nat) (o : List Int) {L : List Edge} (hL : EdOk L) : ∀ i, EdOk (partW h key o L i)
  | 0 => hL
  | i + 1 => putL_ok h6 (by decide) (partW_ok h6 key o hL i)
theorem partK_ok {h : List Txn} (h6 : h.length ≤ 6) (os : List (List Int)) : ∀ k, EdOk (partK h os k)
  | 0 => fun e he => by cases he
  | k + 1 => partW_ok h6 k _ (partK_ok h6 os k) _
theorem stepR_ok {h : List Txn} (h6 : h.length ≤ 6) (os : List (List Int)) (n : Int) {L : List Edge} (hL : EdOk L) (r : Op) : EdOk (stepR h os n L r) := by
  unfold stepR ovL rdL
  have h1 : EdOk (putL h L (wrI h r.Key r.Value) n 2) := putL_ok h6 (by decide) hL
  split
  · exact putL_ok h6 (by decide) h1
  · exact h1
theorem partR_ok {h : List Txn} (h6 : h.length ≤ 6) (os : List (List Int)) (n : Int) : ∀ (rs : List Op) {L : List Edge}, EdOk L → EdOk (partR h os n L rs)
  | [], _, hL => hL
  | r :: rs, _, hL => partR_ok h6 os n rs (stepR_ok h6 os n hL r)
theorem partD_ok {h : List Txn} (h6 : h.length ≤ 6) (os : List (List Int)) : ∀ (ns : List Int) {L : List Edge}, EdOk L → EdOk (partD h os L ns)
  | [], _, hL => hL
  | n :: ns, _, hL => partD_ok h6 os ns (partR_ok h6 os n _ hL)
theorem rawI_ok {h : List Txn} (h6 : h.length ≤ 6) (os : List (List Int)) : EdOk (rawI h os) := partD_ok h6 os _ (partK_ok h6 os 3)
set_option maxRecDepth 10000 in
set_option maxHeartbeats 8000000 in
theorem implEdgesT (hS : SortC) (xs : List Txn) (os : List (List Int)) (A B : Option Addr) (c d : Nat) (w : World) (ho : ordB xs os = true) (hA : Row tTxn w (Old w) A xs) (hB : Row (tSlice tInt) w (Old w) B os) :
    Calls Tryz.prog 42 #[.slice A xs.length c, .slice B os.length d] w fun e w' => ∃ v, e = .returned v ∧ Sl tEdge w' (New w w') (canE (rawI xs os)) v ∧ Below w.heap.size w w' := by
  obtain ⟨hv, h3, hperm⟩ := ord_parts ho
  have h6 : xs.length ≤ 6 := (histV_parts hv).1
  have HPerm := hide hperm
  have hlen : ∀ k, k < os.length → (os.getD k []).length ≤ 6 := fun k hk => by
    rw [(hperm k (by omega)).length_eq]
    exact Nat.le_trans (instV_len xs _ _) h6
  have HLen := hide hlen
  have HV := hide hv
  have HPos := hide (fun (k : Nat) (hk : k < 3) (x : Int) (hx : x ∈ os.getD k []) => show 0 < xs.length from by
    obtain ⟨n, hn, _⟩ := ins_ex hv ((hperm k hk).mem_iff.1 hx)
    omega)
  have HOV := hide (fun (W : World) (hb : Below w.heap.size w W) => implOrdersValid xs os A B c d W (by simp only [maxLen]; omega) (by omega) (fun o hm => by
    obtain ⟨k, hk, rfl⟩ := List.getElem_of_mem hm
    have := hlen k hk
    rw [List.getD_eq_getElem?_getD, List.getElem?_eq_getElem hk] at this
    simp only [Option.getD_some] at this
    omega) (hA.old hb) (hB.old hb))
  rw [ho] at HOV
  have HA := hide hA; have HB := hide hB; have HS := hide hS
  have H3 := hide h3
  have hq3 : os.length ≤ 9223372036854775807 := by omega
  obtain ⟨bh, hbh⟩ : ∃ bh, bh = w.heap.size := ⟨_, rfl⟩
  obtain ⟨W0, hW0⟩ : ∃ W0, W0 = w.alloc (.cells #[.slice A xs.length c] 30) := ⟨_, rfl⟩
  have HH0 := hide (show Blk W0 bh 30 #[.slice A xs.length c] by rw [hW0, hbh]; exact Blk.new w _ _)
  have HB0 := hide (show Below w.heap.size w W0 by rw [hW0]; exact (Below.refl _ w).alloc (Nat.le_refl _) _)
  have HBs := hide (show W0.heap.size = bh + 1 by rw [hW0, hbh]; simp)
  have hbw : w.heap.size ≤ bh := by omega
  clear ho hA hB hperm hlen hS hv h3
  go_enter Tryz.func42, Tryz.ntmps42
  go_upto_region 1 with (fail)
  rw [← hW0, ← hbh]
  have hcb := HH0.out.cell 0
  simp only [List.getElem?_toArray, List.getElem?_cons_zero] at hcb
  clear hW0 hbh
  go_upto_region 3 with (go_at_call 88; refine (HOV.out _ HB0.out).mono ?_; rintro e w1 ⟨rfl, hb1⟩; have HH1 := hide (HH0.out.below hb1 HH0.out.lt); have HB1 := hide (HB0.out.trans (hb1.mono HB0.out.size)); have HZ1 := hide hb1.size; clear hb1)
  obtain ⟨bl, hbl⟩ : ∃ bl, bl = w1.heap.size + 1 := ⟨_, rfl⟩
  have HbL := hide hbl
  have HE0 := hide (show EL w (((w1.alloc (.cells #[] 86)).alloc (.cells #[.slice (some ⟨w1.heap.size, 0, none⟩) 0 0] 53))) bl bh (.slice A xs.length c) (fun b => bh < b ∧ b ≠ bl) [] from
    ⟨(HH1.out.alloc _).alloc _, ⟨.slice (some ⟨w1.heap.size, 0, none⟩) 0 0, by rw [hbl]; have := Blk.new (w1.alloc (.cells #[] 86)) 53 #[.slice (some ⟨w1.heap.size, 0, none⟩) 0 0]; simpa using this,
      (Own.emptyAtE (show Blk _ w1.heap.size 86 #[] from (Blk.new w1 _ _).alloc _) ⟨⟨by have := HBs.out; have := HZ1.out; omega, by omega⟩, by simp [Old]; omega⟩)⟩,
      (HB1.out.alloc HB1.out.size _).alloc (by have := HB1.out.size; simp; omega) _, by have := HBs.out; have := HZ1.out; omega, hbw, fun b h => h⟩)
  go_wp2_with fail
  rw [← hbl]
  generalize hW5 : World.alloc _ _ = W5 at HE0 ⊢
  have HKn := hide (fun (wz : World) {L : List Edge} {K : Nat → Prop} (h : EL w wz bl bh (.slice A xs.length c) K L) (b : Nat) (hb : wz.heap.size ≤ b) => show bh < b ∧ b ≠ bl from by
    obtain ⟨v, h1, _⟩ := h.lv
    have := h1.lt; have := h.hb.lt; omega)
  clear hW5 hbl HH0 HH1 HB0 HB1 HZ1 hcb HOV HBs
  go_loopw [7, 8, 9, 25] (fun _ _ _ ctr wr => ∃ kk : Nat, kk ≤ os.length ∧ ctr = .int .i64 kk ∧ (partK xs os kk).length ≤ 6 * kk ∧ Hid (EL w wr bl bh (.slice A xs.length c) (fun b => bh < b ∧ b ≠ bl) (partK xs os kk))) (fun _ _ _ ctr _ => os.length - (intOf ctr).toNat)
  case atStart => exact ⟨0, Nat.zero_le _, rfl, Nat.le_refl _, HE0.out⟩
  case round =>
    obtain ⟨kk, hkk, rfl, hll, hE⟩ := hrel
    have HE := hide hE.out
    clear hE HE0
    by_cases hlt : kk < os.length
    · have hki : (kk : Int) < (os.length : Int) := by omega
      have hk3 : kk < 3 := by have := H3.out; omega
      obtain ⟨b, off, A2, c2, rfl, hbS, d0w, hs1, hs2, hs3⟩ := at_IntS HB.out (Below.refl _ w) hlt
      have d0 := (HE.out.b.cell (p := ⟨b, off + kk, none⟩) hbS).trans d0w
      clear d0w
      have hgd : os.getD kk [] = os[kk] := by rw [List.getD_eq_getElem?_getD, List.getElem?_eq_getElem hlt]; rfl
      have hol := HLen.out kk hlt
      have HPk := hide (show ∀ x ∈ os.getD kk [], 1 ≤ x ∧ x ≤ 99 from fun x hx => instL_val HV.out ((HPerm.out kk hk3).mem_iff.1 hx))
      have HSk := hide (show partK xs os (kk + 1) = partW xs kk (os.getD kk []) (partK xs os kk) ((os.getD kk []).length - 1) from rfl)
      rw [hgd] at hol HPk HSk
      have hgd2 := hgd
      clear hgd
      generalize os[kk] = O at d0 hs1 hs3 hol HPk HSk hgd2
      generalize partK xs os kk = L0 at HE HSk hll
      have HRo := hide hs3
      clear hs3 hs1 hs2
      go_wp2_with fail
      clear d0
      go_loopw [9] (fun ix wr => ∃ i : Nat, i ≤ O.length - 1 ∧ ix = .int .i64 ((i : Int) + 1) ∧ (partW xs kk O L0 i).length ≤ L0.length + i ∧ Hid (EL w wr bl bh (.slice A xs.length c) (fun b => bh < b ∧ b ≠ bl) (partW xs kk O L0 i))) (fun ix _ => O.length - (intOf ix).toNat)
      case atStart => exact ⟨0, Nat.zero_le _, rfl, Nat.le_refl _, HE.out⟩
      case round =>
        obtain ⟨i, hi1, rfl, hwl, hE⟩ := hrel
        have HE2 := hide hE.out
        clear hE HE
        by_cases hlt2 : i + 1 < O.length
        · have hki2 : (i : Int) + 1 < (O.length : Int) := by omega
          have HSw := hide (show partW xs kk O L0 (i + 1) = putL xs (partW xs kk O L0 i) (wrI xs (kk : Int) (O.getD i 0)) (wrI xs (kk : Int) (O.getD (i + 1) 0)) 1 from rfl)
          have gx : O.getD i 0 = O[i] := by rw [List.getD_eq_getElem?_getD, List.getElem?_eq_getElem (by omega)]; rfl
          have gy : O.getD (i + 1) 0 = O[i + 1] := by rw [List.getD_eq_getElem?_getD, List.getElem?_eq_getElem hlt2]; rfl
          have px := HPk.out O[i] (List.getElem_mem (by omega))
          have py := HPk.out O[i + 1] (List.getElem_mem hlt2)
          rw [gx, gy] at HSw
          have hpos : 0 < xs.length := HPos.out kk hk3 O[i] (by rw [hgd2]; exact List.getElem_mem (by omega))
          have hp := fun (wz : World) (hb : Below w.heap.size w wz) => at_Int HRo.out hb (show i < O.length by omega)
          have hq := fun (wz : World) (hb : Below w.heap.size w wz) => at_Int HRo.out hb hlt2
          obtain ⟨b2, off2, hA2, _, _⟩ := hp w (Below.refl _ _)
          subst hA2
          have HCx := hide (fun (wz : World) (hb : Below w.heap.size w wz) => show wz.cell? ⟨b2, off2 + i, none⟩ = some (.int .i64 O[i]) from by
            obtain ⟨b3, off3, h1, _, h2⟩ := hp wz hb
            obtain ⟨rfl, rfl⟩ : b2 = b3 ∧ off2 = off3 := by simpa using h1
            exact h2)
          have HCy := hide (fun (wz : World) (hb : Below w.heap.size w wz) => show wz.cell? ⟨b2, off2 + (i + 1), none⟩ = some (.int .i64 O[i + 1]) from by
            obtain ⟨b3, off3, h1, _, h2⟩ := hq wz hb
            obtain ⟨rfl, rfl⟩ : b2 = b3 ∧ off2 = off3 := by simpa using h1
            exact h2)
          clear hp hq gx gy
          generalize O[i] = x at px HSw HCx
          generalize O[i + 1] = y at py HSw HCy
          generalize partW xs kk O L0 i = L1 at HE2 HSw hwl
          have HWr := hide (fun (z : Int) (hz : 1 ≤ z ∧ z ≤ 99) (wz : World) (hb : Below w.heap.size w wz) => implWriterOf xs kk z A c wz HV.out (by omega) (by omega) (by omega) (by omega) (HA.out.old hb))
          go_upto_region 11 with (fail)
          refine wp_region_vals 16 (fun wz => EL w wz bl bh (.slice A xs.length c) (fun b => bh < b ∧ b ≠ bl) L1) (fun q9 => match q9 with | 0 => .func (.func 89) #[] #[.pointer (some ⟨bh, 0, none⟩), .pointer (some ⟨bl, 0, none⟩)] | 1 => .slice A xs.length c | 2 => .int .i64 kk | 3 => .slice (some ⟨b2, off2, none⟩) O.length c2 | 4 => .int .i64 ((i : Int) + 1) | 5 => .int .i64 i | 6 => .pointer (some ⟨b2, off2 + i, none⟩) | 7 => .int .i64 x | 8 => .int .i64 (wrI xs kk x) | 9 => .slice A xs.length c | 10 => .int .i64 kk | 11 => .slice (some ⟨b2, off2, none⟩) O.length c2 | 12 => .int .i64 ((i : Int) + 1) | 13 => .pointer (some ⟨b2, off2 + (i + 1), none⟩) | 14 => .int .i64 y | 15 => .int .i64 (wrI xs kk y) | _ => undef) [some 36, some 37, some 38, some 39, some 40, some 41, some 42, some 43, some 44, some 45, some 46, some 47, some 48, some 49, some 50, some 51] (by kernel_rfl) (by kernel_rfl) (by kernel_rfl) (by kernel_rfl) (by kernel_rfl) ?_ ?_ ?_
          · exact HE2.out.below ((Below.refl _ wr).drew)
          · intro i o hi ho a wa hI hc hd K hK
            have hi' : i = 0 ∨ i = 1 ∨ i = 2 ∨ i = 3 ∨ i = 4 ∨ i = 5 ∨ i = 6 ∨ i = 7 ∨ i = 8 ∨ i = 9 ∨ i = 10 ∨ i = 11 ∨ i = 12 ∨ i = 13 ∨ i = 14 ∨ i = 15 := by omega
            clear hi
            rcases hi' with rfl | rfl | rfl | rfl | rfl | rfl | rfl | rfl | rfl | rfl | rfl | rfl | rfl | rfl | rfl | rfl
            all_goals
              simp only [List.getElem?_toArray, List.getElem?_cons_zero, List.getElem?_cons_succ, Option.some.injEq] at ho
              subst ho
            · have e6 := (hc 6 (by kernel_rfl)).trans rfl
              go_simp
              exact hK _ hI
            · have e2 := (hc 2 (by kernel_rfl)).trans rfl
              have c0 := hI.hb.cell 0
              simp only [List.getElem?_toArray, List.getElem?_cons_zero] at c0
              go_simp
              exact hK _ hI
            · have e7 := (hc 7 (by kernel_rfl)).trans rfl
              go_simp
              exact hK _ hI
            · have e8 := (hc 8 (by kernel_rfl)).trans rfl
              go_simp
              exact hK _ hI
            · have e9 := (hc 9 (by kernel_rfl)).trans rfl
              go_simp
              exact hK _ hI
            · have e40 : a.tmps.getD 40 undef = .int .i64 ((i : Int) + 1) := hd 4 40 (by kernel_rfl)
              have s1 : IntKind.i64.wrap (i : Int) = (i : Int) := by rw [IntKind.wrap_i64]; omega
              go_simp
              exact hK _ hI
            · have e39 : a.tmps.getD 39 undef = .slice (some ⟨b2, off2, none⟩) O.length c2 := hd 3 39 (by kernel_rfl)
              have e41 : a.tmps.getD 41 undef = .int .i64 i := hd 5 41 (by kernel_rfl)
              have s2 : i < O.length := by omega
              go_simp
              exact hK _ hI
            · have e42 : a.tmps.getD 42 undef = .pointer (some ⟨b2, off2 + i, none⟩) := hd 6 42 (by kernel_rfl)
              have c0 := HCx.out wa hI.b
              go_simp
              exact hK _ hI
            · have e37 : a.tmps.getD 37 undef = .slice A xs.length c := hd 1 37 (by kernel_rfl)
              have e38 : a.tmps.getD 38 undef = .int .i64 kk := hd 2 38 (by kernel_rfl)
              have e43 : a.tmps.getD 43 undef = .int .i64 x := hd 7 43 (by kernel_rfl)
              go_simp
              refine (HWr.out x px wa hI.b).mono ?_
              rintro e w2 ⟨rfl, hb⟩
              exact hK _ (hI.below hb)
            · have e2 := (hc 2 (by kernel_rfl)).trans rfl
              have c0 := hI.hb.cell 0
              simp only [List.getElem?_toArray, List.getElem?_cons_zero] at c0
              go_simp
              exact hK _ hI
            · have e7 := (hc 7 (by kernel_rfl)).trans rfl
              go_simp
              exact hK _ hI
            · have e8 := (hc 8 (by kernel_rfl)).trans rfl
              go_simp
              exact hK _ hI
            · have e9 := (hc 9 (by kernel_rfl)).trans rfl
              go_simp
              exact hK _ hI
            · have e47 : a.tmps.getD 47 undef = .slice (some ⟨b2, off2, none⟩) O.length c2 := hd 11 47 (by kernel_rfl)
              have e48 : a.tmps.getD 48 undef = .int .i64 ((i : Int) + 1) := hd 12 48 (by kernel_rfl)
              go_simp
              exact hK _ hI
            · have e49 : a.tmps.getD 49 undef = .pointer (some ⟨b2, off2 + (i + 1), none⟩) := hd 13 49 (by kernel_rfl)
              have c0 := HCy.out wa hI.b
              go_simp
              exact hK _ hI
            · have e45 : a.tmps.getD 45 undef = .slice A xs.length c := hd 9 45 (by kernel_rfl)
              have e46 : a.tmps.getD 46 undef = .int .i64 kk := hd 10 46 (by kernel_rfl)
              have e50 : a.tmps.getD 50 undef = .int .i64 y := hd 14 50 (by kernel_rfl)
              go_simp
              refine (HWr.out y py wa hI.b).mono ?_
              rintro e w2 ⟨rfl, hb⟩
              exact hK _ (hI.below hb)
          · intro wz hI
            simp only [putD, Act.put, List.setIfInBounds_toArray, List.set_cons_zero, List.set_cons_succ, List.drop_succ_cons, List.drop_zero]
            have HI := hide hI
            clear hI
            go_wp2_with fail
            refine (put_any xs A c w wz bl bh (fun b => bh < b ∧ b ≠ bl) L1 _ _ 1 h6 (wrI_range hpos _ _).1 (wrI_range hpos _ _).2 (wrI_range hpos _ _).1 (wrI_range hpos _ _).2 HI.out HA.out (by omega) (fun b hb => HKn.out wz HI.out b hb)).mono ?_
            rintro e w9 ⟨rfl, hE9, hO9⟩
            have HE9 := hide hE9
            rw [← HSw.out] at HE9
            clear hE9 hO9 HI HE2
            go_wp2_with fail
            go_roundw
            case rel => exact ⟨i + 1, by omega, by go_num, by rw [HSw.out]; exact Nat.le_trans (putL_len _ _ _ _ _) (by omega), HE9.out⟩
            case measure => simp [intOf]; omega
        · have hie : i = O.length - 1 := by omega
          have HE3 := hide (show EL w wr bl bh (.slice A xs.length c) (fun b => bh < b ∧ b ≠ bl) (partK xs os (kk + 1)) by rw [HSk.out, ← hie]; exact HE2.out)
          have HL3 := hide (show (partK xs os (kk + 1)).length ≤ 6 * (kk + 1) by rw [HSk.out, ← hie]; omega)
          have hnn : ¬ (i : Int) + 1 < (O.length : Int) := by omega
          clear HE2 hie HSk hwl hi1
          go_wp2_with fail
          go_roundw
          case rel => exact ⟨kk + 1, by omega, by go_num, HL3.out, HE3.out⟩
          case measure => simp [intOf]; omega
    · have HK3 := hide (show kk = 3 by have := H3.out; omega)
      have HE1 := hide (show EL w wr bl bh (.slice A xs.length c) (fun b => bh < b ∧ b ≠ bl) (partK xs os 3) by rw [← HK3.out]; exact HE.out)
      have hl18 : (partK xs os 3).length ≤ 18 := by have := HK3.out; subst this; omega
      have HRaw := hide (show rawI xs os = partD xs os (partK xs os 3) (doneL xs) from rfl)
      have HDn := hide (fun (W : World) (hb : Below w.heap.size w W) => implDone xs A c W (by omega) (HA.out.old hb))
      have HIn := hide (fun n hn => doneI_mem xs xs.length n hn)
      have HDd := hide (fun (n : Int) (hn : n ∈ doneL xs) => mem_num_done hn)
      have hdl : (doneL xs).length ≤ 6 := Nat.le_trans (doneI_len xs _) h6
      have hkn : ¬ (kk : Int) < (os.length : Int) := by omega
      have hck := HE.out.hb.cell 0
      simp only [List.getElem?_toArray, List.getElem?_cons_zero] at hck
      rw [show doneI xs xs.length = doneL xs from rfl] at HIn
      generalize partK xs os 3 = L3 at HE1 hl18 HRaw
      generalize doneL xs = D at HRaw HDn HIn HDd hdl
      clear HE hll hlt hkk HK3
      go_wp2_with (go_at_call 70; refine (HDn.out _ HE1.out.b).mono ?_; rintro e w2 ⟨v2, rfl, hO2, hb2⟩; obtain ⟨A3, c3, rfl, h31, h32, h33⟩ := hO2.sl; have HRd := hide h33; have HBd := hide hb2; have HE2 := hide (HE1.out.below hb2); clear hb2 h33 hO2)
      obtain ⟨wa, hwa⟩ : ∃ wa : World, wa = wr := ⟨_, rfl⟩
      rw [← hwa] at HBd HRd HE1
      have HE3 := hide (((HE1.out.to (K' := fun b => (bh < b ∧ b ≠ bl) ∧ ¬ (wa.heap.size ≤ b ∧ b < w2.heap.size)) (fun b hb h9 => ⟨hb, fun h8 => by unfold Old at h9; omega⟩) (fun b hb => hb.1))).below HBd.out)
      have hbla : bl < wa.heap.size := by obtain ⟨v, h9, _⟩ := HE1.out.lv; exact h9.lt
      have hza := HBd.out.size
      have hqD : D.length ≤ 9223372036854775807 := by omega
      clear hwa HE2 HE1 hck HDn
      go_loopw [11, 13, 14, 15, 16, 57] (fun _ _ _ _ _ ctr wr => ∃ k : Nat, k ≤ D.length ∧ ctr = .int .i64 k ∧ (partD xs os L3 (D.take k)).length ≤ 18 + 12 * k ∧ Hid (EL w wr bl bh (.slice A xs.length c) (fun b => (bh < b ∧ b ≠ bl) ∧ ¬ (wa.heap.size ≤ b ∧ b < w2.heap.size)) (partD xs os L3 (D.take k))) ∧ Hid (Only (fun b => b = bl ∨ ((bh < b ∧ b ≠ bl) ∧ ¬ (wa.heap.size ≤ b ∧ b < w2.heap.size))) w2 wr)) (fun _ _ _ _ _ ctr _ => D.length - (intOf ctr).toNat)
      case atStart => exact ⟨0, Nat.zero_le _, rfl, hl18, HE3.out, Only.refl _ _⟩
      case round =>
        obtain ⟨k, hk, rfl, hll, hE, hOn⟩ := hrel
        have HE := hide hE.out; have HOn := hide hOn.out
        clear hE hOn HE3
        by_cases hlt : k < D.length
        · have hki : (k : Int) < (D.length : Int) := by omega
          have hR5 := HRd.out.mono (w' := wr) (S' := Old wr) (fun b h => Nat.lt_of_lt_of_le h.2 HOn.out.size) (fun b h => HOn.out.block b h.2 (fun h9 => by have h1 := h.1; have h2 := h.2; omega))
          obtain ⟨bd, od, hAe, hbS, c0⟩ := at_Int hR5 (Below.refl _ _) hlt
          subst hAe
          obtain ⟨n, hn, hnl, hdn⟩ := HDd.out _ (List.getElem_mem hlt)
          have HTk := hide (partD_succ xs os L3 D k hlt)
          rw [hn] at c0 HTk
          obtain ⟨b1, off1, A4, c4, rfl, hbS1, e0, e1, e3, hj1, hj2, hj3⟩ := at_Txn HA.out HE.out.b hnl
          have htx := (histV_parts HV.out).2 _ (List.getElem_mem hnl)
          have HFR := hide (implFirstReads xs[n] A4 c4 wr (txnOk_parts htx).2 (txnOk_parts htx).1 hj3)
          have hRl : (firstR xs[n].Ops).length ≤ 6 := Nat.le_trans (firstRs_len _ _) (txnOk_parts htx).2
          have HRo := hide (fun (o : Op) (ho : o ∈ firstR xs[n].Ops) => show opOk o = true from by
            obtain ⟨j, hj, he, _⟩ := firstRs_at xs[n].Ops xs[n].Ops.length (Nat.le_refl _) o ho
            rw [he]
            exact (txnOk_parts htx).1 _ (List.getElem_mem hj))
          rw [opsOf_nat hnl] at HTk
          have hck := HE.out.hb.cell 0
          simp only [List.getElem?_toArray, List.getElem?_cons_zero] at hck
          have hnli : (n : Int) < (xs.length : Int) := by omega
          generalize firstR xs[n].Ops = R at HFR hRl HRo HTk
          generalize partD xs os L3 (D.take k) = LD at HE HTk hll
          clear htx hj3 hn hR5 hdn hj1 hj2
          have hqR : R.length ≤ 9223372036854775807 := by omega
          go_wp2_with (go_at_call 91; refine HFR.out.mono ?_; rintro e w4 ⟨v4, rfl, hS4, hb4⟩; obtain ⟨A5, c5, rfl, h51, h52, h53⟩ := hS4; have HR4 := hide h53; have HB4 := hide hb4; clear hb4 h53)
          clear c0 e0 e1 e3 hck HFR
          obtain ⟨wo, hwo⟩ : ∃ wo : World, wo = wr := ⟨_, rfl⟩
          rw [← hwo] at HE HOn HB4 HR4
          clear hwo
          have hzo : w2.heap.size ≤ wo.heap.size := HOn.out.size
          have hz4 : wo.heap.size ≤ w4.heap.size := HB4.out.size
          have HE5 := hide ((HE.out.to (K' := fun b => ((bh < b ∧ b ≠ bl) ∧ ¬ (wa.heap.size ≤ b ∧ b < w2.heap.size)) ∧ ¬ (wo.heap.size ≤ b ∧ b < w4.heap.size)) (fun b hb h9 => ⟨hb, fun h8 => by unfold Old at h9; omega⟩) (fun b hb => hb.1.1)).below HB4.out)
          go_loopw [13, 14, 15, 16, 67] (fun _ _ _ _ ctr wr => ∃ l : Nat, l ≤ R.length ∧ ctr = .int .i64 l ∧ (partR xs os n LD (R.take l)).length ≤ 18 + 12 * k + 2 * l ∧ Hid (EL w wr bl bh (.slice (some ⟨b1, off1, none⟩) xs.length c) (fun b => ((bh < b ∧ b ≠ bl) ∧ ¬ (wa.heap.size ≤ b ∧ b < w2.heap.size)) ∧ ¬ (wo.heap.size ≤ b ∧ b < w4.heap.size)) (partR xs os n LD (R.take l))) ∧ Hid (Only (fun b => b = bl ∨ (((bh < b ∧ b ≠ bl) ∧ ¬ (wa.heap.size ≤ b ∧ b < w2.heap.size)) ∧ ¬ (wo.heap.size ≤ b ∧ b < w4.heap.size))) w4 wr)) (fun _ _ _ _ ctr _ => R.length - (intOf ctr).toNat)
          case atStart => exact ⟨0, Nat.zero_le _, rfl, hll, HE5.out, Only.refl _ _⟩
          case round =>
            obtain ⟨l, hl, rfl, hll2, hE, hOn2⟩ := hrel
            have HE6 := hide hE.out; have HO6 := hide hOn2.out
            clear hE hOn2 HE5
            by_cases hlt2 : l < R.length
            · have hR6 := HR4.out.mono (w' := wr) (S' := Old wr) (fun b h => Nat.lt_of_lt_of_le h.2 HO6.out.size) (fun b h => HO6.out.block b h.2 (fun h9 => by have h1 := h.1; have h2 := h.2; omega))
              obtain ⟨b5, off5, hA5, hbS5, x0, x1, x2⟩ := at_Op hR6 (Below.refl _ _) hlt2
              subst hA5
              have hok := HRo.out _ (List.getElem_mem hlt2)
              have HSt := hide (partR_succ xs os n LD R l hlt2)
              generalize R[l] = o at x0 x1 x2 HSt hok
              obtain ⟨kd, ky, vl⟩ := o
              have hop := opOk_parts hok
              dsimp only at x0 x1 x2 HSt hop
              obtain ⟨kN, rfl⟩ : ∃ kN : Nat, ky = (kN : Int) := ⟨ky.toNat, by omega⟩
              have hk3 : kN < 3 := by omega
              have hv0 : 0 ≤ vl ∧ vl ≤ 99 := ⟨hop.2.2.1, hop.2.2.2.1⟩
              have hko : kN < os.length := by have := H3.out; omega
              generalize partR xs os n LD (R.take l) = LP at HE6 HSt hll2
              obtain ⟨b7, off7, A8, c8, rfl, hbS7, d0w, hs1, hs2, hs3⟩ := at_IntS HB.out (Below.refl _ w) hko
              have hgd : os.getD kN [] = os[kN] := by rw [List.getD_eq_getElem?_getD, List.getElem?_eq_getElem hko]; rfl
              have hol := HLen.out kN hko
              have HPk := hide (show ∀ x ∈ os.getD kN [], 1 ≤ x ∧ x ≤ 99 from fun x hx => instL_val HV.out ((HPerm.out kN hk3).mem_iff.1 hx))
              rw [hgd] at hol HPk
              have HGd := hide hgd
              clear hgd hok hop hR6
              generalize os[kN] = O at d0w hs1 hs3 hol HPk HGd
              have HRO := hide hs3
              have hpos : 0 < xs.length := by omega
              have hkoi : (kN : Int) < (os.length : Int) := by omega
              have HWr := hide (fun (z : Int) (hz : 0 ≤ z ∧ z ≤ 99) (wz : World) (hb : Below w.heap.size w wz) => implWriterOf xs kN z (some ⟨b1, off1, none⟩) c wz HV.out (by omega) (by omega) (by omega) (by omega) (HA.out.old hb))
              clear hs3 hs2
              go_upto_region 19 with (fail)
              obtain ⟨gb, hgb⟩ : ∃ gb, gb = wr.heap.size := ⟨_, rfl⟩
              have HE7 := hide ((HE6.out.to (K' := fun b => (((bh < b ∧ b ≠ bl) ∧ ¬ (wa.heap.size ≤ b ∧ b < w2.heap.size)) ∧ ¬ (wo.heap.size ≤ b ∧ b < w4.heap.size)) ∧ b ≠ gb) (fun b hb h9 => ⟨hb, fun h8 => by unfold Old at h9; omega⟩) (fun b hb => hb.1.1.1)).below ((Below.refl _ wr).alloc (Nat.le_refl _) (.cells #[.int .i64 kd, .int .i64 kN, .int .i64 vl] 82)))
              have HX7 := hide (show Blk (wr.alloc (.cells #[.int .i64 kd, .int .i64 kN, .int .i64 vl] 82)) gb 82 #[.int .i64 kd, .int .i64 kN, .int .i64 vl] by rw [hgb]; exact Blk.new wr _ _)
              have HO7 := hide (HO6.out.trans (Only.of_below (S := fun b => b = bl ∨ (((bh < b ∧ b ≠ bl) ∧ ¬ (wa.heap.size ≤ b ∧ b < w2.heap.size)) ∧ ¬ (wo.heap.size ≤ b ∧ b < w4.heap.size))) ((Below.refl _ wr).alloc (Nat.le_refl _) (.cells #[.int .i64 kd, .int .i64 kN, .int .i64 vl] 82))))
              have hgz : w4.heap.size ≤ gb := by rw [hgb]; exact HO6.out.size
              generalize hW : World.alloc _ _ = W at HE7 HX7 HO7 ⊢
              rw [← hgb]
              have y1 := HX7.out.cell 1; have y2 := HX7.out.cell 2
              simp only [List.getElem?_toArray, List.getElem?_cons_zero, List.getElem?_cons_succ] at y1 y2
              have hck := HE7.out.hb.cell 0
              simp only [List.getElem?_toArray, List.getElem?_cons_zero] at hck
              have hbg : bl ≠ gb := by omega
              clear hW x0 x1 x2 HE6 HO6 hgb
              have HKn3 := hide (fun (wz : World) (hx : Blk wz gb 82 #[.int .i64 kd, .int .i64 kN, .int .i64 vl]) (b : Nat) (hb : wz.heap.size ≤ b) => show (((bh < b ∧ b ≠ bl) ∧ ¬ (wa.heap.size ≤ b ∧ b < w2.heap.size)) ∧ ¬ (wo.heap.size ≤ b ∧ b < w4.heap.size)) ∧ b ≠ gb from by
                have := hx.lt; have := HE7.out.lt; omega)
              go_upto_region 20 with (first | (go_at_call 90; refine (HWr.out vl hv0 _ HE7.out.b).mono ?_; rintro e w5 ⟨rfl, hb5⟩; have HE8 := hide (HE7.out.below hb5); have HX8 := hide (HX7.out.below hb5 HX7.out.lt); have HO8 := hide (HO7.out.trans (Only.of_below hb5)); clear hb5) | (go_at_call 89; refine (put_any xs _ c w _ bl bh _ LP _ _ 2 h6 (wrI_range hpos _ _).1 (wrI_range hpos _ _).2 (by omega) (by omega) HE8.out HA.out (by omega) (HKn3.out _ HX8.out)).mono ?_; rintro e w6 ⟨rfl, hE9, hO9⟩; have HE9 := hide hE9; have HX9 := hide (HX8.out.of (hO9.block _ HX8.out.lt (fun h9 => by omega))); have HO9 := hide (HO8.out.trans (hO9.mono (fun b hb => hb.imp id And.left))); clear hE9 hO9))
              have z1 := HX9.out.cell 1; have z2 := HX9.out.cell 2
              simp only [List.getElem?_toArray, List.getElem?_cons_zero, List.getElem?_cons_succ] at z1 z2
              have d0 := (HE9.out.b.cell (p := ⟨b7, off7 + kN, none⟩) hbS7).trans d0w
              obtain ⟨LR, hLR⟩ : ∃ LR, putL xs LP (wrI xs kN vl) n 2 = LR := ⟨_, rfl⟩
              have hlr : LR.length ≤ LP.length + 1 := by rw [← hLR]; exact putL_len _ _ _ _ _
              rw [hLR] at HE9
              have HSt2 := hide (show ∀ r, nxI O vl = r → partR xs os n LD (R.take (l + 1)) = (match r with | some y => putL xs LR n (wrI xs kN y) 3 | none => LR) from fun r hr => by
                rw [HSt.out]
                unfold stepR ovL rdL
                simp only [Int.toNat_natCast]
                rw [HGd.out, hr, hLR]
                all_goals (cases r <;> rfl))
              clear y1 y2 hck hLR HSt HE7 HX7 HO7 HE8 HX8 HO8
              have HRow := hide (fun (wz : World) (hb : Below w.heap.size w wz) => HRO.out.old hb)
              by_cases hz : vl = 0
              · subst hz
                have hnx : ∀ r, O[0]? = r → nxI O 0 = r := fun r hr => by unfold nxI; rw [if_pos rfl]; exact hr
                by_cases hlt3 : 0 < O.length
                · have hp := fun (wz : World) (hb : Below w.heap.size w wz) => at_Int HRO.out hb hlt3
                  obtain ⟨b8, off8, hA8, _, _⟩ := hp w (Below.refl _ _)
                  subst hA8
                  have HCy := hide (fun (wz : World) (hb : Below w.heap.size w wz) => show wz.cell? ⟨b8, off8, none⟩ = some (.int .i64 O[0]) from by
                    obtain ⟨b3, off3, h1, _, h2⟩ := hp wz hb
                    obtain ⟨rfl, rfl⟩ : b8 = b3 ∧ off8 = off3 := by simpa using h1
                    simpa using h2)
                  have py := HPk.out O[0] (List.getElem_mem hlt3)
                  have HFin := hide (HSt2.out (some O[0]) (hnx _ (List.getElem?_eq_getElem hlt3)))
                  clear hp hnx
                  generalize O[0] = y at HCy py HFin
                  have hb3 : (0 : Int) < (O.length : Int) := by omega
                  have hb4 : (0 : Int) < (O.length : Int) := by omega
                  go_upto_region 27 with (fail)
                  refine wp_region_vals 10 (fun wz => EL w wz bl bh (.slice (some ⟨b1, off1, none⟩) xs.length c) (fun b => (((bh < b ∧ b ≠ bl) ∧ ¬ (wa.heap.size ≤ b ∧ b < w2.heap.size)) ∧ ¬ (wo.heap.size ≤ b ∧ b < w4.heap.size)) ∧ b ≠ gb) LR ∧ Blk wz gb 82 #[.int .i64 kd, .int .i64 kN, .int .i64 0] ∧ Only (fun b => b = bl ∨ (((bh < b ∧ b ≠ bl) ∧ ¬ (wa.heap.size ≤ b ∧ b < w2.heap.size)) ∧ ¬ (wo.heap.size ≤ b ∧ b < w4.heap.size))) w4 wz) (fun q9 => match q9 with | 0 => .func (.func 89) #[] #[.pointer (some ⟨bh, 0, none⟩), .pointer (some ⟨bl, 0, none⟩)] | 1 => .int .i64 n | 2 => .slice (some ⟨b1, off1, none⟩) xs.length c | 3 => .pointer (some ⟨gb, 1, none⟩) | 4 => .int .i64 kN | 5 => .slice (some ⟨b8, off8, none⟩) O.length c8 | 6 => .int .i64 0 | 7 => .pointer (some ⟨b8, off8, none⟩) | 8 => .int .i64 y | 9 => .int .i64 (wrI xs kN y) | _ => undef) [some 100, some 101, some 102, some 103, some 104, some 105, some 106, some 107, some 108, some 109] (by kernel_rfl) (by kernel_rfl) (by kernel_rfl) (by kernel_rfl) (by kernel_rfl) ?_ ?_ ?_
                  · exact ⟨HE9.out.below ((Below.refl _ w6).drew), HX9.out, HO9.out.trans (Only.of_below ((Below.refl _ w6).drew))⟩
                  · intro i o hi ho a wa9 hI hc hd K hK
                    have hi' : i = 0 ∨ i = 1 ∨ i = 2 ∨ i = 3 ∨ i = 4 ∨ i = 5 ∨ i = 6 ∨ i = 7 ∨ i = 8 ∨ i = 9 := by omega
                    clear hi
                    rcases hi' with rfl | rfl | rfl | rfl | rfl | rfl | rfl | rfl | rfl | rfl
                    all_goals
                      simp only [List.getElem?_toArray, List.getElem?_cons_zero, List.getElem?_cons_succ, Option.some.injEq] at ho
                      subst ho
                    · have e6 := (hc 6 (by kernel_rfl)).trans rfl
                      go_simp
                      exact hK _ hI
                    · have e11 := (hc 11 (by kernel_rfl)).trans rfl
                      go_simp
                      exact hK _ hI
                    · have e2 := (hc 2 (by kernel_rfl)).trans rfl
                      have c0 := hI.1.hb.cell 0
                      simp only [List.getElem?_toArray, List.getElem?_cons_zero] at c0
                      go_simp
                      exact hK _ hI
                    · have e13 := (hc 13 (by kernel_rfl)).trans rfl
                      go_simp
                      exact hK _ hI
                    · have e103 : a.tmps.getD 103 undef = .pointer (some ⟨gb, 1, none⟩) := hd 3 103 (by kernel_rfl)
                      have c0 := hI.2.1.cell 1
                      simp only [List.getElem?_toArray, List.getElem?_cons_zero, List.getElem?_cons_succ] at c0
                      go_simp
                      exact hK _ hI
                    · have e14 := (hc 14 (by kernel_rfl)).trans rfl
                      go_simp
                      exact hK _ hI
                    · have e15 := (hc 15 (by kernel_rfl)).trans rfl
                      go_simp
                      exact hK _ hI
                    · have e105 : a.tmps.getD 105 undef = .slice (some ⟨b8, off8, none⟩) O.length c8 := hd 5 105 (by kernel_rfl)
                      have e106 : a.tmps.getD 106 undef = .int .i64 0 := hd 6 106 (by kernel_rfl)
                      have s2 : 0 < O.length := by omega
                      go_simp
                      exact hK _ hI
                    · have e107 : a.tmps.getD 107 undef = .pointer (some ⟨b8, off8, none⟩) := hd 7 107 (by kernel_rfl)
                      have c0 := HCy.out wa9 hI.1.b
                      go_simp
                      exact hK _ hI
                    · have e102 : a.tmps.getD 102 undef = .slice (some ⟨b1, off1, none⟩) xs.length c := hd 2 102 (by kernel_rfl)
                      have e104 : a.tmps.getD 104 undef = .int .i64 kN := hd 4 104 (by kernel_rfl)
                      have e108 : a.tmps.getD 108 undef = .int .i64 y := hd 8 108 (by kernel_rfl)
                      go_simp
                      refine (HWr.out y (by omega) wa9 hI.1.b).mono ?_
                      rintro e w8 ⟨rfl, hb⟩
                      exact hK _ ⟨hI.1.below hb, hI.2.1.below hb hI.2.1.lt, hI.2.2.trans (Only.of_below hb)⟩
                  · intro wz hI
                    simp only [putD, Act.put, List.setIfInBounds_toArray, List.set_cons_zero, List.set_cons_succ, List.drop_succ_cons, List.drop_zero]
                    have HI := hide hI
                    clear hI
                    go_wp2_with fail
                    refine (put_any xs _ c w wz bl bh _ LR _ _ 3 h6 (by omega) (by omega) (wrI_range hpos _ _).1 (wrI_range hpos _ _).2 HI.out.1 HA.out (by omega) (HKn3.out _ HI.out.2.1)).mono ?_
                    rintro e w9 ⟨rfl, hE9, hO9⟩
                    have HE10 := hide (show EL w w9 bl bh (.slice (some ⟨b1, off1, none⟩) xs.length c) (fun b => ((bh < b ∧ b ≠ bl) ∧ ¬ (wa.heap.size ≤ b ∧ b < w2.heap.size)) ∧ ¬ (wo.heap.size ≤ b ∧ b < w4.heap.size)) (partR xs os n LD (R.take (l + 1))) by rw [HFin.out]; exact hE9.to (fun b hb _ => hb.1) (fun b hb => hb.1.1))
                    have HO10 := hide (HI.out.2.2.trans (hO9.mono (fun b hb => hb.imp id And.left)))
                    have HL10 := hide (show (partR xs os n LD (R.take (l + 1))).length ≤ 18 + 12 * k + 2 * (l + 1) by rw [HFin.out]; exact Nat.le_trans (putL_len _ _ _ _ _) (by omega))
                    clear hE9 hO9 HI HE9 HFin
                    go_wp2_with fail
                    go_roundw
                    case rel => exact ⟨l + 1, by omega, by go_num, HL10.out, HE10.out, HO10.out⟩
                    case measure => simp [intOf]; omega
                · have HFin := hide (HSt2.out none (hnx _ (List.getElem?_eq_none (by omega))))
                  have HE10 := hide (show EL w w6 bl bh (.slice (some ⟨b1, off1, none⟩) xs.length c) (fun b => ((bh < b ∧ b ≠ bl) ∧ ¬ (wa.heap.size ≤ b ∧ b < w2.heap.size)) ∧ ¬ (wo.heap.size ≤ b ∧ b < w4.heap.size)) (partR xs os n LD (R.take (l + 1))) by rw [HFin.out]; exact HE9.out.to (fun b hb _ => hb.1) (fun b hb => hb.1.1))
                  have HL10 := hide (show (partR xs os n LD (R.take (l + 1))).length ≤ 18 + 12 * k + 2 * (l + 1) by rw [HFin.out]; simp only; omega)
                  have hb3 : ¬ (0 : Int) < (O.length : Int) := by omega
                  clear HFin hnx
                  go_wp2_with (fail)
                  go_roundw
                  case rel => exact ⟨l + 1, by omega, by go_num, HL10.out, HE10.out, HO9.out⟩
                  case measure => simp [intOf]; omega
              · have hvb : (vl != 0) = true := by rw [bne_iff_ne]; exact hz
                have HIx := hide (fun (wz : World) (hb : Below w.heap.size w wz) => index_Int O vl A8 c8 wz (by simp only [maxLen]; omega) (HRO.out.old hb))
                rcases idx_lt9 (fun y => vl == y) O with hix | ⟨j, hj, hix⟩
                · rw [hix] at HIx
                  have HFin := hide (HSt2.out none (by unfold nxI; rw [if_neg hz, hix]; rfl))
                  have HE10 := hide (show EL w w6 bl bh (.slice (some ⟨b1, off1, none⟩) xs.length c) (fun b => ((bh < b ∧ b ≠ bl) ∧ ¬ (wa.heap.size ≤ b ∧ b < w2.heap.size)) ∧ ¬ (wo.heap.size ≤ b ∧ b < w4.heap.size)) (partR xs os n LD (R.take (l + 1))) by rw [HFin.out]; exact HE9.out.to (fun b hb _ => hb.1) (fun b hb => hb.1.1))
                  have HL10 := hide (show (partR xs os n LD (R.take (l + 1))).length ≤ 18 + 12 * k + 2 * (l + 1) by rw [HFin.out]; simp only; omega)
                  clear hix hz HFin
                  go_wp2_with (go_at_call 92; refine (HIx.out _ HE9.out.b).mono ?_; rintro e w7 ⟨rfl, rfl⟩)
                  go_roundw
                  case rel => exact ⟨l + 1, by omega, by go_num, HL10.out, HE10.out, HO9.out⟩
                  case measure => simp [intOf]; omega
                · rw [hix] at HIx
                  have hnx : ∀ r, O[j + 1]? = r → nxI O vl = r := fun r hr => by
                    unfold nxI
                    rw [if_neg hz, hix, if_pos (by omega), Int.toNat_natCast]
                    exact hr
                  have hj0 : ¬ (j : Int) < 0 := by omega
                  clear hix hz
                  by_cases hlt3 : j + 1 < O.length
                  · have hp := fun (wz : World) (hb : Below w.heap.size w wz) => at_Int HRO.out hb hlt3
                    obtain ⟨b8, off8, hA8, _, _⟩ := hp w (Below.refl _ _)
                    subst hA8
                    have HCy := hide (fun (wz : World) (hb : Below w.heap.size w wz) => show wz.cell? ⟨b8, off8 + (j + 1), none⟩ = some (.int .i64 O[j + 1]) from by
                      obtain ⟨b3, off3, h1, _, h2⟩ := hp wz hb
                      obtain ⟨rfl, rfl⟩ : b8 = b3 ∧ off8 = off3 := by simpa using h1
                      simpa using h2)
                    have py := HPk.out O[j + 1] (List.getElem_mem hlt3)
                    have HFin := hide (HSt2.out (some O[j + 1]) (hnx _ (List.getElem?_eq_getElem hlt3)))
                    clear hp hnx
                    generalize O[j + 1] = y at HCy py HFin
                    have hb3 : (((j : Int) + 1) : Int) < (O.length : Int) := by omega
                    go_upto_region 27 with (go_at_call 92; refine (HIx.out _ HE9.out.b).mono ?_; rintro e w7 ⟨rfl, rfl⟩)
                    refine wp_region_vals 10 (fun wz => EL w wz bl bh (.slice (some ⟨b1, off1, none⟩) xs.length c) (fun b => (((bh < b ∧ b ≠ bl) ∧ ¬ (wa.heap.size ≤ b ∧ b < w2.heap.size)) ∧ ¬ (wo.heap.size ≤ b ∧ b < w4.heap.size)) ∧ b ≠ gb) LR ∧ Blk wz gb 82 #[.int .i64 kd, .int .i64 kN, .int .i64 vl] ∧ Only (fun b => b = bl ∨ (((bh < b ∧ b ≠ bl) ∧ ¬ (wa.heap.size ≤ b ∧ b < w2.heap.size)) ∧ ¬ (wo.heap.size ≤ b ∧ b < w4.heap.size))) w4 wz) (fun q9 => match q9 with | 0 => .func (.func 89) #[] #[.pointer (some ⟨bh, 0, none⟩), .pointer (some ⟨bl, 0, none⟩)] | 1 => .int .i64 n | 2 => .slice (some ⟨b1, off1, none⟩) xs.length c | 3 => .pointer (some ⟨gb, 1, none⟩) | 4 => .int .i64 kN | 5 => .slice (some ⟨b8, off8, none⟩) O.length c8 | 6 => .int .i64 ((j : Int) + 1) | 7 => .pointer (some ⟨b8, off8 + (j + 1), none⟩) | 8 => .int .i64 y | 9 => .int .i64 (wrI xs kN y) | _ => undef) [some 100, some 101, some 102, some 103, some 104, some 105, some 106, some 107, some 108, some 109] (by kernel_rfl) (by kernel_rfl) (by kernel_rfl) (by kernel_rfl) (by kernel_rfl) ?_ ?_ ?_
                    · exact ⟨HE9.out.below ((Below.refl _ w6).drew), HX9.out, HO9.out.trans (Only.of_below ((Below.refl _ w6).drew))⟩
                    · intro i o hi ho a wa9 hI hc hd K hK
                      have hi' : i = 0 ∨ i = 1 ∨ i = 2 ∨ i = 3 ∨ i = 4 ∨ i = 5 ∨ i = 6 ∨ i = 7 ∨ i = 8 ∨ i = 9 := by omega
                      clear hi
                      rcases hi' with rfl | rfl | rfl | rfl | rfl | rfl | rfl | rfl | rfl | rfl
                      all_goals
                        simp only [List.getElem?_toArray, List.getElem?_cons_zero, List.getElem?_cons_succ, Option.some.injEq] at ho
                        subst ho
                      · have e6 := (hc 6 (by kernel_rfl)).trans rfl
                        go_simp
                        exact hK _ hI
                      · have e11 := (hc 11 (by kernel_rfl)).trans rfl
                        go_simp
                        exact hK _ hI
                      · have e2 := (hc 2 (by kernel_rfl)).trans rfl
                        have c0 := hI.1.hb.cell 0
                        simp only [List.getElem?_toArray, List.getElem?_cons_zero] at c0
                        go_simp
                        exact hK _ hI
                      · have e13 := (hc 13 (by kernel_rfl)).trans rfl
                        go_simp
                        exact hK _ hI
                      · have e103 : a.tmps.getD 103 undef = .pointer (some ⟨gb, 1, none⟩) := hd 3 103 (by kernel_rfl)
                        have c0 := hI.2.1.cell 1
                        simp only [List.getElem?_toArray, List.getElem?_cons_zero, List.getElem?_cons_succ] at c0
                        go_simp
                        exact hK _ hI
                      · have e14 := (hc 14 (by kernel_rfl)).trans rfl
                        go_simp
                        exact hK _ hI
                      · have e15 := (hc 15 (by kernel_rfl)).trans rfl
                        go_simp
                        exact hK _ hI
                      · have e105 : a.tmps.getD 105 undef = .slice (some ⟨b8, off8, none⟩) O.length c8 := hd 5 105 (by kernel_rfl)
                        have e106 : a.tmps.getD 106 undef = .int .i64 ((j : Int) + 1) := hd 6 106 (by kernel_rfl)
                        have s2 : j + 1 < O.length := by omega
                        go_simp
                        exact hK _ hI
                      · have e107 : a.tmps.getD 107 undef = .pointer (some ⟨b8, off8 + (j + 1), none⟩) := hd 7 107 (by kernel_rfl)
                        have c0 := HCy.out wa9 hI.1.b
                        go_simp
                        exact hK _ hI
                      · have e102 : a.tmps.getD 102 undef = .slice (some ⟨b1, off1, none⟩) xs.length c := hd 2 102 (by kernel_rfl)
                        have e104 : a.tmps.getD 104 undef = .int .i64 kN := hd 4 104 (by kernel_rfl)
                        have e108 : a.tmps.getD 108 undef = .int .i64 y := hd 8 108 (by kernel_rfl)
                        go_simp
                        refine (HWr.out y (by omega) wa9 hI.1.b).mono ?_
                        rintro e w8 ⟨rfl, hb⟩
                        exact hK _ ⟨hI.1.below hb, hI.2.1.below hb hI.2.1.lt, hI.2.2.trans (Only.of_below hb)⟩
                    · intro wz hI
                      simp only [putD, Act.put, List.setIfInBounds_toArray, List.set_cons_zero, List.set_cons_succ, List.drop_succ_cons, List.drop_zero]
                      have HI := hide hI
                      clear hI
                      go_wp2_with fail
                      refine (put_any xs _ c w wz bl bh _ LR _ _ 3 h6 (by omega) (by omega) (wrI_range hpos _ _).1 (wrI_range hpos _ _).2 HI.out.1 HA.out (by omega) (HKn3.out _ HI.out.2.1)).mono ?_
                      rintro e w9 ⟨rfl, hE9, hO9⟩
                      have HE10 := hide (show EL w w9 bl bh (.slice (some ⟨b1, off1, none⟩) xs.length c) (fun b => ((bh < b ∧ b ≠ bl) ∧ ¬ (wa.heap.size ≤ b ∧ b < w2.heap.size)) ∧ ¬ (wo.heap.size ≤ b ∧ b < w4.heap.size)) (partR xs os n LD (R.take (l + 1))) by rw [HFin.out]; exact hE9.to (fun b hb _ => hb.1) (fun b hb => hb.1.1))
                      have HO10 := hide (HI.out.2.2.trans (hO9.mono (fun b hb => hb.imp id And.left)))
                      have HL10 := hide (show (partR xs os n LD (R.take (l + 1))).length ≤ 18 + 12 * k + 2 * (l + 1) by rw [HFin.out]; exact Nat.le_trans (putL_len _ _ _ _ _) (by omega))
                      clear hE9 hO9 HI HE9 HFin
                      go_wp2_with fail
                      go_roundw
                      case rel => exact ⟨l + 1, by omega, by go_num, HL10.out, HE10.out, HO10.out⟩
                      case measure => simp [intOf]; omega
                  · have HFin := hide (HSt2.out none (hnx _ (List.getElem?_eq_none (by omega))))
                    have HE10 := hide (show EL w w6 bl bh (.slice (some ⟨b1, off1, none⟩) xs.length c) (fun b => ((bh < b ∧ b ≠ bl) ∧ ¬ (wa.heap.size ≤ b ∧ b < w2.heap.size)) ∧ ¬ (wo.heap.size ≤ b ∧ b < w4.heap.size)) (partR xs os n LD (R.take (l + 1))) by rw [HFin.out]; exact HE9.out.to (fun b hb _ => hb.1) (fun b hb => hb.1.1))
                    have HL10 := hide (show (partR xs os n LD (R.take (l + 1))).length ≤ 18 + 12 * k + 2 * (l + 1) by rw [HFin.out]; simp only; omega)
                    have hb3 : ¬ (((j : Int) + 1) : Int) < (O.length : Int) := by omega
                    clear HFin hnx
                    go_wp2_with (go_at_call 92; refine (HIx.out _ HE9.out.b).mono ?_; rintro e w7 ⟨rfl, rfl⟩)
                    go_roundw
                    case rel => exact ⟨l + 1, by omega, by go_num, HL10.out, HE10.out, HO9.out⟩
                    case measure => simp [intOf]; omega
            · have hle : l = R.length := by omega
              have HE10 := hide (show EL w wr bl bh (.slice (some ⟨b1, off1, none⟩) xs.length c) (fun b => (bh < b ∧ b ≠ bl) ∧ ¬ (wa.heap.size ≤ b ∧ b < w2.heap.size)) (partD xs os L3 (D.take (k + 1))) by
                have h9 := HE6.out
                rw [hle, List.take_length, ← HTk.out] at h9
                exact h9.to (fun b hb _ => hb.1) (fun b hb => hb.1))
              have HL10 := hide (show (partD xs os L3 (D.take (k + 1))).length ≤ 18 + 12 * (k + 1) by
                have h9 := hll2
                rw [hle, List.take_length, ← HTk.out] at h9
                omega)
              have HO10 := hide (show Only (fun b => b = bl ∨ ((bh < b ∧ b ≠ bl) ∧ ¬ (wa.heap.size ≤ b ∧ b < w2.heap.size))) w2 wr from (HOn.out.trans (Only.of_below HB4.out)).trans (HO6.out.mono (fun b hb => hb.imp id And.left)))
              have hnl2 : ¬ (l : Int) < (R.length : Int) := by omega
              clear HE6 hll2 hle HTk HOn HO6
              go_wp2_with fail
              go_roundw
              case rel => exact ⟨k + 1, by omega, by go_num, HL10.out, HE10.out, HO10.out⟩
              case measure => simp [intOf]; omega
        · have hke : k = D.length := by omega
          have HE10 := hide (show EL w wr bl bh (.slice A xs.length c) (fun b => (bh < b ∧ b ≠ bl) ∧ ¬ (wa.heap.size ≤ b ∧ b < w2.heap.size)) (rawI xs os) by
            have h9 := HE.out
            rw [hke, List.take_length, ← HRaw.out] at h9
            exact h9)
          have HL10 := hide (show (rawI xs os).length ≤ 1000 by
            have h9 := hll
            rw [hke, List.take_length, ← HRaw.out] at h9
            omega)
          have HEd := hide (rawI_ok h6 os)
          have HOz := hide (HOn.out.size)
          have hnk : ¬ (k : Int) < (D.length : Int) := by omega
          clear HE hll hke HRaw HOn
          obtain ⟨LL, hLL⟩ : ∃ LL, rawI xs os = LL := ⟨_, rfl⟩
          have HLL := hide hLL
          rw [hLL] at HE10 HL10 HEd
          clear hLL
          obtain ⟨v, hv1, hv2⟩ := HE10.out.lv
          have HVv := hide hv2
          have hcl := hv1.cell 0
          simp only [List.getElem?_toArray, List.getElem?_cons_zero] at hcl
          have HSo := hide (HS.out wr _ LL v hv2 HL10.out HEd.out (fun b hb => by have := HE10.out.lt; have := hv1.lt; exact ⟨⟨by omega, by omega⟩, fun h9 => by have := HOz.out; omega⟩))
          clear hv1 hv2
          go_wp2_with (go_at_call 93; refine HSo.out.mono ?_; rintro e w9 ⟨u, rfl, hu, hO9⟩; have HU := hide hu; have HO9 := hide hO9; clear hu hO9)
          go_ret
          exact ⟨_, rfl, by rw [HLL.out]; exact HU.out.mono (fun b hb => ⟨by have := hb.1.1.1; omega, hb.2⟩) (fun _ _ => rfl), below_only HE10.out.b HO9.out HE10.out.b.size (fun b hb => by have := hb.1.1; omega)⟩
end Go.Proofs.YtjiobgfaohldhaaGreat
