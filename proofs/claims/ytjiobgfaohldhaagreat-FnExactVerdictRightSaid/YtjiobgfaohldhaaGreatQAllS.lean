/- A region that draws its order of evaluation and has guards that are met: one fact for each operation. No order is looked at. A region that draws its order of evaluation: one fact for each operation, which may depend on what has come up. No order is looked at. The reference's AllOrders. -/
import Derived.Test.YtjiobgfaohldhaaGreatQAnyOrder
import Derived.Test.YtjiobgfaohldhaaGreatQAllF
import Derived.Test.YtjiobgfaohldhaaGreatQVerI
import Derived.Test.YtjiobgfaohldhaaGreatQOrders
import Derived.Test.YtjiobgfaohldhaaGreatQInsS
namespace Go.Proofs.YtjiobgfaohldhaaGreat
open Go

def guardOf (ops : Array Oper) (i : Nat) : Option (Nat × Bool) := (ops[i]?).bind (·.guard)
/-- As wellB; an operation's guard waits among what it waits for. -/
def wellG (ops : Array Oper) (n size : Nat) : Bool := (List.range n).all (fun i =>
  (depsOf ops i).all (fun j => decide (j < i)) && ((guardOf ops i).map fun p => (depsOf ops i).contains p.1 && (dstOf ops p.1).isSome).getD true && ((dstOf ops i).map fun d => decide (d < size)).getD true &&
    (List.range n).all fun j => i == j || dstOf ops i == none || dstOf ops i != dstOf ops j)
theorem yielded_of {ops : Array Oper} {a : Act} {g d : Nat} {b : Bool} (hd : dstOf ops g = some d) (hv : a.tmps.getD d undef = .bool b) : yielded ops a.tmps g = some b := by
  unfold dstOf at hd
  unfold yielded
  rw [hd]
  show (match a.tmps[d]? with | some (.bool b) => some b | _ => none) = some b
  rw [Array.getD_eq_getD_getElem?] at hv
  cases hx : a.tmps[d]? with
  | none => rw [hx] at hv; cases hv
  | some v =>
    rw [hx] at hv
    have : v = .bool b := hv
    rw [this]
section
variable {P : Program} {ops : Array Oper} {Q : Exit → Act → World → Prop}
theorem well_atG {ops : Array Oper} {n m i : Nat} (h : wellG ops n m = true) (hi : i < n) : (∀ j ∈ depsOf ops i, j < i) ∧ (∀ p, guardOf ops i = some p → p.1 ∈ depsOf ops i ∧ (dstOf ops p.1).isSome = true) ∧ (∀ d, dstOf ops i = some d → d < m) ∧ ∀ j, j < n → i ≠ j → ∀ d, dstOf ops i = some d → dstOf ops j ≠ some d := by
  unfold wellG at h
  rw [List.all_eq_true] at h
  have h1 := h i (List.mem_range.2 hi)
  simp only [Bool.and_eq_true, List.all_eq_true, decide_eq_true_eq, Bool.or_eq_true, beq_iff_eq, bne_iff_ne, List.mem_range] at h1
  obtain ⟨⟨⟨h2, h3⟩, h4⟩, h5⟩ := h1
  refine ⟨h2, fun p hp => ?_, fun d hd => ?_, fun j hj hij d hd e => ?_⟩
  · rw [hp] at h3
    simpa [List.contains_iff_mem] using h3
  · rw [hd] at h4
    simpa using h4
  · rcases h5 j hj with (h6 | h6) | h6
    · exact hij h6
    · rw [hd] at h6; cases h6
    · exact h6 (hd.trans e.symm)
end
end Go.Proofs.YtjiobgfaohldhaaGreat
namespace Go.Proofs.YtjiobgfaohldhaaGreat
open Go

section
variable {P : Program} {ops : Array Oper} {Q : Exit → Act → World → Prop}
theorem need_run {n : Nat} {L : Array Bool} (hH : HeadInv .any ops n L) {i k : Nat} (hk : k ≠ i) (h : needB ops n i k = true) (hd : ∀ j ∈ depsOf ops i, L.getD j false = true) : L.getD k false = true := by
  cases n with
  | zero => exact absurd (by simpa [needB] using h : i = k).symm hk
  | succ f =>
    unfold needB at h
    simp only [Bool.or_eq_true, beq_iff_eq, List.any_eq_true] at h
    rcases h with h | ⟨j, hj, h⟩
    · exact absurd h.symm hk
    · exact need_listed hH f j (hd j hj) h
structure InvL (n : Nat) (J : (Nat → Bool) → World → Prop) (F : (Nat → Bool) → Nat → Value → World → Prop) (a0 : Act) (L : Array Bool) (a : Act) (w : World) : Prop where
  j : J (fun i => L.getD i false) w
  size : a.tmps.size = a0.tmps.size
  defers : a.defers = a0.defers
  same : ∀ t, (∀ i, L.getD i false = true → dstOf ops i ≠ some t) → a.tmps.getD t undef = a0.tmps.getD t undef
  fact : ∀ i, L.getD i false = true → F (fun i => L.getD i false) i (valAt ops a i) w
  head : HeadInv .any ops n L
theorem anyOrderL (n : Nat) (J : (Nat → Bool) → World → Prop) (F : (Nat → Bool) → Nat → Value → World → Prop) (Ev : Nat → World → World → Prop) (a0 : Act) (hw : wellG ops n a0.tmps.size = true) (ht : tailB ops n = true) (hG : ∀ i p, i < n → guardOf ops i = some p → ∀ L v w, F L p.1 v w → v = .bool p.2)
    (hEv : ∀ (L : Nat → Bool) i k v w w', i < n → k < n → needB ops n i k = false → L k = false → (∀ j, j ≠ k → needB ops n k j = true → L j = true) → F L i v w → Ev k w w' → F (fun j => if j = k then true else L j) i v w')
    (hstep : ∀ i o, i < n → ops[i]? = some o → ∀ (a : Act) (w : World) (L : Nat → Bool), L i = false → J L w → (∀ t, calmB ops n i t = true → a.tmps.getD t undef = a0.tmps.getD t undef) →
      (∀ j, j ∈ depsOf ops i → F L j (valAt ops a j) w) → ∀ K : Act → World → Prop, (∀ v w', F (fun j => if j = i then true else L j) i (if o.dst = none then undef else v) w' → J (fun j => if j = i then true else L j) w' → Ev i w w' → K (a.put o.dst v) w') → o.wp P a w K Q)
    (hend : ∀ (vs : Nat → Value) (w' : World) (L : Nat → Bool), (∀ i, i < n → L i = true) → J L w' → (∀ i, i < n → F L i (vs i) w') → wpList P ops Q (ops.toList.drop n) (putAll ops vs a0 (List.range n)) w') :
    ∀ (fuel : Nat) (L : Array Bool) (a : Act) (w : World), openN ops.size L = fuel → InvL (ops := ops) n J F a0 L a w → wpAny P .any ops Q fuel L a w := by
  unfold tailB at ht
  simp only [Bool.and_eq_true, decide_eq_true_eq] at ht
  obtain ⟨⟨⟨⟨hsink, hchain⟩, hseq⟩, hopen⟩, hns⟩ := ht
  have hlt : ∀ {L : Array Bool} {i : Nat}, HeadInv .any ops n L → L.getD i false = true → i < n := fun {L i} hH h => by
    rcases Nat.lt_or_ge i n with h' | h'
    · exact h'
    · rcases Nat.lt_or_ge i ops.size with h2 | h2
      · have := hH.tail i h' h2
        rw [getD_both this] at h; cases h
      · simp [Array.getElem?_eq_none (show L.size ≤ i by rw [hH.size]; exact h2)] at h
  have hdone : ∀ (L : Array Bool) (a : Act) (w : World), InvL (ops := ops) n J F a0 L a w → (∀ i, i < n → L.getD i false = true) → ∀ fuel, openN ops.size L = fuel → wpAny P .any ops Q fuel L a w := fun L a w hI hall fuel hfu => by
    have h := hend (valAt ops a) w _ hall hI.j (fun i hi => hI.fact i (hall i hi))
    have ha : a = putAll ops (valAt ops a) a0 (List.range n) := by
      have hs := size_putAll ops (valAt ops a) (List.range n) a0
      refine act_ext (hI.size.trans hs.1.symm) (hI.defers.trans hs.2.symm) fun t ht => ?_
      refine (getD_putAll ops _ t _ _ a0 (fun i _ hd => ?_) ?_ (by rw [← hI.size]; exact ht)).symm
      · unfold valAt; rw [hd]
      · by_cases hex : ∃ i ∈ List.range n, dstOf ops i = some t
        · exact .inr hex
        · exact .inl (hI.same t fun i hi hd => hex ⟨i, List.mem_range.2 (hlt hI.head hi), hd⟩).symm
    rw [← ha] at h
    have hL : L = headL n ops.size := by
      refine Array.ext (by rw [hI.head.size]; simp [headL]) fun i h1 h2 => ?_
      have h3 : i < ops.size := by rw [← hI.head.size]; exact h1
      simp only [headL, List.getElem_toArray, List.getElem_map, List.getElem_range]
      by_cases hi : i < n
      · have := hall i hi
        simp [h1] at this
        rw [this]; simp [hi]
      · have := hI.head.tail i (by omega) h3
        simp [h1] at this
        rw [this]; simp [hi]
    subst hL
    rw [hopen] at hfu
    have hlen : (ops.toList.drop n).length = ops.size - n := by simp
    have := wpAny_of_seq (md := .any) (Q' := Q) (ops.toList.drop n) n (headL n ops.size) a w (fun j => by simp [List.getElem?_drop]) (by rw [hlen]; exact hseq) h
    rw [hlen] at this
    rw [← hfu]
    exact this
  intro fuel
  induction fuel with
  | zero =>
    intro L a w ho hI
    refine hdone L a w hI (fun i hi => ?_) 0 ho
    cases hL : L.getD i false with
    | true => rfl
    | false =>
      have hs : i < L.size := by rw [hI.head.size]; omega
      have := openN_set (n := ops.size) (show i < ops.size by omega) (show L.getD i true = false by simp [hs] at hL ⊢; exact hL)
      omega
  | succ fuel ih =>
    intro L a w ho hI
    by_cases hex : ∀ i, i < n → L.getD i false = true
    · exact hdone L a w hI hex _ ho
    have hun : ∃ i, i < n ∧ L.getD i false = false := by
      refine Classical.byContradiction fun hno => hex fun i hi => ?_
      cases hL : L.getD i false with
      | true => rfl
      | false => exact absurd ⟨i, hi, hL⟩ hno
    obtain ⟨i0, hi0, hu0⟩ := hun
    have hs0 : i0 < L.size := by rw [hI.head.size]; omega
    have hu1 : L.getD i0 true = false := by simp [hs0] at hu0 ⊢; exact hu0
    have hne : Region.ready .any ops L ≠ [] := fun hr => by
      have hall : ∀ m, ∀ i, i < m → i < n → L.getD i false = true := fun m => by
        induction m with
        | zero => intro i hi; omega
        | succ m ihm =>
          intro i hi hin
          cases hL : L.getD i false with
          | true => rfl
          | false =>
            exfalso
            have hio : i < ops.size := by omega
            have hs : i < L.size := by rw [hI.head.size]; exact hio
            have hmem : i ∈ Region.ready .any ops L := mem_ready.2 ⟨by simp [hs] at hL ⊢; exact hL, ops[i], by simp [hio], fun e he hb => by
              have hd : e.on ∈ depsOf ops i := (mem_deps (by simp [hio])).2 ⟨e, he, hb, rfl⟩
              have hlt := (well_atG hw hin).1 _ hd
              exact ihm e.on (by omega) (by omega)⟩
            rw [hr] at hmem
            cases hmem
      rw [hall (i0 + 1) i0 (by omega) hi0] at hu0
      cases hu0
    refine ⟨fun h => absurd h hne, fun i hi => ?_⟩
    have hin : i < n := by
      rcases Nat.lt_or_ge i n with h | h
      · exact h
      · exact absurd hi (tail_waits hsink hchain hns hI.head (n - i0) i0 rfl hi0 hu1 i h)
    obtain ⟨h0, o, hoi, hall⟩ := mem_ready.1 hi
    have hio : i < ops.size := (Array.getElem?_eq_some_iff.1 hoi).1
    have hiL : i < L.size := by rw [hI.head.size]; exact hio
    have hLi : L.getD i false = false := by simp [hiL] at h0 ⊢; exact h0
    have hwell := well_atG hw hin
    have hdo : dstOf ops i = o.dst := by unfold dstOf; rw [hoi]; rfl
    have hdep : ∀ j ∈ depsOf ops i, L.getD j false = true := fun j hj => by
      obtain ⟨e, he, hb, rfl⟩ := (mem_deps hoi).1 hj
      exact hall e he hb
    have hwd : Region.wanted o (yielded ops a.tmps) = true := by
      cases hg : o.guard with
      | none => simp [Region.wanted, hg]
      | some p =>
        obtain ⟨g, b⟩ := p
        have hgo : guardOf ops i = some (g, b) := by unfold guardOf; rw [hoi]; exact hg
        obtain ⟨hgd, hgs⟩ := hwell.2.1 (g, b) hgo
        have hv := hG i (g, b) hin hgo _ _ _ (hI.fact g (hdep g hgd))
        obtain ⟨d, hd⟩ := Option.isSome_iff_exists.1 hgs
        have hy : yielded ops a.tmps g = some b := yielded_of hd (by unfold valAt at hv; rw [hd] at hv; exact hv)
        simp [Region.wanted, hg, hy]
    unfold wpOp
    rw [hoi]
    simp only [hwd, if_true]
    refine .inl (hstep i o hin hoi a w (fun i => L.getD i false) hLi hI.j (fun t ht => ?_) (fun j hj => hI.fact j (hdep j hj)) _ fun v w' hF hJ hE => ?_)
    · refine hI.same t fun j hj hd => ?_
      unfold calmB at ht
      rw [List.all_eq_true] at ht
      have h1 := ht j (List.mem_range.2 (hlt hI.head hj))
      simp only [Bool.or_eq_true, bne_iff_ne, beq_iff_eq, List.contains_iff_mem] at h1
      rcases h1 with (h1 | h1) | h1
      · exact h1 hd
      · rw [h1, hLi] at hj; cases hj
      · have hjo : j < ops.size := by have := hlt hI.head hj; omega
        obtain ⟨e, he, hb, rfl⟩ := (mem_deps (show ops[j]? = some ops[j] by simp [hjo])).1 h1
        have := hI.head.closed j ops[j] (by simp [hjo]) hj e he hb
        rw [hLi] at this; cases this
    · have hset : ∀ j, (L.setIfInBounds i true).getD j false = if j = i then true else L.getD j false := fun j => by
        by_cases hji : j = i
        · subst hji; simp [hiL]
        · rw [getD_set_ne false (Ne.symm hji), if_neg hji]
      refine ih (L.setIfInBounds i true) (a.put o.dst v) w' (by have := openN_set hio h0; omega) ⟨?_, by rw [size_put]; exact hI.size, by rw [defers_put]; exact hI.defers, fun t ht => ?_, fun j hj => ?_, hI.head.set hi hin⟩
      · simp only [hset]; exact hJ
      · have hne : o.dst ≠ some t := by rw [← hdo]; exact ht i (by rw [hset, if_pos rfl])
        rw [getD_put_ne _ _ _ _ hne]
        exact hI.same t fun j hj => ht j (by rw [hset]; split <;> first | rfl | exact hj)
      · rw [hset] at hj
        simp only [hset]
        by_cases hji : j = i
        · subst hji
          unfold valAt
          rw [hdo]
          cases hd : o.dst with
          | none => simpa [hd] using hF
          | some d =>
            simp only
            rw [getD_put_same _ _ _ (by rw [hI.size]; exact hwell.2.2.1 d (hdo.trans hd))]
            simpa [hd] using hF
        · rw [if_neg hji] at hj
          have hnd : needB ops n j i = false := by
            cases hq : needB ops n j i with
            | false => rfl
            | true =>
              have := need_listed hI.head n j hj hq
              rw [hLi] at this; cases this
          have hf := hEv _ _ _ _ _ _ (hlt hI.head hj) hin hnd hLi (fun j2 hj2 hn2 => need_run hI.head hj2 hn2 hdep) (hI.fact j hj) hE
          have hv : valAt ops (a.put o.dst v) j = valAt ops a j := by
            unfold valAt
            cases hdj : dstOf ops j with
            | none => rfl
            | some d =>
              simp only
              refine getD_put_ne _ _ _ _ fun e => ?_
              exact hwell.2.2.2 j (hlt hI.head hj) (Ne.symm hji) d (hdo.trans e) hdj
          rw [hv]
          exact hf
theorem wp_region_factsL {l : List Oper} {id : Nat} {a0 : Act} {w0 : World} (n : Nat) (J : (Nat → Bool) → World → Prop) (F : (Nat → Bool) → Nat → Value → World → Prop) (Ev : Nat → World → World → Prop) (ds : List (Option Tmp)) (hm : P.follows .mixedOrders = true) (hw : wellG l.toArray n a0.tmps.size = true) (ht : tailB l.toArray n = true) (hG : ∀ i p, i < n → guardOf l.toArray i = some p → ∀ L v w, F L p.1 v w → v = .bool p.2)
    (hds : (List.range n).map (dstOf l.toArray) = ds) (h0 : J (fun _ => false) w0.drew) (hEv : ∀ (L : Nat → Bool) i k v w w', i < n → k < n → needB l.toArray n i k = false → L k = false → (∀ j, j ≠ k → needB l.toArray n k j = true → L j = true) → F L i v w → Ev k w w' → F (fun j => if j = k then true else L j) i v w')
    (hstep : ∀ i o, i < n → l.toArray[i]? = some o → ∀ (a : Act) (w : World) (L : Nat → Bool), L i = false → J L w → (∀ t, calmB l.toArray n i t = true → a.tmps.getD t undef = a0.tmps.getD t undef) →
      (∀ j d, depB l.toArray i j d = true → F L j (a.tmps.getD d undef) w) → ∀ K : Act → World → Prop, (∀ v w', F (fun j => if j = i then true else L j) i (if o.dst = none then undef else v) w' → J (fun j => if j = i then true else L j) w' → Ev i w w' → K (a.put o.dst v) w') → o.wp P a w K Q)
    (hend : ∀ (vs : Nat → Value) (w' : World) (L : Nat → Bool), (∀ i, i < n → L i = true) → J L w' → (∀ i, i < n → F L i (vs i) w') → wpList P l.toArray Q (l.drop n) (putD vs ds 0 a0) w') : (Code.region id l.toArray true).wp P Q a0 w0 := by
  have hf : ∀ i : Nat, (Array.replicate l.toArray.size false).getD i false = false := fun i => getD_replicate_false _ _
  refine wp_region_any hm (anyOrderL n J F Ev a0 hw ht hG hEv (fun i o hi ho a w L hL hJ hc hd K hK => hstep i o hi ho a w L hL hJ hc (fun j d hjd => ?_) K hK) (fun vs w' L hL hJ hF => ?_) _ _ _ _ ?_ ⟨?_, rfl, rfl, fun _ _ => rfl, fun i hi => ?_, by simp, fun j oj _ hl => (by rw [hf] at hl; cases hl), fun t _ ht => getD_in (by simpa using ht) (hf _)⟩)
  · unfold depB at hjd
    simp only [Bool.and_eq_true, List.contains_iff_mem, beq_iff_eq] at hjd
    have h := hd j hjd.1
    unfold valAt at h
    rw [hjd.2] at h
    exact h
  · have h := hend vs w' L hL hJ hF
    rw [← hds, List.range_eq_range', ← putD_eq, ← List.range_eq_range'] at h
    exact h
  · unfold openN
    rw [List.countP_eq_length.2 fun i hi => by
      have hi' : i < l.length := by simpa using List.mem_range.1 hi
      simp [hi']]
    simp
  · simp only [hf]; exact h0
  · rw [hf] at hi; cases hi
end
end Go.Proofs.YtjiobgfaohldhaaGreat
namespace Go.Proofs.YtjiobgfaohldhaaGreat
open Go.RowKit
set_option linter.unusedVariables false
set_option linter.unusedSimpArgs false

set_option maxRecDepth 10000 in
set_option maxHeartbeats 4000000 in
theorem specAllOrders (xs : List Txn) (A0 : Option Addr) (c : Nat) (w : World) (hm : xs.length ≤ 1048576) (hn : ∀ x ∈ xs, x.Ops.length ≤ 1048576) (ht : opsN xs ≤ 1048576) (hA0 : Row tTxn w (Old w) A0 xs) :
    Calls Tryz.prog 21 #[.slice A0 xs.length c] w fun e w' => ∃ v, e = .returned v ∧ Sl (tSlice (tSlice tInt)) w' (New w w') (allO xs) v ∧ Below w.heap.size w w' := by
  have hmm : xs.length ≤ maxLen := by simp only [maxLen]; omega
  have HOw := hide (ownTxnList xs A0 c w hm hn hA0)
  clear hA0 hn
  obtain ⟨i0, hi0, hz00, hz01, hz02⟩ := info_parts infoInt_
  obtain ⟨i1, hi1, hz10, hz11, hz12⟩ := info_parts infoIntS_
  obtain ⟨i2, hi2, hz20, hz21, hz22⟩ := info_parts infoIntSS_
  cases hv : histV xs with
  | false =>
    have HE := hide (show allO xs = [] by unfold allO; rw [hv]; rfl)
    have HHv := hide (fun (A : Option Addr) (d : Nat) (W : World) (hR : Row tTxn W (Old W) A xs) => specHistoryValid xs A d W hmm hR ht)
    rw [hv] at HHv
    clear hv
    go_enter Tryz.func21, Tryz.ntmps21
    go_upto_region 2 with (go_at_call 35; refine HOw.out.mono ?_; rintro e w1 ⟨v1, rfl, hO1, hb1⟩; obtain ⟨A, c1, rfl, h11, h12, h13⟩ := hO1.weakTxn.sl; have HR1 := hide (h13.mono (w' := w1) (S' := Old w1) (fun b h => h.2) (fun _ _ => rfl)); have HB1 := hide hb1; clear hb1 h13)
    have HC := hide (HHv.out A c1 w1 HR1.out)
    go_wp2_with (go_at_call 49; refine HC.out.mono ?_; rintro e w2 ⟨rfl, hb2⟩; have HB2 := hide (HB1.out.trans (hb2.mono HB1.out.size)); clear hb2)
    go_ret
    exact ⟨_, rfl, by rw [HE.out]; exact ⟨_, 0, rfl, Nat.le_refl _, by simp [maxLen], Row.nil⟩, HB2.out.alloc HB2.out.size _⟩
  | true =>
  have HV := hide hv
  have HX6 := hide (fun key => instL_le hv key)
  have HMb := hide (fun k hk => manyK_bd hv k hk)
  have HIl := hide (partO_ilen hv)
  have HHv := hide (fun (A : Option Addr) (d : Nat) (W : World) (hR : Row tTxn W (Old W) A xs) => specHistoryValid xs A d W hmm hR ht)
  rw [hv] at HHv
  have HIn := hide (fun (key : Int) (hk : key = 0 ∨ key = 1 ∨ key = 2) (A : Option Addr) (d : Nat) (W : World) (hR : Row tTxn W (Old W) A xs) => show Calls Tryz.prog 50 #[.slice A xs.length d, .int .i64 key] W fun e w' => ∃ v, e = .returned v ∧ Own tInt 3 w' (New W w') (instL xs key) v ∧ Below W.heap.size W w' by
    have h := specInstalled xs key A d W hmm ht hk hR
    rwa [show insR xs key = instL xs key by unfold insR; rw [hv]; rfl] at h)
  clear hv
  go_enter Tryz.func21, Tryz.ntmps21
  go_upto_region 2 with (go_at_call 35; refine HOw.out.mono ?_; rintro e w1 ⟨v1, rfl, hO1, hb1⟩; obtain ⟨A, c1, rfl, h11, h12, h13⟩ := hO1.weakTxn.sl; have HR1 := hide (h13.mono (w' := w1) (S' := Old w1) (fun b h => h.2) (fun _ _ => rfl)); have HB1 := hide hb1; clear hb1 h13)
  have HC := hide (HHv.out A c1 w1 HR1.out)
  go_upto_region 6 with (go_at_call 49; refine HC.out.mono ?_; rintro e w2 ⟨rfl, hb2⟩; have HB2 := hide (HB1.out.trans (hb2.mono HB1.out.size)); have HA2 := hide (HR1.out.old hb2); clear hb2)
  clear HC HR1 HB1 HOw HHv
  go_loopw [3, 4, 5] (fun m i _ wr => ∃ k : Nat, k ≤ 3 ∧ i = .int .i64 k ∧ m = .int .i64 (manyK xs k : Nat) ∧ Hid (Below w2.heap.size w2 wr)) (fun _ i _ _ => 3 - (intOf i).toNat)
  case atStart => exact ⟨0, by omega, rfl, rfl, Below.refl _ _⟩
  case round =>
    obtain ⟨k, hk, rfl, rfl, hb⟩ := hrel
    have HBk := hide hb.out
    clear hb
    by_cases hlt : k < 3
    · have hki : (k : Int) ≤ 2 := by omega
      have HL6 := hide (HX6.out (k : Int))
      have hM := HMb.out k hk
      have HMs := hide (show manyK xs (k + 1) = manyK xs k * fct (instL xs (k : Int)).length from rfl)
      have HInk := hide (fun (W : World) (hb : Below w2.heap.size w2 W) => HIn.out (k : Int) (by omega) A c1 W (HA2.out.old hb))
      generalize manyK xs k = m at hM HMs
      generalize instL xs (k : Int) = Lk at HL6 HMs HInk
      have hn6 : Lk.length ≤ 6 := HL6.out
      go_upto_region 9 with fail
      go_loopw [3, 5] (fun m2 j wq => ∃ l : Nat, l ≤ 6 ∧ (l = 0 ∨ l + 1 ≤ Lk.length) ∧ j = .int .i64 ((l : Int) + 2) ∧ m2 = .int .i64 ((m * fct (l + 1) : Nat) : Int) ∧ Hid (Below w2.heap.size w2 wq)) (fun _ j _ => 9 - (intOf j).toNat)
      case atStart => exact ⟨0, by omega, .inl rfl, rfl, by rw [show fct (0 + 1) = 1 from rfl, Nat.mul_one], HBk.out⟩
      case round =>
        obtain ⟨l, hl, hl2, rfl, rfl, hb⟩ := hrel
        have HBl := hide hb.out
        clear hb
        have HC := hide (HInk.out wr HBl.out)
        by_cases hlt2 : l + 2 ≤ Lk.length
        · have hli : (l : Int) + 2 ≤ (Lk.length : Int) := by omega
          have hf := fct_le6 (n := l + 1) (by omega)
          have hmf : m * fct (l + 1) ≤ 373248000 * 720 := Nat.mul_le_mul hM hf
          have HFs := hide (show m * fct (l + 1 + 1) = m * fct (l + 1) * (l + 2) by rw [fct, Nat.mul_comm (l + 1 + 1), Nat.mul_assoc])
          generalize m * fct (l + 1) = q at hmf HFs
          have hw1 : IntKind.i64.wrap ((l : Int) + 2 + 1) = (l : Int) + 2 + 1 := by rw [IntKind.wrap_i64]; omega
          have hw2 : IntKind.i64.wrap ((q : Int) * ((l : Int) + 2)) = (q : Int) * ((l : Int) + 2) := by
            have h1 : q * (l + 2) ≤ 373248000 * 720 * 8 := Nat.mul_le_mul hmf (by omega)
            have h2 : ((q * (l + 2) : Nat) : Int) = (q : Int) * ((l : Int) + 2) := by push_cast; rfl
            rw [← h2, IntKind.wrap_i64]; omega
          clear hf
          go_wp2_with (go_at_call 50; refine HC.out.mono ?_; rintro e w4 ⟨v4, rfl, hO4, hb4⟩; obtain ⟨A4, c4, rfl, _⟩ := hO4.sl; have HB4 := hide (HBl.out.trans (hb4.mono HBl.out.size)); clear hO4 hb4)
          go_roundw
          case rel => exact ⟨l + 1, by omega, .inr (by omega), by go_num, by rw [HFs.out]; push_cast; rfl, HB4.out⟩
          case measure => simp [intOf]; omega
        · have hln : ¬ ((l : Int) + 2 ≤ (Lk.length : Int)) := by omega
          have HFe := hide (show m * fct (l + 1) = manyK xs (k + 1) by
            rw [HMs.out]
            rcases hl2 with rfl | hl2
            · rcases (by omega : Lk.length = 0 ∨ Lk.length = 1) with h | h <;> rw [h] <;> rfl
            · rw [show Lk.length = l + 1 by omega])
          go_wp2_with (go_at_call 50; refine HC.out.mono ?_; rintro e w4 ⟨v4, rfl, hO4, hb4⟩; obtain ⟨A4, c4, rfl, _⟩ := hO4.sl; have HB4 := hide (HBl.out.trans (hb4.mono HBl.out.size)); clear hO4 hb4)
          go_roundw
          case rel => exact ⟨k + 1, by omega, by go_num, by rw [← HFe.out]; push_cast; rfl, HB4.out⟩
          case measure => simp [intOf]; omega
    · obtain rfl : k = 3 := by omega
      have HAl := hide (show allO xs = if decide (manyK xs 3 ≤ 200) then partO xs 3 else [] by unfold allO; rw [HV.out]; rfl)
      have hM := HMb.out 3 hk
      have HB3 := hide (HB2.out.trans (HBk.out.mono HB2.out.size))
      have HA3 := hide (HA2.out.old HBk.out)
      clear hlt hk HBk HA2 HB2
      by_cases h200 : (200 : Int) < ((manyK xs 3 : Nat) : Int)
      · have HE := hide (show allO xs = [] by rw [HAl.out]; rw [if_neg]; rw [decide_eq_true_eq]; omega)
        generalize manyK xs 3 = m at h200 hM
        go_wp2_with fail
        go_ret
        exact ⟨_, rfl, by rw [HE.out]; exact ⟨_, 0, rfl, Nat.le_refl _, by simp [maxLen], Row.nil⟩, HB3.out.alloc HB3.out.size _⟩
      have HE := hide (show allO xs = partO xs 3 by rw [HAl.out]; rw [if_pos]; rw [decide_eq_true_eq]; omega)
      have h200' : ¬ (200 : Int) < ((manyK xs 3 : Nat) : Int) := h200
      have HMl := hide (show ∀ k, k ≤ 3 → (partO xs k).length ≤ 200 from fun k hk => by
        rw [partO_len]
        have h0 : manyK xs 0 ≤ manyK xs 1 := manyK_mono xs 0
        have h1 : manyK xs 1 ≤ manyK xs 2 := manyK_mono xs 1
        have h2 : manyK xs 2 ≤ manyK xs 3 := manyK_mono xs 2
        rcases (by omega : k = 0 ∨ k = 1 ∨ k = 2 ∨ k = 3) with rfl | rfl | rfl | rfl <;> omega)
      clear h200 HAl
      generalize manyK xs 3 = m at h200' hM
      obtain ⟨w3, hw3⟩ : ∃ w3 : World, w3 = wr := ⟨_, rfl⟩
      subst hw3
      have HO0 := hide (Own.one (T := tSlice (tSlice tInt)) (e := 24) (w3.alloc (.cells #[] 23)) (K := fun b => w3.heap.size ≤ b ∧ Old ((w3.alloc (.cells #[] 23)).alloc (.cells #[.slice (some ⟨w3.heap.size, 0, none⟩) 0 0] 24)) b) [.slice (some ⟨w3.heap.size, 0, none⟩) 0 0] ⟨_, rfl, (Own.empty (T := tSlice tInt) (e := 23) w3 (fun b => w3.heap.size ≤ b) (Nat.le_refl _)).sl⟩ (fun b h => ⟨⟨h.1, Nat.lt_of_lt_of_le h.2 (by simp)⟩, h.2⟩) ⟨by simp, by simp [Old]⟩)
      have HB0 := hide (((Below.refl _ w3).alloc (Nat.le_refl _) (.cells #[] 23)).alloc (by simp) (.cells #[.slice (some ⟨w3.heap.size, 0, none⟩) 0 0] 24))
      go_upto_region 16 with fail
      clear h200' hM
      go_loopw [6, 7, 8, 9, 10, 11] (fun out i _ _ _ _ wc => ∃ k : Nat, k ≤ 3 ∧ i = .int .i64 k ∧ Hid (Own (tSlice (tSlice tInt)) 24 wc (fun b => w3.heap.size ≤ b ∧ Old wc b) (partO xs k) out) ∧ Hid (Below w3.heap.size w3 wc)) (fun _ i _ _ _ _ _ => 3 - (intOf i).toNat)
      case atStart => exact ⟨0, by omega, rfl, by have h := HO0.out; rw [show (w3.alloc (Obj.cells #[] 23)).heap.size = w3.heap.size + 1 by simp] at h; exact h, HB0.out⟩
      case round =>
        obtain ⟨k, hk, rfl, hO, hb⟩ := hrel
        have HO := hide hO.out; have HB := hide hb.out
        clear hO hb HO0 HB0
        obtain ⟨Ao, co, rfl, ho1, ho2, ho3⟩ := HO.out.sl
        have HRo := hide (ho3.mono (w' := wr) (S' := Old wr) (fun b h => h.2) (fun _ _ => rfl))
        have hom := HMl.out k hk
        have hoq : (partO xs k).length ≤ 9223372036854775807 := by omega
        have HPl := hide (partO_mlen xs k)
        have HPi := hide (HIl.out k)
        have HSt := hide (fun i hi => stepO_succ (partO xs k) (instL xs (k : Int)) i hi)
        have HPn := hide (show stepO (partO xs k) (instL xs (k : Int)) = partO xs (k + 1) from rfl)
        have HQ := hide HB.out.size
        clear ho3
        by_cases hlt : k < 3
        · have hki : (k : Int) ≤ 2 := by omega
          have HInk := hide (HIn.out (k : Int) (by omega) A c1 wr (HA3.out.old HB.out))
          have hL6 := HX6.out (k : Int)
          generalize partO xs k = P at HRo hom hoq HPl HPi HSt HPn ho1 HO
          generalize instL xs (k : Int) = L at HInk hL6 HSt HPn
          go_upto_region 21 with (first | (go_at_call 50; refine HInk.out.mono ?_; rintro e w4 ⟨v4, rfl, hO4, hb4⟩; obtain ⟨A4, c4, rfl, h41, h42, h43⟩ := hO4.sl; have HR4 := hide (h43.mono (w' := w4) (S' := Old w4) (fun b h => h.2) (fun _ _ => rfl)); have HB4 := hide hb4; clear hO4 hb4 h43) | (go_at_call 51; refine (orders_any L.length L A4 c4 w4 rfl (by omega) h41 h42 HR4.out).mono ?_; rintro e w5 ⟨v5, rfl, hO5, hb5⟩; obtain ⟨A5, c5, rfl, h51, h52, h53⟩ := hO5.weakIntS.sl; have HR5 := hide (h53.mono (w' := w5) (S' := Old w5) (fun b h => h.2) (fun _ _ => rfl)); have HB5 := hide (HB4.out.trans (hb5.mono HB4.out.size)); clear hO5 hb5 h53))
          have HML := hide (permsI_len L.length L rfl)
          have HMm := hide (fun o => permsI_mem_len L.length L o rfl)
          have hfc := fct_le6 hL6
          have hML7 : (permsI L.length L).length ≤ 720 := by rw [HML.out]; exact hfc
          have HSl := hide (fun i => stepO_len (P.take i) L)
          have HXb := hide (fun i (hi : i ≤ P.length) => show (stepO (P.take i) L).length ≤ 200 * 720 by
            rw [HSl.out i]
            exact Nat.mul_le_mul (by rw [List.length_take]; omega) hfc)
          generalize permsI L.length L = M at HR5 h51 HML HMm hML7 HSt
          have hMq : M.length ≤ 9223372036854775807 := by omega
          have HN0 := hide (Own.empty (T := tSlice (tSlice tInt)) (e := 24) w5 (fun b => w5.heap.size ≤ b) (Nat.le_refl _))
          have HNb := hide ((Below.refl _ w5).alloc (Nat.le_refl _) (.cells #[] 24))
          obtain ⟨wx, hwx⟩ : ∃ wx : World, wx = wr := ⟨_, rfl⟩
          subst hwx
          go_loopw [9, 10, 11] (fun nx i _ wq => ∃ (i' : Nat), i' ≤ P.length ∧ i = .int .i64 i' ∧ Hid (Own (tSlice (tSlice tInt)) 24 wq (fun b => w5.heap.size ≤ b ∧ Old wq b) (stepO (P.take i') L) nx) ∧ Hid (Below w5.heap.size w5 wq)) (fun _ i _ _ => P.length - (intOf i).toNat)
          case atStart => exact ⟨0, Nat.zero_le _, rfl, by rw [List.take_zero, stepO_nil]; exact HN0.out, HNb.out⟩
          case round =>
            obtain ⟨i, hi, rfl, hO, hb⟩ := hrel
            have HNx := hide hO.out; have HBq := hide hb.out
            clear hO hb HN0 HNb
            by_cases hlt2 : i < P.length
            · have hii : (i : Int) < (P.length : Int) := by omega
              obtain ⟨b3, off3, A3, c3, rfl, hb3S, e0, e1, e2, hR3⟩ := at_SliceG HRo.out hlt2
              have hS3 := HSt.out i hlt2
              have HSs := hide hS3
              have HX7 := hide (HXb.out i hi)
              have h3l := HPl.out _ (List.getElem_mem hlt2)
              have HK3 := hide (show P[i].length ≤ 3 by omega)
              have HI3 := hide (HPi.out _ (List.getElem_mem hlt2))
              have HR3 := hide hR3; have He0 := hide e0
              clear hR3 e0 hS3 h3l
              generalize P[i] = bg at He0 e1 e2 HR3 HI3 HSs HK3
              generalize stepO (P.take i) L = X at HNx HSs HX7
              go_upto_region 24 with fail
              go_loopw [9, 11] (fun nx j we => ∃ (l : Nat) (vn : Value), vn = nx ∧ l ≤ M.length ∧ j = .int .i64 l ∧ Hid (Own (tSlice (tSlice tInt)) 24 we (fun b => w5.heap.size ≤ b ∧ Old we b) (X ++ (M.take l).map fun o => bg ++ [o]) nx) ∧ Hid (Below w5.heap.size w5 we)) (fun _ j _ => M.length - (intOf j).toNat)
              case atStart => exact ⟨0, _, rfl, Nat.zero_le _, rfl, by rw [List.take_zero, List.map_nil, List.append_nil]; exact HNx.out, HBq.out⟩
              case round =>
                obtain ⟨l, vn, rfl, hl, rfl, hO, hb⟩ := hrel
                have HNy := hide hO.out; have HBe := hide hb.out
                clear hO hb HNx HBq
                by_cases hlt4 : l < M.length
                · have hli : (l : Int) < (M.length : Int) := by omega
                  obtain ⟨b6, off6, A6, c6, hA5e, hb6, f0, f1, f2, hR6⟩ := at_SliceG HR5.out hlt4
                  subst hA5e
                  have HBw := hide (fun (W : World) (hb : Below wr.heap.size wr W) => HBe.out.trans (hb.mono HBe.out.size))
                  have HC6 := hide (fun (W : World) (hb : Below wr.heap.size wr W) => ((HBw.out W hb).cell (p := ⟨b6, off6 + l, none⟩) hb6).trans f0)
                  have HR6 := hide (fun (W : World) (hb : Below wr.heap.size wr W) => (hR6.old (HBw.out W hb)).anyInt)
                  have HC3 := hide (fun (W : World) (hb : Below wr.heap.size wr W) => ((HB5.out.trans ((HBw.out W hb).mono HB5.out.size)).cell (p := ⟨b3, off3 + i, none⟩) hb3S).trans He0.out)
                  have HCp := hide (fun (W : World) (hb : Below wr.heap.size wr W) => ownRowsIntA bg A3 c3 W (by have := HK3.out; omega) (fun x hx => by have := HI3.out x hx; omega) (HR3.out.old (HB5.out.trans ((HBw.out W hb).mono HB5.out.size))))
                  have hm6 := HMm.out _ (List.getElem_mem hlt4)
                  have HM6 := hide (show M[l].length ≤ 6 by omega)
                  have HLt := hide (show ∀ p : List (List Int), p = bg ++ [M[l]] → (X ++ (M.take l).map fun o => bg ++ [o]) ++ [p] = X ++ (M.take (l + 1)).map fun o => bg ++ [o] from by
                    intro p hp
                    rw [List.take_succ_eq_append_getElem hlt4, List.map_append, ← List.append_assoc, hp]
                    rfl)
                  have HLn := hide (show (X ++ (M.take l).map fun o => bg ++ [o]).length + 1 ≤ 200 * 720 + 721 by
                    have h1 := HX7.out; rw [List.length_append, List.length_map, List.length_take]; omega)
                  clear f0 hR6 hm6
                  generalize X ++ (M.take l).map (fun o => bg ++ [o]) = Y at HNy HLt HLn
                  generalize M[l] = m9 at f1 f2 HC6 HR6 HLt HM6
                  go_upto_region 26 with fail
                  refine wp_region_factsL 15 (fun _ W => Below wr.heap.size wr W) (FAll wr.heap.size bg m9 (fun q9 : Nat => match q9 with | 0 => vn | 1 => .slice (some ⟨b3, off3, none⟩) P.length co | 2 => .int .i64 (i : Int) | 3 => .pointer (some ⟨b3, off3 + i, none⟩) | 4 => .slice A3 bg.length c3 | 5 => undef | 6 => undef | 7 => .slice (some ⟨b6, off6, none⟩) M.length c5 | 8 => .int .i64 (l : Int) | 9 => .pointer (some ⟨b6, off6 + l, none⟩) | 10 => .slice A6 m9.length c6 | 11 => undef | 12 => undef | 13 => undef | 14 => undef | _ => undef)) (fun k9 a b => Below wr.heap.size a b ∧ (k9 ≠ 13 → Below a.heap.size a b)) [some 59, some 60, some 61, some 62, some 63, some 64, some 65, some 66, some 67, some 68, some 69, some 70, some 71, some 72, some 73] (by kernel_rfl) (by kernel_rfl) (by kernel_rfl) ?_ (by kernel_rfl) ?_ ?_ ?_ ?_
                  · intro i p9 hi hg L9 v w9 hF
                    have hi' : i = 0 ∨ i = 1 ∨ i = 2 ∨ i = 3 ∨ i = 4 ∨ i = 5 ∨ i = 6 ∨ i = 7 ∨ i = 8 ∨ i = 9 ∨ i = 10 ∨ i = 11 ∨ i = 12 ∨ i = 13 ∨ i = 14 := by omega
                    clear hF hi
                    rcases hi' with rfl | rfl | rfl | rfl | rfl | rfl | rfl | rfl | rfl | rfl | rfl | rfl | rfl | rfl | rfl <;> cases hg
                  · exact (Below.refl _ wr).drew
                  · intro L9 i k9 v wa wb hi hk9 hnd hLk hne hF hE
                    refine hF.ev hi hLk (fun e => ?_) (fun h e => ?_) hE.2
                    · subst e; exact ⟨hne 11 (by decide) (by kernel_rfl), hne 12 (by decide) (by kernel_rfl)⟩
                    · subst e; rcases h with rfl | rfl
                      · exact absurd hnd (by rw [show needB _ _ _ _ = true by kernel_rfl]; simp)
                      · exact absurd hnd (by rw [show needB _ _ _ _ = true by kernel_rfl]; simp)
                  · intro i o hi ho a wa L9 hL hJ hc hd K hK
                    have hi' : i = 0 ∨ i = 1 ∨ i = 2 ∨ i = 3 ∨ i = 4 ∨ i = 5 ∨ i = 6 ∨ i = 7 ∨ i = 8 ∨ i = 9 ∨ i = 10 ∨ i = 11 ∨ i = 12 ∨ i = 13 ∨ i = 14 := by omega
                    clear hi
                    have hz9 := hJ.size
                    rcases hi' with rfl | rfl | rfl | rfl | rfl | rfl | rfl | rfl | rfl | rfl | rfl | rfl | rfl | rfl | rfl
                    all_goals
                      simp only [List.getElem?_toArray, List.getElem?_cons_zero, List.getElem?_cons_succ, Option.some.injEq] at ho
                      subst ho
                      simp only [reduceCtorEq, if_false] at hK
                    · have e9 := (hc 9 (by kernel_rfl)).trans rfl
                      go_simp
                      exact hK _ _ (FAll.val (by decide) rfl) hJ ⟨Below.refl _ _, fun _ => Below.refl _ _⟩
                    · have e6 := (hc 6 (by kernel_rfl)).trans rfl
                      go_simp
                      exact hK _ _ (FAll.val (by decide) rfl) hJ ⟨Below.refl _ _, fun _ => Below.refl _ _⟩
                    · have e10 := (hc 10 (by kernel_rfl)).trans rfl
                      go_simp
                      exact hK _ _ (FAll.val (by decide) rfl) hJ ⟨Below.refl _ _, fun _ => Below.refl _ _⟩
                    · have e60 : a.tmps.getD 60 undef = .slice (some ⟨b3, off3, none⟩) P.length co := (hd 1 60 (by kernel_rfl)).get (by decide)
                      have e61 : a.tmps.getD 61 undef = .int .i64 (i : Int) := (hd 2 61 (by kernel_rfl)).get (by decide)
                      have s2 : i < P.length := hlt2
                      go_simp
                      exact hK _ _ (FAll.val (by decide) rfl) hJ ⟨Below.refl _ _, fun _ => Below.refl _ _⟩
                    · have e62 : a.tmps.getD 62 undef = .pointer (some ⟨b3, off3 + i, none⟩) := (hd 3 62 (by kernel_rfl)).get (by decide)
                      have c9 := HC3.out wa hJ
                      go_simp
                      exact hK _ _ (FAll.val (by decide) rfl) hJ ⟨Below.refl _ _, fun _ => Below.refl _ _⟩
                    · have e63 : a.tmps.getD 63 undef = .slice A3 bg.length c3 := (hd 4 63 (by kernel_rfl)).get (by decide)
                      go_simp
                      refine (HCp.out wa hJ).mono ?_
                      rintro e w9 ⟨v9, rfl, hO9, hb9⟩
                      exact hK _ _ (FAll.iff5.2 fun _ => hO9.weakIntS.mono (fun b h => ⟨Nat.le_trans hz9 h.1, h.2⟩) (fun _ _ => rfl)) (hJ.trans (hb9.mono hz9)) ⟨hb9.mono hz9, fun _ => hb9⟩
                    · go_simp
                      exact hK _ _ (FAll.iff6.2 fun _ => ⟨_, rfl, Own.empty wa (fun b => wr.heap.size ≤ b) hz9⟩) (hJ.alloc hz9 _) ⟨(Below.refl _ wa).alloc hz9 _, fun _ => (Below.refl _ wa).alloc (Nat.le_refl _) _⟩
                    · have e8 := (hc 8 (by kernel_rfl)).trans rfl
                      go_simp
                      exact hK _ _ (FAll.val (by decide) rfl) hJ ⟨Below.refl _ _, fun _ => Below.refl _ _⟩
                    · have e11 := (hc 11 (by kernel_rfl)).trans rfl
                      go_simp
                      exact hK _ _ (FAll.val (by decide) rfl) hJ ⟨Below.refl _ _, fun _ => Below.refl _ _⟩
                    · have e66 : a.tmps.getD 66 undef = .slice (some ⟨b6, off6, none⟩) M.length c5 := (hd 7 66 (by kernel_rfl)).get (by decide)
                      have e67 : a.tmps.getD 67 undef = .int .i64 (l : Int) := (hd 8 67 (by kernel_rfl)).get (by decide)
                      have s2 : l < M.length := hlt4
                      go_simp
                      exact hK _ _ (FAll.val (by decide) rfl) hJ ⟨Below.refl _ _, fun _ => Below.refl _ _⟩
                    · have e68 : a.tmps.getD 68 undef = .pointer (some ⟨b6, off6 + l, none⟩) := (hd 9 68 (by kernel_rfl)).get (by decide)
                      have c9 := HC6.out wa hJ
                      go_simp
                      exact hK _ _ (FAll.val (by decide) rfl) hJ ⟨Below.refl _ _, fun _ => Below.refl _ _⟩
                    · have e69 : a.tmps.getD 69 undef = .slice A6 m9.length c6 := (hd 10 69 (by kernel_rfl)).get (by decide)
                      obtain ⟨p9, e65, hO⟩ := FAll.iff6.1 (hd 6 65 (by kernel_rfl)) hL
                      rw [e65] at hO
                      refine wp_app0 tInt (.tmp 65) (.tmp 69) 23 rfl 3 i0 _ 8 Tryz.underlying23 hi0 hz00 hz01 hz02 rfl (by decide) (fun b => wr.heap.size ≤ b ∧ Old wa b) (fun _ => False) (fun b => wr.heap.size ≤ b) m9 p9 e65 hO A6 m9.length c6 e69 rfl (HR6.out wa hJ) (by have := HM6.out; simp only [maxLen]; omega) (by have := HM6.out; omega) (fun b h => h.2) (fun b h => h.elim) (fun b h => h.1) (fun b h => h.elim) hz9 ?_
                      intro v9 w9 hO9 hB9
                      exact hK _ _ (FAll.iff11.2 fun _ => hO9) (hJ.trans (hB9.mono hz9)) ⟨hB9.mono hz9, fun _ => hB9⟩
                    · have hO := FAll.iff11.1 (hd 11 70 (by kernel_rfl)) hL
                      obtain ⟨A9, d9, e70, h91, h92, _⟩ := hO.sl
                      rw [e70] at hO
                      obtain ⟨Sy, hS1, hS2⟩ := own_int_blk hO
                      have e9 : a.tmps.getD 70 undef = .slice A9 m9.length d9 := e70
                      clear e70
                      rw [Array.getD_eq_getD_getElem?] at e9
                      go_simp
                      exact hK _ _ (FAll.iff12.2 fun _ => ⟨wa.heap.size, Sy, rfl, row_one 23 ⟨_, rfl, hS1⟩ (fun b hb => by obtain ⟨_, cur, hc⟩ := hS2 b hb; exact hc.lt), by simp [Old], fun b hb => by obtain ⟨h1, cur, hc⟩ := hS2 b hb; exact ⟨h1, cur, hc.alloc _⟩⟩) (hJ.alloc hz9 _) ⟨(Below.refl _ wa).alloc hz9 _, fun _ => (Below.refl _ wa).alloc (Nat.le_refl _) _⟩
                    · have hO := FAll.iff5.1 (hd 5 64 (by kernel_rfl)) hL
                      obtain ⟨p9, Sy, e71, hy, hp, hS⟩ := FAll.iff12.1 (hd 12 71 (by kernel_rfl)) hL
                      have hOb := own_intS_blk hO
                      generalize hv64 : a.tmps.getD 64 undef = v64 at hO hOb
                      refine wp_app (tSlice tInt) (.tmp 64) (.tmp 71) 24 rfl 23 i1 _ 24 Tryz.underlying24 hi1 hz10 hz11 hz12 rfl (by decide) (fun b => wr.heap.size ≤ b ∧ Old wa b) Sy (fun b => wr.heap.size ≤ b) bg [m9] v64 hv64 hO _ 1 1 e71 rfl hy (by have := HK3.out; simp only [maxLen, List.length_singleton]; omega) (by have := HK3.out; simp only [List.length_singleton]; omega) (fun b h => h.2) (fun b hb => by obtain ⟨h1, cur, hc⟩ := hS b hb; exact ⟨hc.lt, fun e => by obtain ⟨cur2, hc2⟩ := hOb b e; exact hc2.ne_ hc (by decide) rfl⟩) (fun b h => h.1) (fun b hb => (hS b hb).1) hz9 ?_
                      intro v9 w9 hO9 hg9
                      have hB9 := (Below.refl wr.heap.size wa).grown hg9 hz9 (fun k hk => (hO.owned k hk).1)
                      exact hK _ _ (FAll.iff13.2 hO9) (hJ.trans hB9) ⟨hB9, fun e => absurd rfl e⟩
                    · have hO := FAll.iff13.1 (hd 13 72 (by kernel_rfl))
                      obtain ⟨A9, d9, e72, h91, h92, _⟩ := hO.sl
                      rw [e72] at hO
                      have e9 : a.tmps.getD 72 undef = .slice A9 (bg ++ [m9]).length d9 := e72
                      clear e72
                      rw [Array.getD_eq_getD_getElem?] at e9
                      have hS9 : Sl (tSlice tInt) wa (fun b => wr.heap.size ≤ b ∧ Old wa b) (bg ++ [m9]) (.slice A9 (bg.length + 1) d9) := (by have h := hO.sl; rw [List.length_append] at h; exact h)
                      go_simp
                      exact hK _ _ (FAll.iff14.2 ⟨wa.heap.size, rfl, (row_one (T := tSlice (tSlice tInt)) 24 (cs := [_]) ⟨_, rfl, hS9⟩ (fun b hb => hb.2)).stay (fun b hb => ⟨hb.1, Nat.lt_of_lt_of_le hb.2 (by simp)⟩) (fun _ _ => rfl) rfl, by simp [Old]⟩) (hJ.alloc hz9 _) ⟨(Below.refl _ wa).alloc hz9 _, fun _ => (Below.refl _ wa).alloc (Nat.le_refl _) _⟩
                  · intro vs wz L9 hL hJ hF
                    have f0 : vs 0 = vn := (hF 0 (by decide)).get (by decide)
                    obtain ⟨p9, f14, hy9, hp9⟩ := FAll.iff14.1 (hF 14 (by decide))
                    simp only [putD, Act.put, List.setIfInBounds_toArray, List.set_cons_zero, List.set_cons_succ, List.drop_succ_cons, List.drop_zero]
                    rw [f0, f14]
                    clear hF f0 f14
                    have HJ := hide (HBe.out.trans (hJ.mono HBe.out.size))
                    have HOz := hide (HNy.out.mono (w' := wz) (S2 := fun b => w5.heap.size ≤ b ∧ Old wr b) (fun b h => h) (fun b h => hJ.block b h.2))
                    have HNl := hide (own_lt (B := wr.heap.size) HNy.out (fun b h => h.2))
                    have HNw := hide (fun b e => (HNy.out.owned b e).1)
                    have HZr := hide hJ.size
                    have HZe := hide HBe.out.size
                    clear hJ
                    go_wp2_with (at_builtin; refine wpList_app (tSlice (tSlice tInt)) rfl (.tmp 59) (.tmp 73) 48 rfl 24 i2 _ 24 Tryz.underlying48 hi2 hz20 hz21 hz22 rfl (by decide) (fun b => w5.heap.size ≤ b ∧ Old wr b) (fun b => wr.heap.size ≤ b ∧ Old wz b) (fun b => w5.heap.size ≤ b) Y [bg ++ [m9]] vn rfl HOz.out _ 1 1 rfl rfl hy9 (by have := HLn.out; simp only [maxLen, List.length_singleton]; omega) (by have := HLn.out; simp only [List.length_singleton]; omega) (fun b h => Nat.lt_of_lt_of_le h.2 HZr.out) (fun b hb => ⟨hb.2, fun e => by have := HNl.out b e; have := hb.1; omega⟩) (fun b h => h.1) (fun b hb => Nat.le_trans HZe.out hb.1) (Nat.le_trans HZe.out HZr.out) ?_; intro v9 w9 hO_ hg_; have HO9 := hide hO_; have HG9 := hide hg_; clear hO_ hg_)
                    have HL9 := HO9.out
                    rw [HLt.out _ rfl] at HL9
                    have HL9 := hide HL9
                    have HB9 := hide (HJ.out.grown HG9.out HJ.out.size (fun b e => HNw.out b e))
                    go_roundw
                    case rel => exact ⟨l + 1, _, rfl, by omega, by go_num, HL9.out, HB9.out⟩
                    case measure => simp [intOf]; omega
                · obtain rfl : l = M.length := by omega
                  have HO8 := HNy.out
                  rw [List.take_length, ← HSs.out] at HO8
                  have HO8 := hide HO8
                  clear HNy
                  go_wp2_with fail
                  go_roundw
                  case rel => exact ⟨i + 1, by omega, by go_num, HO8.out, HBe.out⟩
                  case measure => simp [intOf]; omega
            · obtain rfl : i = P.length := by omega
              have HO8 := HNx.out
              rw [List.take_length, HPn.out] at HO8
              have HO8 := hide (show Own (tSlice (tSlice tInt)) 24 wr (fun b => w3.heap.size ≤ b ∧ Old wr b) (partO xs (k + 1)) _ from HO8.mono (fun b h => ⟨Nat.le_trans (Nat.le_trans HQ.out HB5.out.size) h.1, h.2⟩) (fun _ _ => rfl))
              have HB8 := hide ((HB.out.trans (HB5.out.mono HQ.out)).trans (HBq.out.mono (Nat.le_trans HQ.out HB5.out.size)))
              clear HNx
              go_wp2_with fail
              go_roundw
              case rel => exact ⟨k + 1, by omega, by go_num, HO8.out, HB8.out⟩
              case measure => simp [intOf]; omega
        · obtain rfl : k = 3 := by omega
          go_wp2_with fail
          go_ret
          have hX := HO.out.sl
          exact ⟨_, rfl, by rw [HE.out]; exact hX.mono (fun b h => ⟨Nat.le_trans HB3.out.size h.1, h.2⟩) (fun _ _ => rfl), HB3.out.trans (HB.out.mono HB3.out.size)⟩
end Go.Proofs.YtjiobgfaohldhaaGreat
