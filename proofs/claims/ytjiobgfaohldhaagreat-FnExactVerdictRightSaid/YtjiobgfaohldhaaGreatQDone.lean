/- Maps that the call made, over whatever key and element: what they hold, key by key. The program's lastWrites and firstReads. The program's firstReads. The numbers of the committed transactions: DoneTxns of the reference; done of the program. -/
import Derived.Test.YtjiobgfaohldhaaGreatQRanges
import Derived.Test.YtjiobgfaohldhaaGreatQSnapN
import Derived.Test.YtjiobgfaohldhaaGreatQAllF
import Derived.Test.YtjiobgfaohldhaaGreatQToA
import Derived.Maps.Own
import Derived.Maps.OwnOps
import Derived.Maps.OwnSet
import Derived.Maps.Views
import Derived.Maps.Keyed
import Derived.DeepKeys4
import Derived.WideKeyPair
import Derived.Deep.RegionLaw
namespace Go.Proofs.YtjiobgfaohldhaaGreat
open Go.RowKit Go.Maps
set_option linter.unusedVariables false

structure KeyKit (P : Program) (k : TypeId) (κ : Type) where
  keyed : Keyed P k
  val : κ → Value
  lit : κ → Lit
  ok : κ → Prop
  of : ∀ x, ok x → keyOf P k (val x) = some (lit x)
  inj : ∀ x y, ok x → ok y → lit x = lit y → x = y
  isKey : ∀ x, WideAt.IsKeyLit (lit x)
structure ElKit (P : Program) (e : TypeId) (β : Type) where
  R : Value → Option (DataW Unit × List MemPlace)
  val : β → Value
  dat : β → DataW Unit
  ok : β → Prop
  mkR : ∀ x, ok x → R (val x) = some (dat x, [])
  inv : ∀ v z, R v = some z → ∃ x, v = val x ∧ z = (dat x, [])
  inj : ∀ x y, dat x = dat y → x = y
  zero : β
  zok : ok zero
  hz : ∀ w, (zeroValue e).run P w = .ok (val zero) w
section
variable {P : Program} {k e : TypeId} {κ β : Type} (KK : KeyKit P k κ) (EE : ElKit P e β)
/-- Block b holds, for each key, what f says. -/
def TabG (w : World) (b n : Nat) (f : κ → Option β) : Prop :=
  ∃ D : DataW Unit, w.ownsMap P k EE.R b n D ∧ IsMap D ∧ ∀ x, KK.ok x → Maps.has D (KK.lit x) = (f x).isSome ∧ D.atKey (KK.lit x) (EE.dat EE.zero) = EE.dat ((f x).getD EE.zero)
variable {KK EE}
theorem TabG.made (w : World) : TabG KK EE (w.alloc (.map #[] 0)) w.heap.size 0 (fun _ => none) :=
  ⟨.map [], World.ownsMap_made w _ _ _, isMap_empty, fun x _ => ⟨rfl, rfl⟩⟩
theorem TabG.lt {w : World} {b n : Nat} {f : κ → Option β} (h : TabG KK EE w b n f) : b < w.heap.size := by obtain ⟨D, h, _⟩ := h; exact h.lt
theorem TabG.keep {w w' : World} {b n : Nat} {f : κ → Option β} (h : TabG KK EE w b n f) (he : w'.heap[b]? = w.heap[b]?) : TabG KK EE w' b n f := by
  obtain ⟨D, ⟨es, clock, hb, hr⟩, h2⟩ := h
  exact ⟨D, ⟨es, clock, he.trans hb, hr⟩, h2⟩
theorem TabG.congr {w : World} {b n : Nat} {f g : κ → Option β} (h : TabG KK EE w b n f) (hfg : ∀ x, KK.ok x → f x = g x) : TabG KK EE w b n g := by
  obtain ⟨D, h1, h2, h3⟩ := h
  exact ⟨D, h1, h2, fun x hx => by rw [← hfg x hx]; exact h3 x hx⟩
theorem TabG.look {w : World} {b n : Nat} {f : κ → Option β} (h : TabG KK EE w b n f) {t : TypeId} (ht : P.underlying t = some (.map k e)) {x : κ} (hx : KK.ok x) :
    (Instr.lookup t (.map (some b)) (KK.val x) false).run P w = .ok (EE.val ((f x).getD EE.zero)) w := by
  obtain ⟨D, h1, h2, h3⟩ := h
  obtain ⟨v, ps, hrun, hv⟩ := h1.lookup KK.keyed ht (EE.hz w) (EE.mkR _ EE.zok) (KK.of x hx)
  obtain ⟨y, rfl, hy⟩ := EE.inv _ _ hv
  rw [(h3 x hx).2] at hy
  have hy' := EE.inj _ _ (congrArg Prod.fst hy)
  rw [hrun, hy']
theorem TabG.look_ok {w : World} {b n : Nat} {f : κ → Option β} (h : TabG KK EE w b n f) {t : TypeId} (ht : P.underlying t = some (.map k e)) {x : κ} (hx : KK.ok x) :
    (Instr.lookup t (.map (some b)) (KK.val x) true).run P w = .ok (.tuple #[EE.val ((f x).getD EE.zero), .bool (f x).isSome]) w := by
  obtain ⟨D, h1, h2, h3⟩ := h
  obtain ⟨v, ps, hrun, hv⟩ := h1.look_ok KK.keyed ht (EE.hz w) (EE.mkR _ EE.zok) (KK.of x hx)
  obtain ⟨y, rfl, hy⟩ := EE.inv _ _ hv
  rw [(h3 x hx).2] at hy
  have hy' := EE.inj _ _ (congrArg Prod.fst hy)
  rw [hrun, hy', (h3 x hx).1]
theorem TabG.put [DecidableEq κ] {w : World} {b n : Nat} {f : κ → Option β} (h : TabG KK EE w b n f) {t : TypeId} (ht : P.underlying t = some (.map k e)) (hn : n < maxLen) {x : κ} (hx : KK.ok x) {v : β} (hv : EE.ok v) :
    ∃ w', (Instr.mapUpdate t (.map (some b)) (KK.val x) (EE.val v)).run P w = .ok () w' ∧ TabG KK EE w' b (n + 1) (fun y => if y = x then some v else f y) ∧ w.grownBy w' (some b) := by
  obtain ⟨D, h1, h2, h3⟩ := h
  obtain ⟨w', hrun, h4, h5⟩ := h1.update KK.keyed ht hn (KK.of x hx) (EE.mkR v hv)
  refine ⟨w', hrun, ⟨_, h4, h2.put _ _, fun y hy => ?_⟩, h5⟩
  by_cases hxy : y = x
  · subst hxy
    show Maps.has _ _ = (if y = y then some v else f y).isSome ∧ _ = EE.dat ((if y = y then some v else f y).getD EE.zero)
    rw [if_pos rfl]
    exact ⟨has_put_same h2 (KK.isKey y) _, atKey_put_same h2 (KK.isKey y) _ _⟩
  · show Maps.has _ _ = (if y = x then some v else f y).isSome ∧ _ = EE.dat ((if y = x then some v else f y).getD EE.zero)
    rw [if_neg hxy]
    have hne : KK.lit y ≠ KK.lit x := fun e => hxy (KK.inj _ _ hy hx e)
    exact ⟨(has_put_other hne _).trans (h3 y hy).1, (atKey_put_other hne _ _).trans (h3 y hy).2⟩
theorem TabG.up {w : World} {b n n' : Nat} {f : κ → Option β} (h : TabG KK EE w b n f) (hn : n ≤ n') : TabG KK EE w b n' f := by
  obtain ⟨D, h1, h2⟩ := h
  exact ⟨D, h1.mono hn, h2⟩
theorem TabG.map_len {w : World} {b n : Nat} {f : κ → Option β} (h : TabG KK EE w b n f) {t : TypeId} (ht : P.underlying t = some (.map k e)) : ∃ m : Nat, m ≤ n ∧ ∀ ty, (Builtin.len_ #[t] ty #[.map (some b)]).run P w = .ok (.int .i64 m) w := by
  obtain ⟨D, h1, h2, h3⟩ := h
  exact ⟨_, h1.size_le, fun ty => h1.len ht ty⟩
end
def boolEl {P : Program} {e : TypeId} (he : P.underlying e = some .bool) (hz : ∀ w, (zeroValue e).run P w = .ok (.bool false) w) : ElKit P e Bool where
  R := plainElem P e
  val b := .bool b
  dat b := .lit (.bool b)
  ok _ := True
  mkR x _ := plainElem_bool he x
  inv v z h := by
    unfold plainElem at h
    rw [he] at h
    split at h
    all_goals first
      | (cases h; exact ⟨_, rfl, rfl⟩)
      | (rename_i h2; cases h2; done)
      | (rename_i h2 _; cases h2; done)
      | (rename_i h2 _ _; cases h2; done)
      | (exfalso; cases h; done)
  inj x y h := by cases h; rfl
  zero := false
  zok := trivial
  hz := hz
def intEl {P : Program} {e : TypeId} (he : P.underlying e = some (.int .i64)) (hz : ∀ w, (zeroValue e).run P w = .ok (.int .i64 0) w) : ElKit P e Int where
  R := plainElem P e
  val b := .int .i64 b
  dat b := .lit (.int .i64 b)
  ok x := (Lit.int .i64 x).wf = true
  mkR x h := plainElem_int he h
  inv v z h := by
    obtain ⟨a, rfl, h2, _⟩ := plainElem_int_inv he h
    exact ⟨a, rfl, h2⟩
  inj x y h := by cases h; rfl
  zero := 0
  zok := by decide
  hz := hz
def intKey {P : Program} {k : TypeId} (hk : P.underlying k = some (.int .i64)) : KeyKit P k Int where
  keyed := int_keyed hk
  val x := .int .i64 x
  lit x := .int .i64 x
  ok x := (Lit.int .i64 x).wf = true
  of x h := keyOf_int_mk hk h
  inj x y _ _ h := by cases h; rfl
  isKey x := by simp [WideAt.IsKeyLit]
/-- An operation as an element. -/
def opRead (v : Value) : Option (DataW Unit × List MemPlace) :=
  match v with
  | .agg cs => match cs.toList with
    | [.int .i64 a, .int .i64 b, .int .i64 c] => some (.agg [.lit (.int .i64 a), .lit (.int .i64 b), .lit (.int .i64 c)], [])
    | _ => none
  | _ => none
theorem opRead_inv {v : Value} {z : DataW Unit × List MemPlace} (h : opRead v = some z) : ∃ x : Op, v = .agg #[.int .i64 x.Kind, .int .i64 x.Key, .int .i64 x.Value] ∧ z = (.agg [.lit (.int .i64 x.Kind), .lit (.int .i64 x.Key), .lit (.int .i64 x.Value)], []) := by
  unfold opRead at h
  split at h
  · rename_i cs
    split at h
    · rename_i a b c hc
      cases h
      refine ⟨⟨a, b, c⟩, ?_, rfl⟩
      congr 1
      exact Array.ext' (by rw [hc])
    · cases h
  · cases h
def opEl {P : Program} {e : TypeId} (hz : ∀ w, (zeroValue e).run P w = .ok (.agg #[.int .i64 0, .int .i64 0, .int .i64 0]) w) : ElKit P e Op where
  R := opRead
  val o := .agg #[.int .i64 o.Kind, .int .i64 o.Key, .int .i64 o.Value]
  dat o := .agg [.lit (.int .i64 o.Kind), .lit (.int .i64 o.Key), .lit (.int .i64 o.Value)]
  ok _ := True
  mkR x _ := rfl
  inv v z h := opRead_inv h
  inj x y h := by cases x; cases y; simp at h; obtain ⟨rfl, rfl, rfl⟩ := h; rfl
  zero := ⟨0, 0, 0⟩
  zok := trivial
  hz := hz
section
variable {P : Program} {k e : TypeId} {κ β : Type} {KK : KeyKit P k κ} {EE : ElKit P e β} (w : World) {ops : Array Oper} {rest : List Oper} {o : Oper} {a : Act} {Q : Exit → Act → World → Prop}
theorem wpList_tab_put [DecidableEq κ] (hg : o.guard = none) (m x v : Operand) (t : TypeId) (hop : o.op = Op.mapUpdate t m x v) (ht : P.underlying t = some (.map k e)) (b n : Nat) (f : κ → Option β)
    (hm : a.eval m = .map (some b)) (h : TabG KK EE w b n f) (hn : n < maxLen) (key : κ) (hk : KK.ok key) (val : β) (hv : EE.ok val) (hx : a.eval x = KK.val key) (hvv : a.eval v = EE.val val)
    (hK : ∀ w', TabG KK EE w' b (n + 1) (fun y => if y = key then some val else f y) → w.grownBy w' (some b) → wpList P ops Q rest (a.put o.dst undef) w') : wpList P ops Q (o :: rest) a w := by
  refine wpList_plain hg fun K' hK' => ?_
  obtain ⟨w', hrun, r1, r2⟩ := h.put ht hn hk hv
  unfold Oper.wp
  simp [execOp, hop, hm, hx, hvv, hrun, Result.andThen]
  exact hK' _ _ (hK w' r1 r2)
theorem wpList_tab_look_ok (hg : o.guard = none) (m x : Operand) (t : TypeId) (hop : o.op = Op.lookup t m x true) (ht : P.underlying t = some (.map k e)) (b n : Nat) (f : κ → Option β)
    (hm : a.eval m = .map (some b)) (h : TabG KK EE w b n f) (key : κ) (hk : KK.ok key) (hx : a.eval x = KK.val key)
    (hK : wpList P ops Q rest (a.put o.dst (.tuple #[EE.val ((f key).getD EE.zero), .bool (f key).isSome])) w) : wpList P ops Q (o :: rest) a w := by
  refine wpList_plain hg fun K' hK' => ?_
  have hrun := h.look_ok ht hk
  unfold Oper.wp
  simp [execOp, hop, hm, hx, hrun, Result.andThen]
  exact hK' _ _ hK
end
/-- Numbers that fit are literals. -/
theorem wf_small {a : Int} (h0 : -1000000 ≤ a) (h1 : a ≤ 1000000) : (Lit.int .i64 a).wf = true := by
  unfold Lit.wf
  have e1 : IntKind.i64.min = -9223372036854775808 := by decide
  have e2 : IntKind.i64.max = 9223372036854775807 := by decide
  simp [e1, e2]
  omega
theorem below_tab {B b : Nat} {w w6 w7 : World} (h : Below B w w6) (g : w6.grownBy w7 (some b)) (hb : B ≤ b) (hB : B ≤ w6.heap.size) : Below B w w7 :=
  ⟨g.os.trans h.os, g.tape.trans h.tape, g.output.trans h.output, Nat.le_trans h.size g.size, fun i hi => (g.block i (by omega) (fun e => by injection e with e; omega)).trans (h.block i hi)⟩
end Go.Proofs.YtjiobgfaohldhaaGreat
namespace Go.Proofs.YtjiobgfaohldhaaGreat
open Go.RowKit Go.Maps
set_option linter.unusedVariables false
set_option linter.unusedSimpArgs false

theorem zeroOpW (w : World) : (zeroValue 82).run Tryz.prog w = .ok (.agg #[.int .i64 0, .int .i64 0, .int .i64 0]) w := by kernel_rfl
theorem zeroBoolV (w : World) : (zeroValue 4).run Tryz.prog w = .ok (.bool false) w := by kernel_rfl
noncomputable def opE : ElKit Tryz.prog 82 Op := opEl zeroOpW
noncomputable def keyI : KeyKit Tryz.prog 3 Int := intKey Tryz.underlying3
noncomputable def boolV : ElKit Tryz.prog 4 Bool := boolEl Tryz.underlying4 zeroBoolV
def lastWk (ops : List Op) : Nat → List Op
  | 0 => []
  | k + 1 => lastWk ops k ++ (lastW ops (k : Int)).toList
theorem lastWk_len (ops : List Op) : ∀ k, (lastWk ops k).length ≤ k
  | 0 => Nat.le_refl _
  | k + 1 => by
    have := lastWk_len ops k
    rw [lastWk, List.length_append]
    cases lastW ops (k : Int) <;> simp [Option.toList] <;> omega
theorem lastWk_3 (ops : List Op) : lastWk ops 3 = lastWs ops := by
  simp [lastWk, lastWs]
set_option maxRecDepth 10000 in
set_option maxHeartbeats 2000000 in
theorem implLastWrites (t : Txn) (A : Option Addr) (c : Nat) (w : World) (h6 : t.Ops.length ≤ 6) (hok : ∀ o ∈ t.Ops, opOk o = true) (hA : Row tOp w (Old w) A t.Ops) :
    Calls Tryz.prog 145 #[.agg #[.int .i64 t.Session, .slice A t.Ops.length c, .bool t.Done]] w fun e w' => ∃ v, e = .returned v ∧ Own tOp 82 w' (New w w') (lastWs t.Ops) v ∧ Below w.heap.size w w' := by
  obtain ⟨i0, hi, hz0, hz1, hz2⟩ := info_parts infoOp_
  have hmm := @run_makeMap Tryz.prog
  have hmk : ∀ (W : World) (m : Nat), m ≤ 6 → (Instr.makeSlice 55 (.int .i64 0) (.int .i64 (m : Int))).run Tryz.prog W = .ok (.slice (some ⟨W.heap.size, 0, none⟩) 0 m) (W.alloc (.cells (madeCells (Value.cells (.agg #[.int .i64 0, .int .i64 0, .int .i64 0])) (m * 3)) 82)) := fun W m hm => by
    have h := run_make_rowN (P := Tryz.prog) 55 82 i0 _ Tryz.underlying55 hi hz0 .i64 .i64 0 m (Nat.zero_le _) (by rw [hz2]; omega) (by omega) W
    rw [hz1] at h
    exact h
  have HA := hide hA; have HOk := hide hok; have HMk := hide hmk
  have hq : t.Ops.length ≤ 9223372036854775807 := by omega
  have HBx := hide (Blk.new w 57 #[.int .i64 t.Session, .slice A t.Ops.length c, .bool t.Done])
  clear hA hok hmk
  go_enter Tryz.func145, Tryz.ntmps145
  go_wp2
  go_loopw [5, 14] (fun _ i wr => ∃ l m : Nat, l ≤ t.Ops.length ∧ i = .int .i64 l ∧ m ≤ l ∧ Hid (TabG keyI opE wr (w.heap.size + 1) m (lastW (t.Ops.take l))) ∧ Hid (Below w.heap.size w wr)) (fun _ i _ => t.Ops.length - (intOf i).toNat)
  case atStart =>
    have hm := TabG.made (KK := keyI) (EE := opE) (w.alloc (.cells #[.int .i64 t.Session, .slice A t.Ops.length c, .bool t.Done] 57))
    rw [World.size_alloc] at hm
    exact ⟨0, 0, Nat.zero_le _, rfl, Nat.le_refl _, hm.congr (fun x _ => rfl), ((Below.refl _ w).alloc (Nat.le_refl _) _).alloc (by simp) _⟩
  case round =>
    obtain ⟨l, m, hl, rfl, hm, hT, hb⟩ := hrel
    by_cases hlt : l < t.Ops.length
    · obtain ⟨b2, off2, rfl, hbS2, d0, d1, d2⟩ := at_Op HA.out hb.out hlt
      have hok := HOk.out _ (List.getElem_mem hlt)
      have hp := opOk_parts hok
      have hky : keyI.ok t.Ops[l].Key := wf_small (by omega) (by omega)
      have HS := hide (funext (fun key => lastW_snoc t.Ops l hlt key))
      have HW := hide (writes_any t.Ops[l] (wr.alloc (.cells #[.int .i64 t.Ops[l].Kind, .int .i64 t.Ops[l].Key, .int .i64 t.Ops[l].Value] 82)))
      have hX := (Blk.new wr 82 #[.int .i64 t.Ops[l].Kind, .int .i64 t.Ops[l].Key, .int .i64 t.Ops[l].Value])
      have HX := hide hX
      have HT := hide (hT.out.keep (w' := wr.alloc (.cells #[.int .i64 t.Ops[l].Kind, .int .i64 t.Ops[l].Key, .int .i64 t.Ops[l].Value] 82)) (Below.heap_alloc _ _ _ hT.out.lt))
      have HB := hide (hb.out.alloc hb.out.size (.cells #[.int .i64 t.Ops[l].Kind, .int .i64 t.Ops[l].Key, .int .i64 t.Ops[l].Value] 82))
      have hz1 : w.heap.size + 1 < wr.heap.size := hT.out.lt
      clear hok hp hmm hX hT hb
      cases hkd : (t.Ops[l].Kind == 2) with
      | false =>
        rw [hkd] at HW
        have HS2 := hide (show lastW (t.Ops.take (l + 1)) = lastW (t.Ops.take l) by rw [HS.out]; funext key; rw [hkd]; rfl)
        clear hkd HS
        go_wp2_with (go_at_call 113; refine HW.out.mono ?_; rintro e w2 ⟨rfl, hb2⟩; have HB2 := hide hb2; clear hb2)
        go_roundw
        case rel => exact ⟨l + 1, m, by omega, by go_num, by omega, by rw [HS2.out]; exact HT.out.keep (HB2.out.block _ HT.out.lt), HB.out.trans (HB2.out.mono HB.out.size)⟩
        case measure => simp [intOf]; omega
      | true =>
        rw [hkd] at HW
        have HS2 := hide (show lastW (t.Ops.take (l + 1)) = (fun key => if key = t.Ops[l].Key then some t.Ops[l] else lastW (t.Ops.take l) key) by
          rw [HS.out]; funext key; rw [hkd, Bool.true_and]
          by_cases hk : key = t.Ops[l].Key
          · subst hk; simp
          · rw [if_neg hk, if_neg (by simpa using fun e => hk e.symm)])
        clear hkd HS
        go_wp2_with (first | (go_at_call 113; refine HW.out.mono ?_; rintro e w2 ⟨rfl, hb2⟩; have HB2 := hide hb2; have hX2 := HX.out.below hb2 HX.out.lt; have x0 := hX2.cell 0; have x1 := hX2.cell 1; have x2 := hX2.cell 2; simp only [List.getElem?_toArray, List.getElem?_cons_zero, List.getElem?_cons_succ] at x0 x1 x2; have HT2 := hide (HT.out.keep (hb2.block _ HT.out.lt)); have HB3 := hide (HB.out.trans (hb2.mono HB.out.size)); have hz2 : wr.heap.size < w2.heap.size := hX2.lt; clear hb2 hX2) | (at_mapUpdate; refine wpList_tab_put (KK := keyI) (EE := opE) _ rfl (.tmp 20) (.tmp 22) (.tmp 23) 177 rfl Tryz.underlying177 (w.heap.size + 1) m _ rfl HT2.out (by simp only [maxLen]; omega) t.Ops[l].Key hky t.Ops[l] trivial rfl rfl ?_; intro w3 hT3 hg3; have HT3 := hide hT3; have HG3 := hide hg3; clear hT3 hg3))
        go_roundw
        case rel => exact ⟨l + 1, m + 1, by omega, by go_num, by omega, by rw [HS2.out]; exact HT3.out, below_tab HB3.out HG3.out (by omega) HB3.out.size⟩
        case measure => simp [intOf]; omega
    · obtain rfl : l = t.Ops.length := by omega
      have hT' := hT.out
      rw [List.take_length] at hT'
      obtain ⟨n, hn, hlen⟩ := hT'.map_len Tryz.underlying177
      have HT1 := hide hT'
      have HB1 := hide hb.out
      have hmk := fun W => HMk.out W n (by omega)
      have hn6 : n ≤ 6 := by omega
      obtain ⟨wo, hwo⟩ : ∃ wo : World, wo = wr := ⟨_, rfl⟩
      rw [← hwo] at HT1 HB1 hlen ⊢
      clear hT hb hwo hT'
      have HO0 := hide (Own.made (T := tOp) (e := 82) wo (S := fun b => wo.heap.size ≤ b ∧ Old (wo.alloc (.cells (madeCells (Value.cells (.agg #[.int .i64 0, .int .i64 0, .int .i64 0])) (n * 3)) 82)) b) (madeCells (Value.cells (.agg #[.int .i64 0, .int .i64 0, .int .i64 0])) (n * 3)) n (by rw [size_madeCells]; rfl) (by simp only [maxLen]; omega) ⟨Nat.le_refl _, by simp [Old]⟩)
      have HT0 := hide HT1.out.lt
      have HT2 := hide (HT1.out.keep (w' := wo.alloc (.cells (madeCells (Value.cells (.agg #[.int .i64 0, .int .i64 0, .int .i64 0])) (n * 3)) 82)) (Below.heap_alloc _ _ _ HT1.out.lt))
      have HB2 := hide (HB1.out.alloc HB1.out.size (.cells (madeCells (Value.cells (.agg #[.int .i64 0, .int .i64 0, .int .i64 0])) (n * 3)) 82))
      go_wp2
      clear hmk hlen
      clear HT1 HB1
      go_loopw [6, 7, 8, 9, 28] (fun v _ _ _ i wr => ∃ k : Nat, k ≤ 3 ∧ i = .int .i64 k ∧ wo.heap.size ≤ wr.heap.size ∧ Hid (Own tOp 82 wr (fun b => wo.heap.size ≤ b ∧ Old wr b) (lastWk t.Ops k) v) ∧ Hid (TabG keyI opE wr (w.heap.size + 1) m (lastW t.Ops)) ∧ Hid (Below w.heap.size w wr)) (fun _ _ _ _ i _ => 3 - (intOf i).toNat)
      case atStart => exact ⟨0, by omega, rfl, by simp, HO0.out, HT2.out, HB2.out⟩
      case round =>
        obtain ⟨k, hk, rfl, hwz, hO, hT, hb⟩ := hrel
        have HZ := hide hwz
        clear HO0 HT2 HB2 hwz
        by_cases hlt : k < 3
        · have hky : keyI.ok (k : Int) := wf_small (by omega) (by omega)
          have hl := lastWk_len t.Ops k
          have hk3 : decide ((k : Int) < 3) = true := decide_eq_true (by omega)
          have HT := hide hT.out; have HB := hide hb.out; have HO := hide hO.out
          clear hT hb hO
          cases hq2 : lastW t.Ops (k : Int) with
          | none =>
            have HS := hide (show lastWk t.Ops (k + 1) = lastWk t.Ops k by rw [lastWk, hq2]; simp [Option.toList])
            have HQ := hide hq2
            clear hq2
            go_wp2_with (at_lookup; refine wpList_tab_look_ok (KK := keyI) (EE := opE) _ rfl (.tmp 32) (.tmp 33) 177 rfl Tryz.underlying177 (w.heap.size + 1) _ _ rfl HT.out (k : Int) hky rfl ?_; rw [HQ.out]; dsimp only [opE, opEl, Option.getD_none, Option.isSome_none])
            go_roundw
            case rel => exact ⟨k + 1, by omega, by go_num, Nat.le_trans HZ.out (by simp), by rw [HS.out]; exact HO.out.onlyBelow ((Below.refl _ _).alloc (Nat.le_refl _) _), HT.out.keep (Below.heap_alloc _ _ _ HT.out.lt), HB.out.alloc HB.out.size _⟩
            case measure => simp [intOf]; omega
          | some o =>
            have HS := hide (show lastWk t.Ops (k + 1) = lastWk t.Ops k ++ [o] by rw [lastWk, hq2]; rfl)
            have HQ := hide hq2
            clear hq2
            go_upto_region 14 with (at_lookup; refine wpList_tab_look_ok (KK := keyI) (EE := opE) _ rfl (.tmp 32) (.tmp 33) 177 rfl Tryz.underlying177 (w.heap.size + 1) _ _ rfl HT.out (k : Int) hky rfl ?_; rw [HQ.out]; dsimp only [opE, opEl, Option.getD_some, Option.isSome_some])
            obtain ⟨W, hW⟩ : ∃ W, W = wr.alloc (.cells #[.int .i64 o.Kind, .int .i64 o.Key, .int .i64 o.Value] 82) := ⟨_, rfl⟩
            have HO2 := hide (show Own tOp 82 W (fun b => wo.heap.size ≤ b ∧ Old W b) (lastWk t.Ops k) u6 by rw [hW]; exact (HO.out.onlyBelow ((Below.refl _ wr).alloc (Nat.le_refl _) _)).mono (fun _ h => h) (fun _ _ => rfl))
            have HT2 := hide (show TabG keyI opE W (w.heap.size + 1) m (lastW t.Ops) by rw [hW]; exact (HT.out.keep (Below.heap_alloc _ _ _ HT.out.lt)).keep rfl)
            have HB2 := hide (show Below w.heap.size w W by rw [hW]; exact HB.out.alloc HB.out.size _)
            have HX := (show Blk W wr.heap.size 82 #[.int .i64 o.Kind, .int .i64 o.Key, .int .i64 o.Value] by rw [hW]; exact Blk.new wr _ _)
            have x0 := HX.cell 0; have x1 := HX.cell 1; have x2 := HX.cell 2
            simp only [List.getElem?_toArray, List.getElem?_cons_zero, List.getElem?_cons_succ] at x0 x1 x2
            have HZ2 := hide (show wo.heap.size ≤ W.heap.size by rw [hW]; exact Nat.le_trans HZ.out (by simp))
            have HZt := hide (show w.heap.size + 1 < wo.heap.size from HT0.out)
            rw [← hW]
            clear hW HX
            go_wp2_with (at_builtin; refine wpList_put tOp rfl (.tmp 38) (.tmp 40) 55 rfl 82 i0 _ 24 Tryz.underlying55 hi hz0 hz1 hz2 rfl (by decide) (fun b => wo.heap.size ≤ b) (fun _ => False) (lastWk t.Ops k) o [.int .i64 o.Kind, .int .i64 o.Key, .int .i64 o.Value] _ rfl HO2.out 1 rfl rfl (fun _ h => h.elim) (fun b hb => Nat.le_trans HZ2.out hb) (by simp only [maxLen]; omega) (by omega) ?_; intro v3 w3 hO_ hK_; have HO3 := hide hO_; have HK3 := hide hK_; clear hO_ hK_)
            all_goals
              go_wp2_with fail
              go_roundw
              case rel => exact ⟨k + 1, by omega, by go_num, Nat.le_trans HZ2.out HK3.out.size, by rw [HS.out]; exact HO3.out, HT2.out.keep (HK3.out.block _ HT2.out.lt (by have := HZt.out; omega)), below_only HB2.out HK3.out HB2.out.size (fun _ h => by have := HZt.out; omega)⟩
              case measure => simp [intOf]; omega
        · obtain rfl : k = 3 := by omega
          have hO3 := hO.out
          rw [lastWk_3] at hO3
          have HO1 := hide hO3
          have HB1 := hide hb.out
          have HT9 := hide HT0.out
          clear hO hO3 hT hb
          go_wp2_with fail
          go_ret
          exact ⟨_, rfl, HO1.out.mono (fun b h => ⟨by have := HT9.out; have := h.1; omega, h.2⟩) (fun _ _ => rfl), HB1.out⟩
/-- Which keys were touched. -/
def touF (ops : List Op) (key : Int) : Option Bool := if (lastOn ops key).isSome then some true else none
theorem touF_snoc (ops : List Op) (l : Nat) (hl : l < ops.length) : touF (ops.take (l + 1)) = (fun key => if key = ops[l].Key then some true else touF (ops.take l) key) := by
  funext key
  unfold touF
  rw [lastOn_snoc ops l hl]
  by_cases hk : key = ops[l].Key
  · subst hk; simp
  · have hb : (ops[l].Key == key) = false := by rw [beq_eq_false_iff_ne]; exact fun e => hk e.symm
    rw [if_neg hk]
    simp only [hb, Bool.false_eq_true, if_false]
section
variable {P : Program} {k e : TypeId} {κ β : Type} {KK : KeyKit P k κ} {EE : ElKit P e β} (w : World) {ops : Array Oper} {rest : List Oper} {o : Oper} {a : Act} {Q : Exit → Act → World → Prop}
theorem wpList_tab_look_g (hg : Region.wanted o (yielded ops a.tmps) = true) (m x : Operand) (t : TypeId) (hop : o.op = Op.lookup t m x false) (ht : P.underlying t = some (.map k e)) (b n : Nat) (f : κ → Option β)
    (hm : a.eval m = .map (some b)) (h : TabG KK EE w b n f) (key : κ) (hk : KK.ok key) (hx : a.eval x = KK.val key)
    (hK : wpList P ops Q rest (a.put o.dst (EE.val ((f key).getD EE.zero))) w) : wpList P ops Q (o :: rest) a w := by
  refine BigFrame.wpList_want hg fun K' hK' => ?_
  have hrun := h.look ht hk
  unfold Oper.wp
  simp [execOp, hop, hm, hx, hrun, Result.andThen]
  exact hK' _ _ hK
end
theorem touF_get (ops : List Op) (key : Int) : (touF ops key).getD false = (lastOn ops key).isSome := by
  unfold touF
  cases (lastOn ops key).isSome <;> rfl
set_option maxRecDepth 10000 in
set_option maxHeartbeats 2000000 in
theorem implFirstReads (t : Txn) (A : Option Addr) (c : Nat) (w : World) (h6 : t.Ops.length ≤ 6) (hok : ∀ o ∈ t.Ops, opOk o = true) (hA : Row tOp w (Old w) A t.Ops) :
    Calls Tryz.prog 91 #[.agg #[.int .i64 t.Session, .slice A t.Ops.length c, .bool t.Done]] w fun e w' => ∃ v, e = .returned v ∧ Sl tOp w' (New w w') (firstR t.Ops) v ∧ Below w.heap.size w w' := by
  obtain ⟨i0, hi, hz0, hz1, hz2⟩ := info_parts infoOp_
  have hmm := @run_makeMap Tryz.prog
  have hmk : ∀ (W : World), (Instr.makeSlice 55 (.int .i64 0) (.int .i64 3)).run Tryz.prog W = .ok (.slice (some ⟨W.heap.size, 0, none⟩) 0 3) (W.alloc (.cells (madeCells (Value.cells (.agg #[.int .i64 0, .int .i64 0, .int .i64 0])) (3 * 3)) 82)) := fun W => by
    have h := run_make_rowN (P := Tryz.prog) 55 82 i0 _ Tryz.underlying55 hi hz0 .i64 .i64 0 3 (Nat.zero_le _) (by rw [hz2]; omega) (by omega) W
    rw [hz1] at h
    exact h
  have HA := hide hA; have HOk := hide hok
  have hq : t.Ops.length ≤ 9223372036854775807 := by omega
  obtain ⟨w1, hw1⟩ : ∃ w1, w1 = w.alloc (.cells #[.int .i64 t.Session, .slice A t.Ops.length c, .bool t.Done] 57) := ⟨_, rfl⟩
  have hs1 : w1.heap.size = w.heap.size + 1 := by rw [hw1]; simp
  obtain ⟨wo, hwo⟩ : ∃ wo, wo = (w1.alloc (.cells (madeCells (Value.cells (.agg #[.int .i64 0, .int .i64 0, .int .i64 0])) (3 * 3)) 82)).alloc (.map #[] 0) := ⟨_, rfl⟩
  have hso : wo.heap.size = w.heap.size + 3 := by rw [hwo]; simp [hs1]
  have HB0 := hide (show Below w.heap.size w wo by rw [hwo, hw1]; exact (((Below.refl _ w).alloc (Nat.le_refl _) _).alloc (by simp) _).alloc (by simp; omega) _)
  have HO0 := hide (show Own tOp 82 wo (fun b => (b = w.heap.size + 1 ∨ wo.heap.size ≤ b) ∧ Old wo b) (firstRs t.Ops 0) (.slice (some ⟨w.heap.size + 1, 0, none⟩) 0 3) by
    have h := Own.made (T := tOp) (e := 82) w1 (S := fun b => (b = w.heap.size + 1 ∨ wo.heap.size ≤ b) ∧ Old wo b) (madeCells (Value.cells (.agg #[.int .i64 0, .int .i64 0, .int .i64 0])) (3 * 3)) 3 (by rw [size_madeCells]; rfl) (by simp only [maxLen]; omega) ⟨.inl hs1, by unfold Old; omega⟩
    rw [hs1] at h
    rcases h with ⟨h, _⟩ | ⟨g, cap, cur, S', hv, hg, hB, r⟩
    · cases h
    · have hge : g = w.heap.size + 1 := by injection hv with h1 _ _; injection h1 with h1; injection h1 with h1 _ _; exact h1.symm
      subst hge
      refine .inr ⟨w.heap.size + 1, 3, _, fun _ => False, rfl, hg, (show Blk wo _ _ _ by rw [hwo]; exact (show Blk (w1.alloc (.cells (madeCells (Value.cells (.agg #[.int .i64 0, .int .i64 0, .int .i64 0])) (3 * 3)) 82)) (w.heap.size + 1) _ _ by rw [← hs1]; exact Blk.new w1 _ _).alloc _), by simp [firstRs], by simp [maxLen], by rw [size_madeCells]; rfl, fun b h => h.elim, fun k hk => absurd hk (by simp [firstRs])⟩)
  have HT0 := hide (show TabG keyI boolV wo (w.heap.size + 2) 0 (touF (t.Ops.take 0)) by
    have h := TabG.made (KK := keyI) (EE := boolV) (w1.alloc (.cells (madeCells (Value.cells (.agg #[.int .i64 0, .int .i64 0, .int .i64 0])) (3 * 3)) 82))
    rw [World.size_alloc, hs1, ← hwo] at h
    exact h.congr (fun x _ => rfl))
  clear hA hok
  go_enter Tryz.func91, Tryz.ntmps91
  go_wp2
  simp only [← hw1]
  generalize hW : World.alloc _ _ = W
  have hWo : W = wo := hW.symm.trans hwo.symm
  rw [hWo]
  clear hW hWo hwo W
  go_loopw [3, 6, 12] (fun v _ i wr => ∃ l m : Nat, l ≤ t.Ops.length ∧ i = .int .i64 l ∧ m ≤ l ∧ wo.heap.size ≤ wr.heap.size ∧ Hid (Own tOp 82 wr (fun b => (b = w.heap.size + 1 ∨ wo.heap.size ≤ b) ∧ Old wr b) (firstRs t.Ops l) v) ∧ Hid (TabG keyI boolV wr (w.heap.size + 2) m (touF (t.Ops.take l))) ∧ Hid (Below w.heap.size w wr)) (fun _ _ i _ => t.Ops.length - (intOf i).toNat)
  case atStart => exact ⟨0, 0, Nat.zero_le _, rfl, Nat.le_refl _, Nat.le_refl _, HO0.out, HT0.out, HB0.out⟩
  case round =>
    obtain ⟨l, m, hl, rfl, hm, hwz, hO, hT, hb⟩ := hrel
    clear HO0 HT0 HB0
    have HZ := hide hwz; have HSo := hide hso
    clear hwz hso hs1 hmm hmk
    by_cases hlt : l < t.Ops.length
    · obtain ⟨b2, off2, rfl, hbS2, d0, d1, d2⟩ := at_Op HA.out hb.out hlt
      have hok := HOk.out _ (List.getElem_mem hlt)
      have hp := opOk_parts hok
      have hky : keyI.ok t.Ops[l].Key := wf_small (by omega) (by omega)
      have HS := hide (touF_snoc t.Ops l hlt)
      have HG := hide (touF_get (t.Ops.take l) t.Ops[l].Key)
      have HF := hide (firstRs_succ t.Ops l hlt)
      have hfl := firstRs_len t.Ops l
      have HW := hide (reads_any t.Ops[l] (wr.alloc (.cells #[.int .i64 t.Ops[l].Kind, .int .i64 t.Ops[l].Key, .int .i64 t.Ops[l].Value] 82)))
      have HX := hide (Blk.new wr 82 #[.int .i64 t.Ops[l].Kind, .int .i64 t.Ops[l].Key, .int .i64 t.Ops[l].Value])
      have HT := hide (hT.out.keep (w' := wr.alloc (.cells #[.int .i64 t.Ops[l].Kind, .int .i64 t.Ops[l].Key, .int .i64 t.Ops[l].Value] 82)) (Below.heap_alloc _ _ _ hT.out.lt))
      have HB := hide (hb.out.alloc hb.out.size (.cells #[.int .i64 t.Ops[l].Kind, .int .i64 t.Ops[l].Key, .int .i64 t.Ops[l].Value] 82))
      have HO := hide (hO.out.onlyBelow ((Below.refl _ wr).alloc (Nat.le_refl _) (.cells #[.int .i64 t.Ops[l].Kind, .int .i64 t.Ops[l].Key, .int .i64 t.Ops[l].Value] 82)))
      have HOr := hide hO.out
      clear hok hp hT hb hO
      cases hkd : (t.Ops[l].Kind == 1) with
      | false =>
        rw [hkd] at HW HF
        simp only [Bool.false_and, Bool.false_eq_true, if_false, List.append_nil] at HF
        clear hkd
        go_wp2_with (first | (go_at_call 119; refine HW.out.mono ?_; rintro e w2 ⟨rfl, hb2⟩; have HB2 := hide hb2; have hX2 := HX.out.below hb2 HX.out.lt; have x0 := hX2.cell 0; have x1 := hX2.cell 1; have x2 := hX2.cell 2; simp only [List.getElem?_toArray, List.getElem?_cons_zero, List.getElem?_cons_succ] at x0 x1 x2; have HT2 := hide (HT.out.keep (hb2.block _ HT.out.lt)); have HB3 := hide (HB.out.trans (hb2.mono HB.out.size)); have hz2 : wr.heap.size < w2.heap.size := hX2.lt; have HO2 := hide (HO.out.onlyBelow hb2); have HX2 := hide hX2; have HZ2 := hide (Nat.le_trans HZ.out (Nat.le_of_lt hz2)); clear hb2 hX2) | (at_mapUpdate; refine wpList_tab_put (KK := keyI) (EE := boolV) _ rfl (.tmp 29) (.tmp 31) (.const (.bool true)) 140 rfl Tryz.underlying140 (w.heap.size + 2) m _ rfl HT2.out (by simp only [maxLen]; omega) t.Ops[l].Key hky true trivial rfl rfl ?_; intro w3 hT3 hg3; have HT3 := hide hT3; have HG3 := hide hg3; clear hT3 hg3))
        go_roundw
        case rel => exact ⟨l + 1, m + 1, by omega, by go_num, by omega, Nat.le_trans HZ2.out HG3.out.size, by rw [HF.out]; exact HO2.out.only (Only.of_grown HG3.out (K := fun b => b = w.heap.size + 2) (fun i hi => by injection hi with hi; exact hi.symm)) (fun b h => ⟨h.2, fun e => by have := h.1; have := HSo.out; omega⟩) |>.mono (fun b h => ⟨h.1, Nat.lt_of_lt_of_le h.2 HG3.out.size⟩) (fun _ _ => rfl), by rw [HS.out]; exact HT3.out, below_tab HB3.out HG3.out (by omega) HB3.out.size⟩
        case measure => simp [intOf]; omega
      | true =>
        rw [hkd] at HW HF
        simp only [Bool.true_and] at HF
        clear hkd
        cases htd : (lastOn (t.Ops.take l) t.Ops[l].Key).isSome with
        | true =>
          have HF := hide (show firstRs t.Ops (l + 1) = firstRs t.Ops l by rw [HF.out, if_neg (by rw [Option.isNone_iff_eq_none]; intro e; rw [e] at htd; cases htd), List.append_nil])
          rw [htd] at HG
          clear htd
          go_wp2_with (first | (go_at_call 119; refine HW.out.mono ?_; rintro e w2 ⟨rfl, hb2⟩; have HB2 := hide hb2; have hX2 := HX.out.below hb2 HX.out.lt; have x0 := hX2.cell 0; have x1 := hX2.cell 1; have x2 := hX2.cell 2; simp only [List.getElem?_toArray, List.getElem?_cons_zero, List.getElem?_cons_succ] at x0 x1 x2; have HT2 := hide (HT.out.keep (hb2.block _ HT.out.lt)); have HB3 := hide (HB.out.trans (hb2.mono HB.out.size)); have hz2 : wr.heap.size < w2.heap.size := hX2.lt; have HO2 := hide (HO.out.onlyBelow hb2); have HX2 := hide hX2; have HZ2 := hide (Nat.le_trans HZ.out (Nat.le_of_lt hz2)); clear hb2 hX2) | (at_lookup; refine wpList_tab_look_g (KK := keyI) (EE := boolV) _ rfl (.tmp 19) (.tmp 21) 140 rfl Tryz.underlying140 (w.heap.size + 2) _ _ rfl HT2.out t.Ops[l].Key hky rfl ?_; dsimp only [boolV, boolEl]; rw [HG.out]) | (at_mapUpdate; refine wpList_tab_put (KK := keyI) (EE := boolV) _ rfl (.tmp 29) (.tmp 31) (.const (.bool true)) 140 rfl Tryz.underlying140 (w.heap.size + 2) m _ rfl HT2.out (by simp only [maxLen]; omega) t.Ops[l].Key hky true trivial rfl rfl ?_; intro w3 hT3 hg3; have HT3 := hide hT3; have HG3 := hide hg3; clear hT3 hg3))
          go_roundw
          case rel => exact ⟨l + 1, m + 1, by omega, by go_num, by omega, Nat.le_trans HZ2.out HG3.out.size, by rw [HF.out]; exact HO2.out.only (Only.of_grown HG3.out (K := fun b => b = w.heap.size + 2) (fun i hi => by injection hi with hi; exact hi.symm)) (fun b h => ⟨h.2, fun e => by have := h.1; have := HSo.out; omega⟩) |>.mono (fun b h => ⟨h.1, Nat.lt_of_lt_of_le h.2 HG3.out.size⟩) (fun _ _ => rfl), by rw [HS.out]; exact HT3.out, below_tab HB3.out HG3.out (by omega) HB3.out.size⟩
          case measure => simp [intOf]; omega
        | false =>
          have HF := hide (show firstRs t.Ops (l + 1) = firstRs t.Ops l ++ [t.Ops[l]] by rw [HF.out, if_pos (by rw [Option.isNone_iff_eq_none]; cases hh : lastOn (t.Ops.take l) t.Ops[l].Key with | none => rfl | some o => rw [hh] at htd; cases htd)])
          rw [htd] at HG
          clear htd
          go_upto_region 7 with (first | (go_at_call 119; refine HW.out.mono ?_; rintro e w2 ⟨rfl, hb2⟩; have HB2 := hide hb2; have hX2 := HX.out.below hb2 HX.out.lt; have x0 := hX2.cell 0; have x1 := hX2.cell 1; have x2 := hX2.cell 2; simp only [List.getElem?_toArray, List.getElem?_cons_zero, List.getElem?_cons_succ] at x0 x1 x2; have HT2 := hide (HT.out.keep (hb2.block _ HT.out.lt)); have HB3 := hide (HB.out.trans (hb2.mono HB.out.size)); have hz2 : wr.heap.size < w2.heap.size := hX2.lt; have HO2 := hide (HO.out.onlyBelow hb2); have HX2 := hide hX2; have HZ2 := hide (Nat.le_trans HZ.out (Nat.le_of_lt hz2)); clear hb2 hX2) | (at_lookup; refine wpList_tab_look_g (KK := keyI) (EE := boolV) _ rfl (.tmp 19) (.tmp 21) 140 rfl Tryz.underlying140 (w.heap.size + 2) _ _ rfl HT2.out t.Ops[l].Key hky rfl ?_; dsimp only [boolV, boolEl]; rw [HG.out]))
          have HO5 := hide (show Own tOp 82 w2 (fun b => ((b = w.heap.size + 1 ∨ wo.heap.size ≤ b) ∧ b ≠ wr.heap.size) ∧ Old w2 b) (firstRs t.Ops l) u3 from
            HOr.out.mono (fun b h => ⟨⟨h.1, by have := h.2; unfold Old at this; omega⟩, by have := h.2; unfold Old at *; omega⟩) (fun b h => (HB2.out.block b (Nat.lt_of_lt_of_le h.2 (by simp))).trans (Below.heap_alloc _ _ _ h.2)))
          clear HO HO2 HOr
          go_wp2_with (first | (at_builtin; refine wpList_put tOp rfl (.tmp 25) (.tmp 27) 55 rfl 82 i0 _ 24 Tryz.underlying55 hi hz0 hz1 (by assumption) rfl (by decide) (fun b => (b = w.heap.size + 1 ∨ wo.heap.size ≤ b) ∧ b ≠ wr.heap.size) (fun _ => False) (firstRs t.Ops l) t.Ops[l] [.int .i64 t.Ops[l].Kind, .int .i64 t.Ops[l].Key, .int .i64 t.Ops[l].Value] _ rfl HO5.out 1 rfl rfl (fun _ h => h.elim) (fun b hb => ⟨.inr (Nat.le_trans HZ2.out hb), by omega⟩) (by simp only [maxLen]; omega) (by omega) ?_; intro v5 w5 hO_ hK_; have HO6 := hide hO_; have HK6 := hide hK_; have HT5 := hide (HT2.out.keep (hK_.block _ HT2.out.lt (by have := HSo.out; omega))); have hX5 := HX2.out.of (hK_.block _ HX2.out.lt (by omega)); have y0 := hX5.cell 0; have y1 := hX5.cell 1; have y2 := hX5.cell 2; simp only [List.getElem?_toArray, List.getElem?_cons_zero, List.getElem?_cons_succ] at y0 y1 y2; have hz5 : wr.heap.size < w5.heap.size := hX5.lt; clear hX5 hO_ hK_ x0 x1 x2) | (at_mapUpdate; refine wpList_tab_put (KK := keyI) (EE := boolV) _ rfl (.tmp 29) (.tmp 31) (.const (.bool true)) 140 rfl Tryz.underlying140 (w.heap.size + 2) m _ rfl HT5.out (by simp only [maxLen]; omega) t.Ops[l].Key hky true trivial rfl rfl ?_; intro w3 hT3 hg3; have HT3 := hide hT3; have HG3 := hide hg3; clear hT3 hg3))
          go_roundw
          case rel => exact ⟨l + 1, m + 1, by omega, by go_num, by omega, Nat.le_trans HZ2.out (Nat.le_trans HK6.out.size HG3.out.size), by rw [HF.out]; exact HO6.out.only (Only.of_grown HG3.out (K := fun b => b = w.heap.size + 2) (fun i hi => by injection hi with hi; exact hi.symm)) (fun b h => ⟨h.2, fun e => by have := h.1.1; have := HSo.out; omega⟩) |>.mono (fun b h => ⟨h.1.1, Nat.lt_of_lt_of_le h.2 HG3.out.size⟩) (fun _ _ => rfl), by rw [HS.out]; exact HT3.out, below_tab (below_only HB3.out HK6.out HB3.out.size (fun i h => by have := HSo.out; omega)) HG3.out (by omega) (Nat.le_trans HB3.out.size HK6.out.size)⟩
          case measure => simp [intOf]; omega
    · obtain rfl : l = t.Ops.length := by omega
      have HO1 := hide (show Own tOp 82 wr _ (firstR t.Ops) _ from hO.out)
      obtain ⟨A3, c3, rfl, h31, h32, _⟩ := HO1.out.sl
      have HB1 := hide hb.out
      clear hO hT hb
      go_wp2_with fail
      go_ret
      exact ⟨_, rfl, ⟨A3, _, rfl, Nat.le_refl _, Nat.le_trans h31 h32, HO1.out.sl.row.mono (fun b h => ⟨by have := h.1; have := HSo.out; omega, h.2⟩) (fun _ _ => rfl)⟩, HB1.out⟩
end Go.Proofs.YtjiobgfaohldhaaGreat
namespace Go.Proofs.YtjiobgfaohldhaaGreat
open Go.RowKit
set_option linter.unusedVariables false
set_option linter.unusedSimpArgs false

def doneR (xs : List Txn) : List Int := if histV xs then doneL xs else []
set_option maxRecDepth 10000 in
set_option maxHeartbeats 1000000 in
theorem specDoneTxns (xs : List Txn) (A : Option Addr) (c : Nat) (w : World) (hm : xs.length ≤ maxLen) (ht : opsN xs ≤ 1048576) (hA : Row tTxn w (Old w) A xs) :
    Calls Tryz.prog 54 #[.slice A xs.length c] w fun e w' => ∃ v, e = .returned v ∧ Own tInt 3 w' (New w w') (doneR xs) v ∧ Below w.heap.size w w' := by
  obtain ⟨i0, hi, hz0, hz1, hz2⟩ := info_parts infoInt_
  have HC := hide (fun (W : World) (hb : Below w.heap.size w W) => specHistoryValid xs A c W hm (hA.old hb) ht)
  have HA := hide hA
  have hq : xs.length ≤ 9223372036854775807 := by simpa [maxLen] using hm
  clear hA hm ht
  cases hv : histV xs with
  | false =>
    have HR := hide (show doneR xs = [] by unfold doneR; rw [hv]; rfl)
    rw [hv] at HC
    have HC1 := hide (HC.out (w.alloc (.cells #[] 3)) ((Below.refl _ w).alloc (Nat.le_refl _) _))
    have HO := hide (Own.empty (T := tInt) (e := 3) w (fun b => w.heap.size ≤ b) (Nat.le_refl _))
    clear hv HC
    go_enter Tryz.func54, Tryz.ntmps54
    go_wp2_with fail
    by_cases h0 : 0 < xs.length
    · refine wp_loop_rounds 1 ?_
      rw [rounds_succ]
      go_wp2_with (go_at_call 49; refine HC1.out.mono ?_; rintro e w2 ⟨rfl, hb2⟩; have HB2 := hide hb2; clear hb2)
      go_ret
      exact ⟨_, rfl, by rw [HR.out]; exact HO.out.onlyBelow HB2.out, ((Below.refl _ w).alloc (Nat.le_refl _) _).trans (HB2.out.mono (by simp))⟩
    · refine wp_loop_rounds 1 ?_
      rw [rounds_succ]
      go_wp2_with fail
      go_ret
      exact ⟨_, rfl, by rw [HR.out]; exact HO.out, (Below.refl _ w).alloc (Nat.le_refl _) _⟩
  | true =>
    have HR := hide (show doneR xs = doneL xs by unfold doneR; rw [hv]; rfl)
    rw [hv] at HC
    have h6 := hide (histV_parts hv).1
    clear hv
    go_enter Tryz.func54, Tryz.ntmps54
    go_wp2_with fail
    go_loopw [3, 4] (fun v i wr => ∃ k : Nat, k ≤ xs.length ∧ i = .int .i64 k ∧ Hid (Own tInt 3 wr (fun b => w.heap.size ≤ b ∧ Old wr b) (doneI xs k) v) ∧ Below w.heap.size w wr) (fun _ i _ => xs.length - (intOf i).toNat)
    case atStart => exact ⟨0, Nat.zero_le _, rfl, Own.empty w (fun b => w.heap.size ≤ b) (Nat.le_refl _), (Below.refl _ w).alloc (Nat.le_refl _) _⟩
    case round =>
      obtain ⟨k, hk, rfl, hO, hb⟩ := hrel
      by_cases hlt : k < xs.length
      · have HC1 := hide (HC.out wr hb)
        have HS := hide (doneI_succ xs k hlt)
        have hl := doneI_len xs k
        have HB := hide hb
        have hd : decide ((k : Int) < (xs.length : Int)) = true := by simpa using hlt
        obtain ⟨b, off, A2, c2, hA2, _, _, _, _, _, _, _⟩ := at_Txn HA.out hb hlt
        subst hA2
        cases hdn : xs[k].Done with
        | false =>
          rw [hdn] at HS
          simp only [Bool.false_eq_true, if_false, List.append_nil] at HS
          have Hdn := hide hdn
          clear hdn
          go_wp2_with (go_at_call 49; refine HC1.out.mono ?_; rintro e w2 ⟨rfl, hb2⟩; have HB2 := hide (HB.out.trans (hb2.mono HB.out.size)); have HO2 := hide (hO.out.onlyBelow hb2); obtain ⟨b', off', A3, c3, hbe, hbS, d0, d1, d3, hj1, hj2, hj3⟩ := at_Txn HA.out HB2.out hlt; obtain ⟨rfl, rfl⟩ := (show b = b' ∧ off = off' by simpa using hbe); rw [Hdn.out] at d3; clear hb2 hbe hj3 hj1 hj2 d0 d1)
          go_roundw
          case rel => exact ⟨k + 1, by omega, by go_num, by rw [HS.out]; exact HO2.out, HB2.out⟩
          case measure => simp [intOf]; omega
        | true =>
          rw [hdn] at HS
          simp only [if_true] at HS
          have Hdn := hide hdn
          clear hdn
          go_wp2_with (first | (go_at_call 49; refine HC1.out.mono ?_; rintro e w2 ⟨rfl, hb2⟩; have HB2 := hide (HB.out.trans (hb2.mono HB.out.size)); have HO2 := hide (hO.out.onlyBelow hb2); obtain ⟨b', off', A3, c3, hbe, hbS, d0, d1, d3, hj1, hj2, hj3⟩ := at_Txn HA.out HB2.out hlt; obtain ⟨rfl, rfl⟩ := (show b = b' ∧ off = off' by simpa using hbe); rw [Hdn.out] at d3; clear hb2 hbe hj3 hj1 hj2 d0 d1) | (at_builtin; refine wpList_put tInt rfl (.tmp 21) (.tmp 23) 23 rfl 3 i0 _ 8 Tryz.underlying23 hi hz0 hz1 hz2 rfl (by decide) (fun b => w.heap.size ≤ b) (fun _ => False) (doneI xs k) (k : Int) _ _ rfl HO2.out _ rfl rfl (fun _ h => h.elim) (fun b hb => Nat.le_trans HB2.out.size hb) (by have := h6.out; simp only [maxLen]; omega) (by have := h6.out; omega) ?_; intro v3 w3 hO_ hK_; have HO3 := hide hO_; have HK3 := hide hK_; clear hO_ hK_))
          go_roundw
          case rel => exact ⟨k + 1, by omega, by go_num, by rw [HS.out]; exact HO3.out, below_only HB2.out HK3.out HB2.out.size (fun _ h => h)⟩
          case measure => simp [intOf]; omega
      · obtain rfl : k = xs.length := by omega
        have hd : decide (((xs.length : Nat) : Int) < (xs.length : Int)) = false := by simp
        have HO1 := hide (show Own tInt 3 wr (fun b => w.heap.size ≤ b ∧ Old wr b) (doneL xs) _ from hO.out)
        clear hO
        go_wp2_with fail
        go_ret
        exact ⟨_, rfl, by rw [HR.out]; exact HO1.out, hb⟩
set_option maxRecDepth 10000 in
set_option maxHeartbeats 1000000 in
theorem implDone (xs : List Txn) (A : Option Addr) (c : Nat) (w : World) (hm : xs.length ≤ 1048576) (hA : Row tTxn w (Old w) A xs) :
    Calls Tryz.prog 70 #[.slice A xs.length c] w fun e w' => ∃ v, e = .returned v ∧ Own tInt 3 w' (New w w') (doneL xs) v ∧ Below w.heap.size w w' := by
  obtain ⟨i0, hi, hz0, hz1, hz2⟩ := info_parts infoInt_
  have HA := hide hA
  have hmk : ∀ W : World, (Instr.makeSlice 23 (.int .i64 0) (.int .i64 (xs.length : Int))).run Tryz.prog W = .ok (.slice (some ⟨W.heap.size, 0, none⟩) 0 xs.length) (W.alloc (.cells (madeCells (Value.cells (.int .i64 0)) (xs.length * 1)) 3)) := fun W => by
    have h := run_make_rowN (P := Tryz.prog) 23 3 i0 _ Tryz.underlying23 hi hz0 .i64 .i64 0 xs.length (Nat.zero_le _) (by rw [hz2]; omega) (by omega) W
    rw [hz1] at h
    exact h
  have hq : xs.length ≤ 9223372036854775807 := by omega
  have HO0 := hide (Own.made (T := tInt) (e := 3) w (S := fun b => w.heap.size ≤ b ∧ Old (w.alloc (.cells (madeCells #[.int .i64 0] xs.length) 3)) b) (madeCells #[.int .i64 0] xs.length) xs.length (by rw [size_madeCells]; show xs.length = xs.length * 1; omega) (by simp only [maxLen]; omega) ⟨Nat.le_refl _, by simp [Old]⟩)
  clear hA
  go_enter Tryz.func70, Tryz.ntmps70
  go_wp2
  clear hmk
  go_loopw [3, 4, 5, 11] (fun v _ _ i wr => ∃ k : Nat, k ≤ xs.length ∧ i = .int .i64 k ∧ Hid (Own tInt 3 wr (fun b => w.heap.size ≤ b ∧ Old wr b) (doneI xs k) v) ∧ Below w.heap.size w wr) (fun _ _ _ i _ => xs.length - (intOf i).toNat)
  case atStart => exact ⟨0, Nat.zero_le _, rfl, HO0.out, (Below.refl _ w).alloc (Nat.le_refl _) _⟩
  case round =>
    obtain ⟨k, hk, rfl, hO, hb⟩ := hrel
    clear HO0
    by_cases hlt : k < xs.length
    · obtain ⟨b, off, A3, c3, rfl, hbS, d0, d1, d3, hj1, hj2, hj3⟩ := at_Txn HA.out hb hlt
      have HS := hide (doneI_succ xs k hlt)
      have hl := doneI_len xs k
      have HB := hide hb
      have HO1 := hide (hO.out.onlyBelow ((Below.refl _ wr).alloc (Nat.le_refl _) (.cells #[.int .i64 xs[k].Session, .slice A3 xs[k].Ops.length c3, .bool xs[k].Done] 57)))
      clear hj3 hO
      go_upto_region 5 with (fail)
      generalize hW : wr.alloc _ = W at HO1 ⊢
      have hBk : Blk W wr.heap.size 57 #[.int .i64 xs[k].Session, .slice A3 xs[k].Ops.length c3, .bool xs[k].Done] := by rw [← hW]; exact Blk.new wr _ _
      have HBW := hide (show Below w.heap.size w W by rw [← hW]; exact HB.out.alloc HB.out.size _)
      have hc2 := hBk.cell 2
      simp only [List.getElem?_toArray, List.getElem?_cons_zero, List.getElem?_cons_succ] at hc2
      clear hW hBk d0 d1 d3
      cases hdn : xs[k].Done with
      | false =>
        rw [hdn] at HS hc2
        simp only [Bool.false_eq_true, if_false, List.append_nil] at HS
        clear hdn
        go_wp2_with fail
        go_roundw
        case rel => exact ⟨k + 1, by omega, by go_num, by rw [HS.out]; exact HO1.out, HBW.out⟩
        case measure => simp [intOf]; omega
      | true =>
        rw [hdn] at HS hc2
        simp only [if_true] at HS
        clear hdn
        go_wp2_with (at_builtin; refine wpList_put tInt rfl (.tmp 18) (.tmp 20) 23 rfl 3 i0 _ 8 Tryz.underlying23 hi hz0 hz1 hz2 rfl (by decide) (fun b => w.heap.size ≤ b) (fun _ => False) (doneI xs k) (k : Int) _ _ rfl HO1.out _ rfl rfl (fun _ h => h.elim) (fun b hb => Nat.le_trans HBW.out.size hb) (by simp only [maxLen]; omega) (by omega) ?_; intro v3 w3 hO_ hK_; have HO3 := hide hO_; have HK3 := hide hK_; clear hO_ hK_)
        go_roundw
        case rel => exact ⟨k + 1, by omega, by go_num, by rw [HS.out]; exact HO3.out, below_only HBW.out HK3.out HBW.out.size (fun _ h => h)⟩
        case measure => simp [intOf]; omega
    · obtain rfl : k = xs.length := by omega
      have HO1 := hide (show Own tInt 3 wr (fun b => w.heap.size ≤ b ∧ Old wr b) (doneL xs) _ from hO.out)
      clear hO
      go_wp2_with fail
      go_ret
      exact ⟨_, rfl, HO1.out, hb⟩
end Go.Proofs.YtjiobgfaohldhaaGreat
