/- Maps that the call made, over whatever key and element: what they hold, key by key. -/
import Derived.Test.YtkcobaimcfggjaaGreatDoorBuild
import Derived.Maps.Own
import Derived.Maps.OwnOps
import Derived.Maps.OwnSet
import Derived.Maps.Views
import Derived.Maps.Keyed
import Derived.DeepKeys4
import Derived.WideKeyPair
namespace Go.Proofs.YtkcobaimcfggjaaGreatDoor
open Go.RowKit Go.Maps
set_option linter.unusedVariables false

structure KeyKit (P : Program) (k : TypeId) (κ : Type) where
  keyed : Keyed P k
  val : κ → Value
  lit : κ → Lit
  ok : κ → Prop
  of : ∀ x, ok x → keyOf P k (val x) = some (lit x)
  inj : ∀ x y, ok x → ok y → lit x = lit y → x = y
  isKey : ∀ x, WideAt.IsKeyLit (lit x)
structure ElKit (P : Program) (e : TypeId) (β : Type) where
  R : Value → Option (DataW Unit × List MemPlace)
  val : β → Value
  dat : β → DataW Unit
  ok : β → Prop
  mkR : ∀ x, ok x → R (val x) = some (dat x, [])
  inv : ∀ v z, R v = some z → ∃ x, v = val x ∧ z = (dat x, [])
  inj : ∀ x y, dat x = dat y → x = y
  zero : β
  zok : ok zero
  hz : ∀ w, (zeroValue e).run P w = .ok (val zero) w
section
variable {P : Program} {k e : TypeId} {κ β : Type} (KK : KeyKit P k κ) (EE : ElKit P e β)
/-- Block b holds, for each key, what f says. -/
def TabG (w : World) (b n : Nat) (f : κ → Option β) : Prop :=
  ∃ D : DataW Unit, w.ownsMap P k EE.R b n D ∧ IsMap D ∧ ∀ x, KK.ok x → Maps.has D (KK.lit x) = (f x).isSome ∧ D.atKey (KK.lit x) (EE.dat EE.zero) = EE.dat ((f x).getD EE.zero)
variable {KK EE}
theorem TabG.made (w : World) : TabG KK EE (w.alloc (.map #[] 0)) w.heap.size 0 (fun _ => none) :=
  ⟨.map [], World.ownsMap_made w _ _ _, isMap_empty, fun x _ => ⟨rfl, rfl⟩⟩
theorem TabG.lt {w : World} {b n : Nat} {f : κ → Option β} (h : TabG KK EE w b n f) : b < w.heap.size := by obtain ⟨D, h, _⟩ := h; exact h.lt
theorem TabG.keep {w w' : World} {b n : Nat} {f : κ → Option β} (h : TabG KK EE w b n f) (he : w'.heap[b]? = w.heap[b]?) : TabG KK EE w' b n f := by
  obtain ⟨D, ⟨es, clock, hb, hr⟩, h2⟩ := h
  exact ⟨D, ⟨es, clock, he.trans hb, hr⟩, h2⟩
theorem TabG.congr {w : World} {b n : Nat} {f g : κ → Option β} (h : TabG KK EE w b n f) (hfg : ∀ x, KK.ok x → f x = g x) : TabG KK EE w b n g := by
  obtain ⟨D, h1, h2, h3⟩ := h
  exact ⟨D, h1, h2, fun x hx => by rw [← hfg x hx]; exact h3 x hx⟩
theorem TabG.look {w : World} {b n : Nat} {f : κ → Option β} (h : TabG KK EE w b n f) {t : TypeId} (ht : P.underlying t = some (.map k e)) {x : κ} (hx : KK.ok x) :
    (Instr.lookup t (.map (some b)) (KK.val x) false).run P w = .ok (EE.val ((f x).getD EE.zero)) w := by
  obtain ⟨D, h1, h2, h3⟩ := h
  obtain ⟨v, ps, hrun, hv⟩ := h1.lookup KK.keyed ht (EE.hz w) (EE.mkR _ EE.zok) (KK.of x hx)
  obtain ⟨y, rfl, hy⟩ := EE.inv _ _ hv
  rw [(h3 x hx).2] at hy
  have hy' := EE.inj _ _ (congrArg Prod.fst hy)
  rw [hrun, hy']
theorem TabG.look_ok {w : World} {b n : Nat} {f : κ → Option β} (h : TabG KK EE w b n f) {t : TypeId} (ht : P.underlying t = some (.map k e)) {x : κ} (hx : KK.ok x) :
    (Instr.lookup t (.map (some b)) (KK.val x) true).run P w = .ok (.tuple #[EE.val ((f x).getD EE.zero), .bool (f x).isSome]) w := by
  obtain ⟨D, h1, h2, h3⟩ := h
  obtain ⟨v, ps, hrun, hv⟩ := h1.look_ok KK.keyed ht (EE.hz w) (EE.mkR _ EE.zok) (KK.of x hx)
  obtain ⟨y, rfl, hy⟩ := EE.inv _ _ hv
  rw [(h3 x hx).2] at hy
  have hy' := EE.inj _ _ (congrArg Prod.fst hy)
  rw [hrun, hy', (h3 x hx).1]
theorem TabG.put [DecidableEq κ] {w : World} {b n : Nat} {f : κ → Option β} (h : TabG KK EE w b n f) {t : TypeId} (ht : P.underlying t = some (.map k e)) (hn : n < maxLen) {x : κ} (hx : KK.ok x) {v : β} (hv : EE.ok v) :
    ∃ w', (Instr.mapUpdate t (.map (some b)) (KK.val x) (EE.val v)).run P w = .ok () w' ∧ TabG KK EE w' b (n + 1) (fun y => if y = x then some v else f y) ∧ w.grownBy w' (some b) := by
  obtain ⟨D, h1, h2, h3⟩ := h
  obtain ⟨w', hrun, h4, h5⟩ := h1.update KK.keyed ht hn (KK.of x hx) (EE.mkR v hv)
  refine ⟨w', hrun, ⟨_, h4, h2.put _ _, fun y hy => ?_⟩, h5⟩
  by_cases hxy : y = x
  · subst hxy
    show Maps.has _ _ = (if y = y then some v else f y).isSome ∧ _ = EE.dat ((if y = y then some v else f y).getD EE.zero)
    rw [if_pos rfl]
    exact ⟨has_put_same h2 (KK.isKey y) _, atKey_put_same h2 (KK.isKey y) _ _⟩
  · show Maps.has _ _ = (if y = x then some v else f y).isSome ∧ _ = EE.dat ((if y = x then some v else f y).getD EE.zero)
    rw [if_neg hxy]
    have hne : KK.lit y ≠ KK.lit x := fun e => hxy (KK.inj _ _ hy hx e)
    exact ⟨(has_put_other hne _).trans (h3 y hy).1, (atKey_put_other hne _ _).trans (h3 y hy).2⟩
theorem TabG.up {w : World} {b n n' : Nat} {f : κ → Option β} (h : TabG KK EE w b n f) (hn : n ≤ n') : TabG KK EE w b n' f := by
  obtain ⟨D, h1, h2⟩ := h
  exact ⟨D, h1.mono hn, h2⟩
theorem TabG.map_len {w : World} {b n : Nat} {f : κ → Option β} (h : TabG KK EE w b n f) {t : TypeId} (ht : P.underlying t = some (.map k e)) : ∃ m : Nat, m ≤ n ∧ ∀ ty, (Builtin.len_ #[t] ty #[.map (some b)]).run P w = .ok (.int .i64 m) w := by
  obtain ⟨D, h1, h2, h3⟩ := h
  exact ⟨_, h1.size_le, fun ty => h1.len ht ty⟩
end
def boolEl {P : Program} {e : TypeId} (he : P.underlying e = some .bool) (hz : ∀ w, (zeroValue e).run P w = .ok (.bool false) w) : ElKit P e Bool where
  R := plainElem P e
  val b := .bool b
  dat b := .lit (.bool b)
  ok _ := True
  mkR x _ := plainElem_bool he x
  inv v z h := by
    unfold plainElem at h
    rw [he] at h
    split at h
    all_goals first
      | (cases h; exact ⟨_, rfl, rfl⟩)
      | (rename_i h2; cases h2; done)
      | (rename_i h2 _; cases h2; done)
      | (rename_i h2 _ _; cases h2; done)
      | (exfalso; cases h; done)
  inj x y h := by cases h; rfl
  zero := false
  zok := trivial
  hz := hz
def intEl {P : Program} {e : TypeId} (he : P.underlying e = some (.int .i64)) (hz : ∀ w, (zeroValue e).run P w = .ok (.int .i64 0) w) : ElKit P e Int where
  R := plainElem P e
  val b := .int .i64 b
  dat b := .lit (.int .i64 b)
  ok x := (Lit.int .i64 x).wf = true
  mkR x h := plainElem_int he h
  inv v z h := by
    obtain ⟨a, rfl, h2, _⟩ := plainElem_int_inv he h
    exact ⟨a, rfl, h2⟩
  inj x y h := by cases h; rfl
  zero := 0
  zok := by decide
  hz := hz
def intKey {P : Program} {k : TypeId} (hk : P.underlying k = some (.int .i64)) : KeyKit P k Int where
  keyed := int_keyed hk
  val x := .int .i64 x
  lit x := .int .i64 x
  ok x := (Lit.int .i64 x).wf = true
  of x h := keyOf_int_mk hk h
  inj x y _ _ h := by cases h; rfl
  isKey x := by simp [WideAt.IsKeyLit]
/-- An operation as an element. -/
def opRead (v : Value) : Option (DataW Unit × List MemPlace) :=
  match v with
  | .agg cs => match cs.toList with
    | [.int .i64 a, .int .i64 b, .int .i64 c] => some (.agg [.lit (.int .i64 a), .lit (.int .i64 b), .lit (.int .i64 c)], [])
    | _ => none
  | _ => none
theorem opRead_inv {v : Value} {z : DataW Unit × List MemPlace} (h : opRead v = some z) : ∃ x : Op, v = .agg #[.int .i64 x.Kind, .int .i64 x.Key, .int .i64 x.Value] ∧ z = (.agg [.lit (.int .i64 x.Kind), .lit (.int .i64 x.Key), .lit (.int .i64 x.Value)], []) := by
  unfold opRead at h
  split at h
  · rename_i cs
    split at h
    · rename_i a b c hc
      cases h
      refine ⟨⟨a, b, c⟩, ?_, rfl⟩
      congr 1
      exact Array.ext' (by rw [hc])
    · cases h
  · cases h
def opEl {P : Program} {e : TypeId} (hz : ∀ w, (zeroValue e).run P w = .ok (.agg #[.int .i64 0, .int .i64 0, .int .i64 0]) w) : ElKit P e Op where
  R := opRead
  val o := .agg #[.int .i64 o.Kind, .int .i64 o.Key, .int .i64 o.Value]
  dat o := .agg [.lit (.int .i64 o.Kind), .lit (.int .i64 o.Key), .lit (.int .i64 o.Value)]
  ok _ := True
  mkR x _ := rfl
  inv v z h := opRead_inv h
  inj x y h := by cases x; cases y; simp at h; obtain ⟨rfl, rfl, rfl⟩ := h; rfl
  zero := ⟨0, 0, 0⟩
  zok := trivial
  hz := hz
section
variable {P : Program} {k e : TypeId} {κ β : Type} {KK : KeyKit P k κ} {EE : ElKit P e β} (w : World) {ops : Array Oper} {rest : List Oper} {o : Oper} {a : Act} {Q : Exit → Act → World → Prop}
theorem wpList_tab_put [DecidableEq κ] (hg : o.guard = none) (m x v : Operand) (t : TypeId) (hop : o.op = Op.mapUpdate t m x v) (ht : P.underlying t = some (.map k e)) (b n : Nat) (f : κ → Option β)
    (hm : a.eval m = .map (some b)) (h : TabG KK EE w b n f) (hn : n < maxLen) (key : κ) (hk : KK.ok key) (val : β) (hv : EE.ok val) (hx : a.eval x = KK.val key) (hvv : a.eval v = EE.val val)
    (hK : ∀ w', TabG KK EE w' b (n + 1) (fun y => if y = key then some val else f y) → w.grownBy w' (some b) → wpList P ops Q rest (a.put o.dst undef) w') : wpList P ops Q (o :: rest) a w := by
  refine wpList_plain hg fun K' hK' => ?_
  obtain ⟨w', hrun, r1, r2⟩ := h.put ht hn hk hv
  unfold Oper.wp
  simp [execOp, hop, hm, hx, hvv, hrun, Result.andThen]
  exact hK' _ _ (hK w' r1 r2)
theorem wpList_tab_look (hg : o.guard = none) (m x : Operand) (t : TypeId) (hop : o.op = Op.lookup t m x false) (ht : P.underlying t = some (.map k e)) (b n : Nat) (f : κ → Option β)
    (hm : a.eval m = .map (some b)) (h : TabG KK EE w b n f) (key : κ) (hk : KK.ok key) (hx : a.eval x = KK.val key)
    (hK : wpList P ops Q rest (a.put o.dst (EE.val ((f key).getD EE.zero))) w) : wpList P ops Q (o :: rest) a w := by
  refine wpList_plain hg fun K' hK' => ?_
  have hrun := h.look ht hk
  unfold Oper.wp
  simp [execOp, hop, hm, hx, hrun, Result.andThen]
  exact hK' _ _ hK
theorem wpList_tab_look_ok (hg : o.guard = none) (m x : Operand) (t : TypeId) (hop : o.op = Op.lookup t m x true) (ht : P.underlying t = some (.map k e)) (b n : Nat) (f : κ → Option β)
    (hm : a.eval m = .map (some b)) (h : TabG KK EE w b n f) (key : κ) (hk : KK.ok key) (hx : a.eval x = KK.val key)
    (hK : wpList P ops Q rest (a.put o.dst (.tuple #[EE.val ((f key).getD EE.zero), .bool (f key).isSome])) w) : wpList P ops Q (o :: rest) a w := by
  refine wpList_plain hg fun K' hK' => ?_
  have hrun := h.look_ok ht hk
  unfold Oper.wp
  simp [execOp, hop, hm, hx, hrun, Result.andThen]
  exact hK' _ _ hK
end
/-- Numbers that fit are literals. -/
theorem wf_small {a : Int} (h0 : -1000000 ≤ a) (h1 : a ≤ 1000000) : (Lit.int .i64 a).wf = true := by
  unfold Lit.wf
  have e1 : IntKind.i64.min = -9223372036854775808 := by decide
  have e2 : IntKind.i64.max = 9223372036854775807 := by decide
  simp [e1, e2]
  omega
theorem below_tab {B b : Nat} {w w6 w7 : World} (h : Below B w w6) (g : w6.grownBy w7 (some b)) (hb : B ≤ b) (hB : B ≤ w6.heap.size) : Below B w w7 :=
  ⟨g.os.trans h.os, g.tape.trans h.tape, g.output.trans h.output, Nat.le_trans h.size g.size, fun i hi => (g.block i (by omega) (fun e => by injection e with e; omega)).trans (h.block i hi)⟩
end Go.Proofs.YtkcobaimcfggjaaGreatDoor
