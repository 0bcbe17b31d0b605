/- Maps that the call made, over whatever key and element: what they hold, key by key. The conversions of the laws package make new memory that reads as their argument: calls, lists of lists, drafts. Slices that read as a list and may be written, each in a block that is known; rows of transactions whose operations lie in blocks of their own. A slice that has room for what is put into it; the slice of an order that is being searched. Numbers in memory of the call's own that can be marked. What searches share: one more number put behind a list; what is found. -/
import Derived.Test.YtkcobaimcfggjaaGreatDoorQRanges
import Derived.Test.YtkcobaimcfggjaaGreatDoorProg
import Derived.Test.YtkcobaimcfggjaaGreatDoorQToA
import Derived.Maps.Own
import Derived.Maps.OwnOps
import Derived.Maps.OwnSet
import Derived.Maps.Views
import Derived.Maps.Keyed
import Derived.DeepKeys4
import Derived.WideKeyPair
import Derived.Laws.AppendOwn
import Derived.ArgAppend
import Derived.Deep.RegionLaw
namespace Go.Proofs.YtkcobaimcfggjaaGreatDoor
open Go.RowKit Go.Maps
set_option linter.unusedVariables false

structure KeyKit (P : Program) (k : TypeId) (κ : Type) where
  keyed : Keyed P k
  val : κ → Value
  lit : κ → Lit
  ok : κ → Prop
  of : ∀ x, ok x → keyOf P k (val x) = some (lit x)
  inj : ∀ x y, ok x → ok y → lit x = lit y → x = y
  isKey : ∀ x, WideAt.IsKeyLit (lit x)
structure ElKit (P : Program) (e : TypeId) (β : Type) where
  R : Value → Option (DataW Unit × List MemPlace)
  val : β → Value
  dat : β → DataW Unit
  ok : β → Prop
  mkR : ∀ x, ok x → R (val x) = some (dat x, [])
  inv : ∀ v z, R v = some z → ∃ x, v = val x ∧ z = (dat x, [])
  inj : ∀ x y, dat x = dat y → x = y
  zero : β
  zok : ok zero
  hz : ∀ w, (zeroValue e).run P w = .ok (val zero) w
section
variable {P : Program} {k e : TypeId} {κ β : Type} (KK : KeyKit P k κ) (EE : ElKit P e β)
/-- Block b holds, for each key, what f says. -/
def TabG (w : World) (b n : Nat) (f : κ → Option β) : Prop :=
  ∃ D : DataW Unit, w.ownsMap P k EE.R b n D ∧ IsMap D ∧ ∀ x, KK.ok x → Maps.has D (KK.lit x) = (f x).isSome ∧ D.atKey (KK.lit x) (EE.dat EE.zero) = EE.dat ((f x).getD EE.zero)
variable {KK EE}
theorem TabG.made (w : World) : TabG KK EE (w.alloc (.map #[] 0)) w.heap.size 0 (fun _ => none) :=
  ⟨.map [], World.ownsMap_made w _ _ _, isMap_empty, fun x _ => ⟨rfl, rfl⟩⟩
theorem TabG.lt {w : World} {b n : Nat} {f : κ → Option β} (h : TabG KK EE w b n f) : b < w.heap.size := by obtain ⟨D, h, _⟩ := h; exact h.lt
theorem TabG.keep {w w' : World} {b n : Nat} {f : κ → Option β} (h : TabG KK EE w b n f) (he : w'.heap[b]? = w.heap[b]?) : TabG KK EE w' b n f := by
  obtain ⟨D, ⟨es, clock, hb, hr⟩, h2⟩ := h
  exact ⟨D, ⟨es, clock, he.trans hb, hr⟩, h2⟩
theorem TabG.congr {w : World} {b n : Nat} {f g : κ → Option β} (h : TabG KK EE w b n f) (hfg : ∀ x, KK.ok x → f x = g x) : TabG KK EE w b n g := by
  obtain ⟨D, h1, h2, h3⟩ := h
  exact ⟨D, h1, h2, fun x hx => by rw [← hfg x hx]; exact h3 x hx⟩
theorem TabG.look {w : World} {b n : Nat} {f : κ → Option β} (h : TabG KK EE w b n f) {t : TypeId} (ht : P.underlying t = some (.map k e)) {x : κ} (hx : KK.ok x) :
    (Instr.lookup t (.map (some b)) (KK.val x) false).run P w = .ok (EE.val ((f x).getD EE.zero)) w := by
  obtain ⟨D, h1, h2, h3⟩ := h
  obtain ⟨v, ps, hrun, hv⟩ := h1.lookup KK.keyed ht (EE.hz w) (EE.mkR _ EE.zok) (KK.of x hx)
  obtain ⟨y, rfl, hy⟩ := EE.inv _ _ hv
  rw [(h3 x hx).2] at hy
  have hy' := EE.inj _ _ (congrArg Prod.fst hy)
  rw [hrun, hy']
theorem TabG.look_ok {w : World} {b n : Nat} {f : κ → Option β} (h : TabG KK EE w b n f) {t : TypeId} (ht : P.underlying t = some (.map k e)) {x : κ} (hx : KK.ok x) :
    (Instr.lookup t (.map (some b)) (KK.val x) true).run P w = .ok (.tuple #[EE.val ((f x).getD EE.zero), .bool (f x).isSome]) w := by
  obtain ⟨D, h1, h2, h3⟩ := h
  obtain ⟨v, ps, hrun, hv⟩ := h1.look_ok KK.keyed ht (EE.hz w) (EE.mkR _ EE.zok) (KK.of x hx)
  obtain ⟨y, rfl, hy⟩ := EE.inv _ _ hv
  rw [(h3 x hx).2] at hy
  have hy' := EE.inj _ _ (congrArg Prod.fst hy)
  rw [hrun, hy', (h3 x hx).1]
theorem TabG.put [DecidableEq κ] {w : World} {b n : Nat} {f : κ → Option β} (h : TabG KK EE w b n f) {t : TypeId} (ht : P.underlying t = some (.map k e)) (hn : n < maxLen) {x : κ} (hx : KK.ok x) {v : β} (hv : EE.ok v) :
    ∃ w', (Instr.mapUpdate t (.map (some b)) (KK.val x) (EE.val v)).run P w = .ok () w' ∧ TabG KK EE w' b (n + 1) (fun y => if y = x then some v else f y) ∧ w.grownBy w' (some b) := by
  obtain ⟨D, h1, h2, h3⟩ := h
  obtain ⟨w', hrun, h4, h5⟩ := h1.update KK.keyed ht hn (KK.of x hx) (EE.mkR v hv)
  refine ⟨w', hrun, ⟨_, h4, h2.put _ _, fun y hy => ?_⟩, h5⟩
  by_cases hxy : y = x
  · subst hxy
    show Maps.has _ _ = (if y = y then some v else f y).isSome ∧ _ = EE.dat ((if y = y then some v else f y).getD EE.zero)
    rw [if_pos rfl]
    exact ⟨has_put_same h2 (KK.isKey y) _, atKey_put_same h2 (KK.isKey y) _ _⟩
  · show Maps.has _ _ = (if y = x then some v else f y).isSome ∧ _ = EE.dat ((if y = x then some v else f y).getD EE.zero)
    rw [if_neg hxy]
    have hne : KK.lit y ≠ KK.lit x := fun e => hxy (KK.inj _ _ hy hx e)
    exact ⟨(has_put_other hne _).trans (h3 y hy).1, (atKey_put_other hne _ _).trans (h3 y hy).2⟩
theorem TabG.up {w : World} {b n n' : Nat} {f : κ → Option β} (h : TabG KK EE w b n f) (hn : n ≤ n') : TabG KK EE w b n' f := by
  obtain ⟨D, h1, h2⟩ := h
  exact ⟨D, h1.mono hn, h2⟩
theorem TabG.map_len {w : World} {b n : Nat} {f : κ → Option β} (h : TabG KK EE w b n f) {t : TypeId} (ht : P.underlying t = some (.map k e)) : ∃ m : Nat, m ≤ n ∧ ∀ ty, (Builtin.len_ #[t] ty #[.map (some b)]).run P w = .ok (.int .i64 m) w := by
  obtain ⟨D, h1, h2, h3⟩ := h
  exact ⟨_, h1.size_le, fun ty => h1.len ht ty⟩
end
def boolEl {P : Program} {e : TypeId} (he : P.underlying e = some .bool) (hz : ∀ w, (zeroValue e).run P w = .ok (.bool false) w) : ElKit P e Bool where
  R := plainElem P e
  val b := .bool b
  dat b := .lit (.bool b)
  ok _ := True
  mkR x _ := plainElem_bool he x
  inv v z h := by
    unfold plainElem at h
    rw [he] at h
    split at h
    all_goals first
      | (cases h; exact ⟨_, rfl, rfl⟩)
      | (rename_i h2; cases h2; done)
      | (rename_i h2 _; cases h2; done)
      | (rename_i h2 _ _; cases h2; done)
      | (exfalso; cases h; done)
  inj x y h := by cases h; rfl
  zero := false
  zok := trivial
  hz := hz
def intEl {P : Program} {e : TypeId} (he : P.underlying e = some (.int .i64)) (hz : ∀ w, (zeroValue e).run P w = .ok (.int .i64 0) w) : ElKit P e Int where
  R := plainElem P e
  val b := .int .i64 b
  dat b := .lit (.int .i64 b)
  ok x := (Lit.int .i64 x).wf = true
  mkR x h := plainElem_int he h
  inv v z h := by
    obtain ⟨a, rfl, h2, _⟩ := plainElem_int_inv he h
    exact ⟨a, rfl, h2⟩
  inj x y h := by cases h; rfl
  zero := 0
  zok := by decide
  hz := hz
def intKey {P : Program} {k : TypeId} (hk : P.underlying k = some (.int .i64)) : KeyKit P k Int where
  keyed := int_keyed hk
  val x := .int .i64 x
  lit x := .int .i64 x
  ok x := (Lit.int .i64 x).wf = true
  of x h := keyOf_int_mk hk h
  inj x y _ _ h := by cases h; rfl
  isKey x := by simp [WideAt.IsKeyLit]
/-- An operation as an element. -/
def opRead (v : Value) : Option (DataW Unit × List MemPlace) :=
  match v with
  | .agg cs => match cs.toList with
    | [.int .i64 a, .int .i64 b, .int .i64 c] => some (.agg [.lit (.int .i64 a), .lit (.int .i64 b), .lit (.int .i64 c)], [])
    | _ => none
  | _ => none
theorem opRead_inv {v : Value} {z : DataW Unit × List MemPlace} (h : opRead v = some z) : ∃ x : Op, v = .agg #[.int .i64 x.Kind, .int .i64 x.Key, .int .i64 x.Value] ∧ z = (.agg [.lit (.int .i64 x.Kind), .lit (.int .i64 x.Key), .lit (.int .i64 x.Value)], []) := by
  unfold opRead at h
  split at h
  · rename_i cs
    split at h
    · rename_i a b c hc
      cases h
      refine ⟨⟨a, b, c⟩, ?_, rfl⟩
      congr 1
      exact Array.ext' (by rw [hc])
    · cases h
  · cases h
def opEl {P : Program} {e : TypeId} (hz : ∀ w, (zeroValue e).run P w = .ok (.agg #[.int .i64 0, .int .i64 0, .int .i64 0]) w) : ElKit P e Op where
  R := opRead
  val o := .agg #[.int .i64 o.Kind, .int .i64 o.Key, .int .i64 o.Value]
  dat o := .agg [.lit (.int .i64 o.Kind), .lit (.int .i64 o.Key), .lit (.int .i64 o.Value)]
  ok _ := True
  mkR x _ := rfl
  inv v z h := opRead_inv h
  inj x y h := by cases x; cases y; simp at h; obtain ⟨rfl, rfl, rfl⟩ := h; rfl
  zero := ⟨0, 0, 0⟩
  zok := trivial
  hz := hz
section
variable {P : Program} {k e : TypeId} {κ β : Type} {KK : KeyKit P k κ} {EE : ElKit P e β} (w : World) {ops : Array Oper} {rest : List Oper} {o : Oper} {a : Act} {Q : Exit → Act → World → Prop}
theorem wpList_tab_put [DecidableEq κ] (hg : o.guard = none) (m x v : Operand) (t : TypeId) (hop : o.op = Op.mapUpdate t m x v) (ht : P.underlying t = some (.map k e)) (b n : Nat) (f : κ → Option β)
    (hm : a.eval m = .map (some b)) (h : TabG KK EE w b n f) (hn : n < maxLen) (key : κ) (hk : KK.ok key) (val : β) (hv : EE.ok val) (hx : a.eval x = KK.val key) (hvv : a.eval v = EE.val val)
    (hK : ∀ w', TabG KK EE w' b (n + 1) (fun y => if y = key then some val else f y) → w.grownBy w' (some b) → wpList P ops Q rest (a.put o.dst undef) w') : wpList P ops Q (o :: rest) a w := by
  refine wpList_plain hg fun K' hK' => ?_
  obtain ⟨w', hrun, r1, r2⟩ := h.put ht hn hk hv
  unfold Oper.wp
  simp [execOp, hop, hm, hx, hvv, hrun, Result.andThen]
  exact hK' _ _ (hK w' r1 r2)
theorem wpList_tab_look_ok (hg : o.guard = none) (m x : Operand) (t : TypeId) (hop : o.op = Op.lookup t m x true) (ht : P.underlying t = some (.map k e)) (b n : Nat) (f : κ → Option β)
    (hm : a.eval m = .map (some b)) (h : TabG KK EE w b n f) (key : κ) (hk : KK.ok key) (hx : a.eval x = KK.val key)
    (hK : wpList P ops Q rest (a.put o.dst (.tuple #[EE.val ((f key).getD EE.zero), .bool (f key).isSome])) w) : wpList P ops Q (o :: rest) a w := by
  refine wpList_plain hg fun K' hK' => ?_
  have hrun := h.look_ok ht hk
  unfold Oper.wp
  simp [execOp, hop, hm, hx, hrun, Result.andThen]
  exact hK' _ _ hK
end
/-- Numbers that fit are literals. -/
theorem wf_small {a : Int} (h0 : -1000000 ≤ a) (h1 : a ≤ 1000000) : (Lit.int .i64 a).wf = true := by
  unfold Lit.wf
  have e1 : IntKind.i64.min = -9223372036854775808 := by decide
  have e2 : IntKind.i64.max = 9223372036854775807 := by decide
  simp [e1, e2]
  omega
theorem below_tab {B b : Nat} {w w6 w7 : World} (h : Below B w w6) (g : w6.grownBy w7 (some b)) (hb : B ≤ b) (hB : B ≤ w6.heap.size) : Below B w w7 :=
  ⟨g.os.trans h.os, g.tape.trans h.tape, g.output.trans h.output, Nat.le_trans h.size g.size, fun i hi => (g.block i (by omega) (fun e => by injection e with e; omega)).trans (h.block i hi)⟩
end Go.Proofs.YtkcobaimcfggjaaGreatDoor
namespace Go.Proofs.YtkcobaimcfggjaaGreatDoor
open Go.RowKit

theorem infoIntS_ : (Tryz.prog.info? 30).map (fun i => (i.zero, i.size, i.bytes)) = some (some (.slice none 0 0), 1, 24) := by kernel_rfl
end Go.Proofs.YtkcobaimcfggjaaGreatDoor
namespace Go.Proofs.YtkcobaimcfggjaaGreatDoor
open Go.RowKit
set_option linter.unusedVariables false
set_option linter.unusedSimpArgs false

theorem Sl.row {α : Type} {T : Ty α} {w : World} {S : Nat → Prop} {xs : List α} {A : Option Addr} {n c : Nat} (h : Sl T w S xs (.slice A n c)) : Row T w S A xs := by
  obtain ⟨A', c', hv, _, _, hR⟩ := h
  injection hv with hA _ _
  subst hA
  exact hR
/-- A slice that reads as xs and may be written: its elements begin at the head of block g, which is known whole. -/
def Hold {α : Type} (T : Ty α) (e : TypeId) (w : World) (S : Nat → Prop) (xs : List α) (v : Value) (g : Nat) : Prop :=
  ∃ A c, v = .slice A xs.length c ∧ xs.length ≤ c ∧ c ≤ maxLen ∧ (0 < xs.length → A = some ⟨g, 0, none⟩ ∧ S g ∧ (∃ cur, Blk w g e cur ∧ xs.length * T.size ≤ cur.size) ∧ ∃ S' : Nat → Prop, (∀ b, S' b → S b ∧ b ≠ g) ∧ RowAt T w S' g 0 xs)
section
variable {α : Type} {T : Ty α} {e : TypeId} {w w' : World} {S S2 : Nat → Prop} {xs : List α} {v : Value} {g : Nat}
theorem Hold.mono (h : Hold T e w S xs v g) (h1 : ∀ b, S b → S2 b) (h2 : ∀ b, S b → w'.heap[b]? = w.heap[b]?) : Hold T e w' S2 xs v g := by
  obtain ⟨A, c, rfl, hc, hm, hr⟩ := h
  refine ⟨A, c, rfl, hc, hm, fun hp => ?_⟩
  obtain ⟨rfl, hg, ⟨cur, hB, hl⟩, S', h4, h5⟩ := hr hp
  exact ⟨rfl, h1 g hg, ⟨cur, hB.of (h2 g hg), hl⟩, S', fun b hb => ⟨h1 b (h4 b hb).1, (h4 b hb).2⟩, h5.mono (fun _ h => h) (fun b hb => h2 b (h4 b hb).1) (h2 g hg)⟩
theorem Hold.sl (h : Hold T e w S xs v g) : Sl T w S xs v := by
  obtain ⟨A, c, rfl, hc, hm, hr⟩ := h
  refine ⟨A, c, rfl, hc, hm, fun hp => ?_⟩
  obtain ⟨rfl, hg, ⟨cur, hB, hl⟩, S', h4, h5⟩ := hr hp
  exact ⟨g, 0, rfl, hg, h5.mono (fun b hb => (h4 b hb).1) (fun _ _ => rfl) rfl⟩
theorem Hold.old (h : Hold T e w' (New w w') xs v g) : Sl T w' (Old w') xs v := h.sl.mono (fun _ hb => hb.2) fun _ _ => rfl
theorem Own.hold (h : Own T e w S xs v) : ∃ g, Hold T e w S xs v g ∧ (v.ownBlock = none ∨ v.ownBlock = some g) := by
  rcases h with ⟨rfl, rfl⟩ | ⟨g, cap, cur, S', rfl, hg, hB, h1, h2, h3, h4, h5⟩
  · exact ⟨0, ⟨none, 0, rfl, by simp, by simp [maxLen], fun h => absurd h (by simp)⟩, .inl rfl⟩
  · exact ⟨g, ⟨_, cap, rfl, h1, h2, fun _ => ⟨rfl, hg, ⟨cur, hB, by rw [h3]; exact Nat.mul_le_mul_right _ h1⟩, S', h4, h5⟩⟩, .inr rfl⟩
theorem Hold.clip {A : Option Addr} {n c : Nat} (h : Hold T e w S xs (.slice A n c) g) : Hold T e w S xs (.slice A n n) g := by
  obtain ⟨A', c', hv, hc, hm, hr⟩ := h
  injection hv with h1 h2 h3
  subst h1; subst h2; subst h3
  exact ⟨_, _, rfl, Nat.le_refl _, Nat.le_trans hc hm, hr⟩
theorem Hold.nil (g : Nat) : Hold T e w S ([] : List α) (.slice none 0 0) g := ⟨none, 0, rfl, by simp, by simp [maxLen], fun h => absurd h (by simp)⟩
end
/-- A list of numbers whose block is part of the datum. -/
def tIntSB (e : TypeId) : Ty (List Int × Nat) where
  size := 1
  rel w S p cs := ∃ v, cs = [v] ∧ Hold tInt e w S p.1 v p.2
  len h := by obtain ⟨A, rfl, _⟩ := h; rfl
  one h u hu := by
    obtain ⟨v, rfl, h2⟩ := h
    obtain ⟨A, c, rfl, _⟩ := h2.sl
    simp at hu
    subst hu; rfl
  mono h h2 h3 := by obtain ⟨v, rfl, h4⟩ := h; exact ⟨v, rfl, h4.mono h2 h3⟩
theorem RowAt.intSB {e : TypeId} {w : World} {S : Nat → Prop} {b off : Nat} {ps : List (List Int × Nat)} (h : RowAt (tIntSB e) w S b off ps) : RowAt (tSlice tInt) w S b off (ps.map Prod.fst) := fun k hk => by
  rw [List.length_map] at hk
  obtain ⟨cs, ⟨v, rfl, hr⟩, hc⟩ := h k hk
  exact ⟨_, ⟨v, rfl, by simpa using hr.sl⟩, hc⟩
theorem Sl.intSB {e : TypeId} {w : World} {S : Nat → Prop} {ps : List (List Int × Nat)} {v : Value} (h : Sl (tIntSB e) w S ps v) : Sl (tSlice tInt) w S (ps.map Prod.fst) v := by
  obtain ⟨A, c, rfl, h1, h2, h3⟩ := h
  refine ⟨A, c, by simp, by simpa using h1, h2, fun hp => ?_⟩
  obtain ⟨b, off, rfl, hb, hr⟩ := h3 (by simpa using hp)
  exact ⟨b, off, rfl, hb, hr.intSB⟩
section
variable {P : Program}
/-- append(s, x...), as one operation: s of the call's own, x any row. -/
theorem wp_cat {α : Type} (T : Ty α) {w : World} {o : Oper} {a : Act} {K' : Act → World → Prop} {Q : Exit → Act → World → Prop} (s x : Operand) (t : TypeId)
    (ho : o.op = .call { callee := .builtin .append, args := #[s, x], argTypes := #[t, t] })
    (e : TypeId) (i : TypeInfo) (z : Value) (bytes : Nat) (ht : P.underlying t = some (.slice e)) (hi : P.info? e = some i) (hz : i.zero = some z)
    (hsize : i.size = T.size) (hby : i.bytes = bytes) (hzs : z.cells.size = T.size) (hsz : 0 < T.size)
    (K Sy : Nat → Prop) (xs ys : List α) (v : Value) (hs : a.eval s = v) (hO : Own T e w (fun b => K b ∧ Old w b) xs v) (A : Option Addr) (m c : Nat) (hx : a.eval x = .slice A m c) (hm : m = ys.length)
    (hy : RowAny T w Sy A ys) (hSy : ∀ b, Sy b → K b ∧ Old w b ∧ v.ownBlock ≠ some b) (hK : ∀ b, w.heap.size ≤ b → K b)
    (h63 : xs.length + ys.length ≤ maxLen) (hbytes : (xs.length + ys.length) * bytes ≤ 140737488355328)
    (h : ∀ v' w', Own T e w' (fun b => K b ∧ Old w' b) (xs ++ ys) v' → Only K w w' → K' (a.put o.dst v') w') : o.wp P a w K' Q :=
  wp_app T s x t ho e i z bytes ht hi hz hsize hby hzs hsz (fun b => K b ∧ Old w b) Sy K xs ys v hs hO A m c hx hm hy h63 hbytes
    (fun b hb => hb.2) (fun b hb => ⟨(hSy b hb).2.1, (hSy b hb).2.2⟩) (fun b hb => hb.1) (fun b hb => (hSy b hb).1) (hK _ (Nat.le_refl _))
    (fun v' w' h1 h2 => h v' w' h1 (Only.of_grown h2 fun i hi => (hO.owned i hi).1))
theorem wp_put {α : Type} (T : Ty α) {w : World} {o : Oper} {a : Act} {K' : Act → World → Prop} {Q : Exit → Act → World → Prop} (s x : Operand) (t : TypeId)
    (ho : o.op = .call { callee := .builtin .append, args := #[s, x], argTypes := #[t, t] })
    (e : TypeId) (i : TypeInfo) (z : Value) (bytes : Nat) (ht : P.underlying t = some (.slice e)) (hi : P.info? e = some i) (hz : i.zero = some z)
    (hsize : i.size = T.size) (hby : i.bytes = bytes) (hzs : z.cells.size = T.size) (hsz : 0 < T.size)
    (K Sy : Nat → Prop) (xs : List α) (y : α) (cs : List Value) (v : Value) (hs : a.eval s = v) (hO : Own T e w (fun b => K b ∧ Old w b) xs v) (c : Nat) (hx : a.eval x = .slice (some ⟨w.heap.size, 0, none⟩) 1 c)
    (hy : T.rel w Sy y cs) (hSy : ∀ b, Sy b → K b ∧ Old w b ∧ v.ownBlock ≠ some b) (hK : ∀ b, w.heap.size ≤ b → K b)
    (h63 : xs.length + 1 ≤ maxLen) (hbytes : (xs.length + 1) * bytes ≤ 140737488355328)
    (h : ∀ v' w', Own T e w' (fun b => K b ∧ Old w' b) (xs ++ [y]) v' → Only K w w' → K' (a.put o.dst v') w') : o.wp P a (w.alloc (.cells cs.toArray e)) K' Q := by
  have hO1 := hO.mono (w' := w.alloc (.cells cs.toArray e)) (fun _ h => h) (fun b hb => Below.heap_alloc _ _ _ hb.2)
  refine wp_app T s x t ho e i z bytes ht hi hz hsize hby hzs hsz (fun b => K b ∧ Old w b) Sy K xs [y] v hs hO1 _ 1 c hx rfl (row_one e hy (fun b hb => (hSy b hb).2.1)) h63 hbytes
    (fun b hb => Nat.lt_of_lt_of_le hb.2 (by simp)) (fun b hb => ⟨Nat.lt_of_lt_of_le (hSy b hb).2.1 (by simp), (hSy b hb).2.2⟩) (fun b hb => hb.1) (fun b hb => (hSy b hb).1) (hK _ (by simp)) (fun v' w' h1 h2 => h v' w' h1 ?_)
  exact (Only.of_alloc w _).trans (Only.of_grown h2 fun i hi => (hO.owned i hi).1)
end
/-- A slice of one element, newly made. -/
theorem Own.one {α : Type} {T : Ty α} {e : TypeId} (w : World) {S K : Nat → Prop} {x : α} (cs : List Value) (hr : T.rel w S x cs) (hS : ∀ b, S b → K b ∧ Old w b) (hK : K w.heap.size) :
    Own T e (w.alloc (.cells cs.toArray e)) K [x] (.slice (some ⟨w.heap.size, 0, none⟩) 1 1) := by
  obtain ⟨b, off, hb, hrow⟩ := row_one e hr (fun b h => (hS b h).2) (by simp)
  have hbo : w.heap.size = b ∧ 0 = off := by simpa using hb
  obtain ⟨rfl, rfl⟩ := hbo
  exact .inr ⟨_, 1, _, S, rfl, hK, Blk.new _ _ _, by simp, by simp [maxLen], by rw [List.size_toArray, T.len hr]; omega, fun b h => ⟨(hS b h).1, fun e => by have := (hS b h).2; unfold Old at this; omega⟩, hrow⟩
/-- The blocks go up. -/
def Up {α : Type} (ps : List (α × Nat)) : Prop := ps.Pairwise fun a b => a.2 < b.2
theorem Up.snoc {α : Type} {ps : List (α × Nat)} {p : α × Nat} (h : Up ps) (hp : ∀ q ∈ ps, q.2 < p.2) : Up (ps ++ [p]) := by
  unfold Up
  rw [List.pairwise_append]
  exact ⟨h, List.pairwise_singleton _ _, fun a ha b hb => by simp at hb; subst hb; exact hp a ha⟩
theorem at_TxnG {xs : List Txn} {A : Option Addr} {w : World} {S : Nat → Prop} {k : Nat} (hR : Row tTxn w S A xs) (hk : k < xs.length) :
    ∃ b off A2 c2, A = some ⟨b, off, none⟩ ∧ S b ∧ w.cell? ⟨b, off + k * 3, none⟩ = some (.int .i64 xs[k].Session) ∧ w.cell? ⟨b, off + k * 3 + 1, none⟩ = some (.slice A2 xs[k].Ops.length c2) ∧ w.cell? ⟨b, off + k * 3 + 2, none⟩ = some (.bool xs[k].Done) ∧ xs[k].Ops.length ≤ c2 ∧ c2 ≤ maxLen ∧ Row tOp w S A2 xs[k].Ops := by
  obtain ⟨b, off, rfl, hbS, hc⟩ := hR (by omega)
  obtain ⟨cs, hr, hcs⟩ := hc k hk
  obtain ⟨v, rfl, A2, c2, rfl, h1, h2, h3⟩ := hr
  exact ⟨b, off, A2, c2, rfl, hbS, by simpa [tTxn] using hcs 0 _ rfl, by simpa [tTxn] using hcs 1 _ rfl, by simpa [tTxn] using hcs 2 _ rfl, h1, h2, h3⟩
section
variable {P : Program}
/-- append of one element of one cell onto a slice with room. -/
theorem wpList_room {w : World} {ops : Array Oper} {rest : List Oper} {o : Oper} {a : Act} {Q : Exit → Act → World → Prop} (hgd : Region.wanted o (yielded ops a.tmps) = true) (s x : Operand) (t : TypeId)
    (ho : o.op = .call { callee := .builtin .append, args := #[s, x], argTypes := #[t, t] })
    (e : TypeId) (i : TypeInfo) (ht : P.underlying t = some (.slice e)) (hi : P.info? e = some i) (hsize : i.size = 1)
    (g k cap : Nat) (cur : Array Value) (u : Value) (hB : Blk w g e cur) (hk : k < cap) (hs1 : k < cur.size) (h1 : u.oneCell' = true)
    (hs : a.eval s = .slice (some ⟨g, 0, none⟩) k cap) (c : Nat) (hx : a.eval x = .slice (some ⟨w.heap.size, 0, none⟩) 1 c)
    (h : wpList P ops Q rest (a.put o.dst (.slice (some ⟨g, 0, none⟩) (k + 1) cap)) ((w.alloc (.cells #[u] e)).setCell ⟨g, k, none⟩ u)) : wpList P ops Q (o :: rest) a (w.alloc (.cells #[u] e)) := by
  have hB2 := hB.alloc (.cells #[u] e)
  have hN := Blk.new w e #[u]
  have hrun := run_append_room_cells (P := P) (w.alloc (.cells #[u] e)) t o.type e i ht hi g 0 k cap ⟨w.heap.size, 0, none⟩ 1 c [u] (by rw [hsize]; rfl)
    (fun j v hj => by
      obtain ⟨hj0, rfl⟩ := List.getElem?_eq_some_iff.1 hj
      have : j = 0 := by simpa using hj0
      subst this
      rw [Go.WideShapes.add_plain]
      exact hN.cell 0)
    (fun v hv => by simp at hv; subst hv; exact h1) (by omega)
    (fun j hj => by
      have : j = 0 := by simpa using hj
      subst this
      rw [hsize, hB2.cell, Array.getElem?_eq_getElem (by omega)]; rfl)
    (fun j hj => hB2.frozen _)
  refine BigFrame.wpList_want hgd fun K hK => ?_
  unfold Oper.wp execOp
  simp only [ho, resolve, invoke, builtin, Sem.run_bind, Sem.run_pure, Result.andThen_ok, List.map_toArray, List.map_cons, List.map_nil, hs, hx, hrun]
  refine hK _ _ ?_
  have e1 : (w.alloc (.cells #[u] e)).setCells g (0 + k * i.size) [u] = (w.alloc (.cells #[u] e)).setCell ⟨g, k, none⟩ u := by
    rw [hsize]; simp [World.setCells]
  rw [e1]
  exact h
end
/-- The slice of the order: what stands in it, in block g, behind variable bo. -/
structure Ord (bo g cap : Nat) (pre : List Int) (W : World) : Prop where
  var : Blk W bo 30 #[.slice (some ⟨g, 0, none⟩) pre.length cap]
  row : ∃ cur, Blk W g 3 cur ∧ cur.size = cap ∧ ∀ j (hj : j < pre.length), cur[j]? = some (.int .i64 pre[j])
theorem Ord.glt {bo g cap : Nat} {pre : List Int} {W : World} (h : Ord bo g cap pre W) : g < W.heap.size := by obtain ⟨cur, hb, _⟩ := h.row; exact hb.lt
theorem Ord.keep {bo g cap : Nat} {pre : List Int} {W W' : World} (h : Ord bo g cap pre W) (h1 : W'.heap[bo]? = W.heap[bo]?) (h2 : W'.heap[g]? = W.heap[g]?) : Ord bo g cap pre W' := by
  obtain ⟨hv, cur, hb, hr⟩ := h
  exact ⟨hv.of h1, cur, hb.of h2, hr⟩
/-- The blocks of the order. -/
def Ko (bo g b : Nat) : Prop := b = bo ∨ b = g
/-- Numbers in memory of S that can be marked. -/
def HoldI (w : World) (S : Nat → Prop) (xs : List Int) (v : Value) : Prop := ∃ g, Hold tInt 3 w S xs v g
theorem HoldI.mono {w w' : World} {S S' : Nat → Prop} {xs : List Int} {v : Value} (h : HoldI w S xs v) (h1 : ∀ b, S b → S' b) (h2 : ∀ b, S b → w'.heap[b]? = w.heap[b]?) : HoldI w' S' xs v := by
  obtain ⟨g, h⟩ := h
  exact ⟨g, h.mono h1 h2⟩
theorem HoldI.sl {w : World} {S : Nat → Prop} {xs : List Int} {v : Value} (h : HoldI w S xs v) : Sl tInt w S xs v := by
  obtain ⟨g, h⟩ := h
  exact h.sl
/-- A call of a function of the program, as one operation. -/
theorem wp_fn {P : Program} {o : Oper} {a : Act} {w : World} {K : Act → World → Prop} {Q : Exit → Act → World → Prop} (f : FuncId) (args : Array Value) (hrun : (execOp a.eval o).run P w = .ok (.enter f args) w) {R : Ending → World → Prop}
    (hc : Calls P f args w R) (h : ∀ e w', R e w' → ∃ v, e = .returned v ∧ K (a.put o.dst v) w') : o.wp P a w K Q := by
  unfold Oper.wp
  rw [hrun, Oper.upon_enter]
  refine hc.mono fun e w'' hh => ?_
  obtain ⟨v, rfl, hk⟩ := h e w'' hh
  exact hk
theorem Own.emptyAt {α : Type} {T : Ty α} {e : TypeId} {w : World} {S : Nat → Prop} {p : Nat} (hB : Blk w p e #[]) (hp : S p) : Own T e w S ([] : List α) (.slice (some ⟨p, 0, none⟩) 0 0) :=
  .inr ⟨p, 0, #[], fun _ => False, rfl, hp, hB, by simp, by simp [maxLen], by simp, fun _ h => h.elim, fun k hk => absurd hk (by simp)⟩
theorem rowOne {e : TypeId} {w : World} {q : Nat} {x : Int} (hB : Blk w q e #[.int .i64 x]) : RowAny tInt w (fun _ => False) (some ⟨q, 0, none⟩) [x] := fun _ =>
  ⟨q, 0, rfl, fun k hk => by
    obtain rfl : k = 0 := by simpa using hk
    refine ⟨[.int .i64 x], rfl, fun j u hu => ?_⟩
    obtain ⟨hj, rfl⟩ := List.getElem?_eq_some_iff.1 hu
    obtain rfl : j = 0 := by simpa using hj
    simpa using hB.cell 0⟩
/-- The list with one more number, in new memory. -/
def XOne (e : TypeId) (w4 w : World) (ys : List Int) (v : Value) : Prop := Own tInt e w (fun b => w4.heap.size ≤ b ∧ Old w b) ys v ∧ Below w4.heap.size w4 w
theorem one_way {e : TypeId} {w4 W w8 w9 : World} {P : Nat → Prop} {pre : List Int} {x : Int} {v : Value} (hO : Own tInt e w9 (fun b => (w4.heap.size ≤ b ∧ P b) ∧ Old w9 b) ([] ++ pre ++ [x]) v) (hW : Below w4.heap.size w4 W)
    (h8 : Only (fun b => w4.heap.size ≤ b ∧ P b) W w8) (h9 : Only (fun b => w4.heap.size ≤ b ∧ P b) w8 w9) : XOne e w4 w9 (pre ++ [x]) v :=
  ⟨hO.mono (fun b h => ⟨h.1.1, h.2⟩) (fun _ _ => rfl), below_only hW (h8.trans h9) hW.size (fun b h => h.1)⟩
theorem find_take_some {α β : Type} (p : α → Option β) (l : List α) (k : Nat) (hk : k < l.length) (h0 : (l.take k).findSome? p = none) : (p l[k] = none → (l.take (k + 1)).findSome? p = none) ∧ (∀ y, p l[k] = some y → l.findSome? p = some y) := by
  constructor
  · intro hp
    rw [List.take_succ_eq_append_getElem hk, List.findSome?_append, h0]
    simp [hp]
  · intro y hp
    have h1 : (l.take k ++ l.drop k).findSome? p = some y := by
      rw [List.findSome?_append, h0, Option.none_or, List.drop_eq_getElem_cons hk, List.findSome?_cons, hp]
    rwa [List.take_append_drop] at h1
/-- What is found, in memory from block lo on. -/
def FindPost (r : Option (List Int)) (lo : Nat) (w : World) (e : Ending) (w' : World) : Prop :=
  ∃ v, e = .returned (.tuple #[v, .bool r.isSome]) ∧ Sl tInt w' (In lo w'.heap.size) (r.getD []) v ∧ Below w.heap.size w w'
theorem Sl.zero_ {w : World} {S : Nat → Prop} {A : Option Addr} : Sl tInt w S [] (.slice A 0 0) := ⟨A, 0, rfl, Nat.le_refl _, by simp [maxLen], Row.nil⟩
end Go.Proofs.YtkcobaimcfggjaaGreatDoor
