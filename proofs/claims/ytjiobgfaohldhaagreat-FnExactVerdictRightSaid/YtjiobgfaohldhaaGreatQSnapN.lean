/- The program's TxnValid and the predicates over it. A map from a key of two numbers to a number, that the call made: what it holds, key by key. The program's table of writers. The program's HistoryValid. Plain laws on histories: committed transactions, last writes, first reads, runs. Plain laws: schedules of transactions that see what was committed when they began. Plain laws: right schedules, and the first one that is found. Plain laws: what runs of operations leave, and what was read. -/
import Derived.Test.YtjiobgfaohldhaaGreatQContC
import Derived.Test.YtjiobgfaohldhaaGreatQRanges
import Derived.Maps.Own
import Derived.Maps.OwnSet
import Derived.Maps.Views
import Derived.DeepKeys4
import Derived.WideKeyPair
namespace Go.Proofs.YtjiobgfaohldhaaGreat
open Go.RowKit Go.Maps
set_option linter.unusedVariables false
set_option linter.unusedSimpArgs false

theorem opLit (o : Op) (w : World) : Calls Tryz.prog 135 #[.agg #[.int .i64 o.Kind, .int .i64 o.Key, .int .i64 o.Value]] w fun e w' => e = .returned (.bool (!opOk o)) ∧ Below w.heap.size w w' := by
  have HV := hide (fun W => opValid_any o W)
  go_enter Tryz.func135, Tryz.ntmps135
  go_wp2_with (go_at_call 136; refine (HV.out _).mono ?_; rintro e w' ⟨rfl, hb'⟩; have HB := hide hb'; clear hb')
  go_ret
  exact ⟨rfl, ((Below.refl _ w).alloc (Nat.le_refl _) _).trans (HB.out.mono (by simp))⟩
set_option maxHeartbeats 400000 in
theorem implTxnValid (t : Txn) (A : Option Addr) (c : Nat) (w : World) (hm : t.Ops.length ≤ maxLen) (hA : Row tOp w (Old w) A t.Ops) :
    Calls Tryz.prog 108 #[.agg #[.int .i64 t.Session, .slice A t.Ops.length c, .bool t.Done]] w fun e w' => e = .returned (.bool (txnOk t)) ∧ Below w.heap.size w w' := by
  have hB : Below w.heap.size w (w.alloc (.cells #[.int .i64 t.Session, .slice A t.Ops.length c, .bool t.Done] 57)) := (Below.refl _ _).alloc (Nat.le_refl _) _
  have HB := hide hB
  have hcont := hide (cont_Op t.Ops A c _ 135 #[] (fun o => !opOk o) (enters_of Tryz.func135 (by kernel_rfl) rfl) hm (hA.old hB)
    (fun x _ cs hr W hW => by
      obtain rfl := hr
      exact (opLit x W).mono (by rintro e w' ⟨rfl, hb⟩; exact ⟨rfl, hW.trans (hb.mono hW.size)⟩)))
  have hm' : t.Ops.length ≤ 9223372036854775807 := by simpa [maxLen] using hm
  clear hA hB hm
  cases hq : inR t.Session 0 3 with
  | false =>
    have HO := hide (show txnOk t = false by unfold txnOk; rw [hq]; simp)
    go_enter Tryz.func108, Tryz.ntmps108
    go_wp2_with (go_at_call 133; refine (sessionOk _ _).mono ?_; rintro e w' ⟨rfl, rfl⟩)
    go_ret
    exact ⟨ret_bool HO.out.symm, HB.out⟩
  | true =>
    by_cases hq2 : t.Ops.length ≤ 6
    · have HO := hide (show (!(t.Ops.any fun o => !opOk o)) = txnOk t by unfold txnOk; rw [hq, List.any_eq_not_all_not]; simp [hq2])
      have hq2' : (t.Ops.length : Int) ≤ 6 := by omega
      go_enter Tryz.func108, Tryz.ntmps108
      go_wp2_with (first | (go_at_call 133; refine (sessionOk _ _).mono ?_; rintro e w' ⟨rfl, rfl⟩) | (go_at_call 134; refine hcont.out.mono ?_; rintro e w' ⟨rfl, hb'⟩; have HB' := hide hb'; clear hb'))
      go_ret
      exact ⟨ret_bool HO.out, HB.out.trans (HB'.out.mono (by simp))⟩
    · have HO := hide (show txnOk t = false by unfold txnOk; simp [hq2])
      have hq2' : ¬ (t.Ops.length : Int) ≤ 6 := by omega
      go_enter Tryz.func108, Tryz.ntmps108
      go_wp2_with (go_at_call 133; refine (sessionOk _ _).mono ?_; rintro e w' ⟨rfl, rfl⟩)
      go_ret
      exact ⟨ret_bool HO.out.symm, HB.out⟩
theorem txnLit (t : Txn) (A : Option Addr) (c : Nat) (w : World) (hm : t.Ops.length ≤ maxLen) (hA : Row tOp w (Old w) A t.Ops) :
    Calls Tryz.prog 107 #[.agg #[.int .i64 t.Session, .slice A t.Ops.length c, .bool t.Done]] w fun e w' => e = .returned (.bool (!txnOk t)) ∧ Below w.heap.size w w' := by
  have hB : Below w.heap.size w (w.alloc (.cells #[.int .i64 t.Session, .slice A t.Ops.length c, .bool t.Done] 57)) := (Below.refl _ _).alloc (Nat.le_refl _) _
  have H := hide (implTxnValid t A c _ hm (hA.old hB))
  clear hA hB
  go_enter Tryz.func107, Tryz.ntmps107
  go_wp2_with (go_at_call 108; refine H.out.mono ?_; rintro e w' ⟨rfl, hb'⟩; have HB := hide hb'; clear hb')
  go_ret
  exact ⟨rfl, ((Below.refl _ w).alloc (Nat.le_refl _) _).trans (HB.out.mono (by simp))⟩
theorem laidOutW : laidOutB Tryz.prog = true := by kernel_rfl
theorem sizeW : ∃ m, Tryz.prog.types.size = m + 1 := ⟨Tryz.prog.types.size - 1, by kernel_rfl⟩
theorem cellsW : Tryz.prog.cellsOf 139 = 2 := by kernel_rfl
theorem cellsI : Tryz.prog.cellsOf 3 = 1 := by kernel_rfl
theorem keyTypeW : Tryz.prog.keyType 139 = true := by kernel_rfl
theorem lawW : WideMaps.KeyLaw Tryz.prog 139 := deep_law_laid laidOutW (m := 2) (by omega) (of_decide_eq_true (by kernel_rfl)) (by kernel_rfl) (by rw [Tryz.underlying139])
theorem keyedW : Keyed Tryz.prog 139 := Keyed.of_law lawW
def litW (a b : Int) : Lit := .string (keyBytes [.int .i64 a, .int .i64 b])
theorem keyW (a b : Int) (ha : (Lit.int .i64 a).wf = true) (hb : (Lit.int .i64 b).wf = true) : keyOf Tryz.prog 139 (.agg #[.int .i64 a, .int .i64 b]) = some (litW a b) := by
  obtain ⟨m, hm⟩ := sizeW
  have hk := keyTypeW
  unfold keyOf
  simp only [Tryz.underlying139]
  rw [if_pos (by simp [hk, Value.formed, Tryz.underlying139, cellsW]), hm]
  unfold Program.keyLits
  simp only [Tryz.underlying139, Value.cells]
  rw [if_pos (by rw [cellsW]; simp)]
  simp [Program.keyLits, Tryz.underlying3, ha, hb, cellsI, litW]
theorem litW_inj {a b c d : Int} (ha : (Lit.int .i64 a).wf = true) (hb : (Lit.int .i64 b).wf = true) (hc : (Lit.int .i64 c).wf = true) (hd : (Lit.int .i64 d).wf = true) (h : litW a b = litW c d) : a = c ∧ b = d := by
  have h1 := lawW.inj (keyW a b ha hb) (by rw [h]; exact keyW c d hc hd)
  simpa using h1
theorem zeroIntW (w : World) : (zeroValue 3).run Tryz.prog w = .ok (.int .i64 0) w := by kernel_rfl

def wf64 (a : Int) : Prop := (Lit.int .i64 a).wf = true
theorem wf64_small {a : Int} (h0 : 0 ≤ a) (h1 : a ≤ 1000000) : wf64 a := by
  unfold wf64 Lit.wf
  have e1 : IntKind.i64.min = -9223372036854775808 := by decide
  have e2 : IntKind.i64.max = 9223372036854775807 := by decide
  simp [e1, e2]
  omega
/-- Block b holds, for each key of two numbers, what f says. -/
def Tab (w : World) (b n : Nat) (f : Int → Int → Option Int) : Prop :=
  ∃ D : DataW Unit, w.ownsMap Tryz.prog 139 (plainElem Tryz.prog 3) b n D ∧ IsMap D ∧
    ∀ x y, wf64 x → wf64 y → Maps.has D (litW x y) = (f x y).isSome ∧ ∀ c, f x y = some c → D.atKey (litW x y) (.lit (.int .i64 0)) = .lit (.int .i64 c)
theorem Tab.made (w : World) : Tab (w.alloc (.map #[] 0)) w.heap.size 0 (fun _ _ => none) :=
  ⟨.map [], World.ownsMap_made w _ _ _, isMap_empty, fun x y _ _ => ⟨rfl, fun c h => by cases h⟩⟩
theorem Tab.lt {w : World} {b n : Nat} {f : Int → Int → Option Int} (h : Tab w b n f) : b < w.heap.size := by obtain ⟨D, h, _⟩ := h; exact h.lt
theorem Tab.keep {w w' : World} {b n : Nat} {f : Int → Int → Option Int} (h : Tab w b n f) (he : w'.heap[b]? = w.heap[b]?) : Tab w' b n f := by
  obtain ⟨D, ⟨es, clock, hb, hr⟩, h2⟩ := h
  exact ⟨D, ⟨es, clock, he.trans hb, hr⟩, h2⟩
theorem put_tab {D : DataW Unit} {f : Int → Int → Option Int} (hD : IsMap D) (hf : ∀ x y, wf64 x → wf64 y → Maps.has D (litW x y) = (f x y).isSome ∧ ∀ c, f x y = some c → D.atKey (litW x y) (.lit (.int .i64 0)) = .lit (.int .i64 c)) (a b c : Int) (ha : wf64 a) (hb : wf64 b) :
    ∀ x y, wf64 x → wf64 y → Maps.has (D.put (litW a b) (.lit (.int .i64 c))) (litW x y) = (if x = a ∧ y = b then some c else f x y).isSome ∧ ∀ c', (if x = a ∧ y = b then some c else f x y) = some c' → (D.put (litW a b) (.lit (.int .i64 c))).atKey (litW x y) (.lit (.int .i64 0)) = .lit (.int .i64 c') := fun x y hx hy => by
  by_cases h : x = a ∧ y = b
  · obtain ⟨rfl, rfl⟩ := h
    rw [if_pos ⟨rfl, rfl⟩]
    refine ⟨by rw [has_put_same hD (by simp [litW, WideAt.IsKeyLit])]; rfl, fun c' hc => ?_⟩
    cases hc
    exact atKey_put_same hD (by simp [litW, WideAt.IsKeyLit]) _ _
  · rw [if_neg h]
    have hne : litW x y ≠ litW a b := fun e => h (litW_inj hx hy ha hb e)
    refine ⟨by rw [has_put_other hne]; exact (hf x y hx hy).1, fun c' hc => ?_⟩
    rw [atKey_put_other hne]
    exact (hf x y hx hy).2 c' hc
theorem below_table {B b : Nat} {w w6 w7 : World} (h : Below B w w6) (g : w6.grownBy w7 (some b)) (hb : B ≤ b) (hB : B ≤ w6.heap.size) : Below B w w7 :=
  ⟨g.os.trans h.os, g.tape.trans h.tape, g.output.trans h.output, Nat.le_trans h.size g.size, fun i hi => (g.block i (by omega) (fun e => by injection e with e; omega)).trans (h.block i hi)⟩
/-- The operations of a history, each with the number of its transaction. -/
def num : List Txn → Nat → List (Nat × Op)
  | [], _ => []
  | t :: r, i => t.Ops.map (fun o => (i, o)) ++ num r (i + 1)
theorem num_take (h : List Txn) : ∀ (i k : Nat) (hk : k < h.length), num (h.take (k + 1)) i = num (h.take k) i ++ h[k].Ops.map (fun o => (i + k, o)) := by
  induction h with
  | nil => intro i k hk; cases hk
  | cons t r ih =>
    intro i k hk
    cases k with
    | zero => simp [num]
    | succ k =>
      have := ih (i + 1) k (by simpa using hk)
      simp only [List.take_succ_cons, num, List.getElem_cons_succ] at this ⊢
      rw [this, List.append_assoc, show i + 1 + k = i + (k + 1) by omega]
def look (l : List (Nat × Op)) (x y : Int) : Option Int := (l.find? fun p => isW x y p.2).map fun p => (p.1 : Int)
def Fresh (l : List (Nat × Op)) : Prop := ∀ i (hi : i < l.length), l[i].2.Kind = 2 → look (l.take i) l[i].2.Key l[i].2.Value = none
theorem Fresh.nil : Fresh [] := fun i hi => absurd hi (by simp)
theorem look_snoc (l : List (Nat × Op)) (p : Nat × Op) (x y : Int) : look (l ++ [p]) x y = (look l x y).or (if isW x y p.2 then some (p.1 : Int) else none) := by
  unfold look
  rw [List.find?_append]
  cases l.find? (fun q => isW x y q.2) with
  | some q => rfl
  | none =>
    simp only [Option.none_or, List.find?_cons, List.find?_nil, Option.map_none]
    split <;> simp_all
theorem Fresh.snoc {l : List (Nat × Op)} {p : Nat × Op} (h : Fresh l) (hp : p.2.Kind = 2 → look l p.2.Key p.2.Value = none) : Fresh (l ++ [p]) := fun i hi hk => by
  rw [List.length_append, List.length_singleton] at hi
  by_cases hil : i < l.length
  · rw [List.getElem_append_left hil] at hk ⊢
    rw [List.take_append_of_le_length (Nat.le_of_lt hil)]
    exact h i hil hk
  · obtain rfl : i = l.length := by omega
    rw [List.getElem_append_right (Nat.le_refl _)] at hk ⊢
    simp only [Nat.sub_self, List.getElem_cons_zero, List.take_left'] at hk ⊢
    exact hp hk
theorem Fresh.not {l r : List (Nat × Op)} {p : Nat × Op} (hp : p.2.Kind = 2) (hl : look l p.2.Key p.2.Value ≠ none) : ¬ Fresh (l ++ p :: r) := fun h => by
  have := h l.length (by simp) (by rw [List.getElem_append_right (Nat.le_refl _)]; simpa using hp)
  rw [List.getElem_append_right (Nat.le_refl _)] at this
  simp only [Nat.sub_self, List.getElem_cons_zero, List.take_left'] at this
  exact hl this
theorem own_keep {w w' : World} {b n : Nat} {D : DataW Unit} (h : w.ownsMap Tryz.prog 139 (plainElem Tryz.prog 3) b n D) (he : w'.heap[b]? = w.heap[b]?) : w'.ownsMap Tryz.prog 139 (plainElem Tryz.prog 3) b n D := by
  obtain ⟨es, clock, hb, hr⟩ := h
  exact ⟨es, clock, he.trans hb, hr⟩
/-- What stands at operation l of transaction k. -/
def pre (h : List Txn) (k l : Nat) (hk : k < h.length) : List (Nat × Op) := num (h.take k) 0 ++ (h[k].Ops.take l).map (fun o => (k, o))
theorem pre_snoc (h : List Txn) (k l : Nat) (hk : k < h.length) (hl : l < h[k].Ops.length) : pre h k (l + 1) hk = pre h k l hk ++ [(k, h[k].Ops[l])] := by
  unfold pre
  rw [List.take_succ_eq_append_getElem hl, List.map_append, List.append_assoc]
  rfl
theorem pre_all (h : List Txn) (k : Nat) (hk : k < h.length) : pre h k h[k].Ops.length hk = num (h.take (k + 1)) 0 := by
  unfold pre
  rw [num_take h 0 k hk, List.take_length, Nat.zero_add]
theorem num_part : ∀ (h : List Txn) (m i : Nat), ∃ r, num h i = num (h.take m) i ++ r
  | [], m, i => ⟨[], by simp [num]⟩
  | t :: r, 0, i => ⟨num (t :: r) i, by simp [num]⟩
  | t :: r, m + 1, i => by
    obtain ⟨q, hq⟩ := num_part r m (i + 1)
    exact ⟨q, by simp only [num, List.take_succ_cons, List.append_assoc]; rw [hq]⟩
theorem num_split (h : List Txn) (k l : Nat) (hk : k < h.length) (hl : l < h[k].Ops.length) : ∃ r, num h 0 = pre h k l hk ++ (k, h[k].Ops[l]) :: r := by
  obtain ⟨r, hr⟩ := num_part h (k + 1) 0
  refine ⟨(h[k].Ops.drop (l + 1)).map (fun o => (k, o)) ++ r, ?_⟩
  rw [hr, num_take h 0 k hk, Nat.zero_add]
  unfold pre
  rw [List.append_assoc, List.append_assoc]
  congr 1
  rw [← List.cons_append, ← List.append_assoc]
  congr 1
  generalize hM : h[k].Ops.map (fun o => (k, o)) = M
  have hlM : l < M.length := by rw [← hM]; simpa using hl
  have e1 : (h[k].Ops.take l).map (fun o => (k, o)) = M.take l := by rw [← hM, List.map_take]
  have e2 : (h[k].Ops.drop (l + 1)).map (fun o => (k, o)) = M.drop (l + 1) := by rw [← hM, List.map_drop]
  have e3 : (k, h[k].Ops[l]) = M[l] := by subst hM; simp
  rw [e1, e2, e3, ← List.drop_eq_getElem_cons hlM, List.take_append_drop]
theorem look_put {l : List (Nat × Op)} {k : Nat} {o : Op} (h2 : o.Kind = 2) (hn : look l o.Key o.Value = none) (x y : Int) : look (l ++ [(k, o)]) x y = if x = o.Key ∧ y = o.Value then some (k : Int) else look l x y := by
  rw [look_snoc]
  by_cases h : x = o.Key ∧ y = o.Value
  · obtain ⟨rfl, rfl⟩ := h
    simp [hn, isW, h2]
  · have hw : isW x y o = false := by
      cases hq : isW x y o with
      | false => rfl
      | true =>
        simp only [isW, Bool.and_eq_true, beq_iff_eq] at hq
        exact absurd ⟨hq.1.2.symm, hq.2.symm⟩ h
    rw [if_neg h, hw]
    simp
theorem look_skip {l : List (Nat × Op)} {k : Nat} {o : Op} (h2 : o.Kind ≠ 2) {x y : Int} : look (l ++ [(k, o)]) x y = look l x y := by
  rw [look_snoc, if_neg (by simp [isW, h2])]
  simp

set_option maxRecDepth 10000 in
set_option maxHeartbeats 4000000 in
theorem writers_any (xs : List Txn) (A : Option Addr) (c : Nat) (w : World) (hm : xs.length ≤ 6) (hA : Row tTxn w (Old w) A xs) (hv : ∀ t ∈ xs, txnOk t = true) :
    Calls Tryz.prog 109 #[.slice A xs.length c] w fun e w' => ((∃ b n, e = .returned (.tuple #[.map (some b), .bool true]) ∧ Fresh (num xs 0) ∧ w.heap.size ≤ b ∧ Tab w' b n (look (num xs 0))) ∨ (e = .returned (.tuple #[.map none, .bool false]) ∧ ¬ Fresh (num xs 0))) ∧ Below w.heap.size w w' := by
  have HA := hide hA
  have HV := hide hv
  have hmm := @run_makeMap Tryz.prog
  have hq : xs.length ≤ 9223372036854775807 := by omega
  clear hA hv
  go_enter Tryz.func109, Tryz.ntmps109
  go_wp2
  go_loopw [15] (fun i wr => ∃ k n : Nat, k ≤ xs.length ∧ i = .int .i64 k ∧ n ≤ 6 * k ∧ Hid (Fresh (num (xs.take k) 0)) ∧ Hid (Tab wr w.heap.size n (look (num (xs.take k) 0))) ∧ Below w.heap.size w wr) (fun i _ => xs.length - (intOf i).toNat)
  case atStart => exact ⟨0, 0, Nat.zero_le _, rfl, Nat.le_refl _, Fresh.nil, Tab.made w, (Below.refl _ w).alloc (Nat.le_refl _) _⟩
  case round =>
    obtain ⟨k, n, hk, rfl, hn, hF, hT, hb⟩ := hrel
    by_cases hlt : k < xs.length
    · obtain ⟨b, off, A2, c2, rfl, hbS, c0, c1, c3, hi1, hi2, hi3⟩ := at_Txn HA.out (Below.refl _ w) hlt
      have d0 := (hb.cell (p := ⟨b, off + k * 3, none⟩) hbS).trans c0
      have d1 := (hb.cell (p := ⟨b, off + k * 3 + 1, none⟩) hbS).trans c1
      have d2 := (hb.cell (p := ⟨b, off + k * 3 + 2, none⟩) hbS).trans c3
      have HR := hide hi3
      have hv := HV.out xs[k] (List.getElem_mem hlt)
      have hv2 := hv
      unfold txnOk at hv2
      simp only [Bool.and_eq_true, decide_eq_true_eq] at hv2
      have h6 := hv2.2.2
      have HOk := hide (fun o (ho : o ∈ xs[k].Ops) => List.all_eq_true.1 hv2.1 o ho)
      have hq2 : xs[k].Ops.length ≤ 9223372036854775807 := by omega
      clear c0 c1 c3 hi3 hi2 hv hv2
      have HB := hide hb
      go_wp2
      go_loopw [23] (fun j wr => ∃ l n2 : Nat, l ≤ xs[k].Ops.length ∧ j = .int .i64 l ∧ n2 ≤ 6 * k + l ∧ Hid (Fresh (pre xs k l hlt)) ∧ Hid (Tab wr w.heap.size n2 (look (pre xs k l hlt))) ∧ Below w.heap.size w wr) (fun j _ => xs[k].Ops.length - (intOf j).toNat)
      case atStart =>
        have hp : pre xs k 0 hlt = num (xs.take k) 0 := by unfold pre; simp
        exact ⟨0, n, Nat.zero_le _, rfl, by omega, by rw [hp]; exact hF, by rw [hp]; exact hT.out.keep (Below.heap_alloc _ _ _ hT.out.lt), HB.out.alloc HB.out.size _⟩
      case round =>
        obtain ⟨l, n2, hl, rfl, hn2, hF2, hT2, hb2⟩ := hrel
        clear hF hT hb d0 d1 d2
        by_cases hlt2 : l < xs[k].Ops.length
        · obtain ⟨b2, off2, rfl, hbS2, d0, d1, d2⟩ := at_Op HR.out hb2 hlt2
          have hok := HOk.out _ (List.getElem_mem hlt2)
          simp only [opOk, inR, Bool.and_eq_true, decide_eq_true_eq] at hok
          have hwk : (Lit.int .i64 xs[k].Ops[l].Key).wf = true := wf64_small hok.1.1.2.1 (by omega)
          have hwv : (Lit.int .i64 xs[k].Ops[l].Value).wf = true := wf64_small hok.1.2.1 (by omega)
          have hwn : (Lit.int .i64 (k : Int)).wf = true := wf64_small (by omega) (by omega)
          obtain ⟨D, hown, hD, hf⟩ := hT2.out
          have hff := hf _ _ hwk hwv
          have HOwn3 := hide ((hown.alloc (.cells #[.int .i64 xs[k].Ops[l].Kind, .int .i64 xs[k].Ops[l].Key, .int .i64 xs[k].Ops[l].Value] 82)).alloc (.cells #[.int .i64 xs[k].Ops[l].Key, .int .i64 xs[k].Ops[l].Value] 139))
          have HPf := hide (put_tab hD hf xs[k].Ops[l].Key xs[k].Ops[l].Value k hwk hwv)
          have HDf := hide (show IsMap D ∧ ∀ x y, wf64 x → wf64 y → Maps.has D (litW x y) = (look (pre xs k l hlt) x y).isSome ∧ ∀ c, look (pre xs k l hlt) x y = some c → D.atKey (litW x y) (.lit (.int .i64 0)) = .lit (.int .i64 c) from ⟨hD, hf⟩)
          have HB3 := hide (((hb2.alloc hb2.size (.cells #[.int .i64 xs[k].Ops[l].Kind, .int .i64 xs[k].Ops[l].Key, .int .i64 xs[k].Ops[l].Value] 82)).alloc (Nat.le_trans hb2.size (by simp)) (.cells #[.int .i64 xs[k].Ops[l].Key, .int .i64 xs[k].Ops[l].Value] 139)))
          have HS := hide (pre_snoc xs k l hlt hlt2)
          have HLk := hide (look_snoc (pre xs k l hlt) (k, xs[k].Ops[l]))
          clear hok hown hD hf
          cases hl2 : look (pre xs k l hlt) xs[k].Ops[l].Key xs[k].Ops[l].Value with
          | none =>
            have HH := hide (show Maps.has D (litW xs[k].Ops[l].Key xs[k].Ops[l].Value) = false by rw [hff.1, hl2]; rfl)
            have HL2 := hide hl2
            clear hff hl2
            cases hkd : (xs[k].Ops[l].Kind == 2) with
            | false =>
              have HKd := hide hkd
              clear hkd
              go_wp2_with (first | (at_lookup; refine wpList_lookup_own_ok_int _ rfl (.tmp 33) (.tmp 34) 123 rfl 139 3 .i64 keyedW Tryz.underlying123 Tryz.underlying3 (zeroIntW _) w.heap.size n2 D rfl HOwn3.out _ _ rfl (keyW _ _ hwk hwv) ?_; intro c9 hat hwc; rw [HH.out]) | (go_at_call 113; refine (writes_any xs[k].Ops[l] _).mono ?_; rintro e w6 ⟨rfl, hb6⟩; rw [HKd.out]; have HB6 := hide (HB5.out.trans (hb6.mono HB5.out.size)); have HOwn6 := hide (own_keep HOwn5.out (hb6.block _ HOwn5.out.lt)); obtain ⟨hc6, hf6⟩ := bcell hb6; have hz6 : wr.heap.size < w6.heap.size := Nat.lt_of_lt_of_le hz5 hb6.size; clear hb6) | (go_at_call 113; refine (writes_any xs[k].Ops[l] _).mono ?_; rintro e w5 ⟨rfl, hb5⟩; rw [HKd.out]; have HB5 := hide hb5; have HOwn5 := hide (own_keep HOwn3.out (hb5.block _ HOwn3.out.lt)); obtain ⟨hc5, hf5⟩ := bcell hb5; have hz5 : wr.heap.size < w5.heap.size := (by have := hb5.size; simp at this; omega); have hy5 : wr.heap.size + 1 < w5.heap.size := (by have := hb5.size; simp at this; omega); clear hb5))
              go_roundw
              case rel => exact ⟨l + 1, n2, by omega, by go_num, by omega, by rw [HS.out]; exact hF2.out.snoc (fun h => absurd (show (xs[k].Ops[l].Kind == 2) = true by rw [h]; rfl) (by rw [HKd.out]; decide)), ⟨D, HOwn6.out, HDf.out.1, fun x y hx hy => by rw [HS.out, look_skip (by intro h; have h' := HKd.out; rw [h] at h'; cases h')]; exact HDf.out.2 x y hx hy⟩, HB3.out.trans (HB6.out.mono HB3.out.size)⟩
              case measure => simp [intOf]; omega
            | true =>
              have HKd := hide hkd
              clear hkd
              go_wp2_with (first | (at_lookup; refine wpList_lookup_own_ok_int _ rfl (.tmp 33) (.tmp 34) 123 rfl 139 3 .i64 keyedW Tryz.underlying123 Tryz.underlying3 (zeroIntW _) w.heap.size n2 D rfl HOwn3.out _ _ rfl (keyW _ _ hwk hwv) ?_; intro c9 hat hwc; rw [HH.out]) | (go_at_call 113; refine (writes_any xs[k].Ops[l] _).mono ?_; rintro e w6 ⟨rfl, hb6⟩; rw [HKd.out]; have HB6 := hide (HB5.out.trans (hb6.mono HB5.out.size)); have HOwn6 := hide (own_keep HOwn5.out (hb6.block _ HOwn5.out.lt)); obtain ⟨hc6, hf6⟩ := bcell hb6; have hz6 : wr.heap.size < w6.heap.size := Nat.lt_of_lt_of_le hz5 hb6.size; clear hb6) | (go_at_call 113; refine (writes_any xs[k].Ops[l] _).mono ?_; rintro e w5 ⟨rfl, hb5⟩; rw [HKd.out]; have HB5 := hide hb5; have HOwn5 := hide (own_keep HOwn3.out (hb5.block _ HOwn3.out.lt)); obtain ⟨hc5, hf5⟩ := bcell hb5; have hz5 : wr.heap.size < w5.heap.size := (by have := hb5.size; simp at this; omega); have hy5 : wr.heap.size + 1 < w5.heap.size := (by have := hb5.size; simp at this; omega); clear hb5) | (at_mapUpdate; refine wpList_mapUpdate_own _ rfl (.tmp 45) (.tmp 46) (.tmp 47) 123 rfl 139 3 keyedW Tryz.underlying123 _ w.heap.size n2 D rfl HOwn6.out (by unfold maxLen; omega) _ _ (litW xs[k].Ops[l].Key xs[k].Ops[l].Value) rfl rfl (keyW _ _ hwk hwv) _ [] (plainElem_int Tryz.underlying3 hwn) ?_; intro w7 hown7 hgrow7; have HOwn7 := hide hown7; have HB7 := hide (below_table (HB3.out.trans (HB6.out.mono HB3.out.size)) hgrow7 (Nat.le_refl _) (Nat.le_trans HB3.out.size HB6.out.size)); clear hown7 hgrow7))
              go_roundw
              case rel => exact ⟨l + 1, n2 + 1, by omega, by go_num, by omega, by rw [HS.out]; exact hF2.out.snoc (fun _ => HL2.out), ⟨_, HOwn7.out, HDf.out.1.put _ _, fun x y hx hy => by rw [HS.out, look_put (by simpa using HKd.out) HL2.out]; exact HPf.out x y hx hy⟩, HB7.out⟩
              case measure => simp [intOf]; omega
          | some c8 =>
            have HH := hide (show Maps.has D (litW xs[k].Ops[l].Key xs[k].Ops[l].Value) = true by rw [hff.1, hl2]; rfl)
            have HL2 := hide hl2
            clear hff hl2
            cases hkd : (xs[k].Ops[l].Kind == 2) with
            | false =>
              have HKd := hide hkd
              clear hkd
              go_wp2_with (first | (at_lookup; refine wpList_lookup_own_ok_int _ rfl (.tmp 33) (.tmp 34) 123 rfl 139 3 .i64 keyedW Tryz.underlying123 Tryz.underlying3 (zeroIntW _) w.heap.size n2 D rfl HOwn3.out _ _ rfl (keyW _ _ hwk hwv) ?_; intro c9 hat hwc; rw [HH.out]) | (go_at_call 113; refine (writes_any xs[k].Ops[l] _).mono ?_; rintro e w6 ⟨rfl, hb6⟩; rw [HKd.out]; have HB6 := hide (HB5.out.trans (hb6.mono HB5.out.size)); have HOwn6 := hide (own_keep HOwn5.out (hb6.block _ HOwn5.out.lt)); obtain ⟨hc6, hf6⟩ := bcell hb6; have hz6 : wr.heap.size < w6.heap.size := Nat.lt_of_lt_of_le hz5 hb6.size; clear hb6) | (go_at_call 113; refine (writes_any xs[k].Ops[l] _).mono ?_; rintro e w5 ⟨rfl, hb5⟩; rw [HKd.out]; have HB5 := hide hb5; have HOwn5 := hide (own_keep HOwn3.out (hb5.block _ HOwn3.out.lt)); obtain ⟨hc5, hf5⟩ := bcell hb5; have hz5 : wr.heap.size < w5.heap.size := (by have := hb5.size; simp at this; omega); have hy5 : wr.heap.size + 1 < w5.heap.size := (by have := hb5.size; simp at this; omega); clear hb5))
              go_roundw
              case rel => exact ⟨l + 1, n2, by omega, by go_num, by omega, by rw [HS.out]; exact hF2.out.snoc (fun h => absurd (show (xs[k].Ops[l].Kind == 2) = true by rw [h]; rfl) (by rw [HKd.out]; decide)), ⟨D, HOwn6.out, HDf.out.1, fun x y hx hy => by rw [HS.out, look_skip (by intro h; have h' := HKd.out; rw [h] at h'; cases h')]; exact HDf.out.2 x y hx hy⟩, HB3.out.trans (HB6.out.mono HB3.out.size)⟩
              case measure => simp [intOf]; omega
            | true =>
              have HKd := hide hkd
              clear hkd
              have HNF := hide (show ¬ Fresh (num xs 0) by
                obtain ⟨r, hr⟩ := num_split xs k l hlt hlt2
                rw [hr]
                exact Fresh.not (by simpa using HKd.out) (by rw [HL2.out]; simp))
              go_wp2_with (first | (at_lookup; refine wpList_lookup_own_ok_int _ rfl (.tmp 33) (.tmp 34) 123 rfl 139 3 .i64 keyedW Tryz.underlying123 Tryz.underlying3 (zeroIntW _) w.heap.size n2 D rfl HOwn3.out _ _ rfl (keyW _ _ hwk hwv) ?_; intro c9 hat hwc; rw [HH.out]) | (go_at_call 113; refine (writes_any xs[k].Ops[l] _).mono ?_; rintro e w6 ⟨rfl, hb6⟩; rw [HKd.out]; have HB6 := hide (HB5.out.trans (hb6.mono HB5.out.size)); have HOwn6 := hide (own_keep HOwn5.out (hb6.block _ HOwn5.out.lt)); obtain ⟨hc6, hf6⟩ := bcell hb6; have hz6 : wr.heap.size < w6.heap.size := Nat.lt_of_lt_of_le hz5 hb6.size; clear hb6) | (go_at_call 113; refine (writes_any xs[k].Ops[l] _).mono ?_; rintro e w5 ⟨rfl, hb5⟩; rw [HKd.out]; have HB5 := hide hb5; have HOwn5 := hide (own_keep HOwn3.out (hb5.block _ HOwn3.out.lt)); obtain ⟨hc5, hf5⟩ := bcell hb5; have hz5 : wr.heap.size < w5.heap.size := (by have := hb5.size; simp at this; omega); have hy5 : wr.heap.size + 1 < w5.heap.size := (by have := hb5.size; simp at this; omega); clear hb5))
              go_ret2
              exact ⟨.inr ⟨rfl, HNF.out⟩, HB3.out.trans (HB5.out.mono HB3.out.size)⟩
        · obtain rfl : l = xs[k].Ops.length := by omega
          have HP := hide (pre_all xs k hlt)
          go_wp2
          go_roundw
          case rel => exact ⟨k + 1, n2, by omega, by go_num, by omega, by rw [← HP.out]; exact hF2.out, by rw [← HP.out]; exact hT2.out, hb2⟩
          case measure => simp [intOf]; omega
    · obtain rfl : k = xs.length := by omega
      have HE := hide (show num (xs.take xs.length) 0 = num xs 0 by rw [List.take_length])
      rw [HE.out] at hF hT
      clear HE HA HV
      go_wp2
      go_ret2
      exact ⟨.inl ⟨_, n, rfl, hF.out, Nat.le_refl _, hT.out⟩, hb⟩
end Go.Proofs.YtjiobgfaohldhaaGreat
namespace Go.Proofs.YtjiobgfaohldhaaGreat
open Go.RowKit Go.Maps
set_option linter.unusedVariables false
set_option linter.unusedSimpArgs false

theorem num_count (p : Op → Bool) : ∀ (h : List Txn) (i : Nat), (num h i).countP (fun q => p q.2) = tot (fun x : Txn => x.Ops.countP p) h
  | [], i => rfl
  | t :: r, i => by
    have h1 := num_count p r (i + 1)
    simp only [num, List.countP_append, List.countP_map, h1, tot, List.map_cons, List.sum_cons]
    rfl
theorem num_mem {h : List Txn} : ∀ {i : Nat} {q : Nat × Op}, q ∈ num h i → ∃ t ∈ h, q.2 ∈ t.Ops := by
  induction h with
  | nil => intro i q hq; cases hq
  | cons t r ih =>
    intro i q hq
    rcases List.mem_append.1 hq with hq | hq
    · obtain ⟨o, ho, rfl⟩ := List.mem_map.1 hq
      exact ⟨t, List.mem_cons_self, ho⟩
    · obtain ⟨t', ht, ho⟩ := ih hq
      exact ⟨t', List.mem_cons_of_mem _ ht, ho⟩
theorem mem_num {h : List Txn} : ∀ {i : Nat} {t : Txn} {o : Op}, t ∈ h → o ∈ t.Ops → ∃ n, (n, o) ∈ num h i := by
  induction h with
  | nil => intro i t o ht; cases ht
  | cons t0 r ih =>
    intro i t o ht ho
    rcases List.mem_cons.1 ht with rfl | ht
    · exact ⟨i, List.mem_append_left _ (List.mem_map.2 ⟨o, ho, rfl⟩)⟩
    · obtain ⟨n, hn⟩ := ih (i := i + 1) ht ho
      exact ⟨n, List.mem_append_right _ hn⟩
theorem look_none {l : List (Nat × Op)} {x y : Int} : look l x y = none ↔ l.countP (fun q => isW x y q.2) = 0 := by
  unfold look
  rw [Option.map_eq_none_iff, List.find?_eq_none, List.countP_eq_zero]
theorem fresh_iff (l : List (Nat × Op)) : Fresh l ↔ ∀ q ∈ l, q.2.Kind = 2 → l.countP (fun r => isW q.2.Key q.2.Value r.2) ≤ 1 := by
  constructor
  · intro hF q hq hk
    have hc : ∀ i, i ≤ l.length → (l.take i).countP (fun r => isW q.2.Key q.2.Value r.2) ≤ 1 := by
      intro i
      induction i with
      | zero => intro _; simp
      | succ i ih =>
        intro hi
        rw [countP_take _ _ _ (by omega)]
        have h1 := ih (by omega)
        split
        · rename_i hw
          have hw2 := hw
          simp only [isW, Bool.and_eq_true, beq_iff_eq] at hw2
          have h2 := hF i (by omega) hw2.1.1
          rw [hw2.1.2, hw2.2, look_none] at h2
          omega
        · omega
    have := hc l.length (Nat.le_refl _)
    rwa [List.take_length] at this
  · intro h i hi hk
    have h1 := h l[i] (List.getElem_mem hi) hk
    rw [look_none]
    have h2 := countP_take (fun r : Nat × Op => isW l[i].2.Key l[i].2.Value r.2) l i hi
    rw [if_pos (by simp [isW, hk])] at h2
    have h3 := (List.take_sublist (i + 1) l).countP_le (p := fun r : Nat × Op => isW l[i].2.Key l[i].2.Value r.2)
    omega
theorem fresh_hist {xs : List Txn} (hl : xs.length ≤ 6) (hv : ∀ t ∈ xs, txnOk t = true) : Fresh (num xs 0) ↔ histV xs = true := by
  rw [fresh_iff]
  unfold histV
  simp only [Bool.and_eq_true, List.all_eq_true, decide_eq_true_eq, hl, and_true]
  constructor
  · intro h t ht
    unfold txnFine
    rw [hv t ht, Bool.true_and, List.all_eq_true]
    intro o ho
    obtain ⟨n, hn⟩ := mem_num (i := 0) ht ho
    have h1 : o.Kind = 2 → (num xs 0).countP (fun r => isW o.Key o.Value r.2) ≤ 1 := h _ hn
    unfold opFine
    by_cases hk : o.Kind = 2
    · have h2 := h1 hk
      rw [num_count] at h2
      have h3 : ¬ 1 < writesN xs o.Key o.Value := by unfold writesN; omega
      simp [h3]
    · simp [hk]
  · intro h q hq hk
    obtain ⟨t, ht, ho⟩ := num_mem hq
    have h1 := h t ht
    unfold txnFine at h1
    rw [Bool.and_eq_true, List.all_eq_true] at h1
    have h2 := h1.2 _ ho
    unfold opFine at h2
    rw [num_count]
    simp only [hk, beq_self_eq_true, Bool.true_and, Bool.not_eq_true', decide_eq_false_iff_not] at h2
    unfold writesN at h2
    omega
set_option maxRecDepth 10000 in
set_option maxHeartbeats 1000000 in
theorem implHistoryValid (xs : List Txn) (A : Option Addr) (c : Nat) (w : World) (hm : xs.length ≤ maxLen) (hA : Row tTxn w (Old w) A xs) :
    Calls Tryz.prog 66 #[.slice A xs.length c] w fun e w' => e = .returned (.bool (histV xs)) ∧ Below w.heap.size w w' := by
  by_cases h6 : xs.length ≤ 6
  · have hcont := hide (cont_Txn xs A c w 107 #[] (fun x => !txnOk x) (enters_of Tryz.func107 (by kernel_rfl) rfl) hm hA
      (fun x _ cs hr W hW => by
        obtain ⟨v, rfl, A2, c2, rfl, h1, h2, h3⟩ := hr
        exact (txnLit x A2 c2 W (Nat.le_trans h1 h2) (h3.old hW)).mono (by rintro e w' ⟨rfl, hb⟩; exact ⟨rfl, hW.trans (hb.mono hW.size)⟩)))
    have hm' : xs.length ≤ 9223372036854775807 := by omega
    cases hq : xs.any (fun x => !txnOk x) with
    | true =>
      have HR := hide (show histV xs = false by
        obtain ⟨t, ht, h1⟩ := List.any_eq_true.1 hq
        cases hv : histV xs with
        | false => rfl
        | true =>
          unfold histV at hv
          simp only [Bool.and_eq_true, List.all_eq_true] at hv
          have h2 := hv.1 t ht
          unfold txnFine at h2
          rw [Bool.and_eq_true] at h2
          rw [h2.1] at h1
          cases h1)
      rw [hq] at hcont
      clear hA hq hm
      go_enter Tryz.func66, Tryz.ntmps66
      go_wp2_with (go_at_call 106; refine hcont.out.mono ?_; rintro e w' ⟨rfl, hb'⟩)
      go_ret
      exact ⟨ret_bool HR.out.symm, hb'⟩
    | false =>
      have hv : ∀ t ∈ xs, txnOk t = true := fun t ht => by
        have := List.any_eq_false.1 hq t ht
        simpa using this
      have HF := hide (fresh_hist h6 hv)
      have HW := hide (fun W (hb : Below w.heap.size w W) => writers_any xs A c W h6 (hA.old hb) hv)
      rw [hq] at hcont
      clear hA hq hv hm
      go_enter Tryz.func66, Tryz.ntmps66
      go_wp2_with (go_at_call 106; refine hcont.out.mono ?_; rintro e w' ⟨rfl, hb'⟩; have HB := hide hb'; clear hb')
      refine (HW.out _ HB.out).mono ?_
      rintro e w2 ⟨h, hb2⟩
      have HB2 := hide (HB.out.trans (hb2.mono HB.out.size))
      clear hb2
      rcases h with ⟨b, n, rfl, hF, _, _⟩ | ⟨rfl, hF⟩
      · have HR := hide (show histV xs = true from HF.out.1 hF)
        clear hF
        go_wp2_with fail
        go_ret
        exact ⟨ret_bool HR.out.symm, HB2.out⟩
      · have HR := hide (show histV xs = false by cases hv : histV xs with | false => rfl | true => exact absurd (HF.out.2 hv) hF)
        clear hF
        go_wp2_with fail
        go_ret
        exact ⟨ret_bool HR.out.symm, HB2.out⟩
  · have HR := hide (show histV xs = false by unfold histV; simp [h6])
    have h6' : (6 : Int) < (xs.length : Int) := by omega
    clear hA
    unfold maxLen at hm
    go_enter Tryz.func66, Tryz.ntmps66
    go_wp2
    go_ret
    exact ⟨ret_bool HR.out.symm, Below.refl _ _⟩
/-- The numbers of the committed ones of the first k transactions. -/
def doneI (h : List Txn) : Nat → List Int
  | 0 => []
  | k + 1 => doneI h k ++ (if (h[k]?.map Txn.Done).getD false then [(k : Int)] else [])
def doneL (h : List Txn) : List Int := doneI h h.length
theorem doneI_succ (h : List Txn) (k : Nat) (hk : k < h.length) : doneI h (k + 1) = doneI h k ++ (if h[k].Done then [(k : Int)] else []) := by
  rw [doneI, List.getElem?_eq_getElem hk]; rfl
theorem doneI_len (h : List Txn) : ∀ k, (doneI h k).length ≤ k
  | 0 => Nat.le_refl _
  | k + 1 => by
    have := doneI_len h k
    rw [doneI, List.length_append]
    split <;> simp <;> omega
theorem doneI_mem (h : List Txn) : ∀ k x, x ∈ doneI h k → 0 ≤ x ∧ x < k
  | 0, x, hx => by cases hx
  | k + 1, x, hx => by
    rw [doneI, List.mem_append] at hx
    rcases hx with hx | hx
    · have := doneI_mem h k x hx; omega
    · split at hx
      · simp at hx; omega
      · cases hx
theorem doneI_nodup (h : List Txn) : ∀ k, (doneI h k).Nodup
  | 0 => List.nodup_nil
  | k + 1 => by
    rw [doneI, List.nodup_append]
    refine ⟨doneI_nodup h k, by split <;> simp, fun a ha b hb e => ?_⟩
    subst e
    have := doneI_mem h k a ha
    split at hb
    · simp at hb; omega
    · cases hb
theorem doneI_done (h : List Txn) : ∀ k x, x ∈ doneI h k → (h[x.toNat]?.map Txn.Done).getD false = true
  | 0, x, hx => by cases hx
  | k + 1, x, hx => by
    rw [doneI, List.mem_append] at hx
    rcases hx with hx | hx
    · exact doneI_done h k x hx
    · split at hx
      · rename_i hd
        simp at hx
        subst hx
        simpa using hd
      · cases hx
theorem mem_doneI (h : List Txn) : ∀ k (x : Nat), x < k → (h[x]?.map Txn.Done).getD false = true → (x : Int) ∈ doneI h k
  | 0, x, hx, _ => absurd hx (by omega)
  | k + 1, x, hx, hd => by
    rw [doneI, List.mem_append]
    rcases Nat.lt_succ_iff_lt_or_eq.1 hx with h1 | rfl
    · exact .inl (mem_doneI h k x h1 hd)
    · exact .inr (by rw [if_pos hd]; simp)
/-- The last operation on a key among operations. -/
def lastOn (ops : List Op) (key : Int) : Option Op := ops.reverse.find? fun o => o.Key == key
/-- The value of the last operation on a key, or -1. -/
def beforeV (ops : List Op) (key : Int) : Int := ((lastOn ops key).map Op.Value).getD (-1)
/-- The last write to a key. -/
def lastW (ops : List Op) (key : Int) : Option Op := ops.reverse.find? fun o => o.Kind == 2 && o.Key == key
def lastWs (ops : List Op) : List Op := (lastW ops 0).toList ++ (lastW ops 1).toList ++ (lastW ops 2).toList
/-- The reads of keys that were not touched before, among the first k operations. -/
def firstRs (ops : List Op) : Nat → List Op
  | 0 => []
  | k + 1 => firstRs ops k ++ (match ops[k]? with | some o => if o.Kind == 1 && (lastOn (ops.take k) o.Key).isNone then [o] else [] | none => [])
def firstR (ops : List Op) : List Op := firstRs ops ops.length
theorem firstRs_succ (ops : List Op) (k : Nat) (hk : k < ops.length) : firstRs ops (k + 1) = firstRs ops k ++ (if ops[k].Kind == 1 && (lastOn (ops.take k) ops[k].Key).isNone then [ops[k]] else []) := by
  rw [firstRs, List.getElem?_eq_getElem hk]
theorem firstRs_len (ops : List Op) : ∀ k, (firstRs ops k).length ≤ k
  | 0 => Nat.le_refl _
  | k + 1 => by
    have := firstRs_len ops k
    rw [firstRs, List.length_append]
    split
    · split <;> simp <;> omega
    · simp; omega
theorem lastOn_snoc (ops : List Op) (k : Nat) (hk : k < ops.length) (key : Int) : lastOn (ops.take (k + 1)) key = if ops[k].Key == key then some ops[k] else lastOn (ops.take k) key := by
  unfold lastOn
  rw [List.take_succ_eq_append_getElem hk, List.reverse_append]
  simp only [List.reverse_cons, List.reverse_nil, List.nil_append, List.singleton_append, List.find?_cons]
  cases ops[k].Key == key <;> rfl
theorem lastW_snoc (ops : List Op) (k : Nat) (hk : k < ops.length) (key : Int) : lastW (ops.take (k + 1)) key = if ops[k].Kind == 2 && ops[k].Key == key then some ops[k] else lastW (ops.take k) key := by
  unfold lastW
  rw [List.take_succ_eq_append_getElem hk, List.reverse_append]
  simp only [List.reverse_cons, List.reverse_nil, List.nil_append, List.singleton_append, List.find?_cons]
  cases ops[k].Kind == 2 && ops[k].Key == key <;> rfl
theorem lastW_some {ops : List Op} {key : Int} {o : Op} (h : lastW ops key = some o) : o ∈ ops ∧ o.Kind = 2 ∧ o.Key = key := by
  unfold lastW at h
  have h1 := List.mem_of_find?_eq_some h
  have h2 := List.find?_some h
  simp only [Bool.and_eq_true, beq_iff_eq] at h2
  exact ⟨List.mem_reverse.1 h1, h2⟩
theorem lastOn_some {ops : List Op} {key : Int} {o : Op} (h : lastOn ops key = some o) : o ∈ ops ∧ o.Key = key := by
  unfold lastOn at h
  have h1 := List.mem_of_find?_eq_some h
  have h2 := List.find?_some h
  simp only [beq_iff_eq] at h2
  exact ⟨List.mem_reverse.1 h1, h2⟩
/-- What keys hold. -/
abbrev St := Int → Int
def St.put (s : St) (key value : Int) : St := fun k => if k = key then value else s k
/-- The operations run: each read has the value that its key holds. -/
def runOps : St → List Op → Option St
  | s, [] => some s
  | s, o :: r => if o.Kind == 1 && s o.Key != o.Value then none else runOps (s.put o.Key o.Value) r
/-- The transactions run one after the other. -/
def runTx (h : List Txn) : St → List Int → Option St
  | s, [] => some s
  | s, n :: r => match runOps s ((h[n.toNat]?.map Txn.Ops).getD []) with
    | some s' => runTx h s' r
    | none => none
theorem runTx_append (h : List Txn) (b : List Int) : ∀ (a : List Int) (s : St), runTx h s (a ++ b) = (runTx h s a).bind fun s' => runTx h s' b
  | [], s => rfl
  | n :: r, s => by
    simp only [List.cons_append, runTx]
    cases runOps s ((h[n.toNat]?.map Txn.Ops).getD []) with
    | none => rfl
    | some s' => exact runTx_append h b r s'
def St0 : St := fun _ => 0
def runsOK (h : List Txn) (order : List Int) : Bool := (runTx h St0 order).isSome
theorem runsOK_prefix (h : List Txn) (a b : List Int) (hab : runsOK h (a ++ b) = true) : runsOK h a = true := by
  unfold runsOK at hab ⊢
  rw [runTx_append] at hab
  cases hr : runTx h St0 a with
  | none => rw [hr] at hab; cases hab
  | some s => rfl
theorem histV_parts {h : List Txn} (hv : histV h = true) : h.length ≤ 6 ∧ ∀ t ∈ h, txnOk t = true := by
  unfold histV at hv
  simp only [Bool.and_eq_true, List.all_eq_true, decide_eq_true_eq] at hv
  refine ⟨hv.2, fun t ht => ?_⟩
  have := hv.1 t ht
  unfold txnFine at this
  rw [Bool.and_eq_true] at this
  exact this.1
theorem txnOk_parts {t : Txn} (h : txnOk t = true) : (∀ o ∈ t.Ops, opOk o = true) ∧ t.Ops.length ≤ 6 := by
  unfold txnOk at h
  simp only [Bool.and_eq_true, List.all_eq_true, decide_eq_true_eq] at h
  exact ⟨h.1, h.2.2⟩
theorem opOk_parts {o : Op} (h : opOk o = true) : (o.Kind = 1 ∨ o.Kind = 2) ∧ (o.Key = 0 ∨ o.Key = 1 ∨ o.Key = 2) ∧ 0 ≤ o.Value ∧ o.Value ≤ 99 ∧ (o.Kind = 2 → o.Value ≠ 0) := by
  simp only [opOk, inR, Bool.and_eq_true, Bool.or_eq_true, beq_iff_eq, decide_eq_true_eq, Bool.not_eq_true', Bool.and_eq_false_iff, beq_eq_false_iff_ne] at h
  omega
end Go.Proofs.YtjiobgfaohldhaaGreat
namespace Go.Proofs.YtjiobgfaohldhaaGreat
open Go.RowKit
set_option linter.unusedVariables false
set_option linter.unusedSimpArgs false

def opsOf (h : List Txn) (n : Int) : List Op := (h[n.toNat]?.map Txn.Ops).getD []
def dneOf (h : List Txn) (n : Int) : Bool := decide (0 ≤ n) && decide (n < (h.length : Int)) && (h[n.toNat]?.map Txn.Done).getD false
/-! ### The reference's way -/
/-! ### The first right schedule -/
theorem firstRs_at (ops : List Op) : ∀ n, n ≤ ops.length → ∀ o ∈ firstRs ops n, ∃ k, ∃ hk : k < ops.length, o = ops[k] ∧ ops[k].Kind = 1 ∧ lastOn (ops.take k) ops[k].Key = none
  | 0, _, o, ho => by cases ho
  | n + 1, hn, o, ho => by
    rw [firstRs_succ ops n hn, List.mem_append] at ho
    rcases ho with ho | ho
    · exact firstRs_at ops n (by omega) o ho
    · split at ho
      · rename_i hc
        rw [Bool.and_eq_true, beq_iff_eq, Option.isNone_iff_eq_none] at hc
        exact ⟨n, hn, List.mem_singleton.1 ho, hc⟩
      · cases ho
/-- The values that an order installs for a key. -/
def insK (h : List Txn) (key : Int) (ord : List Int) : List Int := ord.flatMap fun n => (lastW (opsOf h n) key).toList.map Op.Value
end Go.Proofs.YtjiobgfaohldhaaGreat
