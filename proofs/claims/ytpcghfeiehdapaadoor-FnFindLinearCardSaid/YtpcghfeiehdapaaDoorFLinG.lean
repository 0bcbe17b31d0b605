/- The search for an order of calls, over sets of numbers: it finds the first right order. The program's FindLinear, with its search. The program's FindLinear. -/
import Derived.Test.YtpcghfeiehdapaaDoorLinI
import Derived.Test.YtpcghfeiehdapaaDoorTab
import Derived.Test.YtpcghfeiehdapaaDoorRoomy
import Derived.Test.YtpcghfeiehdapaaDoorHoldN
import Derived.StillTailTactics
import Derived.Laws.EntriesVeiled
namespace Go.Proofs.YtpcghfeiehdapaaDoor
open Go.RowKit Go.Maps
set_option linter.unusedVariables false
set_option linter.unusedSimpArgs false

/-- What is asked of the first numbers of an order. -/
def goodL (xs : List Call) (o : List Int) : Bool := stepsOK (strAlw (whens xs)) o && (linS xs o o.length).isSome
theorem linS_app (xs : List Call) (a b : List Int) : ∀ k, k ≤ a.length → linS xs (a ++ b) k = linS xs a k
  | 0, _ => rfl
  | k + 1, hk => by
    rw [linS, linS, linS_app xs a b k (by omega), List.getD_eq_getElem?_getD, List.getD_eq_getElem?_getD, List.getElem?_append_left (by omega)]
theorem goodL_prefix (xs : List Call) (a b : List Int) (h : goodL xs (a ++ b) = true) : goodL xs a = true := by
  unfold goodL at h ⊢
  rw [Bool.and_eq_true] at h ⊢
  refine ⟨stepsOK_prefix _ a b h.1, ?_⟩
  cases hn : linS xs a a.length with
  | some v => rfl
  | none =>
    have h1 := linS_app xs a b a.length (Nat.le_refl _)
    rw [hn] at h1
    have h2 := linS_stop h1 (show a.length ≤ (a ++ b).length by rw [List.length_append]; omega)
    rw [h2] at h
    exact absurd h.2 (by simp)
theorem goodL_nil (xs : List Call) : goodL xs [] = true := rfl
theorem linS_snoc (xs : List Call) (pre : List Int) (x v : Int) (hv : linS xs pre pre.length = some v) : linS xs (pre ++ [x]) (pre ++ [x]).length = if madeB (callAt xs x) v then some (callAt xs x).Value else none := by
  rw [List.length_append, List.length_singleton, linS, linS_app xs pre [x] pre.length (Nat.le_refl _), hv]
  have : (pre ++ [x]).getD pre.length 0 = x := by rw [List.getD_eq_getElem?_getD, List.getElem?_append_right (Nat.le_refl _)]; simp
  rw [this]
  rfl
theorem goodL_snoc (xs : List Call) (pre : List Int) (x v : Int) (hg : goodL xs pre = true) (hv : linS xs pre pre.length = some v) : goodL xs (pre ++ [x]) = nextB xs pre v x := by
  unfold goodL at hg ⊢
  rw [Bool.and_eq_true] at hg
  rw [stepsOK_snoc, hg.1, Bool.true_and, linS_snoc xs pre x v hv]
  unfold nextB
  cases madeB (callAt xs x) v <;> simp
theorem goodL_lin (xs : List Call) (o : List Int) (hv : callsV xs = true) (ho : o.Perm (nums xs.length)) : goodL xs o = linB xs o := by
  have h6 : xs.length ≤ 6 := by
    unfold callsV at hv
    rw [Bool.and_eq_true, decide_eq_true_iff] at hv
    exact hv.1
  unfold goodL linB
  rw [hv, (same_iff (nums_nodup _)).2 ho, Bool.true_and, Bool.true_and, str_steps _ _ (fun x hx => by have := mem_nums.1 (ho.mem_iff.1 hx); omega), Bool.and_comm]
/-- The same search, by the numbers that are gone and the value of the register. -/
def strG (sp : List Span) (g : Nat) (n : Int) : Bool := (List.range 6).all fun m => !(g.testBit m && decide ((spI sp n).To < (spI sp (m : Int)).From))
theorem strG_eq (sp : List Span) {g : Nat} {pre : List Int} (hb : BitsOf g pre) (n : Int) : strG sp g n = strAlw sp pre n := by
  unfold strG strAlw
  congr 1
  funext m
  rw [hb.2 m]
def nextG (xs : List Call) (g : Nat) (v n : Int) : Bool := strG (whens xs) g n && madeB (callAt xs n) v
def sufL (xs : List Call) : Nat → Nat → Int → Option (List Int)
  | 0, _, _ => some []
  | f + 1, g, v => (List.range xs.length).findSome? fun n => if g.testBit n then none else if nextG xs g v n then (sufL xs f (g ||| 2 ^ n) (callAt xs n).Value).map fun o => (n : Int) :: o else none
def stepG (xs : List Call) (f g : Nat) (v : Int) (n : Nat) : Option (List Int) := if g.testBit n then none else if nextG xs g v n then (sufL xs f (g ||| 2 ^ n) (callAt xs n).Value).map fun o => (n : Int) :: o else none
theorem suf_dfs (xs : List Call) (h6 : xs.length ≤ 6) : ∀ (f g : Nat) (v : Int) (pre : List Int), BitsOf g pre → goodL xs pre = true → linS xs pre pre.length = some v → dfsA (goodL xs) (nums xs.length) f pre = (sufL xs f g v).map (pre ++ ·)
  | 0, g, v, pre, _, _, _ => by simp [dfsA, sufL]
  | f + 1, g, v, pre, hb, hg, hv => by
    have hmap : (sufL xs (f + 1) g v).map (pre ++ ·) = (List.range xs.length).findSome? fun n => (stepG xs f g v n).map (pre ++ ·) := by
      rw [sufL]
      generalize List.range xs.length = L
      induction L with
      | nil => rfl
      | cons a L ih =>
        rw [List.findSome?_cons, List.findSome?_cons]
        have he : (if g.testBit a then none else if nextG xs g v a then (sufL xs f (g ||| 2 ^ a) (callAt xs a).Value).map fun o => (a : Int) :: o else none) = stepG xs f g v a := rfl
        rw [he]
        cases stepG xs f g v a with
        | none => exact ih
        | some o => rfl
    rw [hmap, dfsA]
    unfold nums
    rw [findSome_map]
    refine findSome_ext _ fun n hn => ?_
    have hn6 : n < 6 := by have := List.mem_range.1 hn; omega
    unfold stepG
    rw [hb.2 n]
    cases hc : pre.contains (n : Int) with
    | true => rfl
    | false =>
      have e1 : goodL xs (pre ++ [(n : Int)]) = nextG xs g v n := by
        rw [goodL_snoc xs pre n v hg hv]
        unfold nextG nextB
        rw [strG_eq (whens xs) hb]
      cases hx : nextG xs g v n with
      | false => rw [e1, hx]; rfl
      | true =>
        have hmb : madeB (callAt xs n) v = true := by unfold nextG at hx; rw [Bool.and_eq_true] at hx; exact hx.2
        have ih := suf_dfs xs h6 f (g ||| 2 ^ n) (callAt xs n).Value (pre ++ [(n : Int)]) (hb.snoc n hn6) (by rw [e1, hx]) (by rw [linS_snoc xs pre n v hv, if_pos hmb])
        have e2 : (List.map (fun j : Nat => (j : Int)) (List.range xs.length)) = nums xs.length := rfl
        rw [e1, hx, e2, ih]
        cases sufL xs f (g ||| 2 ^ n) (callAt xs n).Value with
        | none => rfl
        | some o => simp
/-- The first right order of calls. -/
def flF (xs : List Call) : Option (List Int) := if callsV xs then sufL xs xs.length 0 0 else none
def flB (xs : List Call) : Bool := (flF xs).isSome
def flR (xs : List Call) : List Int := (flF xs).getD []
theorem flF_find (xs : List Call) (hv : callsV xs = true) : flF xs = (permsI (nums xs.length).length (nums xs.length)).find? (linB xs) := by
  have h6 : xs.length ≤ 6 := by
    unfold callsV at hv
    rw [Bool.and_eq_true, decide_eq_true_iff] at hv
    exact hv.1
  unfold flF
  have h1 := suf_dfs xs h6 xs.length 0 0 [] BitsOf.zero (goodL_nil xs) rfl
  have h2 := dfsA_first (goodL xs) (goodL_prefix xs) (goodL_nil xs) (nums xs.length) (nums_nodup _)
  rw [nums_len] at h2
  rw [if_pos hv]
  have h3 : (sufL xs xs.length 0 0).map (fun o => [] ++ o) = sufL xs xs.length 0 0 := by cases sufL xs xs.length 0 0 <;> rfl
  have h4 : firstGood (goodL xs) (nums xs.length) = firstGood (linB xs) (nums xs.length) := firstGood_ext (nums_nodup _) (fun o ho => goodL_lin xs o hv ho)
  have h5 : firstGood (linB xs) (nums xs.length) = (permsI (nums xs.length).length (nums xs.length)).find? (linB xs) := rfl
  rw [← h5, ← h4, ← h2, h1]
  exact h3.symm
theorem sufL_len (xs : List Call) : ∀ (f g : Nat) (v : Int) (o : List Int), sufL xs f g v = some o → o.length = f
  | 0, g, v, o, h => by simp [sufL] at h; subst h; rfl
  | f + 1, g, v, o, h => by
    rw [sufL] at h
    obtain ⟨n, _, hn⟩ := List.exists_of_findSome?_eq_some h
    split at hn
    · cases hn
    · split at hn
      · cases hs : sufL xs f (g ||| 2 ^ n) (callAt xs n).Value with
        | none => rw [hs] at hn; cases hn
        | some o' =>
          rw [hs] at hn
          have := sufL_len xs f _ _ o' hs
          simp at hn
          subst hn
          simp [this]
      · cases hn
theorem flR_len (xs : List Call) : (flR xs).length ≤ 1048576 := by
  unfold flR flF
  split
  · rename_i hv
    have h6 : xs.length ≤ 6 := by
      unfold callsV at hv
      rw [Bool.and_eq_true, decide_eq_true_iff] at hv
      exact hv.1
    cases hs : sufL xs xs.length 0 0 with
    | none => simp
    | some o => have := sufL_len xs _ _ _ o hs; simp only [Option.getD_some]; omega
  · simp
/-- Lists without repeats that have the same bits are of one length. -/
theorem bits_len {g : Nat} {a b : List Int} (ha : BitsOf g a) (hb : BitsOf g b) (na : a.Nodup) (nb : b.Nodup) (pa : ∀ x ∈ a, 0 ≤ x) (pb : ∀ x ∈ b, 0 ≤ x) : a.length = b.length := by
  have hp : a.Perm b := by
    rw [List.perm_ext_iff_of_nodup na nb]
    intro x
    constructor
    · intro hx
      have := pa x hx
      have h1 := ha.2 x.toNat
      have h2 := hb.2 x.toNat
      have e : ((x.toNat : Nat) : Int) = x := by omega
      rw [e] at h1 h2
      rw [List.contains_iff_mem.2 hx] at h1
      rw [h1] at h2
      exact List.contains_iff_mem.1 h2.symm
    · intro hx
      have := pb x hx
      have h1 := ha.2 x.toNat
      have h2 := hb.2 x.toNat
      have e : ((x.toNat : Nat) : Int) = x := by omega
      rw [e] at h1 h2
      rw [List.contains_iff_mem.2 hx] at h2
      rw [h2] at h1
      exact List.contains_iff_mem.1 h1.symm
  exact hp.length_eq
theorem cellsSt : Tryd.prog.cellsOf 56 = 2 := by kernel_rfl
theorem keyTypeSt : Tryd.prog.keyType 56 = true := by kernel_rfl
theorem laidOutSt : laidOutB Tryd.prog = true := by kernel_rfl
theorem sizeSt : ∃ m, Tryd.prog.types.size = m + 1 := ⟨Tryd.prog.types.size - 1, by kernel_rfl⟩
theorem cellsISt : Tryd.prog.cellsOf 3 = 1 := by kernel_rfl
theorem cellsUSt : Tryd.prog.cellsOf 44 = 1 := by kernel_rfl
theorem lawSt : WideMaps.KeyLaw Tryd.prog 56 := deep_law_laid laidOutSt (m := 2) (by omega) (of_decide_eq_true (by kernel_rfl)) (by kernel_rfl) (by rw [Tryd.underlying56])
def litSt (s : Nat × Int) : Lit := .string (keyBytes [.int .u64 (s.1 : Int), .int .i64 s.2])
def okSt (s : Nat × Int) : Prop := (Lit.int .u64 (s.1 : Int)).wf = true ∧ (Lit.int .i64 s.2).wf = true
theorem keySt (s : Nat × Int) (h : okSt s) : keyOf Tryd.prog 56 (.agg #[.int .u64 (s.1 : Int), .int .i64 s.2]) = some (litSt s) := by
  obtain ⟨ha, hb⟩ := h
  obtain ⟨m, hm⟩ := sizeSt
  have hk := keyTypeSt
  unfold keyOf
  simp only [Tryd.underlying56]
  rw [if_pos (by simp [hk, Value.formed, Tryd.underlying56, cellsSt]), hm]
  unfold Program.keyLits
  simp only [Tryd.underlying56, Value.cells]
  rw [if_pos (by rw [cellsSt]; simp)]
  simp [Program.keyLits, Tryd.underlying3, Tryd.underlying44, ha, hb, cellsISt, cellsUSt, litSt]
def stKey : KeyKit Tryd.prog 56 (Nat × Int) where
  keyed := Keyed.of_law lawSt
  val s := .agg #[.int .u64 (s.1 : Int), .int .i64 s.2]
  lit := litSt
  ok := okSt
  of := keySt
  inj x y hx hy h := by
    have h1 := lawSt.inj (keySt x hx) (by rw [h]; exact keySt y hy)
    cases x; cases y; simp at h1; obtain ⟨h2, rfl⟩ := h1; simp; omega
  isKey x := by simp [litSt, WideAt.IsKeyLit]
theorem zeroBoolSt (w : World) : (zeroValue 4).run Tryd.prog w = .ok (.bool false) w := by kernel_rfl
noncomputable def boolSt : ElKit Tryd.prog 4 Bool := boolEl Tryd.underlying4 zeroBoolSt
theorem okSt_of {g : Nat} {v : Int} (hg : g < 64) (h0 : 0 ≤ v) (h1 : v ≤ 99) : okSt (g, v) := by
  refine ⟨?_, wf_small (by omega) (by omega)⟩
  unfold Lit.wf
  have e1 : IntKind.u64.min = 0 := by decide
  have e2 : IntKind.u64.max = 18446744073709551615 := by decide
  simp [e1, e2]
  omega
/-- The states that are known as lost lead nowhere. -/
def LostOK (xs : List Call) (F : Nat × Int → Option Bool) : Prop :=
  ∀ s, (F s).getD false = true → ∀ (f : Nat) (pre : List Int), BitsOf s.1 pre → pre.Nodup → (∀ x ∈ pre, 0 ≤ x) → pre.length + f = xs.length → sufL xs f s.1 s.2 = none
/-- How many states a search can put on the list. -/
def cntL : Nat → Nat
  | 0 => 0
  | f + 1 => 1 + 6 * cntL f
def Kl (bo g bm b : Nat) : Prop := Ko bo g b ∨ b = bm
structure SeaL (xs : List Call) (w0 : World) (bo g bm bl bv bf : Nat) (Al : Option Addr) (cl : Nat) : Prop where
  kl : ∀ b, Kl bo g bm b → b < w0.heap.size
  ne : bo ≠ g
  nm : bm ≠ bo ∧ bm ≠ g
  vl : Blk w0 bl 23 #[.slice Al xs.length cl] ∧ ¬ Kl bo g bm bl
  vv : Blk w0 bv 53 #[.map (some bm)] ∧ ¬ Kl bo g bm bv
  vf : Blk w0 bf 54 #[.func (.func 25) #[] #[.pointer (some ⟨bo, 0, none⟩), .pointer (some ⟨bl, 0, none⟩), .pointer (some ⟨bv, 0, none⟩), .pointer (some ⟨bf, 0, none⟩)]] ∧ ¬ Kl bo g bm bf
  rl : Row tCall w0 (fun b => Old w0 b ∧ ¬ Kl bo g bm b) Al xs
  hv : callsV xs = true
  ef : ∀ args w, (callFunc 25 args).run Tryd.prog w = .ok (.enter 25 args) w
  tab : TabDB w0 ∧ 1 < w0.heap.size ∧ ¬ Kl bo g bm 1
def MapOK (xs : List Call) (bm m : Nat) (w : World) : Prop := ∃ F : Nat × Int → Option Bool, TabG stKey boolSt w bm m F ∧ LostOK xs F
theorem MapOK.keep {xs : List Call} {bm m : Nat} {w w' : World} (h : MapOK xs bm m w) (he : w'.heap[bm]? = w.heap[bm]?) : MapOK xs bm m w' := by
  obtain ⟨F, h1, h2⟩ := h
  exact ⟨F, h1.keep he, h2⟩
theorem MapOK.lt {xs : List Call} {bm m : Nat} {w : World} (h : MapOK xs bm m w) : bm < w.heap.size := by
  obtain ⟨F, h1, _⟩ := h
  exact h1.lt
theorem MapOK.up {xs : List Call} {bm m m' : Nat} {w : World} (h : MapOK xs bm m w) (hm : m ≤ m') : MapOK xs bm m' w := by
  obtain ⟨F, h1, h2⟩ := h
  exact ⟨F, h1.up hm, h2⟩
def LPost (xs : List Call) (bo g bm m : Nat) (pre : List Int) (gn : Nat) (v : Int) (f : Nat) (W : World) (e : Ending) (w' : World) : Prop :=
  match sufL xs f gn v with
  | none => e = .returned (.bool false) ∧ Only (Kl bo g bm) W w' ∧ Ord bo g xs.length pre w' ∧ MapOK xs bm (m + cntL f) w'
  | some s => e = .returned (.bool true) ∧ Only (Kl bo g bm) W w' ∧ Ord bo g xs.length (pre ++ s) w'
theorem range_find_succ {β : Type} (p : Nat → Option β) (k : Nat) (h : (List.range k).findSome? p = none) : (List.range (k + 1)).findSome? p = p k := by
  rw [List.range_succ, List.findSome?_append, h]
  simp
theorem range_find_some {β : Type} {p : Nat → Option β} {k n : Nat} {y : β} (hk : k < n) (h : (List.range k).findSome? p = none) (hp : p k = some y) : (List.range n).findSome? p = some y := by
  have h1 : List.range n = List.range k ++ List.range' k (n - k) := by
    rw [List.range_eq_range', List.range_eq_range']
    have := List.range'_append (s := 0) (m := k) (n := n - k) (step := 1)
    simp only [Nat.one_mul, Nat.zero_add] at this
    rw [this]
    congr 1; omega
  rw [h1, List.findSome?_append, h]
  rw [show n - k = (n - k - 1) + 1 by omega, List.range'_succ, List.findSome?_cons, hp]
  rfl
set_option maxRecDepth 10000 in
set_option maxHeartbeats 8000000 in
theorem fromL {xs : List Call} {w0 : World} {bo g bm bl bv bf : Nat} {Al : Option Addr} {cl : Nat} (C : SeaL xs w0 bo g bm bl bv bf Al cl) (f : Nat) :
    ∀ (pre : List Int) (gn m : Nat) (v : Int) (W : World), pre.length + f = xs.length → f ≤ 6 → m + cntL f ≤ 100000 → BitsOf gn pre → pre.Nodup → (∀ x ∈ pre, 0 ≤ x ∧ x < (xs.length : Int)) → 0 ≤ v → v ≤ 99 → Only (Kl bo g bm) w0 W → Ord bo g xs.length pre W → MapOK xs bm m W →
    Calls Tryd.prog 25 #[.agg #[.int .u64 (gn : Int), .int .i64 v], .pointer (some ⟨bo, 0, none⟩), .pointer (some ⟨bl, 0, none⟩), .pointer (some ⟨bv, 0, none⟩), .pointer (some ⟨bf, 0, none⟩)] W (LPost xs bo g bm m pre gn v f W) := by
  have hx6 := callsV_len C.hv
  induction f with
  | zero =>
    intro pre gn m v W hlen _ _ hbt hnd hin hv0 hv1 hOk hOrd hM
    have HP := hide (show sufL xs 0 gn v = some [] from rfl)
    have hO1 := hOk.trans (Only.of_alloc W (.cells #[.int .u64 (gn : Int), .int .i64 v] 56))
    have hOrd1 := hOrd.keep (W' := W.alloc (.cells #[.int .u64 (gn : Int), .int .i64 v] 56)) (Below.heap_alloc _ _ _ hOrd.var.lt) (Below.heap_alloc _ _ _ hOrd.glt)
    have c1 := hOrd1.var.cell 0
    have c2 := (C.vl.1.of (hO1.block _ C.vl.1.lt C.vl.2)).cell 0
    simp only [List.getElem?_toArray, List.getElem?_cons_zero, List.getElem?_cons_succ] at c1 c2
    have HOrd := hide hOrd1
    have hli : ((pre.length : Int) == (xs.length : Int)) = true := by rw [beq_iff_eq]; omega
    have hpl : pre.length ≤ 6 := by omega
    clear hbt hnd hin hOk hOrd hM hO1 hOrd1 hlen C
    go_enter Tryd.func25, Tryd.ntmps25
    go_wp2_with fail
    go_ret
    unfold LPost
    rw [HP.out]
    exact ⟨rfl, Only.of_alloc _ _, by rw [List.append_nil]; exact HOrd.out⟩
  | succ f ih =>
    intro pre gn m v W hlen hf6 hcnt hbt hnd hin hv0 hv1 hOk hOrd hM
    have hO1 := hOk.trans (Only.of_alloc W (.cells #[.int .u64 (gn : Int), .int .i64 v] 56))
    have hOrd1 := hOrd.keep (W' := W.alloc (.cells #[.int .u64 (gn : Int), .int .i64 v] 56)) (Below.heap_alloc _ _ _ hOrd.var.lt) (Below.heap_alloc _ _ _ hOrd.glt)
    have hM1 := hM.keep (w' := W.alloc (.cells #[.int .u64 (gn : Int), .int .i64 v] 56)) (Below.heap_alloc _ _ _ hM.lt)
    have c1 := hOrd1.var.cell 0
    have c2 := (C.vl.1.of (hO1.block _ C.vl.1.lt C.vl.2)).cell 0
    have c3 := (C.vv.1.of (hO1.block _ C.vv.1.lt C.vv.2)).cell 0
    simp only [List.getElem?_toArray, List.getElem?_cons_zero, List.getElem?_cons_succ] at c1 c2 c3
    obtain ⟨F, hT, hLF⟩ := hM1
    have HT := hide hT; have HLF := hide hLF
    have HOr := hide hOrd1; have HB0 := hide (Blk.new W 56 #[.int .u64 (gn : Int), .int .i64 v])
    have HLen := hide hlen; have HBt := hide hbt; have HNd := hide hnd; have HIn := hide hin; have HO0 := hide hOk; have HCn := hide hcnt
    have hcs : cntL (f + 1) = 1 + 6 * cntL f := rfl
    have HCs := hide hcs
    have hpl : pre.length ≤ 6 := by omega
    have hli : ((pre.length : Int) == (xs.length : Int)) = false := by rw [beq_eq_false_iff_ne]; omega
    have hok : okSt (gn, v) := okSt_of hbt.1 hv0 hv1
    have HOk := hide hok
    have HC := hide C
    have HLs := hide (fun (h : (F (gn, v)).getD false = true) => hLF (gn, v) h (f + 1) pre hbt hnd (fun x hx => (hin x hx).1) hlen)
    have hKo : ∀ b, Ko bo g b → Kl bo g bm b := fun b hb => .inl hb
    have HKo := hide hKo
    clear hO1 hOrd1 hOk hOrd hlen hbt hnd hin hM hT hLF hcnt hok C hcs hKo
    cases hlo : (F (gn, v)).getD false with
    | true =>
      have HN := hide (HLs.out hlo)
      have Hlo := hide hlo
      clear hlo HLs
      go_enter Tryd.func25, Tryd.ntmps25
      go_wp2_with (at_lookup; refine wpList_tab_look _ rfl (.tmp 15) (.tmp 16) 53 rfl Tryd.underlying53 bm m F rfl HT.out (gn, v) HOk.out rfl ?_; dsimp only [boolSt, boolEl]; rw [Hlo.out])
      go_ret
      unfold LPost
      rw [HN.out]
      exact ⟨rfl, Only.of_alloc _ _, HOr.out, F, HT.out.up (by omega), HLF.out⟩
    | false =>
      have Hlo := hide hlo
      clear hlo HLs
      go_enter Tryd.func25, Tryd.ntmps25
      go_wp2_with (at_lookup; refine wpList_tab_look _ rfl (.tmp 15) (.tmp 16) 53 rfl Tryd.underlying53 bm m F rfl HT.out (gn, v) HOk.out rfl ?_; dsimp only [boolSt, boolEl]; rw [Hlo.out])
      obtain ⟨wo, hwo⟩ : ∃ wo, wo = W.alloc (.cells #[.int .u64 (gn : Int), .int .i64 v] 56) := ⟨_, rfl⟩
      have HOw := hide (show Only (Kl bo g bm) W wo by rw [hwo]; exact Only.of_alloc _ _)
      have HWs := hide (show W.heap.size < wo.heap.size by rw [hwo]; simp)
      rw [← hwo] at HOr HB0 HT ⊢
      clear hwo c1 c2 c3
      have HP := hide (show sufL xs (f + 1) gn v = (List.range xs.length).findSome? (stepG xs f gn v) from rfl)
      have HM0 := hide (show MapOK xs bm m wo from ⟨F, HT.out, HLF.out⟩)
      clear HT HLF Hlo
      go_loopw [7, 8, 9, 20] (fun _ _ _ i wr => ∃ k : Nat, k ≤ xs.length ∧ i = .int .i64 k ∧ Hid ((List.range k).findSome? (stepG xs f gn v) = none) ∧ Hid (Only (Kl bo g bm) wo wr) ∧ Hid (Ord bo g xs.length pre wr) ∧ Hid (MapOK xs bm (m + k * cntL f) wr)) (fun _ _ _ i _ => xs.length - (intOf i).toNat)
      case atStart => exact ⟨0, Nat.zero_le _, rfl, rfl, Only.refl _ _, HOr.out, by rw [Nat.zero_mul, Nat.add_zero]; exact HM0.out⟩
      case round =>
        obtain ⟨k, hk, rfl, hN, hOn, hOd, hMk⟩ := hrel
        have HN := hide hN.out; have HOn := hide hOn.out; have HOd := hide hOd.out; have HMk := hide hMk.out
        clear hN hOn hOd hMk HM0
        have HOw0 := hide (HO0.out.trans (HOw.out.trans HOn.out))
        have hBs := HB0.out.of (HOn.out.block _ HB0.out.lt (fun hK => by have := HC.out.kl _ hK; have := HO0.out.size; omega))
        have HBs := hide hBs
        have hlz : W.heap.size < wr.heap.size := hBs.lt
        have s0 := hBs.cell 0; have s1 := hBs.cell 1
        simp only [List.getElem?_toArray, List.getElem?_cons_zero, List.getElem?_cons_succ] at s0 s1
        clear hBs
        by_cases hlt : k < xs.length
        · have HTk := hide (range_find_succ (stepG xs f gn v) k HN.out)
          have HHit := hide (fun (y : List Int) (h : stepG xs f gn v k = some y) => range_find_some hlt HN.out h)
          have hk6 : k < 6 := by omega
          have hsh := shr_eq gn k HBt.out.1
          have HStp := hide (show stepG xs f gn v k = if gn.testBit k then none else if nextG xs gn v k then (sufL xs f (gn ||| 2 ^ k) (callAt xs k).Value).map fun o => (k : Int) :: o else none from rfl)
          have HUp := hide (show m + k * cntL f ≤ m + (k + 1) * cntL f from Nat.add_le_add_left (Nat.mul_le_mul_right _ (Nat.le_succ k)) m)
          cases hb : gn.testBit k with
          | true =>
            have HE := hide (show stepG xs f gn v k = none by rw [HStp.out, hb]; rfl)
            rw [hb] at hsh
            clear hb
            go_wp2_with fail
            go_roundw
            case rel => exact ⟨k + 1, by omega, by go_num, by rw [← HE.out]; exact HTk.out, HOn.out, HOd.out, HMk.out.up HUp.out⟩
            case measure => simp [intOf]; omega
          | false =>
            rw [hb] at hsh
            have HStp := hide (show stepG xs f gn v k = if nextG xs gn v k then (sufL xs f (gn ||| 2 ^ k) (callAt xs k).Value).map fun o => (k : Int) :: o else none by rw [HStp.out, hb]; rfl)
            have HPc := hide (show pre.contains (k : Int) = false by rw [← HBt.out.2 k]; exact hb)
            clear hb
            have q1 := (HC.out.vl.1.of (HOw0.out.block _ HC.out.vl.1.lt HC.out.vl.2)).cell 0
            simp only [List.getElem?_toArray, List.getElem?_cons_zero, List.getElem?_cons_succ] at q1
            have HNx := hide (next_any xs Al cl wr pre gn k v hx6 (HC.out.rl.mono (fun b hb => Nat.lt_of_lt_of_le hb.1 HOw0.out.size) (fun b hb => HOw0.out.block b hb.1 hb.2)) hlt HBt.out (fun x hx => (HIn.out x hx).2) (HC.out.tab.1.only HC.out.tab.2.1 HOw0.out HC.out.tab.2.2) (Nat.lt_of_lt_of_le HC.out.tab.2.1 HOw0.out.size))
            have HNb := hide (show nextB xs pre v k = nextG xs gn v k by unfold nextB nextG; rw [strG_eq (whens xs) HBt.out])
            rw [HNb.out] at HNx
            cases hx : nextG xs gn v k with
            | false =>
              have HE := hide (show stepG xs f gn v k = none by rw [HStp.out, hx]; rfl)
              rw [hx] at HNx
              generalize nextV xs pre v k = nv at HNx
              clear hx
              go_wp2_with (go_at_call 20; refine HNx.out.mono ?_; rintro e w2 ⟨rfl, hb2⟩; have HB2 := hide hb2; clear hb2)
              have HOd2 := hide (HOd.out.keep (HB2.out.block _ HOd.out.var.lt) (HB2.out.block _ HOd.out.glt))
              go_roundw
              case rel => exact ⟨k + 1, by omega, by go_num, by rw [← HE.out]; exact HTk.out, HOn.out.trans (Only.of_below HB2.out), HOd2.out, (HMk.out.keep (HB2.out.block _ HMk.out.lt)).up HUp.out⟩
              case measure => simp [intOf]; omega
            | true =>
              have hmb : madeB (callAt xs k) v = true := by unfold nextG at hx; rw [Bool.and_eq_true] at hx; exact hx.2
              have hsa : strAlw (whens xs) pre k = true := by unfold nextG at hx; rw [Bool.and_eq_true] at hx; rw [← strG_eq (whens xs) HBt.out]; exact hx.1
              have HNv := hide (show nextV xs pre v k = xs[k].Value by unfold nextV; rw [hsa, if_pos rfl, made_val hmb, callAt_nat xs k hlt])
              rw [hx, HNv.out] at HNx
              have HStp := hide (show stepG xs f gn v k = (sufL xs f (gn ||| 2 ^ k) xs[k].Value).map fun o => (k : Int) :: o by rw [HStp.out, hx, callAt_nat xs k hlt]; rfl)
              have hcv : 0 ≤ xs[k].Value ∧ xs[k].Value ≤ 99 := by
                have h1 := HC.out.hv
                unfold callsV at h1
                rw [Bool.and_eq_true, List.all_eq_true] at h1
                have h2 := h1.2 _ (List.getElem_mem hlt)
                unfold callOk callOk1 at h2
                simp only [Bool.and_eq_true] at h2
                exact inR_iff.1 h2.1.2
              clear hmb hsa hx
              generalize xs[k].Value = nv at HNx HStp hcv
              go_upto_region 11 with (go_at_call 20; refine HNx.out.mono ?_; rintro e w2 ⟨rfl, hb2⟩; have HB2 := hide hb2; clear hb2)
              have HOd3 := HOd.out.keep (HB2.out.block _ HOd.out.var.lt) (HB2.out.block _ HOd.out.glt)
              have HMk3 := hide (HMk.out.keep (HB2.out.block _ HMk.out.lt))
              have HBs3 := hide (HBs.out.of (HB2.out.block _ HBs.out.lt))
              have v1 := HOd3.var.cell 0
              have vf1 := HOd3.var.frozen 0
              simp only [List.getElem?_toArray, List.getElem?_cons_zero, List.getElem?_cons_succ] at v1
              obtain ⟨cur, hcur, hcs, hcv2⟩ := HOd3.row
              have hvl := HOd3.var.lt
              have hgl := hcur.lt
              have HCur := hide (show Blk w2 g _ cur ∧ cur.size = xs.length ∧ ∀ j (hj : j < pre.length), cur[j]? = some (.int .i64 pre[j]) from ⟨hcur, hcs, hcv2⟩)
              have HVar := hide HOd3.var
              have hpk : pre.length < xs.length := by have := HLen.out; omega
              obtain ⟨i0, hi, hz0, hz1, hz2⟩ := info_parts infoInt_
              have hng := HC.out.ne
              have hng' := Ne.symm HC.out.ne
              clear hcur hcs hcv2 HOd3 s0 s1 q1 hli
              go_upto_region 12 with (at_builtin; go_loud (refine wpList_room rfl (.tmp 41) (.tmp 43) 24 rfl 3 i0 Tryd.underlying24 hi hz1 g pre.length xs.length cur (.int .i64 k) HCur.out.1 hpk (by rw [HCur.out.2.1]; exact hpk) rfl rfl 1 rfl ?_))
              generalize hW5 : World.alloc _ _ = w5
              have hnb : ∀ b, Ko bo g b → b ≠ W.heap.size := fun b hb e => by have := HC.out.kl b (.inl hb); have := HO0.out.size; omega
              have hO5 : Only (Ko bo g) w2 w5 := by rw [← hW5]; exact ((Only.setCell (S := Ko bo g) (Only.refl _ _) (p := ⟨g, pre.length, none⟩) (.inr rfl) _).setCell (p := ⟨bo, 0, none⟩) (.inl rfl) _).trans (Only.of_alloc _ _)
              have hOrd5 : Ord bo g xs.length (pre ++ [(k : Int)]) w5 := by
                refine ⟨?_, cur.setIfInBounds pre.length (.int .i64 k), ?_, ?_, ?_⟩
                · rw [← hW5, List.length_append, List.length_singleton]
                  exact ((HVar.out.far (p := ⟨g, pre.length, none⟩) hng _).set_ 0 _).alloc _
                · rw [← hW5]; exact ((HCur.out.1.set_ pre.length _).far (p := ⟨bo, 0, none⟩) hng' _).alloc _
                · rw [Array.size_setIfInBounds]; exact HCur.out.2.1
                · intro j hj
                  rw [List.length_append, List.length_singleton] at hj
                  by_cases hjl : j < pre.length
                  · rw [Array.getElem?_setIfInBounds_ne (by omega), List.getElem_append_left hjl]; exact HCur.out.2.2 j hjl
                  · obtain rfl : j = pre.length := by omega
                    rw [Array.getElem?_setIfInBounds, if_pos rfl, if_pos (by rw [HCur.out.2.1]; exact hpk)]
                    simp
              have hB5 : Blk w5 W.heap.size 56 #[.int .u64 (gn : Int), .int .i64 v] := HBs3.out.of (hO5.block _ HBs3.out.lt (fun h => hnb _ h rfl))
              have hM5 : MapOK xs bm (m + k * cntL f) w5 := HMk3.out.keep (hO5.block _ HMk3.out.lt (fun h => by rcases h with h | h; exact HC.out.nm.1 h; exact HC.out.nm.2 h))
              clear hW5
              have HW5 := hide (show Only (Kl bo g bm) wo w5.drew from (HOn.out.trans ((Only.of_below HB2.out).trans (hO5.mono (fun b h => .inl h)))).drewN 1)
              have hO05 : Only (Kl bo g bm) w0 w5.drew := HO0.out.trans (HOw.out.trans HW5.out)
              have hf := (HC.out.vf.1.of (hO05.block _ HC.out.vf.1.lt HC.out.vf.2)).cell 0
              have hB5d : Blk w5.drew W.heap.size 56 #[.int .u64 (gn : Int), .int .i64 v] := hB5
              have z0 := hB5d.cell 0
              simp only [List.getElem?_toArray, List.getElem?_cons_zero, List.getElem?_cons_succ] at hf z0
              have hf' : w5.cell? ⟨bf, 0, none⟩ = _ := hf
              have z0' : w5.cell? ⟨W.heap.size, 0, none⟩ = _ := z0
              have HIh := hide (ih (pre ++ [(k : Int)]) (gn ||| 2 ^ k) (m + k * cntL f) nv w5.drew (by rw [List.length_append, List.length_singleton]; have := HLen.out; omega) (by omega)
                (by
                  have h1 : (k + 1) * cntL f ≤ 6 * cntL f := Nat.mul_le_mul_right _ (by omega)
                  have h2 := HCn.out
                  rw [HCs.out] at h2
                  rw [Nat.add_mul, Nat.one_mul] at h1
                  omega)
                (HBt.out.snoc k hk6)
                (by
                  rw [List.nodup_append]
                  refine ⟨HNd.out, by simp, fun a ha b hb2 => ?_⟩
                  simp at hb2
                  subst hb2
                  rintro rfl
                  rw [List.contains_iff_mem.2 ha] at HPc
                  exact absurd HPc.out (by simp))
                (fun x hx => by rcases List.mem_append.1 hx with h1 | h1; exact HIn.out x h1; simp at h1; omega) hcv.1 hcv.2 hO05 ⟨hOrd5.var, hOrd5.row⟩ (hM5.keep rfl))
              have hor := or_shl gn k HBt.out.1 hk6
              have eg2 := HC.out.ef
              clear hOrd5 hB5 hB5d hO05 hO5 hnb hM5
              go_still_tail 8, (by kernel_rfl)
              change wpList _ _ _ _ _ w5.drew
              generalize w5.drew = w6 at HW5 HIh hf z0 ⊢
              unfold LPost at HIh
              cases hd : sufL xs f (gn ||| 2 ^ k) nv with
              | none =>
                rw [hd] at HIh
                have HE := hide (show stepG xs f gn v k = none by rw [HStp.out, hd]; rfl)
                have HUp2 := hide (show m + k * cntL f + cntL f ≤ m + (k + 1) * cntL f by rw [Nat.add_mul, Nat.one_mul]; omega)
                clear hd hf' z0'
                go_wp2_with (go_at_fn 25; refine HIh.out.mono ?_; rintro e w7 ⟨rfl, hK7, hO7, hM7⟩; have HK7 := hide hK7; have HO7 := hide hO7; have HM7 := hide hM7; have u1 := hO7.var.cell 0; have uf1 := hO7.var.frozen 0; rw [List.length_append, List.length_singleton] at u1; simp only [List.getElem?_toArray, List.getElem?_cons_zero, List.getElem?_cons_succ] at u1; clear hK7 hO7 hM7)
                go_roundw
                case rel =>
                  refine ⟨k + 1, by omega, by go_num, by rw [← HE.out]; exact HTk.out, (HW5.out.trans HK7.out).setCell (p := ⟨bo, 0, none⟩) (.inl (.inl rfl)) _, ⟨?_, ?_⟩, (HM7.out.keep (Below.heap_setCell _ _ _ _ HC.out.nm.1)).up HUp2.out⟩
                  · exact HO7.out.var.set_ 0 _
                  · obtain ⟨cu, hcu, hcs, hcv3⟩ := HO7.out.row
                    refine ⟨cu, hcu.far (p := ⟨bo, 0, none⟩) hng' _, hcs, fun j hj => ?_⟩
                    have := hcv3 j (by rw [List.length_append]; omega)
                    rwa [List.getElem_append_left hj] at this
                case measure => simp [intOf]; omega
              | some o =>
                rw [hd] at HIh
                have HE := hide (show sufL xs (f + 1) gn v = some ((k : Int) :: o) from HP.out.trans (HHit.out _ (by rw [HStp.out, hd]; rfl)))
                clear hd hf' z0'
                go_wp2_with (go_at_fn 25; refine HIh.out.mono ?_; rintro e w7 ⟨rfl, hK7, hF7⟩; have HK7 := hide hK7; have HF7 := hide hF7; clear hK7 hF7)
                go_ret
                unfold LPost
                rw [HE.out]
                exact ⟨rfl, HOw.out.trans (HW5.out.trans HK7.out), by have h := HF7.out; rw [List.append_assoc] at h; exact h⟩
        · obtain rfl : k = xs.length := by omega
          have HNn := hide (show sufL xs (f + 1) gn v = none from HP.out.trans HN.out)
          obtain ⟨F2, hT2, hLF2⟩ := HMk.out
          have HT2 := hide hT2; have HLF2 := hide hLF2
          have hmm : m + xs.length * cntL f ≤ 100000 := by
            have h1 : xs.length * cntL f ≤ 6 * cntL f := Nat.mul_le_mul_right _ hx6
            have := HCn.out
            rw [HCs.out] at this
            omega
          have HMm := hide (show m + xs.length * cntL f + 1 ≤ m + cntL (f + 1) by
            have h1 : xs.length * cntL f ≤ 6 * cntL f := Nat.mul_le_mul_right _ hx6
            rw [HCs.out]
            omega)
          have r1 := (HC.out.vv.1.of (HOw0.out.block _ HC.out.vv.1.lt HC.out.vv.2)).cell 0
          simp only [List.getElem?_toArray, List.getElem?_cons_zero, List.getElem?_cons_succ] at r1
          have q1 := (HC.out.vl.1.of (HOw0.out.block _ HC.out.vl.1.lt HC.out.vl.2)).cell 0
          simp only [List.getElem?_toArray, List.getElem?_cons_zero, List.getElem?_cons_succ] at q1
          clear hT2 hLF2
          go_wp2_with (at_mapUpdate; (refine wpList_tab_put (KK := stKey) (EE := boolSt) _ rfl (.tmp 60) (.tmp 61) (.const (.bool true)) 53 rfl Tryd.underlying53 bm _ F2 rfl HT2.out (by simp only [maxLen]; omega) (gn, v) HOk.out true trivial rfl rfl ?_; intro w9 hT9 hg9; have HT9 := hide hT9; have HG9 := hide hg9; clear hT9 hg9))
          go_ret
          unfold LPost
          rw [HNn.out]
          have hgr : Only (Kl bo g bm) wr w9 := Only.of_grown HG9.out (fun i hi => by injection hi with hi; exact .inr hi.symm)
          refine ⟨rfl, HOw.out.trans (HOn.out.trans hgr), HOd.out.keep (HG9.out.block _ HOd.out.var.lt (fun e => by injection e with e; exact HC.out.nm.1 e.symm)) (HG9.out.block _ HOd.out.glt (fun e => by injection e with e; exact HC.out.nm.2 e.symm)), _, HT9.out.up HMm.out, fun s hs f' pre' hb' hn' hp' hl' => ?_⟩
          by_cases hse : s = (gn, v)
          · subst hse
            have h1 := bits_len hb' HBt.out hn' HNd.out hp' (fun x hx => (HIn.out x hx).1)
            have h2 : f' = f + 1 := by have := HLen.out; omega
            rw [h2]
            exact HNn.out
          · rw [if_neg hse] at hs
            exact HLF2.out s hs f' pre' hb' hn' hp' hl'
set_option maxRecDepth 10000 in
set_option maxHeartbeats 4000000 in
theorem implFindLinear (xs : List Call) (A : Option Addr) (c : Nat) (w : World) (hm : xs.length ≤ maxLen) (hA : Row tCall w (Old w) A xs) (hT : TabDB w) (h1 : 1 < w.heap.size) :
    Calls Tryd.prog 11 #[.slice A xs.length c] w fun e w' => ∃ v, e = .returned (.tuple #[v, .bool (flB xs)]) ∧ HoldI w' (New w w') (flR xs) v ∧ Below w.heap.size w w' := by
  obtain ⟨i0, hi, hz0, hz1, hz2⟩ := info_parts infoInt_
  have hmf : ∀ (fn : Fn) (first cap : Array Value) (w : World), (Instr.makeFunc fn first cap).run Tryd.prog w = .ok (.func fn first cap) w := fun _ _ _ _ => rfl
  have hmm := @run_makeMap Tryd.prog
  obtain ⟨wA, hwA⟩ : ∃ wA, wA = w.alloc (.cells #[.slice A xs.length c] 23) := ⟨_, rfl⟩
  have HbA := hide (show Below w.heap.size w wA by rw [hwA]; exact (Below.refl _ w).alloc (Nat.le_refl _) _)
  have HH := hide (show Blk wA w.heap.size 23 #[.slice A xs.length c] by rw [hwA]; exact Blk.new w _ _)
  have HC := hide (implCallsValid xs A c wA hm (hA.old HbA.out))
  have HA := hide hA; have HT := hide hT
  have c0 := HH.out.cell 0
  simp only [List.getElem?_toArray, List.getElem?_cons_zero, List.getElem?_cons_succ] at c0
  clear hA hT
  go_enter Tryd.func11, Tryd.ntmps11
  go_upto_region 1 with (fail)
  rw [← hwA]
  clear hwA
  cases hv : callsV xs with
  | false =>
    have HF := hide (show flF xs = none by unfold flF; rw [hv]; rfl)
    rw [hv] at HC
    clear hv
    go_wp2_with (go_at_call 18; refine HC.out.mono ?_; rintro e w1 ⟨rfl, hb1⟩; have HB1 := hide (HbA.out.trans (hb1.mono HbA.out.size)); clear hb1)
    go_ret2
    exact ⟨_, by unfold flB; rw [HF.out]; rfl, ⟨0, by unfold flR; rw [HF.out]; exact Hold.nil 0⟩, HB1.out⟩
  | true =>
    have hx6 : xs.length ≤ 6 := callsV_len hv
    have HF := hide (show flF xs = sufL xs xs.length 0 0 by unfold flF; rw [hv]; rfl)
    have Hv := hide hv
    rw [hv] at HC
    have hmk : ∀ W : World, (Instr.makeSlice 24 (.int .i64 0) (.int .i64 (xs.length : Int))).run Tryd.prog W = .ok (.slice (some ⟨W.heap.size, 0, none⟩) 0 xs.length) (W.alloc (.cells (madeCells #[.int .i64 0] (xs.length * 1)) 3)) := fun W => by
      have h9 := run_make_rowN (P := Tryd.prog) 24 3 i0 (.int .i64 0) Tryd.underlying24 hi hz0 .i64 .i64 0 xs.length (Nat.zero_le _) (by rw [hz2]; omega) (by omega) W
      rw [hz1] at h9
      exact h9
    clear hv
    go_upto_region 7 with (go_at_call 18; refine HC.out.mono ?_; rintro e w1 ⟨rfl, hb1⟩; have HB1 := hide (HbA.out.trans (hb1.mono HbA.out.size)); have HH1 := hide (HH.out.below hb1 HH.out.lt); have d0 := HH1.out.cell 0; simp only [List.getElem?_toArray, List.getElem?_cons_zero, List.getElem?_cons_succ] at d0; clear hb1)
    generalize hp1 : w1.alloc _ = p1
    generalize hp2 : p1.alloc _ = p2
    generalize hp3 : p2.alloc _ = p3
    generalize hp4 : p3.alloc _ = p4
    generalize hp5 : p4.alloc _ = w0
    have z1 : p1.heap.size = w1.heap.size + 1 := by rw [← hp1, World.size_alloc]
    have z2 : p2.heap.size = w1.heap.size + 1 + 1 := by rw [← hp2, World.size_alloc, z1]
    have z3 : p3.heap.size = w1.heap.size + 1 + 1 + 1 := by rw [← hp3, World.size_alloc, z2]
    have z4 : p4.heap.size = w1.heap.size + 1 + 1 + 1 + 1 := by rw [← hp4, World.size_alloc, z3]
    have hs0 : w0.heap.size = w1.heap.size + 5 := by rw [← hp5, World.size_alloc, z4]
    have b01 : Below w1.heap.size w1 p1 := by rw [← hp1]; exact (Below.refl _ _).alloc (Nat.le_refl _) _
    have b12 : Below p1.heap.size p1 p2 := by rw [← hp2]; exact (Below.refl _ _).alloc (Nat.le_refl _) _
    have b23 : Below p2.heap.size p2 p3 := by rw [← hp3]; exact (Below.refl _ _).alloc (Nat.le_refl _) _
    have b34 : Below p3.heap.size p3 p4 := by rw [← hp4]; exact (Below.refl _ _).alloc (Nat.le_refl _) _
    have b45 : Below p4.heap.size p4 w0 := by rw [← hp5]; exact (Below.refl _ _).alloc (Nat.le_refl _) _
    have b35 : Below p3.heap.size p3 w0 := b34.trans (b45.mono b34.size)
    have b25 : Below p2.heap.size p2 w0 := b23.trans (b35.mono b23.size)
    have b15 : Below p1.heap.size p1 w0 := b12.trans (b25.mono b12.size)
    have b05 : Below w1.heap.size w1 w0 := b01.trans (b15.mono b01.size)
    have hbg : Blk w0 w1.heap.size 3 (madeCells #[.int .i64 0] xs.length) := by
      have h : Blk p1 w1.heap.size 3 (madeCells #[.int .i64 0] xs.length) := by rw [← hp1]; exact Blk.new w1 _ _
      exact h.below b15 h.lt
    have hbo : Blk w0 (w1.heap.size + 1) 24 #[.slice (some ⟨w1.heap.size, 0, none⟩) 0 xs.length] := by
      have h : Blk p2 (w1.heap.size + 1) 24 #[.slice (some ⟨w1.heap.size, 0, none⟩) 0 xs.length] := by rw [← hp2, ← z1]; exact Blk.new p1 _ _
      exact h.below b25 h.lt
    have hbm : TabG stKey boolSt w0 (w1.heap.size + 1 + 1) 0 (fun _ => none) := by
      have h : TabG stKey boolSt p3 (w1.heap.size + 1 + 1) 0 (fun _ => none) := by rw [← hp3, ← z2]; exact TabG.made p2
      exact h.keep (b35.block _ h.lt)
    have hbv : Blk w0 (w1.heap.size + 1 + 1 + 1) 53 #[.map (some (w1.heap.size + 1 + 1))] := by
      have h : Blk p4 (w1.heap.size + 1 + 1 + 1) 53 #[.map (some (w1.heap.size + 1 + 1))] := by rw [← hp4, ← z3]; exact Blk.new p3 _ _
      exact h.below b45 h.lt
    have hbf : Blk w0 (w1.heap.size + 1 + 1 + 1 + 1) 54 #[.func (.func 25) #[] #[.pointer (some ⟨w1.heap.size + 1, 0, none⟩), .pointer (some ⟨w.heap.size, 0, none⟩), .pointer (some ⟨w1.heap.size + 1 + 1 + 1, 0, none⟩), .pointer (some ⟨w1.heap.size + 1 + 1 + 1 + 1, 0, none⟩)]] := by
      rw [← hp5]
      have h := Blk.new p4 54 #[.func (.func 25) #[] #[.pointer (some ⟨w1.heap.size + 1, 0, none⟩), .pointer (some ⟨w.heap.size, 0, none⟩), .pointer (some ⟨w1.heap.size + 1 + 1 + 1, 0, none⟩), .pointer (some ⟨w1.heap.size + 1 + 1 + 1 + 1, 0, none⟩)]]
      rw [z4] at h
      exact h
    have hb0w : Below w.heap.size w w0 := HB1.out.trans (b05.mono HB1.out.size)
    have hw1 : w.heap.size < w1.heap.size := HH1.out.lt
    have C : SeaL xs w0 (w1.heap.size + 1) w1.heap.size (w1.heap.size + 1 + 1) w.heap.size (w1.heap.size + 1 + 1 + 1) (w1.heap.size + 1 + 1 + 1 + 1) A c := {
      kl := fun b hb => by rcases hb with (hb | hb) | hb <;> omega
      ne := by omega
      nm := by omega
      vl := ⟨HH1.out.below b05 HH1.out.lt, fun hb => by rcases hb with (hb | hb) | hb <;> omega⟩
      vv := ⟨hbv, fun hb => by rcases hb with (hb | hb) | hb <;> omega⟩
      vf := ⟨hbf, fun hb => by rcases hb with (hb | hb) | hb <;> omega⟩
      rl := HA.out.mono (fun b hb => ⟨Nat.lt_of_lt_of_le hb hb0w.size, fun hk => by unfold Old at hb; rcases hk with (hk | hk) | hk <;> omega⟩) (fun b hb => hb0w.block b hb)
      hv := Hv.out
      ef := enters_of Tryd.func25 (by kernel_rfl) rfl
      tab := ⟨HT.out.below h1 hb0w, Nat.lt_of_lt_of_le h1 hb0w.size, fun hk => by rcases hk with (hk | hk) | hk <;> omega⟩ }
    have hOrd : Ord (w1.heap.size + 1) w1.heap.size xs.length [] w0 := ⟨hbo, _, hbg, by rw [size_madeCells], fun j hj => absurd hj (by simp)⟩
    have hcnt : 0 + cntL xs.length ≤ 100000 := by
      have : ∀ n, n ≤ 6 → 0 + cntL n ≤ 100000 := by decide
      exact this _ hx6
    have hF := fromL C xs.length [] 0 0 0 w0 (by simp) hx6 hcnt BitsOf.zero List.nodup_nil (fun x hx => by cases hx) (by omega) (by omega) (Only.refl _ _) hOrd ⟨_, hbm, fun s hs => by simp at hs⟩
    have hf0 := hbf.cell 0
    have hov := hbo.cell 0
    simp only [List.getElem?_toArray, List.getElem?_cons_zero, List.getElem?_cons_succ] at hf0 hov
    have eg := C.ef
    have HB0 := hide hb0w
    have Hw1 := hide hw1
    have HS0 := hide hs0
    unfold LPost at hF
    rw [← HF.out] at hF
    clear hbg hbo hbm hbv hbf hs0 hb0w hw1 C hOrd HF hmk hp1 hp2 hp3 hp4 hp5 z1 z2 z3 z4 b01 b12 b23 b34 b45 b35 b25 b15 b05 hcnt hov hmm
    cases hd : flF xs with
    | none =>
      rw [hd] at hF
      have HF := hide hF
      have HX := hide hd
      clear hF hd
      go_wp2_with (go_at_fn 25; refine HF.out.mono ?_; rintro e w7 ⟨rfl, hK7, _⟩; have HK7 := hide hK7; clear hK7)
      go_ret2
      exact ⟨_, by unfold flB; rw [HX.out]; rfl, ⟨0, by unfold flR; rw [HX.out]; exact Hold.nil 0⟩, below_only HB0.out HK7.out HB0.out.size (fun i hi => by have := Hw1.out; rcases hi with (hi | hi) | hi <;> omega)⟩
    | some o =>
      rw [hd] at hF
      have HF := hide hF
      have HX := hide hd
      have HL := hide (show o.length = xs.length from by
        have h9 := hd
        unfold flF at h9
        rw [Hv.out, if_pos rfl] at h9
        exact sufL_len xs _ _ _ o h9)
      clear hF hd
      go_wp2_with (go_at_fn 25; refine HF.out.mono ?_; rintro e w7 ⟨rfl, hK7, hO7⟩; have HK7 := hide hK7; have HO7 := hide hO7; have u1 := hO7.var.cell 0; simp only [List.nil_append, List.getElem?_toArray, List.getElem?_cons_zero, List.getElem?_cons_succ] at u1; clear hK7 hO7)
      go_ret2
      have hl := HL.out
      have hgl := HO7.out.glt
      have h3 := Hw1.out
      obtain ⟨cur, hcur, hcs, hcv⟩ := HO7.out.row
      rw [List.nil_append] at hcv
      refine ⟨_, by unfold flB; rw [HX.out]; rfl, ⟨w1.heap.size, ?_⟩, below_only HB0.out HK7.out HB0.out.size (fun i hi => by rcases hi with (hi | hi) | hi <;> omega)⟩
      unfold flR
      rw [HX.out]
      refine ⟨some ⟨w1.heap.size, 0, none⟩, xs.length, rfl, Nat.le_of_eq hl, by simp only [maxLen]; omega, fun hp => ⟨rfl, ⟨by omega, hgl⟩, ⟨cur, hcur, by rw [hcs]; show o.length * 1 ≤ _; omega⟩, fun _ => False, fun b hb => hb.elim, fun k hk => ⟨_, rfl, fun j u hu => ?_⟩⟩⟩
      obtain ⟨hj, rfl⟩ := List.getElem?_eq_some_iff.1 hu
      have hj0 : j = 0 := by simpa using hj
      subst hj0
      rw [hcur.cell]
      have := hcv k hk
      simpa [tInt, flat] using this
end Go.Proofs.YtpcghfeiehdapaaDoor
