/- EdgesValid of the program and of the reference answer alike. How far it is to a number, and the cycle that the reference names: the lists that its loops make. No program in sight. Cycles in plain Lean: edges as bit sets, numbers that are all different. No program in sight. Ways along edges: Warshall's closure, lengths of shortest ways, the search that goes out by layers. No program in sight. The search that goes out by layers, as lists; what it finds. No program in sight. The cycle of the reference and that of the program are one: plain laws about shortest ways. No program in sight. slices.Index and slices.Contains at ints, and how often a number is in a list. The matrix of edges: bit sets in an array of six words (matrixOf, allOf, has). matrixOf and allOf: the edges of some kinds as bit sets. CycleRight of the program and of the reference answer alike. CycleRight of the program: allOf, the walk along a cycle. The order in which all edges lead forward: what the program's loops gather, and that there is one exactly if no way leads back. No program in sight. The cycle that the program names is a right one, and begins with its least number. No program in sight. -/
import Derived.Test.YtjiobgfaohldhaaGreatQRanges
import Derived.Test.YtjiobgfaohldhaaGreatQToA
import Derived.Test.YtjiobgfaohldhaaGreatQContC
import Derived.Test.YtjiobgfaohldhaaGreatProg
import Derived.Laws.BitsAllLaws
import Derived.Laws.ShiftsVarLaws
import Derived.WalkSmall
import Derived.Laws.Tables
namespace Go.Proofs.YtjiobgfaohldhaaGreat
open Go.RowKit
set_option linter.unusedVariables false
set_option linter.unusedSimpArgs false

def edgeOk (many : Int) (e : Edge) : Bool := inR e.From 0 (many - 1) && inR e.To 0 (many - 1) && !(e.From == e.To) && inR e.Kind 1 4
def edgesV (many : Int) (xs : List Edge) : Bool := inR many 0 6 && decide (xs.length ≤ 144) && xs.all (edgeOk many)

set_option maxRecDepth 10000 in
set_option maxHeartbeats 1000000 in
theorem specEdgesValid (many : Int) (xs : List Edge) (A : Option Addr) (c : Nat) (w : World) (hl : xs.length ≤ maxLen) (hA : Row tEdge w (Old w) A xs) :
    Calls Tryz.prog 59 #[.int .i64 many, .slice A xs.length c] w fun e w' => e = .returned (.bool (edgesV many xs)) ∧ Below w.heap.size w w' := by
  unfold maxLen at hl
  have HA := hide hA
  clear hA
  by_cases hm : inR many 0 6 = true
  · obtain ⟨hm1, hm2⟩ := inR_iff.1 hm
    have HM := hide hm
    go_enter Tryz.func59, Tryz.ntmps59
    go_wp2
    go_loopw [5] (fun i wr => ∃ k : Nat, k ≤ xs.length ∧ i = .int .i64 k ∧ Hid (Upto (edgeOk many) xs k) ∧ Below w.heap.size w wr) (fun i _ => xs.length - (intOf i).toNat)
    case atStart => exact ⟨0, Nat.zero_le _, rfl, Upto.zero, Below.refl _ _⟩
    case round =>
      obtain ⟨k, hk, rfl, hI, hb⟩ := hrel
      by_cases hlt : k < xs.length
      · obtain ⟨b, off, rfl, hbS, c0, c1, c2⟩ := at_Edge HA.out hb hlt
        have HEx := hide (show edgeOk many xs[k] = (inR xs[k].From 0 (many - 1) && inR xs[k].To 0 (many - 1) && !(xs[k].From == xs[k].To) && inR xs[k].Kind 1 4) from rfl)
        cases q1 : inR xs[k].From 0 (many - 1) with
        | false =>
          have HO := hide (show edgeOk many xs[k] = false by rw [HEx.out, q1]; rfl)
          go_wp2_with (go_at_call 96; refine (l1In _ _ _ _).mono ?_; rintro e w' ⟨rfl, rfl⟩)
          go_ret
          exact ⟨ret_bool (by unfold edgesV; rw [all_false hlt HO.out, Bool.and_false]), hb.alloc hb.size _⟩
        | true =>
          cases q2 : inR xs[k].To 0 (many - 1) with
          | false =>
            have HO := hide (show edgeOk many xs[k] = false by rw [HEx.out, q2, Bool.and_false]; rfl)
            go_wp2_with (go_at_call 96; refine (l1In _ _ _ _).mono ?_; rintro e w' ⟨rfl, rfl⟩)
            go_ret
            exact ⟨ret_bool (by unfold edgesV; rw [all_false hlt HO.out, Bool.and_false]), hb.alloc hb.size _⟩
          | true =>
            cases q3 : (xs[k].From == xs[k].To) with
            | true =>
              have HO := hide (show edgeOk many xs[k] = false by rw [HEx.out, q3, Bool.not_true, Bool.and_false]; rfl)
              go_wp2_with (go_at_call 96; refine (l1In _ _ _ _).mono ?_; rintro e w' ⟨rfl, rfl⟩)
              go_ret
              exact ⟨ret_bool (by unfold edgesV; rw [all_false hlt HO.out, Bool.and_false]), hb.alloc hb.size _⟩
            | false =>
              cases q4 : inR xs[k].Kind 1 4 with
              | false =>
                have HO := hide (show edgeOk many xs[k] = false by rw [HEx.out, q4, Bool.and_false])
                go_wp2_with (go_at_call 96; refine (l1In _ _ _ _).mono ?_; rintro e w' ⟨rfl, rfl⟩)
                go_ret
                exact ⟨ret_bool (by unfold edgesV; rw [all_false hlt HO.out, Bool.and_false]), hb.alloc hb.size _⟩
              | true =>
                have HO := hide (show edgeOk many xs[k] = true by rw [HEx.out, q1, q2, q3, q4]; rfl)
                go_wp2_with (go_at_call 96; refine (l1In _ _ _ _).mono ?_; rintro e w' ⟨rfl, rfl⟩)
                go_roundw
                case rel => exact ⟨k + 1, by omega, by go_num, hI.out.succ hlt HO.out, hb.alloc hb.size _⟩
                case measure => simp [intOf]; omega
      · obtain rfl : k = xs.length := by omega
        have HV := hide (show edgesV many xs = decide (xs.length ≤ 144) by unfold edgesV; rw [HM.out, hI.out.all, Bool.and_true, Bool.true_and])
        clear hI
        go_wp2_with (go_at_call 96; refine (l1In _ _ _ _).mono ?_; rintro e w' ⟨rfl, rfl⟩)
        go_ret
        exact ⟨ret_bool (by rw [HV.out]; simp; try omega), hb⟩
  · have hm' : inR many 0 6 = false := by simpa using hm
    have HV := hide (show edgesV many xs = false by unfold edgesV; rw [hm']; rfl)
    clear hm
    go_enter Tryz.func59, Tryz.ntmps59
    go_wp2
    go_loopw [5] (fun i wr => ∃ k : Nat, k ≤ xs.length ∧ i = .int .i64 k ∧ Below w.heap.size w wr) (fun i _ => xs.length - (intOf i).toNat)
    case atStart => exact ⟨0, Nat.zero_le _, rfl, Below.refl _ _⟩
    case round =>
      obtain ⟨k, hk, rfl, hb⟩ := hrel
      by_cases hlt : k < xs.length
      · obtain ⟨b, off, rfl, hbS, c0, c1, c2⟩ := at_Edge HA.out hb hlt
        go_wp2_with (go_at_call 96; refine (l1In _ _ _ _).mono ?_; rintro e w' ⟨rfl, rfl⟩)
        all_goals first
          | (go_ret
             exact ⟨ret_bool HV.out.symm, hb.alloc hb.size _⟩)
          | (go_roundw
             case rel => exact ⟨k + 1, by omega, by go_num, hb.alloc hb.size _⟩
             case measure => simp [intOf]; omega)
      · go_wp2_with (go_at_call 96; refine (l1In _ _ _ _).mono ?_; rintro e w' ⟨rfl, rfl⟩)
        go_ret
        exact ⟨ret_bool HV.out.symm, hb⟩

set_option maxHeartbeats 400000 in
theorem edgeLit (many : Int) (x : Edge) (B : Nat) (w : World) (h1 : 0 ≤ many) (h2 : many ≤ 6) (hB : B < w.heap.size) (hc : w.cell? ⟨B, 0, none⟩ = some (.int .i64 many)) :
    Calls Tryz.prog 121 #[.agg #[.int .i64 x.From, .int .i64 x.To, .int .i64 x.Kind], .pointer (some ⟨B, 0, none⟩)] w fun e w' => e = .returned (.bool (!edgeOk many x)) ∧ Below w.heap.size w w' := by
  have HB := hide (show Below w.heap.size w (w.alloc (.cells #[.int .i64 x.From, .int .i64 x.To, .int .i64 x.Kind] 86)) from (Below.refl _ _).alloc (Nat.le_refl _) _)
  have hc' : ∀ o, (w.alloc o).cell? ⟨B, 0, none⟩ = some (.int .i64 many) := fun o => (World.cell?_alloc_lt w o ⟨B, 0, none⟩ hB).trans hc
  clear hc
  have HEx := hide (show edgeOk many x = (inR x.From 0 (many - 1) && inR x.To 0 (many - 1) && !(x.From == x.To) && inR x.Kind 1 4) from rfl)
  cases q1 : inR x.From 0 (many - 1) with
  | false =>
    have HO := hide (show edgeOk many x = false by rw [HEx.out, q1]; rfl)
    go_enter Tryz.func121, Tryz.ntmps121
    go_wp2_with (go_at_call 114; refine (within _ _ _ _).mono ?_; rintro e w' ⟨rfl, rfl⟩)
    go_ret
    exact ⟨ret_bool (by rw [HO.out]; rfl), HB.out⟩
  | true =>
    cases q2 : inR x.To 0 (many - 1) with
    | false =>
      have HO := hide (show edgeOk many x = false by rw [HEx.out, q2, Bool.and_false]; rfl)
      go_enter Tryz.func121, Tryz.ntmps121
      go_wp2_with (go_at_call 114; refine (within _ _ _ _).mono ?_; rintro e w' ⟨rfl, rfl⟩)
      go_ret
      exact ⟨ret_bool (by rw [HO.out]; rfl), HB.out⟩
    | true =>
      cases q3 : (x.From == x.To) with
      | true =>
        have HO := hide (show edgeOk many x = false by rw [HEx.out, q3, Bool.not_true, Bool.and_false]; rfl)
        go_enter Tryz.func121, Tryz.ntmps121
        go_wp2_with (go_at_call 114; refine (within _ _ _ _).mono ?_; rintro e w' ⟨rfl, rfl⟩)
        go_ret
        exact ⟨ret_bool (by rw [HO.out]; rfl), HB.out⟩
      | false =>
        have HO := hide (show edgeOk many x = inR x.Kind 1 4 by rw [HEx.out, q1, q2, q3]; rfl)
        go_enter Tryz.func121, Tryz.ntmps121
        go_wp2_with (go_at_call 114; refine (within _ _ _ _).mono ?_; rintro e w' ⟨rfl, rfl⟩)
        go_ret
        exact ⟨ret_bool (by rw [HO.out]), HB.out⟩

set_option maxHeartbeats 400000 in
theorem implEdgesValid (many : Int) (xs : List Edge) (A : Option Addr) (c : Nat) (w : World) (hl : xs.length ≤ maxLen) (hA : Row tEdge w (Old w) A xs) :
    Calls Tryz.prog 83 #[.int .i64 many, .slice A xs.length c] w fun e w' => e = .returned (.bool (edgesV many xs)) ∧ Below w.heap.size w w' := by
  have hb0 : Below w.heap.size w (w.alloc (.cells #[.int .i64 many] 3)) := (Below.refl _ _).alloc (Nat.le_refl _) _
  have HB0 := hide hb0
  by_cases hm : inR many 0 6 = true
  · obtain ⟨hm1, hm2⟩ := inR_iff.1 hm
    by_cases h144 : xs.length ≤ 144
    · have hc0 : (w.alloc (.cells #[.int .i64 many] 3)).cell? ⟨w.heap.size, 0, none⟩ = some (.int .i64 many) := by simp
      have hcont := hide (cont_Edge xs A c (w.alloc (.cells #[.int .i64 many] 3)) 121 #[.pointer (some ⟨w.heap.size, 0, none⟩)] (fun x => !edgeOk many x) (enters_of Tryz.func121 (by kernel_rfl) rfl) hl (hA.old hb0)
        (fun x _ cs hr W hW => by
          obtain rfl := hr
          exact (edgeLit many x w.heap.size W hm1 hm2 (Nat.lt_of_lt_of_le (by simp) hW.size) ((hW.cell (p := ⟨w.heap.size, 0, none⟩) (by simp)).trans hc0)).mono (by rintro e w' ⟨rfl, hb⟩; exact ⟨rfl, hW.trans (hb.mono hW.size)⟩)))
      have HR := hide (show (!(xs.any fun x => !edgeOk many x)) = edgesV many xs by unfold edgesV; rw [hm, List.any_eq_not_all_not]; simp [h144])
      clear hA hb0 hc0
      unfold maxLen at hl
      go_enter Tryz.func83, Tryz.ntmps83
      go_wp2_with (first | (go_at_call 114; refine (within _ _ _ _).mono ?_; rintro e w' ⟨rfl, rfl⟩) | (go_at_call 120; refine hcont.out.mono ?_; rintro e w' ⟨rfl, hb'⟩))
      go_ret
      exact ⟨ret_bool HR.out, HB0.out.trans (hb'.mono (by simp))⟩
    · have HR := hide (show edgesV many xs = false by unfold edgesV; simp [h144])
      clear hA hb0
      unfold maxLen at hl
      go_enter Tryz.func83, Tryz.ntmps83
      go_wp2_with (go_at_call 114; refine (within _ _ _ _).mono ?_; rintro e w' ⟨rfl, rfl⟩)
      go_ret
      exact ⟨ret_bool HR.out.symm, HB0.out⟩
  · have hm' : inR many 0 6 = false := by simpa using hm
    have HR := hide (show edgesV many xs = false by unfold edgesV; rw [hm']; rfl)
    clear hm hA hb0
    go_enter Tryz.func83, Tryz.ntmps83
    go_wp2_with (go_at_call 114; refine (within _ _ _ _).mono ?_; rintro e w' ⟨rfl, rfl⟩)
    go_ret
    exact ⟨ret_bool HR.out.symm, HB0.out⟩
def farStep (s : Nat) (F : List Int) (e : Edge) : List Int := if F.getD e.To.toNat 0 = (s : Int) ∧ F.getD e.From.toNat 0 < 0 then F.set e.From.toNat ((s : Int) + 1) else F
def farRow (s : Nat) (xs : List Edge) (F : List Int) : List Int := xs.foldl (farStep s) F
theorem farRow_succ (s : Nat) (xs : List Edge) (F : List Int) (k : Nat) (h : k < xs.length) : farRow s (xs.take (k + 1)) F = farStep s (farRow s (xs.take k) F) xs[k] := by
  unfold farRow
  rw [List.take_succ_eq_append_getElem h, List.foldl_append]
  rfl
def farN (xs : List Edge) : Nat → List Int → List Int
  | 0, F => F
  | s + 1, F => farRow s xs (farN xs s F)
def farS (many : Nat) (xs : List Edge) (t : Nat) : List Int := farN xs many ((List.replicate many (-1)).set t 0)
theorem farStep_len (s : Nat) (F : List Int) (e : Edge) : (farStep s F e).length = F.length := by
  unfold farStep; split <;> simp
theorem farRow_len (s : Nat) : ∀ (xs : List Edge) (F : List Int), (farRow s xs F).length = F.length
  | [], _ => rfl
  | e :: xs, F => by
    have := farRow_len s xs (farStep s F e)
    unfold farRow at this ⊢
    rw [List.foldl_cons, this, farStep_len]
theorem farN_len (xs : List Edge) (F : List Int) : ∀ s, (farN xs s F).length = F.length
  | 0 => rfl
  | s + 1 => by rw [farN, farRow_len, farN_len xs F s]
theorem farS_len (many : Nat) (xs : List Edge) (t : Nat) : (farS many xs t).length = many := by
  unfold farS; rw [farN_len]; simp
theorem farStep_bd {s : Nat} {n : Int} {F : List Int} {e : Edge} (h : ∀ v ∈ F, -1 ≤ v ∧ v ≤ n) (hn : (s : Int) + 1 ≤ n) : ∀ v ∈ farStep s F e, -1 ≤ v ∧ v ≤ n := by
  intro v hv
  unfold farStep at hv
  split at hv
  · rcases List.mem_or_eq_of_mem_set hv with h1 | h1
    · exact h v h1
    · omega
  · exact h v hv
theorem farRow_bd {s : Nat} {n : Int} (hn : (s : Int) + 1 ≤ n) : ∀ {xs : List Edge} {F : List Int}, (∀ v ∈ F, -1 ≤ v ∧ v ≤ n) → ∀ v ∈ farRow s xs F, -1 ≤ v ∧ v ≤ n
  | [], _, h => h
  | e :: xs, F, h => by
    have := farRow_bd hn (xs := xs) (farStep_bd (e := e) h hn)
    unfold farRow at this ⊢
    rwa [List.foldl_cons]
theorem farN_bd {xs : List Edge} {F : List Int} (h : ∀ v ∈ F, -1 ≤ v ∧ v ≤ 0) : ∀ s, ∀ v ∈ farN xs s F, -1 ≤ v ∧ v ≤ (s : Int)
  | 0 => h
  | s + 1 => by
    rw [farN]
    refine farRow_bd (by omega) fun v hv => ?_
    have := farN_bd h s v hv
    omega
theorem farS_bd (many : Nat) (xs : List Edge) (t : Nat) : ∀ v ∈ farS many xs t, -1 ≤ v ∧ v ≤ (many : Int) := by
  unfold farS
  refine farN_bd (fun v hv => ?_) many
  rcases List.mem_or_eq_of_mem_set hv with h1 | h1
  · rw [List.eq_of_mem_replicate h1]; decide
  · rw [h1]; decide
def bestStep (F : List Int) (s : Int) (b : Int) (e : Edge) : Int := if e.From = s ∧ 0 ≤ F.getD e.To.toNat 0 ∧ (b < 0 ∨ F.getD e.To.toNat 0 < b) then F.getD e.To.toNat 0 else b
def bestS (xs : List Edge) (F : List Int) (s : Int) : Int := xs.foldl (bestStep F s) (-1)
theorem bestS_succ (xs : List Edge) (F : List Int) (s : Int) (k : Nat) (h : k < xs.length) : bestS (xs.take (k + 1)) F s = bestStep F s (bestS (xs.take k) F s) xs[k] := by
  unfold bestS
  rw [List.take_succ_eq_append_getElem h, List.foldl_append]
  rfl
theorem getD_bd {F : List Int} {n : Int} (h : ∀ v ∈ F, -1 ≤ v ∧ v ≤ n) (hn : 0 ≤ n) (k : Nat) : -1 ≤ F.getD k 0 ∧ F.getD k 0 ≤ n := by
  rw [List.getD_eq_getElem?_getD]
  cases hk : F[k]? with
  | none => simp; omega
  | some v => exact h v (List.mem_of_getElem? hk)
theorem bestS_bd {F : List Int} {s n : Int} (h : ∀ v ∈ F, -1 ≤ v ∧ v ≤ n) (hn : 0 ≤ n) (xs : List Edge) : -1 ≤ bestS xs F s ∧ bestS xs F s ≤ n := by
  unfold bestS
  suffices H : ∀ (xs : List Edge) (b : Int), -1 ≤ b → b ≤ n → -1 ≤ xs.foldl (bestStep F s) b ∧ xs.foldl (bestStep F s) b ≤ n from H xs (-1) (by omega) (by omega)
  intro xs
  induction xs with
  | nil => intro b h1 h2; exact ⟨h1, h2⟩
  | cons e xs ih =>
    intro b h1 h2
    have := getD_bd h hn e.To.toNat
    refine ih _ ?_ ?_
    · unfold bestStep; split <;> omega
    · unfold bestStep; split <;> omega
def nextStep (F : List Int) (a l : Int) (n : Int) (e : Edge) : Int := if e.From = a ∧ F.getD e.To.toNat 0 = l then min n e.To else n
def nextS (xs : List Edge) (F : List Int) (a l : Int) (many : Int) : Int := xs.foldl (nextStep F a l) many
theorem nextS_succ (xs : List Edge) (F : List Int) (a l many : Int) (k : Nat) (h : k < xs.length) : nextS (xs.take (k + 1)) F a l many = nextStep F a l (nextS (xs.take k) F a l many) xs[k] := by
  unfold nextS
  rw [List.take_succ_eq_append_getElem h, List.foldl_append]
  rfl
/-- The way back from a number, so many steps. -/
def wayS (xs : List Edge) (F : List Int) (many : Int) : Nat → Int → List Int
  | 0, _ => []
  | l + 1, a => nextS xs F a ((l : Int) + 1) many :: wayS xs F many l (nextS xs F a ((l : Int) + 1) many)
theorem wayS_len (xs : List Edge) (F : List Int) (many : Int) : ∀ l a, (wayS xs F many l a).length = l
  | 0, _ => rfl
  | l + 1, a => by rw [wayS, List.length_cons, wayS_len xs F many l]
/-- The cycle from the first number on that has one. -/
def cycFrom (xs : List Edge) (many : Nat) : Nat → Nat → List Int
  | 0, _ => []
  | f + 1, s => if bestS xs (farS many xs s) (s : Int) < 0 then cycFrom xs many f (s + 1) else (s : Int) :: wayS xs (farS many xs s) (many : Int) (bestS xs (farS many xs s) (s : Int)).toNat (s : Int)
def cycO (many : Int) (xs : List Edge) : List Int := if edgesV many xs then cycFrom xs many.toNat many.toNat 0 else []
theorem cycFrom_len (xs : List Edge) (many : Nat) : ∀ f s, (cycFrom xs many f s).length ≤ many + 1
  | 0, _ => Nat.zero_le _
  | f + 1, s => by
    rw [cycFrom]
    split
    · exact cycFrom_len xs many f (s + 1)
    · rw [List.length_cons, wayS_len]
      have := bestS_bd (s := (s : Int)) (farS_bd many xs s) (by omega) xs
      omega
theorem edgeOk_iff {many : Int} {e : Edge} (h : edgeOk many e = true) : (0 ≤ e.From ∧ e.From ≤ many - 1) ∧ (0 ≤ e.To ∧ e.To ≤ many - 1) ∧ (1 ≤ e.Kind ∧ e.Kind ≤ 4) := by
  unfold edgeOk at h
  simp only [Bool.and_eq_true, inR_iff] at h
  exact ⟨h.1.1.1, h.1.1.2, h.2⟩
def addEdge (M : Nat → Nat) (e : Edge) : Nat → Nat := fun i => if (i : Int) = e.From then M i ||| 2 ^ e.To.toNat else M i
def stepEdge (ks : List Int) (M : Nat → Nat) (e : Edge) : Nat → Nat := if ks.any (fun y => e.Kind == y) then addEdge M e else M
def matOf (ks : List Int) (xs : List Edge) : Nat → Nat := xs.foldl (stepEdge ks) (fun _ => 0)
theorem matOf_succ (ks : List Int) (xs : List Edge) (k : Nat) (h : k < xs.length) : matOf ks (xs.take (k + 1)) = stepEdge ks (matOf ks (xs.take k)) xs[k] := by
  unfold matOf
  rw [List.take_succ_eq_append_getElem h, List.foldl_append]
  rfl
theorem stepEdge_lt {ks : List Int} {many : Int} (hm : many ≤ 6) {M : Nat → Nat} {e : Edge} (he : edgeOk many e = true) (hM : ∀ i, M i < 64) (i : Nat) : stepEdge ks M e i < 64 := by
  obtain ⟨-, h2, -⟩ := edgeOk_iff he
  unfold stepEdge
  split
  · unfold addEdge
    split
    · have h1 : (2 : Nat) ^ e.To.toNat < 2 ^ 6 := Nat.pow_lt_pow_right (by decide) (by omega)
      exact Nat.or_lt_two_pow (n := 6) (hM i) h1
    · exact hM i
  · exact hM i
theorem matOf_lt {ks : List Int} {many : Int} (hm : many ≤ 6) : ∀ (xs : List Edge) (M : Nat → Nat), xs.all (edgeOk many) = true → (∀ i, M i < 64) → ∀ i, xs.foldl (stepEdge ks) M i < 64
  | [], M, _, hM, i => hM i
  | e :: xs, M, h, hM, i => by
    rw [List.all_cons, Bool.and_eq_true] at h
    exact matOf_lt hm xs (stepEdge ks M e) h.2 (stepEdge_lt hm h.1 hM) i
theorem stepEdge_bit {ks : List Int} {many : Int} {M : Nat → Nat} {e : Edge} (he : edgeOk many e = true) (i j : Nat) :
    (stepEdge ks M e i).testBit j = ((M i).testBit j || (ks.any (fun y => e.Kind == y) && (e.From == (i : Int) && e.To == (j : Int)))) := by
  obtain ⟨-, h2, -⟩ := edgeOk_iff he
  unfold stepEdge
  cases hk : ks.any (fun y => e.Kind == y) with
  | false => simp
  | true =>
    simp only [if_true, Bool.true_and]
    unfold addEdge
    by_cases hi : (i : Int) = e.From
    · rw [if_pos hi, Nat.testBit_or, Nat.testBit_two_pow]
      have : (e.From == (i : Int)) = true := by simp [hi]
      rw [this, Bool.true_and]
      congr 1
      rw [Bool.eq_iff_iff]
      simp
      omega
    · rw [if_neg hi]
      have : (e.From == (i : Int)) = false := by simp; omega
      rw [this, Bool.false_and, Bool.or_false]
theorem matOf_bit {ks : List Int} {many : Int} (i j : Nat) : ∀ (xs : List Edge) (M : Nat → Nat), xs.all (edgeOk many) = true →
    (xs.foldl (stepEdge ks) M i).testBit j = ((M i).testBit j || xs.any (fun e => ks.any (fun y => e.Kind == y) && (e.From == (i : Int) && e.To == (j : Int))))
  | [], M, _ => by simp
  | e :: xs, M, h => by
    rw [List.all_cons, Bool.and_eq_true] at h
    rw [List.foldl_cons, matOf_bit i j xs (stepEdge ks M e) h.2, stepEdge_bit h.1, List.any_cons, Bool.or_assoc]
def hasE (xs : List Edge) (a b : Int) : Bool := xs.any (fun e => e.From == a && e.To == b)
theorem kind_any {many : Int} {e : Edge} (h : edgeOk many e = true) : [1, 2, 3, 4].any (fun y => e.Kind == y) = true := by
  obtain ⟨-, -, h3⟩ := edgeOk_iff h
  simp
  omega
theorem any_ext {α : Type} {p q : α → Bool} : ∀ (xs : List α), (∀ x ∈ xs, p x = q x) → xs.any p = xs.any q
  | [], _ => rfl
  | x :: xs, h => by rw [List.any_cons, List.any_cons, h x (by simp), any_ext xs (fun y hy => h y (by simp [hy]))]
theorem all_of {many : Int} {xs : List Edge} (h : xs.all (edgeOk many) = true) {e : Edge} (he : e ∈ xs) : edgeOk many e = true := List.all_eq_true.1 h e he
theorem allOf_bit {many : Int} {xs : List Edge} (h : xs.all (edgeOk many) = true) (i j : Nat) : (matOf [1, 2, 3, 4] xs i).testBit j = hasE xs i j := by
  unfold matOf hasE
  rw [matOf_bit i j xs _ h]
  simp only [Nat.zero_testBit, Bool.false_or]
  exact any_ext xs (fun e he => by rw [kind_any (all_of h he), Bool.true_and])
theorem hasE_in {many : Int} {xs : List Edge} (h : xs.all (edgeOk many) = true) {a b : Int} (he : hasE xs a b = true) : inR a 0 (many - 1) = true ∧ inR b 0 (many - 1) = true := by
  unfold hasE at he
  obtain ⟨e, hm, hq⟩ := List.any_eq_true.1 he
  obtain ⟨h1, h2, -⟩ := edgeOk_iff (all_of h hm)
  simp only [Bool.and_eq_true, beq_iff_eq] at hq
  exact ⟨inR_iff.2 ⟨by omega, by omega⟩, inR_iff.2 ⟨by omega, by omega⟩⟩
/-- the number at a place. -/
def at_ (ns : List Int) (k : Nat) : Int := ns.getD k 0
/-- the reference's question at a place. -/
def stepS (xs : List Edge) (ns : List Int) (k : Nat) : Bool := hasE xs (at_ ns k) (at_ ns ((k + 1) % ns.length)) && ns.countP (fun y => y == at_ ns k) == 1
/-- the program's question at a place. -/
def stepI (xs : List Edge) (ns : List Int) (k : Nat) : Bool := hasE xs (at_ ns k) (at_ ns ((k + 1) % ns.length)) && !(ns.take k).any (fun y => y == at_ ns k)
theorem at_get {ns : List Int} {k : Nat} (h : k < ns.length) : at_ ns k = ns[k] := by unfold at_; simp [h]
theorem once {ns : List Int} : (∀ k, k < ns.length → ns.countP (fun y => y == at_ ns k) = 1) ↔ (∀ k, k < ns.length → (ns.take k).any (fun y => y == at_ ns k) = false) := by
  constructor
  · intro h k hk
    have h1 := h k hk
    cases hq : (ns.take k).any (fun y => y == at_ ns k) with
    | false => rfl
    | true =>
      exfalso
      have hsplit : ns = ns.take k ++ ns.drop k := (List.take_append_drop k ns).symm
      have h2 : 0 < (ns.take k).countP (fun y => y == at_ ns k) := by
        rw [List.countP_pos_iff]
        obtain ⟨x, hx, hxe⟩ := List.any_eq_true.1 hq
        exact ⟨x, hx, hxe⟩
      have h3 : 0 < (ns.drop k).countP (fun y => y == at_ ns k) := by
        rw [List.drop_eq_getElem_cons hk, List.countP_cons, at_get hk]
        simp
      have h4 := List.countP_append (p := fun y => y == at_ ns k) (l₁ := ns.take k) (l₂ := ns.drop k)
      rw [List.take_append_drop] at h4
      omega
  · intro h k hk
    have hsplit := List.countP_append (p := fun y => y == at_ ns k) (l₁ := ns.take k) (l₂ := ns.drop k)
    rw [List.take_append_drop] at hsplit
    have h0 : (ns.take k).countP (fun y => y == at_ ns k) = 0 := by
      rw [List.countP_eq_zero]
      intro x hx hxe
      have := h k hk
      rw [List.any_eq_false] at this
      exact this x hx hxe
    have h1 : (ns.drop (k + 1)).countP (fun y => y == at_ ns k) = 0 := by
      rw [List.countP_eq_zero]
      intro x hx hxe
      obtain ⟨m, hm, rfl⟩ := List.mem_iff_getElem.1 hx
      rw [List.length_drop] at hm
      rw [List.getElem_drop] at hxe
      have hm' : k + 1 + m < ns.length := by omega
      have := h (k + 1 + m) hm'
      rw [List.any_eq_false] at this
      refine this (at_ ns k) ?_ ?_
      · rw [at_get hk, List.mem_take_iff_getElem]
        exact ⟨k, by omega, rfl⟩
      · rw [at_get hm']
        simp at hxe
        simp [hxe]
    rw [hsplit, h0, List.drop_eq_getElem_cons hk, List.countP_cons, h1, at_get hk]
    simp
def cycS (xs : List Edge) (ns : List Int) : Bool := (List.range ns.length).all (stepS xs ns)
def cycI (xs : List Edge) (ns : List Int) : Bool := (List.range ns.length).all (stepI xs ns)
theorem cyc_eq (xs : List Edge) (ns : List Int) : cycS xs ns = cycI xs ns := by
  rw [Bool.eq_iff_iff]
  unfold cycS cycI
  rw [List.all_eq_true, List.all_eq_true]
  simp only [List.mem_range]
  unfold stepS stepI
  simp only [Bool.and_eq_true, beq_iff_eq, Bool.not_eq_true']
  constructor
  · intro h k hk
    exact ⟨(h k hk).1, once.1 (fun k hk => (h k hk).2) k hk⟩
  · intro h k hk
    exact ⟨(h k hk).1, once.2 (fun k hk => (h k hk).2) k hk⟩
theorem range_upto {p : Nat → Bool} {n : Nat} (h : ∀ j, j < n → p j = true) : (List.range n).all p = true := List.all_eq_true.2 (fun x hx => h x (List.mem_range.1 hx))
theorem range_not {p : Nat → Bool} {n k : Nat} (hk : k < n) (h : p k = false) : (List.range n).all p = false := by
  rw [List.all_eq_false]
  exact ⟨k, List.mem_range.2 hk, by simp [h]⟩
/-- a set of numbers as bits. -/
theorem seen_succ {ns : List Int} {k s n : Nat} (h : k < ns.length) (he : at_ ns k = (n : Int)) (hs : ∀ j, s.testBit j = (ns.take k).any (fun y => y == (j : Int))) (j : Nat) :
    (s ||| 2 ^ n).testBit j = (ns.take (k + 1)).any (fun y => y == (j : Int)) := by
  rw [Nat.testBit_or, hs, List.take_succ_eq_append_getElem h, List.any_append, Nat.testBit_two_pow]
  congr 1
  rw [at_get h] at he
  rw [Bool.eq_iff_iff]
  simp [he]
  omega
theorem bit_shift (x j : Nat) : x / 2 ^ j % 2 = (if x.testBit j then 1 else 0) := by
  rw [Nat.testBit_eq_decide_div_mod_eq]
  have := Nat.mod_two_eq_zero_or_one (x / 2 ^ j)
  split <;> simp_all
/-- A way of one edge or more, all numbers between its ends below k. -/
inductive Via (E : Nat → Nat → Bool) (k : Nat) : Nat → Nat → Prop
  | edge {i j : Nat} : E i j = true → Via E k i j
  | step {i m j : Nat} : Via E k i m → m < k → Via E k m j → Via E k i j
theorem Via.up {E : Nat → Nat → Bool} {k k' : Nat} (hk : k ≤ k') {i j : Nat} (h : Via E k i j) : Via E k' i j := by
  induction h with
  | edge h => exact .edge h
  | step _ hm _ h1 h2 => exact .step h1 (by omega) h2
theorem via_succ {E : Nat → Nat → Bool} {k i j : Nat} : Via E (k + 1) i j ↔ Via E k i j ∨ (Via E k i k ∧ Via E k k j) := by
  constructor
  · intro h
    induction h with
    | edge h => exact .inl (.edge h)
    | @step i m j _ hm _ h1 h2 =>
      by_cases hmk : m = k
      · subst hmk
        rcases h1 with h1 | ⟨h1, _⟩ <;> rcases h2 with h2 | ⟨_, h2⟩ <;> exact .inr ⟨h1, h2⟩
      · have hm : m < k := by omega
        rcases h1 with h1 | ⟨h1, h1'⟩ <;> rcases h2 with h2 | ⟨h2, h2'⟩
        · exact .inl (.step h1 hm h2)
        · exact .inr ⟨.step h1 hm h2, h2'⟩
        · exact .inr ⟨h1, .step h1' hm h2⟩
        · exact .inr ⟨h1, h2'⟩
  · rintro (h | ⟨h1, h2⟩)
    · exact h.up (Nat.le_succ k)
    · exact .step (h1.up (Nat.le_succ k)) (Nat.lt_succ_self k) (h2.up (Nat.le_succ k))
/-- One round of the closure. -/
def wRow (M : Nat → Nat) (k : Nat) : Nat → Nat := fun i => if (M i).testBit k then M i ||| M k else M i
def wN (M : Nat → Nat) : Nat → Nat → Nat
  | 0 => M
  | k + 1 => wRow (wN M k) k
/-- A round that has come to row n. -/
def wPart (M : Nat → Nat) (k n : Nat) : Nat → Nat := fun i => if i < n then wRow M k i else M i
theorem wRow_self (M : Nat → Nat) (k : Nat) : wRow M k k = M k := by
  unfold wRow; split <;> simp
theorem wPart_self (M : Nat → Nat) (k n : Nat) : wPart M k n k = M k := by
  unfold wPart; split
  · exact wRow_self M k
  · rfl
theorem wPart_at (M : Nat → Nat) (k n : Nat) : wPart M k n n = M n := by
  unfold wPart; rw [if_neg (Nat.lt_irrefl n)]
theorem wPart_succ (M : Nat → Nat) (k n : Nat) : wPart M k (n + 1) = fun i => if i = n then wRow M k n else wPart M k n i := by
  funext i
  unfold wPart
  by_cases h : i = n
  · subst h; simp
  · rw [if_neg h]
    by_cases h2 : i < n
    · rw [if_pos h2, if_pos (by omega)]
    · rw [if_neg h2, if_neg (by omega)]
theorem wRow_lt {M : Nat → Nat} (h : ∀ i, M i < 64) (k i : Nat) : wRow M k i < 64 := by
  unfold wRow; split
  · exact Nat.or_lt_two_pow (n := 6) (h i) (h k)
  · exact h i
theorem wN_lt {M : Nat → Nat} (h : ∀ i, M i < 64) : ∀ k i, wN M k i < 64
  | 0, i => h i
  | k + 1, i => wRow_lt (wN_lt h k) k i
def bitE (M : Nat → Nat) : Nat → Nat → Bool := fun i j => (M i).testBit j
theorem wN_via (M : Nat → Nat) : ∀ k i j, (wN M k i).testBit j = true ↔ Via (bitE M) k i j
  | 0, i, j => by
    constructor
    · intro h; exact .edge h
    · intro h
      cases h with
      | edge h => exact h
      | step _ h _ => omega
  | k + 1, i, j => by
    rw [via_succ, ← wN_via M k i j, ← wN_via M k i k, ← wN_via M k k j]
    show (wRow (wN M k) k i).testBit j = true ↔ _
    unfold wRow
    cases h : (wN M k i).testBit k with
    | true => simp
    | false => simp

/-- A way of l edges from n to s. -/
def Wk (E : Nat → Nat → Bool) (s : Nat) : Nat → Nat → Prop
  | 0, n => n = s
  | l + 1, n => ∃ m, E n m = true ∧ Wk E s l m
theorem Wk.comp {E : Nat → Nat → Bool} {m s b : Nat} (h2 : Wk E s b m) : ∀ {a n : Nat}, Wk E m a n → Wk E s (a + b) n
  | 0, n, h => by
    have : n = m := h
    subst this
    rwa [Nat.zero_add]
  | a + 1, n, ⟨x, hx, h⟩ => by
    rw [Nat.succ_add]
    exact ⟨x, hx, Wk.comp h2 h⟩
theorem Via.wk {E : Nat → Nat → Bool} {k i j : Nat} (h : Via E k i j) : ∃ l, Wk E j (l + 1) i := by
  induction h with
  | @edge i j h => exact ⟨0, j, h, rfl⟩
  | @step i m j _ _ _ h1 h2 =>
    obtain ⟨a, ha⟩ := h1
    obtain ⟨b, hb⟩ := h2
    exact ⟨a + 1 + b, hb.comp ha⟩
theorem Wk.via {E : Nat → Nat → Bool} {N s : Nat} (hE : ∀ i j, E i j = true → j < N) : ∀ {l n : Nat}, Wk E s (l + 1) n → Via E N n s
  | 0, n, ⟨m, hm, h⟩ => by
    have : m = s := h
    subst this
    exact .edge hm
  | l + 1, n, ⟨m, hm, h⟩ => .step (.edge hm) (hE n m hm) (Wk.via hE h)
/-- The shortest ways of one edge or more have l edges. -/
def Sh1 (E : Nat → Nat → Bool) (s n l : Nat) : Prop := 1 ≤ l ∧ Wk E s l n ∧ ∀ l', 1 ≤ l' → l' < l → ¬ Wk E s l' n
/-- The shortest ways have l edges. -/
def Sh (E : Nat → Nat → Bool) (s n l : Nat) : Prop := Wk E s l n ∧ ∀ l', l' < l → ¬ Wk E s l' n
section
variable {E : Nat → Nat → Bool} {s : Nat}
theorem Sh1.uniq {n a b : Nat} (h : Sh1 E s n a) (h' : Sh1 E s n b) : a = b := by
  rcases Nat.lt_trichotomy a b with hl | hl | hl
  · exact absurd h.2.1 (h'.2.2 a h.1 hl)
  · exact hl
  · exact absurd h'.2.1 (h.2.2 b h'.1 hl)
theorem Sh.uniq {n a b : Nat} (h : Sh E s n a) (h' : Sh E s n b) : a = b := by
  rcases Nat.lt_trichotomy a b with hl | hl | hl
  · exact absurd h.1 (h'.2 a hl)
  · exact hl
  · exact absurd h'.1 (h.2 b hl)
theorem least_exists (p : Nat → Prop) : ∀ n, p n → ∃ m, m ≤ n ∧ p m ∧ ∀ m', m' < m → ¬ p m' := by
  intro n
  induction n using Nat.strongRecOn with
  | _ n ih =>
    intro hp
    by_cases h : ∃ m, m < n ∧ p m
    · obtain ⟨m, hm, hpm⟩ := h
      obtain ⟨m', h1, h2, h3⟩ := ih m hm hpm
      exact ⟨m', by omega, h2, h3⟩
    · exact ⟨n, Nat.le_refl n, hp, fun m' hm' hpm' => h ⟨m', hm', hpm'⟩⟩
theorem Wk.sh1 {n l : Nat} (h : Wk E s (l + 1) n) : ∃ l', l' ≤ l + 1 ∧ Sh1 E s n l' := by
  obtain ⟨m, h1, ⟨h2, h3⟩, h4⟩ := least_exists (fun x => 1 ≤ x ∧ Wk E s x n) (l + 1) ⟨by omega, h⟩
  exact ⟨m, h1, h2, h3, fun l' a b c => h4 l' b ⟨a, c⟩⟩
theorem Wk.sh {n l : Nat} (h : Wk E s l n) : ∃ l', l' ≤ l ∧ Sh E s n l' := by
  obtain ⟨m, h1, h2, h3⟩ := least_exists (fun x => Wk E s x n) l h
  exact ⟨m, h1, h2, h3⟩
theorem Sh.sh1 {n l : Nat} (h : Sh E s n (l + 1)) : Sh1 E s n (l + 1) := ⟨by omega, h.1, fun l' _ b => h.2 l' b⟩
theorem Sh1.sh {n l : Nat} (h : Sh1 E s n l) (hn : n ≠ s) : Sh E s n l := ⟨h.2.1, fun l' b => by
  match l', b with
  | 0, _ => exact hn
  | l' + 1, b => exact h.2.2 (l' + 1) (by omega) b⟩
/-- The next number on a shortest way. -/
theorem Sh1.next {n l : Nat} (h : Sh1 E s n (l + 1)) : ∃ m, E n m = true ∧ Sh E s m l := by
  obtain ⟨m, hm, hw⟩ := h.2.1
  refine ⟨m, hm, hw, fun l' hl hw' => h.2.2 (l' + 1) (by omega) (by omega) ⟨m, hm, hw'⟩⟩
theorem Sh.below {N n l : Nat} (hE : ∀ i j, E i j = true → i < N ∧ j < N) (h : Sh E s n l) (hs : s < N) : n < N := by
  match l, h with
  | 0, h =>
    have : n = s := h.1
    omega
  | l + 1, h =>
    obtain ⟨m, hm, _⟩ := h.1
    exact (hE n m hm).1
end
/-- Different numbers below N: at most N. -/
theorem nodup_below : ∀ (N : Nat) (l : List Nat), l.Nodup → (∀ x ∈ l, x < N) → l.length ≤ N
  | 0, l, _, h => by
    cases l with
    | nil => simp
    | cons x l => exact absurd (h x (by simp)) (by omega)
  | N + 1, l, hn, h => by
    have h1 := nodup_below N (l.erase N) (hn.erase _) (fun x hx => by
      have h2 := h x (List.mem_of_mem_erase hx)
      have h3 : x ≠ N := fun e => by
        subst e
        exact (List.Nodup.not_mem_erase hn) hx
      omega)
    by_cases hm : N ∈ l
    · have := List.length_erase_of_mem hm
      omega
    · rw [List.erase_of_not_mem hm] at h1
      omega
/-- The numbers on a shortest way: one of each length. -/
theorem Sh.chain {E : Nat → Nat → Bool} {s N : Nat} (hE : ∀ i j, E i j = true → i < N ∧ j < N) (hs : s < N) : ∀ {l n : Nat}, Sh E s n l → ∃ ns : List Nat, ns.length = l + 1 ∧ ns.Nodup ∧ (∀ x ∈ ns, x < N) ∧ ∀ x ∈ ns, ∃ l', l' ≤ l ∧ Sh E s x l'
  | 0, n, h => ⟨[n], rfl, by simp, by simpa using h.below hE hs, fun x hx => ⟨0, Nat.le_refl _, by simp at hx; subst hx; exact h⟩⟩
  | l + 1, n, h => by
    obtain ⟨m, _, hm⟩ := h.sh1.next
    obtain ⟨ns, h1, h2, h3, h4⟩ := Sh.chain hE hs hm
    refine ⟨n :: ns, by simp [h1], List.nodup_cons.2 ⟨fun hmem => ?_, h2⟩, fun x hx => ?_, fun x hx => ?_⟩
    · obtain ⟨l', hl', hsh⟩ := h4 n hmem
      have := h.uniq hsh
      omega
    · rcases List.mem_cons.1 hx with rfl | hx
      · exact h.below hE hs
      · exact h3 x hx
    · rcases List.mem_cons.1 hx with rfl | hx
      · exact ⟨l + 1, Nat.le_refl _, h⟩
      · obtain ⟨l', hl', hsh⟩ := h4 x hx
        exact ⟨l', by omega, hsh⟩
theorem Sh.lt {E : Nat → Nat → Bool} {s N n l : Nat} (hE : ∀ i j, E i j = true → i < N ∧ j < N) (hs : s < N) (h : Sh E s n l) : l < N := by
  obtain ⟨ns, h1, h2, h3, _⟩ := h.chain hE hs
  have := nodup_below N ns h2 h3
  omega
def bStep (E : Nat → Nat → Bool) (a : Nat) (st : List Int × List Int) (i : Nat) : List Int × List Int :=
  if E i a = true ∧ st.1.getD i 0 < 0 then (st.1.set i (st.1.getD a 0 + 1), st.2 ++ [(i : Int)]) else st
def bRow (E : Nat → Nat → Bool) (a : Nat) (st : List Int × List Int) (n : Nat) : List Int × List Int := (List.range n).foldl (bStep E a) st
theorem bRow_succ (E : Nat → Nat → Bool) (a : Nat) (st : List Int × List Int) (n : Nat) : bRow E a st (n + 1) = bStep E a (bRow E a st n) n := by
  unfold bRow; rw [List.range_succ, List.foldl_append]; rfl
def b0Step (E : Nat → Nat → Bool) (s : Nat) (st : List Int × List Int) (i : Nat) : List Int × List Int :=
  if E i s = true then (st.1.set i 1, st.2 ++ [(i : Int)]) else st
def b0 (E : Nat → Nat → Bool) (s n : Nat) : List Int × List Int := (List.range n).foldl (b0Step E s) (List.replicate 6 (-1), [])
theorem b0_succ (E : Nat → Nat → Bool) (s n : Nat) : b0 E s (n + 1) = b0Step E s (b0 E s n) n := by
  unfold b0; rw [List.range_succ, List.foldl_append]; rfl
theorem getD_set6 {F : List Int} {i : Nat} (hi : i < F.length) (v : Int) (n : Nat) : (F.set i v).getD n 0 = if n = i then v else F.getD n 0 := by
  simp only [List.getD_eq_getElem?_getD, List.getElem?_set]
  by_cases h : n = i
  · subst h; simp [hi]
  · rw [if_neg h, if_neg (fun e => h e.symm)]
def unf (F : List Int) : Nat := F.countP (fun v => decide (v < 0))
theorem unf_set {F : List Int} : ∀ {i : Nat} {v : Int}, i < F.length → F.getD i 0 < 0 → 0 ≤ v → unf (F.set i v) + 1 = unf F := by
  induction F with
  | nil => intro i v h; simp at h
  | cons x F ih =>
    intro i v hi hx hv
    cases i with
    | zero =>
      have hx : x < 0 := by simpa using hx
      unfold unf
      simp only [List.set_cons_zero, List.countP_cons]
      simp [hx, show ¬ v < 0 by omega]
    | succ i =>
      have := ih (i := i) (v := v) (by simpa using hi) (by simpa using hx) hv
      unfold unf at this ⊢
      simp only [List.set_cons_succ, List.countP_cons]
      omega
/-- What is known while the numbers of one layer wait. -/
structure Bfs (E : Nat → Nat → Bool) (s : Nat) (st : List Int × List Int) (d : Nat) : Prop where
  len : st.1.length = 6
  val : ∀ n, n < 6 → st.1.getD n 0 = -1 ∨ ∃ l : Nat, st.1.getD n 0 = (l : Int) ∧ Sh1 E s n l
  low : ∀ n, n < 6 → ∀ l, l ≤ d → Sh1 E s n l → 0 ≤ st.1.getD n 0
  qd : ∃ q1 q2 : List Nat, st.2 = (q1 ++ q2).map (fun n : Nat => (n : Int)) ∧ (∀ n ∈ q1, n < 6 ∧ st.1.getD n 0 = (d : Int)) ∧ ∀ n ∈ q2, n < 6 ∧ st.1.getD n 0 = (d : Int) + 1
  exp : ∀ n, n < 6 → 0 ≤ st.1.getD n 0 → (n : Int) ∉ st.2 → ∀ i, i < 6 → E i n = true → 0 ≤ st.1.getD i 0
/-- The same while number a is looked at, whose first i have been seen. -/
structure BfsR (E : Nat → Nat → Bool) (s : Nat) (st : List Int × List Int) (d a i : Nat) : Prop where
  len : st.1.length = 6
  val : ∀ n, n < 6 → st.1.getD n 0 = -1 ∨ ∃ l : Nat, st.1.getD n 0 = (l : Int) ∧ Sh1 E s n l
  low : ∀ n, n < 6 → ∀ l, l ≤ d → Sh1 E s n l → 0 ≤ st.1.getD n 0
  qd : ∃ q1 q2 : List Nat, st.2 = (q1 ++ q2).map (fun n : Nat => (n : Int)) ∧ (∀ n ∈ q1, n < 6 ∧ st.1.getD n 0 = (d : Int)) ∧ ∀ n ∈ q2, n < 6 ∧ st.1.getD n 0 = (d : Int) + 1
  exp : ∀ n, n < 6 → n ≠ a → 0 ≤ st.1.getD n 0 → (n : Int) ∉ st.2 → ∀ i, i < 6 → E i n = true → 0 ≤ st.1.getD i 0
  cur : st.1.getD a 0 = (d : Int)
  ha : a < 6
  seen : ∀ j, j < i → E j a = true → 0 ≤ st.1.getD j 0
section
variable {E : Nat → Nat → Bool} {s : Nat}
theorem BfsR.next {st : List Int × List Int} {d a i : Nat} (h : BfsR E s st d a i) (hi : i < 6) : BfsR E s (bStep E a st i) d a (i + 1) := by
  unfold bStep
  by_cases hc : E i a = true ∧ st.1.getD i 0 < 0
  · rw [if_pos hc]
    have hlt : i < st.1.length := by rw [h.len]; exact hi
    have hia : i ≠ a := fun e => by
      subst e
      have := h.cur
      omega
    have hd : Sh1 E s a d := by
      rcases h.val a h.ha with h1 | ⟨l, h1, h2⟩
      · have := h.cur; omega
      · have : l = d := by have := h.cur; omega
        rw [← this]; exact h2
    have hnew : Sh1 E s i (d + 1) := ⟨by omega, ⟨a, hc.1, hd.2.1⟩, fun l' h1 h2 hw => by
      obtain ⟨m, rfl⟩ : ∃ m, l' = m + 1 := ⟨l' - 1, by omega⟩
      obtain ⟨l2, h3, h4⟩ := hw.sh1
      have := h.low i hi l2 (by omega) h4
      omega⟩
    have hgr : ∀ n, 0 ≤ st.1.getD n 0 → (st.1.set i (st.1.getD a 0 + 1)).getD n 0 = st.1.getD n 0 := fun n hn => by
      rw [getD_set6 hlt, if_neg (fun e => by subst e; omega)]
    have hle : ∀ n, 0 ≤ st.1.getD n 0 → 0 ≤ (st.1.set i (st.1.getD a 0 + 1)).getD n 0 := fun n hn => by rw [hgr n hn]; exact hn
    have hni : (st.1.set i (st.1.getD a 0 + 1)).getD i 0 = (d : Int) + 1 := by rw [getD_set6 hlt, if_pos rfl, h.cur]
    refine ⟨by simpa using h.len, fun n hn => ?_, fun n hn l hl hsh => hle n (h.low n hn l hl hsh), ?_, fun n hn hna h0 hq j hj hE => ?_, by rw [hgr a (by have := h.cur; omega)]; exact h.cur, h.ha, fun j hj hE => ?_⟩
    · by_cases hni' : n = i
      · subst hni'
        exact .inr ⟨d + 1, by simp only; rw [hni]; omega, hnew⟩
      · have : (st.1.set i (st.1.getD a 0 + 1)).getD n 0 = st.1.getD n 0 := by rw [getD_set6 hlt, if_neg hni']
        simp only
        rw [this]
        exact h.val n hn
    · obtain ⟨q1, q2, h1, h2, h3⟩ := h.qd
      refine ⟨q1, q2 ++ [i], by simp [h1], fun n hn => ⟨(h2 n hn).1, ?_⟩, fun n hn => ?_⟩
      · simp only
        rw [hgr n (by have := (h2 n hn).2; omega)]; exact (h2 n hn).2
      · rcases List.mem_append.1 hn with hn | hn
        · refine ⟨(h3 n hn).1, ?_⟩
          simp only
          rw [hgr n (by have := (h3 n hn).2; omega)]; exact (h3 n hn).2
        · simp at hn
          subst hn
          exact ⟨hi, hni⟩
    · have hq' : (n : Int) ∉ st.2 := fun hm => hq (List.mem_append_left _ hm)
      have hne : n ≠ i := fun e => by
        subst e
        exact hq (by simp)
      have h0' : 0 ≤ st.1.getD n 0 := by
        have : (st.1.set i (st.1.getD a 0 + 1)).getD n 0 = st.1.getD n 0 := by rw [getD_set6 hlt, if_neg hne]
        simp only at h0
        omega
      exact hle j (h.exp n hn hna h0' hq' j hj hE)
    · by_cases hji : j = i
      · subst hji; simp only; rw [hni]; omega
      · exact hle j (h.seen j (by omega) hE)
  · rw [if_neg hc]
    refine ⟨h.len, h.val, h.low, h.qd, h.exp, h.cur, h.ha, fun j hj hE => ?_⟩
    by_cases hji : j = i
    · subst hji
      rcases Int.lt_or_le (st.1.getD j 0) 0 with h1 | h1
      · exact absurd ⟨hE, h1⟩ hc
      · exact h1
    · exact h.seen j (by omega) hE
theorem BfsR.row {st : List Int × List Int} {d a : Nat} (h : BfsR E s st d a 0) : ∀ n, n ≤ 6 → BfsR E s (bRow E a st n) d a n
  | 0, _ => h
  | n + 1, hn => by rw [bRow_succ]; exact (BfsR.row h n (by omega)).next (by omega)
theorem BfsR.done {st : List Int × List Int} {d a : Nat} (h : BfsR E s st d a 6) : Bfs E s st d :=
  ⟨h.len, h.val, h.low, h.qd, fun n hn h0 hq i hi hE => by
    by_cases hna : n = a
    · subst hna; exact h.seen i hi hE
    · exact h.exp n hn hna h0 hq i hi hE⟩
theorem Bfs.layer {st : List Int × List Int} {d : Nat} (hE : ∀ i j, E i j = true → i < 6 ∧ j < 6) (hd : 1 ≤ d) (h : Bfs E s st d) (hq : ∀ n : Nat, (n : Int) ∈ st.2 → st.1.getD n 0 ≠ (d : Int)) : ∀ n, n < 6 → ∀ l, l ≤ d + 1 → Sh1 E s n l → 0 ≤ st.1.getD n 0 := by
  intro n hn l hl hsh
  by_cases hld : l ≤ d
  · exact h.low n hn l hld hsh
  · obtain rfl : l = d + 1 := by omega
    obtain ⟨m, hm, hms⟩ := hsh.next
    obtain ⟨c, rfl⟩ : ∃ c, d = c + 1 := ⟨d - 1, by omega⟩
    have hm6 := (hE n m hm).2
    have h0 := h.low m hm6 (c + 1) (Nat.le_refl _) hms.sh1
    have hmd : st.1.getD m 0 = ((c + 1 : Nat) : Int) := by
      rcases h.val m hm6 with h1 | ⟨l', h1, h2⟩
      · omega
      · rw [h1, h2.uniq hms.sh1]
    exact h.exp m hm6 h0 (fun hmem => hq m hmem hmd) n hn hm
/-- The first that waits. -/
theorem Bfs.pop {st : List Int × List Int} {d : Nat} (hE : ∀ i j, E i j = true → i < 6 ∧ j < 6) (hd : 1 ≤ d) (h : Bfs E s st d) (hq : 0 < st.2.length) :
    ∃ (a : Nat) (q : List Int) (d' : Nat), st.2 = (a : Int) :: q ∧ a < 6 ∧ 1 ≤ d' ∧ BfsR E s (st.1, q) d' a 0 := by
  obtain ⟨q1, q2, h1, h2, h3⟩ := h.qd
  cases q1 with
  | cons a q1 =>
    have ha := h2 a (by simp)
    refine ⟨a, (q1 ++ q2).map (fun n : Nat => (n : Int)), d, by simpa using h1, ha.1, hd, ⟨h.len, h.val, h.low, ⟨q1, q2, rfl, fun n hn => h2 n (by simp [hn]), h3⟩, fun n hn hna h0 hnq i hi hE' => ?_, ha.2, ha.1, fun j hj => absurd hj (by omega)⟩⟩
    refine h.exp n hn h0 (fun hmem => hnq ?_) i hi hE'
    rw [h1] at hmem
    simp only [List.cons_append, List.map_cons, List.mem_cons] at hmem
    rcases hmem with hm | hm
    · exact absurd (by omega) hna
    · exact hm
  | nil =>
    cases q2 with
    | nil => rw [h1] at hq; simp at hq
    | cons a q2 =>
      have ha := h3 a (by simp)
      have hlow := h.layer hE hd (fun n hn he => by
        rw [h1] at hn
        simp only [List.nil_append, List.mem_map] at hn
        obtain ⟨m, hm, hmn⟩ := hn
        have := (h3 m hm).2
        obtain rfl : m = n := by omega
        omega)
      refine ⟨a, q2.map (fun n : Nat => (n : Int)), d + 1, by simpa using h1, ha.1, by omega, ⟨h.len, h.val, hlow, ⟨q2, [], by simp, fun n hn => ⟨(h3 n (by simp [hn])).1, by have := (h3 n (by simp [hn])).2; simp only; omega⟩, fun n hn => absurd hn (by simp)⟩, fun n hn hna h0 hnq i hi hE' => ?_, by have := ha.2; simp only; omega, ha.1, fun j hj => absurd hj (by omega)⟩⟩
      refine h.exp n hn h0 (fun hmem => hnq ?_) i hi hE'
      rw [h1] at hmem
      simp only [List.nil_append, List.map_cons, List.mem_cons] at hmem
      rcases hmem with hm | hm
      · exact absurd (by omega) hna
      · exact hm
/-- No one waits: all have been found. -/
theorem Bfs.all {st : List Int × List Int} {d : Nat} (hE : ∀ i j, E i j = true → i < 6 ∧ j < 6) (hd : 1 ≤ d) (h : Bfs E s st d) (hq : st.2 = []) : ∀ n, n < 6 → ∀ l, Sh1 E s n l → st.1.getD n 0 = (l : Int) := by
  have H : ∀ k, Bfs E s st (d + k) := fun k => by
    induction k with
    | zero => exact h
    | succ k ih => exact ⟨ih.len, ih.val, Bfs.layer hE (show 1 ≤ d + k by omega) ih (fun n hn => by rw [hq] at hn; cases hn), ⟨[], [], by simpa using hq, fun _ h => absurd h (by simp), fun _ h => absurd h (by simp)⟩, ih.exp⟩
  intro n hn l hsh
  have h0 := (H l).low n hn l (by omega) hsh
  rcases h.val n hn with h1 | ⟨l', h1, h2⟩
  · omega
  · rw [h1, h2.uniq hsh]
/-- What the search begins with. -/
structure Bfs0 (E : Nat → Nat → Bool) (s : Nat) (st : List Int × List Int) (i : Nat) : Prop where
  len : st.1.length = 6
  val : ∀ n, n < 6 → st.1.getD n 0 = if n < i ∧ E n s = true then 1 else -1
  qd : ∃ q : List Nat, st.2 = q.map (fun n : Nat => (n : Int)) ∧ ∀ n, n ∈ q ↔ n < i ∧ E n s = true
theorem bfs0 : ∀ i, i ≤ 6 → Bfs0 E s (b0 E s i) i
  | 0, _ => ⟨by simp [b0], fun n hn => by
      unfold b0
      simp only [List.range_zero, List.foldl_nil, List.getD_eq_getElem?_getD, List.getElem?_replicate, if_pos hn]
      simp, ⟨[], by simp [b0], fun n => by simp⟩⟩
  | i + 1, hi => by
    have h := bfs0 i (by omega)
    rw [b0_succ]
    unfold b0Step
    by_cases hc : E i s = true
    · rw [if_pos hc]
      refine ⟨by simpa using h.len, fun n hn => ?_, ?_⟩
      · simp only
        rw [getD_set6 (by rw [h.len]; omega), h.val n hn]
        by_cases hni : n = i
        · subst hni; simp [hc]
        · rw [if_neg hni]
          have : (n < i ∧ E n s = true) ↔ (n < i + 1 ∧ E n s = true) := ⟨fun h => ⟨by omega, h.2⟩, fun h => ⟨by omega, h.2⟩⟩
          simp only [this]
      · obtain ⟨q, h1, h2⟩ := h.qd
        refine ⟨q ++ [i], by simp [h1], fun n => ?_⟩
        rw [List.mem_append, h2]
        simp only [List.mem_singleton]
        constructor
        · rintro (h | rfl)
          · exact ⟨by omega, h.2⟩
          · exact ⟨by omega, hc⟩
        · intro h
          by_cases hni : n = i
          · exact .inr hni
          · exact .inl ⟨by omega, h.2⟩
    · rw [if_neg hc]
      refine ⟨h.len, fun n hn => ?_, ?_⟩
      · rw [h.val n hn]
        have : (n < i ∧ E n s = true) ↔ (n < i + 1 ∧ E n s = true) := ⟨fun h => ⟨by omega, h.2⟩, fun h => ⟨by
          rcases Nat.lt_or_ge n i with h1 | h1
          · exact h1
          · obtain rfl : n = i := by omega
            exact absurd h.2 hc, h.2⟩⟩
        simp only [this]
      · obtain ⟨q, h1, h2⟩ := h.qd
        refine ⟨q, h1, fun n => ?_⟩
        rw [h2]
        exact ⟨fun h => ⟨by omega, h.2⟩, fun h => ⟨by
          rcases Nat.lt_or_ge n i with h1 | h1
          · exact h1
          · obtain rfl : n = i := by omega
            exact absurd h.2 hc, h.2⟩⟩
theorem Bfs0.bfs {st : List Int × List Int} (h : Bfs0 E s st 6) : Bfs E s st 1 := by
  have h1 : ∀ n, E n s = true ↔ Wk E s 1 n := fun n => ⟨fun h => ⟨s, h, rfl⟩, fun ⟨m, h, e⟩ => by
    have : m = s := e
    rwa [this] at h⟩
  have hS : ∀ n, Wk E s 1 n → Sh1 E s n 1 := fun n h => ⟨Nat.le_refl _, h, fun l' a b => by omega⟩
  refine ⟨h.len, fun n hn => ?_, fun n hn l hl hsh => ?_, ?_, fun n hn h0 hq => ?_⟩
  · rw [h.val n hn]
    by_cases hc : E n s = true
    · rw [if_pos ⟨hn, hc⟩]; exact .inr ⟨1, rfl, hS n ((h1 n).1 hc)⟩
    · rw [if_neg (fun h => hc h.2)]; exact .inl rfl
  · rw [h.val n hn]
    obtain rfl : l = 1 := by have := hsh.1; omega
    rw [if_pos ⟨hn, (h1 n).2 hsh.2.1⟩]
    decide
  · obtain ⟨q, h2, h3⟩ := h.qd
    refine ⟨q, [], by simpa using h2, fun n hn => ?_, fun n hn => absurd hn (by simp)⟩
    have := (h3 n).1 hn
    exact ⟨this.1, by rw [h.val n this.1, if_pos this]; rfl⟩
  · exfalso
    rw [h.val n hn] at h0
    by_cases hc : n < 6 ∧ E n s = true
    · obtain ⟨q, h2, h3⟩ := h.qd
      refine hq ?_
      rw [h2]
      exact List.mem_map_of_mem ((h3 n).2 hc)
    · rw [if_neg hc] at h0; omega
end
/-- The numbers that wait and those not yet found: less with each that is looked at. -/
theorem bRow_meas {E : Nat → Nat → Bool} {a : Nat} {st : List Int × List Int} (hl : st.1.length = 6) (ha : 0 ≤ st.1.getD a 0) : ∀ n, n ≤ 6 → (bRow E a st n).2.length + unf (bRow E a st n).1 = st.2.length + unf st.1 ∧ (bRow E a st n).1.length = 6 ∧ (bRow E a st n).1.getD a 0 = st.1.getD a 0
  | 0, _ => ⟨rfl, hl, rfl⟩
  | n + 1, hn => by
    obtain ⟨h1, h2, h3⟩ := bRow_meas (E := E) hl ha n (by omega)
    rw [bRow_succ]
    generalize bRow E a st n = st' at h1 h2 h3 ⊢
    unfold bStep
    by_cases hc : E n a = true ∧ st'.1.getD n 0 < 0
    · rw [if_pos hc]
      have hu := unf_set (v := st'.1.getD a 0 + 1) (show n < st'.1.length by rw [h2]; omega) hc.2 (by omega)
      refine ⟨by simp only [List.length_append, List.length_singleton]; omega, by simpa using h2, ?_⟩
      simp only
      rw [getD_set6 (by rw [h2]; omega), if_neg (fun e => by subst e; omega)]
      exact h3
    · rw [if_neg hc]; exact ⟨h1, h2, h3⟩

/-! ### The way back -/
def stepW (E : Nat → Nat → Bool) (far : List Int) (l : Int) (a : Nat) : Nat := ((List.range 6).find? (fun j => E a j && far.getD j 0 == l)).getD a
def wayI (E : Nat → Nat → Bool) (far : List Int) : Nat → Nat → List Int
  | 0, _ => []
  | l + 1, a => (stepW E far ((l + 1 : Nat) : Int) a : Int) :: wayI E far l (stepW E far ((l + 1 : Nat) : Int) a)
theorem find_range {p : Nat → Bool} : ∀ {n m : Nat}, m < n → p m = true → (∀ j, j < m → p j = false) → (List.range n).find? p = some m
  | 0, m, h, _, _ => absurd h (by omega)
  | n + 1, m, h, hm, hj => by
    rw [List.range_succ, List.find?_append]
    by_cases hmn : m = n
    · subst hmn
      rw [List.find?_eq_none.2 (fun x hx => by simp [hj x (List.mem_range.1 hx)])]
      simp [hm]
    · rw [find_range (show m < n by omega) hm hj]
      rfl
/-- Edges between natural numbers. -/
def edgE (xs : List Edge) : Nat → Nat → Bool := fun i j => hasE xs (i : Int) (j : Int)
theorem edgE_in {n : Nat} {xs : List Edge} (hv : xs.all (edgeOk (n : Int)) = true) (i j : Nat) (h : edgE xs i j = true) : i < n ∧ j < n := by
  have := hasE_in hv h
  simp only [inR_iff] at this
  omega
theorem edgE_ex {xs : List Edge} {i j : Nat} : edgE xs i j = true ↔ ∃ e ∈ xs, e.From = (i : Int) ∧ e.To = (j : Int) := by
  unfold edgE hasE
  simp [List.any_eq_true]
/-- The lengths of shortest ways up to s are known. -/
structure FarOk (xs : List Edge) (n t s : Nat) (F : List Int) : Prop where
  len : F.length = n
  val : ∀ k, k < n → F.getD k 0 = -1 ∨ ∃ l : Nat, l ≤ s ∧ F.getD k 0 = (l : Int) ∧ Sh (edgE xs) t k l
  low : ∀ k, k < n → ∀ l, l ≤ s → Sh (edgE xs) t k l → F.getD k 0 = (l : Int)
theorem FarOk.start {xs : List Edge} {n t : Nat} (ht : t < n) : FarOk xs n t 0 ((List.replicate n (-1)).set t 0) := by
  have h0 : ∀ k, k < n → ((List.replicate n (-1 : Int)).set t 0).getD k 0 = if k = t then 0 else -1 := fun k hk => by
    rw [getD_set6 (by simpa using ht)]
    split
    · rfl
    · simp [List.getD_eq_getElem?_getD, List.getElem?_replicate, hk]
  refine ⟨by simp, fun k hk => ?_, fun k hk l hl hsh => ?_⟩
  · rw [h0 k hk]
    by_cases h : k = t
    · rw [if_pos h]; exact .inr ⟨0, Nat.le_refl _, rfl, h, fun l' hl' => absurd hl' (by omega)⟩
    · rw [if_neg h]; exact .inl rfl
  · obtain rfl : l = 0 := by omega
    have : k = t := hsh.1
    rw [h0 k hk, if_pos this]; rfl
theorem farRow_at {n s : Nat} {xs : List Edge} (hv : xs.all (edgeOk (n : Int)) = true) {F : List Int} (hF : F.length = n) : ∀ k, k ≤ xs.length → ∀ i, i < n →
    (farRow s (xs.take k) F).getD i 0 = if F.getD i 0 < 0 ∧ (xs.take k).any (fun e => e.From == (i : Int) && F.getD e.To.toNat 0 == (s : Int)) = true then (s : Int) + 1 else F.getD i 0
  | 0, _, i, hi => by simp [farRow]
  | k + 1, hk, i, hi => by
    have hlt : k < xs.length := by omega
    have ih := farRow_at (s := s) hv hF k (by omega)
    have hlen := farRow_len s (xs.take k) F
    rw [farRow_succ s xs F k hlt, List.take_succ_eq_append_getElem hlt, List.any_append]
    have he := List.all_eq_true.1 hv _ (List.getElem_mem hlt)
    generalize xs[k] = e at he ⊢
    unfold edgeOk at he
    simp only [Bool.and_eq_true, inR_iff] at he
    obtain ⟨f, hf⟩ : ∃ f : Nat, e.From = (f : Int) := ⟨e.From.toNat, by omega⟩
    obtain ⟨t, ht⟩ : ∃ t : Nat, e.To = (t : Int) := ⟨e.To.toNat, by omega⟩
    have hfn : f < n := by omega
    have htn : t < n := by omega
    have iht := ih t htn
    have ihf := ih f hfn
    have ihi := ih i hi
    generalize farRow s (xs.take k) F = G at ih iht ihf ihi hlen ⊢
    have hts : G.getD t 0 = (s : Int) ↔ F.getD t 0 = (s : Int) := by
      rw [iht]
      split
      · rename_i h; have := h.1; omega
      · rfl
    simp only [List.any_cons, List.any_nil, Bool.or_false]
    unfold farStep
    rw [hf, ht, Int.toNat_natCast, Int.toNat_natCast]
    by_cases hc : G.getD t 0 = (s : Int) ∧ G.getD f 0 < 0
    · rw [if_pos hc, getD_set6 (by omega)]
      have hFt := hts.1 hc.1
      by_cases hif : i = f
      · subst hif
        have h0 : F.getD i 0 < 0 := by
          rcases Int.lt_or_le (F.getD i 0) 0 with h | h
          · exact h
          · rw [if_neg (fun h' => by omega)] at ihf; omega
        rw [if_pos rfl, if_pos ⟨h0, by rw [hFt]; simp only [beq_self_eq_true, Bool.and_self, Bool.or_true]⟩]
      · rw [if_neg hif, ihi]
        have hne : ((f : Int) == (i : Int)) = false := by rw [beq_eq_false_iff_ne]; omega
        rw [hne, Bool.false_and, Bool.or_false]
    · rw [if_neg hc, ihi]
      by_cases hif : i = f
      · subst hif
        by_cases h1 : F.getD t 0 = (s : Int)
        · have h2 : ¬ G.getD i 0 < 0 := fun h => hc ⟨hts.2 h1, h⟩
          by_cases h3 : F.getD i 0 < 0 ∧ (xs.take k).any (fun e => e.From == (i : Int) && F.getD e.To.toNat 0 == (s : Int)) = true
          · rw [if_pos h3, if_pos ⟨h3.1, by rw [h3.2]; rfl⟩]
          · rw [if_neg h3] at ihi ⊢
            rw [if_neg (fun h => by omega)]
        · have : ((F.getD t 0) == (s : Int)) = false := by rw [beq_eq_false_iff_ne]; exact h1
          rw [this, Bool.and_false, Bool.or_false]
      · have hne : ((f : Int) == (i : Int)) = false := by rw [beq_eq_false_iff_ne]; omega
        rw [hne, Bool.false_and, Bool.or_false]
theorem FarOk.next {xs : List Edge} {n t s : Nat} {F : List Int} (hv : xs.all (edgeOk (n : Int)) = true) (h : FarOk xs n t s F) : FarOk xs n t (s + 1) (farRow s xs F) := by
  have hat : ∀ i, i < n → (farRow s xs F).getD i 0 = if F.getD i 0 < 0 ∧ xs.any (fun e => e.From == (i : Int) && F.getD e.To.toNat 0 == (s : Int)) = true then (s : Int) + 1 else F.getD i 0 := fun i hi => by
    have := farRow_at (s := s) hv h.len xs.length (Nat.le_refl _) i hi
    rwa [List.take_length] at this
  refine ⟨(farRow_len s xs F).trans h.len, fun k hk => ?_, fun k hk l hl hsh => ?_⟩
  · rw [hat k hk]
    by_cases hc : F.getD k 0 < 0 ∧ xs.any (fun e => e.From == (k : Int) && F.getD e.To.toNat 0 == (s : Int)) = true
    · rw [if_pos hc]
      obtain ⟨e, he, h2⟩ := List.any_eq_true.1 hc.2
      simp only [Bool.and_eq_true, beq_iff_eq] at h2
      have h3 := List.all_eq_true.1 hv e he
      unfold edgeOk at h3
      simp only [Bool.and_eq_true, inR_iff] at h3
      obtain ⟨m, hm⟩ : ∃ m : Nat, e.To = (m : Int) := ⟨e.To.toNat, by omega⟩
      rw [hm, Int.toNat_natCast] at h2
      have hmn : m < n := by omega
      have hsm : Sh (edgE xs) t m s := by
        rcases h.val m hmn with h4 | ⟨l', _, h4, h5⟩
        · omega
        · have : l' = s := by omega
          rw [← this]; exact h5
      refine .inr ⟨s + 1, Nat.le_refl _, by omega, ⟨m, edgE_ex.2 ⟨e, he, h2.1, hm⟩, hsm.1⟩, fun l' hl' hw => ?_⟩
      obtain ⟨l2, h6, h7⟩ := hw.sh
      have := h.low k hk l2 (by omega) h7
      omega
    · rw [if_neg hc]
      rcases h.val k hk with h1 | ⟨l, h1, h2⟩
      · exact .inl h1
      · exact .inr ⟨l, by omega, h2⟩
  · rw [hat k hk]
    by_cases hls : l ≤ s
    · have := h.low k hk l hls hsh
      rw [if_neg (fun h' => by omega)]; exact this
    · obtain rfl : l = s + 1 := by omega
      have h0 : F.getD k 0 < 0 := by
        rcases h.val k hk with h1 | ⟨l', h1, _, h2⟩
        · omega
        · have := h2.uniq hsh
          omega
      obtain ⟨m, hm, hms⟩ := hsh.sh1.next
      have hmn := (edgE_in hv k m hm).2
      obtain ⟨e, he, h1, h2⟩ := edgE_ex.1 hm
      rw [if_pos ⟨h0, List.any_eq_true.2 ⟨e, he, by
        simp only [Bool.and_eq_true, beq_iff_eq]
        exact ⟨h1, by rw [h2, Int.toNat_natCast]; exact h.low m hmn s (Nat.le_refl _) hms⟩⟩⟩]
      omega
theorem farN_ok {xs : List Edge} {n t : Nat} (hv : xs.all (edgeOk (n : Int)) = true) (ht : t < n) : ∀ s, FarOk xs n t s (farN xs s ((List.replicate n (-1)).set t 0))
  | 0 => FarOk.start ht
  | s + 1 => (farN_ok hv ht s).next hv
/-- What the reference's list of lengths says. -/
structure FarD (xs : List Edge) (n t : Nat) (F : List Int) : Prop where
  len : F.length = n
  neg : ∀ k, k < n → F.getD k 0 < 0 → ∀ l, ¬ Sh (edgE xs) t k l
  is : ∀ k, k < n → ∀ l : Nat, F.getD k 0 = (l : Int) ↔ Sh (edgE xs) t k l
theorem farS_d {xs : List Edge} {n t : Nat} (hv : xs.all (edgeOk (n : Int)) = true) (ht : t < n) : FarD xs n t (farS n xs t) := by
  have h := farN_ok hv ht n
  have hl : ∀ k, k < n → ∀ l, Sh (edgE xs) t k l → (farS n xs t).getD k 0 = (l : Int) := fun k hk l hs => h.low k hk l (Nat.le_of_lt (hs.lt (edgE_in hv) ht)) hs
  refine ⟨h.len, fun k hk h0 l hs => by have := hl k hk l hs; omega, fun k hk l => ⟨fun he => ?_, hl k hk l⟩⟩
  rcases h.val k hk with h1 | ⟨l', _, h1, h2⟩
  · unfold farS at he; omega
  · have : l' = l := by unfold farS at he; omega
    rw [← this]; exact h2
theorem bestS_spec {xs : List Edge} {F : List Int} {s : Int} : ∀ (ys : List Edge), 
    ((bestS ys F s = -1 ∨ ∃ e ∈ ys, e.From = s ∧ bestS ys F s = F.getD e.To.toNat 0 ∧ 0 ≤ bestS ys F s) ∧ ∀ e ∈ ys, e.From = s → 0 ≤ F.getD e.To.toNat 0 → 0 ≤ bestS ys F s ∧ bestS ys F s ≤ F.getD e.To.toNat 0) := by
  intro ys
  have H : ∀ k, k ≤ ys.length → ((bestS (ys.take k) F s = -1 ∨ ∃ e ∈ ys.take k, e.From = s ∧ bestS (ys.take k) F s = F.getD e.To.toNat 0 ∧ 0 ≤ bestS (ys.take k) F s) ∧ ∀ e ∈ ys.take k, e.From = s → 0 ≤ F.getD e.To.toNat 0 → 0 ≤ bestS (ys.take k) F s ∧ bestS (ys.take k) F s ≤ F.getD e.To.toNat 0) := by
    intro k
    induction k with
    | zero => intro _; exact ⟨.inl rfl, fun e he => absurd he (by simp)⟩
    | succ k ih =>
      intro hk
      have hlt : k < ys.length := by omega
      obtain ⟨h1, h2⟩ := ih (by omega)
      rw [bestS_succ ys F s k hlt, List.take_succ_eq_append_getElem hlt]
      generalize ys[k] = x
      generalize hb : bestS (ys.take k) F s = b at h1 h2 ⊢
      unfold bestStep
      by_cases hc : x.From = s ∧ 0 ≤ F.getD x.To.toNat 0 ∧ (b < 0 ∨ F.getD x.To.toNat 0 < b)
      · rw [if_pos hc]
        refine ⟨.inr ⟨x, by simp, hc.1, rfl, hc.2.1⟩, fun e he hf h0 => ?_⟩
        rcases List.mem_append.1 he with he | he
        · have := h2 e he hf h0
          rcases hc.2.2 with h3 | h3 <;> omega
        · simp at he
          subst he
          exact ⟨h0, Int.le_refl _⟩
      · rw [if_neg hc]
        refine ⟨?_, fun e he hf h0 => ?_⟩
        · rcases h1 with h1 | ⟨e, he, h3⟩
          · exact .inl h1
          · exact .inr ⟨e, List.mem_append_left _ he, h3⟩
        · rcases List.mem_append.1 he with he | he
          · exact h2 e he hf h0
          · simp at he
            subst he
            rcases Int.lt_or_le b 0 with hb0 | hb0
            · exact absurd ⟨hf, h0, .inl hb0⟩ hc
            · exact ⟨hb0, by
                rcases Int.lt_or_le (F.getD e.To.toNat 0) b with h3 | h3
                · exact absurd ⟨hf, h0, .inr h3⟩ hc
                · exact h3⟩
  have := H ys.length (Nat.le_refl _)
  rwa [List.take_length] at this
/-- The way back to s: best + 1 edges. -/
theorem bestS_sh1 {xs : List Edge} {n s : Nat} (hv : xs.all (edgeOk (n : Int)) = true) (hs : s < n) (b : Nat) : bestS xs (farS n xs s) (s : Int) = (b : Int) ↔ Sh1 (edgE xs) s s (b + 1) := by
  have hF := farS_d hv hs
  obtain ⟨h1, h2⟩ := bestS_spec (xs := xs) (F := farS n xs s) (s := (s : Int)) xs
  have hto : ∀ e ∈ xs, ∃ t : Nat, e.To = (t : Int) ∧ t < n := fun e he => by
    have h3 := List.all_eq_true.1 hv e he
    unfold edgeOk at h3
    simp only [Bool.and_eq_true, inR_iff] at h3
    exact ⟨e.To.toNat, by omega, by omega⟩
  have hup : ∀ m l, edgE xs s m = true → Sh (edgE xs) s m l → 0 ≤ bestS xs (farS n xs s) (s : Int) ∧ bestS xs (farS n xs s) (s : Int) ≤ (l : Int) := fun m l hm hl => by
    obtain ⟨e, he, hf, ht⟩ := edgE_ex.1 hm
    have hmn := (edgE_in hv s m hm).2
    have h3 := (hF.is m hmn l).2 hl
    have := h2 e he hf (by rw [ht, Int.toNat_natCast]; omega)
    rw [ht, Int.toNat_natCast, h3] at this
    exact this
  have hsh : ∀ c : Nat, bestS xs (farS n xs s) (s : Int) = (c : Int) → Sh1 (edgE xs) s s (c + 1) := fun c hc => by
    rcases h1 with h1 | ⟨e, he, hf, hb, h0⟩
    · omega
    · obtain ⟨t, ht, htn⟩ := hto e he
      rw [ht, Int.toNat_natCast] at hb
      have hst := (hF.is t htn c).1 (by omega)
      refine ⟨by omega, ⟨t, edgE_ex.2 ⟨e, he, hf, ht⟩, hst.1⟩, fun l' hl1 hl2 hw => ?_⟩
      obtain ⟨m, rfl⟩ : ∃ m, l' = m + 1 := ⟨l' - 1, by omega⟩
      obtain ⟨y, hy, hwy⟩ := hw
      obtain ⟨l2, h3, h4⟩ := hwy.sh
      have := hup y l2 hy h4
      omega
  refine ⟨hsh b, fun h => ?_⟩
  obtain ⟨m, hm, hms⟩ := h.next
  have h3 := hup m b hm hms
  have h4 := hsh (bestS xs (farS n xs s) (s : Int)).toNat (by omega)
  have := h4.uniq h
  omega
theorem bestS_neg {xs : List Edge} {n s : Nat} (hv : xs.all (edgeOk (n : Int)) = true) (hs : s < n) : bestS xs (farS n xs s) (s : Int) < 0 ↔ ∀ l, ¬ Wk (edgE xs) s (l + 1) s := by
  constructor
  · intro h l hw
    obtain ⟨l', _, h2⟩ := hw.sh1
    obtain ⟨c, rfl⟩ : ∃ c, l' = c + 1 := ⟨l' - 1, by have := h2.1; omega⟩
    have := (bestS_sh1 hv hs c).2 h2
    omega
  · intro h
    rcases Int.lt_or_le (bestS xs (farS n xs s) (s : Int)) 0 with h0 | h0
    · exact h0
    · have := (bestS_sh1 hv hs (bestS xs (farS n xs s) (s : Int)).toNat).1 (by omega)
      exact absurd this.2.1 (h _)
/-- nextS is the least number that serves. -/
theorem nextS_least {F : List Int} {a l many : Int} : ∀ (ys : List Edge), nextS ys F a l many ≤ many ∧ (∀ e ∈ ys, e.From = a → F.getD e.To.toNat 0 = l → nextS ys F a l many ≤ e.To) ∧ (nextS ys F a l many = many ∨ ∃ e ∈ ys, e.From = a ∧ F.getD e.To.toNat 0 = l ∧ nextS ys F a l many = e.To) := by
  intro ys
  have H : ∀ k, k ≤ ys.length → nextS (ys.take k) F a l many ≤ many ∧ (∀ e ∈ ys.take k, e.From = a → F.getD e.To.toNat 0 = l → nextS (ys.take k) F a l many ≤ e.To) ∧ (nextS (ys.take k) F a l many = many ∨ ∃ e ∈ ys.take k, e.From = a ∧ F.getD e.To.toNat 0 = l ∧ nextS (ys.take k) F a l many = e.To) := by
    intro k
    induction k with
    | zero => intro _; exact ⟨Int.le_refl _, fun e he => absurd he (by simp), .inl rfl⟩
    | succ k ih =>
      intro hk
      have hlt : k < ys.length := by omega
      obtain ⟨h1, h2, h3⟩ := ih (by omega)
      rw [nextS_succ ys F a l many k hlt, List.take_succ_eq_append_getElem hlt]
      generalize ys[k] = x
      generalize nextS (ys.take k) F a l many = b at h1 h2 h3 ⊢
      unfold nextStep
      by_cases hc : x.From = a ∧ F.getD x.To.toNat 0 = l
      · rw [if_pos hc]
        refine ⟨by omega, fun e he hf h0 => ?_, ?_⟩
        · rcases List.mem_append.1 he with he | he
          · have := h2 e he hf h0; omega
          · simp at he; subst he; omega
        · by_cases hm : b ≤ x.To
          · rw [Int.min_eq_left hm]
            rcases h3 with h3 | ⟨e, he, h4⟩
            · exact .inl h3
            · exact .inr ⟨e, List.mem_append_left _ he, h4⟩
          · exact .inr ⟨x, by simp, hc.1, hc.2, by omega⟩
      · rw [if_neg hc]
        refine ⟨h1, fun e he hf h0 => ?_, ?_⟩
        · rcases List.mem_append.1 he with he | he
          · exact h2 e he hf h0
          · simp at he; subst he; exact absurd ⟨hf, h0⟩ hc
        · rcases h3 with h3 | ⟨e, he, h4⟩
          · exact .inl h3
          · exact .inr ⟨e, List.mem_append_left _ he, h4⟩
  have := H ys.length (Nat.le_refl _)
  rwa [List.take_length] at this
/-- What the program's list of lengths says. -/
structure FarI (E : Nat → Nat → Bool) (s : Nat) (far : List Int) : Prop where
  len : far.length = 6
  is : ∀ k, k < 6 → ∀ l : Nat, 1 ≤ l → (far.getD k 0 = (l : Int) ↔ Sh1 E s k l)
theorem Bfs.farI {E : Nat → Nat → Bool} {s d : Nat} {st : List Int × List Int} (hE : ∀ i j, E i j = true → i < 6 ∧ j < 6) (hd : 1 ≤ d) (h : Bfs E s st d) (hq : st.2 = []) : FarI E s st.1 :=
  ⟨h.len, fun k hk l hl => ⟨fun he => by
    rcases h.val k hk with h1 | ⟨l', h1, h2⟩
    · omega
    · have : l' = l := by omega
      rw [← this]; exact h2, h.all hE hd hq k hk l⟩⟩
/-- One step of the two ways back. -/
theorem step_eq {xs : List Edge} {n s b l a : Nat} {far : List Int} (hn : n ≤ 6) (hv : xs.all (edgeOk (n : Int)) = true) (hs : s < n) (hI : FarI (edgE xs) s far) (hb : Sh1 (edgE xs) s s (b + 1)) (hl : l + 1 ≤ b) (ha : Sh1 (edgE xs) s a (l + 2)) :
    ∃ m : Nat, m < n ∧ edgE xs a m = true ∧ Sh1 (edgE xs) s m (l + 1) ∧ m ≠ s ∧ nextS xs (farS n xs s) (a : Int) ((l : Int) + 1) (n : Int) = (m : Int) ∧ stepW (edgE xs) far ((l + 1 : Nat) : Int) a = m := by
  have hF := farS_d hv hs
  have hok : ∀ j, edgE xs a j = true → ((farS n xs s).getD j 0 = ((l + 1 : Nat) : Int) ↔ far.getD j 0 = ((l + 1 : Nat) : Int)) := fun j hj => by
    have hjn := (edgE_in hv a j hj).2
    rw [hF.is j hjn (l + 1), hI.is j (by omega) (l + 1) (by omega)]
    refine ⟨Sh.sh1, fun h => h.sh (fun e => ?_)⟩
    subst e
    have := h.uniq hb
    omega
  obtain ⟨m0, hm0, hm0s⟩ := ha.next
  obtain ⟨h1, h2, h3⟩ := nextS_least (F := farS n xs s) (a := (a : Int)) (l := (l : Int) + 1) (many := (n : Int)) xs
  have hm0n := (edgE_in hv a m0 hm0).2
  have hFm0 := (hF.is m0 hm0n (l + 1)).2 hm0s
  have hle : nextS xs (farS n xs s) (a : Int) ((l : Int) + 1) (n : Int) ≤ (m0 : Int) := by
    obtain ⟨e, he, hf, ht⟩ := edgE_ex.1 hm0
    have := h2 e he hf (by rw [ht, Int.toNat_natCast, hFm0]; omega)
    rwa [ht] at this
  rcases h3 with h3 | ⟨e, he, hf, hFe, hne⟩
  · omega
  · have h4 := List.all_eq_true.1 hv e he
    unfold edgeOk at h4
    simp only [Bool.and_eq_true, inR_iff] at h4
    obtain ⟨m, hm⟩ : ∃ m : Nat, e.To = (m : Int) := ⟨e.To.toNat, by omega⟩
    have hmn : m < n := by omega
    have hE : edgE xs a m = true := edgE_ex.2 ⟨e, he, hf, hm⟩
    rw [hm, Int.toNat_natCast] at hFe
    have hsm := (hF.is m hmn (l + 1)).1 (by omega)
    refine ⟨m, hmn, hE, hsm.sh1, fun e' => ?_, by rw [hne, hm], ?_⟩
    · subst e'
      have := hsm.uniq (⟨rfl, fun l' h => absurd h (by omega)⟩ : Sh (edgE xs) m m 0)
      omega
    · unfold stepW
      rw [find_range (m := m) (by omega) (by rw [hE, (hok m hE).1 (by omega)]; simp) (fun j hj => ?_)]
      · rfl
      · cases hEj : edgE xs a j with
        | false => rfl
        | true =>
          cases hq : (far.getD j 0 == ((l + 1 : Nat) : Int)) with
          | false => simp
          | true =>
            rw [beq_iff_eq] at hq
            have h5 := (hok j hEj).2 hq
            obtain ⟨e2, he2, hf2, ht2⟩ := edgE_ex.1 hEj
            have := h2 e2 he2 hf2 (by rw [ht2, Int.toNat_natCast, h5]; omega)
            omega
theorem way_eq {xs : List Edge} {n s b : Nat} {far : List Int} (hn : n ≤ 6) (hv : xs.all (edgeOk (n : Int)) = true) (hs : s < n) (hI : FarI (edgE xs) s far) (hb : Sh1 (edgE xs) s s (b + 1)) : ∀ l a : Nat, l ≤ b → Sh1 (edgE xs) s a (l + 1) →
    wayS xs (farS n xs s) (n : Int) l (a : Int) = wayI (edgE xs) far l a
  | 0, _, _, _ => rfl
  | l + 1, a, hl, ha => by
    obtain ⟨m, _, _, hm, _, h1, h2⟩ := step_eq hn hv hs hI hb hl ha
    rw [wayS, wayI, h1, h2, way_eq hn hv hs hI hb l m (by omega) hm]
/-- The cycle that the program names, by its list of lengths. -/
def backL (E : Nat → Nat → Bool) (far : List Int) (s : Nat) : List Int := (s : Int) :: wayI E far (far.getD s 0 - 1).toNat s
theorem back_eq {xs : List Edge} {n s : Nat} {far : List Int} (hn : n ≤ 6) (hv : xs.all (edgeOk (n : Int)) = true) (hs : s < n) (hI : FarI (edgE xs) s far) (h0 : ¬ bestS xs (farS n xs s) (s : Int) < 0) :
    (s : Int) :: wayS xs (farS n xs s) (n : Int) (bestS xs (farS n xs s) (s : Int)).toNat (s : Int) = backL (edgE xs) far s := by
  obtain ⟨b, hb⟩ : ∃ b : Nat, bestS xs (farS n xs s) (s : Int) = (b : Int) := ⟨(bestS xs (farS n xs s) (s : Int)).toNat, by omega⟩
  have hsh := (bestS_sh1 hv hs b).1 hb
  have hfs := (hI.is s (by omega) (b + 1) (by omega)).2 hsh
  unfold backL
  rw [hb, Int.toNat_natCast, hfs, way_eq hn hv hs hI hsh b s (Nat.le_refl _) hsh, show (((b + 1 : Nat) : Int) - 1).toNat = b by omega]
/-- The first number that has a way back to itself. -/
theorem cycFrom_eq {xs : List Edge} {n : Nat} (hn : n ≤ 6) (hv : xs.all (edgeOk (n : Int)) = true) : ∀ f s, s + f = n → 
    (cycFrom xs n f s = [] ∧ ∀ i, s ≤ i → i < n → ∀ l, ¬ Wk (edgE xs) i (l + 1) i) ∨ ∃ i, s ≤ i ∧ i < n ∧ (∃ l, Wk (edgE xs) i (l + 1) i) ∧ (∀ j, s ≤ j → j < i → ∀ l, ¬ Wk (edgE xs) j (l + 1) j) ∧ ∀ far, FarI (edgE xs) i far → cycFrom xs n f s = backL (edgE xs) far i
  | 0, s, h => .inl ⟨rfl, fun i h1 h2 => absurd h1 (by omega)⟩
  | f + 1, s, h => by
    rw [cycFrom]
    by_cases hc : bestS xs (farS n xs s) (s : Int) < 0
    · rw [if_pos hc]
      have hno := (bestS_neg hv (show s < n by omega)).1 hc
      rcases cycFrom_eq hn hv f (s + 1) (by omega) with ⟨h1, h2⟩ | ⟨i, h1, h2, h3, h4, h5⟩
      · refine .inl ⟨h1, fun i h3 h4 => ?_⟩
        by_cases hi : i = s
        · subst hi; exact hno
        · exact h2 i (by omega) h4
      · refine .inr ⟨i, by omega, h2, h3, fun j hj hji => ?_, h5⟩
        by_cases hjs : j = s
        · subst hjs; exact hno
        · exact h4 j (by omega) hji
    · rw [if_neg hc]
      refine .inr ⟨s, Nat.le_refl _, by omega, ?_, fun j h1 h2 => absurd h1 (by omega), fun far hI => back_eq hn hv (by omega) hI hc⟩
      have := (bestS_sh1 hv (show s < n by omega) (bestS xs (farS n xs s) (s : Int)).toNat).1 (by omega)
      exact ⟨_, this.2.1⟩
set_option maxHeartbeats 400000 in
theorem index_Int (xs : List Int) (x : Int) (A : Option Addr) (c : Nat) (w : World) (hl : xs.length ≤ maxLen) (hA : Row tInt w (Old w) A xs) :
    Calls Tryz.prog 92 #[.slice A xs.length c, .int .i64 x] w fun e w' => e = .returned (.int .i64 (idx (fun y => x == y) xs)) ∧ w = w' := by
  unfold maxLen at hl
  go_enter Tryz.func92, Tryz.ntmps92
  go_wp2
  go_loop [8] (fun i => ∃ k : Nat, k ≤ xs.length ∧ i = .int .i64 k ∧ Hid (∀ j (hj : j < xs.length), j < k → (x == xs[j]) = false)) (fun i => xs.length - (intOf i).toNat)
  case atStart => exact ⟨0, Nat.zero_le _, rfl, (fun j hj h => absurd h (by omega))⟩
  case round =>
    obtain ⟨k, hk, rfl, hI⟩ := hrel
    by_cases hlt : k < xs.length
    · obtain ⟨b, off, rfl, hbS, c0⟩ := at_Int hA (Below.refl _ _) hlt
      clear hA
      cases hq : (x == xs[k]) with
      | true =>
        go_wp2
        go_ret
        exact ⟨ret_int (idx_hit (fun y => x == y) xs k hlt hq hI.out).symm, rfl⟩
      | false =>
        go_wp2
        go_round
        case rel => exact ⟨k + 1, by omega, by go_num, (fun j hj h => by rcases Nat.lt_succ_iff_lt_or_eq.1 h with h | rfl; exact hI.out j hj h; exact hq)⟩
        case measure => simp [intOf]; omega
    · have HI := hide (idx_miss (fun y => x == y) xs (fun j hj => hI.out j hj (by omega)))
      clear hI hA
      go_wp2
      go_ret
      exact ⟨ret_int HI.out.symm, rfl⟩
theorem contains_Int (xs : List Int) (x : Int) (A : Option Addr) (c : Nat) (w : World) (hl : xs.length ≤ maxLen) (hA : Row tInt w (Old w) A xs) :
    Calls Tryz.prog 142 #[.slice A xs.length c, .int .i64 x] w fun e w' => e = .returned (.bool (xs.any (fun y => x == y))) ∧ w = w' := by
  have H := hide (index_Int xs x A c w hl hA)
  clear hA
  go_enter Tryz.func142, Tryz.ntmps142
  go_wp2_with (go_at_call 92; refine H.out.mono ?_; rintro e w' ⟨rfl, rfl⟩)
  go_ret
  refine ⟨ret_bool ?_, rfl⟩
  rw [Bool.eq_iff_iff, ← idx_neg, decide_eq_true_iff]

set_option maxHeartbeats 400000 in
theorem l13Count (xs : List Int) (x : Int) (A : Option Addr) (c : Nat) (w : World) (hl : xs.length ≤ maxLen) (hA : Row tInt w (Old w) A xs) :
    Calls Tryz.prog 60 #[.slice A xs.length c, .int .i64 x] w fun e w' => e = .returned (.int .i64 (xs.countP (fun y => y == x) : Nat)) ∧ w = w' := by
  unfold maxLen at hl
  go_enter Tryz.func60, Tryz.ntmps60
  go_wp2
  go_loop [5, 6] (fun m i => ∃ k n : Nat, k ≤ xs.length ∧ i = .int .i64 k ∧ m = .int .i64 n ∧ n ≤ k ∧ Hid (n = (xs.take k).countP (fun y => y == x))) (fun _ i => xs.length - (intOf i).toNat)
  case atStart => exact ⟨0, 0, Nat.zero_le _, rfl, rfl, Nat.le_refl _, by simp [Hid]⟩
  case round =>
    obtain ⟨k, n, hk, rfl, rfl, hnk, hN⟩ := hrel
    by_cases hlt : k < xs.length
    · obtain ⟨b, off, rfl, hbS, c0⟩ := at_Int hA (Below.refl _ _) hlt
      have HT := hide (countP_take (fun y => y == x) xs k hlt)
      clear hA
      cases hq : (xs[k] == x) with
      | true =>
        have HQ := hide (show (xs.take (k + 1)).countP (fun y => y == x) = n + 1 by rw [HT.out, hN.out]; simp only [hq]; rfl)
        go_wp2
        go_round
        case rel => exact ⟨k + 1, n + 1, by omega, by go_num, by go_num, by omega, HQ.out.symm⟩
        case measure => simp [intOf]; omega
      | false =>
        have HQ := hide (show (xs.take (k + 1)).countP (fun y => y == x) = n by rw [HT.out, hN.out]; simp only [hq]; rfl)
        go_wp2
        go_round
        case rel => exact ⟨k + 1, n, by omega, by go_num, rfl, by omega, HQ.out.symm⟩
        case measure => simp [intOf]; omega
    · obtain rfl : k = xs.length := by omega
      clear hA
      go_wp2
      go_ret
      exact ⟨ret_int (by have := hN.out; rw [List.take_length] at this; rw [this]), rfl⟩
def row6 (M : Nat → Nat) : Array Value := #[.int .u64 (M 0 : Nat), .int .u64 (M 1 : Nat), .int .u64 (M 2 : Nat), .int .u64 (M 3 : Nat), .int .u64 (M 4 : Nat), .int .u64 (M 5 : Nat)]
theorem row6_get (M : Nat → Nat) : ∀ (n : Nat), n < 6 → (row6 M)[n]? = some (.int .u64 (M n : Nat))
  | 0, _ => rfl | 1, _ => rfl | 2, _ => rfl | 3, _ => rfl | 4, _ => rfl | 5, _ => rfl
  | n + 6, h => absurd h (by omega)
theorem row6_set (M : Nat → Nat) (v : Nat) : ∀ (n : Nat), n < 6 → (row6 M).setIfInBounds n (.int .u64 (v : Nat)) = row6 (fun i => if i = n then v else M i)
  | 0, _ => rfl | 1, _ => rfl | 2, _ => rfl | 3, _ => rfl | 4, _ => rfl | 5, _ => rfl
  | n + 6, h => absurd h (by omega)
theorem row6_add (M : Nat → Nat) (e : Edge) (n : Nat) (hn : n < 6) (he : e.From = (n : Int)) :
    (row6 M).setIfInBounds n (.int .u64 ((M n ||| 2 ^ e.To.toNat : Nat) : Nat)) = row6 (addEdge M e) := by
  rw [row6_set M _ n hn]
  congr 1
  funext i
  unfold addEdge
  rw [he]
  by_cases h : i = n
  · subst h; simp
  · rw [if_neg h, if_neg (by omega)]
/-- '1 << j' as the walk spells it. -/
theorem shl1 (j : Nat) (hj : j < 6) : IntKind.u64.wrap (2 ^ j) = ((2 ^ j : Nat) : Int) := by
  have h : j = 0 ∨ j = 1 ∨ j = 2 ∨ j = 3 ∨ j = 4 ∨ j = 5 := by omega
  rcases h with rfl | rfl | rfl | rfl | rfl | rfl <;> rfl
theorem pow6 {j : Nat} (hj : j < 6) : 2 ^ j < 64 := Nat.pow_lt_pow_right (by decide) hj
theorem or_u64 (a j : Nat) (ha : a < 64) (hj : j < 6) : bits .or .u64 (a : Int) ((2 ^ j : Nat) : Int) = ((a ||| 2 ^ j : Nat) : Int) :=
  u64_or_nat a (2 ^ j) (by omega) (by have := pow6 hj; omega)
theorem or_shl (a j : Nat) (ha : a < 64) (hj : j < 6) : bits .or .u64 (a : Int) (IntKind.u64.wrap (2 ^ j)) = ((a ||| 2 ^ j : Nat) : Int) := by
  rw [shl1 j hj, or_u64 a j ha hj]
theorem bit_int (a j : Nat) : ((a : Int) / 2 ^ j) = ((a / 2 ^ j : Nat) : Int) := by
  rw [Int.natCast_ediv, Int.natCast_pow]; rfl
theorem shr_and (a j : Nat) (ha : a < 64) : bits .and .u64 ((a : Int) / 2 ^ j) 1 = if a.testBit j then 1 else 0 := by
  have h2 : a / 2 ^ j ≤ a := Nat.div_le_self _ _
  have hb := bit_shift a j
  rw [bit_int]
  generalize a / 2 ^ j = q at h2 hb
  rw [and_one_u64 _ (by omega) (by omega)]
  cases hq : a.testBit j <;> simp only [hq] at hb ⊢ <;> simp at hb ⊢ <;> omega
theorem shr_eq (a j : Nat) (ha : a < 64) : (bits .and .u64 ((a : Int) / 2 ^ j) 1 == 1) = a.testBit j := by
  rw [shr_and a j ha]
  cases a.testBit j <;> rfl

set_option maxRecDepth 10000 in
set_option maxHeartbeats 1000000 in
theorem has_ (M : Nat → Nat) (n j : Nat) (hn : n < 6) (hj : j < 6) (hM : M n < 64) (w : World) :
    Calls Tryz.prog 86 #[.agg (row6 M), .int .i64 (n : Nat), .int .i64 (j : Nat)] w fun e w' => e = .returned (.bool ((M n).testBit j)) ∧ Below w.heap.size w w' := by
  have HB := hide (show Below w.heap.size w (w.alloc (.cells (row6 M) 105)) from (Below.refl _ _).alloc (Nat.le_refl _) _)
  have hc := row6_get M n hn
  have hbit := shr_eq (M n) j hM
  cases hq : (M n).testBit j with
  | true =>
    rw [hq] at hbit
    go_enter Tryz.func86, Tryz.ntmps86
    go_wp2
    go_ret
    exact ⟨rfl, HB.out⟩
  | false =>
    rw [hq] at hbit
    go_enter Tryz.func86, Tryz.ntmps86
    go_wp2
    go_ret
    exact ⟨rfl, HB.out⟩
theorem infoMat : (Tryz.prog.info? 105).map (·.size) = some 6 := by kernel_rfl
theorem row6_one (M : Nat → Nat) : (row6 M).all (·.oneCell') = true := by simp [row6, Value.oneCell']
theorem setRow_below {B : Nat} {a w : World} {g : Nat} (h : Below B a w) (hg : B ≤ g) (cs : Array Value) : Below B a (w.setRow g cs) :=
  ⟨h.os, h.tape, h.output, by simpa [World.setRow] using h.size, fun k hk => (setRow_other w g k cs (by omega)).trans (h.block k hk)⟩
set_option maxRecDepth 10000 in
set_option maxHeartbeats 1000000 in
theorem matrixOf_any (many : Int) (ks : List Int) (xs : List Edge) (A B : Option Addr) (c d : Nat) (w : World) (hl : xs.length ≤ maxLen) (hlk : ks.length ≤ maxLen) (hA : Row tEdge w (Old w) A xs) (hB : Row tInt w (Old w) B ks)
    (hm : many ≤ 6) (hv : xs.all (edgeOk many) = true) :
    Calls Tryz.prog 122 #[.slice A xs.length c, .slice B ks.length d] w fun e w' => e = .returned (.agg (row6 (matOf ks xs))) ∧ Below w.heap.size w w' := by
  have HLK := hide hlk
  unfold maxLen at hl
  have HA := hide hA; have HB := hide hB; have HV := hide hv
  clear hA hB hv hlk
  go_enter Tryz.func122, Tryz.ntmps122
  go_wp2
  go_loopw [10] (fun i wr => ∃ k : Nat, k ≤ xs.length ∧ i = .int .i64 k ∧ Hid (Blk wr w.heap.size 105 (row6 (fun _ => 0))) ∧ Hid (Blk wr (w.heap.size + 1) 105 (row6 (matOf ks (xs.take k)))) ∧ Below w.heap.size w wr) (fun i _ => xs.length - (intOf i).toNat)
  case atStart => exact ⟨0, Nat.zero_le _, rfl, heap_alloc2_old _ _ _, heap_alloc2_new _ _ _, ((Below.refl _ _).alloc (Nat.le_refl _) _).alloc (by simp) _⟩
  case round =>
    obtain ⟨k, hk, rfl, h4, h5, hb⟩ := hrel
    by_cases hlt : k < xs.length
    · obtain ⟨b, off, rfl, hbS, c0, c1, c2⟩ := at_Edge HA.out hb hlt
      have hS := matOf_succ ks xs k hlt
      have hE := edgeOk_iff (List.all_eq_true.1 HV.out _ (List.getElem_mem hlt))
      have hM := matOf_lt (ks := ks) hm (xs.take k) (fun _ => 0) (List.all_eq_true.2 (fun x hx => List.all_eq_true.1 HV.out x (List.mem_of_mem_take hx))) (fun _ => by decide)
      generalize xs[k] = e at c0 c1 c2 hS hE
      obtain ⟨F, T, Kd⟩ := e
      obtain ⟨⟨he1, he2⟩, ⟨he3, he4⟩, _⟩ := hE
      dsimp only at c0 c1 c2 he1 he2 he3 he4
      obtain ⟨n, rfl⟩ : ∃ n : Nat, F = (n : Int) := ⟨F.toNat, by omega⟩
      obtain ⟨j, rfl⟩ : ∃ j : Nat, T = (j : Int) := ⟨T.toNat, by omega⟩
      have hn6 : n < 6 := by omega
      have hj6 : j < 6 := by omega
      clear he1 he2 he3 he4
      have HM := hide (show ∀ i, matOf ks (xs.take k) i < 64 from hM)
      have HC := hide (contains_Int ks Kd B d (wr.alloc (.cells #[.int .i64 n, .int .i64 j, .int .i64 Kd] 86)) HLK.out (HB.out.old (hb.alloc hb.size _)))
      have HB1 := hide (hb.alloc hb.size (.cells #[.int .i64 n, .int .i64 j, .int .i64 Kd] 86))
      have HS := hide hS
      have H4 := hide (h4.out.alloc (.cells #[.int .i64 n, .int .i64 j, .int .i64 Kd] 86))
      have H5 := hide (h5.out.alloc (.cells #[.int .i64 n, .int .i64 j, .int .i64 Kd] 86))
      clear h4 h5 hM hS
      cases hq : ks.any (fun y => Kd == y) with
      | false =>
        rw [hq] at HC
        have HE := hide (show matOf ks (xs.take (k + 1)) = matOf ks (xs.take k) by rw [HS.out]; unfold stepEdge; simp only; rw [hq]; rfl)
        clear hq
        go_wp2_with (go_at_call 142; refine HC.out.mono ?_; rintro e w' ⟨rfl, rfl⟩)
        go_roundw
        case rel => exact ⟨k + 1, by omega, by go_num, H4.out, by rw [HE.out]; exact H5.out, HB1.out⟩
        case measure => simp [intOf]; omega
      | true =>
        rw [hq] at HC
        have HE := hide (show matOf ks (xs.take (k + 1)) = addEdge (matOf ks (xs.take k)) ⟨n, j, Kd⟩ by rw [HS.out]; unfold stepEdge; simp only; rw [hq]; rfl)
        clear hq
        have hcell := (H5.out.cell n).trans (row6_get _ n hn6)
        have hfro := H5.out.frozen n
        have hor := or_shl (matOf ks (xs.take k) n) j (HM.out n) hj6
        have hnI : (n : Int) < 6 := by omega
        go_wp2_with (go_at_call 142; refine HC.out.mono ?_; rintro e w' ⟨rfl, rfl⟩)
        have z0 : (wr.alloc (.cells #[.int .i64 n, .int .i64 j, .int .i64 Kd] 86)).cell? ⟨wr.heap.size, 0, none⟩ = some (.int .i64 n) := (Blk.new wr _ _).cell 0
        have z1 : (wr.alloc (.cells #[.int .i64 n, .int .i64 j, .int .i64 Kd] 86)).cell? ⟨wr.heap.size, 1, none⟩ = some (.int .i64 j) := (Blk.new wr _ _).cell 1
        generalize wr.alloc (.cells #[.int .i64 n, .int .i64 j, .int .i64 Kd] 86) = W1 at HC H4 H5 HB1 hcell hfro z0 z1 ⊢
        go_still_tail 9, (by kernel_rfl)
        change wpList _ _ _ _ _ W1.drew
        obtain ⟨W2, hW2⟩ : ∃ W2, W1.drew = W2 := ⟨_, rfl⟩
        have H42 := hide (show Blk W2 w.heap.size 105 _ by rw [← hW2]; exact H4.out)
        have H52 := hide (show Blk W2 (w.heap.size + 1) 105 _ by rw [← hW2]; exact H5.out)
        have HB2 := hide (show Below w.heap.size w W2 by rw [← hW2]; exact HB1.out.drew)
        rw [hW2]
        clear hW2
        have hcell2 := (H52.out.cell n).trans (row6_get _ n hn6)
        have hfro2 := H52.out.frozen n
        go_wp2
        go_roundw
        case rel => exact ⟨k + 1, by omega, by go_num, H42.out.far (by simp) _, by rw [HE.out, ← row6_add _ _ n hn6 rfl]; exact H52.out.set_ _ _, Below.setCell HB2.out (by simp) _⟩
        case measure => simp [intOf]; omega
    · obtain rfl : k = xs.length := by omega
      rw [List.take_length] at h5
      go_wp2_with (first | (refine wpList_load_row rfl 105 (.tmp 5) rfl (w.heap.size + 1) rfl 105 _ (0, 0) _ h5.out Tryz.underlying105 rfl infoMat ?_) | (refine wpList_store_row rfl 105 (.tmp 4) (.tmp 28) rfl w.heap.size _ rfl rfl 105 _ h4.out infoMat rfl (row6_one _) ?_))
      exact bodyPost_ret (results_cell_row rfl _ _ w.heap.size 105 _ (0, 0) _ rfl (setRow_heap _ _ _ _ _ _ h4.out) Tryz.underlying105 rfl infoMat) rfl ⟨rfl, setRow_below hb (Nat.le_refl _) _⟩
def cycV (many : Int) (xs : List Edge) (ns : List Int) : Bool := edgesV many xs && decide (2 ≤ ns.length) && cycS xs ns
theorem rem_nat (k n m : Nat) (h : m = (k + 1) % n) : Int.tmod ((k : Int) + 1) (n : Int) = (m : Int) := by
  subst h
  rw [Int.tmod_eq_emod_of_nonneg (by omega)]
  exact (Int.natCast_emod (k + 1) n).symm
theorem hasE_succ {xs : List Edge} {l : Nat} (h : l < xs.length) (a b : Int) : hasE (xs.take (l + 1)) a b = (hasE (xs.take l) a b || (xs[l].From == a && xs[l].To == b)) := by
  unfold hasE
  rw [List.take_succ_eq_append_getElem h, List.any_append]
  simp

set_option maxRecDepth 10000 in
set_option maxHeartbeats 1000000 in
theorem specCycleRight (many : Int) (xs : List Edge) (ns : List Int) (A B : Option Addr) (c d : Nat) (w : World) (hl : xs.length ≤ maxLen) (hln : ns.length ≤ maxLen) (hA : Row tEdge w (Old w) A xs) (hB : Row tInt w (Old w) B ns) :
    Calls Tryz.prog 24 #[.int .i64 many, .slice A xs.length c, .slice B ns.length d] w fun e w' => e = .returned (.bool (cycV many xs ns)) ∧ Below w.heap.size w w' := by
  have HE := hide (specEdgesValid many xs A c w hl hA)
  have HM := hide hln
  unfold maxLen at hl hln
  have HA := hide hA
  have HB := hide hB
  clear hA hB
  cases hv : edgesV many xs with
  | false =>
    have HV := hide (show cycV many xs ns = false by unfold cycV; rw [hv]; rfl)
    rw [hv] at HE
    clear hv
    go_enter Tryz.func24, Tryz.ntmps24
    go_wp2_with (go_at_call 59; refine HE.out.mono ?_; rintro e w1 ⟨rfl, hb1⟩)
    go_ret
    exact ⟨ret_bool HV.out.symm, hb1⟩
  | true =>
    by_cases h2 : 2 ≤ ns.length
    · have HV := hide (show cycV many xs ns = cycS xs ns by unfold cycV; rw [hv]; simp [h2])
      rw [hv] at HE
      clear hv
      go_enter Tryz.func24, Tryz.ntmps24
      go_wp2_with (go_at_call 59; refine HE.out.mono ?_; rintro e w1 ⟨rfl, hb1⟩)
      go_loopw [7] (fun i wr => ∃ k : Nat, k ≤ ns.length ∧ i = .int .i64 k ∧ Hid (∀ j, j < k → stepS xs ns j = true) ∧ Below w.heap.size w wr) (fun i _ => ns.length - (intOf i).toNat)
      case atStart => exact ⟨0, Nat.zero_le _, rfl, fun _ h => absurd h (by omega), hb1⟩
      case round =>
        obtain ⟨k, hk, rfl, hI, hb⟩ := hrel
        clear hb1 HE
        by_cases hlt : k < ns.length
        · obtain ⟨m, hmd⟩ : ∃ m, m = (k + 1) % ns.length := ⟨_, rfl⟩
          have hm : m < ns.length := by rw [hmd]; exact Nat.mod_lt _ (by omega)
          have hrem := rem_nat k ns.length m hmd
          have HS := hide (show stepS xs ns k = (hasE xs ns[k] ns[m] && ns.countP (fun y => y == ns[k]) == 1) by unfold stepS; rw [at_get hlt, ← hmd, at_get hm])
          have HR : Hid (∀ wr, Below w.heap.size w wr → Row tInt wr (Old wr) B ns) := fun wr h => HB.out.old h
          obtain ⟨b, off, hBq, hbS, c0⟩ := at_Int HB.out hb hlt
          obtain ⟨b', off', hBq', _, c1⟩ := at_Int HB.out hb hm
          subst hBq
          obtain ⟨rfl, rfl⟩ : b = b' ∧ off = off' := by simpa using hBq'
          clear hBq' hmd
          go_wp2
          obtain ⟨wo, rfl⟩ : ∃ wo : World, wo = wr := ⟨_, rfl⟩
          clear c0 c1
          go_loopw [9, 10] (fun f j wr => ∃ l : Nat, l ≤ xs.length ∧ j = .int .i64 l ∧ f = .bool (hasE (xs.take l) ns[k] ns[m]) ∧ Below w.heap.size w wr) (fun _ j _ => xs.length - (intOf j).toNat)
          case atStart => exact ⟨0, Nat.zero_le _, rfl, rfl, hb⟩
          case round =>
            obtain ⟨l, hll, rfl, rfl, hb2⟩ := hrel
            clear hb
            obtain ⟨b', off', hBq, _, c0⟩ := at_Int HB.out hb2 hlt
            obtain ⟨rfl, rfl⟩ : b = b' ∧ off = off' := by simpa using hBq
            clear hBq
            by_cases hlt2 : l < xs.length
            · obtain ⟨b2, off2, rfl, hbS2, d0, d1, d2⟩ := at_Edge HA.out hb2 hlt2
              have HT := hide (hasE_succ hlt2 ns[k] ns[m])
              cases q0 : hasE (xs.take l) ns[k] ns[m] with
              | true =>
                have HQ := hide (show hasE (xs.take (l + 1)) ns[k] ns[m] = true by rw [HT.out, q0]; rfl)
                go_wp2
                go_quiet (fail)
                go_wp2
                go_roundw
                case rel => exact ⟨l + 1, by omega, by go_num, by rw [HQ.out], below_drewN hb2 _⟩
                case measure => simp [intOf]; omega
              | false =>
                cases q1 : (xs[l].From == ns[k]) with
                | false =>
                  have HQ := hide (show hasE (xs.take (l + 1)) ns[k] ns[m] = false by rw [HT.out, q0, q1]; rfl)
                  go_wp2
                  go_quiet (fail)
                  go_wp2
                  go_roundw
                  case rel => exact ⟨l + 1, by omega, by go_num, by rw [HQ.out], below_drewN hb2 _⟩
                  case measure => simp [intOf]; omega
                | true =>
                  have HQ := hide (show hasE (xs.take (l + 1)) ns[k] ns[m] = (xs[l].To == ns[m]) by rw [HT.out, q0, q1]; rfl)
                  go_wp2
                  go_quiet (fail)
                  go_wp2
                  go_roundw
                  case rel => exact ⟨l + 1, by omega, by go_num, by rw [HQ.out], below_drewN hb2 _⟩
                  case measure => simp [intOf]; omega
            · obtain rfl : l = xs.length := by omega
              rw [List.take_length]
              cases q0 : hasE xs ns[k] ns[m] with
              | false =>
                have HF := hide (show stepS xs ns k = false by rw [HS.out, q0]; rfl)
                go_wp2
                go_ret
                exact ⟨ret_bool (by rw [HV.out]; exact (range_not hlt HF.out).symm), hb2⟩
              | true =>
                have HG := hide (l13Count ns ns[k] (some ⟨b, off, none⟩) d wr HM.out (HR.out wr hb2))
                by_cases q1 : ns.countP (fun y => y == ns[k]) = 1
                · have HF := hide (show stepS xs ns k = true by rw [HS.out, q0, q1]; rfl)
                  rw [q1] at HG
                  go_wp2_with (go_at_call 60; refine HG.out.mono ?_; rintro e w' ⟨rfl, rfl⟩)
                  go_roundw
                  case rel => exact ⟨k + 1, by omega, by go_num, (fun j hj => by rcases Nat.lt_succ_iff_lt_or_eq.1 hj with h | rfl; exact hI.out j h; exact HF.out), hb2⟩
                  case measure => simp [intOf]; omega
                · have HF := hide (show stepS xs ns k = false by rw [HS.out, q0]; simpa using q1)
                  obtain ⟨n, hn⟩ : ∃ n, n = ns.countP (fun y => y == ns[k]) := ⟨_, rfl⟩
                  rw [← hn] at HG q1
                  have q2 : ((n : Int) = 1) = False := by simp; omega
                  go_wp2_with (go_at_call 60; refine HG.out.mono ?_; rintro e w' ⟨rfl, rfl⟩)
                  go_ret
                  exact ⟨ret_bool (by rw [HV.out]; exact (range_not hlt HF.out).symm), hb2⟩
        · obtain rfl : k = ns.length := by omega
          have HF := hide (show cycS xs ns = true from range_upto hI.out)
          go_wp2
          go_ret
          exact ⟨ret_bool (by rw [HV.out, HF.out]), hb⟩
    · have HV := hide (show cycV many xs ns = false by unfold cycV; simp [h2])
      rw [hv] at HE
      clear hv
      go_enter Tryz.func24, Tryz.ntmps24
      go_wp2_with (go_at_call 59; refine HE.out.mono ?_; rintro e w1 ⟨rfl, hb1⟩)
      go_ret
      exact ⟨ret_bool HV.out.symm, hb1⟩
theorem allOf_any (many : Int) (xs : List Edge) (A : Option Addr) (c : Nat) (w : World) (hl : xs.length ≤ maxLen) (hA : Row tEdge w (Old w) A xs) (hm : many ≤ 6) (hv : xs.all (edgeOk many) = true) :
    Calls Tryz.prog 84 #[.slice A xs.length c] w fun e w' => e = .returned (.agg (row6 (matOf [1, 2, 3, 4] xs))) ∧ Below w.heap.size w w' := by
  have HA := hide hA
  have HC := hide (fun (W : World) (B : Option Addr) (hb : Below w.heap.size w W) (hB : Row tInt W (Old W) B [1, 2, 3, 4]) => matrixOf_any many [1, 2, 3, 4] xs A B c 4 W hl (by decide) (hA.old hb) hB hm hv)
  clear hA
  go_enter Tryz.func84, Tryz.ntmps84
  have HB0 := hide (show Below w.heap.size w ((w.alloc (.cells #[.int .u64 0, .int .u64 0, .int .u64 0, .int .u64 0, .int .u64 0, .int .u64 0] 105)).alloc (.cells #[.int .i64 1, .int .i64 2, .int .i64 3, .int .i64 4] 3)) from ((Below.refl _ _).alloc (Nat.le_refl _) _).alloc (by simp) _)
  have HK0 := hide (heap_alloc2_old w (.cells #[.int .u64 0, .int .u64 0, .int .u64 0, .int .u64 0, .int .u64 0, .int .u64 0] 105) (.cells #[.int .i64 1, .int .i64 2, .int .i64 3, .int .i64 4] 3))
  have HK1 := hide (heap_alloc2_new w (.cells #[.int .u64 0, .int .u64 0, .int .u64 0, .int .u64 0, .int .u64 0, .int .u64 0] 105) (.cells #[.int .i64 1, .int .i64 2, .int .i64 3, .int .i64 4] 3))
  have HR := hide (show Row tInt ((w.alloc (.cells #[.int .u64 0, .int .u64 0, .int .u64 0, .int .u64 0, .int .u64 0, .int .u64 0] 105)).alloc (.cells #[.int .i64 1, .int .i64 2, .int .i64 3, .int .i64 4] 3)) (Old ((w.alloc (.cells #[.int .u64 0, .int .u64 0, .int .u64 0, .int .u64 0, .int .u64 0, .int .u64 0] 105)).alloc (.cells #[.int .i64 1, .int .i64 2, .int .i64 3, .int .i64 4] 3))) (some ⟨w.heap.size + 1, 0, none⟩) [1, 2, 3, 4] from fun _ => ⟨_, 0, rfl, by simp [Old], fun k hk => by
    have hB : Blk _ (w.heap.size + 1) 3 _ := HK1.out
    refine ⟨_, rfl, fun j u hu => ?_⟩
    obtain ⟨hj, rfl⟩ := List.getElem?_eq_some_iff.1 hu
    have hj0 : j = 0 := by simpa using hj
    subst hj0
    rw [hB.cell]
    match k, hk with
    | 0, _ => rfl | 1, _ => rfl | 2, _ => rfl | 3, _ => rfl
    | k + 4, h => exact absurd h (by simp)⟩)
  go_wp2_with (first | (go_at_call 122; refine (HC.out _ _ HB0.out HR.out).mono ?_; rintro e w1 ⟨rfl, hb1⟩; have HB1 := hide (HB0.out.trans (hb1.mono HB0.out.size)); have HX := hide (show Blk w1 w.heap.size 105 _ from (hb1.block w.heap.size (by simp; omega)).trans HK0.out); clear hb1) | (refine wpList_store_row rfl 105 (.tmp 2) (.tmp 5) rfl w.heap.size _ rfl rfl 105 _ HX.out infoMat rfl (row6_one _) ?_))
  exact bodyPost_ret (results_cell_row rfl _ _ w.heap.size 105 _ (0, 0) _ rfl (setRow_heap _ _ _ _ _ _ HX.out) Tryz.underlying105 rfl infoMat) rfl ⟨rfl, setRow_below HB1.out (Nat.le_refl _) _⟩

set_option maxRecDepth 10000 in
set_option maxHeartbeats 2000000 in
theorem implCycleRight (many : Int) (xs : List Edge) (ns : List Int) (A B : Option Addr) (c d : Nat) (w : World) (hl : xs.length ≤ maxLen) (hln : ns.length ≤ maxLen) (hA : Row tEdge w (Old w) A xs) (hB : Row tInt w (Old w) B ns) :
    Calls Tryz.prog 72 #[.int .i64 many, .slice A xs.length c, .slice B ns.length d] w fun e w' => e = .returned (.bool (cycV many xs ns)) ∧ Below w.heap.size w w' := by
  have HE := hide (implEdgesValid many xs A c w hl hA)
  have HM := hide hln
  have HLx := hide hl
  unfold maxLen at hl hln
  have HA := hide hA
  have HB := hide hB
  clear hA hB
  cases hv : edgesV many xs with
  | false =>
    have HV := hide (show cycV many xs ns = false by unfold cycV; rw [hv]; rfl)
    rw [hv] at HE
    clear hv
    go_enter Tryz.func72, Tryz.ntmps72
    go_wp2_with (go_at_call 83; refine HE.out.mono ?_; rintro e w1 ⟨rfl, hb1⟩)
    go_ret
    exact ⟨ret_bool HV.out.symm, hb1⟩
  | true =>
    by_cases h2 : 2 ≤ ns.length
    · have HV := hide (show cycV many xs ns = cycI xs ns by unfold cycV; rw [hv, cyc_eq]; simp [h2])
      have hv2 := hv
      unfold edgesV at hv2
      simp only [Bool.and_eq_true, decide_eq_true_eq] at hv2
      obtain ⟨⟨hv3, _⟩, hv4⟩ := hv2
      obtain ⟨hm0, hm6⟩ := inR_iff.1 hv3
      have HAl := hide hv4
      have hd2 : decide ((ns.length : Int) < 2) = false := by simp; omega
      clear hv3 hv4
      rw [hv] at HE
      clear hv
      go_enter Tryz.func72, Tryz.ntmps72
      go_wp2_with (first | (go_at_call 83; refine HE.out.mono ?_; rintro e w1 ⟨rfl, hb1⟩; have HB1 := hide hb1; clear hb1) | (go_at_call 84; refine (allOf_any many xs A c w1 HLx.out (HA.out.old HB1.out) hm6 HAl.out).mono ?_; rintro e w2 ⟨rfl, hb2⟩; have HB2 := hide (HB1.out.trans (hb2.mono HB1.out.size)); clear hb2) | (refine wpList_store_row rfl 105 (.tmp 7) (.tmp 22) rfl w2.heap.size _ rfl rfl 105 _ (Blk.new w2 _ _) infoMat rfl (row6_one _) ?_))
      generalize hW3 : World.setRow _ _ _ = W3
      have HX := hide (show Blk W3 w2.heap.size 105 (row6 (matOf [1, 2, 3, 4] xs)) by rw [← hW3]; exact setRow_heap _ _ _ _ _ _ (Blk.new w2 _ _))
      have HB3 := hide (show Below w.heap.size w W3 by rw [← hW3]; exact setRow_below (HB2.out.alloc HB2.out.size _) HB2.out.size _)
      have HG := hide HB2.out.size
      clear hW3
      have HMl : Hid (∀ i, matOf [1, 2, 3, 4] xs i < 64) := matOf_lt hm6 xs (fun _ => 0) HAl.out (fun _ => by decide)
      have HMb : Hid (∀ i j : Nat, (matOf [1, 2, 3, 4] xs i).testBit j = hasE xs i j) := allOf_bit HAl.out
      generalize matOf [1, 2, 3, 4] xs = M at HX HMl HMb ⊢
      generalize w2.heap.size = g at HX HG ⊢
      clear HB1 HB2
      go_loopw [8, 25] (fun sv i wr => ∃ k s : Nat, k ≤ ns.length ∧ i = .int .i64 k ∧ sv = .int .u64 s ∧ s < 64 ∧ Hid (∀ j : Nat, s.testBit j = (ns.take k).any (fun y => y == (j : Int))) ∧ Hid (∀ j, j < k → stepI xs ns j = true) ∧ Hid (Blk wr g 105 (row6 M)) ∧ Below w.heap.size w wr) (fun _ i _ => ns.length - (intOf i).toNat)
      case atStart => exact ⟨0, 0, Nat.zero_le _, rfl, rfl, by decide, fun j => by simp, fun _ h => absurd h (by omega), HX.out, HB3.out⟩
      case round =>
        obtain ⟨k, s, hk, rfl, rfl, hs, hS, hI, hX, hb⟩ := hrel
        clear HB3 HX HE
        by_cases hlt : k < ns.length
        · obtain ⟨m, hmd⟩ : ∃ m, m = (k + 1) % ns.length := ⟨_, rfl⟩
          have hm : m < ns.length := by rw [hmd]; exact Nat.mod_lt _ (by omega)
          have hrem := rem_nat k ns.length m hmd
          have HSt := hide (show stepI xs ns k = (hasE xs ns[k] ns[m] && !(ns.take k).any (fun y => y == ns[k])) by unfold stepI; rw [at_get hlt, ← hmd, at_get hm])
          have HAt := hide (at_get hlt)
          obtain ⟨b, off, hBq, hbS, c0⟩ := at_Int HB.out hb hlt
          obtain ⟨b', off', hBq', _, c1⟩ := at_Int HB.out hb hm
          subst hBq
          obtain ⟨rfl, rfl⟩ : b = b' ∧ off = off' := by simpa using hBq'
          clear hBq' hmd
          generalize ns[k] = x at HSt c0 HAt
          generalize ns[m] = y at HSt c1
          cases q1 : inR x 0 (many - 1) with
          | false =>
            have HF := hide (show stepI xs ns k = false by
              rw [HSt.out]
              cases h : hasE xs x y with
              | false => rfl
              | true => have := (hasE_in HAl.out h).1; rw [q1] at this; cases this)
            go_wp2_with (go_at_call 114; refine (within _ _ _ _).mono ?_; rintro e w' ⟨rfl, rfl⟩)
            go_ret
            exact ⟨ret_bool (by rw [HV.out]; exact (range_not hlt HF.out).symm), hb⟩
          | true =>
            cases q2 : inR y 0 (many - 1) with
            | false =>
              have HF := hide (show stepI xs ns k = false by
                rw [HSt.out]
                cases h : hasE xs x y with
                | false => rfl
                | true => have := (hasE_in HAl.out h).2; rw [q2] at this; cases this)
              go_wp2_with (go_at_call 114; refine (within _ _ _ _).mono ?_; rintro e w' ⟨rfl, rfl⟩)
              go_ret
              exact ⟨ret_bool (by rw [HV.out]; exact (range_not hlt HF.out).symm), hb⟩
            | true =>
              obtain ⟨hx0, hx1⟩ := inR_iff.1 q1
              obtain ⟨hy0, hy1⟩ := inR_iff.1 q2
              obtain ⟨n, rfl⟩ : ∃ n : Nat, x = (n : Int) := ⟨x.toNat, by omega⟩
              obtain ⟨j, rfl⟩ : ∃ j : Nat, y = (j : Int) := ⟨y.toNat, by omega⟩
              have hn6 : n < 6 := by omega
              have hj6 : j < 6 := by omega
              have HSn := hide (hS.out n)
              cases q3 : s.testBit n with
              | true =>
                have HF := hide (show stepI xs ns k = false by rw [HSt.out, ← HSn.out, q3]; simp)
                have hsh := (shr_eq s n hs).trans q3
                clear q3
                go_wp2_with (go_at_call 114; refine (within _ _ _ _).mono ?_; rintro e w' ⟨rfl, rfl⟩)
                go_ret
                exact ⟨ret_bool (by rw [HV.out]; exact (range_not hlt HF.out).symm), hb⟩
              | false =>
                have hsh := (shr_eq s n hs).trans q3
                have m0 := (hX.out.cell 0).trans (row6_get M 0 (by decide))
                have m1 := (hX.out.cell 1).trans (row6_get M 1 (by decide))
                have m2 := (hX.out.cell 2).trans (row6_get M 2 (by decide))
                have m3 := (hX.out.cell 3).trans (row6_get M 3 (by decide))
                have m4 := (hX.out.cell 4).trans (row6_get M 4 (by decide))
                have m5 := (hX.out.cell 5).trans (row6_get M 5 (by decide))
                have HH := hide (has_ M n j hn6 hj6 (HMl.out n) wr)
                have HQ := hide q3
                clear q3
                cases q4 : hasE xs (n : Int) (j : Int) with
                | false =>
                  have HF := hide (show stepI xs ns k = false by rw [HSt.out, q4]; rfl)
                  have HT := hide ((HMb.out n j).trans q4)
                  rw [HT.out] at HH
                  clear q4
                  go_wp2_with (first | (go_at_call 114; refine (within _ _ _ _).mono ?_; rintro e w' ⟨rfl, rfl⟩) | (go_at_call 86; refine HH.out.mono ?_; rintro e w4 ⟨rfl, hb4⟩))
                  go_ret
                  exact ⟨ret_bool (by rw [HV.out]; exact (range_not hlt HF.out).symm), hb.trans (hb4.mono hb.size)⟩
                | true =>
                  have HF := hide (show stepI xs ns k = true by rw [HSt.out, q4, ← HSn.out, HQ.out]; rfl)
                  have HT := hide ((HMb.out n j).trans q4)
                  rw [HT.out] at HH
                  have hor := or_shl s n hs hn6
                  have HLt := hide (show s ||| 2 ^ n < 64 from Nat.or_lt_two_pow (n := 6) hs (pow6 hn6))
                  have HSeen := hide (seen_succ hlt HAt.out hS.out)
                  clear q4
                  go_wp2_with (first | (go_at_call 114; refine (within _ _ _ _).mono ?_; rintro e w' ⟨rfl, rfl⟩) | (go_at_call 86; refine HH.out.mono ?_; rintro e w4 ⟨rfl, hb4⟩; have HB4 := hide hb4; clear hb4))
                  go_roundw
                  case rel => exact ⟨k + 1, s ||| 2 ^ n, by omega, by go_num, rfl, HLt.out, HSeen.out, (fun j hj => by rcases Nat.lt_succ_iff_lt_or_eq.1 hj with h | rfl; exact hI.out j h; exact HF.out), hX.out.below HB4.out hX.out.lt, hb.trans (HB4.out.mono hb.size)⟩
                  case measure => simp [intOf]; omega
        · obtain rfl : k = ns.length := by omega
          have HF := hide (show cycI xs ns = true from range_upto hI.out)
          go_wp2
          go_ret
          exact ⟨ret_bool (by rw [HV.out, HF.out]), hb⟩
    · have HV := hide (show cycV many xs ns = false by unfold cycV; simp [h2])
      rw [hv] at HE
      clear hv
      go_enter Tryz.func72, Tryz.ntmps72
      go_wp2_with (go_at_call 83; refine HE.out.mono ?_; rintro e w1 ⟨rfl, hb1⟩)
      go_ret
      exact ⟨ret_bool HV.out.symm, hb1⟩
end Go.Proofs.YtjiobgfaohldhaaGreat
