/- A range over an iterator that keeps its state in a cell of its own. The reference's numbers in texts: l1Number, l1Read. A region that draws its order of evaluation: one fact for each operation, which stays true while the others come up. No order is looked at. A region that draws its order and only makes memory: one value for each operation. -/
import Derived.Test.YtjnghnkilnhacaaGreatDoorQTxtH
import Derived.Test.YtjnghnkilnhacaaGreatDoorQTabT
import Derived.RangeFuncBox
import Derived.RangeFuncCalls
import Derived.RangeFuncLeaves
import Derived.WalkKit
import Derived.OwnWalkIn
import Derived.TacticsInMore
import Derived.LoopNIn
import Derived.LoopIn
import Derived.Maps.AppendAt
import Derived.Laws.BytesArg
import Derived.Laws.IdiomStrings
import Derived.Orders
import Derived.StillTail
import Derived.Calls
import Derived.Laws.World
namespace Go.Proofs.YtjnghnkilnhacaaGreatDoor
open Go.RowKit
set_option linter.unusedVariables false
set_option linter.unusedSimpArgs false

section
variable {F : Fence} {n : Nat} {P : Program} {α : Type}
/-- The blocks of K lie as they lay. -/
def SameK (K : Nat → Prop) (W W' : World) : Prop := ∀ b, K b → W'.heap[b]? = W.heap[b]?
theorem SameK.trans {K : Nat → Prop} {A B C : World} (h : SameK K A B) (k : SameK K B C) : SameK K A C := fun b hb => (k b hb).trans (h b hb)
/-- What an iterator does that keeps its state in cell Bs: it yields the elements in order, as long as it is asked for more. -/
def SeqCell (F : Fence) (n : Nat) (P : Program) (g : Nat) (lb : Array Value) (encs : α → Array Value) (K : Nat → Prop) (Bs : Nat) (S Sp : List α → Prop) (N : Nat) (w : World) : Prop :=
  ∀ (l : Nat) (J Jx : List α → World → Prop) (W : World), SameK K w W → (∀ pre W1 u, J pre W1 → J pre (W1.setCell ⟨Bs, 0, none⟩ u)) →
    (∀ pre x W1, J pre W1 → pre.length < N → YieldAt F (n - 1) P l (encs x) W1 fun e W' =>
      (e = .returned (.bool true) ∧ J (pre ++ [x]) W' ∧ SameK K W1 W') ∨ (e = .returned (.bool false) ∧ Jx (pre ++ [x]) W')) →
    J [] W →
    CallsIn F n P g (#[.func (.yield l) #[] #[]] ++ lb) W fun e W' => (∃ v, e = .returned v) ∧ ((∃ xs, S xs ∧ J xs W') ∨ (∃ pre, Sp pre ∧ Jx pre W'))
/-- How the body of a round is left: it goes on, or it returns. -/
def cellPost (B : Nat) (K : Nat → Prop) (I Ix : List α → World → Prop) (xs : List α) (W : World) : Exit → Act → World → Prop
  | .normal, _, W' => KeepsFrom B W W' ∧ SameK K W W' ∧ I xs W'
  | .ret, _, W' => KeepsFrom B W W' ∧ Ix xs W'
  | _, _, _ => False
/-- The two blocks of a loop. -/
def LoopAt (rec : LoopState → Option Code → Loop) (B : Nat) (st : LoopState) (pe : Option Code) (W : World) : Prop := W.heap[B + 1]? = some (.loop (rec st pe)) ∧ W.heap[B]? = some (.deferred (some []))
theorem heap_set_far (W : World) (b k : Nat) (u : Value) (h : k ≠ b) : (W.setCell ⟨b, 0, none⟩ u).heap[k]? = W.heap[k]? := Below.heap_setCell _ _ _ _ h
theorem same_putObj {K : Nat → Prop} {l : Nat} (W : World) (o : Obj) (h : ¬ K l) : SameK K W (W.putObj l o) := fun b hb => World.putObj_heap_other (fun e => h (e ▸ hb))
set_option maxHeartbeats 4000000 in
theorem range_cell {g : Operand} {ps : Array Tmp} {assign body : Code} {Q : Exit → Act → World → Prop} {a : Act} {w : World}
    (hro : F.round = none) (h1 : 1 ≤ n) {gf : Nat} {lb : Array Value} (hg : a.eval g = .func (.func gf) #[] lb) (hFg : F.fn gf) (eg : ∀ args w, (callFunc gf args).run P w = .ok (.enter gf args) w)
    {encs : α → Array Value} {K : Nat → Prop} {Bs : Nat} {S Sp : List α → Prop} {N : Nat} (hseq : SeqCell F (n - 1) P gf lb encs K Bs S Sp N w) (hn : ∀ b, K b → b < w.heap.size) (hBs : Bs < w.heap.size) (hps : ∀ x, (encs x).size = ps.size)
    (I Ix : List α → World → Prop) (hI : OwnFrom w.heap.size I) (hIx : OwnFrom w.heap.size Ix) (hIs : ∀ pre W u, I pre W → I pre (W.setCell ⟨Bs, 0, none⟩ u)) (h0 : I [] w) (a₁ : α → Act)
    (hassign : ∀ (l : Nat) (x : α) (W : World) (K : Act → World → Prop), K (a₁ x) W →
      assign.wpIn (F.inRound l) (n - 1 - 1) P (Exit.then K (fun _ _ _ => False)) { tmps := (ps.zip (encs x)).foldl (fun t (p, v) => t.setIfInBounds p v) a.tmps, defers := [] } W)
    (hbody : ∀ (l : Nat) (pre : List α) (x : α) (W : World), I pre W → pre.length < N → body.wpIn (F.inRound l) (n - 1 - 1) P (cellPost w.heap.size K I Ix (pre ++ [x]) W) (a₁ x) W)
    (hdone : ∀ (D : Nat) (xs : List α) (W : World), w.heap.size ≤ D → S xs → I xs W → W.heap[D]? = some (.deferred (some [])) → Q .normal { a with defers := { target := .collected D, args := #[] } :: a.defers } W)
    (hstop : ∀ (D : Nat) (pre : List α) (W : World), w.heap.size ≤ D → Sp pre → Ix pre W → W.heap[D]? = some (.deferred (some [])) → Code.ret.wpIn F n P Q { a with defers := { target := .collected D, args := #[] } :: a.defers } W) :
    (Code.rangeFunc g ps assign body).wpIn F n P Q a w := by
  refine wpIn_rangeFunc ?_
  intro fn hfn
  rw [hro]
  obtain ⟨rec, hrec⟩ : ∃ rec : LoopState → Option Code → Loop, rec = fun st pe => { state := st, pending := pe, fn, tmps := a.tmps, params := ps, assign, body, defers := w.heap.size } := ⟨_, rfl⟩
  -- the two blocks of the loop: its record and its deferred calls
  obtain ⟨V, hV⟩ : ∃ V, (w.alloc (.deferred (some []))).alloc (.loop (rec .ready none)) = V := ⟨_, rfl⟩
  have hVl : V.heap[w.heap.size + 1]? = some (.loop (rec .ready none)) := by
    have h := World.alloc_heap_new (w.alloc (.deferred (some []))) (.loop (rec .ready none))
    rw [World.size_alloc, hV] at h
    exact h
  have hVd : V.heap[w.heap.size]? = some (.deferred (some [])) := by
    rw [← hV]
    exact (Below.heap_alloc _ _ _ (by simp)).trans (World.alloc_heap_new w _)
  have hVb : SameK K w V := fun b hb => by
    rw [← hV]
    exact (Below.heap_alloc _ _ _ (by have := hn b hb; simp; omega)).trans (Below.heap_alloc _ _ _ (hn b hb))
  have hKl : ¬ K (w.heap.size + 1) := fun h => by have := hn _ h; omega
  have hVI : I [] V := by rw [← hV]; exact hI.alloc _ (hI.alloc _ h0)
  have hround : ∀ (pre : List α) (x : α) (W : World), (I pre W ∧ LoopAt rec w.heap.size .ready none W) → pre.length < N → YieldAt F (n - 1 - 1) P (w.heap.size + 1) (encs x) W fun e W' =>
      (e = .returned (.bool true) ∧ (I (pre ++ [x]) W' ∧ LoopAt rec w.heap.size .ready none W') ∧ SameK K W W') ∨ (e = .returned (.bool false) ∧ (Ix (pre ++ [x]) W' ∧ LoopAt rec w.heap.size .done (some .ret) W')) := by
    rintro pre x W ⟨hi, hl, hd⟩ hlen
    have hlt := (Array.getElem?_eq_some_iff.1 hl).1
    have hyield := run_yield (P := P) (args := encs x) hl (by rw [hrec]; exact hps x)
    rw [hrec] at hyield
    refine ⟨fn, _, assign, body, hyield, roundIn_of_wpIn hfn (hassign _ x W _ ⟨_, run_beginRound hl (by rw [hrec]), ?_⟩)⟩
    obtain ⟨W2, hW2⟩ : ∃ W2, W.putObj (w.heap.size + 1) (.loop { rec .ready none with state := .busy }) = W2 := ⟨_, rfl⟩
    rw [hW2]
    have hl2 : W2.heap[w.heap.size + 1]? = some (.loop { rec .ready none with state := .busy }) := by rw [← hW2]; exact World.putObj_heap_same hlt
    have hd2 : W2.heap[w.heap.size]? = some (.deferred (some [])) := by rw [← hW2]; exact (World.putObj_heap_other (by omega)).trans hd
    have hb2 : SameK K W W2 := by rw [← hW2]; exact same_putObj W _ hKl
    have hi2 : I pre W2 := by rw [← hW2]; exact hI.putObj _ hi (by omega) hl rfl
    -- how the round is shut
    have shut : ∀ (jump : Option Code) (W3 : World), KeepsFrom w.heap.size W2 W3 → ∃ W4, (Instr.endRound (w.heap.size + 1) jump).run P W3 = .ok (.bool jump.isNone) W4 ∧ W4 = W3.putObj (w.heap.size + 1) (.loop (rec (if jump.isNone then .ready else .done) jump)) ∧ LoopAt rec w.heap.size (if jump.isNone then .ready else .done) jump W4 ∧ W3.heap[w.heap.size + 1]? = some (.loop { rec .ready none with state := .busy }) := fun jump W3 hk => by
      have hl3 := hk.same _ _ (by omega) hl2 rfl
      have hend := run_endRound (P := P) jump hl3
      refine ⟨_, hend, by rw [hrec], ⟨?_, ?_⟩, hl3⟩
      · rw [hrec]; exact World.putObj_heap_same (Array.getElem?_eq_some_iff.1 hl3).1
      · exact (World.putObj_heap_other (by omega)).trans (hk.same _ _ (Nat.le_refl _) hd2 rfl)
    refine wpIn_mono (hbody _ pre x _ hi2 hlen) ?_
    rintro e a3 W3 hp
    cases e with
    | normal =>
      obtain ⟨hk, hb3, hi3⟩ := hp
      obtain ⟨W4, hend, hW4, hlr, hl3⟩ := shut none W3 hk
      refine ⟨_, _, hend, .inl ⟨rfl, ⟨?_, hlr⟩, (hb2.trans hb3).trans ?_⟩⟩
      · rw [hW4]; exact hI.putObj _ hi3 (by omega) hl3 rfl
      · rw [hW4]; exact same_putObj W3 _ hKl
    | ret =>
      obtain ⟨hk, hi3⟩ := hp
      obtain ⟨W4, hend, hW4, hlr, hl3⟩ := shut (some .ret) W3 hk
      refine ⟨_, _, hend, .inr ⟨rfl, ?_, hlr⟩⟩
      rw [hW4]
      exact hIx.putObj _ hi3 (by omega) hl3 rfl
    | exit id => exact hp.elim
    | goto t => exact hp.elim
    | panic c => exact hp.elim
    | outgrown => exact hp.elim
  refine ⟨w.heap.size + 1, [{ target := .collected w.heap.size, args := #[] }], V, { target := .fn (.func gf) lb, args := #[.func (.yield (w.heap.size + 1)) #[] #[]] }, V, gf, #[.func (.yield (w.heap.size + 1)) #[] #[]] ++ lb, V, ?_, ?_, ?_, ?_, fun _ => h1, ?_⟩
  · rw [← hV, hrec]; exact run_enterLoop_outer _ _ _ _ _
  · simp only [resolve, hg]; simp [go_sem]
  · intro f' hf'; simp [Target.leads] at hf'; subst hf'; exact hFg
  · simp [invoke, go_sem, eg]
  · refine (hseq (w.heap.size + 1) (fun pre W => I pre W ∧ LoopAt rec w.heap.size .ready none W) (fun pre W => Ix pre W ∧ LoopAt rec w.heap.size .done (some .ret) W) V hVb
    (fun pre W1 u h => ⟨hIs pre W1 u h.1, (heap_set_far W1 Bs _ u (by omega)).trans h.2.1, (heap_set_far W1 Bs _ u (by omega)).trans h.2.2⟩) hround ⟨hVI, hVl, hVd⟩).mono ?_
    rintro e W2 ⟨⟨v, rfl⟩, (⟨xs, hS, hi, hl, hd⟩ | ⟨pre, hSp, hi, hl, hd⟩)⟩
    · have hend := run_endLoop (P := P) hl (by rw [hrec]; simp)
      rw [hrec] at hend
      exact ⟨none, _, hend, hdone _ xs _ (Nat.le_refl _) hS (hI.putObj _ hi (by omega) hl rfl) ((World.putObj_heap_other (by omega)).trans hd)⟩
    · have hend := run_endLoop (P := P) hl (by rw [hrec]; simp)
      rw [hrec] at hend
      exact ⟨some .ret, _, hend, hstop _ pre _ (Nat.le_refl _) hSp (hIx.putObj _ hi (by omega) hl rfl) ((World.putObj_heap_other (by omega)).trans hd)⟩
end
end Go.Proofs.YtjnghnkilnhacaaGreatDoor
namespace Go.Proofs.YtjnghnkilnhacaaGreatDoor
open Go.RowKit
set_option linter.unusedVariables false
set_option linter.unusedSimpArgs false

theorem ret_str {a b : ByteArray} (h : a = b) : Ending.returned (.string a) = .returned (.string b) := by rw [h]
theorem conv_one (W : World) (k : Nat) (x : UInt8) (hx : x.toNat = 48 + k) : (convert 22 9 (.slice (some ⟨W.heap.size, 0, none⟩) 1 1)).run Tryz.prog (W.alloc (.cells #[.int .u8 (48 + (k : Int))] 5)) = .ok (.string ⟨#[x]⟩) (W.alloc (.cells #[.int .u8 (48 + (k : Int))] 5)) := by
  have h := run_convert_bytes_back (P := Tryz.prog) (W.alloc (.cells #[.int .u8 (48 + (k : Int))] 5)) 22 9 5 ⟨W.heap.size, 0, none⟩ 1 [x] Tryz.underlying22 Tryz.underlying5 Tryz.underlying9 (fun j hj => by
    obtain rfl : j = 0 := by simpa using hj
    have h1 := (Blk.new W 5 #[.int .u8 (48 + (k : Int))]).cell 0
    show _ = some (Value.int IntKind.u8 (x.toNat : Int))
    rw [hx]
    exact h1)
  exact h
set_option maxRecDepth 10000 in
set_option maxHeartbeats 1000000 in
theorem l1Number_any (n : Nat) (hn : n < 100) (w : World) :
    Calls Tryz.prog 46 #[.int .i64 n] w fun e w' => e = .returned (.string ⟨(decL n).toArray⟩) ∧ Below w.heap.size w w' := by
  have h0 : (0 : Int) ≤ (n : Int) := by omega
  have h1 : (n : Int) < 100 := by omega
  have HB1 := hide (fun k : Nat => (Below.refl _ w).alloc (Nat.le_refl _) (.cells #[.int .u8 (48 + (k : Int))] 5))
  by_cases h10 : n < 10
  · have h2 : ¬ (9 : Int) < (n : Int) := by omega
    have h3 : Int.tmod (n : Int) 10 = (n : Int) := Int.tmod_eq_of_lt (by omega) (by omega)
    obtain ⟨x0, hx0⟩ : ∃ x : UInt8, x = UInt8.ofNat (48 + n) := ⟨_, rfl⟩
    have hcv := conv_one w n x0 (by rw [hx0]; simp; omega)
    have HR := hide (show decL n = [x0] by unfold decL; rw [if_pos h10, hx0])
    clear hx0
    go_enter Tryz.func46, Tryz.ntmps46
    go_upto_region 2 with fail
    go_loopw [0, 3] (fun x s wr => x = .int .i64 n ∧ s = .string ⟨#[x0]⟩ ∧ Hid (Below w.heap.size w wr)) (fun _ _ _ => 0)
    case atStart => exact ⟨rfl, rfl, HB1.out n⟩
    case round =>
      obtain ⟨rfl, rfl, hb⟩ := hrel
      clear hcv
      go_wp2_with fail
      go_ret
      exact ⟨ret_str (by rw [HR.out]), hb.out⟩
  · obtain ⟨a, ha⟩ : ∃ a, a = n / 10 := ⟨_, rfl⟩
    obtain ⟨b, hb⟩ : ∃ b, b = n % 10 := ⟨_, rfl⟩
    have ha1 : 1 ≤ a ∧ a < 10 := by omega
    have hb1 : b < 10 := by omega
    have h2 : (9 : Int) < (n : Int) := by omega
    have h3 : Int.tmod (n : Int) 10 = (b : Int) := by rw [Int.tmod_eq_emod_of_nonneg h0]; omega
    have h4 : Int.tdiv (n : Int) 10 = (a : Int) := by rw [Int.tdiv_eq_ediv_of_nonneg h0]; omega
    have h5 : Int.tmod (a : Int) 10 = (a : Int) := Int.tmod_eq_of_lt (by omega) (by omega)
    have h6 : ¬ (9 : Int) < (a : Int) := by omega
    obtain ⟨xa, hxa⟩ : ∃ x : UInt8, x = UInt8.ofNat (48 + a) := ⟨_, rfl⟩
    obtain ⟨xb, hxb⟩ : ∃ x : UInt8, x = UInt8.ofNat (48 + b) := ⟨_, rfl⟩
    have hcv := conv_one w b xb (by rw [hxb]; simp; omega)
    have HCv := hide (fun W => conv_one W a xa (by rw [hxa]; simp; omega))
    have HR := hide (show decL n = [xa, xb] by unfold decL; rw [if_neg h10, ← ha, ← hb, hxa, hxb])
    clear hxa hxb
    have hadd : ∀ W, (Op.stringOp .add ⟨#[xa]⟩ ⟨#[xb]⟩).run Tryz.prog W = .ok (.string (⟨#[xa]⟩ ++ ⟨#[xb]⟩)) W := fun W => run_string_add_sum _ _ _ (by simp [ByteArray.size])
    have HAp := hide (show (⟨#[xa]⟩ ++ ⟨#[xb]⟩ : ByteArray) = ⟨#[xa, xb]⟩ by rfl)
    clear ha hb
    go_enter Tryz.func46, Tryz.ntmps46
    go_upto_region 2 with fail
    go_loopw [0, 3] (fun x s wr => ((x = .int .i64 n ∧ s = .string ⟨#[xb]⟩) ∨ (x = .int .i64 a ∧ s = .string (⟨#[xa]⟩ ++ ⟨#[xb]⟩))) ∧ Hid (Below w.heap.size w wr)) (fun x _ _ => (intOf x).toNat)
    case atStart => exact ⟨.inl ⟨rfl, rfl⟩, HB1.out b⟩
    case round =>
      obtain ⟨hx, hb⟩ := hrel
      rcases hx with ⟨rfl, rfl⟩ | ⟨rfl, rfl⟩
      · have hcw := HCv.out wr
        clear hcv
        have HB2 := hide (hb.out.alloc hb.out.size (.cells #[.int .u8 (48 + (a : Int))] 5))
        go_wp2_with fail
        go_roundw
        case rel => exact ⟨.inr ⟨rfl, rfl⟩, HB2.out⟩
        case measure => simp [intOf]; omega
      · clear hcv
        go_wp2_with fail
        go_ret
        exact ⟨ret_str (by rw [HR.out]; first | rfl | exact HAp.out), hb.out⟩
theorem ret_int' {a b : Int} (h : a = b) : Ending.returned (.int .i64 a) = .returned (.int .i64 b) := by rw [h]
/-- What l1Read answers: the number that a text of one or two digits stands for, or -1. -/
def numI (l : Bs) : Int := match readNum l with
  | some n => n
  | none => -1
/-- The value of at most two digits. -/
def valP : Bs → Option Nat
  | [] => some 0
  | [a] => digV a
  | [a, b] => match digV a, digV b with
    | some x, some y => some (10 * x + y)
    | _, _ => none
  | _ => none
theorem digV_iff {a : UInt8} : digV a = if 48 ≤ a.toNat ∧ a.toNat ≤ 57 then some (a.toNat - 48) else none := rfl
theorem valP_step {l : Bs} {i v : Nat} (hi : i ≤ 1) (h : i < l.length) (hv : valP (l.take i) = some v) (hd : 48 ≤ l[i].toNat ∧ l[i].toNat ≤ 57) : valP (l.take (i + 1)) = some (10 * v + (l[i].toNat - 48)) ∧ v ≤ 9 := by
  rw [List.take_succ_eq_append_getElem h]
  match i, hi with
  | 0, _ =>
    simp only [List.take_zero] at hv ⊢
    obtain rfl : 0 = v := by simpa [valP] using hv
    refine ⟨?_, by omega⟩
    show digV l[0] = _
    rw [digV_iff, if_pos hd]; simp
  | 1, _ =>
    cases l with
    | nil => simp at h
    | cons a t =>
      simp only [List.take_succ_cons, List.take_zero] at hv ⊢
      have ha : digV a = some v := hv
      have hb := (digV_some ha).1
      refine ⟨?_, by omega⟩
      have e : digV (a :: t)[1] = some ((a :: t)[1].toNat - 48) := by rw [digV_iff, if_pos hd]
      show (match digV a, digV (a :: t)[1] with | some x, some y => some (10 * x + y) | _, _ => none) = _
      rw [ha, e]
theorem valP_lt {l : Bs} {v : Nat} (h : valP l = some v) : v < 100 := by
  match l, h with
  | [], h => obtain rfl : 0 = v := by simpa [valP] using h
             omega
  | [a], h => have := (digV_some h).1; omega
  | [a, b], h =>
    unfold valP at h
    simp only at h
    cases ha : digV a with
    | none => rw [ha] at h; cases h
    | some x =>
      cases hb : digV b with
      | none => rw [ha, hb] at h; cases h
      | some y =>
        rw [ha, hb] at h
        have := (digV_some ha).1; have := (digV_some hb).1
        obtain rfl : 10 * x + y = v := by simpa using h
        omega
theorem numI_end {l : Bs} {v : Nat} (h : valP l = some v) : numI l = if l ≠ [] ∧ decL v = l then (v : Int) else -1 := by
  have hv := valP_lt h
  by_cases hd : decL v = l
  · have hn : l ≠ [] := by rw [← hd]; have := decL_len v; intro e; rw [e] at this; simp at this
    rw [if_pos ⟨hn, hd⟩]
    unfold numI
    rw [← hd, readNum_dec hv]
  · rw [if_neg (fun e => hd e.2)]
    unfold numI
    cases hr : readNum l with
    | none => rfl
    | some n =>
      exfalso
      obtain ⟨h1, h2⟩ := readNum_some hr
      have : n = v := by
        match l, h, hr with
        | [a], h, hr => rw [show readNum [a] = digV a from rfl, show digV a = some v from h] at hr; simpa using hr.symm
        | [a, b], h, hr =>
          unfold valP at h
          unfold readNum at hr
          simp only at h hr
          cases ha : digV a with
          | none => rw [ha] at h; cases h
          | some x =>
            cases hb : digV b with
            | none => rw [ha, hb] at h; cases h
            | some y =>
              rw [ha, hb] at h hr
              simp only at hr
              split at hr
              · cases hr
              · obtain rfl : 10 * x + y = v := by simpa using h
                simpa using hr.symm
      exact hd (by rw [← this]; exact h2)
theorem numI_bad {l : Bs} {i : Nat} (h : i < l.length) (hb : ¬ (48 ≤ l[i].toNat ∧ l[i].toNat ≤ 57) ∨ 1 < i) : numI l = -1 := by
  unfold numI
  cases hr : readNum l with
  | none => rfl
  | some n =>
    exfalso
    obtain ⟨h1, h2⟩ := readNum_some hr
    rcases hb with hb | hb
    · exact hb (decL_space h1 _ (by rw [h2]; exact List.getElem_mem h))
    · have := (decL_len n).2
      rw [h2] at this
      omega
set_option maxRecDepth 10000 in
set_option maxHeartbeats 1000000 in
theorem l1Read_any (s : ByteArray) (w : World) (hs : s.size ≤ 9223372036854775807) :
    Calls Tryz.prog 60 #[.string s] w fun e w' => e = .returned (.int .i64 (numI s.data.toList)) ∧ Below w.heap.size w w' := by
  have HSz := hide (show s.size = s.data.toList.length by rw [Array.length_toList]; rfl)
  go_enter Tryz.func60, Tryz.ntmps60
  go_upto_region 3 with fail
  go_loopw [3, 4] (fun n k wr => ∃ (i : Nat) (v : Nat), k = .int .i64 i ∧ n = .int .i64 v ∧ i ≤ s.size ∧ wr = w ∧ Hid (valP (s.data.toList.take i) = some v)) (fun _ k _ => s.size - (intOf k).toNat)
  case atStart => exact ⟨0, 0, rfl, rfl, Nat.zero_le _, rfl, rfl⟩
  case round =>
    obtain ⟨i, v, rfl, rfl, hi, rfl, hI⟩ := hrel
    have HI := hide hI.out
    clear hI
    by_cases hlt : i < s.size
    · have hki : (i : Int) < (s.size : Int) := by omega
      have hll : i < s.data.toList.length := by rw [← HSz.out]; exact hlt
      have hx : s.data.toList[i] = s[i]'hlt := by rw [Array.getElem_toList]; rfl
      by_cases hg : (48 ≤ (s[i]'hlt).toNat ∧ (s[i]'hlt).toNat ≤ 57) ∧ i ≤ 1
      · obtain ⟨⟨g1, g2⟩, g3⟩ := hg
        obtain ⟨hst, hv9⟩ := valP_step g3 hll HI.out (by rw [hx]; exact ⟨g1, g2⟩)
        rw [hx] at hst
        have HS := hide hst
        clear hst hx hll
        have n1 : ¬ ((s[i]'hlt).toNat : Int) < 48 := by omega
        have n2 : ¬ (57 : Int) < ((s[i]'hlt).toNat : Int) := by omega
        have n3 : ¬ (1 : Int) < (i : Int) := by omega
        have w1 : wrap64 (10 * (v : Int)) = 10 * (v : Int) := by unfold wrap64; omega
        have w2 : wrap64 (10 * (v : Int) + (((s[i]'hlt).toNat : Int) - 48)) = 10 * (v : Int) + (((s[i]'hlt).toNat : Int) - 48) := by unfold wrap64; omega
        go_wp2_with fail
        go_roundw
        case rel => exact ⟨i + 1, 10 * v + ((s[i]'hlt).toNat - 48), by go_num, by congr 1; omega, by omega, trivial, HS.out⟩
        case measure => simp [intOf]; omega
      · have HR := hide (show numI s.data.toList = -1 from numI_bad hll (by rw [hx]; omega))
        have hor : (decide (((s[i]'hlt).toNat : Int) < 48) || decide ((57 : Int) < ((s[i]'hlt).toNat : Int)) || decide ((1 : Int) < (i : Int))) = true := by
          simp only [Bool.or_eq_true, decide_eq_true_eq]; omega
        clear hx hll
        go_wp2_with fail
        all_goals
          go_ret
          exact ⟨ret_int' HR.out.symm, Below.refl _ _⟩
    · obtain rfl : i = s.size := by omega
      have hv := HI.out
      rw [HSz.out, List.take_length] at hv
      have HE := hide (numI_end hv)
      have hv2 := valP_lt hv
      have HN := l1Number_any v hv2
      obtain ⟨T, hT⟩ : ∃ T : ByteArray, T = ⟨(decL v).toArray⟩ := ⟨_, rfl⟩
      rw [← hT] at HN
      have HTl := hide (show T.toList = decL v by rw [ByteArray.toList_eq, hT])
      have HSl := hide (ByteArray.toList_eq s)
      have HN := hide HN
      clear hv hT
      by_cases h0 : s.data.toList = []
      · have hb0 : (s.toList == []) = true := by rw [HSl.out, h0]; rfl
        have hb9 : (s.toList == ByteArray.toList ⟨#[]⟩) = true := by rw [HSl.out, h0, ByteArray.toList_eq]; rfl
        have hs0 : s.toList = [] := by rw [HSl.out, h0]
        have HR := hide (show numI s.data.toList = -1 by rw [h0]; rfl)
        clear h0
        go_wp2_with fail
        go_ret
        exact ⟨ret_int' HR.out.symm, Below.refl _ _⟩
      · have hb0 : (s.toList == []) = false := by rw [beq_eq_false_iff_ne, HSl.out]; exact h0
        have hs0 : ¬ s.toList = [] := by rw [HSl.out]; exact h0
        by_cases hd : decL v = s.data.toList
        · have hb1 : (T.toList == s.toList) = true := by rw [beq_iff_eq, HTl.out, HSl.out, hd]
          have hb2 : T.toList = s.toList := by rw [HTl.out, HSl.out, hd]
          have HR := hide (show numI s.data.toList = (v : Int) by rw [HE.out, if_pos ⟨h0, hd⟩])
          clear hd h0
          go_wp2_with (go_at_call 46; refine (HN.out _).mono ?_; rintro e w1 ⟨rfl, hb1⟩; have HB1 := hide hb1; clear hb1)
          go_ret
          exact ⟨ret_int' HR.out.symm, HB1.out⟩
        · have hb1 : (T.toList == s.toList) = false := by rw [beq_eq_false_iff_ne, HTl.out, HSl.out]; exact hd
          have hb2 : ¬ T.toList = s.toList := by rw [HTl.out, HSl.out]; exact hd
          have HR := hide (show numI s.data.toList = -1 by rw [HE.out, if_neg (fun e => hd e.2)])
          clear hd h0
          go_wp2_with (go_at_call 46; refine (HN.out _).mono ?_; rintro e w1 ⟨rfl, hb1⟩; have HB1 := hide hb1; clear hb1)
          go_ret
          exact ⟨ret_int' HR.out.symm, HB1.out⟩
end Go.Proofs.YtjnghnkilnhacaaGreatDoor
namespace Go.Proofs.YtjnghnkilnhacaaGreatDoor
open Go

def depsOf (ops : Array Oper) (i : Nat) : List Nat := ((ops[i]?).map fun o => (o.after.toList.filter fun e => Region.binds .any e).map (·.on)).getD []
def dstOf (ops : Array Oper) (i : Nat) : Option Tmp := (ops[i]?).bind (·.dst)
/-- The first n: each waits for earlier ones alone, has no guard, and no two write to the same place; what follows is one row that waits for all of them. -/
def wellB (ops : Array Oper) (n size : Nat) : Bool := (List.range n).all (fun i =>
  (depsOf ops i).all (fun j => decide (j < i)) && ((ops[i]?).map fun o => o.guard.isNone).getD true && ((dstOf ops i).map fun d => decide (d < size)).getD true &&
    (List.range n).all fun j => i == j || dstOf ops i == none || dstOf ops i != dstOf ops j)
def headL (n m : Nat) : Array Bool := ((List.range m).map fun i => decide (i < n)).toArray
/-- Number i waits for k, by itself or through others. -/
def needB (ops : Array Oper) : Nat → Nat → Nat → Bool
  | 0, i, k => i == k
  | f + 1, i, k => i == k || (depsOf ops i).any fun j => needB ops f j k
def depB (ops : Array Oper) (i j : Nat) (d : Tmp) : Bool := (depsOf ops i).contains j && (dstOf ops j == some d)
def putD (vs : Nat → Value) : List (Option Tmp) → Nat → Act → Act
  | [], _, a => a
  | d :: ds, k, a => putD vs ds (k + 1) (a.put d (vs k))
def openN (n : Nat) (L : Array Bool) : Nat := (List.range n).countP fun i => !L.getD i true
def tailB (ops : Array Oper) (n : Nat) : Bool := Region.sinkB .any ops n && Region.chainB .any ops n && Region.seqB .any ops (ops.size - n) n (headL n ops.size) && decide (openN ops.size (headL n ops.size) = ops.size - n) && decide (n < ops.size)
/-- Nothing that can have come up before number i writes to t. -/
def calmB (ops : Array Oper) (n i t : Nat) : Bool := (List.range n).all fun j => dstOf ops j != some t || j == i || (depsOf ops j).contains i
def valAt (ops : Array Oper) (a : Act) (i : Nat) : Value := match dstOf ops i with
  | some d => a.tmps.getD d undef
  | none => undef
def putAll (ops : Array Oper) (vs : Nat → Value) (a : Act) (is : List Nat) : Act := is.foldl (fun a i => a.put (dstOf ops i) (vs i)) a

theorem getD_put_same (a : Act) (d : Tmp) (v : Value) (h : d < a.tmps.size) : (a.put (some d) v).tmps.getD d undef = v := by
  simp [Act.put, h]
theorem getD_put_ne (a : Act) (o : Option Tmp) (t : Tmp) (v : Value) (h : o ≠ some t) : (a.put o v).tmps.getD t undef = a.tmps.getD t undef := by
  cases o with
  | none => rfl
  | some d => simp [Act.put, Array.getElem?_setIfInBounds_ne (show d ≠ t from fun e => h (by rw [e]))]
theorem size_put (a : Act) (o : Option Tmp) (v : Value) : (a.put o v).tmps.size = a.tmps.size := by
  cases o <;> simp [Act.put]
theorem defers_put (a : Act) (o : Option Tmp) (v : Value) : (a.put o v).defers = a.defers := by
  cases o <;> rfl
theorem size_putAll (ops : Array Oper) (vs : Nat → Value) : ∀ (is : List Nat) (a : Act), (putAll ops vs a is).tmps.size = a.tmps.size ∧ (putAll ops vs a is).defers = a.defers
  | [], _ => ⟨rfl, rfl⟩
  | i :: is, a => by
    have h := size_putAll ops vs is (a.put (dstOf ops i) (vs i))
    rw [size_put, defers_put] at h
    exact h
theorem getD_putAll (ops : Array Oper) (vs : Nat → Value) (t : Tmp) (x : Value) : ∀ (is : List Nat) (a : Act), (∀ i ∈ is, dstOf ops i = some t → vs i = x) → (a.tmps.getD t undef = x ∨ ∃ i ∈ is, dstOf ops i = some t) → t < a.tmps.size →
    (putAll ops vs a is).tmps.getD t undef = x
  | [], _, _, h, _ => by
    rcases h with h | ⟨i, hi, _⟩
    · exact h
    · cases hi
  | i :: is, a, hv, h, ht => by
    refine getD_putAll ops vs t x is (a.put (dstOf ops i) (vs i)) (fun j hj => hv j (List.mem_cons_of_mem _ hj)) ?_ (by rw [size_put]; exact ht)
    by_cases hd : dstOf ops i = some t
    · exact .inl (by rw [hd, getD_put_same _ _ _ ht]; exact hv i List.mem_cons_self hd)
    · rw [getD_put_ne _ _ _ _ hd]
      rcases h with h | ⟨j, hj, hjt⟩
      · exact .inl h
      · rcases List.mem_cons.1 hj with rfl | hj
        · exact absurd hjt hd
        · exact .inr ⟨j, hj, hjt⟩
theorem act_ext {a b : Act} (hs : a.tmps.size = b.tmps.size) (hd : a.defers = b.defers) (h : ∀ t, t < a.tmps.size → a.tmps.getD t undef = b.tmps.getD t undef) : a = b := by
  obtain ⟨x, d⟩ := a
  obtain ⟨y, d'⟩ := b
  simp only at hs hd h
  subst hd
  congr 1
  refine Array.ext hs fun i h1 h2 => ?_
  have := h i h1
  simpa [h1, h2] using this
theorem countP_set (f g : Nat → Bool) (i : Nat) (hf : f i = true) (hg : g i = false) (h : ∀ j, j ≠ i → g j = f j) : ∀ n, i < n → (List.range n).countP g + 1 = (List.range n).countP f
  | 0, hi => absurd hi (by omega)
  | n + 1, hi => by
    rw [List.range_succ, List.countP_append, List.countP_append]
    simp only [List.countP_cons, List.countP_nil, Nat.zero_add]
    by_cases hn : i = n
    · subst hn
      have he : (List.range i).countP g = (List.range i).countP f := List.countP_congr fun j hj => by
        rw [h j (Nat.ne_of_lt (List.mem_range.1 hj))]
      rw [he, hf, hg]
      simp
    · rw [h n (Ne.symm hn)]
      have := countP_set f g i hf hg h n (by omega)
      omega
theorem openN_set {n i : Nat} {L : Array Bool} (hi : i < n) (h : L.getD i true = false) : openN n (L.setIfInBounds i true) + 1 = openN n L := by
  have hlt : i < L.size := by
    rcases Nat.lt_or_ge i L.size with h' | h'
    · exact h'
    · simp [Array.getElem?_eq_none h'] at h
  exact (countP_set _ _ i (by rw [h]; rfl) (by simp [hlt]) (fun j hj => by rw [getD_set_ne true (Ne.symm hj)]) n hi)

section
variable {P : Program} {ops : Array Oper} {Q : Exit → Act → World → Prop}
structure Inv (n : Nat) (J : (Nat → Bool) → World → Prop) (F : Nat → Value → World → Prop) (a0 : Act) (L : Array Bool) (a : Act) (w : World) : Prop where
  j : J (fun i => L.getD i false) w
  size : a.tmps.size = a0.tmps.size
  defers : a.defers = a0.defers
  same : ∀ t, (∀ i, L.getD i false = true → dstOf ops i ≠ some t) → a.tmps.getD t undef = a0.tmps.getD t undef
  fact : ∀ i, L.getD i false = true → F i (valAt ops a i) w
  head : HeadInv .any ops n L

theorem mem_deps {i j : Nat} {o : Oper} (ho : ops[i]? = some o) : j ∈ depsOf ops i ↔ ∃ e ∈ o.after, Region.binds .any e = true ∧ e.on = j := by
  unfold depsOf
  rw [ho]
  simp [List.mem_filter, and_assoc]
theorem well_at {ops : Array Oper} {n m i : Nat} (h : wellB ops n m = true) (hi : i < n) : (∀ j ∈ depsOf ops i, j < i) ∧ (∀ o, ops[i]? = some o → o.guard = none) ∧ (∀ d, dstOf ops i = some d → d < m) ∧ ∀ j, j < n → i ≠ j → ∀ d, dstOf ops i = some d → dstOf ops j ≠ some d := by
  unfold wellB at h
  rw [List.all_eq_true] at h
  have h1 := h i (List.mem_range.2 hi)
  simp only [Bool.and_eq_true, List.all_eq_true, decide_eq_true_eq, Bool.or_eq_true, beq_iff_eq, bne_iff_ne, List.mem_range] at h1
  obtain ⟨⟨⟨h2, h3⟩, h4⟩, h5⟩ := h1
  refine ⟨h2, fun o ho => ?_, fun d hd => ?_, fun j hj hij d hd e => ?_⟩
  · rw [ho] at h3
    simpa using h3
  · rw [hd] at h4
    simpa using h4
  · rcases h5 j hj with (h6 | h6) | h6
    · exact hij h6
    · rw [hd] at h6; cases h6
    · exact h6 (hd.trans e.symm)

theorem need_listed {n : Nat} {L : Array Bool} (hH : HeadInv .any ops n L) {k : Nat} : ∀ f i, L.getD i false = true → needB ops f i k = true → L.getD k false = true
  | 0, i, hi, h => by
    have : i = k := by simpa [needB] using h
    rw [← this]; exact hi
  | f + 1, i, hi, h => by
    unfold needB at h
    simp only [Bool.or_eq_true, beq_iff_eq, List.any_eq_true] at h
    rcases h with h | ⟨j, hj, h⟩
    · rw [← h]; exact hi
    · refine need_listed hH f j ?_ h
      have hio : i < ops.size := by
        rcases Nat.lt_or_ge i ops.size with h' | h'
        · exact h'
        · have : L.size ≤ i := by rw [hH.size]; exact h'
          simp [Array.getElem?_eq_none this] at hi
      obtain ⟨e, he, hb, rfl⟩ := (mem_deps (show ops[i]? = some ops[i] by simp [hio])).1 hj
      exact hH.closed i ops[i] (by simp [hio]) hi e he hb
theorem anyOrder (n : Nat) (J : (Nat → Bool) → World → Prop) (F : Nat → Value → World → Prop) (Ev : Nat → World → World → Prop) (a0 : Act) (hw : wellB ops n a0.tmps.size = true) (ht : tailB ops n = true)
    (hEv : ∀ i k v w w', i < n → k < n → needB ops n i k = false → F i v w → Ev k w w' → F i v w')
    (hstep : ∀ i o, i < n → ops[i]? = some o → ∀ (a : Act) (w : World) (L : Nat → Bool), L i = false → J L w → (∀ t, calmB ops n i t = true → a.tmps.getD t undef = a0.tmps.getD t undef) →
      (∀ j, j ∈ depsOf ops i → F j (valAt ops a j) w) → ∀ K : Act → World → Prop, (∀ v w', F i (if o.dst = none then undef else v) w' → J (fun j => if j = i then true else L j) w' → Ev i w w' → K (a.put o.dst v) w') → o.wp P a w K Q)
    (hend : ∀ (vs : Nat → Value) (w' : World) (L : Nat → Bool), (∀ i, i < n → L i = true) → J L w' → (∀ i, i < n → F i (vs i) w') → wpList P ops Q (ops.toList.drop n) (putAll ops vs a0 (List.range n)) w') :
    ∀ (fuel : Nat) (L : Array Bool) (a : Act) (w : World), openN ops.size L = fuel → Inv (ops := ops) n J F a0 L a w → wpAny P .any ops Q fuel L a w := by
  unfold tailB at ht
  simp only [Bool.and_eq_true, decide_eq_true_eq] at ht
  obtain ⟨⟨⟨⟨hsink, hchain⟩, hseq⟩, hopen⟩, hns⟩ := ht
  have hlt : ∀ {L : Array Bool} {i : Nat}, HeadInv .any ops n L → L.getD i false = true → i < n := fun {L i} hH h => by
    rcases Nat.lt_or_ge i n with h' | h'
    · exact h'
    · rcases Nat.lt_or_ge i ops.size with h2 | h2
      · have := hH.tail i h' h2
        rw [getD_both this] at h; cases h
      · simp [Array.getElem?_eq_none (show L.size ≤ i by rw [hH.size]; exact h2)] at h
  have hdone : ∀ (L : Array Bool) (a : Act) (w : World), Inv (ops := ops) n J F a0 L a w → (∀ i, i < n → L.getD i false = true) → ∀ fuel, openN ops.size L = fuel → wpAny P .any ops Q fuel L a w := fun L a w hI hall fuel hfu => by
    have h := hend (valAt ops a) w _ hall hI.j (fun i hi => hI.fact i (hall i hi))
    have ha : a = putAll ops (valAt ops a) a0 (List.range n) := by
      have hs := size_putAll ops (valAt ops a) (List.range n) a0
      refine act_ext (hI.size.trans hs.1.symm) (hI.defers.trans hs.2.symm) fun t ht => ?_
      refine (getD_putAll ops _ t _ _ a0 (fun i _ hd => ?_) ?_ (by rw [← hI.size]; exact ht)).symm
      · unfold valAt; rw [hd]
      · by_cases hex : ∃ i ∈ List.range n, dstOf ops i = some t
        · exact .inr hex
        · exact .inl (hI.same t fun i hi hd => hex ⟨i, List.mem_range.2 (hlt hI.head hi), hd⟩).symm
    rw [← ha] at h
    have hL : L = headL n ops.size := by
      refine Array.ext (by rw [hI.head.size]; simp [headL]) fun i h1 h2 => ?_
      have h3 : i < ops.size := by rw [← hI.head.size]; exact h1
      simp only [headL, List.getElem_toArray, List.getElem_map, List.getElem_range]
      by_cases hi : i < n
      · have := hall i hi
        simp [h1] at this
        rw [this]; simp [hi]
      · have := hI.head.tail i (by omega) h3
        simp [h1] at this
        rw [this]; simp [hi]
    subst hL
    rw [hopen] at hfu
    have hlen : (ops.toList.drop n).length = ops.size - n := by simp
    have := wpAny_of_seq (md := .any) (Q' := Q) (ops.toList.drop n) n (headL n ops.size) a w (fun j => by simp [List.getElem?_drop]) (by rw [hlen]; exact hseq) h
    rw [hlen] at this
    rw [← hfu]
    exact this
  intro fuel
  induction fuel with
  | zero =>
    intro L a w ho hI
    refine hdone L a w hI (fun i hi => ?_) 0 ho
    cases hL : L.getD i false with
    | true => rfl
    | false =>
      have hs : i < L.size := by rw [hI.head.size]; omega
      have := openN_set (n := ops.size) (show i < ops.size by omega) (show L.getD i true = false by simp [hs] at hL ⊢; exact hL)
      omega
  | succ fuel ih =>
    intro L a w ho hI
    by_cases hex : ∀ i, i < n → L.getD i false = true
    · exact hdone L a w hI hex _ ho
    have hun : ∃ i, i < n ∧ L.getD i false = false := by
      refine Classical.byContradiction fun hno => hex fun i hi => ?_
      cases hL : L.getD i false with
      | true => rfl
      | false => exact absurd ⟨i, hi, hL⟩ hno
    obtain ⟨i0, hi0, hu0⟩ := hun
    have hs0 : i0 < L.size := by rw [hI.head.size]; omega
    have hu1 : L.getD i0 true = false := by simp [hs0] at hu0 ⊢; exact hu0
    have hne : Region.ready .any ops L ≠ [] := fun hr => by
      have hall : ∀ m, ∀ i, i < m → i < n → L.getD i false = true := fun m => by
        induction m with
        | zero => intro i hi; omega
        | succ m ihm =>
          intro i hi hin
          cases hL : L.getD i false with
          | true => rfl
          | false =>
            exfalso
            have hio : i < ops.size := by omega
            have hs : i < L.size := by rw [hI.head.size]; exact hio
            have hmem : i ∈ Region.ready .any ops L := mem_ready.2 ⟨by simp [hs] at hL ⊢; exact hL, ops[i], by simp [hio], fun e he hb => by
              have hd : e.on ∈ depsOf ops i := (mem_deps (by simp [hio])).2 ⟨e, he, hb, rfl⟩
              have hlt := (well_at hw hin).1 _ hd
              exact ihm e.on (by omega) (by omega)⟩
            rw [hr] at hmem
            cases hmem
      rw [hall (i0 + 1) i0 (by omega) hi0] at hu0
      cases hu0
    refine ⟨fun h => absurd h hne, fun i hi => ?_⟩
    have hin : i < n := by
      rcases Nat.lt_or_ge i n with h | h
      · exact h
      · exact absurd hi (tail_waits hsink hchain hns hI.head (n - i0) i0 rfl hi0 hu1 i h)
    obtain ⟨h0, o, hoi, hall⟩ := mem_ready.1 hi
    have hio : i < ops.size := (Array.getElem?_eq_some_iff.1 hoi).1
    have hiL : i < L.size := by rw [hI.head.size]; exact hio
    have hLi : L.getD i false = false := by simp [hiL] at h0 ⊢; exact h0
    have hwell := well_at hw hin
    have hwd : Region.wanted o (yielded ops a.tmps) = true := by simp [Region.wanted, hwell.2.1 o hoi]
    have hdo : dstOf ops i = o.dst := by unfold dstOf; rw [hoi]; rfl
    have hdep : ∀ j ∈ depsOf ops i, L.getD j false = true := fun j hj => by
      obtain ⟨e, he, hb, rfl⟩ := (mem_deps hoi).1 hj
      exact hall e he hb
    unfold wpOp
    rw [hoi]
    simp only [hwd, if_true]
    refine .inl (hstep i o hin hoi a w (fun i => L.getD i false) hLi hI.j (fun t ht => ?_) (fun j hj => hI.fact j (hdep j hj)) _ fun v w' hF hJ hE => ?_)
    · refine hI.same t fun j hj hd => ?_
      unfold calmB at ht
      rw [List.all_eq_true] at ht
      have h1 := ht j (List.mem_range.2 (hlt hI.head hj))
      simp only [Bool.or_eq_true, bne_iff_ne, beq_iff_eq, List.contains_iff_mem] at h1
      rcases h1 with (h1 | h1) | h1
      · exact h1 hd
      · rw [h1, hLi] at hj; cases hj
      · have hjo : j < ops.size := by have := hlt hI.head hj; omega
        obtain ⟨e, he, hb, rfl⟩ := (mem_deps (show ops[j]? = some ops[j] by simp [hjo])).1 h1
        have := hI.head.closed j ops[j] (by simp [hjo]) hj e he hb
        rw [hLi] at this; cases this
    · have hset : ∀ j, (L.setIfInBounds i true).getD j false = if j = i then true else L.getD j false := fun j => by
        by_cases hji : j = i
        · subst hji; simp [hiL]
        · rw [getD_set_ne false (Ne.symm hji), if_neg hji]
      refine ih (L.setIfInBounds i true) (a.put o.dst v) w' (by have := openN_set hio h0; omega) ⟨?_, by rw [size_put]; exact hI.size, by rw [defers_put]; exact hI.defers, fun t ht => ?_, fun j hj => ?_, hI.head.set hi hin⟩
      · simp only [hset]; exact hJ
      · have hne : o.dst ≠ some t := by rw [← hdo]; exact ht i (by rw [hset, if_pos rfl])
        rw [getD_put_ne _ _ _ _ hne]
        exact hI.same t fun j hj => ht j (by rw [hset]; split <;> first | rfl | exact hj)
      · rw [hset] at hj
        by_cases hji : j = i
        · subst hji
          unfold valAt
          rw [hdo]
          cases hd : o.dst with
          | none => simpa [hd] using hF
          | some d =>
            simp only
            rw [getD_put_same _ _ _ (by rw [hI.size]; exact hwell.2.2.1 d (hdo.trans hd))]
            simpa [hd] using hF
        · rw [if_neg hji] at hj
          have hnd : needB ops n j i = false := by
            cases hq : needB ops n j i with
            | false => rfl
            | true =>
              have := need_listed hI.head n j hj hq
              rw [hLi] at this; cases this
          have hf := hEv _ _ _ _ _ (hlt hI.head hj) hin hnd (hI.fact j hj) hE
          have hv : valAt ops (a.put o.dst v) j = valAt ops a j := by
            unfold valAt
            cases hdj : dstOf ops j with
            | none => rfl
            | some d =>
              simp only
              refine getD_put_ne _ _ _ _ fun e => ?_
              exact hwell.2.2.2 j (hlt hI.head hj) (Ne.symm hji) d (hdo.trans e) hdj
          rw [hv]
          exact hf

theorem putD_eq (vs : Nat → Value) : ∀ (m k : Nat) (a : Act), putAll ops vs a (List.range' k m) = putD vs ((List.range' k m).map (dstOf ops)) k a
  | 0, _, _ => rfl
  | m + 1, k, a => by
    show putAll ops vs (a.put (dstOf ops k) (vs k)) (List.range' (k + 1) m) = _
    rw [putD_eq vs m (k + 1)]
    rfl
/-- One fact for each of the first n operations; the rest waits for them all. -/
theorem wp_region_facts {l : List Oper} {id : Nat} {a0 : Act} {w0 : World} (n : Nat) (J : (Nat → Bool) → World → Prop) (F : Nat → Value → World → Prop) (Ev : Nat → World → World → Prop) (ds : List (Option Tmp)) (hm : P.follows .mixedOrders = true) (hw : wellB l.toArray n a0.tmps.size = true) (ht : tailB l.toArray n = true)
    (hds : (List.range n).map (dstOf l.toArray) = ds) (h0 : J (fun _ => false) w0.drew) (hEv : ∀ i k v w w', i < n → k < n → needB l.toArray n i k = false → F i v w → Ev k w w' → F i v w')
    (hstep : ∀ i o, i < n → l.toArray[i]? = some o → ∀ (a : Act) (w : World) (L : Nat → Bool), L i = false → J L w → (∀ t, calmB l.toArray n i t = true → a.tmps.getD t undef = a0.tmps.getD t undef) →
      (∀ j d, depB l.toArray i j d = true → F j (a.tmps.getD d undef) w) → ∀ K : Act → World → Prop, (∀ v w', F i (if o.dst = none then undef else v) w' → J (fun j => if j = i then true else L j) w' → Ev i w w' → K (a.put o.dst v) w') → o.wp P a w K Q)
    (hend : ∀ (vs : Nat → Value) (w' : World) (L : Nat → Bool), (∀ i, i < n → L i = true) → J L w' → (∀ i, i < n → F i (vs i) w') → wpList P l.toArray Q (l.drop n) (putD vs ds 0 a0) w') : (Code.region id l.toArray true).wp P Q a0 w0 := by
  have hf : ∀ i : Nat, (Array.replicate l.toArray.size false).getD i false = false := fun i => getD_replicate_false _ _
  refine wp_region_any hm (anyOrder n J F Ev a0 hw ht hEv (fun i o hi ho a w L hL hJ hc hd K hK => hstep i o hi ho a w L hL hJ hc (fun j d hjd => ?_) K hK) (fun vs w' L hL hJ hF => ?_) _ _ _ _ ?_ ⟨?_, rfl, rfl, fun _ _ => rfl, fun i hi => ?_, by simp, fun j oj _ hl => (by rw [hf] at hl; cases hl), fun t _ ht => getD_in (by simpa using ht) (hf _)⟩)
  · unfold depB at hjd
    simp only [Bool.and_eq_true, List.contains_iff_mem, beq_iff_eq] at hjd
    have h := hd j hjd.1
    unfold valAt at h
    rw [hjd.2] at h
    exact h
  · have h := hend vs w' L hL hJ hF
    rw [← hds, List.range_eq_range', ← putD_eq, ← List.range_eq_range'] at h
    exact h
  · unfold openN
    rw [List.countP_eq_length.2 fun i hi => by
      have hi' : i < l.length := by simpa using List.mem_range.1 hi
      simp [hi']]
    simp
  · simp only [hf]; exact h0
  · rw [hf] at hi; cases hi
end
end Go.Proofs.YtjnghnkilnhacaaGreatDoor
namespace Go.Proofs.YtjnghnkilnhacaaGreatDoor
open Go
/-- Each of the first n operations yields its value in a world of which I holds; the rest waits for them all. -/
theorem wp_region_vals {P : Program} {Q : Exit → Act → World → Prop} {l : List Oper} {id : Nat} {a0 : Act} {w0 : World} (n : Nat) (I : World → Prop) (V : Nat → Value) (ds : List (Option Tmp)) (hm : P.follows .mixedOrders = true) (hw : wellB l.toArray n a0.tmps.size = true) (ht : tailB l.toArray n = true)
    (hds : (List.range n).map (dstOf l.toArray) = ds) (hall : ds.all (·.isSome) = true) (h0 : I w0.drew)
    (hstep : ∀ i o, i < n → l.toArray[i]? = some o → ∀ (a : Act) (w : World), I w → (∀ t, calmB l.toArray n i t = true → a.tmps.getD t undef = a0.tmps.getD t undef) →
      (∀ j d, depB l.toArray i j d = true → a.tmps.getD d undef = V j) → ∀ K : Act → World → Prop, (∀ w', I w' → K (a.put o.dst (V i)) w') → o.wp P a w K Q)
    (hend : ∀ (w' : World), I w' → wpList P l.toArray Q (l.drop n) (putD V ds 0 a0) w') : (Code.region id l.toArray true).wp P Q a0 w0 := by
  have hd : ∀ i o, i < n → l.toArray[i]? = some o → o.dst ≠ none := fun i o hi ho hn => by
    have h1 : dstOf l.toArray i ∈ ds := by
      rw [← hds]
      exact List.mem_map_of_mem (List.mem_range.2 hi)
    have h2 := List.all_eq_true.1 hall _ h1
    unfold dstOf at h2
    rw [ho] at h2
    simp [hn] at h2
  refine wp_region_facts n (fun _ w => I w) (fun i v _ => v = V i) (fun _ _ _ => True) ds hm hw ht hds h0 (fun i k v w w' _ _ _ h _ => h) (fun i o hi ho a w L _ hI hc hdep K hK => ?_) (fun vs w' L _ hI hF => ?_)
  · refine hstep i o hi ho a w hI hc (fun j d hjd => hdep j d hjd) K (fun w' hI' => ?_)
    exact hK (V i) w' (by rw [if_neg (hd i o hi ho)]) hI' trivial
  · have := hend w' hI
    have hp : putD V ds 0 a0 = putD vs ds 0 a0 := by
      have hlen : ds.length = n := by rw [← hds]; simp
      have H : ∀ (ds : List (Option Tmp)) (k : Nat) (a : Act), k + ds.length ≤ n → putD V ds k a = putD vs ds k a := by
        intro ds
        induction ds with
        | nil => intro k a _; rfl
        | cons d ds ih =>
          intro k a hk
          simp only [List.length_cons] at hk
          simp only [putD]
          rw [hF k (by omega)]
          exact ih (k + 1) _ (by omega)
      exact H ds 0 a0 (by omega)
    rw [← hp]
    exact this
end Go.Proofs.YtjnghnkilnhacaaGreatDoor
