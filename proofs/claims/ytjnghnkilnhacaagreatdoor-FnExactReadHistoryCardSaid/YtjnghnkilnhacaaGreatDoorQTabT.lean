/- The reader of the draws: a byte slice and a place. What pick, odd and l20Open answer. The marks that the laws package writes into memory and reads back. append of one element onto a slice of the call's own, and what stays as it was. Slices that read as a list and may be written, each in a block that is known; rows of transactions whose operations lie in blocks of their own. A slice that has room for what is put into it; the slice of an order that is being searched. Numbers in memory of the call's own that can be marked. What searches share: one more number put behind a list; what is found. strings.Join, strings.Split, strings.CutPrefix, strconv.Atoi at this program, in the words of rows. What the library's listed variables hold, and that internal/bytealg.MaxLen holds some number. -/
import Derived.Test.YtjnghnkilnhacaaGreatDoorProg
import Derived.Test.YtjnghnkilnhacaaGreatDoorQHistS
import Derived.Test.YtjnghnkilnhacaaGreatDoorQElems
import Derived.Test.YtjnghnkilnhacaaGreatDoorQTxtH
import Derived.Test.YtjnghnkilnhacaaGreatDoorRows
import Derived.Laws.BitsAllLaws
import Derived.Laws.BitsLemmas
import Derived.Deep.Cut
import Derived.IntWalk
import Derived.Laws.AppendOwn
import Derived.ArgAppend
import Derived.Deep.RegionLaw
import Derived.Lib.SmallJoins
import Derived.Stop.LaidErr
import Derived.Stop.Joined
import Derived.Shelf.Vars
import Derived.MakeChecks
import Derived.Handed
namespace Go.Proofs.YtjnghnkilnhacaaGreatDoor
open Go.RowKit
set_option linter.unusedVariables false
set_option linter.unusedSimpArgs false

theorem ofInt_i64 (a : Nat) (ha : a < 9223372036854775808) : (BitVec.ofInt 64 (a : Int)).toNat = a := by
  rw [BitVec.ofInt_natCast, BitVec.toNat_ofNat]; exact Nat.mod_eq_of_lt (by omega)
theorem i64_xor_nat (a b : Nat) (ha : a < 9223372036854775808) (hb : b < 9223372036854775808) : bits .xor .i64 (a : Int) (b : Int) = ((a ^^^ b : Nat) : Int) := by
  have hx : a ^^^ b < 2 ^ 63 := Nat.xor_lt_two_pow (by omega) (by omega)
  show IntKind.i64.wrap ((BitVec.ofInt 64 (a : Int) ^^^ BitVec.ofInt 64 (b : Int)).toNat : Int) = _
  rw [BitVec.toNat_xor, ofInt_i64 a ha, ofInt_i64 b hb, IntKind.wrap_i64]
  omega
def tByte : Ty Int where
  size := 1
  rel _ _ x cs := cs = [.int .u8 x] ∧ 0 ≤ x ∧ x ≤ 255
  len h := by rw [h.1]; rfl
  one h u hu := by rw [h.1] at hu; simp at hu; subst hu; rfl
  mono h _ _ := h
/-- Block R is a reader at a place of at most P; its bytes lie below R. -/
def Rd (w : World) (R P : Nat) : Prop :=
  ∃ (A : Option Addr) (c : Nat) (xs : List Int) (p : Nat), Blk w R 62 #[.slice A xs.length c, .int .i64 p] ∧ p ≤ P ∧ xs.length ≤ 2000 ∧ Row tByte w (fun b => b < R) A xs
/-- Only block R, and what is new, has turned. -/
abbrev Gr (w w' : World) (R : Nat) : Prop := w.grownBy w' (some R)
theorem Gr.of_below {w w' : World} {R : Nat} (h : Below w.heap.size w w') : Gr w w' R := ⟨h.os, h.tape, h.output, h.size, fun i hi _ => h.block i hi⟩
theorem gr_refl (w : World) (R : Nat) : Gr w w R := ⟨rfl, rfl, rfl, Nat.le_refl _, fun _ _ _ => rfl⟩
theorem gr_trans {a b c : World} {R : Nat} (h : Gr a b R) (k : Gr b c R) : Gr a c R :=
  ⟨k.os.trans h.os, k.tape.trans h.tape, k.output.trans h.output, Nat.le_trans h.size k.size, fun i hi hn => (k.block i (Nat.lt_of_lt_of_le hi h.size) hn).trans (h.block i hi hn)⟩
theorem gr_drewN {a w : World} {R : Nat} (h : Gr a w R) (n : Nat) : Gr a (w.drewN n) R := ⟨h.os, h.tape, h.output, h.size, h.block⟩
theorem gr_alloc {a w : World} {R : Nat} (h : Gr a w R) (o : Obj) : Gr a (w.alloc o) R :=
  ⟨h.os, h.tape, h.output, Nat.le_trans h.size (by simp), fun i hi hne => (Below.heap_alloc w o i (Nat.lt_of_lt_of_le hi h.size)).trans (h.block i hi hne)⟩
theorem gr_setCell {a w : World} {R : Nat} (h : Gr a w R) {p : Addr} (hp : p.block = R ∨ a.heap.size ≤ p.block) (u : Value) : Gr a (w.setCell p u) R :=
  ⟨h.os, h.tape, h.output, by simpa [World.setCell] using h.size, fun i hi hne => (Below.heap_setCell w p u i (by
    rintro rfl
    rcases hp with hp | hp
    · exact hne (by rw [hp])
    · omega)).trans (h.block i hi hne)⟩
theorem below_gr {B : Nat} {a b w : World} {R : Nat} (h : Below B a b) (k : Gr b w R) (hB : B ≤ b.heap.size) (hR : B ≤ R) : Below B a w :=
  ⟨k.os.trans h.os, k.tape.trans h.tape, k.output.trans h.output, Nat.le_trans h.size k.size, fun i hi => (k.block i (by omega) (fun e => by injection e; omega)).trans (h.block i hi)⟩
theorem Rd.lt {w : World} {R P : Nat} (h : Rd w R P) : R < w.heap.size := by obtain ⟨A, c, xs, p, hB, _⟩ := h; exact hB.lt
theorem Rd.up {w : World} {R P Q : Nat} (h : Rd w R P) (hq : P ≤ Q) : Rd w R Q := by
  obtain ⟨A, c, xs, p, hB, hp, hr⟩ := h; exact ⟨A, c, xs, p, hB, by omega, hr⟩
theorem Rd.keep {w w' : World} {R P : Nat} (h : Rd w R P) (hb : ∀ b, b ≤ R → w'.heap[b]? = w.heap[b]?) : Rd w' R P := by
  obtain ⟨A, c, xs, p, hB, hp, hl, hr⟩ := h
  exact ⟨A, c, xs, p, hB.of (hb R (Nat.le_refl _)), hp, hl, hr.mono (fun _ h => h) (fun b hlt => hb b (Nat.le_of_lt hlt))⟩
theorem Rd.below {w w' : World} {R P : Nat} (h : Rd w R P) (hb : Below w.heap.size w w') : Rd w' R P := h.keep fun b hle => hb.block b (Nat.lt_of_le_of_lt hle h.lt)
theorem Rd.alloc {w : World} {R P : Nat} (h : Rd w R P) (o : Obj) : Rd (w.alloc o) R P := h.below ((Below.refl _ _).alloc (Nat.le_refl _) _)
theorem Rd.grown {w w' : World} {R P : Nat} {row : Option Nat} (h : Rd w R P) (hg : w.grownBy w' row) (hr : ∀ i, row = some i → R < i) : Rd w' R P :=
  h.keep fun b hle => hg.block b (Nat.lt_of_le_of_lt hle h.lt) (fun e => by have := hr b e.symm; omega)
theorem Rd.far {w : World} {R P : Nat} (h : Rd w R P) {p : Addr} (hp : R < p.block) (u : Value) : Rd (w.setCell p u) R P :=
  h.keep fun b hle => Below.heap_setCell _ _ _ _ (by omega)
/-- What lies in new blocks stays as it is when the reader goes on. -/
theorem Own.gr {α : Type} {T : Ty α} {e : TypeId} {w w' : World} {R lo : Nat} {S' : Nat → Prop} {xs : List α} {v : Value} (h : Own T e w (In lo w.heap.size) xs v) (hg : Gr w w' R) (hR : R < lo) : Own T e w' (In lo w'.heap.size) xs v :=
  h.mono (fun b hb => ⟨hb.1, Nat.lt_of_lt_of_le hb.2 hg.size⟩) fun b hb => hg.block b hb.2 (fun e => by injection e with e; have := hb.1; omega)

/-- What pick answers. -/
def Picked (w : World) (R P : Nat) (n : Int) (e : Ending) (w' : World) : Prop := ∃ v : Int, e = .returned (.int .i64 v) ∧ 0 ≤ v ∧ (1 ≤ n → v < n) ∧ Rd w' R (P + 1) ∧ Gr w w' R

set_option maxRecDepth 10000 in
set_option maxHeartbeats 2000000 in
theorem pick_any (w : World) (R P : Nat) (n : Int) (h : Rd w R P) (hP : P ≤ 1000000) :
    Calls Tryz.prog 36 #[.pointer (some ⟨R, 0, none⟩), .int .i64 n] w (Picked w R P n) := by
  obtain ⟨A, c, xs, p, hB, hp, hl, hr⟩ := h
  have HE := hide (show ∀ W : World, W.heap[R]? = (w.setCell ⟨R, 1, none⟩ (.int .i64 ((p : Int) + 1))).heap[R]? → (∀ b, b ≠ R → W.heap[b]? = w.heap[b]?) → Rd W R (P + 1) from fun W h1 h2 =>
    ⟨A, c, xs, p + 1, h1.trans (by have := hB.set_ 1 (.int .i64 ((p : Int) + 1)); exact this), by omega, hl, hr.mono (fun _ h => h) (fun b hb => h2 b (by omega))⟩)
  have c0 := hB.cell 0
  have c1 := hB.cell 1
  have f1 := hB.frozen 1
  simp only [List.getElem?_toArray, List.getElem?_cons_zero, List.getElem?_cons_succ] at c0 c1
  have HR := hide hr
  have HBk := hide hB
  clear hr hB
  go_enter Tryz.func36, Tryz.ntmps36
  have hp63 : (p : Int) ≤ 1000000 := by omega
  go_upto_region 2 with (fail)
  have hW := HE.out (w.setCell ⟨R, 1, none⟩ (.int .i64 ((p : Int) + 1))) rfl (fun b hb => Below.heap_setCell _ _ _ _ hb)
  have hB1 := HBk.out.set_ 1 (.int .i64 ((p : Int) + 1))
  have HG := hide (gr_setCell (gr_refl w R) (p := ⟨R, 1, none⟩) (.inl rfl) (.int .i64 ((p : Int) + 1)))
  have HR1 := hide (HR.out.mono (w' := w.setCell ⟨R, 1, none⟩ (.int .i64 ((p : Int) + 1))) (S' := fun b => b < R) (fun _ h => h) (fun b hb => Below.heap_setCell _ _ _ _ (Nat.ne_of_lt hb)))
  generalize w.setCell ⟨R, 1, none⟩ (.int .i64 ((p : Int) + 1)) = W at hW hB1 HG HR1 ⊢
  clear c0 c1 f1 HE HR HBk
  have c0 := hB1.cell 0
  have c1 := hB1.cell 1
  simp only [List.setIfInBounds_toArray, List.set_cons_succ, List.set_cons_zero, List.getElem?_toArray, List.getElem?_cons_zero, List.getElem?_cons_succ] at c0 c1
  have HW := hide hW
  clear hW hB1
  by_cases hn : n < 1
  · go_wp2
    go_ret
    exact ⟨0, rfl, by omega, fun h => by omega, HW.out, HG.out⟩
  · by_cases h0 : xs.length = 0
    · have h0' : ((xs.length : Int) == 0) = true := by simp [h0]
      have HZ := hide h0
      clear h0
      go_wp2
      go_ret
      exact ⟨0, rfl, by omega, fun h => by omega, HW.out, HG.out⟩
    · have h0' : ((xs.length : Int) == 0) = false := by rw [beq_eq_false_iff_ne]; omega
      obtain ⟨b, off, rfl, hbR, hrow⟩ := HR1.out (by omega)
      have HRow := hide hrow
      clear hrow
      by_cases hlt : p < xs.length
      · obtain ⟨cs, hr, hcs⟩ := HRow.out p hlt
        obtain ⟨rfl, hx0, hx1⟩ := hr
        have cp : W.cell? ⟨b, off + p, none⟩ = some (.int .u8 xs[p]) := by simpa [tByte] using hcs 0 _ rfl
        generalize xs[p] = x at hx0 hx1 cp
        clear hcs
        go_wp2
        go_ret
        exact ⟨_, rfl, Int.emod_nonneg _ (by omega), fun h => Int.emod_lt_of_pos _ (by omega), HW.out, HG.out⟩
      · obtain ⟨m1, hm1⟩ : ∃ m : Nat, m = p % xs.length := ⟨_, rfl⟩
        obtain ⟨m2, hm2⟩ : ∃ m : Nat, m = (p * 7 + 3) % xs.length := ⟨_, rfl⟩
        have hl1 : m1 < xs.length := by rw [hm1]; exact Nat.mod_lt _ (by omega)
        have hl2 : m2 < xs.length := by rw [hm2]; exact Nat.mod_lt _ (by omega)
        have e1 : Int.tmod (p : Int) (xs.length : Int) = (m1 : Int) := by rw [hm1, Int.tmod_eq_emod_of_nonneg (by omega)]; exact (Int.natCast_emod _ _).symm
        have e2 : Int.tmod ((p : Int) * 7 + 3) (xs.length : Int) = (m2 : Int) := by rw [hm2, Int.tmod_eq_emod_of_nonneg (by omega)]; exact (Int.natCast_emod _ _).symm
        have e3 : IntKind.i64.wrap ((p : Int) * 7) = (p : Int) * 7 := by rw [IntKind.wrap_i64]; omega
        have e4 : IntKind.i64.wrap ((p : Int) * 7 + 3) = (p : Int) * 7 + 3 := by rw [IntKind.wrap_i64]; omega
        clear hm1 hm2
        obtain ⟨cs, hr, hcs⟩ := HRow.out m1 hl1
        obtain ⟨rfl, hx0, hx1⟩ := hr
        have cp : W.cell? ⟨b, off + m1, none⟩ = some (.int .u8 xs[m1]) := by simpa [tByte] using hcs 0 _ rfl
        obtain ⟨cs, hr, hcs'⟩ := HRow.out m2 hl2
        obtain ⟨rfl, hy0, hy1⟩ := hr
        have cq : W.cell? ⟨b, off + m2, none⟩ = some (.int .u8 xs[m2]) := by simpa [tByte] using hcs' 0 _ rfl
        generalize xs[m1] = x at hx0 hx1 cp
        generalize xs[m2] = y at hy0 hy1 cq
        clear hcs hcs'
        obtain ⟨a1, r1⟩ : ∃ a, IntKind.i64.wrap (x * 131) = a := ⟨_, rfl⟩
        obtain ⟨a2, r2⟩ : ∃ a, IntKind.i64.wrap (y * 1117) = a := ⟨_, rfl⟩
        obtain ⟨a3, r3⟩ : ∃ a, IntKind.i64.wrap (a1 + a2) = a := ⟨_, rfl⟩
        obtain ⟨a4, r4⟩ : ∃ a, IntKind.i64.wrap ((p : Int) * 29) = a := ⟨_, rfl⟩
        obtain ⟨a5, r5⟩ : ∃ a, IntKind.i64.wrap (a3 + a4) = a := ⟨_, rfl⟩
        obtain ⟨a6, r6⟩ : ∃ a, Int.tdiv (p : Int) (xs.length : Int) = a := ⟨_, rfl⟩
        obtain ⟨a7, r7⟩ : ∃ a, IntKind.i64.wrap (a6 * 53) = a := ⟨_, rfl⟩
        have b1 : a1 = x * 131 := by rw [← r1]; exact IntWalk.i64_in _ (by omega)
        have b2 : a2 = y * 1117 := by rw [← r2]; exact IntWalk.i64_in _ (by omega)
        have b3 : a3 = a1 + a2 := by rw [← r3]; exact IntWalk.i64_in _ (by omega)
        have b4 : a4 = (p : Int) * 29 := by rw [← r4]; exact IntWalk.i64_in _ (by omega)
        have b5 : a5 = a3 + a4 := by rw [← r5]; exact IntWalk.i64_in _ (by omega)
        have b6 : 0 ≤ a6 ∧ a6 ≤ 1000000 := by
          rw [← r6]
          refine ⟨Int.tdiv_nonneg (by omega) (by omega), Int.le_trans (Int.tdiv_le_self _ (by omega)) hp63⟩
        have r6b : IntKind.i64.wrap a6 = a6 := IntWalk.i64_in _ (by omega)
        have b7 : a7 = a6 * 53 := by rw [← r7]; exact IntWalk.i64_in _ (by omega)
        obtain ⟨X, r8, hX⟩ : ∃ X : Nat, IntKind.i64.wrap (a5 + a7) = (X : Int) ∧ X ≤ 100000000 := ⟨(a5 + a7).toNat, by rw [IntWalk.i64_in _ (by omega)]; omega, by omega⟩
        obtain ⟨Y, r9⟩ : ∃ Y : Nat, bits .xor .i64 (X : Int) ((X : Int) / 64) = (Y : Int) := ⟨X ^^^ (X / 64), by
          have : ((X : Int) / 64) = ((X / 64 : Nat) : Int) := by omega
          rw [this]
          exact i64_xor_nat X (X / 64) (by omega) (by omega)⟩
        clear b1 b2 b3 b4 b5 b6 b7
        go_wp2_with fail
        go_quiet (fail)
        clear r1 r2 r3 r4 r5 r6 r6b r7 r8 e1 e2 e3 e4
        have c0' : (W.drewN nq).cell? ⟨R, 0, none⟩ = _ := c0
        have HG2 := hide (gr_drewN HG.out nq)
        have HW2 := hide (show Rd (W.drewN nq) R (P + 1) from HW.out)
        generalize W.drewN nq = W2 at c0' HG2 HW2 ⊢
        go_wp2
        go_ret
        exact ⟨_, rfl, Int.emod_nonneg _ (by omega), fun h => Int.emod_lt_of_pos _ (by omega), HW2.out, HG2.out⟩

/-- What odd answers. -/
def Odd (w : World) (R P : Nat) (e : Ending) (w' : World) : Prop := ∃ v : Bool, e = .returned (.bool v) ∧ Rd w' R (P + 1) ∧ Gr w w' R
theorem odd_any (w : World) (R P : Nat) (n : Int) (h : Rd w R P) (hP : P ≤ 1000000) (h63 : n ≤ 1000000) :
    Calls Tryz.prog 35 #[.pointer (some ⟨R, 0, none⟩), .int .i64 n] w (Odd w R P) := by
  have HC := hide (pick_any w R P n h hP)
  have HR := hide h
  clear h
  by_cases hn : 0 < n
  · go_enter Tryz.func35, Tryz.ntmps35
    go_wp2_with (go_at_call 36; refine HC.out.mono ?_; rintro e w' ⟨v, rfl, _, _, hr, hg⟩; have HR2 := hide hr; have HG2 := hide hg; clear hr hg)
    go_ret
    exact ⟨_, rfl, HR2.out, HG2.out⟩
  · go_enter Tryz.func35, Tryz.ntmps35
    go_wp2_with fail
    go_ret
    exact ⟨_, rfl, HR.out.up (by omega), gr_refl _ _⟩

/-- What l20Open answers: a new reader. -/
def Opened (w : World) (e : Ending) (w' : World) : Prop := ∃ R : Nat, e = .returned (.pointer (some ⟨R, 0, none⟩)) ∧ w.heap.size ≤ R ∧ Rd w' R 0 ∧ Below w.heap.size w w'
theorem open_any (xs : List Int) (A : Option Addr) (c : Nat) (w : World) (hl : xs.length ≤ 1048576) (hc : xs.length ≤ c) (hcm : c ≤ maxLen) (hA : Row tByte w (Old w) A xs) :
    Calls Tryz.prog 19 #[.slice A xs.length c] w (Opened w) := by
  unfold maxLen at hcm
  have HA := hide hA
  clear hA
  by_cases h2 : xs.length ≤ 2000
  · go_enter Tryz.func19, Tryz.ntmps19
    go_wp2
    go_ret
    exact ⟨w.heap.size, rfl, Nat.le_refl _, ⟨A, c, xs, 0, Blk.new _ _ _, Nat.le_refl _, h2, HA.out.mono (fun _ h => h) (fun b hb => Below.heap_alloc _ _ _ hb)⟩, (Below.refl _ _).alloc (Nat.le_refl _) _⟩
  · have hc2 : (2000 : Int) ≤ (c : Int) := by omega
    have hlt : (2000 : Nat) = (xs.take 2000).length := by rw [List.length_take]; omega
    have HLt := hide hlt
    clear hlt
    go_enter Tryz.func19, Tryz.ntmps19
    go_wp2
    go_ret
    refine ⟨w.heap.size, rfl, Nat.le_refl _, ⟨A, c, xs.take 2000, 0, by rw [← HLt.out]; exact Blk.new _ _ _, Nat.le_refl _, Nat.le_of_eq HLt.out.symm, fun hp => ?_⟩, (Below.refl _ _).alloc (Nat.le_refl _) _⟩
    obtain ⟨b, off, rfl, hb, hrow⟩ := HA.out (by omega)
    refine ⟨b, off, rfl, hb, fun k hk => ?_⟩
    obtain ⟨cs, hr, hcs⟩ := hrow k (by rw [List.length_take] at hk; omega)
    refine ⟨cs, by rw [List.getElem_take]; exact hr, fun j u hu => ?_⟩
    rw [World.cell?_of_block (Below.heap_alloc w _ b hb)]
    exact hcs j u hu
/-- Only blocks of S may have changed; what is new is new. -/
structure Only (S : Nat → Prop) (w w' : World) : Prop where
  os : w'.os = w.os
  tape : w'.tape = w.tape
  output : w'.output = w.output
  size : w.heap.size ≤ w'.heap.size
  block : ∀ k, k < w.heap.size → ¬ S k → w'.heap[k]? = w.heap[k]?
theorem Only.refl (S : Nat → Prop) (w : World) : Only S w w := ⟨rfl, rfl, rfl, Nat.le_refl _, fun _ _ _ => rfl⟩
theorem Only.trans {S : Nat → Prop} {a b c : World} (h : Only S a b) (k : Only S b c) : Only S a c :=
  ⟨k.os.trans h.os, k.tape.trans h.tape, k.output.trans h.output, Nat.le_trans h.size k.size, fun i hi hs => (k.block i (Nat.lt_of_lt_of_le hi h.size) hs).trans (h.block i hi hs)⟩
theorem Only.mono {S S' : Nat → Prop} {a b : World} (h : Only S a b) (hs : ∀ k, S k → S' k) : Only S' a b := ⟨h.os, h.tape, h.output, h.size, fun i hi hn => h.block i hi fun e => hn (hs i e)⟩
theorem Only.of_below {S : Nat → Prop} {a b : World} (h : Below a.heap.size a b) : Only S a b := ⟨h.os, h.tape, h.output, h.size, fun i hi _ => h.block i hi⟩
theorem Only.setCell {S : Nat → Prop} {a b : World} (h : Only S a b) {p : Addr} (hp : S p.block) (u : Value) : Only S a (b.setCell p u) :=
  ⟨h.os, h.tape, h.output, by simpa [World.setCell] using h.size, fun i hi hn => (Below.heap_setCell _ _ _ _ (by rintro rfl; exact hn hp)).trans (h.block i hi hn)⟩
theorem below_only {S : Nat → Prop} {B : Nat} {a b c : World} (h : Below B a b) (k : Only S b c) (hB : B ≤ b.heap.size) (hS : ∀ i, S i → B ≤ i) : Below B a c :=
  h.trans ⟨k.os, k.tape, k.output, k.size, fun i hi => k.block i (Nat.lt_of_lt_of_le hi hB) fun e => by have := hS i e; omega⟩

/-- Rows keep their length and their element type. -/
def Shape (w w' : World) : Prop := ∀ g e cur, Blk w g e cur → ∃ cur', Blk w' g e cur' ∧ cur'.size = cur.size
theorem Shape.refl (w : World) : Shape w w := fun _ _ cur h => ⟨cur, h, rfl⟩
theorem Shape.trans {a b c : World} (h : Shape a b) (k : Shape b c) : Shape a c := fun g e cur hb => by
  obtain ⟨c1, h1, e1⟩ := h g e cur hb
  obtain ⟨c2, h2, e2⟩ := k g e c1 h1
  exact ⟨c2, h2, e2.trans e1⟩
theorem Shape.setCell (w : World) (g i : Nat) (u : Value) : Shape w (w.setCell ⟨g, i, none⟩ u) := fun g' e cur hb => by
  by_cases hg : g' = g
  · subst hg; exact ⟨_, hb.set_ i u, by simp⟩
  · exact ⟨cur, hb.far (p := ⟨g, i, none⟩) hg u, rfl⟩

/-- A slice that may be written: n places of element type e (one cell each), from the head of a block of S on. -/
def Room (w : World) (S : Nat → Prop) (e : TypeId) (A : Option Addr) (n : Nat) : Prop :=
  0 < n → ∃ g cur, A = some ⟨g, 0, none⟩ ∧ S g ∧ Blk w g e cur ∧ n ≤ cur.size
theorem Room.shape {w w' : World} {S : Nat → Prop} {e : TypeId} {A : Option Addr} {n : Nat} (h : Room w S e A n) (hs : Shape w w') : Room w' S e A n := fun hn => by
  obtain ⟨g, cur, rfl, hg, hb, hl⟩ := h hn
  obtain ⟨c', h', e'⟩ := hs g e cur hb
  exact ⟨g, c', rfl, hg, h', by omega⟩
theorem Room.keep {w w' : World} {S : Nat → Prop} {e : TypeId} {A : Option Addr} {n : Nat} (h : Room w S e A n) (hw : ∀ b, S b → w'.heap[b]? = w.heap[b]?) : Room w' S e A n := fun hn => by
  obtain ⟨g, cur, rfl, hg, hb, hl⟩ := h hn
  exact ⟨g, cur, rfl, hg, hb.of (hw g hg), hl⟩
theorem Own.room {e : TypeId} {w : World} {S : Nat → Prop} {xs : List Int} {A : Option Addr} {n c : Nat} (h : Own tInt e w S xs (.slice A n c)) : Room w S e A xs.length := fun hn => by
  rcases h with ⟨h, rfl⟩ | ⟨g, cap, cur, S', hv, hg, hB, h1, h2, h3, _⟩
  · simp at hn
  · injection hv with hA _ _
    refine ⟨g, cur, hA, hg, hB, ?_⟩
    rw [h3]; show xs.length ≤ cap * 1; omega
theorem Own.row {α : Type} {T : Ty α} {e : TypeId} {w : World} {S : Nat → Prop} {xs : List α} {A : Option Addr} {n c : Nat} (h : Own T e w S xs (.slice A n c)) : Row T w S A xs := by
  obtain ⟨A', c', hv, _, _, hR⟩ := h.sl
  injection hv with hA _ _
  subst hA
  exact hR
/-- The marks k, k+1, .. stand in a slice. -/
def MarksAt (w : World) (S : Nat → Prop) (A : Option Addr) (k : Int) (n : Nat) : Prop :=
  0 < n → ∃ g, A = some ⟨g, 0, none⟩ ∧ S g ∧ ∀ j, j < n → w.cell? ⟨g, j, none⟩ = some (.int .i64 (k + j))
theorem MarksAt.keep {w w' : World} {S : Nat → Prop} {A : Option Addr} {k : Int} {n : Nat} (h : MarksAt w S A k n) (hw : ∀ b, S b → w'.heap[b]? = w.heap[b]?) : MarksAt w' S A k n := fun hn => by
  obtain ⟨g, rfl, hg, hc⟩ := h hn
  exact ⟨g, rfl, hg, fun j hj => (World.cell?_of_block (hw g hg)).trans (hc j hj)⟩

theorem Only.of_grown {K : Nat → Prop} {w w' : World} {row : Option Nat} (h : w.grownBy w' row) (hr : ∀ i, row = some i → K i) : Only K w w' :=
  ⟨h.os, h.tape, h.output, h.size, fun i hi hn => h.block i hi fun e => hn (hr i e.symm)⟩
theorem Only.of_alloc {K : Nat → Prop} (w : World) (o : Obj) : Only K w (w.alloc o) := .of_below ((Below.refl _ _).alloc (Nat.le_refl _) o)
theorem Only.drewN {K : Nat → Prop} {a w : World} (h : Only K a w) (n : Nat) : Only K a (w.drewN n) := ⟨h.os, h.tape, h.output, h.size, h.block⟩
theorem Only.below {w w' : World} (h : Only (fun b => w.heap.size ≤ b) w w') : Below w.heap.size w w' := ⟨h.os, h.tape, h.output, h.size, fun i hi => h.block i hi (by omega)⟩
theorem gr_only {a w w' : World} {R : Nat} {K : Nat → Prop} (h : Gr a w R) (k : Only K w w') (hK : ∀ b, K b → a.heap.size ≤ b) : Gr a w' R :=
  ⟨k.os.trans h.os, k.tape.trans h.tape, k.output.trans h.output, Nat.le_trans h.size k.size, fun i hi hn => (k.block i (Nat.lt_of_lt_of_le hi h.size) (fun e => by have := hK i e; omega)).trans (h.block i hi hn)⟩
theorem Rd.only {w w' : World} {R P : Nat} {K : Nat → Prop} (h : Rd w R P) (k : Only K w w') (hK : ∀ b, K b → R < b) : Rd w' R P :=
  h.keep fun b hle => k.block b (Nat.lt_of_le_of_lt hle h.lt) (fun e => by have := hK b e; omega)
theorem Own.only {α : Type} {T : Ty α} {e : TypeId} {w w' : World} {S : Nat → Prop} {K : Nat → Prop} {xs : List α} {v : Value} (h : Own T e w S xs v) (k : Only K w w') (hS : ∀ b, S b → Old w b ∧ ¬ K b) : Own T e w' S xs v :=
  h.mono (fun _ h => h) fun b hb => k.block b (hS b hb).1 (hS b hb).2
theorem Own.onlyGr {α : Type} {T : Ty α} {e : TypeId} {w w' : World} {R : Nat} {K : Nat → Prop} {xs : List α} {v : Value} (h : Own T e w (fun b => K b ∧ Old w b) xs v) (g : Gr w w' R) (hK : ¬ K R) : Own T e w' (fun b => K b ∧ Old w' b) xs v :=
  h.mono (fun b hb => ⟨hb.1, Nat.lt_of_lt_of_le hb.2 g.size⟩) fun b hb => g.block b hb.2 (fun e => by injection e with e; exact hK (e ▸ hb.1))
theorem Own.onlyBelow {α : Type} {T : Ty α} {e : TypeId} {w w' : World} {K : Nat → Prop} {xs : List α} {v : Value} (h : Own T e w (fun b => K b ∧ Old w b) xs v) (g : Below w.heap.size w w') : Own T e w' (fun b => K b ∧ Old w' b) xs v :=
  h.mono (fun b hb => ⟨hb.1, Nat.lt_of_lt_of_le hb.2 g.size⟩) fun b hb => g.block b hb.2
theorem Own.owned {α : Type} {T : Ty α} {e : TypeId} {w : World} {S : Nat → Prop} {xs : List α} {v : Value} (h : Own T e w S xs v) : ∀ k, v.ownBlock = some k → S k := fun k hk => by
  rcases h with ⟨rfl, _⟩ | ⟨g, cap, cur, S', rfl, hg, _⟩
  · simp [Value.ownBlock] at hk
  · simp [Value.ownBlock] at hk; exact hk ▸ hg
theorem own_zeros {e : TypeId} (w : World) {S : Nat → Prop} (n : Nat) (hm : n ≤ maxLen) (hS : S w.heap.size) :
    Own tInt e (w.alloc (.cells (madeCells #[.int .i64 0] n) e)) S (List.replicate n 0) (.slice (some ⟨w.heap.size, 0, none⟩) n n) := by
  have h : Filling tInt e (w.alloc (.cells (madeCells #[.int .i64 0] n) e)) (fun _ => False) w.heap.size n n (List.replicate n 0) := by
    refine ⟨⟨_, Blk.new _ _ _, by rw [size_madeCells]; show n = n * 1; omega⟩, fun k hk => ?_, fun h => h⟩
    have hk' : k < n := by simp at hk; omega
    refine ⟨_, rfl, fun j u hu => ?_⟩
    obtain ⟨hj, rfl⟩ := List.getElem?_eq_some_iff.1 hu
    have hj0 : j = 0 := by simpa using hj
    subst hj0
    rw [(Blk.new w e _).cell, Array.getElem?_eq_getElem (by rw [size_madeCells]; show 0 + k * 1 + 0 < n; omega)]
    simp [madeCells, Nat.mod_one]
  have h2 : Filling tInt e (w.alloc (.cells (madeCells #[.int .i64 0] n) e)) (fun _ => False) w.heap.size n (List.replicate n (0 : Int)).length (List.replicate n 0) := by simpa using h
  exact h2.own (by simp) hm hS (fun _ h => h.elim)
theorem Row.anyOp {w : World} {S : Nat → Prop} {A : Option Addr} {xs : List Op} (h : Row tOp w S A xs) : RowAny tOp w (fun _ => False) A xs := fun hp => by
  obtain ⟨b, off, hA, _, hr⟩ := h hp
  exact ⟨b, off, hA, fun k hk => hr k hk⟩
/-- A new, empty slice of the call's own. -/
theorem Own.empty {α : Type} {T : Ty α} {e : TypeId} (w : World) (K : Nat → Prop) (hK : K w.heap.size) :
    Own T e (w.alloc (.cells #[] e)) (fun b => K b ∧ Old (w.alloc (.cells #[] e)) b) ([] : List α) (.slice (some ⟨w.heap.size, 0, none⟩) 0 0) :=
  Own.made w #[] 0 (by simp) (by simp [maxLen]) ⟨hK, by simp [Old]⟩
theorem Own.oldRow {α : Type} {T : Ty α} {e : TypeId} {w : World} {K : Nat → Prop} {xs : List α} {v : Value} (h : Own T e w (fun b => K b ∧ Old w b) xs v) : Sl T w (Old w) xs v :=
  h.sl.mono (fun _ hb => hb.2) fun _ _ => rfl
/-- A slice from place k on. -/
theorem Row.cut {α : Type} {T : Ty α} {w : World} {S : Nat → Prop} {A : Option Addr} {xs : List α} (h : Row T w S A xs) (k : Nat) : Row T w S (A.map (fun x => x.add (k * T.size))) (xs.drop k) := fun hp => by
  rw [List.length_drop] at hp
  obtain ⟨b, off, rfl, hb, hr⟩ := h (by omega)
  refine ⟨b, off + k * T.size, by rw [Option.map_some, Go.WideShapes.add_plain], hb, fun j hj => ?_⟩
  rw [List.length_drop] at hj
  obtain ⟨cs, hrel, hcs⟩ := hr (k + j) (by omega)
  refine ⟨cs, by rw [List.getElem_drop]; exact hrel, fun i u hu => ?_⟩
  have := hcs i u hu
  rwa [Nat.add_mul, ← Nat.add_assoc] at this
section
variable {P : Program}
theorem wpList_put {α : Type} (T : Ty α) {w : World} {ops : Array Oper} {rest : List Oper} {o : Oper} {a : Act} {Q : Exit → Act → World → Prop} (hgd : Region.wanted o (yielded ops a.tmps) = true) (s x : Operand) (t : TypeId)
    (ho : o.op = .call { callee := .builtin .append, args := #[s, x], argTypes := #[t, t] })
    (e : TypeId) (i : TypeInfo) (z : Value) (bytes : Nat) (ht : P.underlying t = some (.slice e)) (hi : P.info? e = some i) (hz : i.zero = some z)
    (hsize : i.size = T.size) (hby : i.bytes = bytes) (hzs : z.cells.size = T.size) (hsz : 0 < T.size)
    (K Sy : Nat → Prop) (xs : List α) (y : α) (cs : List Value) (v : Value) (hs : a.eval s = v) (hO : Own T e w (fun b => K b ∧ Old w b) xs v) (c : Nat) (hx : a.eval x = .slice (some ⟨w.heap.size, 0, none⟩) 1 c)
    (hy : T.rel w Sy y cs) (hSy : ∀ b, Sy b → K b ∧ Old w b ∧ v.ownBlock ≠ some b) (hK : ∀ b, w.heap.size ≤ b → K b)
    (h63 : xs.length + 1 ≤ maxLen) (hbytes : (xs.length + 1) * bytes ≤ 140737488355328)
    (h : ∀ v' w', Own T e w' (fun b => K b ∧ Old w' b) (xs ++ [y]) v' → Only K w w' → wpList P ops Q rest (a.put o.dst v') w') : wpList P ops Q (o :: rest) a (w.alloc (.cells cs.toArray e)) := by
  have hO1 := hO.mono (w' := w.alloc (.cells cs.toArray e)) (fun _ h => h) (fun b hb => Below.heap_alloc _ _ _ hb.2)
  refine wpList_app T hgd s x t ho e i z bytes ht hi hz hsize hby hzs hsz (fun b => K b ∧ Old w b) Sy K xs [y] v hs hO1 _ 1 c hx rfl (row_one e hy (fun b hb => (hSy b hb).2.1)) h63 hbytes
    (fun b hb => Nat.lt_of_lt_of_le hb.2 (by simp)) (fun b hb => ⟨Nat.lt_of_lt_of_le (hSy b hb).2.1 (by simp), (hSy b hb).2.2⟩) (fun b hb => hb.1) (fun b hb => (hSy b hb).1) (hK _ (by simp)) (fun v' w' h1 h2 => h v' w' h1 ?_)
  exact (Only.of_alloc w _).trans (Only.of_grown h2 fun i hi => (hO.owned i hi).1)
theorem wpList_cat {α : Type} (T : Ty α) {w : World} {ops : Array Oper} {rest : List Oper} {o : Oper} {a : Act} {Q : Exit → Act → World → Prop} (hgd : Region.wanted o (yielded ops a.tmps) = true) (s x : Operand) (t : TypeId)
    (ho : o.op = .call { callee := .builtin .append, args := #[s, x], argTypes := #[t, t] })
    (e : TypeId) (i : TypeInfo) (z : Value) (bytes : Nat) (ht : P.underlying t = some (.slice e)) (hi : P.info? e = some i) (hz : i.zero = some z)
    (hsize : i.size = T.size) (hby : i.bytes = bytes) (hzs : z.cells.size = T.size) (hsz : 0 < T.size)
    (K Sy : Nat → Prop) (xs ys : List α) (v : Value) (hs : a.eval s = v) (hO : Own T e w (fun b => K b ∧ Old w b) xs v) (A : Option Addr) (m c : Nat) (hx : a.eval x = .slice A m c) (hm : m = ys.length)
    (hy : RowAny T w Sy A ys) (hSy : ∀ b, Sy b → K b ∧ Old w b ∧ v.ownBlock ≠ some b) (hK : ∀ b, w.heap.size ≤ b → K b)
    (h63 : xs.length + ys.length ≤ maxLen) (hbytes : (xs.length + ys.length) * bytes ≤ 140737488355328)
    (h : ∀ v' w', Own T e w' (fun b => K b ∧ Old w' b) (xs ++ ys) v' → Only K w w' → wpList P ops Q rest (a.put o.dst v') w') : wpList P ops Q (o :: rest) a w :=
  wpList_app T hgd s x t ho e i z bytes ht hi hz hsize hby hzs hsz (fun b => K b ∧ Old w b) Sy K xs ys v hs hO A m c hx hm hy h63 hbytes
    (fun b hb => hb.2) (fun b hb => ⟨(hSy b hb).2.1, (hSy b hb).2.2⟩) (fun b hb => hb.1) (fun b hb => (hSy b hb).1) (hK _ (Nat.le_refl _))
    (fun v' w' h1 h2 => h v' w' h1 (Only.of_grown h2 fun i hi => (hO.owned i hi).1))
end
end Go.Proofs.YtjnghnkilnhacaaGreatDoor
namespace Go.Proofs.YtjnghnkilnhacaaGreatDoor
open Go.RowKit
set_option linter.unusedVariables false
set_option linter.unusedSimpArgs false

theorem Sl.row {α : Type} {T : Ty α} {w : World} {S : Nat → Prop} {xs : List α} {A : Option Addr} {n c : Nat} (h : Sl T w S xs (.slice A n c)) : Row T w S A xs := by
  obtain ⟨A', c', hv, _, _, hR⟩ := h
  injection hv with hA _ _
  subst hA
  exact hR
/-- A slice that reads as xs and may be written: its elements begin at the head of block g, which is known whole. -/
def Hold {α : Type} (T : Ty α) (e : TypeId) (w : World) (S : Nat → Prop) (xs : List α) (v : Value) (g : Nat) : Prop :=
  ∃ A c, v = .slice A xs.length c ∧ xs.length ≤ c ∧ c ≤ maxLen ∧ (0 < xs.length → A = some ⟨g, 0, none⟩ ∧ S g ∧ (∃ cur, Blk w g e cur ∧ xs.length * T.size ≤ cur.size) ∧ ∃ S' : Nat → Prop, (∀ b, S' b → S b ∧ b ≠ g) ∧ RowAt T w S' g 0 xs)
section
variable {α : Type} {T : Ty α} {e : TypeId} {w w' : World} {S S2 : Nat → Prop} {xs : List α} {v : Value} {g : Nat}
theorem Hold.mono (h : Hold T e w S xs v g) (h1 : ∀ b, S b → S2 b) (h2 : ∀ b, S b → w'.heap[b]? = w.heap[b]?) : Hold T e w' S2 xs v g := by
  obtain ⟨A, c, rfl, hc, hm, hr⟩ := h
  refine ⟨A, c, rfl, hc, hm, fun hp => ?_⟩
  obtain ⟨rfl, hg, ⟨cur, hB, hl⟩, S', h4, h5⟩ := hr hp
  exact ⟨rfl, h1 g hg, ⟨cur, hB.of (h2 g hg), hl⟩, S', fun b hb => ⟨h1 b (h4 b hb).1, (h4 b hb).2⟩, h5.mono (fun _ h => h) (fun b hb => h2 b (h4 b hb).1) (h2 g hg)⟩
theorem Hold.sl (h : Hold T e w S xs v g) : Sl T w S xs v := by
  obtain ⟨A, c, rfl, hc, hm, hr⟩ := h
  refine ⟨A, c, rfl, hc, hm, fun hp => ?_⟩
  obtain ⟨rfl, hg, ⟨cur, hB, hl⟩, S', h4, h5⟩ := hr hp
  exact ⟨g, 0, rfl, hg, h5.mono (fun b hb => (h4 b hb).1) (fun _ _ => rfl) rfl⟩
theorem Hold.old (h : Hold T e w' (New w w') xs v g) : Sl T w' (Old w') xs v := h.sl.mono (fun _ hb => hb.2) fun _ _ => rfl
theorem Own.hold (h : Own T e w S xs v) : ∃ g, Hold T e w S xs v g ∧ (v.ownBlock = none ∨ v.ownBlock = some g) := by
  rcases h with ⟨rfl, rfl⟩ | ⟨g, cap, cur, S', rfl, hg, hB, h1, h2, h3, h4, h5⟩
  · exact ⟨0, ⟨none, 0, rfl, by simp, by simp [maxLen], fun h => absurd h (by simp)⟩, .inl rfl⟩
  · exact ⟨g, ⟨_, cap, rfl, h1, h2, fun _ => ⟨rfl, hg, ⟨cur, hB, by rw [h3]; exact Nat.mul_le_mul_right _ h1⟩, S', h4, h5⟩⟩, .inr rfl⟩
/-- The block is one of S, or the list is empty. -/
theorem Own.holdAt (h : Own T e w S xs v) (d : Nat) : ∃ g, Hold T e w S xs v g ∧ (S g ∨ g = d) := by
  rcases h with ⟨rfl, rfl⟩ | ⟨g, cap, cur, S', rfl, hg, hB, h1, h2, h3, h4, h5⟩
  · exact ⟨d, ⟨none, 0, rfl, by simp, by simp [maxLen], fun h => absurd h (by simp)⟩, .inr rfl⟩
  · exact ⟨g, ⟨_, cap, rfl, h1, h2, fun _ => ⟨rfl, hg, ⟨cur, hB, by rw [h3]; exact Nat.mul_le_mul_right _ h1⟩, S', h4, h5⟩⟩, .inl hg⟩
theorem Hold.clip {A : Option Addr} {n c : Nat} (h : Hold T e w S xs (.slice A n c) g) : Hold T e w S xs (.slice A n n) g := by
  obtain ⟨A', c', hv, hc, hm, hr⟩ := h
  injection hv with h1 h2 h3
  subst h1; subst h2; subst h3
  exact ⟨_, _, rfl, Nat.le_refl _, Nat.le_trans hc hm, hr⟩
theorem Hold.nil (g : Nat) : Hold T e w S ([] : List α) (.slice none 0 0) g := ⟨none, 0, rfl, by simp, by simp [maxLen], fun h => absurd h (by simp)⟩
end
/-- A transaction whose operations may be written; their block is part of the datum. -/
def tTxnB (e : TypeId) : Ty (Txn × Nat) where
  size := 3
  rel w S p cs := ∃ v, cs = [.int .i64 p.1.Session, v, .bool p.1.Done] ∧ Hold tOp e w S p.1.Ops v p.2
  len h := by obtain ⟨A, rfl, _⟩ := h; rfl
  one h u hu := by
    obtain ⟨v, rfl, h2⟩ := h
    obtain ⟨A, c, rfl, _⟩ := h2.sl
    simp at hu
    rcases hu with rfl | rfl | rfl <;> rfl
  mono h h2 h3 := by obtain ⟨v, rfl, h4⟩ := h; exact ⟨v, rfl, h4.mono h2 h3⟩
theorem RowAt.txnB {e : TypeId} {w : World} {S : Nat → Prop} {b off : Nat} {ps : List (Txn × Nat)} (h : RowAt (tTxnB e) w S b off ps) : RowAt tTxn w S b off (ps.map Prod.fst) := fun k hk => by
  rw [List.length_map] at hk
  obtain ⟨cs, ⟨v, rfl, hr⟩, hc⟩ := h k hk
  exact ⟨_, ⟨v, by simp, by simpa using hr.sl⟩, hc⟩
theorem Sl.txnB {e : TypeId} {w : World} {S : Nat → Prop} {ps : List (Txn × Nat)} {v : Value} (h : Sl (tTxnB e) w S ps v) : Sl tTxn w S (ps.map Prod.fst) v := by
  obtain ⟨A, c, rfl, h1, h2, h3⟩ := h
  refine ⟨A, c, by simp, by simpa using h1, h2, fun hp => ?_⟩
  obtain ⟨b, off, rfl, hb, hr⟩ := h3 (by simpa using hp)
  exact ⟨b, off, rfl, hb, hr.txnB⟩
section
variable {P : Program}
end
/-- A slice of one element, newly made. -/
theorem Own.one {α : Type} {T : Ty α} {e : TypeId} (w : World) {S K : Nat → Prop} {x : α} (cs : List Value) (hr : T.rel w S x cs) (hS : ∀ b, S b → K b ∧ Old w b) (hK : K w.heap.size) :
    Own T e (w.alloc (.cells cs.toArray e)) K [x] (.slice (some ⟨w.heap.size, 0, none⟩) 1 1) := by
  obtain ⟨b, off, hb, hrow⟩ := row_one e hr (fun b h => (hS b h).2) (by simp)
  have hbo : w.heap.size = b ∧ 0 = off := by simpa using hb
  obtain ⟨rfl, rfl⟩ := hbo
  exact .inr ⟨_, 1, _, S, rfl, hK, Blk.new _ _ _, by simp, by simp [maxLen], by rw [List.size_toArray, T.len hr]; omega, fun b h => ⟨(hS b h).1, fun e => by have := (hS b h).2; unfold Old at this; omega⟩, hrow⟩
/-- The blocks go up. -/
def Up {α : Type} (ps : List (α × Nat)) : Prop := ps.Pairwise fun a b => a.2 < b.2
theorem Up.snoc {α : Type} {ps : List (α × Nat)} {p : α × Nat} (h : Up ps) (hp : ∀ q ∈ ps, q.2 < p.2) : Up (ps ++ [p]) := by
  unfold Up
  rw [List.pairwise_append]
  exact ⟨h, List.pairwise_singleton _ _, fun a ha b hb => by simp at hb; subst hb; exact hp a ha⟩
section
variable {P : Program}
end
/-- The slice of the order: what stands in it, in block g, behind variable bo. -/
structure Ord (bo g cap : Nat) (pre : List Int) (W : World) : Prop where
  var : Blk W bo 59 #[.slice (some ⟨g, 0, none⟩) pre.length cap]
  row : ∃ cur, Blk W g 3 cur ∧ cur.size = cap ∧ ∀ j (hj : j < pre.length), cur[j]? = some (.int .i64 pre[j])
theorem Ord.keep {bo g cap : Nat} {pre : List Int} {W W' : World} (h : Ord bo g cap pre W) (h1 : W'.heap[bo]? = W.heap[bo]?) (h2 : W'.heap[g]? = W.heap[g]?) : Ord bo g cap pre W' := by
  obtain ⟨hv, cur, hb, hr⟩ := h
  exact ⟨hv.of h1, cur, hb.of h2, hr⟩
/-- Numbers in memory of S that can be marked. -/
def HoldI (w : World) (S : Nat → Prop) (xs : List Int) (v : Value) : Prop := ∃ g, Hold tInt 3 w S xs v g
theorem HoldI.mono {w w' : World} {S S' : Nat → Prop} {xs : List Int} {v : Value} (h : HoldI w S xs v) (h1 : ∀ b, S b → S' b) (h2 : ∀ b, S b → w'.heap[b]? = w.heap[b]?) : HoldI w' S' xs v := by
  obtain ⟨g, h⟩ := h
  exact ⟨g, h.mono h1 h2⟩
theorem HoldI.sl {w : World} {S : Nat → Prop} {xs : List Int} {v : Value} (h : HoldI w S xs v) : Sl tInt w S xs v := by
  obtain ⟨g, h⟩ := h
  exact h.sl
end Go.Proofs.YtjnghnkilnhacaaGreatDoor
namespace Go.Proofs.YtjnghnkilnhacaaGreatDoor
open Go.RowKit
set_option linter.unusedVariables false
set_option linter.unusedSimpArgs false

def tStr : Ty ByteArray where
  size := 1
  rel _ _ x cs := cs = [.string x]
  len h := by subst h; rfl
  one h u hu := by subst h; simp at hu; subst hu; rfl
  mono h _ _ := h
theorem infoStr_ : (Tryz.prog.info? 9).map (fun i => (i.zero, i.size, i.bytes)) = some (some (.string ⟨#[]⟩), 1, 16) := by kernel_rfl
theorem at_Str {xs : List ByteArray} {A : Option Addr} {w wr : World} {S : Nat → Prop} {k : Nat} (hR : Row tStr w S A xs) (hk : k < xs.length) :
    ∃ b off, A = some ⟨b, off, none⟩ ∧ S b ∧ w.cell? ⟨b, off + k, none⟩ = some (.string xs[k]) := by
  obtain ⟨b, off, rfl, hbS, hc⟩ := hR (by omega)
  obtain ⟨cs, hr, hcs⟩ := hc k hk
  have hr : cs = [.string xs[k]] := hr
  subst hr
  have h0 := hcs 0 _ rfl
  exact ⟨b, off, rfl, hbS, by simpa [tStr] using h0⟩
/-- The library's variables that are read. -/
structure ErrOk (W : World) : Prop where
  syn : ∃ tp p, W.cell? ⟨4, 0, none⟩ = some (.iface tp p)
  rng : ∃ tp p, W.cell? ⟨5, 0, none⟩ = some (.iface tp p)
  max : ∃ m, W.cell? ⟨0, 0, none⟩ = some (.int .i64 m)
theorem cell_lt9 {w : World} {a : Addr} {v : Value} (h : w.cell? a = some v) : a.block < w.heap.size := by
  rcases Nat.lt_or_ge a.block w.heap.size with h' | h'
  · exact h'
  · simp [World.cell?, Array.getElem?_eq_none h'] at h
theorem ErrOk.below {W W' : World} (h : ErrOk W) (hb : Below W.heap.size W W') : ErrOk W' := by
  obtain ⟨⟨t1, p1, h1⟩, ⟨t2, p2, h2⟩, m, h3⟩ := h
  exact ⟨⟨t1, p1, (hb.cell (cell_lt9 h1)).trans h1⟩, ⟨t2, p2, (hb.cell (cell_lt9 h2)).trans h2⟩, m, (hb.cell (cell_lt9 h3)).trans h3⟩
theorem join_any (xs : List ByteArray) (sep : ByteArray) (A : Option Addr) (c : Nat) (w : World) (hc : xs.length ≤ c) (hA : Row tStr w (Old w) A xs) (hN : xs.length ≤ 140737488355328) (hlen : (Lib.join (xs.map (·.data.toList)) sep.data.toList).length ≤ 140737488355328) :
    Calls Tryz.prog 22 #[.slice A xs.length c, .string sep] w fun e w' => e = .returned (.string ⟨(Lib.join (xs.map (·.data.toList)) sep.data.toList).toArray⟩) ∧ Below w.heap.size w w' := by
  cases xs with
  | nil => exact (Any.strings_Join_none tLayJoin tLayExtra A c sep w).mono fun e w' ⟨h1, h2⟩ => ⟨h1, h2 ▸ Below.refl _ _⟩
  | cons x r =>
    obtain ⟨b, off, rfl, hb, hrow⟩ := hA (by simp)
    exact Any.strings_Join tLayJoin tLayExtra b off c (x :: r) sep w (fun j y hj => by
      obtain ⟨hj', rfl⟩ := List.getElem?_eq_some_iff.1 hj
      obtain ⟨cs, hr, hcs⟩ := hrow j hj'
      have hr : cs = [.string (x :: r)[j]] := hr
      subst hr
      have h0 := hcs 0 _ rfl
      simpa [tStr] using h0) hb hN hc hlen
theorem cut_any (s p : ByteArray) (w : World) :
    Calls Tryz.prog 78 #[.string s, .string p] w fun e w' => e = .returned (.tuple #[.string ⟨(Lib.trimPrefix s.data.toList p.data.toList).toArray⟩, .bool (Lib.hasPrefix s.data.toList p.data.toList)]) ∧ w' = w := Any.strings_CutPrefix tLayCut s p w
theorem split_any (s sep : ByteArray) (w : World) (hE : ErrOk w) (hs : s.size < 4294967281) (h1 : 1 ≤ sep.size) :
    Calls Tryz.prog 53 #[.string s, .string sep] w fun e w' => ∃ xs v, e = .returned v ∧ xs.map (·.data.toList) = Lib.split s.data.toList sep.data.toList ∧ Sl tStr w' (New w w') xs v ∧ Below w.heap.size w w' := by
  obtain ⟨m, hm⟩ := hE.max
  refine (Any.strings_Split { tLaySplit with } tLaySplit.i9 s sep m w hs hm h1).mono ?_
  rintro e w' ⟨rfl, rfl⟩
  have hl := Lib.splitB_all sep h1 0 (Lib.countB s sep) s rfl
  refine ⟨Lib.splitB sep 0 (Lib.countB s sep) s, _, rfl, Lib.splitB_data sep 0 _ s, ?_, (Below.refl _ w).alloc (Nat.le_refl _) _⟩
  rw [← hl]
  have hc := Lib.countB_le sep h1 s.size s (Nat.le_refl _)
  refine ⟨_, _, rfl, Nat.le_refl _, by rw [hl]; simp only [maxLen]; omega, fun _ => ⟨w.heap.size, 0, rfl, ⟨Nat.le_refl _, by simp⟩, fun k hk => ⟨[.string (Lib.splitB sep 0 (Lib.countB s sep) s)[k]], rfl, fun j u hj => ?_⟩⟩⟩
  obtain ⟨rfl, rfl⟩ : j = 0 ∧ u = .string (Lib.splitB sep 0 (Lib.countB s sep) s)[k] := by
    cases j with
    | zero => exact ⟨rfl, by simpa using hj.symm⟩
    | succ j => simp at hj
  rw [(Blk.new w _ _).cell]
  simp [tStr]
/-- How strconv.Atoi answers: a value, or a fault. -/
def AtoiV (l : List UInt8) (n : Int) (ev : Value) : Prop := match Lib.atoiAll l with
  | .ok v => n = v ∧ ev = .nilIface
  | _ => ∃ t p, ev = .iface t p
theorem atoi_any (s : ByteArray) (w : World) (hE : ErrOk w) (hs : s.size ≤ 281474976710656) :
    Calls Tryz.prog 79 #[.string s] w fun e w' => ∃ n ev, e = .returned (.tuple #[.int .i64 n, ev]) ∧ AtoiV s.data.toList n ev ∧ Below w.heap.size w w' := by
  unfold AtoiV
  rcases h : Lib.atoiAll s.data.toList with v | _ | _
  · skip
    refine (Any.strconv_Atoi_ok tLayAtoi s (by omega) v h w).mono ?_
    rintro e w' ⟨rfl, hw⟩
    refine ⟨v, .nilIface, rfl, ⟨rfl, rfl⟩, ?_⟩
    rcases hw with rfl | ⟨t, rfl⟩
    · exact Below.refl _ _
    · exact ⟨rfl, rfl, rfl, by rw [Lib.bytesWorld_size]; omega, fun j hj => Lib.bytesWorld_at_old w _ t j hj⟩
  · skip
    obtain ⟨tp, p, hc⟩ := hE.syn
    refine (Any.strconv_Atoi_syntax tLayAtoi s hs h (.iface tp p) w hc (.inr ⟨tp, p, rfl⟩)).mono ?_
    rintro e w' ⟨N, rfl, _, _, hb⟩
    exact ⟨0, _, rfl, ⟨_, _, rfl⟩, hb⟩
  · skip
    obtain ⟨tp, p, hc⟩ := hE.rng
    refine (Any.strconv_Atoi_range tLayAtoi s hs h (.iface tp p) w hc (.inr ⟨tp, p, rfl⟩)).mono ?_
    rintro e w' ⟨N, rfl, _, _, hb⟩
    exact ⟨_, _, rfl, ⟨_, _, rfl⟩, hb⟩
end Go.Proofs.YtjnghnkilnhacaaGreatDoor
namespace Go.Proofs.YtjnghnkilnhacaaGreatDoor
open Go.RowKit Go.Shelf
set_option linter.unusedVariables false

theorem rowES (u : TypeId) (h : Tryz.prog.typeName? 3 u = some "*errors.errorString") : u = 146 :=
  typeName_ptr_named (nm := "errors.errorString") (by rw [show "*" ++ "errors.errorString" = "*errors.errorString" by decide]; kernel_rfl) (by kernel_rfl) (by decide) u (by rw [show "*" ++ "errors.errorString" = "*errors.errorString" by decide]; exact h)
set_option maxRecDepth 100000 in
theorem errOk_of {W : World} (hL : laidMetH Tryz.prog [("math/bits.deBruijn32tab", Rows.laid_math_bits_deBruijn32tab), ("math/bits.deBruijn64tab", Rows.laid_math_bits_deBruijn64tab), ("internal/strconv.uint64pow10", Rows.laid_internal_strconv_uint64pow10), ("unicode/utf8.acceptRanges", Rows.laid_unicode_utf8_acceptRanges), ("strconv.ErrRange", Rows.laid_strconv_ErrRange), ("strconv.ErrSyntax", Rows.laid_strconv_ErrSyntax), ("unicode/utf8.first", Rows.laid_unicode_utf8_first)] W) (hsh : W.ShapedOpen Tryz.prog) : ErrOk W := by
  rw [MakeChecks.laidMetH_plain _ _ _ (by kernel_rfl)] at hL
  have h0 : laidMet Tryz.prog (("strconv.ErrRange", .iface "*errors.errorString" (.ptr (.agg [.lit (.string [118, 97, 108, 117, 101, 32, 111, 117, 116, 32, 111, 102, 32, 114, 97, 110, 103, 101])]))) :: [("strconv.ErrSyntax", Rows.laid_strconv_ErrSyntax), ("unicode/utf8.first", Rows.laid_unicode_utf8_first)]) W := hL.tail.tail.tail.tail
  obtain ⟨a0, s0, hv0, -, -, -⟩ := laid_sentinel h0 (show Tryz.prog.globalNamed "strconv.ErrRange" = some 5 by kernel_rfl) (show (Tryz.prog.globals[5]?).map (·.type) = some 73 by kernel_rfl) Tryz.underlying73 rowES Tryz.underlying146 Tryz.underlying148 rfl rfl Tryz.underlying9 (by kernel_rfl) (by kernel_rfl)
  have h1 : laidMet Tryz.prog (("strconv.ErrSyntax", .iface "*errors.errorString" (.ptr (.agg [.lit (.string [105, 110, 118, 97, 108, 105, 100, 32, 115, 121, 110, 116, 97, 120])]))) :: [("unicode/utf8.first", Rows.laid_unicode_utf8_first)]) W := hL.tail.tail.tail.tail.tail
  obtain ⟨a1, s1, hv1, -, -, -⟩ := laid_sentinel h1 (show Tryz.prog.globalNamed "strconv.ErrSyntax" = some 4 by kernel_rfl) (show (Tryz.prog.globals[4]?).map (·.type) = some 73 by kernel_rfl) Tryz.underlying73 rowES Tryz.underlying146 Tryz.underlying148 rfl rfl Tryz.underlying9 (by kernel_rfl) (by kernel_rfl)
  obtain ⟨m, hm⟩ := cell_of_shapedOpen_int (P := Tryz.prog) (g := 0) (t := 3) (zero := #[.int .i64 0]) hsh (of_decide_eq_true (by kernel_rfl)) (by kernel_rfl) rfl (by kernel_rfl) (by kernel_rfl) Tryz.underlying3
  exact ⟨⟨_, _, by have h0 := World.var?_cell (show Tryz.prog.globalNamed "strconv.ErrSyntax" = some 4 by kernel_rfl) hv1 0; simpa using h0⟩, ⟨_, _, by have h0 := World.var?_cell (show Tryz.prog.globalNamed "strconv.ErrRange" = some 5 by kernel_rfl) hv0 0; simpa using h0⟩, m, hm⟩
/-- The plain wrap, with the world's shape handed to the contract. -/
theorem returns_shaped {H : Type} {enc : TypeId × Value → H} {a : Assume} {C : Checked} {os : Os} {f : FuncId} {fn : Func} {s : ChangeSpec} {conds : List PathCond} {apart fresh handsOn again : Bool} {X : World → Array Value → Prop}
    (hX : ∀ (w w' : World) (args : Array Value), w.heap = w'.heap → X w args → X w' args)
    (own : ownKnob C.prog.godebug = none) (started : os.Started) (noInit : C.prog.inits.idxOf? f = none) (hfn : C.prog.funcs[f]? = some fn)
    (witness : ∃ (w : World) (tape : Tape) (i : Input), w.os = os ∧ (w.forCall tape i).Shaped C.prog ∧ i.vars = [] ∧ Input.okWide C.prog (w.forCall tape i) .any w.heap.size f i ∧
      ((s.pre enc C.prog fn conds apart (w.forCall tape i).memory i.args ∧ X (w.forCall tape i).memory i.args) ∧ sizedMet enc C.prog fn (OpenSpec.ofChange s) apart (w.forCall tape i).memory i.args) ∧ a.holds C.prog (lone (Frame.enter C.prog f i.args .normal) [] (w.forCall tape i)))
    (contract : ∀ (W : World) (base : Nat) (args : Array Value) (ds gs : List (DataW H)) (before : List MemPlace),
      (∀ (j : Nat) t v, fn.params[j]? = some t → args[j]? = some v → Value.okWide C.prog W .any base t v) →
      DataW.Whole enc C.prog fn.params.toList s.vars apart W args.toList ds gs before →
      X W args → W.ShapedOpen C.prog →
      Calls C.prog f args W fun e W' => ∃ v, e = .returned v ∧ s.post enc C.prog fn apart fresh handsOn again W args v W') :
    ReturnsInHanded a C os f .any (fun w args => (s.pre enc C.prog fn conds apart w args ∧ X w args) ∧ sizedMet enc C.prog fn (OpenSpec.ofChange s) apart w args) (s.post enc C.prog fn apart fresh handsOn again) := by
  refine returnsInHanded_of_calls own started noInit witness ?_
  intro w tape i _ hsh _ hok hpre _
  obtain ⟨_, _, _, fn', hfn', _, _, _, _, hval⟩ := hok
  obtain rfl : fn' = fn := Option.some.inj (hfn'.symm.trans hfn)
  obtain ⟨⟨⟨ds, gs, before, hw, _⟩, hx⟩, _⟩ := hpre
  refine (contract (w.forCall tape i) w.heap.size i.args ds gs before hval (DataW.Whole.of_heap (w' := w.forCall tape i) (by rfl) hw) (hX _ _ _ (by rfl) hx) hsh).mono fun e W' ⟨v, he, hp⟩ => ?_
  subst he
  exact ChangeSpec.post_blind hp
end Go.Proofs.YtjnghnkilnhacaaGreatDoor
