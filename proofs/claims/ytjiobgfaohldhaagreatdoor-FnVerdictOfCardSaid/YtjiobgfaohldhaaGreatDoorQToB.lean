/- The reader of the draws: a byte slice and a place. What pick, odd and l20Open answer. The marks that the laws package writes into memory and reads back. append of one element onto a slice of the call's own, and what stays as it was. Ranges of numbers: what the small functions of the program and of the reference answer. The validity of an operation. The conversions of the laws package make new memory that reads as their argument: transactions. The reference's copies of transactions. The reference's copies of histories: l1OwnTxnList. The conversions of the laws package make new memory that reads as their argument: calls, lists of lists, drafts. -/
import Derived.Test.YtjiobgfaohldhaaGreatDoorProg
import Derived.Test.YtjiobgfaohldhaaGreatDoorQBuild
import Derived.Laws.BitsAllLaws
import Derived.Laws.BitsLemmas
import Derived.Deep.Cut
import Derived.IntWalk
import Derived.Deep.RegionHeld3
import Derived.WalkLawsBesides
namespace Go.Proofs.YtjiobgfaohldhaaGreatDoor
open Go.RowKit
set_option linter.unusedVariables false
set_option linter.unusedSimpArgs false

theorem ofInt_i64 (a : Nat) (ha : a < 9223372036854775808) : (BitVec.ofInt 64 (a : Int)).toNat = a := by
  rw [BitVec.ofInt_natCast, BitVec.toNat_ofNat]; exact Nat.mod_eq_of_lt (by omega)
theorem i64_xor_nat (a b : Nat) (ha : a < 9223372036854775808) (hb : b < 9223372036854775808) : bits .xor .i64 (a : Int) (b : Int) = ((a ^^^ b : Nat) : Int) := by
  have hx : a ^^^ b < 2 ^ 63 := Nat.xor_lt_two_pow (by omega) (by omega)
  show IntKind.i64.wrap ((BitVec.ofInt 64 (a : Int) ^^^ BitVec.ofInt 64 (b : Int)).toNat : Int) = _
  rw [BitVec.toNat_xor, ofInt_i64 a ha, ofInt_i64 b hb, IntKind.wrap_i64]
  omega
def tByte : Ty Int where
  size := 1
  rel _ _ x cs := cs = [.int .u8 x] ∧ 0 ≤ x ∧ x ≤ 255
  len h := by rw [h.1]; rfl
  one h u hu := by rw [h.1] at hu; simp at hu; subst hu; rfl
  mono h _ _ := h
/-- Block R is a reader at a place of at most P; its bytes lie below R. -/
def Rd (w : World) (R P : Nat) : Prop :=
  ∃ (A : Option Addr) (c : Nat) (xs : List Int) (p : Nat), Blk w R 73 #[.slice A xs.length c, .int .i64 p] ∧ p ≤ P ∧ xs.length ≤ 2000 ∧ Row tByte w (fun b => b < R) A xs
/-- Only block R, and what is new, has turned. -/
abbrev Gr (w w' : World) (R : Nat) : Prop := w.grownBy w' (some R)
theorem Gr.of_below {w w' : World} {R : Nat} (h : Below w.heap.size w w') : Gr w w' R := ⟨h.os, h.tape, h.output, h.size, fun i hi _ => h.block i hi⟩
theorem gr_refl (w : World) (R : Nat) : Gr w w R := ⟨rfl, rfl, rfl, Nat.le_refl _, fun _ _ _ => rfl⟩
theorem gr_trans {a b c : World} {R : Nat} (h : Gr a b R) (k : Gr b c R) : Gr a c R :=
  ⟨k.os.trans h.os, k.tape.trans h.tape, k.output.trans h.output, Nat.le_trans h.size k.size, fun i hi hn => (k.block i (Nat.lt_of_lt_of_le hi h.size) hn).trans (h.block i hi hn)⟩
theorem gr_drewN {a w : World} {R : Nat} (h : Gr a w R) (n : Nat) : Gr a (w.drewN n) R := ⟨h.os, h.tape, h.output, h.size, h.block⟩
theorem gr_alloc {a w : World} {R : Nat} (h : Gr a w R) (o : Obj) : Gr a (w.alloc o) R :=
  ⟨h.os, h.tape, h.output, Nat.le_trans h.size (by simp), fun i hi hne => (Below.heap_alloc w o i (Nat.lt_of_lt_of_le hi h.size)).trans (h.block i hi hne)⟩
theorem gr_setCell {a w : World} {R : Nat} (h : Gr a w R) {p : Addr} (hp : p.block = R ∨ a.heap.size ≤ p.block) (u : Value) : Gr a (w.setCell p u) R :=
  ⟨h.os, h.tape, h.output, by simpa [World.setCell] using h.size, fun i hi hne => (Below.heap_setCell w p u i (by
    rintro rfl
    rcases hp with hp | hp
    · exact hne (by rw [hp])
    · omega)).trans (h.block i hi hne)⟩
theorem below_gr {B : Nat} {a b w : World} {R : Nat} (h : Below B a b) (k : Gr b w R) (hB : B ≤ b.heap.size) (hR : B ≤ R) : Below B a w :=
  ⟨k.os.trans h.os, k.tape.trans h.tape, k.output.trans h.output, Nat.le_trans h.size k.size, fun i hi => (k.block i (by omega) (fun e => by injection e; omega)).trans (h.block i hi)⟩
theorem Rd.lt {w : World} {R P : Nat} (h : Rd w R P) : R < w.heap.size := by obtain ⟨A, c, xs, p, hB, _⟩ := h; exact hB.lt
theorem Rd.up {w : World} {R P Q : Nat} (h : Rd w R P) (hq : P ≤ Q) : Rd w R Q := by
  obtain ⟨A, c, xs, p, hB, hp, hr⟩ := h; exact ⟨A, c, xs, p, hB, by omega, hr⟩
theorem Rd.keep {w w' : World} {R P : Nat} (h : Rd w R P) (hb : ∀ b, b ≤ R → w'.heap[b]? = w.heap[b]?) : Rd w' R P := by
  obtain ⟨A, c, xs, p, hB, hp, hl, hr⟩ := h
  exact ⟨A, c, xs, p, hB.of (hb R (Nat.le_refl _)), hp, hl, hr.mono (fun _ h => h) (fun b hlt => hb b (Nat.le_of_lt hlt))⟩
theorem Rd.below {w w' : World} {R P : Nat} (h : Rd w R P) (hb : Below w.heap.size w w') : Rd w' R P := h.keep fun b hle => hb.block b (Nat.lt_of_le_of_lt hle h.lt)
theorem Rd.alloc {w : World} {R P : Nat} (h : Rd w R P) (o : Obj) : Rd (w.alloc o) R P := h.below ((Below.refl _ _).alloc (Nat.le_refl _) _)
theorem Rd.grown {w w' : World} {R P : Nat} {row : Option Nat} (h : Rd w R P) (hg : w.grownBy w' row) (hr : ∀ i, row = some i → R < i) : Rd w' R P :=
  h.keep fun b hle => hg.block b (Nat.lt_of_le_of_lt hle h.lt) (fun e => by have := hr b e.symm; omega)
theorem Rd.far {w : World} {R P : Nat} (h : Rd w R P) {p : Addr} (hp : R < p.block) (u : Value) : Rd (w.setCell p u) R P :=
  h.keep fun b hle => Below.heap_setCell _ _ _ _ (by omega)
/-- What lies in new blocks stays as it is when the reader goes on. -/
theorem Own.gr {α : Type} {T : Ty α} {e : TypeId} {w w' : World} {R lo : Nat} {S' : Nat → Prop} {xs : List α} {v : Value} (h : Own T e w (In lo w.heap.size) xs v) (hg : Gr w w' R) (hR : R < lo) : Own T e w' (In lo w'.heap.size) xs v :=
  h.mono (fun b hb => ⟨hb.1, Nat.lt_of_lt_of_le hb.2 hg.size⟩) fun b hb => hg.block b hb.2 (fun e => by injection e with e; have := hb.1; omega)

/-- What pick answers. -/
def Picked (w : World) (R P : Nat) (n : Int) (e : Ending) (w' : World) : Prop := ∃ v : Int, e = .returned (.int .i64 v) ∧ 0 ≤ v ∧ (1 ≤ n → v < n) ∧ Rd w' R (P + 1) ∧ Gr w w' R

set_option maxRecDepth 10000 in
set_option maxHeartbeats 2000000 in
theorem pick_any (w : World) (R P : Nat) (n : Int) (h : Rd w R P) (hP : P ≤ 1000000) :
    Calls Tryz.prog 35 #[.pointer (some ⟨R, 0, none⟩), .int .i64 n] w (Picked w R P n) := by
  obtain ⟨A, c, xs, p, hB, hp, hl, hr⟩ := h
  have HE := hide (show ∀ W : World, W.heap[R]? = (w.setCell ⟨R, 1, none⟩ (.int .i64 ((p : Int) + 1))).heap[R]? → (∀ b, b ≠ R → W.heap[b]? = w.heap[b]?) → Rd W R (P + 1) from fun W h1 h2 =>
    ⟨A, c, xs, p + 1, h1.trans (by have := hB.set_ 1 (.int .i64 ((p : Int) + 1)); exact this), by omega, hl, hr.mono (fun _ h => h) (fun b hb => h2 b (by omega))⟩)
  have c0 := hB.cell 0
  have c1 := hB.cell 1
  have f1 := hB.frozen 1
  simp only [List.getElem?_toArray, List.getElem?_cons_zero, List.getElem?_cons_succ] at c0 c1
  have HR := hide hr
  have HBk := hide hB
  clear hr hB
  go_enter Tryz.func35, Tryz.ntmps35
  have hp63 : (p : Int) ≤ 1000000 := by omega
  go_upto_region 2 with (fail)
  have hW := HE.out (w.setCell ⟨R, 1, none⟩ (.int .i64 ((p : Int) + 1))) rfl (fun b hb => Below.heap_setCell _ _ _ _ hb)
  have hB1 := HBk.out.set_ 1 (.int .i64 ((p : Int) + 1))
  have HG := hide (gr_setCell (gr_refl w R) (p := ⟨R, 1, none⟩) (.inl rfl) (.int .i64 ((p : Int) + 1)))
  have HR1 := hide (HR.out.mono (w' := w.setCell ⟨R, 1, none⟩ (.int .i64 ((p : Int) + 1))) (S' := fun b => b < R) (fun _ h => h) (fun b hb => Below.heap_setCell _ _ _ _ (Nat.ne_of_lt hb)))
  generalize w.setCell ⟨R, 1, none⟩ (.int .i64 ((p : Int) + 1)) = W at hW hB1 HG HR1 ⊢
  clear c0 c1 f1 HE HR HBk
  have c0 := hB1.cell 0
  have c1 := hB1.cell 1
  simp only [List.setIfInBounds_toArray, List.set_cons_succ, List.set_cons_zero, List.getElem?_toArray, List.getElem?_cons_zero, List.getElem?_cons_succ] at c0 c1
  have HW := hide hW
  clear hW hB1
  by_cases hn : n < 1
  · go_wp2
    go_ret
    exact ⟨0, rfl, by omega, fun h => by omega, HW.out, HG.out⟩
  · by_cases h0 : xs.length = 0
    · have h0' : ((xs.length : Int) == 0) = true := by simp [h0]
      have HZ := hide h0
      clear h0
      go_wp2
      go_ret
      exact ⟨0, rfl, by omega, fun h => by omega, HW.out, HG.out⟩
    · have h0' : ((xs.length : Int) == 0) = false := by rw [beq_eq_false_iff_ne]; omega
      obtain ⟨b, off, rfl, hbR, hrow⟩ := HR1.out (by omega)
      have HRow := hide hrow
      clear hrow
      by_cases hlt : p < xs.length
      · obtain ⟨cs, hr, hcs⟩ := HRow.out p hlt
        obtain ⟨rfl, hx0, hx1⟩ := hr
        have cp : W.cell? ⟨b, off + p, none⟩ = some (.int .u8 xs[p]) := by simpa [tByte] using hcs 0 _ rfl
        generalize xs[p] = x at hx0 hx1 cp
        clear hcs
        go_wp2
        go_ret
        exact ⟨_, rfl, Int.emod_nonneg _ (by omega), fun h => Int.emod_lt_of_pos _ (by omega), HW.out, HG.out⟩
      · obtain ⟨m1, hm1⟩ : ∃ m : Nat, m = p % xs.length := ⟨_, rfl⟩
        obtain ⟨m2, hm2⟩ : ∃ m : Nat, m = (p * 7 + 3) % xs.length := ⟨_, rfl⟩
        have hl1 : m1 < xs.length := by rw [hm1]; exact Nat.mod_lt _ (by omega)
        have hl2 : m2 < xs.length := by rw [hm2]; exact Nat.mod_lt _ (by omega)
        have e1 : Int.tmod (p : Int) (xs.length : Int) = (m1 : Int) := by rw [hm1, Int.tmod_eq_emod_of_nonneg (by omega)]; exact (Int.natCast_emod _ _).symm
        have e2 : Int.tmod ((p : Int) * 7 + 3) (xs.length : Int) = (m2 : Int) := by rw [hm2, Int.tmod_eq_emod_of_nonneg (by omega)]; exact (Int.natCast_emod _ _).symm
        have e3 : IntKind.i64.wrap ((p : Int) * 7) = (p : Int) * 7 := by rw [IntKind.wrap_i64]; omega
        have e4 : IntKind.i64.wrap ((p : Int) * 7 + 3) = (p : Int) * 7 + 3 := by rw [IntKind.wrap_i64]; omega
        clear hm1 hm2
        obtain ⟨cs, hr, hcs⟩ := HRow.out m1 hl1
        obtain ⟨rfl, hx0, hx1⟩ := hr
        have cp : W.cell? ⟨b, off + m1, none⟩ = some (.int .u8 xs[m1]) := by simpa [tByte] using hcs 0 _ rfl
        obtain ⟨cs, hr, hcs'⟩ := HRow.out m2 hl2
        obtain ⟨rfl, hy0, hy1⟩ := hr
        have cq : W.cell? ⟨b, off + m2, none⟩ = some (.int .u8 xs[m2]) := by simpa [tByte] using hcs' 0 _ rfl
        generalize xs[m1] = x at hx0 hx1 cp
        generalize xs[m2] = y at hy0 hy1 cq
        clear hcs hcs'
        obtain ⟨a1, r1⟩ : ∃ a, IntKind.i64.wrap (x * 131) = a := ⟨_, rfl⟩
        obtain ⟨a2, r2⟩ : ∃ a, IntKind.i64.wrap (y * 1117) = a := ⟨_, rfl⟩
        obtain ⟨a3, r3⟩ : ∃ a, IntKind.i64.wrap (a1 + a2) = a := ⟨_, rfl⟩
        obtain ⟨a4, r4⟩ : ∃ a, IntKind.i64.wrap ((p : Int) * 29) = a := ⟨_, rfl⟩
        obtain ⟨a5, r5⟩ : ∃ a, IntKind.i64.wrap (a3 + a4) = a := ⟨_, rfl⟩
        obtain ⟨a6, r6⟩ : ∃ a, Int.tdiv (p : Int) (xs.length : Int) = a := ⟨_, rfl⟩
        obtain ⟨a7, r7⟩ : ∃ a, IntKind.i64.wrap (a6 * 53) = a := ⟨_, rfl⟩
        have b1 : a1 = x * 131 := by rw [← r1]; exact IntWalk.i64_in _ (by omega)
        have b2 : a2 = y * 1117 := by rw [← r2]; exact IntWalk.i64_in _ (by omega)
        have b3 : a3 = a1 + a2 := by rw [← r3]; exact IntWalk.i64_in _ (by omega)
        have b4 : a4 = (p : Int) * 29 := by rw [← r4]; exact IntWalk.i64_in _ (by omega)
        have b5 : a5 = a3 + a4 := by rw [← r5]; exact IntWalk.i64_in _ (by omega)
        have b6 : 0 ≤ a6 ∧ a6 ≤ 1000000 := by
          rw [← r6]
          refine ⟨Int.tdiv_nonneg (by omega) (by omega), Int.le_trans (Int.tdiv_le_self _ (by omega)) hp63⟩
        have r6b : IntKind.i64.wrap a6 = a6 := IntWalk.i64_in _ (by omega)
        have b7 : a7 = a6 * 53 := by rw [← r7]; exact IntWalk.i64_in _ (by omega)
        obtain ⟨X, r8, hX⟩ : ∃ X : Nat, IntKind.i64.wrap (a5 + a7) = (X : Int) ∧ X ≤ 100000000 := ⟨(a5 + a7).toNat, by rw [IntWalk.i64_in _ (by omega)]; omega, by omega⟩
        obtain ⟨Y, r9⟩ : ∃ Y : Nat, bits .xor .i64 (X : Int) ((X : Int) / 64) = (Y : Int) := ⟨X ^^^ (X / 64), by
          have : ((X : Int) / 64) = ((X / 64 : Nat) : Int) := by omega
          rw [this]
          exact i64_xor_nat X (X / 64) (by omega) (by omega)⟩
        clear b1 b2 b3 b4 b5 b6 b7
        go_wp2_with fail
        go_quiet (fail)
        clear r1 r2 r3 r4 r5 r6 r6b r7 r8 e1 e2 e3 e4
        have c0' : (W.drewN nq).cell? ⟨R, 0, none⟩ = _ := c0
        have HG2 := hide (gr_drewN HG.out nq)
        have HW2 := hide (show Rd (W.drewN nq) R (P + 1) from HW.out)
        generalize W.drewN nq = W2 at c0' HG2 HW2 ⊢
        go_wp2
        go_ret
        exact ⟨_, rfl, Int.emod_nonneg _ (by omega), fun h => Int.emod_lt_of_pos _ (by omega), HW2.out, HG2.out⟩

/-- What odd answers. -/
def Odd (w : World) (R P : Nat) (e : Ending) (w' : World) : Prop := ∃ v : Bool, e = .returned (.bool v) ∧ Rd w' R (P + 1) ∧ Gr w w' R
theorem odd_any (w : World) (R P : Nat) (n : Int) (h : Rd w R P) (hP : P ≤ 1000000) (h63 : n ≤ 1000000) :
    Calls Tryz.prog 34 #[.pointer (some ⟨R, 0, none⟩), .int .i64 n] w (Odd w R P) := by
  have HC := hide (pick_any w R P n h hP)
  have HR := hide h
  clear h
  by_cases hn : 0 < n
  · go_enter Tryz.func34, Tryz.ntmps34
    go_wp2_with (go_at_call 35; refine HC.out.mono ?_; rintro e w' ⟨v, rfl, _, _, hr, hg⟩; have HR2 := hide hr; have HG2 := hide hg; clear hr hg)
    go_ret
    exact ⟨_, rfl, HR2.out, HG2.out⟩
  · go_enter Tryz.func34, Tryz.ntmps34
    go_wp2_with fail
    go_ret
    exact ⟨_, rfl, HR.out.up (by omega), gr_refl _ _⟩

/-- What l20Open answers: a new reader. -/
def Opened (w : World) (e : Ending) (w' : World) : Prop := ∃ R : Nat, e = .returned (.pointer (some ⟨R, 0, none⟩)) ∧ w.heap.size ≤ R ∧ Rd w' R 0 ∧ Below w.heap.size w w'
theorem open_any (xs : List Int) (A : Option Addr) (c : Nat) (w : World) (hl : xs.length ≤ 1048576) (hc : xs.length ≤ c) (hcm : c ≤ maxLen) (hA : Row tByte w (Old w) A xs) :
    Calls Tryz.prog 22 #[.slice A xs.length c] w (Opened w) := by
  unfold maxLen at hcm
  have HA := hide hA
  clear hA
  by_cases h2 : xs.length ≤ 2000
  · go_enter Tryz.func22, Tryz.ntmps22
    go_wp2
    go_ret
    exact ⟨w.heap.size, rfl, Nat.le_refl _, ⟨A, c, xs, 0, Blk.new _ _ _, Nat.le_refl _, h2, HA.out.mono (fun _ h => h) (fun b hb => Below.heap_alloc _ _ _ hb)⟩, (Below.refl _ _).alloc (Nat.le_refl _) _⟩
  · have hc2 : (2000 : Int) ≤ (c : Int) := by omega
    have hlt : (2000 : Nat) = (xs.take 2000).length := by rw [List.length_take]; omega
    have HLt := hide hlt
    clear hlt
    go_enter Tryz.func22, Tryz.ntmps22
    go_wp2
    go_ret
    refine ⟨w.heap.size, rfl, Nat.le_refl _, ⟨A, c, xs.take 2000, 0, by rw [← HLt.out]; exact Blk.new _ _ _, Nat.le_refl _, Nat.le_of_eq HLt.out.symm, fun hp => ?_⟩, (Below.refl _ _).alloc (Nat.le_refl _) _⟩
    obtain ⟨b, off, rfl, hb, hrow⟩ := HA.out (by omega)
    refine ⟨b, off, rfl, hb, fun k hk => ?_⟩
    obtain ⟨cs, hr, hcs⟩ := hrow k (by rw [List.length_take] at hk; omega)
    refine ⟨cs, by rw [List.getElem_take]; exact hr, fun j u hu => ?_⟩
    rw [World.cell?_of_block (Below.heap_alloc w _ b hb)]
    exact hcs j u hu
/-- Only blocks of S may have changed; what is new is new. -/
structure Only (S : Nat → Prop) (w w' : World) : Prop where
  os : w'.os = w.os
  tape : w'.tape = w.tape
  output : w'.output = w.output
  size : w.heap.size ≤ w'.heap.size
  block : ∀ k, k < w.heap.size → ¬ S k → w'.heap[k]? = w.heap[k]?
theorem Only.refl (S : Nat → Prop) (w : World) : Only S w w := ⟨rfl, rfl, rfl, Nat.le_refl _, fun _ _ _ => rfl⟩
theorem Only.trans {S : Nat → Prop} {a b c : World} (h : Only S a b) (k : Only S b c) : Only S a c :=
  ⟨k.os.trans h.os, k.tape.trans h.tape, k.output.trans h.output, Nat.le_trans h.size k.size, fun i hi hs => (k.block i (Nat.lt_of_lt_of_le hi h.size) hs).trans (h.block i hi hs)⟩
theorem Only.mono {S S' : Nat → Prop} {a b : World} (h : Only S a b) (hs : ∀ k, S k → S' k) : Only S' a b := ⟨h.os, h.tape, h.output, h.size, fun i hi hn => h.block i hi fun e => hn (hs i e)⟩
theorem Only.of_below {S : Nat → Prop} {a b : World} (h : Below a.heap.size a b) : Only S a b := ⟨h.os, h.tape, h.output, h.size, fun i hi _ => h.block i hi⟩
theorem Only.setCell {S : Nat → Prop} {a b : World} (h : Only S a b) {p : Addr} (hp : S p.block) (u : Value) : Only S a (b.setCell p u) :=
  ⟨h.os, h.tape, h.output, by simpa [World.setCell] using h.size, fun i hi hn => (Below.heap_setCell _ _ _ _ (by rintro rfl; exact hn hp)).trans (h.block i hi hn)⟩
theorem below_only {S : Nat → Prop} {B : Nat} {a b c : World} (h : Below B a b) (k : Only S b c) (hB : B ≤ b.heap.size) (hS : ∀ i, S i → B ≤ i) : Below B a c :=
  h.trans ⟨k.os, k.tape, k.output, k.size, fun i hi => k.block i (Nat.lt_of_lt_of_le hi hB) fun e => by have := hS i e; omega⟩

/-- Rows keep their length and their element type. -/
def Shape (w w' : World) : Prop := ∀ g e cur, Blk w g e cur → ∃ cur', Blk w' g e cur' ∧ cur'.size = cur.size
theorem Shape.refl (w : World) : Shape w w := fun _ _ cur h => ⟨cur, h, rfl⟩
theorem Shape.trans {a b c : World} (h : Shape a b) (k : Shape b c) : Shape a c := fun g e cur hb => by
  obtain ⟨c1, h1, e1⟩ := h g e cur hb
  obtain ⟨c2, h2, e2⟩ := k g e c1 h1
  exact ⟨c2, h2, e2.trans e1⟩
theorem Shape.setCell (w : World) (g i : Nat) (u : Value) : Shape w (w.setCell ⟨g, i, none⟩ u) := fun g' e cur hb => by
  by_cases hg : g' = g
  · subst hg; exact ⟨_, hb.set_ i u, by simp⟩
  · exact ⟨cur, hb.far (p := ⟨g, i, none⟩) hg u, rfl⟩

/-- A slice that may be written: n places of element type e (one cell each), from the head of a block of S on. -/
def Room (w : World) (S : Nat → Prop) (e : TypeId) (A : Option Addr) (n : Nat) : Prop :=
  0 < n → ∃ g cur, A = some ⟨g, 0, none⟩ ∧ S g ∧ Blk w g e cur ∧ n ≤ cur.size
theorem Room.keep {w w' : World} {S : Nat → Prop} {e : TypeId} {A : Option Addr} {n : Nat} (h : Room w S e A n) (hw : ∀ b, S b → w'.heap[b]? = w.heap[b]?) : Room w' S e A n := fun hn => by
  obtain ⟨g, cur, rfl, hg, hb, hl⟩ := h hn
  exact ⟨g, cur, rfl, hg, hb.of (hw g hg), hl⟩
theorem Own.room {e : TypeId} {w : World} {S : Nat → Prop} {xs : List Int} {A : Option Addr} {n c : Nat} (h : Own tInt e w S xs (.slice A n c)) : Room w S e A xs.length := fun hn => by
  rcases h with ⟨h, rfl⟩ | ⟨g, cap, cur, S', hv, hg, hB, h1, h2, h3, _⟩
  · simp at hn
  · injection hv with hA _ _
    refine ⟨g, cur, hA, hg, hB, ?_⟩
    rw [h3]; show xs.length ≤ cap * 1; omega
theorem Own.row {α : Type} {T : Ty α} {e : TypeId} {w : World} {S : Nat → Prop} {xs : List α} {A : Option Addr} {n c : Nat} (h : Own T e w S xs (.slice A n c)) : Row T w S A xs := by
  obtain ⟨A', c', hv, _, _, hR⟩ := h.sl
  injection hv with hA _ _
  subst hA
  exact hR
/-- The marks k, k+1, .. stand in a slice. -/
def MarksAt (w : World) (S : Nat → Prop) (A : Option Addr) (k : Int) (n : Nat) : Prop :=
  0 < n → ∃ g, A = some ⟨g, 0, none⟩ ∧ S g ∧ ∀ j, j < n → w.cell? ⟨g, j, none⟩ = some (.int .i64 (k + j))
theorem MarksAt.keep {w w' : World} {S : Nat → Prop} {A : Option Addr} {k : Int} {n : Nat} (h : MarksAt w S A k n) (hw : ∀ b, S b → w'.heap[b]? = w.heap[b]?) : MarksAt w' S A k n := fun hn => by
  obtain ⟨g, rfl, hg, hc⟩ := h hn
  exact ⟨g, rfl, hg, fun j hj => (World.cell?_of_block (hw g hg)).trans (hc j hj)⟩

theorem Only.of_grown {K : Nat → Prop} {w w' : World} {row : Option Nat} (h : w.grownBy w' row) (hr : ∀ i, row = some i → K i) : Only K w w' :=
  ⟨h.os, h.tape, h.output, h.size, fun i hi hn => h.block i hi fun e => hn (hr i e.symm)⟩
theorem Only.of_alloc {K : Nat → Prop} (w : World) (o : Obj) : Only K w (w.alloc o) := .of_below ((Below.refl _ _).alloc (Nat.le_refl _) o)
theorem Only.drewN {K : Nat → Prop} {a w : World} (h : Only K a w) (n : Nat) : Only K a (w.drewN n) := ⟨h.os, h.tape, h.output, h.size, h.block⟩
theorem Only.below {w w' : World} (h : Only (fun b => w.heap.size ≤ b) w w') : Below w.heap.size w w' := ⟨h.os, h.tape, h.output, h.size, fun i hi => h.block i hi (by omega)⟩
theorem gr_only {a w w' : World} {R : Nat} {K : Nat → Prop} (h : Gr a w R) (k : Only K w w') (hK : ∀ b, K b → a.heap.size ≤ b) : Gr a w' R :=
  ⟨k.os.trans h.os, k.tape.trans h.tape, k.output.trans h.output, Nat.le_trans h.size k.size, fun i hi hn => (k.block i (Nat.lt_of_lt_of_le hi h.size) (fun e => by have := hK i e; omega)).trans (h.block i hi hn)⟩
theorem Rd.only {w w' : World} {R P : Nat} {K : Nat → Prop} (h : Rd w R P) (k : Only K w w') (hK : ∀ b, K b → R < b) : Rd w' R P :=
  h.keep fun b hle => k.block b (Nat.lt_of_le_of_lt hle h.lt) (fun e => by have := hK b e; omega)
theorem Own.only {α : Type} {T : Ty α} {e : TypeId} {w w' : World} {S : Nat → Prop} {K : Nat → Prop} {xs : List α} {v : Value} (h : Own T e w S xs v) (k : Only K w w') (hS : ∀ b, S b → Old w b ∧ ¬ K b) : Own T e w' S xs v :=
  h.mono (fun _ h => h) fun b hb => k.block b (hS b hb).1 (hS b hb).2
theorem Own.onlyGr {α : Type} {T : Ty α} {e : TypeId} {w w' : World} {R : Nat} {K : Nat → Prop} {xs : List α} {v : Value} (h : Own T e w (fun b => K b ∧ Old w b) xs v) (g : Gr w w' R) (hK : ¬ K R) : Own T e w' (fun b => K b ∧ Old w' b) xs v :=
  h.mono (fun b hb => ⟨hb.1, Nat.lt_of_lt_of_le hb.2 g.size⟩) fun b hb => g.block b hb.2 (fun e => by injection e with e; exact hK (e ▸ hb.1))
theorem Own.onlyBelow {α : Type} {T : Ty α} {e : TypeId} {w w' : World} {K : Nat → Prop} {xs : List α} {v : Value} (h : Own T e w (fun b => K b ∧ Old w b) xs v) (g : Below w.heap.size w w') : Own T e w' (fun b => K b ∧ Old w' b) xs v :=
  h.mono (fun b hb => ⟨hb.1, Nat.lt_of_lt_of_le hb.2 g.size⟩) fun b hb => g.block b hb.2
theorem Own.owned {α : Type} {T : Ty α} {e : TypeId} {w : World} {S : Nat → Prop} {xs : List α} {v : Value} (h : Own T e w S xs v) : ∀ k, v.ownBlock = some k → S k := fun k hk => by
  rcases h with ⟨rfl, _⟩ | ⟨g, cap, cur, S', rfl, hg, _⟩
  · simp [Value.ownBlock] at hk
  · simp [Value.ownBlock] at hk; exact hk ▸ hg
theorem own_zeros {e : TypeId} (w : World) {S : Nat → Prop} (n : Nat) (hm : n ≤ maxLen) (hS : S w.heap.size) :
    Own tInt e (w.alloc (.cells (madeCells #[.int .i64 0] n) e)) S (List.replicate n 0) (.slice (some ⟨w.heap.size, 0, none⟩) n n) := by
  have h : Filling tInt e (w.alloc (.cells (madeCells #[.int .i64 0] n) e)) (fun _ => False) w.heap.size n n (List.replicate n 0) := by
    refine ⟨⟨_, Blk.new _ _ _, by rw [size_madeCells]; show n = n * 1; omega⟩, fun k hk => ?_, fun h => h⟩
    have hk' : k < n := by simp at hk; omega
    refine ⟨_, rfl, fun j u hu => ?_⟩
    obtain ⟨hj, rfl⟩ := List.getElem?_eq_some_iff.1 hu
    have hj0 : j = 0 := by simpa using hj
    subst hj0
    rw [(Blk.new w e _).cell, Array.getElem?_eq_getElem (by rw [size_madeCells]; show 0 + k * 1 + 0 < n; omega)]
    simp [madeCells, Nat.mod_one]
  have h2 : Filling tInt e (w.alloc (.cells (madeCells #[.int .i64 0] n) e)) (fun _ => False) w.heap.size n (List.replicate n (0 : Int)).length (List.replicate n 0) := by simpa using h
  exact h2.own (by simp) hm hS (fun _ h => h.elim)
theorem Row.anySpan {w : World} {S : Nat → Prop} {A : Option Addr} {xs : List Span} (h : Row tSpan w S A xs) : RowAny tSpan w (fun _ => False) A xs := fun hp => by
  obtain ⟨b, off, hA, _, hr⟩ := h hp
  exact ⟨b, off, hA, fun k hk => hr k hk⟩
theorem Row.anyOp {w : World} {S : Nat → Prop} {A : Option Addr} {xs : List Op} (h : Row tOp w S A xs) : RowAny tOp w (fun _ => False) A xs := fun hp => by
  obtain ⟨b, off, hA, _, hr⟩ := h hp
  exact ⟨b, off, hA, fun k hk => hr k hk⟩
/-- A new, empty slice of the call's own. -/
theorem Own.empty {α : Type} {T : Ty α} {e : TypeId} (w : World) (K : Nat → Prop) (hK : K w.heap.size) :
    Own T e (w.alloc (.cells #[] e)) (fun b => K b ∧ Old (w.alloc (.cells #[] e)) b) ([] : List α) (.slice (some ⟨w.heap.size, 0, none⟩) 0 0) :=
  Own.made w #[] 0 (by simp) (by simp [maxLen]) ⟨hK, by simp [Old]⟩
/-- A slice from place k on. -/
theorem Row.cut {α : Type} {T : Ty α} {w : World} {S : Nat → Prop} {A : Option Addr} {xs : List α} (h : Row T w S A xs) (k : Nat) : Row T w S (A.map (fun x => x.add (k * T.size))) (xs.drop k) := fun hp => by
  rw [List.length_drop] at hp
  obtain ⟨b, off, rfl, hb, hr⟩ := h (by omega)
  refine ⟨b, off + k * T.size, by rw [Option.map_some, Go.WideShapes.add_plain], hb, fun j hj => ?_⟩
  rw [List.length_drop] at hj
  obtain ⟨cs, hrel, hcs⟩ := hr (k + j) (by omega)
  refine ⟨cs, by rw [List.getElem_drop]; exact hrel, fun i u hu => ?_⟩
  have := hcs i u hu
  rwa [Nat.add_mul, ← Nat.add_assoc] at this
section
variable {P : Program}
theorem wpList_put {α : Type} (T : Ty α) {w : World} {ops : Array Oper} {rest : List Oper} {o : Oper} {a : Act} {Q : Exit → Act → World → Prop} (hgd : Region.wanted o (yielded ops a.tmps) = true) (s x : Operand) (t : TypeId)
    (ho : o.op = .call { callee := .builtin .append, args := #[s, x], argTypes := #[t, t] })
    (e : TypeId) (i : TypeInfo) (z : Value) (bytes : Nat) (ht : P.underlying t = some (.slice e)) (hi : P.info? e = some i) (hz : i.zero = some z)
    (hsize : i.size = T.size) (hby : i.bytes = bytes) (hzs : z.cells.size = T.size) (hsz : 0 < T.size)
    (K Sy : Nat → Prop) (xs : List α) (y : α) (cs : List Value) (v : Value) (hs : a.eval s = v) (hO : Own T e w (fun b => K b ∧ Old w b) xs v) (c : Nat) (hx : a.eval x = .slice (some ⟨w.heap.size, 0, none⟩) 1 c)
    (hy : T.rel w Sy y cs) (hSy : ∀ b, Sy b → K b ∧ Old w b ∧ v.ownBlock ≠ some b) (hK : ∀ b, w.heap.size ≤ b → K b)
    (h63 : xs.length + 1 ≤ maxLen) (hbytes : (xs.length + 1) * bytes ≤ 140737488355328)
    (h : ∀ v' w', Own T e w' (fun b => K b ∧ Old w' b) (xs ++ [y]) v' → Only K w w' → wpList P ops Q rest (a.put o.dst v') w') : wpList P ops Q (o :: rest) a (w.alloc (.cells cs.toArray e)) := by
  have hO1 := hO.mono (w' := w.alloc (.cells cs.toArray e)) (fun _ h => h) (fun b hb => Below.heap_alloc _ _ _ hb.2)
  refine wpList_app T hgd s x t ho e i z bytes ht hi hz hsize hby hzs hsz (fun b => K b ∧ Old w b) Sy K xs [y] v hs hO1 _ 1 c hx rfl (row_one e hy (fun b hb => (hSy b hb).2.1)) h63 hbytes
    (fun b hb => Nat.lt_of_lt_of_le hb.2 (by simp)) (fun b hb => ⟨Nat.lt_of_lt_of_le (hSy b hb).2.1 (by simp), (hSy b hb).2.2⟩) (fun b hb => hb.1) (fun b hb => (hSy b hb).1) (hK _ (by simp)) (fun v' w' h1 h2 => h v' w' h1 ?_)
  exact (Only.of_alloc w _).trans (Only.of_grown h2 fun i hi => (hO.owned i hi).1)
theorem wpList_cat {α : Type} (T : Ty α) {w : World} {ops : Array Oper} {rest : List Oper} {o : Oper} {a : Act} {Q : Exit → Act → World → Prop} (hgd : Region.wanted o (yielded ops a.tmps) = true) (s x : Operand) (t : TypeId)
    (ho : o.op = .call { callee := .builtin .append, args := #[s, x], argTypes := #[t, t] })
    (e : TypeId) (i : TypeInfo) (z : Value) (bytes : Nat) (ht : P.underlying t = some (.slice e)) (hi : P.info? e = some i) (hz : i.zero = some z)
    (hsize : i.size = T.size) (hby : i.bytes = bytes) (hzs : z.cells.size = T.size) (hsz : 0 < T.size)
    (K Sy : Nat → Prop) (xs ys : List α) (v : Value) (hs : a.eval s = v) (hO : Own T e w (fun b => K b ∧ Old w b) xs v) (A : Option Addr) (m c : Nat) (hx : a.eval x = .slice A m c) (hm : m = ys.length)
    (hy : RowAny T w Sy A ys) (hSy : ∀ b, Sy b → K b ∧ Old w b ∧ v.ownBlock ≠ some b) (hK : ∀ b, w.heap.size ≤ b → K b)
    (h63 : xs.length + ys.length ≤ maxLen) (hbytes : (xs.length + ys.length) * bytes ≤ 140737488355328)
    (h : ∀ v' w', Own T e w' (fun b => K b ∧ Old w' b) (xs ++ ys) v' → Only K w w' → wpList P ops Q rest (a.put o.dst v') w') : wpList P ops Q (o :: rest) a w :=
  wpList_app T hgd s x t ho e i z bytes ht hi hz hsize hby hzs hsz (fun b => K b ∧ Old w b) Sy K xs ys v hs hO A m c hx hm hy h63 hbytes
    (fun b hb => hb.2) (fun b hb => ⟨(hSy b hb).2.1, (hSy b hb).2.2⟩) (fun b hb => hb.1) (fun b hb => (hSy b hb).1) (hK _ (Nat.le_refl _))
    (fun v' w' h1 h2 => h v' w' h1 (Only.of_grown h2 fun i hi => (hO.owned i hi).1))
end
end Go.Proofs.YtjiobgfaohldhaaGreatDoor
namespace Go.Proofs.YtjiobgfaohldhaaGreatDoor
open Go.RowKit
set_option linter.unusedVariables false
set_option linter.unusedSimpArgs false

theorem l1In (n lo hi : Int) (w : World) : Calls Tryz.prog 105 #[.int .i64 n, .int .i64 lo, .int .i64 hi] w fun e w' => e = .returned (.bool (inR n lo hi)) ∧ w = w' := by
  go_enter Tryz.func105, Tryz.ntmps105
  go_wp2
  all_goals (go_ret; refine ⟨ret_bool ?_, rfl⟩; simp [inR]; try omega)
theorem within (n lo hi : Int) (w : World) : Calls Tryz.prog 126 #[.int .i64 n, .int .i64 lo, .int .i64 hi] w fun e w' => e = .returned (.bool (inR n lo hi)) ∧ w = w' := by
  go_enter Tryz.func126, Tryz.ntmps126
  go_wp2
  all_goals (go_ret; refine ⟨ret_bool ?_, rfl⟩; simp [inR]; try omega)
theorem valueOk (n : Int) (w : World) : Calls Tryz.prog 110 #[.int .i64 n] w fun e w' => e = .returned (.bool (inR n 0 99)) ∧ w = w' := by
  go_enter Tryz.func110, Tryz.ntmps110
  go_wp2_with (go_at_call 126; refine (within _ _ _ _).mono ?_; rintro e w' ⟨rfl, rfl⟩)
  go_ret
  exact ⟨rfl, rfl⟩
theorem keyOk (n : Int) (w : World) : Calls Tryz.prog 77 #[.int .i64 n] w fun e w' => e = .returned (.bool (inR n 0 2)) ∧ w = w' := by
  go_enter Tryz.func77, Tryz.ntmps77
  go_wp2_with (go_at_call 126; refine (within _ _ _ _).mono ?_; rintro e w' ⟨rfl, rfl⟩)
  go_ret
  exact ⟨rfl, rfl⟩
theorem sessionOk (n : Int) (w : World) : Calls Tryz.prog 113 #[.int .i64 n] w fun e w' => e = .returned (.bool (inR n 0 3)) ∧ w = w' := by
  go_enter Tryz.func113, Tryz.ntmps113
  go_wp2_with (go_at_call 126; refine (within _ _ _ _).mono ?_; rintro e w' ⟨rfl, rfl⟩)
  go_ret
  exact ⟨rfl, rfl⟩
def opOk (o : Op) : Bool := (o.Kind == 1 || o.Kind == 2) && inR o.Key 0 2 && inR o.Value 0 99 && !(o.Kind == 2 && o.Value == 0)
theorem reads_any (o : Op) (w : World) : Calls Tryz.prog 108 #[.agg #[.int .i64 o.Kind, .int .i64 o.Key, .int .i64 o.Value]] w fun e w' => e = .returned (.bool (o.Kind == 1)) ∧ Below w.heap.size w w' := by
  go_enter Tryz.func108, Tryz.ntmps108
  go_wp2
  go_ret
  exact ⟨rfl, (Below.refl _ _).alloc (Nat.le_refl _) _⟩
theorem writes_any (o : Op) (w : World) : Calls Tryz.prog 109 #[.agg #[.int .i64 o.Kind, .int .i64 o.Key, .int .i64 o.Value]] w fun e w' => e = .returned (.bool (o.Kind == 2)) ∧ Below w.heap.size w w' := by
  go_enter Tryz.func109, Tryz.ntmps109
  go_wp2
  go_ret
  exact ⟨rfl, (Below.refl _ _).alloc (Nat.le_refl _) _⟩

set_option maxRecDepth 10000 in
set_option maxHeartbeats 1000000 in
theorem opValid_any (o : Op) (w : World) : Calls Tryz.prog 58 #[.agg #[.int .i64 o.Kind, .int .i64 o.Key, .int .i64 o.Value]] w fun e w' => e = .returned (.bool (opOk o)) ∧ Below w.heap.size w w' := by
  have HR := hide (fun W => reads_any o W)
  have HW := hide (fun W => writes_any o W)
  have HB := hide ((Below.refl _ w).alloc (Nat.le_refl _) (.cells #[.int .i64 o.Kind, .int .i64 o.Key, .int .i64 o.Value] 50))
  have HO := hide (show opOk o = ((o.Kind == 1 || o.Kind == 2) && inR o.Key 0 2 && inR o.Value 0 99 && !(o.Kind == 2 && o.Value == 0)) from rfl)
  cases q1 : (o.Kind == 1) with
  | false =>
    cases q2 : (o.Kind == 2) with
    | false =>
      rw [q1, q2] at HO
      rw [q1] at HR; rw [q2] at HW
      clear q1 q2
      go_enter Tryz.func58, Tryz.ntmps58
      go_wp2_with (first | (go_at_call 108; refine (HR.out _).mono ?_; rintro e w1 ⟨rfl, hb1⟩; have HB := hide (HB.out.trans (hb1.mono HB.out.size)); obtain ⟨hc1, hf1⟩ := bcell hb1; have hz1 : w.heap.size < w1.heap.size := (by have := hb1.size; simp at this; omega); clear hb1) | (go_at_call 109; refine (HW.out _).mono ?_; rintro e w2 ⟨rfl, hb2⟩; have HB := hide (HB.out.trans (hb2.mono HB.out.size)); obtain ⟨hc2, hf2⟩ := bcell hb2; have hz2 : w.heap.size < w2.heap.size := (by have := hb2.size; omega); clear hb2) | (go_at_call 77; refine (keyOk _ _).mono ?_; rintro e w' ⟨rfl, rfl⟩) | (go_at_call 110; refine (valueOk _ _).mono ?_; rintro e w' ⟨rfl, rfl⟩))
      go_ret
      exact ⟨ret_bool (by rw [HO.out]; rfl), HB.out⟩
    | true =>
      rw [q1, q2] at HO
      rw [q1] at HR; rw [q2] at HW
      clear q1 q2
      cases q3 : inR o.Key 0 2 <;> cases q4 : inR o.Value 0 99 <;> cases q5 : (o.Value == 0) <;> rw [q3, q4, q5] at HO
      all_goals
        go_enter Tryz.func58, Tryz.ntmps58
        go_wp2_with (first | (go_at_call 108; refine (HR.out _).mono ?_; rintro e w1 ⟨rfl, hb1⟩; have HB := hide (HB.out.trans (hb1.mono HB.out.size)); obtain ⟨hc1, hf1⟩ := bcell hb1; have hz1 : w.heap.size < w1.heap.size := (by have := hb1.size; simp at this; omega); clear hb1) | (go_at_call 109; refine (HW.out _).mono ?_; rintro e w2 ⟨rfl, hb2⟩; have HB := hide (HB.out.trans (hb2.mono HB.out.size)); obtain ⟨hc2, hf2⟩ := bcell hb2; have hz2 : w.heap.size < w2.heap.size := (by have := hb2.size; omega); clear hb2) | (go_at_call 77; refine (keyOk _ _).mono ?_; rintro e w' ⟨rfl, rfl⟩) | (go_at_call 110; refine (valueOk _ _).mono ?_; rintro e w' ⟨rfl, rfl⟩))
        go_ret
        exact ⟨ret_bool (by rw [HO.out]; rfl), HB.out⟩
  | true =>
    have q2 : (o.Kind == 2) = false := by simp at q1 ⊢; omega
    rw [q1, q2] at HO
    rw [q1] at HR; rw [q2] at HW
    clear q1 q2
    cases q3 : inR o.Key 0 2 <;> cases q4 : inR o.Value 0 99 <;> rw [q3, q4] at HO
    all_goals
      go_enter Tryz.func58, Tryz.ntmps58
      go_wp2_with (first | (go_at_call 108; refine (HR.out _).mono ?_; rintro e w1 ⟨rfl, hb1⟩; have HB := hide (HB.out.trans (hb1.mono HB.out.size)); obtain ⟨hc1, hf1⟩ := bcell hb1; have hz1 : w.heap.size < w1.heap.size := (by have := hb1.size; simp at this; omega); clear hb1) | (go_at_call 109; refine (HW.out _).mono ?_; rintro e w2 ⟨rfl, hb2⟩; have HB := hide (HB.out.trans (hb2.mono HB.out.size)); obtain ⟨hc2, hf2⟩ := bcell hb2; have hz2 : w.heap.size < w2.heap.size := (by have := hb2.size; omega); clear hb2) | (go_at_call 77; refine (keyOk _ _).mono ?_; rintro e w' ⟨rfl, rfl⟩) | (go_at_call 110; refine (valueOk _ _).mono ?_; rintro e w' ⟨rfl, rfl⟩))
      go_ret
      exact ⟨ret_bool (by rw [HO.out]; rfl), HB.out⟩
end Go.Proofs.YtjiobgfaohldhaaGreatDoor
namespace Go.Proofs.YtjiobgfaohldhaaGreatDoor
open Go.RowKit
set_option linter.unusedVariables false
set_option linter.unusedSimpArgs false

theorem infoTxn_ : (Tryz.prog.info? 70).map (fun i => (i.zero, i.size, i.bytes)) = some (some (.agg #[.int .i64 0, .slice none 0 0, .bool false]), 3, 40) := by kernel_rfl
theorem infoOpT : (Tryz.prog.info? 50).map (fun i => (i.zero, i.size, i.bytes)) = some (some (.agg #[.int .i64 0, .int .i64 0, .int .i64 0]), 3, 24) := by kernel_rfl
set_option maxRecDepth 10000 in
set_option maxHeartbeats 1000000 in
theorem ownTxn (t : Txn) (A : Option Addr) (c : Nat) (w : World) (hm : t.Ops.length ≤ 1048576) (hA : Row tOp w (Old w) A t.Ops) :
    Calls Tryz.prog 99 #[.agg #[.int .i64 t.Session, .slice A t.Ops.length c, .bool t.Done]] w fun e w' => ∃ v, e = .returned (.agg #[.int .i64 t.Session, v, .bool t.Done]) ∧ Own tOp 50 w' (New w w') t.Ops v ∧ Below w.heap.size w w' := by
  obtain ⟨i0, hi, hz0, hz1, hz2⟩ := info_parts infoOpT
  have HA := hide hA
  clear hA
  go_enter Tryz.func99, Tryz.ntmps99
  go_upto_region 2 with (fail)
  generalize hW : World.alloc _ _ = W
  have hb3 : Below w.heap.size w W := by rw [← hW]; exact (((Below.refl _ w).alloc (Nat.le_refl _) _).alloc (by simp) _).alloc (by simp; omega) _
  have hs3 : W.heap.size = w.heap.size + 3 := by rw [← hW]; simp
  have hB0 : Blk W w.heap.size 70 #[.int .i64 t.Session, .slice A t.Ops.length c, .bool t.Done] := by rw [← hW]; exact ((Blk.new w _ _).alloc _).alloc _
  have hB1 : Blk W (w.heap.size + 1) 70 #[.int .i64 0, .slice none 0 0, .bool false] := by rw [← hW]; have := (Blk.new (w.alloc (.cells #[.int .i64 t.Session, .slice A t.Ops.length c, .bool t.Done] 70)) 70 #[.int .i64 0, .slice none 0 0, .bool false]).alloc (.cells #[.int .i64 t.Session, .slice A t.Ops.length c, .bool t.Done] 70); simpa using this
  have hB2 : Blk W (w.heap.size + 1 + 1) 70 #[.int .i64 t.Session, .slice A t.Ops.length c, .bool t.Done] := by rw [← hW]; have := Blk.new ((w.alloc (.cells #[.int .i64 t.Session, .slice A t.Ops.length c, .bool t.Done] 70)).alloc (.cells #[.int .i64 0, .slice none 0 0, .bool false] 70)) 70 #[.int .i64 t.Session, .slice A t.Ops.length c, .bool t.Done]; simpa using this
  clear hW
  have c01 := hB0.cell 1
  simp only [List.getElem?_toArray, List.getElem?_cons_zero, List.getElem?_cons_succ] at c01
  have hz : w.heap.size < W.heap.size := by omega
  have HB := hide hb3; have HS := hide hs3; have H1 := hide hB1; have H2 := hide hB2
  have HOe := hide (Own.empty (T := tOp) (e := 50) W (fun b => W.heap.size ≤ b) (Nat.le_refl _))
  have HRy := hide (((HA.out.old hb3).old ((Below.refl _ W).alloc (Nat.le_refl _) (.cells #[] 50))).anyOp)
  clear hb3 hs3 hB0 hB1 hB2 HA
  go_wp2_with (at_builtin; refine wpList_cat tOp rfl (.tmp 5) (.tmp 7) 68 rfl 50 i0 _ 24 Tryz.underlying68 hi hz0 hz1 hz2 rfl (by decide) (fun b => W.heap.size ≤ b) (fun _ => False) [] t.Ops _ rfl HOe.out _ _ _ rfl rfl HRy.out (fun _ h => h.elim) (fun b hb => Nat.le_trans (by simp) hb) (by skip; simp only [maxLen, List.length_nil]; omega) (by skip; simp only [List.length_nil]; omega) ?_; intro v3 w4 hO_ hK_; have HO4 := hide hO_; have HK4 := hide ((Only.of_alloc (K := fun b => W.heap.size ≤ b) W (.cells #[] 50)).trans hK_); clear hO_ hK_; have H14 := hide (H1.out.of (HK4.out.block _ H1.out.lt (by have := H1.out.lt; omega))); have H24 := hide (H2.out.of (HK4.out.block _ H2.out.lt (by have := H2.out.lt; omega))); obtain ⟨d0, f0⟩ := (⟨H24.out.cell 0, H24.out.frozen 0⟩ : _ ∧ _); obtain ⟨d1, f1⟩ := (⟨H24.out.cell 1, H24.out.frozen 1⟩ : _ ∧ _); obtain ⟨d2, f2⟩ := (⟨H24.out.cell 2, H24.out.frozen 2⟩ : _ ∧ _); obtain ⟨e0, g0⟩ := (⟨H14.out.cell 0, H14.out.frozen 0⟩ : _ ∧ _); obtain ⟨e1, g1⟩ := (⟨H14.out.cell 1, H14.out.frozen 1⟩ : _ ∧ _); obtain ⟨e2, g2⟩ := (⟨H14.out.cell 2, H14.out.frozen 2⟩ : _ ∧ _); simp only [List.getElem?_toArray, List.getElem?_cons_zero, List.getElem?_cons_succ] at d0 d1 d2 e0 e1 e2; obtain ⟨A3, c3, rfl, h31, h32, _⟩ := HO4.out.sl)
  have HB4 := hide (below_only HB.out HK4.out HB.out.size (fun i hi => by have := HB.out.size; omega))
  refine bodyPost_ret (v := .agg #[.int .i64 t.Session, .slice A3 t.Ops.length c3, .bool t.Done]) (by simp [results, Tryz.results99, go_sem, e0, e1, e2]) rfl ⟨_, rfl, ?_, ?_⟩
  · refine Own.mono (S := In (w.heap.size + 3) w4.heap.size) ?_ (fun b h => ⟨by have := h.1; omega, by simpa using h.2⟩) (fun _ _ => rfl)
    repeat (first | refine Own.setLow (n := w.heap.size + 3) ?_ (fun b h => h.1) (by simp; try omega) _ | exact HO4.out.mono (fun b h => ⟨by have := HS.out; have := h.1; omega, h.2⟩) (fun _ _ => rfl))
  · repeat (first | refine Below.setCell ?_ (by simp; try omega) _ | exact HB4.out)
theorem take_snoc' {α : Type} (xs : List α) (k : Nat) (h : k < xs.length) : xs.take (k + 1) = xs.take k ++ [xs[k]] := List.take_succ_eq_append_getElem h
set_option maxRecDepth 10000 in
set_option maxHeartbeats 1000000 in
theorem ownTxnList (xs : List Txn) (A : Option Addr) (c : Nat) (w : World) (hm : xs.length ≤ 1048576) (hn : ∀ x ∈ xs, x.Ops.length ≤ 1048576) (hA : Row tTxn w (Old w) A xs) :
    Calls Tryz.prog 45 #[.slice A xs.length c] w fun e w' => ∃ v, e = .returned v ∧ Own (tTxnO 50) 70 w' (New w w') xs v ∧ Below w.heap.size w w' := by
  obtain ⟨i0, hi, hz0, hz1, hz2⟩ := info_parts infoTxn_
  have HA := hide hA
  have HN := hide hn
  clear hA hn
  go_enter Tryz.func45, Tryz.ntmps45
  go_wp2
  go_loopw [3, 4] (fun v i wr => ∃ k : Nat, k ≤ xs.length ∧ i = .int .i64 k ∧ Hid (Own (tTxnO 50) 70 wr (fun b => w.heap.size ≤ b ∧ Old wr b) (xs.take k) v) ∧ Below w.heap.size w wr) (fun _ i _ => xs.length - (intOf i).toNat)
  case atStart => exact ⟨0, Nat.zero_le _, rfl, Own.empty w (fun b => w.heap.size ≤ b) (Nat.le_refl _), (Below.refl _ _).alloc (Nat.le_refl _) _⟩
  case round =>
    obtain ⟨k, hk, rfl, hO, hb⟩ := hrel
    by_cases hlt : k < xs.length
    · obtain ⟨b, off, A2, c2, rfl, hbS, c0, c1, c3, hi1, hi2, hi3⟩ := at_Txn HA.out hb hlt
      have HC := hide (ownTxn xs[k] A2 c2 wr (HN.out _ (List.getElem_mem hlt)) hi3)
      have HS := hide (take_snoc' xs k hlt)
      have HB := hide hb
      have HL := hide (own_lt (B := wr.heap.size) hO.out (fun b h => h.2))
      clear hi1 hi2 hi3
      go_wp2_with (first | (go_at_call 99; refine HC.out.mono ?_; rintro e w' ⟨v2, rfl, hO2, hb2⟩; have HO2 := hide hO2; have HB2 := hide hb2; have HO1 := hide (hO.out.onlyBelow hb2); clear hO2 hb2 hO) | (at_builtin; refine wpList_put (tTxnO 50) rfl (.tmp 12) (.tmp 18) 23 rfl 70 i0 _ 40 Tryz.underlying23 hi hz0 hz1 hz2 rfl (by decide) (fun b => w.heap.size ≤ b) (New wr w') (xs.take k) xs[k] [.int .i64 xs[k].Session, v2, .bool xs[k].Done] _ rfl HO1.out _ rfl ⟨_, rfl, HO2.out⟩ (fun b h => ⟨Nat.le_trans HB.out.size h.1, h.2, fun e => by have := HL.out b e; have := h.1; omega⟩) (fun b hb => Nat.le_trans (Nat.le_trans HB.out.size HB2.out.size) hb) (by rw [List.length_take]; simp only [maxLen]; omega) (by rw [List.length_take]; omega) ?_; intro v3 w3 hO_ hK_; have HO3 := hide hO_; have HK3 := hide hK_; clear hO_ hK_))
      go_roundw
      case rel => exact ⟨k + 1, by omega, by go_num, by rw [HS.out]; exact HO3.out, below_only (HB.out.trans (HB2.out.mono HB.out.size)) HK3.out (Nat.le_trans HB.out.size HB2.out.size) (fun _ h => h)⟩
      case measure => simp [intOf]; omega
    · obtain rfl : k = xs.length := by omega
      have HS := hide (show xs.take xs.length = xs from List.take_length)
      go_wp2
      go_ret
      exact ⟨_, rfl, by have := hO.out; rw [HS.out] at this; exact this, hb⟩
end Go.Proofs.YtjiobgfaohldhaaGreatDoor
namespace Go.Proofs.YtjiobgfaohldhaaGreatDoor
open Go.RowKit

theorem infoIntS_ : (Tryz.prog.info? 27).map (fun i => (i.zero, i.size, i.bytes)) = some (some (.slice none 0 0), 1, 24) := by kernel_rfl
end Go.Proofs.YtjiobgfaohldhaaGreatDoor
