/- The program's eachSerial and firstSerial. -/
import Derived.Test.YtmlbfhknapkhgaaDoorEach
import Derived.WalkSpells
import Derived.Laws.EntriesVeiled
namespace Go.Proofs.YtmlbfhknapkhgaaDoor
open Go.RowKit
set_option linter.unusedVariables false
set_option linter.unusedSimpArgs false

theorem Only.after {S K : Nat → Prop} {a b c : World} (h : Below a.heap.size a b) (k : Only S b c) (hs : ∀ i, S i → i < a.heap.size → K i) : Only K a c :=
  ⟨k.os.trans h.os, k.tape.trans h.tape, k.output.trans h.output, Nat.le_trans h.size k.size, fun i hi hn => (k.block i (Nat.lt_of_lt_of_le hi h.size) fun e => hn (hs i e hi)).trans (h.block i hi)⟩
/-- What a search over the whole history does. -/
def EachPost (h : List Txn) (alw : List Int → Int → Bool) (Kc : Nat → Prop) (Found : World → List Int → Prop) (w : World) (e : Ending) (w' : World) : Prop :=
  (∃ v, e = .returned v) ∧ Only Kc w w' ∧
  match firstGood (goodR alw h) (doneL h) with
  | none => ∀ b, Kc b → w'.heap[b]? = w.heap[b]?
  | some o => Found w' o
set_option maxRecDepth 10000 in
set_option maxHeartbeats 2000000 in
theorem eachSerial_any (h : List Txn) (A : Option Addr) (c : Nat) (w : World) (alw : List Int → Int → Bool) (Kc : Nat → Prop) (Found : World → List Int → Prop) (gc gal : Nat) (lbc lbal : Array Value)
    (hv : histV h = true) (hKc : ∀ b, Kc b → b < w.heap.size) (hA : Row tTxn w (fun b => Old w b ∧ ¬ Kc b) A h)
    (ec : ∀ args w, (callFunc gc args).run Tryd.prog w = .ok (.enter gc args) w) (eal : ∀ args w, (callFunc gal args).run Tryd.prog w = .ok (.enter gal args) w)
    (hcall : ∀ (W : World) (o : List Int) (g cap : Nat), w.heap.size ≤ g → o.length ≤ 6 → o.length ≤ cap → cap ≤ 6 → Below w.heap.size w W → Row tInt W (Old W) (some ⟨g, 0, none⟩) o →
      Calls Tryd.prog gc (#[.slice (some ⟨g, 0, none⟩) o.length cap] ++ lbc) W fun e w' => e = .returned (.bool false) ∧ Only Kc W w' ∧ Found w' o)
    (halw : ∀ (W : World) (pre : List Int) (gone n : Nat), n < h.length → BitsOf gone pre → (∀ x ∈ pre, x < (h.length : Int)) → Only (fun b => Kc b ∨ w.heap.size ≤ b) w W →
      Calls Tryd.prog gal (#[.int .u64 gone, .int .i64 n] ++ lbal) W fun e w' => e = .returned (.bool (alw pre n)) ∧ Below W.heap.size W w') :
    Calls Tryd.prog 66 #[.slice A h.length c, .func (.func gal) #[] lbal, .func (.func gc) #[] lbc] w (EachPost h alw Kc Found w) := by
  obtain ⟨h6, hts⟩ := histV_parts hv
  obtain ⟨i0, hi, hz0, hz1, hz2⟩ := info_parts infoInt_
  have hal : (doneL h).length ≤ 6 := Nat.le_trans (doneI_len h _) h6
  have hmf : ∀ (fn : Fn) (first cap : Array Value) (w : World), (Instr.makeFunc fn first cap).run Tryd.prog w = .ok (.func fn first cap) w := fun _ _ _ _ => rfl
  have hmk : ∀ W : World, (Instr.makeSlice 26 (.int .i64 0) (.int .i64 ((doneL h).length : Int))).run Tryd.prog W = .ok (.slice (some ⟨W.heap.size, 0, none⟩) 0 (doneL h).length) (W.alloc (.cells (madeCells #[.int .i64 0] ((doneL h).length * 1)) 3)) := fun W => by
    have h := run_make_rowN (P := Tryd.prog) 26 3 i0 (.int .i64 0) Tryd.underlying26 hi hz0 .i64 .i64 0 (doneL h).length (Nat.zero_le _) (by rw [hz2]; omega) (by omega) W
    rw [hz1] at h
    exact h
  have HA := hide hA
  obtain ⟨wA, hwA⟩ : ∃ wA, wA = ((w.alloc (.cells #[.slice A h.length c] 29)).alloc (.cells #[.func (.func gal) #[] lbal] 73)).alloc (.cells #[.func (.func gc) #[] lbc] 106) := ⟨_, rfl⟩
  have HbA := hide (show Below w.heap.size w wA by rw [hwA]; exact (((Below.refl _ w).alloc (Nat.le_refl _) _).alloc (by simp) _).alloc (by simp; omega) _)
  have HsA := hide (show wA.heap.size = w.heap.size + 3 by rw [hwA]; simp)
  have HD := hide (implDone h A c wA (by omega) (HA.out.mono (fun b hb => Nat.lt_of_lt_of_le hb.1 HbA.out.size) (fun b hb => HbA.out.block b hb.1)))
  have HH := hide (show Blk wA w.heap.size 29 #[.slice A h.length c] by rw [hwA]; exact ((Blk.new w _ _).alloc _).alloc _)
  have HL := hide (show Blk wA (w.heap.size + 1) 73 #[.func (.func gal) #[] lbal] by rw [hwA]; have := (Blk.new (w.alloc (.cells #[.slice A h.length c] 29)) 73 #[.func (.func gal) #[] lbal]).alloc (.cells #[.func (.func gc) #[] lbc] 106); rwa [World.size_alloc] at this)
  have HCc := hide (show Blk wA (w.heap.size + 1 + 1) 106 #[.func (.func gc) #[] lbc] by rw [hwA]; have := Blk.new ((w.alloc (.cells #[.slice A h.length c] 29)).alloc (.cells #[.func (.func gal) #[] lbal] 73)) 106 #[.func (.func gc) #[] lbc]; rwa [World.size_alloc, World.size_alloc] at this)
  clear hA
  go_enter Tryd.func66, Tryd.ntmps66
  go_upto_region 1 with (fail)
  rw [← hwA]
  clear hwA
  have c0 := HH.out.cell 0
  simp only [List.getElem?_toArray, List.getElem?_cons_zero, List.getElem?_cons_succ] at c0
  go_upto_region 5 with (go_at_call 87; refine HD.out.mono ?_; rintro e w1 ⟨v1, rfl, hO1, hb1⟩; obtain ⟨A1, c1, rfl, h11, h12, _⟩ := hO1.sl; have HO1 := hide hO1; have Hb1 := hide hb1; clear hO1 hb1)
  generalize hW0 : World.alloc _ _ = w0
  have hba : Blk w0 w1.heap.size 26 #[.slice A1 (doneL h).length c1] := by rw [← hW0]; exact (((Blk.new w1 _ _).alloc _).alloc _).alloc _
  have hbg : Blk w0 (w1.heap.size + 1) 3 (madeCells #[.int .i64 0] (doneL h).length) := by
    rw [← hW0]
    have := ((Blk.new (w1.alloc (.cells #[.slice A1 (doneL h).length c1] 26)) 3 (madeCells #[.int .i64 0] (doneL h).length)).alloc (.cells #[.slice (some ⟨w1.heap.size + 1, 0, none⟩) 0 (doneL h).length] 26))
    rw [World.size_alloc] at this
    exact this.alloc _
  have hbo : Blk w0 (w1.heap.size + 1 + 1) 26 #[.slice (some ⟨w1.heap.size + 1, 0, none⟩) 0 (doneL h).length] := by
    rw [← hW0]
    have := Blk.new ((w1.alloc (.cells #[.slice A1 (doneL h).length c1] 26)).alloc (.cells (madeCells #[.int .i64 0] (doneL h).length) 3)) 26 #[.slice (some ⟨w1.heap.size + 1, 0, none⟩) 0 (doneL h).length]
    rw [World.size_alloc, World.size_alloc] at this
    exact this.alloc _
  have hbf : Blk w0 (w1.heap.size + 1 + 1 + 1) 121 #[.func (.func 88) #[] #[.pointer (some ⟨w1.heap.size + 1 + 1, 0, none⟩), .pointer (some ⟨w1.heap.size, 0, none⟩), .pointer (some ⟨w.heap.size + 1 + 1, 0, none⟩), .pointer (some ⟨w.heap.size + 1, 0, none⟩), .pointer (some ⟨w.heap.size, 0, none⟩), .pointer (some ⟨w1.heap.size + 1 + 1 + 1, 0, none⟩)]] := by
    rw [← hW0]
    have := Blk.new (((w1.alloc (.cells #[.slice A1 (doneL h).length c1] 26)).alloc (.cells (madeCells #[.int .i64 0] (doneL h).length) 3)).alloc (.cells #[.slice (some ⟨w1.heap.size + 1, 0, none⟩) 0 (doneL h).length] 26)) 121 #[.func (.func 88) #[] #[.pointer (some ⟨w1.heap.size + 1 + 1, 0, none⟩), .pointer (some ⟨w1.heap.size, 0, none⟩), .pointer (some ⟨w.heap.size + 1 + 1, 0, none⟩), .pointer (some ⟨w.heap.size + 1, 0, none⟩), .pointer (some ⟨w.heap.size, 0, none⟩), .pointer (some ⟨w1.heap.size + 1 + 1 + 1, 0, none⟩)]]
    rw [World.size_alloc, World.size_alloc, World.size_alloc] at this
    exact this
  have hb01 : Below w1.heap.size w1 w0 := by rw [← hW0]; exact ((((Below.refl _ w1).alloc (Nat.le_refl _) _).alloc (by simp) _).alloc (by simp; omega) _).alloc (by simp; omega) _
  have hs0 : w0.heap.size = w1.heap.size + 4 := by rw [← hW0]; simp
  clear hW0 hmk
  have hb0A : Below wA.heap.size wA w0 := Hb1.out.trans (hb01.mono Hb1.out.size)
  have hb0w : Below w.heap.size w w0 := HbA.out.trans (hb0A.mono HbA.out.size)
  have hsA := HsA.out
  have hs1 := Hb1.out.size
  have hkc : ∀ b, Kc b → b < w.heap.size := hKc
  have C : Sea h (doneL h) alw w0 (fun b => Ko (w1.heap.size + 1 + 1) (w1.heap.size + 1) b ∨ Kc b) Found (w1.heap.size + 1 + 1) (w1.heap.size + 1) w1.heap.size (w.heap.size + 1 + 1) (w.heap.size + 1) w.heap.size (w1.heap.size + 1 + 1 + 1) gc gal lbc lbal A1 A c1 c := {
    kl := fun b hb => by rcases hb with (hb | hb) | hb <;> first | omega | (have := hkc b hb; omega)
    ko := .inl (.inl rfl)
    kg := .inl (.inr rfl)
    ne := by omega
    vall := ⟨hba, fun hb => by rcases hb with (hb | hb) | hb <;> first | omega | (have := hkc _ hb; omega)⟩
    vh := ⟨HH.out.below hb0A HH.out.lt, fun hb => by rcases hb with (hb | hb) | hb <;> first | omega | (have := hkc _ hb; omega)⟩
    vc := ⟨HCc.out.below hb0A HCc.out.lt, fun hb => by rcases hb with (hb | hb) | hb <;> first | omega | (have := hkc _ hb; omega)⟩
    val := ⟨HL.out.below hb0A HL.out.lt, fun hb => by rcases hb with (hb | hb) | hb <;> first | omega | (have := hkc _ hb; omega)⟩
    vf := ⟨hbf, fun hb => by rcases hb with (hb | hb) | hb <;> first | omega | (have := hkc _ hb; omega)⟩
    rall := by
      have h1 := HO1.out.sl.row
      exact h1.mono (fun b hb => ⟨Nat.lt_of_lt_of_le hb.2 hb01.size, fun hk => by have h1 := hb.1; have h2 := hb.2; rcases hk with (hk | hk) | hk <;> first | omega | (have := hkc b hk; omega)⟩) (fun b hb => hb01.block b hb.2)
    rh := HA.out.mono (fun b hb => ⟨Nat.lt_of_lt_of_le hb.1 hb0w.size, fun hk => by have h1 := hb.1; unfold Old at h1; rcases hk with (hk | hk) | hk <;> first | omega | exact hb.2 hk⟩) (fun b hb => hb0w.block b hb.1)
    h6 := h6
    hok := hts
    a6 := hal
    inA := fun n hn => doneI_mem h _ n hn
    ec := ec
    eal := eal
    ef := enters_of Tryd.func88 (by kernel_rfl) rfl
    call := fun W o ho hO hOr => by
      have hOw : Below w.heap.size w W := (Only.after (K := fun b => w.heap.size ≤ b) hb0w hO (fun b hb hl => by rcases hb with hb | hb <;> omega)).below
      have := hcall W o (w1.heap.size + 1) (doneL h).length (by omega) (by omega) (by omega) hal hOw (by
        intro hp
        obtain ⟨cur, hcur, hcs, hcv⟩ := hOr.row
        refine ⟨_, 0, rfl, hcur.lt, fun k hk => ⟨_, rfl, fun j u hu => ?_⟩⟩
        obtain ⟨hj, rfl⟩ := List.getElem?_eq_some_iff.1 hu
        have hj0 : j = 0 := by simpa using hj
        subst hj0
        rw [hcur.cell]
        have := hcv k hk
        simpa [tInt, flat] using this)
      exact this.mono fun e w' ⟨h1, h2, h3⟩ => ⟨h1, h2.mono fun b hb => .inr hb, h3⟩
    alwd := fun W pre gone n hn hbits hin hO => halw W pre gone n hn hbits hin ((Only.of_below hb0w).trans (hO.mono fun b hb => by rcases hb with (hb | hb) | hb <;> first | exact .inl hb | (exact .inr (by omega)))) }
  have hOrd : Ord (w1.heap.size + 1 + 1) (w1.heap.size + 1) (doneL h).length [] w0 := ⟨hbo, _, hbg, by rw [size_madeCells], fun j hj => absurd hj (by simp)⟩
  have hF := from_any C (doneL h).length [] St0 0 w0 (by simp) rfl (goodR_nil _ _) BitsOf.zero (fun x hx => by cases hx) (Only.refl _ _) hOrd
  have HDf := hide (dfsA_first (goodR alw h) (goodR_prefix alw h) (goodR_nil _ _) (doneL h) (doneI_nodup h _))
  have hf0 := hbf.cell 0
  simp only [List.getElem?_toArray, List.getElem?_cons_zero, List.getElem?_cons_succ] at hf0
  have eg := C.ef
  have HK0 := hide hkc
  have HB0 := hide hb0w
  have HB01 := hide hb01
  unfold SeaPost at hF
  rw [HDf.out] at hF
  clear hba hbg hbo hbf hb01 hs0 hb0A hb0w hsA hs1 hkc C hOrd hcall halw hKc
  cases hd : firstGood (goodR alw h) (doneL h) with
  | none =>
    rw [hd] at hF
    have HF := hide hF
    have HX := hide hd
    clear hF hd
    go_wp2_with (go_at_fn 88; refine HF.out.mono ?_; rintro e w7 ⟨rfl, hK7, _⟩; have HK7 := hide hK7; clear hK7)
    go_end0
    unfold EachPost
    rw [HX.out]
    have hsA := HsA.out
    have hs1 := Hb1.out.size
    refine ⟨⟨_, rfl⟩, Only.after HB0.out HK7.out (fun b hb hl => ?_), fun b hb => ?_⟩
    · rcases hb with hb | hb <;> omega
    · have := HK0.out b hb
      exact (HK7.out.block b (Nat.lt_of_lt_of_le this HB0.out.size) (fun hk => by rcases hk with hk | hk <;> omega)).trans (HB0.out.block b this)
  | some o =>
    rw [hd] at hF
    have HF := hide hF
    have HX := hide hd
    clear hF hd
    go_wp2_with (go_at_fn 88; refine HF.out.mono ?_; rintro e w7 ⟨rfl, hK7, hF7⟩; have HK7 := hide hK7; have HF7 := hide hF7; clear hK7 hF7)
    go_end0
    unfold EachPost
    rw [HX.out]
    have hsA := HsA.out
    have hs1 := Hb1.out.size
    exact ⟨⟨_, rfl⟩, Only.after HB0.out HK7.out (fun b hb hl => by rcases hb with (hb | hb) | hb <;> first | omega | exact hb), HF7.out⟩
end Go.Proofs.YtmlbfhknapkhgaaDoor
