/- The text of an operation; alive. The draws that hand back a history alone. Small words for laws over drawn histories. DrawVerdictRight: some history, and some verdict. sameInts: two lists of numbers are compared. Comparing equal histories answers true: sameOps, sameTxn, sameHistory. Comparing equal lists of lists of numbers answers true: sameLists. The law FnVerdictOf: verdicts are right. Bytes as the argument of a law. -/
import Derived.Test.YtjiobgfaohldhaaGreatDoorQToB
import Derived.Test.YtjiobgfaohldhaaGreatDoorQBuild
import Derived.Test.YtjiobgfaohldhaaGreatDoorQHistD
import Derived.Test.YtjiobgfaohldhaaGreatDoorQVerR
import Derived.Test.YtjiobgfaohldhaaGreatDoorQPutN
import Derived.Test.YtjiobgfaohldhaaGreatDoorProg
import Derived.Test.YtjiobgfaohldhaaGreatDoorQOrders
import Derived.Deep.RegionHeld3
import Derived.WalkLawsBesides
import Derived.BigQuiet
namespace Go.Proofs.YtjiobgfaohldhaaGreatDoor
open Go.RowKit
set_option linter.unusedVariables false
set_option linter.unusedSimpArgs false

def digitsS : ByteArray := { data := #[48, 49, 50, 51, 52, 53, 54, 55, 56, 57, 97, 98, 99, 100, 101, 102, 103, 104, 105, 106, 107, 108, 109, 110, 111, 112, 113, 114, 115, 116, 117, 118, 119, 120, 121, 122] }
theorem itoa_digit (n : Nat) (hn : n < 10) (w : World) :
    Calls Tryz.prog 60 #[.int .i64 n] w fun e w' => e = .returned (.string (digitsS.extract n (n + 1))) ∧ w = w' := by
  have h1 : (0 : Int) ≤ (n : Int) := by omega
  have h2 : (n : Int) < 100 := by omega
  have h3 : (n : Int) < 10 := by omega
  go_enter Tryz.func60, Tryz.ntmps60
  go_wp2
  go_ret
  exact ⟨rfl, rfl⟩

def smallsS : ByteArray := { data := #[48, 48, 48, 49, 48, 50, 48, 51, 48, 52, 48, 53, 48, 54, 48, 55, 48, 56, 48, 57, 49, 48, 49, 49, 49, 50, 49, 51, 49, 52, 49, 53, 49, 54, 49, 55, 49, 56, 49, 57, 50, 48, 50, 49, 50, 50, 50, 51, 50, 52, 50, 53, 50, 54, 50, 55, 50, 56, 50, 57, 51, 48, 51, 49, 51, 50, 51, 51, 51, 52, 51, 53, 51, 54, 51, 55, 51, 56, 51, 57, 52, 48, 52, 49, 52, 50, 52, 51, 52, 52, 52, 53, 52, 54, 52, 55, 52, 56, 52, 57, 53, 48, 53, 49, 53, 50, 53, 51, 53, 52, 53, 53, 53, 54, 53, 55, 53, 56, 53, 57, 54, 48, 54, 49, 54, 50, 54, 51, 54, 52, 54, 53, 54, 54, 54, 55, 54, 56, 54, 57, 55, 48, 55, 49, 55, 50, 55, 51, 55, 52, 55, 53, 55, 54, 55, 55, 55, 56, 55, 57, 56, 48, 56, 49, 56, 50, 56, 51, 56, 52, 56, 53, 56, 54, 56, 55, 56, 56, 56, 57, 57, 48, 57, 49, 57, 50, 57, 51, 57, 52, 57, 53, 57, 54, 57, 55, 57, 56, 57, 57] }
def itoaS (n : Nat) : ByteArray := if n < 10 then digitsS.extract n (n + 1) else smallsS.extract (n * 2) (n * 2 + 2)
set_option maxRecDepth 20000 in
theorem itoa_any (n : Nat) (hn : n < 100) (w : World) :
    Calls Tryz.prog 60 #[.int .i64 n] w fun e w' => e = .returned (.string (itoaS n)) ∧ w = w' := by
  by_cases h : n < 10
  · unfold itoaS; rw [if_pos h]; exact itoa_digit n h w
  · have HI := hide (show itoaS n = smallsS.extract (n * 2) (n * 2 + 2) by unfold itoaS; rw [if_neg h])
    have h1 : (0 : Int) ≤ (n : Int) := by omega
    have h2 : (n : Int) < 100 := by omega
    have h3 : ¬ (n : Int) < 10 := by omega
    go_enter Tryz.func60, Tryz.ntmps60
    go_wp2
    go_ret
    exact ⟨by rw [HI.out]; rfl, rfl⟩
theorem extract_size (s : ByteArray) (a b : Nat) : (s.extract a b).size ≤ b - a := by rw [ByteArray.size_extract]; omega
theorem itoaS_size (n : Nat) : (itoaS n).size ≤ 2 := by
  unfold itoaS
  split
  · have := extract_size digitsS n (n + 1); omega
  · have := extract_size smallsS (n * 2) (n * 2 + 2); omega
def letterS (o : Op) : ByteArray := if o.Kind == 2 then { data := #[119] } else { data := #[114] }
set_option maxHeartbeats 400000 in
theorem letter_any (o : Op) (w : World) : Calls Tryz.prog 59 #[.agg #[.int .i64 o.Kind, .int .i64 o.Key, .int .i64 o.Value]] w fun e w' => e = .returned (.string (letterS o)) ∧ Below w.heap.size w w' := by
  have HC := hide (fun W => writes_any o W)
  have HB := hide ((Below.refl _ w).alloc (Nat.le_refl _) (.cells #[.int .i64 o.Kind, .int .i64 o.Key, .int .i64 o.Value] 50))
  have HL := hide (show letterS o = if o.Kind == 2 then { data := #[119] } else { data := #[114] } from rfl)
  cases hq : (o.Kind == 2) with
  | true =>
    rw [hq] at HC HL
    clear hq
    go_enter Tryz.func59, Tryz.ntmps59
    go_wp2_with (go_at_call 109; refine (HC.out _).mono ?_; rintro e w' ⟨rfl, hb⟩; have HB2 := hide (HB.out.trans (hb.mono (by simp))); clear hb)
    go_ret
    exact ⟨by rw [HL.out]; rfl, HB2.out⟩
  | false =>
    rw [hq] at HC HL
    clear hq
    go_enter Tryz.func59, Tryz.ntmps59
    go_wp2_with (go_at_call 109; refine (HC.out _).mono ?_; rintro e w' ⟨rfl, hb⟩; have HB2 := hide (HB.out.trans (hb.mono (by simp))); clear hb)
    go_ret
    exact ⟨by rw [HL.out]; rfl, HB2.out⟩

theorem letterS_size (o : Op) : (letterS o).size = 1 := by unfold letterS; split <;> rfl
/-- The text of an operation. -/
def opText (o : Op) : ByteArray := if opOk o then letterS o ++ itoaS o.Key.toNat ++ { data := #[61] } ++ itoaS o.Value.toNat else { data := #[] }
set_option maxRecDepth 10000 in
set_option maxHeartbeats 2000000 in
theorem opText_any (o : Op) (w : World) : Calls Tryz.prog 26 #[.agg #[.int .i64 o.Kind, .int .i64 o.Key, .int .i64 o.Value]] w fun e w' => e = .returned (.string (opText o)) ∧ Below w.heap.size w w' := by
  have HV := hide (fun W => opValid_any o W)
  have HB := hide ((Below.refl _ w).alloc (Nat.le_refl _) (.cells #[.int .i64 o.Kind, .int .i64 o.Key, .int .i64 o.Value] 50))
  cases q1 : opOk o with
  | false =>
    have HO := hide (show opText o = { data := #[] } by unfold opText; rw [q1]; rfl)
    rw [q1] at HV
    clear q1
    go_enter Tryz.func26, Tryz.ntmps26
    go_wp2_with (go_at_call 58; refine (HV.out _).mono ?_; rintro e w1 ⟨rfl, hb1⟩; have HB := hide (HB.out.trans (hb1.mono HB.out.size)); clear hb1)
    go_ret
    exact ⟨by rw [HO.out]; rfl, HB.out⟩
  | true =>
    have HO := hide (show opText o = letterS o ++ itoaS o.Key.toNat ++ { data := #[61] } ++ itoaS o.Value.toNat by unfold opText; rw [q1]; rfl)
    have HL := hide (fun W => letter_any o W)
    have hls := letterS_size o
    generalize hL : letterS o = L at HO HL hls
    clear hL
    have hq := q1
    unfold opOk at hq
    simp only [Bool.and_eq_true, inR_iff] at hq
    obtain ⟨⟨⟨_, hk0, hk1⟩, hv0, hv1⟩, _⟩ := hq
    rw [q1] at HV
    clear q1
    generalize hK : o.Kind = Kd at HV HL HB ⊢
    obtain ⟨k, hk⟩ : ∃ k : Nat, o.Key = (k : Int) := ⟨o.Key.toNat, by omega⟩
    obtain ⟨v, hv⟩ : ∃ v : Nat, o.Value = (v : Int) := ⟨o.Value.toNat, by omega⟩
    have HI1 := hide (fun W => itoa_any k (by omega) W)
    have HI2 := hide (fun W => itoa_any v (by omega) W)
    have hs1 := itoaS_size k
    have hs2 := itoaS_size v
    obtain ⟨N1, hN1⟩ : ∃ N, N = itoaS k := ⟨_, rfl⟩
    obtain ⟨N2, hN2⟩ : ∃ N, N = itoaS v := ⟨_, rfl⟩
    rw [← hN1] at HI1 hs1
    rw [← hN2] at HI2 hs2
    rw [show o.Key.toNat = k by omega, show o.Value.toNat = v by omega, ← hN1, ← hN2] at HO
    clear hN1 hN2
    have hadd1 : ∀ W, (Op.stringOp .add L N1).run Tryz.prog W = .ok (.string (L ++ N1)) W := fun W => run_string_add_sum _ _ _ (by omega)
    have hadd2 : ∀ W, (Op.stringOp .add (L ++ N1) { data := #[61] }).run Tryz.prog W = .ok (.string (L ++ N1 ++ { data := #[61] })) W := fun W => run_string_add_sum _ _ _ (by rw [ByteArray.size_append]; have : ({ data := #[61] } : ByteArray).size = 1 := rfl; omega)
    have hadd3 : ∀ W, (Op.stringOp .add (L ++ N1 ++ { data := #[61] }) N2).run Tryz.prog W = .ok (.string (L ++ N1 ++ { data := #[61] } ++ N2)) W := fun W => run_string_add_sum _ _ _ (by rw [ByteArray.size_append, ByteArray.size_append]; have : ({ data := #[61] } : ByteArray).size = 1 := rfl; omega)
    rw [hk, hv] at HV HL HB ⊢
    clear hk hv hk0 hk1 hv0 hv1 hK
    go_enter Tryz.func26, Tryz.ntmps26
    go_wp2_with (go_at_call 58; refine (HV.out _).mono ?_; rintro e w1 ⟨rfl, hb1⟩; have HB := hide (HB.out.trans (hb1.mono HB.out.size)); have z0 := (hb1.cell (p := ⟨w.heap.size, 0, none⟩) (by simp)).trans ((Blk.new w _ _).cell 0); have z1 := (hb1.cell (p := ⟨w.heap.size, 1, none⟩) (by simp)).trans ((Blk.new w _ _).cell 1); have z2 := (hb1.cell (p := ⟨w.heap.size, 2, none⟩) (by simp)).trans ((Blk.new w _ _).cell 2); have hz1 : w.heap.size < w1.heap.size := (by have := hb1.size; simp at this; omega); clear hb1)
    simp only [List.getElem?_toArray, List.getElem?_cons_zero, List.getElem?_cons_succ] at z0 z1 z2
    go_region_held3 (fun w' => w'.cell? ⟨w.heap.size, 0, none⟩ = some (.int .i64 Kd) ∧ w'.cell? ⟨w.heap.size, 1, none⟩ = some (.int .i64 k) ∧ w'.cell? ⟨w.heap.size, 2, none⟩ = some (.int .i64 v) ∧ Below w.heap.size w w')
      (first
        | ((try dsimp only); exact ⟨z0, z1, z2, HB.out.drew⟩)
        | ((try dsimp only); exact ⟨(HB2.out.cell (p := ⟨w.heap.size, 0, none⟩) hz1).trans z0, (HB2.out.cell (p := ⟨w.heap.size, 1, none⟩) hz1).trans z1, (HB2.out.cell (p := ⟨w.heap.size, 2, none⟩) hz1).trans z2, HB.out.drew.trans (HB2.out.mono HB.out.size)⟩)
        | go_keep)
      ((first
        | (go_at_call 59; refine (HL.out _).mono ?_; rintro e w2 ⟨rfl, hb2⟩; have HB2 := hide hb2)
        | (go_at_call 60; refine (HI1.out _).mono ?_; rintro e w' ⟨rfl, rfl⟩)
        | (go_at_call 60; refine (HI2.out _).mono ?_; rintro e w' ⟨rfl, rfl⟩)))
    have HBF := hide (show Below w.heap.size w w2 from HB.out.drew.trans (HB2.out.mono HB.out.size))
    go_wp2
    go_ret
    exact ⟨by rw [HO.out]; rfl, HBF.out⟩

set_option maxRecDepth 10000 in
theorem alive_any (w : World) : Calls Tryz.prog 9 #[] w fun e w' => e = .returned (.bool true) ∧ Below w.heap.size w w' := by
  have HC := hide (fun W => opText_any ⟨2, 0, 5⟩ W)
  have HT := hide (show opText ⟨2, 0, 5⟩ = { data := #[119, 48, 61, 53] } by decide +kernel)
  rw [HT.out] at HC
  go_enter Tryz.func9, Tryz.ntmps9
  go_wp2_with (go_at_call 26; refine (HC.out _).mono ?_; rintro e w1 ⟨rfl, hb1⟩)
  go_ret
  exact ⟨rfl, hb1⟩
def opsN20 (h : List Txn) : Nat := tot (fun x : Txn => x.Ops.length) h
/-- A history that is not too long. -/
def HistS (xs : List Txn) : Prop := xs.length ≤ 8 ∧ ∀ t ∈ xs, t.Ops.length ≤ 20
theorem HistS.ops {xs : List Txn} (h : HistS xs) : opsN20 xs ≤ 400 := by
  obtain ⟨h1, h2⟩ := h
  have : ∀ l : List Txn, (∀ t ∈ l, t.Ops.length ≤ 20) → opsN20 l ≤ 20 * l.length := by
    intro l
    induction l with
    | nil => intro _; simp [opsN20, tot]
    | cons t l ih =>
      intro h
      have h3 := ih (fun x hx => h x (List.mem_cons_of_mem _ hx))
      have h4 := h t List.mem_cons_self
      simp only [opsN20, tot, List.map_cons, List.sum_cons, List.length_cons] at h3 ⊢
      omega
  have := this xs h2
  omega
/-- Some history, in memory. -/
def DrawnHist (w : World) (e : Ending) (w' : World) : Prop := ∃ (xs : List Txn) (v : Value), e = .returned v ∧ HistS xs ∧ Sl tTxn w' (Old w') xs v ∧ Below w.heap.size w w'
set_option maxHeartbeats 1000000 in
theorem drawVerdictOf (bs : List Int) (A : Option Addr) (c : Nat) (w : World) (hl : bs.length ≤ 1048576) (hc : bs.length ≤ c) (hcm : c ≤ maxLen) (hA : Row tByte w (Old w) A bs) :
    Calls Tryz.prog 16 #[.slice A bs.length c] w (DrawnHist w) := by
  have HC := hide (open_any bs A c w hl hc hcm hA)
  clear hA
  go_enter Tryz.func16, Tryz.ntmps16
  go_wp2_with fail
  refine HC.out.mono ?_
  rintro e w1 ⟨R, rfl, hR0, hr1, hb1⟩
  have HB1 := hide hb1
  have HR1 := hide hr1
  have HRw := hide hR0
  clear hb1 hr1 hR0 HC
  go_wp2_with fail
  refine (history_any _ R 0 4 9 HR1.out (by omega) (by omega) (by omega) (by omega)).mono ?_
  rintro e w4 ⟨xs, v, rfl, hx, ho, hS, hr4, hg4⟩
  go_wp2_with fail
  go_ret
  exact ⟨xs, v, rfl, ⟨hx, ho⟩, hS.mono (fun _ hb => hb.2) (fun _ _ => rfl), below_gr HB1.out hg4 HB1.out.size HRw.out⟩
theorem Sl.fresh {α : Type} {T : Ty α} {w w' : World} {xs : List α} {v : Value} (h : Sl T w' (New w w') xs v) : ∃ A c, v = .slice A xs.length c ∧ xs.length ≤ c ∧ c ≤ maxLen ∧ Row T w' (Old w') A xs := by
  obtain ⟨A, c, rfl, hc, hm, hr⟩ := h
  exact ⟨A, c, rfl, hc, hm, hr.mono (fun b hb => hb.2) (fun _ _ => rfl)⟩
theorem HistS.le {xs : List Txn} (h : HistS xs) : xs.length ≤ maxLen ∧ xs.length ≤ 1048576 ∧ opsN20 xs ≤ 1048576 ∧ ∀ x ∈ xs, x.Ops.length ≤ 1048576 :=
  ⟨by have := h.1; simp only [maxLen]; omega, by have := h.1; omega, by have := h.ops; omega, fun x hx => by have := h.2 x hx; omega⟩
end Go.Proofs.YtjiobgfaohldhaaGreatDoor
namespace Go.Proofs.YtjiobgfaohldhaaGreatDoor
open Go.RowKit
set_option linter.unusedVariables false
set_option linter.unusedSimpArgs false

theorem verdD_bd (h : List Txn) (hm : h.length ≤ 8) : (verdD h).Order.length ≤ 8 ∧ (verdD h).Cycles.length ≤ 200 ∧ ∀ x ∈ (verdD h).Cycles, x.length ≤ 7 := by
  unfold verdD verdO
  split
  · exact ⟨by simp, by simp, by simp⟩
  · split
    · rename_i o hf
      have hp := (findF_some hf).2.1.length_eq
      have h2 : (doneL h).length ≤ h.length := doneI_len h _
      exact ⟨by simp only [Option.getD_some]; omega, by simp, by simp⟩
    · refine ⟨by simp, ?_, ?_⟩
      · simp only [Option.getD_some]
        split
        · unfold cycsO; rw [List.length_map]; exact allO_len h
        · simp
      · simp only [Option.getD_some]
        split
        · intro x hx
          obtain ⟨os, _, rfl⟩ := List.mem_map.1 hx
          exact cycO_le7 _ _
        · simp
/-- The state of DrawVerdictRight: the verdict's variable g8, the reader R, the result's variable ahead of both. -/
structure VSt (w W : World) (R g8 : Nat) (xs : List Txn) (g : Bool) (o : List Int) (cs : List (List Int)) (vx vo vc : Value) : Prop where
  below : Below w.heap.size w W
  res : Blk W w.heap.size 35 #[.bool false, .slice none 0 0, .slice none 0 0]
  var : Blk W g8 35 #[.bool g, vo, vc]
  rr : w.heap.size < R
  rg : R < g8
  hS : Sl tTxn W (fun b => (R < b ∧ b ≠ g8) ∧ Old W b) xs vx
  oS : Sl tInt W (fun b => (R < b ∧ b ≠ g8) ∧ Old W b) o vo
  cS : Sl (tSlice tInt) W (fun b => (R < b ∧ b ≠ g8) ∧ Old W b) cs vc
  ol : o.length ≤ 100
  cl : cs.length ≤ 300
  cn : ∀ x ∈ cs, x.length ≤ 100
variable {w W W' : World} {R g8 : Nat} {xs : List Txn} {g : Bool} {o : List Int} {cs : List (List Int)} {vx vo vc : Value}
theorem VSt.keep (h : VSt w W R g8 xs g o cs vx vo vc) (hg : Gr W W' R) : VSt w W' R g8 xs g o cs vx vo vc := by
  have hz := hg.size
  have hst : ∀ b, ((R < b ∧ b ≠ g8) ∧ Old W b) → W'.heap[b]? = W.heap[b]? := fun b hb => hg.block b hb.2 (fun e => by injection e with e; have := hb.1.1; omega)
  have hup : ∀ b, ((R < b ∧ b ≠ g8) ∧ Old W b) → ((R < b ∧ b ≠ g8) ∧ Old W' b) := fun b hb => ⟨hb.1, Nat.lt_of_lt_of_le hb.2 hz⟩
  exact ⟨below_gr h.below hg h.below.size (Nat.le_of_lt h.rr), h.res.of (hg.block _ h.res.lt (fun e => by injection e with e; have := h.rr; omega)), h.var.of (hg.block _ h.var.lt (fun e => by injection e with e; have := h.rg; omega)), h.rr, h.rg, h.hS.mono hup hst, h.oS.mono hup hst, h.cS.mono hup hst, h.ol, h.cl, h.cn⟩
theorem Sl.set_ {α : Type} {T : Ty α} {W : World} {S : Nat → Prop} {ys : List α} {v : Value} (h : Sl T W (fun b => S b ∧ Old W b) ys v) {p : Addr} (hp : ¬ S p.block) (u : Value) : Sl T (W.setCell p u) (fun b => S b ∧ Old (W.setCell p u) b) ys v :=
  h.mono (fun b hb => ⟨hb.1, by have := hb.2; simpa [Old] using this⟩) (fun b hb => Below.heap_setCell _ _ _ _ (by rintro rfl; exact hp hb.1))
theorem VSt.drawn (h : VSt w W R g8 xs g o cs vx vo vc) {r0 r1 r2 : Value} :
    Sl tTxn (((W.setCell ⟨w.heap.size, 0, none⟩ r0).setCell ⟨w.heap.size, 1, none⟩ r1).setCell ⟨w.heap.size, 2, none⟩ r2).drew (Old (((W.setCell ⟨w.heap.size, 0, none⟩ r0).setCell ⟨w.heap.size, 1, none⟩ r1).setCell ⟨w.heap.size, 2, none⟩ r2).drew) xs vx ∧
    Sl tInt (((W.setCell ⟨w.heap.size, 0, none⟩ r0).setCell ⟨w.heap.size, 1, none⟩ r1).setCell ⟨w.heap.size, 2, none⟩ r2).drew (Old (((W.setCell ⟨w.heap.size, 0, none⟩ r0).setCell ⟨w.heap.size, 1, none⟩ r1).setCell ⟨w.heap.size, 2, none⟩ r2).drew) o vo ∧
    Sl (tSlice tInt) (((W.setCell ⟨w.heap.size, 0, none⟩ r0).setCell ⟨w.heap.size, 1, none⟩ r1).setCell ⟨w.heap.size, 2, none⟩ r2).drew (Old (((W.setCell ⟨w.heap.size, 0, none⟩ r0).setCell ⟨w.heap.size, 1, none⟩ r1).setCell ⟨w.heap.size, 2, none⟩ r2).drew) cs vc ∧
    Below w.heap.size w (((W.setCell ⟨w.heap.size, 0, none⟩ r0).setCell ⟨w.heap.size, 1, none⟩ r1).setCell ⟨w.heap.size, 2, none⟩ r2).drew := by
  have hp : ¬ (R < w.heap.size ∧ w.heap.size ≠ g8) := fun e => by have := h.rr; omega
  exact ⟨(((h.hS.set_ hp _).set_ hp _).set_ hp _).mono (fun b hb => hb.2) (fun _ _ => rfl), (((h.oS.set_ hp _).set_ hp _).set_ hp _).mono (fun b hb => hb.2) (fun _ _ => rfl), (((h.cS.set_ hp _).set_ hp _).set_ hp _).mono (fun b hb => hb.2) (fun _ _ => rfl), (((h.below.setCell (Nat.le_refl _) _).setCell (Nat.le_refl _) _).setCell (Nat.le_refl _) _).drew⟩
end Go.Proofs.YtjiobgfaohldhaaGreatDoor
namespace Go.Proofs.YtjiobgfaohldhaaGreatDoor
open Go.RowKit
set_option linter.unusedVariables false
set_option linter.unusedSimpArgs false

set_option maxRecDepth 10000 in
set_option maxHeartbeats 2000000 in
theorem sameInts_any (xs ys : List Int) (A B : Option Addr) (c d : Nat) (w : World) (hl : xs.length ≤ maxLen) (hm : ys.length ≤ maxLen) (hA : Row tInt w (Old w) A xs) (hB : Row tInt w (Old w) B ys) :
    Calls Tryz.prog 19 #[.slice A xs.length c, .slice B ys.length d] w fun e w' => e = .returned (.bool (decide (xs = ys))) ∧ Below w.heap.size w w' := by
  unfold maxLen at hl hm
  have HA := hide hA; have HB := hide hB
  clear hA hB
  by_cases hlen : xs.length = ys.length
  · have HL := hide hlen
    have hlenI : (xs.length : Int) = (ys.length : Int) := by omega
    obtain ⟨n, hn⟩ : ∃ n, n = xs.length := ⟨_, rfl⟩
    have hn2 : ys.length = n := by omega
    rw [← hn, hn2]
    rw [← hn] at hl
    have HN := hide hn; have HN2 := hide hn2
    clear hlen hlenI hn hn2 hm
    go_enter Tryz.func19, Tryz.ntmps19
    go_wp2
    go_loopw [5] (fun i wr => ∃ k : Nat, k ≤ n ∧ i = .int .i64 k ∧ Hid (xs.take k = ys.take k) ∧ Below w.heap.size w wr) (fun i _ => n - (intOf i).toNat)
    case atStart => exact ⟨0, Nat.zero_le _, rfl, rfl, Below.refl _ _⟩
    case round =>
      obtain ⟨k, hk, rfl, hI, hb⟩ := hrel
      by_cases hlt : k < n
      · have hkx : k < xs.length := by rw [← HN.out]; exact hlt
        have hky : k < ys.length := by rw [HN2.out]; exact hlt
        have HTx := hide (List.take_succ_eq_append_getElem hkx)
        have HTy := hide (List.take_succ_eq_append_getElem hky)
        obtain ⟨b, off, hAe, hbS, c0⟩ := at_Int HA.out hb hkx
        obtain ⟨b2, off2, hBe, hbS2, c1⟩ := at_Int HB.out hb hky
        subst hAe hBe
        have hki0 : (0 : Int) ≤ (k : Int) := by omega
        have hki : (k : Int) < (n : Int) := by omega
        generalize hx : xs[k] = x at c0 HTx
        generalize hy : ys[k] = y at c1 HTy
        by_cases hxy : x = y
        · subst hxy
          have HTk := hide (show xs.take (k + 1) = ys.take (k + 1) by rw [HTx.out, HTy.out, hI.out])
          clear hx hy hbS hbS2
          go_wp2
          go_quiet (fail)
          go_wp2
          go_roundw
          case rel => exact ⟨k + 1, by omega, by go_num, HTk.out, below_drewN hb _⟩
          case measure => simp [intOf]; omega
        · have HNe := hide (show decide (xs = ys) = false by
            rw [decide_eq_false_iff_not]
            intro h
            subst h
            exact hxy (hx.symm.trans hy))
          clear hx hy hbS hbS2
          go_wp2
          go_quiet (fail)
          go_wp2
          go_ret
          exact ⟨ret_bool HNe.out.symm, below_drewN hb _⟩
      · obtain rfl : k = n := by omega
        have HEq := hide (show decide (xs = ys) = true by
          have h := hI.out
          rw [HN.out, List.take_length, List.take_of_length_le (by have := HL.out; omega)] at h
          simpa using h)
        clear hI
        go_wp2
        go_ret
        exact ⟨ret_bool HEq.out.symm, hb⟩
  · have HNe := hide (show decide (xs = ys) = false by
      rw [decide_eq_false_iff_not]; intro h; exact hlen (by rw [h]))
    have hlenI : ¬ (xs.length : Int) = (ys.length : Int) := by omega
    clear hlen
    go_enter Tryz.func19, Tryz.ntmps19
    go_wp2
    go_ret
    exact ⟨ret_bool HNe.out.symm, Below.refl _ _⟩
set_option maxRecDepth 10000 in
set_option maxHeartbeats 1000000 in
theorem sameLists_any (xs : List (List Int)) (A B : Option Addr) (c d : Nat) (w : World) (hl : xs.length ≤ maxLen) (hn : ∀ x ∈ xs, x.length ≤ maxLen) (hA : Row (tSlice tInt) w (Old w) A xs) (hB : Row (tSlice tInt) w (Old w) B xs) :
    Calls Tryz.prog 20 #[.slice A xs.length c, .slice B xs.length d] w fun e w' => e = .returned (.bool true) ∧ Below w.heap.size w w' := by
  unfold maxLen at hl
  go_enter Tryz.func20, Tryz.ntmps20
  go_wp2
  go_loopw [5] (fun i wr => ∃ k : Nat, k ≤ xs.length ∧ i = .int .i64 k ∧ Below w.heap.size w wr) (fun i _ => xs.length - (intOf i).toNat)
  case atStart => exact ⟨0, Nat.zero_le _, rfl, Below.refl _ _⟩
  case round =>
    obtain ⟨k, hk, rfl, hb⟩ := hrel
    by_cases hlt : k < xs.length
    · have hi0 := hn xs[k] (List.getElem_mem hlt)
      obtain ⟨b, off, A3, c3, rfl, hbS, c0_, hi1, hi2, hi3⟩ := at_IntS hA hb hlt
      obtain ⟨b2, off2, A4, c4, rfl, hbS2, d0_, hj1, hj2, hj3⟩ := at_IntS hB hb hlt
      clear hA hB hn
      have HI := hide hi3; clear hi3; have HJ := hide hj3; clear hj3
      have hki : (k : Int) < (xs.length : Int) := by omega
      have HC := hide (fun n => sameInts_any xs[k] xs[k] A3 A4 c3 c4 (wr.drewN n) hi0 hi0 (HI.out.mono (w' := wr.drewN n) (S' := Old (wr.drewN n)) (fun _ h => h) (fun _ _ => rfl)) (HJ.out.mono (w' := wr.drewN n) (S' := Old (wr.drewN n)) (fun _ h => h) (fun _ _ => rfl)))
      generalize xs[k] = x at c0_ d0_ HC hi0
      rw [decide_eq_true (rfl : x = x)] at HC
      go_wp2
      go_still_tail 8, (by kernel_rfl)
      have hb2 : Below w.heap.size w wr.drew := hb.drew
      change wpList _ _ _ _ _ wr.drew
      have HC2 := hide (show Calls Tryz.prog 19 #[.slice A3 x.length c3, .slice A4 x.length c4] wr.drew fun e w' => e = .returned (.bool true) ∧ Below wr.drew.heap.size wr.drew w' from HC.out 1)
      generalize wr.drew = w2 at hb2 HC2 ⊢
      clear HC
      go_wp2_with (go_at_call 19; refine HC2.out.mono ?_; rintro e w' ⟨rfl, hb'⟩)
      go_roundw
      case rel => exact ⟨k + 1, by omega, by go_num, hb2.trans (hb'.mono hb2.size)⟩
      case measure => simp [intOf]; omega
    · clear hA hB hn
      go_wp2
      go_ret
      exact ⟨rfl, hb⟩
end Go.Proofs.YtjiobgfaohldhaaGreatDoor
namespace Go.Proofs.YtjiobgfaohldhaaGreatDoor
open Go.RowKit
set_option linter.unusedVariables false
set_option linter.unusedSimpArgs false

set_option maxRecDepth 10000 in
set_option maxHeartbeats 4000000 in
theorem lawFnVerO (bs : List Int) (A : Option Addr) (c : Nat) (w : World) (hm : bs.length ≤ maxLen) (hc : bs.length ≤ c) (hcm : c ≤ maxLen) (hA : Row tByte w (Old w) A bs) :
    Calls Tryz.prog 5 #[.slice A bs.length c] w fun e w' => e = .returned (.bool true) ∧ Below w.heap.size w w' := by
  have hq : bs.length ≤ 9223372036854775807 := by simpa [maxLen] using hm
  by_cases hl : bs.length ≤ 1048576
  · have HD := hide (drawVerdictOf bs A c w hl hc hcm hA)
    clear hA
    go_enter Tryz.func5, Tryz.ntmps5
    go_upto_region 4 with (go_at_call 16; refine HD.out.mono ?_; rintro e w1 ⟨xs, vx, rfl, hX, hx, hb1⟩; obtain ⟨Ax, cx, rfl, _, _, hx3⟩ := hx; have HX1 := hide hx3; have HS := hide hX; have HB1 := hide hb1; clear hx3 hX hb1)
    obtain ⟨hxm, hx20, hxo, hxn⟩ := HS.out.le
    have HBd := hide (verdD_bd xs HS.out.1)
    have HVi := hide (implVerdictOf xs Ax cx w1 hxm HX1.out)
    go_upto_region 5 with (go_at_call 17; refine HVi.out.mono ?_; rintro e w2 ⟨vo, vc, rfl, ho, hc2, hb2⟩; obtain ⟨Ao, co, rfl, _, _, ho3⟩ := ho.sl.fresh; obtain ⟨Ac, cc, rfl, _, _, hc3⟩ := hc2.sl.fresh; have HO2 := hide ho3; have HC2 := hide hc3; have HX2 := hide (HX1.out.old hb2); have HB2 := hide (HB1.out.trans (hb2.mono HB1.out.size)); clear ho3 hc3 ho hc2 hb2)
    have hbz := (Below.refl w2.heap.size w2).alloc (Nat.le_refl _) (.cells #[.bool (verdD xs).Good, .slice Ao (verdD xs).Order.length co, .slice Ac (verdD xs).Cycles.length cc] 35)
    have HV3 := hide (Blk.new w2 35 #[.bool (verdD xs).Good, .slice Ao (verdD xs).Order.length co, .slice Ac (verdD xs).Cycles.length cc])
    have HX3 := hide (HX2.out.old hbz); have HO3 := hide (HO2.out.old hbz); have HC3 := hide (HC2.out.old hbz)
    have HB3 := hide (HB2.out.trans (hbz.mono HB2.out.size))
    clear hbz HX1 HX2 HO2 HC2 HD HB1 HB2 HVi
    generalize w2.alloc _ = w3 at HV3 HX3 HO3 HC3 HB3 ⊢
    generalize w2.heap.size = g3 at HV3 ⊢
    have HVs := hide (specVerdictOf xs Ax cx w3 hx20 hxn hxo HX3.out)
    go_upto_region 6 with (go_at_call 18; refine HVs.out.mono ?_; rintro e w4 ⟨vo, vc, rfl, ho, hc2, hb4⟩; obtain ⟨Ap, cp, rfl, _, _, ho3⟩ := ho.fresh; obtain ⟨Aq, cq, rfl, _, _, hc3⟩ := hc2.fresh; have HP4 := hide ho3; have HQ4 := hide hc3; have HX4 := hide (HX3.out.old hb4); have HO4 := hide (HO3.out.old hb4); have HC4 := hide (HC3.out.old hb4); have HV4 := hide (HV3.out.below hb4 HV3.out.lt); have HB4 := hide (HB3.out.trans (hb4.mono HB3.out.size)); clear ho3 hc3 ho hc2 hb4)
    have hbz := (Below.refl w4.heap.size w4).alloc (Nat.le_refl _) (.cells #[.bool (verdD xs).Good, .slice Ap (verdD xs).Order.length cp, .slice Aq (verdD xs).Cycles.length cq] 35)
    have HU5 := hide (Blk.new w4 35 #[.bool (verdD xs).Good, .slice Ap (verdD xs).Order.length cp, .slice Aq (verdD xs).Cycles.length cq])
    have HX5 := hide (HX4.out.old hbz); have HO5 := hide (HO4.out.old hbz); have HC5 := hide (HC4.out.old hbz); have HP5 := hide (HP4.out.old hbz); have HQ5 := hide (HQ4.out.old hbz)
    have HV5 := hide (HV4.out.below hbz HV4.out.lt)
    have HB5 := hide (HB4.out.trans (hbz.mono HB4.out.size))
    clear hbz HX3 HX4 HO3 HO4 HC3 HC4 HP4 HQ4 HV3 HV4 HB3 HB4 HVs
    generalize w4.alloc _ = w5 at HU5 HX5 HO5 HC5 HP5 HQ5 HV5 HB5 ⊢
    generalize w4.heap.size = g5 at HU5 ⊢
    have x0 := HV5.out.cell 0; have x1 := HV5.out.cell 1; have y0 := HU5.out.cell 0; have y1 := HU5.out.cell 1
    simp only [List.getElem?_toArray, List.getElem?_cons_zero, List.getElem?_cons_succ] at x0 x1 y0 y1
    have hgg : ((verdD xs).Good != (verdD xs).Good) = false := by simp
    have hoo : ((verdO xs).isSome != (verdO xs).isSome) = false := by simp
    have HSi := hide (sameInts_any (verdD xs).Order (verdD xs).Order Ao Ap co cp w5 (by have := HBd.out.1; simp only [maxLen]; omega) (by have := HBd.out.1; simp only [maxLen]; omega) HO5.out HP5.out)
    rw [decide_eq_true rfl] at HSi
    have HSl := hide (fun (W : World) (hb : Below w5.heap.size w5 W) => sameLists_any (verdD xs).Cycles Ac Aq cc cq W (by have := HBd.out.2.1; simp only [maxLen]; omega) (fun x hx => by have := HBd.out.2.2 x hx; simp only [maxLen]; omega) (HC5.out.old hb) (HQ5.out.old hb))
    have HF := hide (fun (W : World) (hb : Below w5.heap.size w5 W) => implFindSerial xs Ax cx W hxm (HX5.out.old hb))
    have HVR := hide (fun (W : World) (hb : Below w5.heap.size w5 W) => implVerdictRight xs (verdD xs).Good (verdD xs).Order (verdD xs).Cycles Ax Ao Ac cx co cc W hxm (by have := HBd.out.1; omega) (by have := HBd.out.2.1; omega) (fun x hx => by have := HBd.out.2.2 x hx; omega) (HX5.out.old hb) (HO5.out.old hb) (HC5.out.old hb))
    have hq1 : (verdD xs).Order.length ≤ 9223372036854775807 := by have := HBd.out.1; omega
    have hq2 : (verdD xs).Cycles.length ≤ 9223372036854775807 := by have := HBd.out.2.1; omega
    clear HX5 HO5 HC5 HP5 HQ5
    cases hv : verdO xs with
    | none =>
      have hvd : verdD xs = ⟨false, [], []⟩ := by unfold verdD; rw [hv]; rfl
      rw [hvd] at x0 x1 y0 y1 hgg HSi HSl HV5 HU5 ⊢
      rw [hv] at hoo
      go_upto_region 9 with (first | (go_at_call 19; refine HSi.out.mono ?_; rintro e w6 ⟨rfl, hb6⟩; have HB6 := hide hb6; have x2 := (HV5.out.below hb6 HV5.out.lt).cell 2; have y2 := (HU5.out.below hb6 HU5.out.lt).cell 2; simp only [List.getElem?_toArray, List.getElem?_cons_zero, List.getElem?_cons_succ] at x2 y2; clear hb6) | (go_at_call 20; refine (HSl.out w6 HB6.out).mono ?_; rintro e w7 ⟨rfl, hb7⟩; have HB7 := hide (HB6.out.trans (hb7.mono HB6.out.size)); have hV7 := HV5.out.below HB7.out HV5.out.lt; have z0 := hV7.cell 0; have z1 := hV7.cell 1; have z2 := hV7.cell 2; simp only [List.getElem?_toArray, List.getElem?_cons_zero, List.getElem?_cons_succ] at z0 z1 z2; clear hb7 hV7))
      go_wp2_with (go_at_call 9; refine (alive_any w7).mono ?_; rintro e w8 ⟨rfl, hb8⟩; have HB8 := hide (HB5.out.trans ((HB7.out.trans (hb8.mono HB7.out.size)).mono HB5.out.size)); clear hb8)
      go_ret
      exact ⟨rfl, HB8.out⟩
    | some v =>
      have hvd : verdD xs = v := by unfold verdD; rw [hv]; rfl
      have HL := hide (verdO_law hv)
      have HG := hide (verdO_good hv)
      rw [hvd] at x0 x1 y0 y1 hgg HSi HSl HV5 HU5 HVR hq1 hq2 ⊢
      rw [show verdB xs ⟨v.Good, v.Order, v.Cycles⟩ = true from HL.out] at HVR
      rw [hv] at hoo
      go_upto_region 10 with (first | (go_at_call 19; refine HSi.out.mono ?_; rintro e w6 ⟨rfl, hb6⟩; have HB6 := hide hb6; have x2 := (HV5.out.below hb6 HV5.out.lt).cell 2; have y2 := (HU5.out.below hb6 HU5.out.lt).cell 2; simp only [List.getElem?_toArray, List.getElem?_cons_zero, List.getElem?_cons_succ] at x2 y2; clear hb6) | (go_at_call 20; refine (HSl.out w6 HB6.out).mono ?_; rintro e w7 ⟨rfl, hb7⟩; have HB7 := hide (HB6.out.trans (hb7.mono HB6.out.size)); clear hb7))
      clear x0 x1 y0 y1
      go_wp2_with (first | (go_at_call 10; refine (HF.out w7 HB7.out).mono ?_; rintro e w8 ⟨v8, rfl, hT, hb8⟩; have HB8 := hide (HB7.out.trans (hb8.mono HB7.out.size)); have hV8 := HV5.out.below HB8.out HV5.out.lt; have z0 := hV8.cell 0; have z1 := hV8.cell 1; have z2 := hV8.cell 2; simp only [List.getElem?_toArray, List.getElem?_cons_zero, List.getElem?_cons_succ] at z0 z1 z2; clear hb8 hV8 hT) | (go_at_call 14; refine (HVR.out w8 HB8.out).mono ?_; rintro e w9 ⟨rfl, hb9⟩; have u0 := (HV5.out.below (HB8.out.trans (hb9.mono HB8.out.size)) HV5.out.lt).cell 0; simp only [List.getElem?_toArray, List.getElem?_cons_zero, List.getElem?_cons_succ] at u0; have HB9 := hide (HB5.out.trans ((HB8.out.trans (hb9.mono HB8.out.size)).mono HB5.out.size)); clear hb9))
      go_ret
      exact ⟨ret_bool (by rw [HG.out]; simp), HB9.out⟩
  · clear hA
    go_enter Tryz.func5, Tryz.ntmps5
    go_wp2_with fail
    go_ret
    exact ⟨rfl, Below.refl _ _⟩
end Go.Proofs.YtjiobgfaohldhaaGreatDoor
namespace Go.Proofs.YtjiobgfaohldhaaGreatDoor
open Go.RowKit Go.ChangeShapes Go.WideShapes Go.Deep
section
variable {H : Type} {enc : TypeId × Value → H} {P : Program} {w : World} {base : Nat} {spare : Nat → Bool} {held : Bool}
theorem elemByte {e : TypeId} (he : P.underlying e = some (.int .u8)) : ∀ n cs y, DataW.trod enc P w base spare held n e cs = some y → ∃ x, tByte.rel w (Old w) x cs := fun _ _ _ h => by
  obtain ⟨n, rfl, _, hw⟩ := DataW.trod_int he h
  have hmin : IntKind.u8.min = 0 := rfl
  have hmax : IntKind.u8.max = 255 := rfl
  simp only [Lit.wf, Bool.and_eq_true, decide_eq_true_eq] at hw
  exact ⟨n, rfl, by omega, by omega⟩
end
end Go.Proofs.YtjiobgfaohldhaaGreatDoor
