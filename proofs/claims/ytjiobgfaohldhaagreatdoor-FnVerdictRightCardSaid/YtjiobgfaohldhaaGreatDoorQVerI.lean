/- The text of an operation; alive. The draws that hand back a history alone. Small words for laws over drawn histories. DrawVerdictRight: some history, and some verdict. The program's ordersIn; the facts of a drawn region in which one call makes a row. -/
import Derived.Test.YtjiobgfaohldhaaGreatDoorQToB
import Derived.Test.YtjiobgfaohldhaaGreatDoorQBuild
import Derived.Test.YtjiobgfaohldhaaGreatDoorQHistD
import Derived.Test.YtjiobgfaohldhaaGreatDoorQVerO3
import Derived.Test.YtjiobgfaohldhaaGreatDoorQPutN
import Derived.Test.YtjiobgfaohldhaaGreatDoorQAllI
import Derived.Deep.RegionHeld3
import Derived.WalkLawsBesides
namespace Go.Proofs.YtjiobgfaohldhaaGreatDoor
open Go.RowKit
set_option linter.unusedVariables false
set_option linter.unusedSimpArgs false

def digitsS : ByteArray := { data := #[48, 49, 50, 51, 52, 53, 54, 55, 56, 57, 97, 98, 99, 100, 101, 102, 103, 104, 105, 106, 107, 108, 109, 110, 111, 112, 113, 114, 115, 116, 117, 118, 119, 120, 121, 122] }
theorem itoa_digit (n : Nat) (hn : n < 10) (w : World) :
    Calls Tryz.prog 60 #[.int .i64 n] w fun e w' => e = .returned (.string (digitsS.extract n (n + 1))) ∧ w = w' := by
  have h1 : (0 : Int) ≤ (n : Int) := by omega
  have h2 : (n : Int) < 100 := by omega
  have h3 : (n : Int) < 10 := by omega
  go_enter Tryz.func60, Tryz.ntmps60
  go_wp2
  go_ret
  exact ⟨rfl, rfl⟩

def smallsS : ByteArray := { data := #[48, 48, 48, 49, 48, 50, 48, 51, 48, 52, 48, 53, 48, 54, 48, 55, 48, 56, 48, 57, 49, 48, 49, 49, 49, 50, 49, 51, 49, 52, 49, 53, 49, 54, 49, 55, 49, 56, 49, 57, 50, 48, 50, 49, 50, 50, 50, 51, 50, 52, 50, 53, 50, 54, 50, 55, 50, 56, 50, 57, 51, 48, 51, 49, 51, 50, 51, 51, 51, 52, 51, 53, 51, 54, 51, 55, 51, 56, 51, 57, 52, 48, 52, 49, 52, 50, 52, 51, 52, 52, 52, 53, 52, 54, 52, 55, 52, 56, 52, 57, 53, 48, 53, 49, 53, 50, 53, 51, 53, 52, 53, 53, 53, 54, 53, 55, 53, 56, 53, 57, 54, 48, 54, 49, 54, 50, 54, 51, 54, 52, 54, 53, 54, 54, 54, 55, 54, 56, 54, 57, 55, 48, 55, 49, 55, 50, 55, 51, 55, 52, 55, 53, 55, 54, 55, 55, 55, 56, 55, 57, 56, 48, 56, 49, 56, 50, 56, 51, 56, 52, 56, 53, 56, 54, 56, 55, 56, 56, 56, 57, 57, 48, 57, 49, 57, 50, 57, 51, 57, 52, 57, 53, 57, 54, 57, 55, 57, 56, 57, 57] }
def itoaS (n : Nat) : ByteArray := if n < 10 then digitsS.extract n (n + 1) else smallsS.extract (n * 2) (n * 2 + 2)
set_option maxRecDepth 20000 in
theorem itoa_any (n : Nat) (hn : n < 100) (w : World) :
    Calls Tryz.prog 60 #[.int .i64 n] w fun e w' => e = .returned (.string (itoaS n)) ∧ w = w' := by
  by_cases h : n < 10
  · unfold itoaS; rw [if_pos h]; exact itoa_digit n h w
  · have HI := hide (show itoaS n = smallsS.extract (n * 2) (n * 2 + 2) by unfold itoaS; rw [if_neg h])
    have h1 : (0 : Int) ≤ (n : Int) := by omega
    have h2 : (n : Int) < 100 := by omega
    have h3 : ¬ (n : Int) < 10 := by omega
    go_enter Tryz.func60, Tryz.ntmps60
    go_wp2
    go_ret
    exact ⟨by rw [HI.out]; rfl, rfl⟩
theorem extract_size (s : ByteArray) (a b : Nat) : (s.extract a b).size ≤ b - a := by rw [ByteArray.size_extract]; omega
theorem itoaS_size (n : Nat) : (itoaS n).size ≤ 2 := by
  unfold itoaS
  split
  · have := extract_size digitsS n (n + 1); omega
  · have := extract_size smallsS (n * 2) (n * 2 + 2); omega
def letterS (o : Op) : ByteArray := if o.Kind == 2 then { data := #[119] } else { data := #[114] }
set_option maxHeartbeats 400000 in
theorem letter_any (o : Op) (w : World) : Calls Tryz.prog 59 #[.agg #[.int .i64 o.Kind, .int .i64 o.Key, .int .i64 o.Value]] w fun e w' => e = .returned (.string (letterS o)) ∧ Below w.heap.size w w' := by
  have HC := hide (fun W => writes_any o W)
  have HB := hide ((Below.refl _ w).alloc (Nat.le_refl _) (.cells #[.int .i64 o.Kind, .int .i64 o.Key, .int .i64 o.Value] 50))
  have HL := hide (show letterS o = if o.Kind == 2 then { data := #[119] } else { data := #[114] } from rfl)
  cases hq : (o.Kind == 2) with
  | true =>
    rw [hq] at HC HL
    clear hq
    go_enter Tryz.func59, Tryz.ntmps59
    go_wp2_with (go_at_call 109; refine (HC.out _).mono ?_; rintro e w' ⟨rfl, hb⟩; have HB2 := hide (HB.out.trans (hb.mono (by simp))); clear hb)
    go_ret
    exact ⟨by rw [HL.out]; rfl, HB2.out⟩
  | false =>
    rw [hq] at HC HL
    clear hq
    go_enter Tryz.func59, Tryz.ntmps59
    go_wp2_with (go_at_call 109; refine (HC.out _).mono ?_; rintro e w' ⟨rfl, hb⟩; have HB2 := hide (HB.out.trans (hb.mono (by simp))); clear hb)
    go_ret
    exact ⟨by rw [HL.out]; rfl, HB2.out⟩

theorem letterS_size (o : Op) : (letterS o).size = 1 := by unfold letterS; split <;> rfl
/-- The text of an operation. -/
def opText (o : Op) : ByteArray := if opOk o then letterS o ++ itoaS o.Key.toNat ++ { data := #[61] } ++ itoaS o.Value.toNat else { data := #[] }
set_option maxRecDepth 10000 in
set_option maxHeartbeats 2000000 in
theorem opText_any (o : Op) (w : World) : Calls Tryz.prog 26 #[.agg #[.int .i64 o.Kind, .int .i64 o.Key, .int .i64 o.Value]] w fun e w' => e = .returned (.string (opText o)) ∧ Below w.heap.size w w' := by
  have HV := hide (fun W => opValid_any o W)
  have HB := hide ((Below.refl _ w).alloc (Nat.le_refl _) (.cells #[.int .i64 o.Kind, .int .i64 o.Key, .int .i64 o.Value] 50))
  cases q1 : opOk o with
  | false =>
    have HO := hide (show opText o = { data := #[] } by unfold opText; rw [q1]; rfl)
    rw [q1] at HV
    clear q1
    go_enter Tryz.func26, Tryz.ntmps26
    go_wp2_with (go_at_call 58; refine (HV.out _).mono ?_; rintro e w1 ⟨rfl, hb1⟩; have HB := hide (HB.out.trans (hb1.mono HB.out.size)); clear hb1)
    go_ret
    exact ⟨by rw [HO.out]; rfl, HB.out⟩
  | true =>
    have HO := hide (show opText o = letterS o ++ itoaS o.Key.toNat ++ { data := #[61] } ++ itoaS o.Value.toNat by unfold opText; rw [q1]; rfl)
    have HL := hide (fun W => letter_any o W)
    have hls := letterS_size o
    generalize hL : letterS o = L at HO HL hls
    clear hL
    have hq := q1
    unfold opOk at hq
    simp only [Bool.and_eq_true, inR_iff] at hq
    obtain ⟨⟨⟨_, hk0, hk1⟩, hv0, hv1⟩, _⟩ := hq
    rw [q1] at HV
    clear q1
    generalize hK : o.Kind = Kd at HV HL HB ⊢
    obtain ⟨k, hk⟩ : ∃ k : Nat, o.Key = (k : Int) := ⟨o.Key.toNat, by omega⟩
    obtain ⟨v, hv⟩ : ∃ v : Nat, o.Value = (v : Int) := ⟨o.Value.toNat, by omega⟩
    have HI1 := hide (fun W => itoa_any k (by omega) W)
    have HI2 := hide (fun W => itoa_any v (by omega) W)
    have hs1 := itoaS_size k
    have hs2 := itoaS_size v
    obtain ⟨N1, hN1⟩ : ∃ N, N = itoaS k := ⟨_, rfl⟩
    obtain ⟨N2, hN2⟩ : ∃ N, N = itoaS v := ⟨_, rfl⟩
    rw [← hN1] at HI1 hs1
    rw [← hN2] at HI2 hs2
    rw [show o.Key.toNat = k by omega, show o.Value.toNat = v by omega, ← hN1, ← hN2] at HO
    clear hN1 hN2
    have hadd1 : ∀ W, (Op.stringOp .add L N1).run Tryz.prog W = .ok (.string (L ++ N1)) W := fun W => run_string_add_sum _ _ _ (by omega)
    have hadd2 : ∀ W, (Op.stringOp .add (L ++ N1) { data := #[61] }).run Tryz.prog W = .ok (.string (L ++ N1 ++ { data := #[61] })) W := fun W => run_string_add_sum _ _ _ (by rw [ByteArray.size_append]; have : ({ data := #[61] } : ByteArray).size = 1 := rfl; omega)
    have hadd3 : ∀ W, (Op.stringOp .add (L ++ N1 ++ { data := #[61] }) N2).run Tryz.prog W = .ok (.string (L ++ N1 ++ { data := #[61] } ++ N2)) W := fun W => run_string_add_sum _ _ _ (by rw [ByteArray.size_append, ByteArray.size_append]; have : ({ data := #[61] } : ByteArray).size = 1 := rfl; omega)
    rw [hk, hv] at HV HL HB ⊢
    clear hk hv hk0 hk1 hv0 hv1 hK
    go_enter Tryz.func26, Tryz.ntmps26
    go_wp2_with (go_at_call 58; refine (HV.out _).mono ?_; rintro e w1 ⟨rfl, hb1⟩; have HB := hide (HB.out.trans (hb1.mono HB.out.size)); have z0 := (hb1.cell (p := ⟨w.heap.size, 0, none⟩) (by simp)).trans ((Blk.new w _ _).cell 0); have z1 := (hb1.cell (p := ⟨w.heap.size, 1, none⟩) (by simp)).trans ((Blk.new w _ _).cell 1); have z2 := (hb1.cell (p := ⟨w.heap.size, 2, none⟩) (by simp)).trans ((Blk.new w _ _).cell 2); have hz1 : w.heap.size < w1.heap.size := (by have := hb1.size; simp at this; omega); clear hb1)
    simp only [List.getElem?_toArray, List.getElem?_cons_zero, List.getElem?_cons_succ] at z0 z1 z2
    go_region_held3 (fun w' => w'.cell? ⟨w.heap.size, 0, none⟩ = some (.int .i64 Kd) ∧ w'.cell? ⟨w.heap.size, 1, none⟩ = some (.int .i64 k) ∧ w'.cell? ⟨w.heap.size, 2, none⟩ = some (.int .i64 v) ∧ Below w.heap.size w w')
      (first
        | ((try dsimp only); exact ⟨z0, z1, z2, HB.out.drew⟩)
        | ((try dsimp only); exact ⟨(HB2.out.cell (p := ⟨w.heap.size, 0, none⟩) hz1).trans z0, (HB2.out.cell (p := ⟨w.heap.size, 1, none⟩) hz1).trans z1, (HB2.out.cell (p := ⟨w.heap.size, 2, none⟩) hz1).trans z2, HB.out.drew.trans (HB2.out.mono HB.out.size)⟩)
        | go_keep)
      ((first
        | (go_at_call 59; refine (HL.out _).mono ?_; rintro e w2 ⟨rfl, hb2⟩; have HB2 := hide hb2)
        | (go_at_call 60; refine (HI1.out _).mono ?_; rintro e w' ⟨rfl, rfl⟩)
        | (go_at_call 60; refine (HI2.out _).mono ?_; rintro e w' ⟨rfl, rfl⟩)))
    have HBF := hide (show Below w.heap.size w w2 from HB.out.drew.trans (HB2.out.mono HB.out.size))
    go_wp2
    go_ret
    exact ⟨by rw [HO.out]; rfl, HBF.out⟩

set_option maxRecDepth 10000 in
theorem alive_any (w : World) : Calls Tryz.prog 9 #[] w fun e w' => e = .returned (.bool true) ∧ Below w.heap.size w w' := by
  have HC := hide (fun W => opText_any ⟨2, 0, 5⟩ W)
  have HT := hide (show opText ⟨2, 0, 5⟩ = { data := #[119, 48, 61, 53] } by decide +kernel)
  rw [HT.out] at HC
  go_enter Tryz.func9, Tryz.ntmps9
  go_wp2_with (go_at_call 26; refine (HC.out _).mono ?_; rintro e w1 ⟨rfl, hb1⟩)
  go_ret
  exact ⟨rfl, hb1⟩
def opsN20 (h : List Txn) : Nat := tot (fun x : Txn => x.Ops.length) h
/-- A history that is not too long. -/
def HistS (xs : List Txn) : Prop := xs.length ≤ 8 ∧ ∀ t ∈ xs, t.Ops.length ≤ 20
theorem HistS.ops {xs : List Txn} (h : HistS xs) : opsN20 xs ≤ 400 := by
  obtain ⟨h1, h2⟩ := h
  have : ∀ l : List Txn, (∀ t ∈ l, t.Ops.length ≤ 20) → opsN20 l ≤ 20 * l.length := by
    intro l
    induction l with
    | nil => intro _; simp [opsN20, tot]
    | cons t l ih =>
      intro h
      have h3 := ih (fun x hx => h x (List.mem_cons_of_mem _ hx))
      have h4 := h t List.mem_cons_self
      simp only [opsN20, tot, List.map_cons, List.sum_cons, List.length_cons] at h3 ⊢
      omega
  have := this xs h2
  omega
theorem Sl.fresh {α : Type} {T : Ty α} {w w' : World} {xs : List α} {v : Value} (h : Sl T w' (New w w') xs v) : ∃ A c, v = .slice A xs.length c ∧ xs.length ≤ c ∧ c ≤ maxLen ∧ Row T w' (Old w') A xs := by
  obtain ⟨A, c, rfl, hc, hm, hr⟩ := h
  exact ⟨A, c, rfl, hc, hm, hr.mono (fun b hb => hb.2) (fun _ _ => rfl)⟩
theorem HistS.le {xs : List Txn} (h : HistS xs) : xs.length ≤ maxLen ∧ xs.length ≤ 1048576 ∧ opsN20 xs ≤ 1048576 ∧ ∀ x ∈ xs, x.Ops.length ≤ 1048576 :=
  ⟨by have := h.1; simp only [maxLen]; omega, by have := h.1; omega, by have := h.ops; omega, fun x hx => by have := h.2 x hx; omega⟩
end Go.Proofs.YtjiobgfaohldhaaGreatDoor
namespace Go.Proofs.YtjiobgfaohldhaaGreatDoor
open Go.RowKit
set_option linter.unusedVariables false
set_option linter.unusedSimpArgs false

theorem wpList_appN {P : Program} {α : Type} (T : Ty α) {w : World} {ops : Array Oper} {rest : List Oper} {o : Oper} {a : Act} {Q : Exit → Act → World → Prop} (hgd : Region.wanted o (yielded ops a.tmps) = true) (s x : Operand) (t : TypeId)
    (ho : o.op = .call { callee := .builtin .append, args := #[s, x], argTypes := #[t, t] })
    (e : TypeId) (i : TypeInfo) (z : Value) (bytes : Nat) (ht : P.underlying t = some (.slice e)) (hi : P.info? e = some i) (hz : i.zero = some z)
    (hsize : i.size = T.size) (hby : i.bytes = bytes) (hzs : z.cells.size = T.size) (hsz : 0 < T.size)
    (S Sy S2 : Nat → Prop) (xs ys : List α) (v : Value) (hs : a.eval s = v) (hO : Own T e w S xs v) (A : Option Addr) (m c : Nat) (hx : a.eval x = .slice A m c) (hm : m = ys.length) (hy : RowAny T w Sy A ys)
    (h63 : xs.length + ys.length ≤ maxLen) (hbytes : (xs.length + ys.length) * bytes ≤ 140737488355328)
    (hSo : ∀ b, S b → Old w b) (hSy : ∀ b, Sy b → Old w b ∧ v.ownBlock ≠ some b) (h1 : ∀ b, S b → S2 b) (h2 : ∀ b, Sy b → S2 b) (h3 : S2 w.heap.size)
    (h : ∀ v' w', Own T e w' (fun b => S2 b ∧ Old w' b) (xs ++ ys) v' → w.grownBy w' v.ownBlock → (∀ b, v'.ownBlock = some b → v.ownBlock = some b ∨ b = w.heap.size) → wpList P ops Q rest (a.put o.dst v') w') : wpList P ops Q (o :: rest) a w :=
  BigFrame.wpList_want hgd fun _ hK => wp_appN T s x t ho e i z bytes ht hi hz hsize hby hzs hsz S Sy S2 xs ys v hs hO A m c hx hm hy h63 hbytes hSo hSy h1 h2 h3 fun v' w' h4 h5 h6 => hK _ _ (h v' w' h4 h5 h6)
theorem verdD_bd (h : List Txn) (hm : h.length ≤ 8) : (verdD h).Order.length ≤ 8 ∧ (verdD h).Cycles.length ≤ 200 ∧ ∀ x ∈ (verdD h).Cycles, x.length ≤ 7 := by
  unfold verdD verdO
  split
  · exact ⟨by simp, by simp, by simp⟩
  · split
    · rename_i o hf
      have hp := (findF_some hf).2.1.length_eq
      have h2 : (doneL h).length ≤ h.length := doneI_len h _
      exact ⟨by simp only [Option.getD_some]; omega, by simp, by simp⟩
    · refine ⟨by simp, ?_, ?_⟩
      · simp only [Option.getD_some]
        split
        · unfold cycsO; rw [List.length_map]; exact allO_len h
        · simp
      · simp only [Option.getD_some]
        split
        · intro x hx
          obtain ⟨os, _, rfl⟩ := List.mem_map.1 hx
          exact cycO_le7 _ _
        · simp
/-- The state of DrawVerdictRight: the verdict's variable g8, the reader R, the result's variable ahead of both. -/
structure VSt (w W : World) (R g8 : Nat) (xs : List Txn) (g : Bool) (o : List Int) (cs : List (List Int)) (vx vo vc : Value) : Prop where
  below : Below w.heap.size w W
  res : Blk W w.heap.size 35 #[.bool false, .slice none 0 0, .slice none 0 0]
  var : Blk W g8 35 #[.bool g, vo, vc]
  rr : w.heap.size < R
  rg : R < g8
  hS : Sl tTxn W (fun b => (R < b ∧ b ≠ g8) ∧ Old W b) xs vx
  oS : Sl tInt W (fun b => (R < b ∧ b ≠ g8) ∧ Old W b) o vo
  cS : Sl (tSlice tInt) W (fun b => (R < b ∧ b ≠ g8) ∧ Old W b) cs vc
  ol : o.length ≤ 100
  cl : cs.length ≤ 300
  cn : ∀ x ∈ cs, x.length ≤ 100
variable {w W W' : World} {R g8 : Nat} {xs : List Txn} {g : Bool} {o : List Int} {cs : List (List Int)} {vx vo vc : Value}
theorem VSt.keep (h : VSt w W R g8 xs g o cs vx vo vc) (hg : Gr W W' R) : VSt w W' R g8 xs g o cs vx vo vc := by
  have hz := hg.size
  have hst : ∀ b, ((R < b ∧ b ≠ g8) ∧ Old W b) → W'.heap[b]? = W.heap[b]? := fun b hb => hg.block b hb.2 (fun e => by injection e with e; have := hb.1.1; omega)
  have hup : ∀ b, ((R < b ∧ b ≠ g8) ∧ Old W b) → ((R < b ∧ b ≠ g8) ∧ Old W' b) := fun b hb => ⟨hb.1, Nat.lt_of_lt_of_le hb.2 hz⟩
  exact ⟨below_gr h.below hg h.below.size (Nat.le_of_lt h.rr), h.res.of (hg.block _ h.res.lt (fun e => by injection e with e; have := h.rr; omega)), h.var.of (hg.block _ h.var.lt (fun e => by injection e with e; have := h.rg; omega)), h.rr, h.rg, h.hS.mono hup hst, h.oS.mono hup hst, h.cS.mono hup hst, h.ol, h.cl, h.cn⟩
theorem Sl.set_ {α : Type} {T : Ty α} {W : World} {S : Nat → Prop} {ys : List α} {v : Value} (h : Sl T W (fun b => S b ∧ Old W b) ys v) {p : Addr} (hp : ¬ S p.block) (u : Value) : Sl T (W.setCell p u) (fun b => S b ∧ Old (W.setCell p u) b) ys v :=
  h.mono (fun b hb => ⟨hb.1, by have := hb.2; simpa [Old] using this⟩) (fun b hb => Below.heap_setCell _ _ _ _ (by rintro rfl; exact hp hb.1))
theorem VSt.set0 (h : VSt w W R g8 xs g o cs vx vo vc) (b : Bool) : VSt w (W.setCell ⟨g8, 0, none⟩ (.bool b)) R g8 xs b o cs vx vo vc :=
  ⟨h.below.setCell (by have := h.rr; have := h.rg; simp; omega) _, h.res.far (by have := h.rr; have := h.rg; simp; omega) _, h.var.set_ 0 _, h.rr, h.rg, h.hS.set_ (by simp) _, h.oS.set_ (by simp) _, h.cS.set_ (by simp) _, h.ol, h.cl, h.cn⟩
theorem VSt.set1 (h : VSt w W R g8 xs g o cs vx vo vc) {o' : List Int} {vo' : Value} (ho : Sl tInt W (fun b => (R < b ∧ b ≠ g8) ∧ Old W b) o' vo') (hl : o'.length ≤ 100) : VSt w (W.setCell ⟨g8, 1, none⟩ vo') R g8 xs g o' cs vx vo' vc :=
  ⟨h.below.setCell (by have := h.rr; have := h.rg; simp; omega) _, h.res.far (by have := h.rr; have := h.rg; simp; omega) _, h.var.set_ 1 _, h.rr, h.rg, h.hS.set_ (by simp) _, ho.set_ (by simp) _, h.cS.set_ (by simp) _, hl, h.cl, h.cn⟩
theorem VSt.set2 (h : VSt w W R g8 xs g o cs vx vo vc) {cs' : List (List Int)} {vc' : Value} (hc : Sl (tSlice tInt) W (fun b => (R < b ∧ b ≠ g8) ∧ Old W b) cs' vc') (hl : cs'.length ≤ 300) (hn : ∀ x ∈ cs', x.length ≤ 100) : VSt w (W.setCell ⟨g8, 2, none⟩ vc') R g8 xs g o cs' vx vo vc' :=
  ⟨h.below.setCell (by have := h.rr; have := h.rg; simp; omega) _, h.res.far (by have := h.rr; have := h.rg; simp; omega) _, h.var.set_ 2 _, h.rr, h.rg, h.hS.set_ (by simp) _, h.oS.set_ (by simp) _, hc.set_ (by simp) _, h.ol, hl, hn⟩
theorem sl_two (W : World) {S : Nat → Prop} (hS : S W.heap.size) : Sl tInt (W.alloc (.cells #[.int .i64 0, .int .i64 1] 3)) S [0, 1] (.slice (some ⟨W.heap.size, 0, none⟩) 2 2) :=
  ⟨_, 2, rfl, Nat.le_refl _, by simp [maxLen], fun _ => ⟨_, 0, rfl, hS, fun k hk => by
    have hk2 : k < 2 := by simpa using hk
    match k, hk2 with
    | 0, _ =>
      refine ⟨_, rfl, fun j u hu => ?_⟩
      rw [(Blk.new W _ _).cell]
      match j, hu with
      | 0, hu => exact hu
      | j + 1, hu => simp at hu
    | 1, _ =>
      refine ⟨_, rfl, fun j u hu => ?_⟩
      rw [(Blk.new W _ _).cell]
      match j, hu with
      | 0, hu => exact hu
      | j + 1, hu => simp at hu⟩⟩
def DrawnVR (w : World) (e : Ending) (w' : World) : Prop := ∃ (xs : List Txn) (g : Bool) (o : List Int) (cs : List (List Int)) (vx vo vc : Value), e = .returned (.tuple #[vx, .agg #[.bool g, vo, vc]]) ∧ HistS xs ∧ o.length ≤ 100 ∧ cs.length ≤ 300 ∧ (∀ x ∈ cs, x.length ≤ 100) ∧ Sl tTxn w' (Old w') xs vx ∧ Sl tInt w' (Old w') o vo ∧ Sl (tSlice tInt) w' (Old w') cs vc ∧ Below w.heap.size w w'
theorem VSt.drawn (h : VSt w W R g8 xs g o cs vx vo vc) {r0 r1 r2 : Value} :
    Sl tTxn (((W.setCell ⟨w.heap.size, 0, none⟩ r0).setCell ⟨w.heap.size, 1, none⟩ r1).setCell ⟨w.heap.size, 2, none⟩ r2).drew (Old (((W.setCell ⟨w.heap.size, 0, none⟩ r0).setCell ⟨w.heap.size, 1, none⟩ r1).setCell ⟨w.heap.size, 2, none⟩ r2).drew) xs vx ∧
    Sl tInt (((W.setCell ⟨w.heap.size, 0, none⟩ r0).setCell ⟨w.heap.size, 1, none⟩ r1).setCell ⟨w.heap.size, 2, none⟩ r2).drew (Old (((W.setCell ⟨w.heap.size, 0, none⟩ r0).setCell ⟨w.heap.size, 1, none⟩ r1).setCell ⟨w.heap.size, 2, none⟩ r2).drew) o vo ∧
    Sl (tSlice tInt) (((W.setCell ⟨w.heap.size, 0, none⟩ r0).setCell ⟨w.heap.size, 1, none⟩ r1).setCell ⟨w.heap.size, 2, none⟩ r2).drew (Old (((W.setCell ⟨w.heap.size, 0, none⟩ r0).setCell ⟨w.heap.size, 1, none⟩ r1).setCell ⟨w.heap.size, 2, none⟩ r2).drew) cs vc ∧
    Below w.heap.size w (((W.setCell ⟨w.heap.size, 0, none⟩ r0).setCell ⟨w.heap.size, 1, none⟩ r1).setCell ⟨w.heap.size, 2, none⟩ r2).drew := by
  have hp : ¬ (R < w.heap.size ∧ w.heap.size ≠ g8) := fun e => by have := h.rr; omega
  exact ⟨(((h.hS.set_ hp _).set_ hp _).set_ hp _).mono (fun b hb => hb.2) (fun _ _ => rfl), (((h.oS.set_ hp _).set_ hp _).set_ hp _).mono (fun b hb => hb.2) (fun _ _ => rfl), (((h.cS.set_ hp _).set_ hp _).set_ hp _).mono (fun b hb => hb.2) (fun _ _ => rfl), (((h.below.setCell (Nat.le_refl _) _).setCell (Nat.le_refl _) _).setCell (Nat.le_refl _) _).drew⟩
set_option maxRecDepth 10000 in
set_option maxHeartbeats 4000000 in
theorem drawVerdictRight (bs : List Int) (A : Option Addr) (c : Nat) (w : World) (hl : bs.length ≤ 1048576) (hc : bs.length ≤ c) (hcm : c ≤ maxLen) (hA : Row tByte w (Old w) A bs) :
    Calls Tryz.prog 13 #[.slice A bs.length c] w (DrawnVR w) := by
  obtain ⟨i0, hi0, hz00, hz01, hz02⟩ := info_parts infoInt_
  obtain ⟨i1, hi1, hz10, hz11, hz12⟩ := info_parts infoIntS_
  have HB0 := hide ((Below.refl _ w).alloc (Nat.le_refl _) (.cells #[.bool false, .slice none 0 0, .slice none 0 0] 35))
  have HX0 := hide (Blk.new w 35 #[.bool false, .slice none 0 0, .slice none 0 0])
  have HC := hide (open_any bs A c _ hl hc hcm (hA.old HB0.out))
  have hz0 : w.heap.size < (w.alloc (.cells #[.bool false, .slice none 0 0, .slice none 0 0] 35)).heap.size := by simp
  clear hA
  go_enter Tryz.func13, Tryz.ntmps13
  go_upto_region 1 with fail
  generalize w.alloc _ = W at HB0 HX0 HC hz0 ⊢
  go_upto_region 2 with (go_at_call 22; refine HC.out.mono ?_; rintro e w1 ⟨R, rfl, hR0, hr1, hb1⟩; have HB1 := hide hb1; have HR1 := hide hr1; have HRw := hide hR0; clear hb1 hr1 hR0 HC)
  have HX1 := hide (HX0.out.below HB1.out HX0.out.lt)
  have HBw := hide (HB0.out.trans (HB1.out.mono HB0.out.size))
  go_upto_region 3 with (go_at_call 21; refine (history_any _ R 0 4 12 HR1.out (by omega) (by omega) (by omega) (by omega)).mono ?_; rintro e w2 ⟨xs, v, rfl, hx, ho, hS, hr4, hg4⟩; have HX := hide (show HistS xs from ⟨hx, ho⟩); have HS2 := hide hS; have HR2 := hide hr4; have HG2 := hide hg4; clear hx ho hS hr4 hg4)
  obtain ⟨A2, c2, rfl, h21, h22, h23⟩ := HS2.out
  obtain ⟨hxm, hx20, hxo, hxn⟩ := HX.out.le
  have HVo := hide (specVerdictOf xs A2 c2 w2 hx20 hxn hxo (h23.mono (fun b hb => hb.2) (fun _ _ => rfl)))
  have HRl := hide HR1.out.lt
  have hRw : w.heap.size < R := by have := HRw.out; omega
  clear h23
  go_upto_region 4 with (go_at_call 18; refine HVo.out.mono ?_; rintro e w3 ⟨vo, vc, rfl, ho, hc, hb3⟩; have HO3 := hide ho; have HC3 := hide hc; have HB3 := hide hb3; obtain ⟨Ao, co, rfl, _, _, _⟩ := ho; obtain ⟨Ac, cc, rfl, _, _, _⟩ := hc; clear hb3)
  have HD := hide (verdD_bd xs HX.out.1)
  generalize (verdD xs).Good = g at HD ⊢
  generalize (verdD xs).Order = o at HD HO3 ⊢
  generalize (verdD xs).Cycles = cs at HD HC3 ⊢
  have hz2 := HG2.out.size
  have hz3 := HB3.out.size
  have HBw3 := hide ((below_gr HBw.out HG2.out HBw.out.size (Nat.le_of_lt hRw)).trans (HB3.out.mono (below_gr HBw.out HG2.out HBw.out.size (Nat.le_of_lt hRw)).size))
  have HV5 := hide (show VSt w (w3.alloc (.cells #[.bool g, .slice Ao o.length co, .slice Ac cs.length cc] 35)) R w3.heap.size xs g o cs (.slice A2 xs.length c2) (.slice Ao o.length co) (.slice Ac cs.length cc) from
    ⟨HBw3.out.alloc HBw3.out.size _, ((HX1.out.of (HG2.out.block _ HX1.out.lt (fun e => by injection e with e; omega))).below HB3.out (Nat.lt_of_lt_of_le HX1.out.lt hz2)).alloc _, Blk.new _ _ _, hRw, Nat.lt_of_lt_of_le HRl.out (Nat.le_trans hz2 hz3),
     HS2.out.mono (fun b hb => ⟨⟨Nat.lt_of_lt_of_le HRl.out hb.1, by have := hb.2; omega⟩, by have := hb.2; simp [Old]; omega⟩) (fun b hb => (Below.heap_alloc _ _ _ (Nat.lt_of_lt_of_le hb.2 hz3)).trans (HB3.out.block b hb.2)),
     HO3.out.mono (fun b hb => ⟨⟨Nat.lt_of_lt_of_le HRl.out (Nat.le_trans hz2 hb.1), by have := hb.2; omega⟩, by have := hb.2; simp [Old]; omega⟩) (fun b hb => Below.heap_alloc _ _ _ hb.2),
     HC3.out.mono (fun b hb => ⟨⟨Nat.lt_of_lt_of_le HRl.out (Nat.le_trans hz2 hb.1), by have := hb.2; omega⟩, by have := hb.2; simp [Old]; omega⟩) (fun b hb => Below.heap_alloc _ _ _ hb.2),
     by have := HD.out.1; omega, by have := HD.out.2.1; omega, fun x hx => by have := HD.out.2.2 x hx; omega⟩)
  have HR5 := hide ((HR2.out.below HB3.out).alloc (.cells #[.bool g, .slice Ao o.length co, .slice Ac cs.length cc] 35))
  generalize w3.alloc _ = W5 at HV5 HR5 ⊢
  have hg8 : R < w3.heap.size := HV5.out.rg
  generalize w3.heap.size = g8 at HV5 hg8 ⊢
  clear hz2 hz3 HBw3 HX1 HS2 HO3 HC3 HB3 HR2 HG2 HBw HX0 HB0 HB1 HR1
  go_upto_region 5 with (go_at_call 34; refine (odd_any W5 R _ 3 HR5.out (by omega) (by omega)).mono ?_; rintro e w6 ⟨b6, rfl, hr6, hg6⟩; have HV6 := hide (HV5.out.keep hg6); have HR6 := hide hr6; clear hr6 hg6)
  · go_upto_region 7 with (go_at_call 35; refine (pick_any w6 R _ 4 HR6.out (by omega)).mono ?_; rintro e w7 ⟨m, rfl, hm0, hm4, hr7, hg7⟩; have HV7 := hide (HV6.out.keep hg7); have hm4 := hm4 (by omega); clear hr7 hg7)
    have r0 := HV7.out.res.cell 0; have r1 := HV7.out.res.cell 1; have r2 := HV7.out.res.cell 2; have v0 := HV7.out.var.cell 0; have v1 := HV7.out.var.cell 1; have v2 := HV7.out.var.cell 2; have f0 := HV7.out.var.frozen 0; have f1 := HV7.out.var.frozen 1; have f2 := HV7.out.var.frozen 2
    simp only [List.getElem?_toArray, List.getElem?_cons_zero, List.getElem?_cons_succ] at r0 r1 r2 v0 v1 v2
    have hgl := HV7.out.var.lt
    have hm : m = 0 ∨ m = 1 ∨ m = 2 ∨ m = 3 := by omega
    clear hm0 hm4
    rcases hm with rfl | rfl | rfl | rfl
    · go_upto_region 13 with fail
      have HVe := hide (HV7.out.set0 (!g))
      clear r0 r1 r2 v0 v1 v2 f0 f1 f2
      generalize w7.setCell _ _ = we at HVe ⊢
      have r0 := HVe.out.res.cell 0; have r1 := HVe.out.res.cell 1; have r2 := HVe.out.res.cell 2; have q0 := HVe.out.res.frozen 0; have q1 := HVe.out.res.frozen 1; have q2 := HVe.out.res.frozen 2; have v0 := HVe.out.var.cell 0; have v1 := HVe.out.var.cell 1; have v2 := HVe.out.var.cell 2
      simp only [List.getElem?_toArray, List.getElem?_cons_zero, List.getElem?_cons_succ] at r0 r1 r2 v0 v1 v2
      have hlr := HVe.out.res.lt
      go_region
      go_wp2_with fail
      refine bodyPost_ret (v := .tuple #[.slice A2 xs.length c2, .agg #[.bool (!g), .slice Ao o.length co, .slice Ac cs.length cc]]) (by simp [results, Tryz.results13, go_sem, r0, r1, r2]) rfl ?_
      have hd := HVe.out.drawn (r0 := .bool (!g)) (r1 := .slice Ao o.length co) (r2 := .slice Ac cs.length cc)
      exact ⟨xs, !g, _, _, _, _, _, rfl, HX.out, HVe.out.ol, HVe.out.cl, HVe.out.cn, hd⟩
    · have HO0 := hide (Own.empty (T := tInt) (e := 3) w7 (fun b => w7.heap.size ≤ b) (Nat.le_refl _))
      have HRo := hide ((HV7.out.oS.row.mono (w' := w7.alloc (.cells #[] 3)) (S' := fun _ => True) (fun _ _ => trivial) (fun b hb => Below.heap_alloc _ _ _ hb.2)).anyInt)
      have hol := HV7.out.ol
      have hqo : o.length ≤ 9223372036854775807 := by omega
      clear v0 v2 f0 f2
      go_upto_region 13 with (first | (at_builtin; refine wpList_cat tInt rfl (.tmp 30) (.tmp 32) 27 rfl 3 i0 _ 8 Tryz.underlying27 hi0 hz00 hz01 hz02 rfl (by decide) (fun b => w7.heap.size ≤ b) (fun _ => False) [] o _ rfl HO0.out Ao _ co rfl rfl HRo.out (fun _ h => h.elim) (fun b hb => Nat.le_trans (by simp) hb) (by simp only [maxLen, List.length_nil]; omega) (by simp only [List.length_nil]; omega) ?_; intro v8 w8 hO_ hK_; have HO8 := hide (show Own tInt 3 w8 (fun b => w7.heap.size ≤ b ∧ Old w8 b) o v8 from hO_); have HB8 := hide (show Below w7.heap.size w7 w8 from ((Only.of_alloc (K := fun b => w7.heap.size ≤ b) w7 (.cells #[] 3)).trans hK_).below); clear hO_ hK_) | (at_builtin; refine wpList_put tInt rfl (.tmp 33) (.tmp 34) 27 rfl 3 i0 _ 8 Tryz.underlying27 hi0 hz00 hz01 hz02 rfl (by decide) (fun b => w7.heap.size ≤ b) (fun _ => False) o 0 [.int .i64 0] v8 rfl HO8.out _ rfl rfl (fun _ h => h.elim) (fun b hb => Nat.le_trans HB8.out.size hb) (by simp only [maxLen]; omega) (by omega) ?_; intro v9 w9 hO_ hK_; have HO9 := hide hO_; have HB9 := hide (show Below w7.heap.size w7 w9 from below_only HB8.out hK_ HB8.out.size (fun i hi => hi)); obtain ⟨A9, n9, c9, hv9, hn9⟩ : ∃ A n c, v9 = .slice A n c ∧ n = (o ++ [0]).length := (by obtain ⟨A, c, h, _⟩ := HO9.out.sl; exact ⟨A, _, c, h, rfl⟩); subst hv9; have HN9 := hide hn9; have HV9 := hide (HV7.out.keep (Gr.of_below HB9.out)); have y1 := HV9.out.var.cell 1; have g1 := HV9.out.var.frozen 1; simp only [List.getElem?_toArray, List.getElem?_cons_zero, List.getElem?_cons_succ] at y1; clear hO_ hK_ hn9))
      have HVe := hide (HV9.out.set1 (o' := o ++ [0]) (vo' := .slice A9 n9 c9) (HO9.out.sl.mono (fun b hb => ⟨(show R < b ∧ b ≠ g8 from by have h1 : w7.heap.size ≤ b := hb.1; constructor <;> omega), hb.2⟩) (fun _ _ => rfl)) (by rw [List.length_append]; have := HD.out.1; simp; omega))
      clear r0 r1 r2 v1 f1 y1 g1
      generalize World.setCell _ _ _ = we at HVe ⊢
      have r0 := HVe.out.res.cell 0; have r1 := HVe.out.res.cell 1; have r2 := HVe.out.res.cell 2; have q0 := HVe.out.res.frozen 0; have q1 := HVe.out.res.frozen 1; have q2 := HVe.out.res.frozen 2; have v0 := HVe.out.var.cell 0; have v1 := HVe.out.var.cell 1; have v2 := HVe.out.var.cell 2
      simp only [List.getElem?_toArray, List.getElem?_cons_zero, List.getElem?_cons_succ] at r0 r1 r2 v0 v1 v2
      have hlr := HVe.out.res.lt
      go_region
      go_wp2_with fail
      refine bodyPost_ret (v := .tuple #[.slice A2 xs.length c2, .agg #[.bool (g), .slice A9 n9 c9, .slice Ac cs.length cc]]) (by simp [results, Tryz.results13, go_sem, r0, r1, r2]) rfl ?_
      have hd := HVe.out.drawn (r0 := .bool (g)) (r1 := .slice A9 n9 c9) (r2 := .slice Ac cs.length cc)
      exact ⟨xs, g, _, _, _, _, _, rfl, HX.out, HVe.out.ol, HVe.out.cl, HVe.out.cn, hd⟩
    · have HO0 := hide (Own.empty (T := tSlice tInt) (e := 27) w7 (fun b => w7.heap.size ≤ b) (Nat.le_refl _))
      have HRc := hide ((HV7.out.cS.row.mono (w' := w7.alloc (.cells #[] 27)) (S' := fun b => (R < b ∧ b ≠ g8) ∧ Old w7 b) (fun _ h => h) (fun b hb => Below.heap_alloc _ _ _ hb.2)).any)
      have hcl := HV7.out.cl
      have hqc : cs.length ≤ 9223372036854775807 := by omega
      clear v0 v1 f0 f1
      go_upto_region 13 with (first | (at_builtin; refine wpList_appN (tSlice tInt) rfl (.tmp 39) (.tmp 41) 31 rfl 27 i1 _ 24 Tryz.underlying31 hi1 hz10 hz11 hz12 rfl (by decide) (fun b => w7.heap.size ≤ b ∧ Old (w7.alloc (.cells #[] 27)) b) (fun b => (R < b ∧ b ≠ g8) ∧ Old w7 b) (fun b => R < b ∧ b ≠ g8) [] cs _ rfl HO0.out Ac _ cc rfl rfl HRc.out (by simp only [maxLen, List.length_nil]; omega) (by simp only [List.length_nil]; omega) (fun b h => h.2) (fun b hb => ⟨Nat.lt_of_lt_of_le hb.2 (by simp), fun e => by have h1 := own_ge (B := w7.heap.size) HO0.out (fun b h => h.1) b e; have h2 : b < w7.heap.size := hb.2; omega⟩) (fun b h => by have h1 : w7.heap.size ≤ b := h.1; constructor <;> omega) (fun b hb => hb.1) (by simp; omega) ?_; intro v8 w8 hO_ hg_ hN_; have HO8 := hide (show Own (tSlice tInt) 27 w8 (fun b => (R < b ∧ b ≠ g8) ∧ Old w8 b) cs v8 from hO_); have HB8 := hide (show Below w7.heap.size w7 w8 from ((Below.refl _ w7).alloc (Nat.le_refl _) (.cells #[] 27)).grown hg_ (by simp) (fun k hk => own_ge (B := w7.heap.size) HO0.out (fun b h => h.1) k hk)); have HN8 := hide (show ∀ b, v8.ownBlock = some b → w7.heap.size ≤ b from fun b hb => by rcases hN_ b hb with h | h; exact own_ge (B := w7.heap.size) HO0.out (fun b h => h.1) b h; rw [h]; simp); have HZ8 := hide HB8.out.size; clear hO_ hg_ hN_) | (at_builtin; refine wpList_putN (tSlice tInt) (w := w8.alloc (.cells #[.int .i64 0, .int .i64 1] 3)) rfl (.tmp 42) (.tmp 44) 31 rfl 27 i1 _ 24 Tryz.underlying31 hi1 hz10 hz11 hz12 rfl (by decide) (fun b => R < b ∧ b ≠ g8) (fun b => b = w8.heap.size) cs [0, 1] [.slice (some ⟨w8.heap.size, 0, none⟩) 2 2] v8 rfl (HO8.out.mono (fun b hb => ⟨hb.1, Nat.lt_of_lt_of_le hb.2 (by simp)⟩) (fun b hb => Below.heap_alloc _ _ _ hb.2)) 1 (by simp [Act.eval, Act.put]) ⟨_, rfl, sl_two w8 rfl⟩ (fun b hb => by subst hb; refine ⟨by have := HZ8.out; constructor <;> omega, by simp [Old], fun e => ?_⟩; have := own_lt (B := w8.heap.size) HO8.out (fun b h => h.2) _ e; omega) (fun b hb => by have := HZ8.out; simp at hb; constructor <;> omega) (by simp only [maxLen]; omega) (by omega) ?_; intro v9 w9 hO_ hK_ hN_; have HO9 := hide hO_; have HB9 := hide (show Below w7.heap.size w7 w9 from below_only (HB8.out.alloc HB8.out.size _) hK_ (Nat.le_trans HB8.out.size (by simp)) (fun i hi => HN8.out i hi)); obtain ⟨A9, n9, c9, hv9, hn9⟩ : ∃ A n c, v9 = .slice A n c ∧ n = (cs ++ [[0, 1]]).length := (by obtain ⟨A, c, h, _⟩ := HO9.out.sl; exact ⟨A, _, c, h, rfl⟩); subst hv9; have HN9 := hide hn9; have HV9 := hide (HV7.out.keep (Gr.of_below HB9.out)); have y2 := HV9.out.var.cell 2; have g2 := HV9.out.var.frozen 2; simp only [List.getElem?_toArray, List.getElem?_cons_zero, List.getElem?_cons_succ] at y2; clear hO_ hK_ hn9 hN_))
      have HVe := hide (HV9.out.set2 (cs' := cs ++ [[0, 1]]) (vc' := .slice A9 n9 c9) (HO9.out.sl) (by rw [List.length_append]; have := HD.out.2.1; simp; omega) (fun x hx => by rcases List.mem_append.1 hx with hx | hx; exact HV7.out.cn x hx; simp at hx; subst hx; simp))
      clear r0 r1 r2 v2 f2 y2 g2
      generalize World.setCell _ _ _ = we at HVe ⊢
      have r0 := HVe.out.res.cell 0; have r1 := HVe.out.res.cell 1; have r2 := HVe.out.res.cell 2; have q0 := HVe.out.res.frozen 0; have q1 := HVe.out.res.frozen 1; have q2 := HVe.out.res.frozen 2; have v0 := HVe.out.var.cell 0; have v1 := HVe.out.var.cell 1; have v2 := HVe.out.var.cell 2
      simp only [List.getElem?_toArray, List.getElem?_cons_zero, List.getElem?_cons_succ] at r0 r1 r2 v0 v1 v2
      have hlr := HVe.out.res.lt
      go_region
      go_wp2_with fail
      refine bodyPost_ret (v := .tuple #[.slice A2 xs.length c2, .agg #[.bool (g), .slice Ao o.length co, .slice A9 n9 c9]]) (by simp [results, Tryz.results13, go_sem, r0, r1, r2]) rfl ?_
      have hd := HVe.out.drawn (r0 := .bool (g)) (r1 := .slice Ao o.length co) (r2 := .slice A9 n9 c9)
      exact ⟨xs, g, _, _, _, _, _, rfl, HX.out, HVe.out.ol, HVe.out.cl, HVe.out.cn, hd⟩
    · go_upto_region 13 with fail
      have HVe := hide (((HV7.out.set0 false).set1 (o' := []) (vo' := .slice none 0 0) slv_nil (by simp)).set2 (cs' := []) (vc' := .slice none 0 0) slv_nil (by simp) (by simp))
      clear r0 r1 r2 v0 v1 v2 f0 f1 f2
      generalize World.setCell _ _ _ = we at HVe ⊢
      have r0 := HVe.out.res.cell 0; have r1 := HVe.out.res.cell 1; have r2 := HVe.out.res.cell 2; have q0 := HVe.out.res.frozen 0; have q1 := HVe.out.res.frozen 1; have q2 := HVe.out.res.frozen 2; have v0 := HVe.out.var.cell 0; have v1 := HVe.out.var.cell 1; have v2 := HVe.out.var.cell 2
      simp only [List.getElem?_toArray, List.getElem?_cons_zero, List.getElem?_cons_succ] at r0 r1 r2 v0 v1 v2
      have hlr := HVe.out.res.lt
      go_region
      go_wp2_with fail
      refine bodyPost_ret (v := .tuple #[.slice A2 xs.length c2, .agg #[.bool (false), .slice none 0 0, .slice none 0 0]]) (by simp [results, Tryz.results13, go_sem, r0, r1, r2]) rfl ?_
      have hd := HVe.out.drawn (r0 := .bool (false)) (r1 := .slice none 0 0) (r2 := .slice none 0 0)
      exact ⟨xs, false, _, _, _, _, _, rfl, HX.out, HVe.out.ol, HVe.out.cl, HVe.out.cn, hd⟩
  · have HVe := hide HV6.out
    have r0 := HVe.out.res.cell 0; have r1 := HVe.out.res.cell 1; have r2 := HVe.out.res.cell 2; have q0 := HVe.out.res.frozen 0; have q1 := HVe.out.res.frozen 1; have q2 := HVe.out.res.frozen 2; have v0 := HVe.out.var.cell 0; have v1 := HVe.out.var.cell 1; have v2 := HVe.out.var.cell 2
    simp only [List.getElem?_toArray, List.getElem?_cons_zero, List.getElem?_cons_succ] at r0 r1 r2 v0 v1 v2
    have hlr := HVe.out.res.lt
    go_region
    go_wp2_with fail
    refine bodyPost_ret (v := .tuple #[.slice A2 xs.length c2, .agg #[.bool (g), .slice Ao o.length co, .slice Ac cs.length cc]]) (by simp [results, Tryz.results13, go_sem, r0, r1, r2]) rfl ?_
    have hd := HVe.out.drawn (r0 := .bool (g)) (r1 := .slice Ao o.length co) (r2 := .slice Ac cs.length cc)
    exact ⟨xs, g, _, _, _, _, _, rfl, HX.out, HVe.out.ol, HVe.out.cl, HVe.out.cn, hd⟩
end Go.Proofs.YtjiobgfaohldhaaGreatDoor
namespace Go.Proofs.YtjiobgfaohldhaaGreatDoor
open Go.RowKit
set_option linter.unusedVariables false
set_option linter.unusedSimpArgs false

/-- Operation i0 makes a row that reads as xs; all others yield known values. -/
def FRow {α : Type} (T : Ty α) (xs : List α) (i0 : Nat) (V : Nat → Value) (i : Nat) (v : Value) (w : World) : Prop :=
  if i = i0 then ∃ A c, v = .slice A xs.length c ∧ Row T w (Old w) A xs else v = V i
section
variable {α : Type} {T : Ty α} {xs : List α} {i0 : Nat} {V : Nat → Value} {i : Nat} {v : Value} {w : World}
theorem FRow.get (h : FRow T xs i0 V i v w) (hi : i ≠ i0) : v = V i := by unfold FRow at h; rwa [if_neg hi] at h
theorem FRow.val (hi : i ≠ i0) (h : v = V i) : FRow T xs i0 V i v w := by unfold FRow; rwa [if_neg hi]
theorem FRow.row (h : FRow T xs i0 V i0 v w) : ∃ A c, v = .slice A xs.length c ∧ Row T w (Old w) A xs := by unfold FRow at h; rwa [if_pos rfl] at h
theorem FRow.mk {A : Option Addr} {c : Nat} (h : Row T w (Old w) A xs) : FRow T xs i0 V i0 (.slice A xs.length c) w := by unfold FRow; rw [if_pos rfl]; exact ⟨A, c, rfl, h⟩
theorem FRow.ev {wb : World} (h : FRow T xs i0 V i v w) (hb : Below w.heap.size w wb) : FRow T xs i0 V i v wb := by
  unfold FRow at *
  split
  · rename_i h1
    rw [if_pos h1] at h
    obtain ⟨A, c, h2, h3⟩ := h
    exact ⟨A, c, h2, h3.old hb⟩
  · rename_i h1
    rwa [if_neg h1] at h
end
set_option maxRecDepth 10000 in
set_option maxHeartbeats 1000000 in
theorem implOrdersIn (xs : List Txn) (A : Option Addr) (c : Nat) (w : World) (hm : xs.length ≤ maxLen) (hA : Row tTxn w (Old w) A xs) :
    Calls Tryz.prog 36 #[.slice A xs.length c] w fun e w' => ∃ v, e = .returned (.tuple #[v, .bool (decide (0 < (allO xs).length))]) ∧ Sl (tSlice (tSlice tInt)) w' (New w w') (allO xs) v ∧ Below w.heap.size w w' := by
  have HAo := hide (implAllOrders xs A c w hm hA)
  have hl2 := allO_len xs
  have hqa : (allO xs).length ≤ 9223372036854775807 := by omega
  clear hA
  go_enter Tryz.func36, Tryz.ntmps36
  go_wp2_with (go_at_call 23; refine HAo.out.mono ?_; rintro e w1 ⟨v1, rfl, hS1, hb1⟩; have HS1 := hide hS1; obtain ⟨A1, c1, rfl, h11, h12, _⟩ := hS1; have HB1 := hide hb1; clear hb1)
  go_ret2
  exact ⟨_, by first | rfl | simp, HS1.out, HB1.out⟩
end Go.Proofs.YtjiobgfaohldhaaGreatDoor
