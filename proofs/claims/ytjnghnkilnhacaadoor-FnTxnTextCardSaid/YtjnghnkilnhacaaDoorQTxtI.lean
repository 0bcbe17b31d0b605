/- The text of an operation; alive. The draws that hand back a history alone. Small words for laws over drawn histories. slices.IndexFunc and slices.ContainsFunc answer by the first element that the predicate takes, for lists, drafts, operations and edges. The program's TxnValid and the predicates over it. A map from a key of two numbers to a number, that the call made: what it holds, key by key. The program's table of writers. The program's HistoryValid. Plain laws on histories: committed transactions, last writes, first reads, runs. The program's TxnText. -/
import Derived.Test.YtjnghnkilnhacaaDoorQTxtH
import Derived.Test.YtjnghnkilnhacaaDoorQBuild
import Derived.Test.YtjnghnkilnhacaaDoorQHistD
import Derived.Test.YtjnghnkilnhacaaDoorProg
import Derived.Test.YtjnghnkilnhacaaDoorQHBox
import Derived.Test.YtjnghnkilnhacaaDoorQTabT
import Derived.Deep.RegionHeld3
import Derived.WalkLawsBesides
import Derived.Maps.Own
import Derived.Maps.OwnSet
import Derived.Maps.Views
import Derived.DeepKeys4
import Derived.WideKeyPair
namespace Go.Proofs.YtjnghnkilnhacaaDoor
open Go.RowKit
set_option linter.unusedVariables false
set_option linter.unusedSimpArgs false

def digitsS : ByteArray := { data := #[48, 49, 50, 51, 52, 53, 54, 55, 56, 57, 97, 98, 99, 100, 101, 102, 103, 104, 105, 106, 107, 108, 109, 110, 111, 112, 113, 114, 115, 116, 117, 118, 119, 120, 121, 122] }
theorem itoa_digit (n : Nat) (hn : n < 10) (w : World) :
    Calls Tryd.prog 32 #[.int .i64 n] w fun e w' => e = .returned (.string (digitsS.extract n (n + 1))) ∧ w = w' := by
  have h1 : (0 : Int) ≤ (n : Int) := by omega
  have h2 : (n : Int) < 100 := by omega
  have h3 : (n : Int) < 10 := by omega
  go_enter Tryd.func32, Tryd.ntmps32
  go_wp2
  go_ret
  exact ⟨rfl, rfl⟩

def smallsS : ByteArray := { data := #[48, 48, 48, 49, 48, 50, 48, 51, 48, 52, 48, 53, 48, 54, 48, 55, 48, 56, 48, 57, 49, 48, 49, 49, 49, 50, 49, 51, 49, 52, 49, 53, 49, 54, 49, 55, 49, 56, 49, 57, 50, 48, 50, 49, 50, 50, 50, 51, 50, 52, 50, 53, 50, 54, 50, 55, 50, 56, 50, 57, 51, 48, 51, 49, 51, 50, 51, 51, 51, 52, 51, 53, 51, 54, 51, 55, 51, 56, 51, 57, 52, 48, 52, 49, 52, 50, 52, 51, 52, 52, 52, 53, 52, 54, 52, 55, 52, 56, 52, 57, 53, 48, 53, 49, 53, 50, 53, 51, 53, 52, 53, 53, 53, 54, 53, 55, 53, 56, 53, 57, 54, 48, 54, 49, 54, 50, 54, 51, 54, 52, 54, 53, 54, 54, 54, 55, 54, 56, 54, 57, 55, 48, 55, 49, 55, 50, 55, 51, 55, 52, 55, 53, 55, 54, 55, 55, 55, 56, 55, 57, 56, 48, 56, 49, 56, 50, 56, 51, 56, 52, 56, 53, 56, 54, 56, 55, 56, 56, 56, 57, 57, 48, 57, 49, 57, 50, 57, 51, 57, 52, 57, 53, 57, 54, 57, 55, 57, 56, 57, 57] }
def itoaS (n : Nat) : ByteArray := if n < 10 then digitsS.extract n (n + 1) else smallsS.extract (n * 2) (n * 2 + 2)
set_option maxRecDepth 20000 in
theorem itoa_any (n : Nat) (hn : n < 100) (w : World) :
    Calls Tryd.prog 32 #[.int .i64 n] w fun e w' => e = .returned (.string (itoaS n)) ∧ w = w' := by
  by_cases h : n < 10
  · unfold itoaS; rw [if_pos h]; exact itoa_digit n h w
  · have HI := hide (show itoaS n = smallsS.extract (n * 2) (n * 2 + 2) by unfold itoaS; rw [if_neg h])
    have h1 : (0 : Int) ≤ (n : Int) := by omega
    have h2 : (n : Int) < 100 := by omega
    have h3 : ¬ (n : Int) < 10 := by omega
    go_enter Tryd.func32, Tryd.ntmps32
    go_wp2
    go_ret
    exact ⟨by rw [HI.out]; rfl, rfl⟩
theorem extract_size (s : ByteArray) (a b : Nat) : (s.extract a b).size ≤ b - a := by rw [ByteArray.size_extract]; omega
theorem itoaS_size (n : Nat) : (itoaS n).size ≤ 2 := by
  unfold itoaS
  split
  · have := extract_size digitsS n (n + 1); omega
  · have := extract_size smallsS (n * 2) (n * 2 + 2); omega
def letterS (o : Op) : ByteArray := if o.Kind == 2 then { data := #[119] } else { data := #[114] }
set_option maxHeartbeats 400000 in
theorem letter_any (o : Op) (w : World) : Calls Tryd.prog 55 #[.agg #[.int .i64 o.Kind, .int .i64 o.Key, .int .i64 o.Value]] w fun e w' => e = .returned (.string (letterS o)) ∧ Below w.heap.size w w' := by
  have HC := hide (fun W => writes_any o W)
  have HB := hide ((Below.refl _ w).alloc (Nat.le_refl _) (.cells #[.int .i64 o.Kind, .int .i64 o.Key, .int .i64 o.Value] 41))
  have HL := hide (show letterS o = if o.Kind == 2 then { data := #[119] } else { data := #[114] } from rfl)
  cases hq : (o.Kind == 2) with
  | true =>
    rw [hq] at HC HL
    clear hq
    go_enter Tryd.func55, Tryd.ntmps55
    go_wp2_with (go_at_call 68; refine (HC.out _).mono ?_; rintro e w' ⟨rfl, hb⟩; have HB2 := hide (HB.out.trans (hb.mono (by simp))); clear hb)
    go_ret
    exact ⟨by rw [HL.out]; rfl, HB2.out⟩
  | false =>
    rw [hq] at HC HL
    clear hq
    go_enter Tryd.func55, Tryd.ntmps55
    go_wp2_with (go_at_call 68; refine (HC.out _).mono ?_; rintro e w' ⟨rfl, hb⟩; have HB2 := hide (HB.out.trans (hb.mono (by simp))); clear hb)
    go_ret
    exact ⟨by rw [HL.out]; rfl, HB2.out⟩

theorem letterS_size (o : Op) : (letterS o).size = 1 := by unfold letterS; split <;> rfl
/-- The text of an operation. -/
def opText (o : Op) : ByteArray := if opOk o then letterS o ++ itoaS o.Key.toNat ++ { data := #[61] } ++ itoaS o.Value.toNat else { data := #[] }
set_option maxRecDepth 10000 in
set_option maxHeartbeats 2000000 in
theorem opText_any (o : Op) (w : World) : Calls Tryd.prog 33 #[.agg #[.int .i64 o.Kind, .int .i64 o.Key, .int .i64 o.Value]] w fun e w' => e = .returned (.string (opText o)) ∧ Below w.heap.size w w' := by
  have HV := hide (fun W => opValid_any o W)
  have HB := hide ((Below.refl _ w).alloc (Nat.le_refl _) (.cells #[.int .i64 o.Kind, .int .i64 o.Key, .int .i64 o.Value] 41))
  cases q1 : opOk o with
  | false =>
    have HO := hide (show opText o = { data := #[] } by unfold opText; rw [q1]; rfl)
    rw [q1] at HV
    clear q1
    go_enter Tryd.func33, Tryd.ntmps33
    go_wp2_with (go_at_call 53; refine (HV.out _).mono ?_; rintro e w1 ⟨rfl, hb1⟩; have HB := hide (HB.out.trans (hb1.mono HB.out.size)); clear hb1)
    go_ret
    exact ⟨by rw [HO.out]; rfl, HB.out⟩
  | true =>
    have HO := hide (show opText o = letterS o ++ itoaS o.Key.toNat ++ { data := #[61] } ++ itoaS o.Value.toNat by unfold opText; rw [q1]; rfl)
    have HL := hide (fun W => letter_any o W)
    have hls := letterS_size o
    generalize hL : letterS o = L at HO HL hls
    clear hL
    have hq := q1
    unfold opOk at hq
    simp only [Bool.and_eq_true, inR_iff] at hq
    obtain ⟨⟨⟨_, hk0, hk1⟩, hv0, hv1⟩, _⟩ := hq
    rw [q1] at HV
    clear q1
    generalize hK : o.Kind = Kd at HV HL HB ⊢
    obtain ⟨k, hk⟩ : ∃ k : Nat, o.Key = (k : Int) := ⟨o.Key.toNat, by omega⟩
    obtain ⟨v, hv⟩ : ∃ v : Nat, o.Value = (v : Int) := ⟨o.Value.toNat, by omega⟩
    have HI1 := hide (fun W => itoa_any k (by omega) W)
    have HI2 := hide (fun W => itoa_any v (by omega) W)
    have hs1 := itoaS_size k
    have hs2 := itoaS_size v
    obtain ⟨N1, hN1⟩ : ∃ N, N = itoaS k := ⟨_, rfl⟩
    obtain ⟨N2, hN2⟩ : ∃ N, N = itoaS v := ⟨_, rfl⟩
    rw [← hN1] at HI1 hs1
    rw [← hN2] at HI2 hs2
    rw [show o.Key.toNat = k by omega, show o.Value.toNat = v by omega, ← hN1, ← hN2] at HO
    clear hN1 hN2
    have hadd1 : ∀ W, (Op.stringOp .add L N1).run Tryd.prog W = .ok (.string (L ++ N1)) W := fun W => run_string_add_sum _ _ _ (by omega)
    have hadd2 : ∀ W, (Op.stringOp .add (L ++ N1) { data := #[61] }).run Tryd.prog W = .ok (.string (L ++ N1 ++ { data := #[61] })) W := fun W => run_string_add_sum _ _ _ (by rw [ByteArray.size_append]; have : ({ data := #[61] } : ByteArray).size = 1 := rfl; omega)
    have hadd3 : ∀ W, (Op.stringOp .add (L ++ N1 ++ { data := #[61] }) N2).run Tryd.prog W = .ok (.string (L ++ N1 ++ { data := #[61] } ++ N2)) W := fun W => run_string_add_sum _ _ _ (by rw [ByteArray.size_append, ByteArray.size_append]; have : ({ data := #[61] } : ByteArray).size = 1 := rfl; omega)
    rw [hk, hv] at HV HL HB ⊢
    clear hk hv hk0 hk1 hv0 hv1 hK
    go_enter Tryd.func33, Tryd.ntmps33
    go_wp2_with (go_at_call 53; refine (HV.out _).mono ?_; rintro e w1 ⟨rfl, hb1⟩; have HB := hide (HB.out.trans (hb1.mono HB.out.size)); have z0 := (hb1.cell (p := ⟨w.heap.size, 0, none⟩) (by simp)).trans ((Blk.new w _ _).cell 0); have z1 := (hb1.cell (p := ⟨w.heap.size, 1, none⟩) (by simp)).trans ((Blk.new w _ _).cell 1); have z2 := (hb1.cell (p := ⟨w.heap.size, 2, none⟩) (by simp)).trans ((Blk.new w _ _).cell 2); have hz1 : w.heap.size < w1.heap.size := (by have := hb1.size; simp at this; omega); clear hb1)
    simp only [List.getElem?_toArray, List.getElem?_cons_zero, List.getElem?_cons_succ] at z0 z1 z2
    go_region_held3 (fun w' => w'.cell? ⟨w.heap.size, 0, none⟩ = some (.int .i64 Kd) ∧ w'.cell? ⟨w.heap.size, 1, none⟩ = some (.int .i64 k) ∧ w'.cell? ⟨w.heap.size, 2, none⟩ = some (.int .i64 v) ∧ Below w.heap.size w w')
      (first
        | ((try dsimp only); exact ⟨z0, z1, z2, HB.out.drew⟩)
        | ((try dsimp only); exact ⟨(HB2.out.cell (p := ⟨w.heap.size, 0, none⟩) hz1).trans z0, (HB2.out.cell (p := ⟨w.heap.size, 1, none⟩) hz1).trans z1, (HB2.out.cell (p := ⟨w.heap.size, 2, none⟩) hz1).trans z2, HB.out.drew.trans (HB2.out.mono HB.out.size)⟩)
        | go_keep)
      ((first
        | (go_at_call 55; refine (HL.out _).mono ?_; rintro e w2 ⟨rfl, hb2⟩; have HB2 := hide hb2)
        | (go_at_call 32; refine (HI1.out _).mono ?_; rintro e w' ⟨rfl, rfl⟩)
        | (go_at_call 32; refine (HI2.out _).mono ?_; rintro e w' ⟨rfl, rfl⟩)))
    have HBF := hide (show Below w.heap.size w w2 from HB.out.drew.trans (HB2.out.mono HB.out.size))
    go_wp2
    go_ret
    exact ⟨by rw [HO.out]; rfl, HBF.out⟩

set_option maxRecDepth 10000 in
theorem alive_any (w : World) : Calls Tryd.prog 15 #[] w fun e w' => e = .returned (.bool true) ∧ Below w.heap.size w w' := by
  have HC := hide (fun W => opText_any ⟨2, 0, 5⟩ W)
  have HT := hide (show opText ⟨2, 0, 5⟩ = { data := #[119, 48, 61, 53] } by decide +kernel)
  rw [HT.out] at HC
  go_enter Tryd.func15, Tryd.ntmps15
  go_wp2_with (go_at_call 33; refine (HC.out _).mono ?_; rintro e w1 ⟨rfl, hb1⟩)
  go_ret
  exact ⟨rfl, hb1⟩
def opsN20 (h : List Txn) : Nat := tot (fun x : Txn => x.Ops.length) h
/-- A history that is not too long. -/
def HistS (xs : List Txn) : Prop := xs.length ≤ 8 ∧ ∀ t ∈ xs, t.Ops.length ≤ 20
theorem HistS.ops {xs : List Txn} (h : HistS xs) : opsN20 xs ≤ 400 := by
  obtain ⟨h1, h2⟩ := h
  have : ∀ l : List Txn, (∀ t ∈ l, t.Ops.length ≤ 20) → opsN20 l ≤ 20 * l.length := by
    intro l
    induction l with
    | nil => intro _; simp [opsN20, tot]
    | cons t l ih =>
      intro h
      have h3 := ih (fun x hx => h x (List.mem_cons_of_mem _ hx))
      have h4 := h t List.mem_cons_self
      simp only [opsN20, tot, List.map_cons, List.sum_cons, List.length_cons] at h3 ⊢
      omega
  have := this xs h2
  omega
theorem Sl.fresh {α : Type} {T : Ty α} {w w' : World} {xs : List α} {v : Value} (h : Sl T w' (New w w') xs v) : ∃ A c, v = .slice A xs.length c ∧ xs.length ≤ c ∧ c ≤ maxLen ∧ Row T w' (Old w') A xs := by
  obtain ⟨A, c, rfl, hc, hm, hr⟩ := h
  exact ⟨A, c, rfl, hc, hm, hr.mono (fun b hb => hb.2) (fun _ _ => rfl)⟩
end Go.Proofs.YtjnghnkilnhacaaDoor
namespace Go.Proofs.YtjnghnkilnhacaaDoor
open Go.RowKit

set_option maxHeartbeats 400000 in
theorem idx_Op (xs : List Op) (A : Option Addr) (c : Nat) (w : World) (g : Nat) (lb : Array Value) (p : Op → Bool)
    (eg : ∀ args w, (callFunc g args).run Tryd.prog w = .ok (.enter g args) w) (hl : xs.length ≤ maxLen) (hR : Row tOp w (Old w) A xs)
    (hf : ∀ x ∈ xs, ∀ cs, tOp.rel w (Old w) x cs → Pred Tryd.prog g lb w (one_ cs) (p x)) :
    Calls Tryd.prog 66 #[.slice A xs.length c, .func (.func g) #[] lb] w fun e w' => e = .returned (.int .i64 (idx p xs)) ∧ Below w.heap.size w w' := by
  unfold maxLen at hl
  go_enter Tryd.func66, Tryd.ntmps66
  go_wp2
  go_loopw [5, 8] (fun _ i wr => ∃ k : Nat, k ≤ xs.length ∧ i = .int .i64 k ∧ Hid (∀ j (hj : j < xs.length), j < k → p xs[j] = false) ∧ Below w.heap.size w wr) (fun _ i _ => xs.length - (intOf i).toNat)
  case atStart => exact ⟨0, Nat.zero_le _, rfl, (fun j hj h => absurd h (by omega)), Below.refl _ _⟩
  case round =>
    obtain ⟨k, hk, rfl, hI, hb⟩ := hrel
    by_cases hlt : k < xs.length
    · obtain ⟨b, off, rfl, hbS, hc⟩ := hR (by omega)
      obtain ⟨cs, hr, hcs⟩ := hc k hlt
      have hp := hf xs[k] (List.getElem_mem hlt) cs hr wr hb
      obtain rfl := hr
      have c0 := (hb.cell (p := ⟨b, off + k * tOp.size + 0, none⟩) hbS).trans (hcs 0 _ rfl)
      have c1 := (hb.cell (p := ⟨b, off + k * tOp.size + 1, none⟩) hbS).trans (hcs 1 _ rfl)
      have c2 := (hb.cell (p := ⟨b, off + k * tOp.size + 2, none⟩) hbS).trans (hcs 2 _ rfl)
      clear hc hf hR hcs
      simp only [tOp, flat, Nat.add_zero] at c0 c1 c2
      simp only [one_] at hp
      cases hq : p xs[k] with
      | true =>
        rw [hq] at hp
        have HQ := hide hq; clear hq
        go_wp2_with (go_at_fn g; refine hp.mono ?_; rintro e w' ⟨rfl, hb'⟩)
        go_ret
        exact ⟨ret_int (idx_hit p xs k hlt HQ.out hI.out).symm, hb'⟩
      | false =>
        rw [hq] at hp
        have HQ := hide hq; clear hq
        go_wp2_with (go_at_fn g; refine hp.mono ?_; rintro e w' ⟨rfl, hb'⟩)
        go_roundw
        case rel => exact ⟨k + 1, by omega, by go_num, (fun j hj h => by rcases Nat.lt_succ_iff_lt_or_eq.1 h with h | rfl; exact hI.out j hj h; exact HQ.out), hb'⟩
        case measure => simp [intOf]; omega
    · have hI2 : Hid (∀ j (hj : j < xs.length), p xs[j] = false) := fun j hj => hI.out j hj (by omega)
      clear hI hR hf
      go_wp2
      go_ret
      exact ⟨ret_int (idx_miss p xs hI2.out).symm, hb⟩
theorem cont_Op (xs : List Op) (A : Option Addr) (c : Nat) (w : World) (g : Nat) (lb : Array Value) (p : Op → Bool)
    (eg : ∀ args w, (callFunc g args).run Tryd.prog w = .ok (.enter g args) w) (hl : xs.length ≤ maxLen) (hR : Row tOp w (Old w) A xs)
    (hf : ∀ x ∈ xs, ∀ cs, tOp.rel w (Old w) x cs → Pred Tryd.prog g lb w (one_ cs) (p x)) :
    Calls Tryd.prog 51 #[.slice A xs.length c, .func (.func g) #[] lb] w fun e w' => e = .returned (.bool (xs.any p)) ∧ Below w.heap.size w w' := by
  have H := hide (idx_Op xs A c w g lb p eg hl hR hf)
  clear hR hf
  go_enter Tryd.func51, Tryd.ntmps51
  go_wp2_with (go_at_call 66; refine H.out.mono ?_; rintro e w' ⟨rfl, hb'⟩)
  go_ret
  refine ⟨ret_bool ?_, hb'⟩
  rw [Bool.eq_iff_iff, ← idx_neg, decide_eq_true_iff]

end Go.Proofs.YtjnghnkilnhacaaDoor
namespace Go.Proofs.YtjnghnkilnhacaaDoor
open Go.RowKit Go.Maps
set_option linter.unusedVariables false
set_option linter.unusedSimpArgs false

theorem opLit (o : Op) (w : World) : Calls Tryd.prog 52 #[.agg #[.int .i64 o.Kind, .int .i64 o.Key, .int .i64 o.Value]] w fun e w' => e = .returned (.bool (!opOk o)) ∧ Below w.heap.size w w' := by
  have HV := hide (fun W => opValid_any o W)
  go_enter Tryd.func52, Tryd.ntmps52
  go_wp2_with (go_at_call 53; refine (HV.out _).mono ?_; rintro e w' ⟨rfl, hb'⟩; have HB := hide hb'; clear hb')
  go_ret
  exact ⟨rfl, ((Below.refl _ w).alloc (Nat.le_refl _) _).trans (HB.out.mono (by simp))⟩
set_option maxHeartbeats 400000 in
theorem implTxnValid (t : Txn) (A : Option Addr) (c : Nat) (w : World) (hm : t.Ops.length ≤ maxLen) (hA : Row tOp w (Old w) A t.Ops) :
    Calls Tryd.prog 31 #[.agg #[.int .i64 t.Session, .slice A t.Ops.length c, .bool t.Done]] w fun e w' => e = .returned (.bool (txnOk t)) ∧ Below w.heap.size w w' := by
  have hB : Below w.heap.size w (w.alloc (.cells #[.int .i64 t.Session, .slice A t.Ops.length c, .bool t.Done] 24)) := (Below.refl _ _).alloc (Nat.le_refl _) _
  have HB := hide hB
  have hcont := hide (cont_Op t.Ops A c _ 52 #[] (fun o => !opOk o) (enters_of Tryd.func52 (by kernel_rfl) rfl) hm (hA.old hB)
    (fun x _ cs hr W hW => by
      obtain rfl := hr
      exact (opLit x W).mono (by rintro e w' ⟨rfl, hb⟩; exact ⟨rfl, hW.trans (hb.mono hW.size)⟩)))
  have hm' : t.Ops.length ≤ 9223372036854775807 := by simpa [maxLen] using hm
  clear hA hB hm
  cases hq : inR t.Session 0 3 with
  | false =>
    have HO := hide (show txnOk t = false by unfold txnOk; rw [hq]; simp)
    go_enter Tryd.func31, Tryd.ntmps31
    go_wp2_with (go_at_call 50; refine (sessionOk _ _).mono ?_; rintro e w' ⟨rfl, rfl⟩)
    go_ret
    exact ⟨ret_bool HO.out.symm, HB.out⟩
  | true =>
    by_cases hq2 : t.Ops.length ≤ 6
    · have HO := hide (show (!(t.Ops.any fun o => !opOk o)) = txnOk t by unfold txnOk; rw [hq, List.any_eq_not_all_not]; simp [hq2])
      have hq2' : (t.Ops.length : Int) ≤ 6 := by omega
      go_enter Tryd.func31, Tryd.ntmps31
      go_wp2_with (first | (go_at_call 50; refine (sessionOk _ _).mono ?_; rintro e w' ⟨rfl, rfl⟩) | (go_at_call 51; refine hcont.out.mono ?_; rintro e w' ⟨rfl, hb'⟩; have HB' := hide hb'; clear hb'))
      go_ret
      exact ⟨ret_bool HO.out, HB.out.trans (HB'.out.mono (by simp))⟩
    · have HO := hide (show txnOk t = false by unfold txnOk; simp [hq2])
      have hq2' : ¬ (t.Ops.length : Int) ≤ 6 := by omega
      go_enter Tryd.func31, Tryd.ntmps31
      go_wp2_with (go_at_call 50; refine (sessionOk _ _).mono ?_; rintro e w' ⟨rfl, rfl⟩)
      go_ret
      exact ⟨ret_bool HO.out.symm, HB.out⟩
/-- The operations of a history, each with the number of its transaction. -/
def num : List Txn → Nat → List (Nat × Op)
  | [], _ => []
  | t :: r, i => t.Ops.map (fun o => (i, o)) ++ num r (i + 1)
def look (l : List (Nat × Op)) (x y : Int) : Option Int := (l.find? fun p => isW x y p.2).map fun p => (p.1 : Int)
def Fresh (l : List (Nat × Op)) : Prop := ∀ i (hi : i < l.length), l[i].2.Kind = 2 → look (l.take i) l[i].2.Key l[i].2.Value = none
theorem Fresh.nil : Fresh [] := fun i hi => absurd hi (by simp)
theorem Fresh.not {l r : List (Nat × Op)} {p : Nat × Op} (hp : p.2.Kind = 2) (hl : look l p.2.Key p.2.Value ≠ none) : ¬ Fresh (l ++ p :: r) := fun h => by
  have := h l.length (by simp) (by rw [List.getElem_append_right (Nat.le_refl _)]; simpa using hp)
  rw [List.getElem_append_right (Nat.le_refl _)] at this
  simp only [Nat.sub_self, List.getElem_cons_zero, List.take_left'] at this
  exact hl this
/-- What stands at operation l of transaction k. -/
def pre (h : List Txn) (k l : Nat) (hk : k < h.length) : List (Nat × Op) := num (h.take k) 0 ++ (h[k].Ops.take l).map (fun o => (k, o))
end Go.Proofs.YtjnghnkilnhacaaDoor
namespace Go.Proofs.YtjnghnkilnhacaaDoor
open Go.RowKit Go.Maps
set_option linter.unusedVariables false
set_option linter.unusedSimpArgs false

/-- What keys hold. -/
abbrev St := Int → Int
def St.put (s : St) (key value : Int) : St := fun k => if k = key then value else s k
theorem histV_parts {h : List Txn} (hv : histV h = true) : h.length ≤ 6 ∧ ∀ t ∈ h, txnOk t = true := by
  unfold histV at hv
  simp only [Bool.and_eq_true, List.all_eq_true, decide_eq_true_eq] at hv
  refine ⟨hv.2, fun t ht => ?_⟩
  have := hv.1 t ht
  unfold txnFine at this
  rw [Bool.and_eq_true] at this
  exact this.1
end Go.Proofs.YtjnghnkilnhacaaDoor
namespace Go.Proofs.YtjnghnkilnhacaaDoor
open Go.RowKit
set_option linter.unusedVariables false
set_option linter.unusedSimpArgs false

theorem itoaS_dec : ∀ n : Fin 100, (itoaS n.val).data.toList = decL n.val := by decide +kernel
theorem itoaS_eq {n : Nat} (h : n < 100) : itoaS n = ⟨(decL n).toArray⟩ := ba_list (itoaS_dec ⟨n, h⟩)
theorem opText_eq (o : Op) : opText o = opB o := by
  unfold opText opB
  by_cases h : opOk o = true
  · rw [if_pos h, if_pos h]
    obtain ⟨h1, h2, h3⟩ := opOk_parts' h
    apply ba_list
    rw [data_app, data_app, data_app, itoaS_eq (by omega), itoaS_eq (by omega), opL]
    rcases h1 with h1 | h1 <;> rw [letterS, h1] <;> simp
  · rw [if_neg h, if_neg h]
theorem own_two {W : World} {g : Nat} {a b : ByteArray} {K : Nat → Prop} (hB : Blk W g 9 #[.string a, .string b]) (hK : K g) : Own tStr 9 W (fun x => K x ∧ Old W x) [a, b] (.slice (some ⟨g, 0, none⟩) 2 2) :=
  .inr ⟨g, 2, _, fun _ => False, rfl, ⟨hK, hB.lt⟩, hB, Nat.le_refl _, by simp [maxLen], rfl, fun _ h => h.elim, fun k hk => by
    have hk2 : k < 2 := by simpa using hk
    match k, hk2 with
    | 0, _ =>
      refine ⟨[.string a], rfl, fun j u hu => ?_⟩
      obtain ⟨rfl, rfl⟩ : j = 0 ∧ u = .string a := by
        cases j with
        | zero => exact ⟨rfl, by simpa using hu.symm⟩
        | succ j => simp at hu
      exact hB.cell 0
    | 1, _ =>
      refine ⟨[.string b], rfl, fun j u hu => ?_⟩
      obtain ⟨rfl, rfl⟩ : j = 0 ∧ u = .string b := by
        cases j with
        | zero => exact ⟨rfl, by simpa using hu.symm⟩
        | succ j => simp at hu
      exact hB.cell 1⟩
/-- The words with the first k operations. -/
def prefW (t : Txn) (k : Nat) : List Bs := (115 :: decL t.Session.toNat) :: (if t.Done then [111, 107] else [111, 102, 102]) :: (t.Ops.take k).map opL
theorem prefW_succ (t : Txn) (k : Nat) (hk : k < t.Ops.length) : prefW t (k + 1) = prefW t k ++ [opL t.Ops[k]] := by
  unfold prefW
  rw [List.take_succ_eq_append_getElem hk, List.map_append]; rfl
theorem prefW_all (t : Txn) : prefW t t.Ops.length = txnW t := by unfold prefW txnW; rw [List.take_length]
theorem prefW_len (t : Txn) (k : Nat) (hk : k ≤ t.Ops.length) : (prefW t k).length = k + 2 := by unfold prefW; simp; omega
set_option maxRecDepth 10000 in
set_option maxHeartbeats 4000000 in
theorem implTxnText (t : Txn) (A : Option Addr) (c : Nat) (w : World) (hm : t.Ops.length ≤ maxLen) (hA : Row tOp w (Old w) A t.Ops) : Calls Tryd.prog 12 #[.agg #[.int .i64 t.Session, .slice A t.Ops.length c, .bool t.Done]] w fun e w' => e = .returned (.string (txnB t)) ∧ Below w.heap.size w w' := by
  obtain ⟨i0, hi, hz0, hz1, hz2⟩ := info_parts infoStr_
  have HB0 := hide ((Below.refl _ w).alloc (Nat.le_refl _) (.cells #[.int .i64 t.Session, .slice A t.Ops.length c, .bool t.Done] 24))
  have HX0 := hide (Blk.new w 24 #[.int .i64 t.Session, .slice A t.Ops.length c, .bool t.Done])
  have HV := hide (implTxnValid t A c _ hm (hA.old HB0.out))
  have HA := hide hA
  have hq : t.Ops.length ≤ 9223372036854775807 := by simpa [maxLen] using hm
  clear hA hm
  cases q1 : txnOk t with
  | false =>
    have HR := hide (show txnB t = ⟨#[]⟩ by unfold txnB; rw [q1]; rfl)
    rw [q1] at HV
    clear q1
    go_enter Tryd.func12, Tryd.ntmps12
    go_upto_region 1 with fail
    generalize w.alloc _ = W at HB0 HX0 HV ⊢
    have x0 := HX0.out.cell 0; have x1 := HX0.out.cell 1; have x2 := HX0.out.cell 2
    simp only [List.getElem?_toArray, List.getElem?_cons_zero, List.getElem?_cons_succ] at x0 x1 x2
    go_wp2_with (go_at_call 31; refine HV.out.mono ?_; rintro e w1 ⟨rfl, hb1⟩; have HB1 := hide (HB0.out.trans (hb1.mono HB0.out.size)); clear hb1)
    go_ret
    exact ⟨ret_str HR.out.symm, HB1.out⟩
  | true =>
    have HR := hide (show txnB t = ⟨(txnL t).toArray⟩ by unfold txnB; rw [q1]; rfl)
    have HOk := hide q1
    obtain ⟨ho, hs, hl6⟩ := txnOk_parts' q1
    have HOo := hide ho
    rw [q1] at HV
    clear q1 ho
    obtain ⟨n, hn⟩ : ∃ n : Nat, t.Session = (n : Int) := ⟨t.Session.toNat, by omega⟩
    have hd1 := decL_len n
    obtain ⟨N, hN⟩ : ∃ N : ByteArray, N = itoaS n := ⟨_, rfl⟩
    have HI := itoa_any n (by omega)
    rw [← hN] at HI
    have HI := hide HI
    have HNl := hide (show N.data.toList = decL n by rw [hN, itoaS_eq (by omega)])
    have hs1 : N.size ≤ 2 := by rw [ba_size HNl.out]; omega
    have HP0 := hide (show prefW t 0 = [115 :: decL n, if t.Done then [111, 107] else [111, 102, 102]] by unfold prefW; rw [hn]; rfl)
    rw [hn] at HB0 HX0 HV ⊢
    clear hn hs hN
    have hadd1 : ∀ W, (Op.stringOp .add ⟨#[115]⟩ N).run Tryd.prog W = .ok (.string (⟨#[115]⟩ ++ N)) W := fun W => run_string_add_sum _ _ _ (by have : (⟨#[115]⟩ : ByteArray).size = 1 := rfl; omega)
    generalize hdn : t.Done = dn at HB0 HX0 HV HP0 ⊢
    clear hdn
    go_enter Tryd.func12, Tryd.ntmps12
    go_upto_region 1 with fail
    generalize w.alloc _ = W at HB0 HX0 HV ⊢
    have HXv := hide (fun (W2 : World) (hb : Below W.heap.size W W2) => And.intro ((HX0.out.below hb HX0.out.lt).cell 0) (And.intro ((HX0.out.below hb HX0.out.lt).cell 1) ((HX0.out.below hb HX0.out.lt).cell 2)))
    simp only [List.getElem?_toArray, List.getElem?_cons_zero, List.getElem?_cons_succ] at HXv
    obtain ⟨x0, x1, x2⟩ := HXv.out W (Below.refl _ _)
    go_upto_region 3 with (go_at_call 31; refine HV.out.mono ?_; rintro e w1 ⟨rfl, hb1⟩; have HW1 := hide hb1; clear hb1)
    clear x0 x1 x2
    obtain ⟨x0, x1, x2⟩ := HXv.out w1 HW1.out
    have HW2 := hide (HW1.out.alloc HW1.out.size (.cells #[.string (⟨#[115]⟩ ++ N), .string ⟨#[111, 102, 102]⟩] 9))
    have HV2 := hide (Blk.new w1 9 #[.string (⟨#[115]⟩ ++ N), .string ⟨#[111, 102, 102]⟩])
    go_upto_region 4 with (go_at_call 32; refine (HI.out _).mono ?_; rintro e w' ⟨rfl, rfl⟩)
    clear x0 x1 x2
    have hgl : w1.heap.size < (w1.alloc (.cells #[.string (⟨#[115]⟩ ++ N), .string ⟨#[111, 102, 102]⟩] 9)).heap.size := by simp
    generalize w1.alloc _ = w2 at HW2 HV2 hgl ⊢
    obtain ⟨x0, x1, x2⟩ := HXv.out w2 HW2.out
    cases dn with
    | true =>
      have y1 := HV2.out.cell 1; have q1 := HV2.out.frozen 1
      simp only [List.getElem?_toArray, List.getElem?_cons_zero, List.getElem?_cons_succ] at y1
      go_upto_region 6 with fail
      clear y1 q1 x0 x1 x2
      have HO3 := hide (own_two (K := fun b => W.heap.size ≤ b) (show Blk (w2.setCell ⟨w1.heap.size, 1, none⟩ (.string ⟨#[111, 107]⟩)) w1.heap.size 9 #[.string (⟨#[115]⟩ ++ N), .string ⟨#[111, 107]⟩] from HV2.out.set_ 1 _) HW1.out.size)
      have HW3 := hide (HW2.out.setCell (p := ⟨w1.heap.size, 1, none⟩) HW1.out.size (.string ⟨#[111, 107]⟩))
      have HL3 := hide (show ([⟨#[115]⟩ ++ N, ⟨#[111, 107]⟩] : List ByteArray).map (·.data.toList) = prefW t 0 by rw [HP0.out]; simp [data_app, HNl.out])
      generalize World.setCell _ _ _ = w3 at HO3 HW3 ⊢
      obtain ⟨x0, x1, x2⟩ := HXv.out w3 HW3.out
      go_upto_region 7 with fail
      clear x0 x1 x2
      go_loopw [3, 5, 21] (fun ws _ i wr => ∃ (k : Nat) (xs : List ByteArray) (v : Value), ws = v ∧ k ≤ t.Ops.length ∧ i = .int .i64 k ∧ Hid (xs.map (·.data.toList) = prefW t k) ∧ Hid (Own tStr 9 wr (fun b => W.heap.size ≤ b ∧ Old wr b) xs v) ∧ Hid (Below W.heap.size W wr)) (fun _ _ i _ => t.Ops.length - (intOf i).toNat)
      case atStart => exact ⟨0, _, _, rfl, Nat.zero_le _, rfl, HL3.out, HO3.out, HW3.out⟩
      case round =>
        obtain ⟨k, xs, v, rfl, hk, rfl, hL, hO, hb⟩ := hrel
        have HL := hide hL.out; have HO := hide hO.out; have HWr := hide hb.out
        clear hL hO hb HO3 HL3 HW3
        have HBw := hide (HB0.out.trans (HWr.out.mono HB0.out.size))
        have HXl := hide (show xs.length = k + 2 by have h := congrArg List.length HL.out; rw [List.length_map, prefW_len t k hk] at h; exact h)
        by_cases hlt : k < t.Ops.length
        · have hki : (k : Int) < (t.Ops.length : Int) := by omega
          have HSu := hide (prefW_succ t k hlt)
          have hok := HOo.out _ (List.getElem_mem hlt)
          obtain ⟨b, off, rfl, hbS, d0, d1, d2⟩ := at_Op HA.out HBw.out hlt
          have HOt := opText_any t.Ops[k]
          obtain ⟨O, hOe⟩ : ∃ O : ByteArray, O = opText t.Ops[k] := ⟨_, rfl⟩
          have HOl := hide (show O.data.toList = opL t.Ops[k] by rw [hOe, opText_eq]; unfold opB; rw [if_pos hok])
          rw [← hOe] at HOt
          have HOt := hide HOt
          clear hOe hok
          generalize t.Ops[k] = o at d0 d1 d2 HOt HOl HSu
          go_upto_region 9 with fail
          have HO4 := hide (HO.out.onlyBelow ((Below.refl wr.heap.size wr).alloc (Nat.le_refl _) (.cells #[.int .i64 o.Kind, .int .i64 o.Key, .int .i64 o.Value] 41)))
          have HW4 := hide (HWr.out.alloc HWr.out.size (.cells #[.int .i64 o.Kind, .int .i64 o.Key, .int .i64 o.Value] 41))
          have HV4 := hide (Blk.new wr 41 #[.int .i64 o.Kind, .int .i64 o.Key, .int .i64 o.Value])
          clear d0 d1 d2 HO
          generalize wr.alloc _ = w4 at HO4 HW4 HV4 ⊢
          have z0 := HV4.out.cell 0; have z1 := HV4.out.cell 1; have z2 := HV4.out.cell 2
          simp only [List.getElem?_toArray, List.getElem?_cons_zero, List.getElem?_cons_succ] at z0 z1 z2
          have HSn := hide (show (xs ++ [O]).map (·.data.toList) = prefW t (k + 1) by rw [HSu.out, List.map_append, HL.out, List.map_cons, HOl.out]; rfl)
          go_wp2_with (first | (go_at_call 33; refine (HOt.out _).mono ?_; rintro e w5 ⟨rfl, hb5⟩; have HO5 := hide (HO4.out.onlyBelow hb5); have HW5 := hide (HW4.out.trans (hb5.mono HW4.out.size)); clear hb5) | (at_builtin; refine wpList_put tStr rfl (.tmp 25) (.tmp 28) 37 rfl 9 i0 _ 16 Tryd.underlying37 hi hz0 hz1 hz2 rfl (by decide) (fun b => W.heap.size ≤ b) (fun _ => False) xs O [.string O] _ rfl HO5.out _ rfl rfl (fun _ h => h.elim) (fun b hb => Nat.le_trans HW5.out.size hb) (by have := HXl.out; simp only [maxLen]; omega) (by have := HXl.out; omega) ?_; intro v6 w6 hO_ hK_; have HO6 := hide hO_; have HW6 := hide (below_only HW5.out hK_ HW5.out.size (fun i hi => hi)); clear hO_ hK_))
          go_roundw
          case rel => exact ⟨k + 1, xs ++ [O], _, rfl, by omega, by go_num, HSn.out, HO6.out, HW6.out⟩
          case measure => simp [intOf]; omega
        · obtain rfl : k = t.Ops.length := by omega
          have HLa := hide (HL.out.trans (prefW_all t))
          obtain ⟨A9, c9, rfl, hle9, hcm9, hR9⟩ := HO.out.sl
          have HJ := join_any xs ⟨#[32]⟩ A9 c9 wr hle9 (hR9.mono (fun b h => h.2) (fun _ _ => rfl)) (by have := HXl.out; omega) (by
            rw [HLa.out]
            show (txnL t).length ≤ _
            have := prefL_len HOk.out t.Ops.length (Nat.le_refl _)
            rw [prefL_all] at this
            omega)
          rw [HLa.out] at HJ
          have HJ := hide HJ
          clear hR9
          go_wp2_with (go_at_call 34; refine HJ.out.mono ?_; rintro e w9 ⟨rfl, hb9⟩; have HB9 := hide (HBw.out.trans (hb9.mono HBw.out.size)); clear hb9)
          go_ret
          exact ⟨ret_str (by rw [HR.out]; rfl), HB9.out⟩
    | false =>
      have HO3 := hide (own_two (K := fun b => W.heap.size ≤ b) HV2.out HW1.out.size)
      have HW3 := HW2
      have HL3 := hide (show ([⟨#[115]⟩ ++ N, ⟨#[111, 102, 102]⟩] : List ByteArray).map (·.data.toList) = prefW t 0 by rw [HP0.out]; simp [data_app, HNl.out])
      go_upto_region 6 with fail
      clear x0 x1 x2
      obtain ⟨w3, hw3⟩ : ∃ w3, w3 = w2 := ⟨_, rfl⟩
      rw [← hw3] at HO3 HW3 ⊢
      clear hw3
      obtain ⟨x0, x1, x2⟩ := HXv.out w3 HW3.out
      go_upto_region 7 with fail
      clear x0 x1 x2
      go_loopw [3, 5, 21] (fun ws _ i wr => ∃ (k : Nat) (xs : List ByteArray) (v : Value), ws = v ∧ k ≤ t.Ops.length ∧ i = .int .i64 k ∧ Hid (xs.map (·.data.toList) = prefW t k) ∧ Hid (Own tStr 9 wr (fun b => W.heap.size ≤ b ∧ Old wr b) xs v) ∧ Hid (Below W.heap.size W wr)) (fun _ _ i _ => t.Ops.length - (intOf i).toNat)
      case atStart => exact ⟨0, _, _, rfl, Nat.zero_le _, rfl, HL3.out, HO3.out, HW3.out⟩
      case round =>
        obtain ⟨k, xs, v, rfl, hk, rfl, hL, hO, hb⟩ := hrel
        have HL := hide hL.out; have HO := hide hO.out; have HWr := hide hb.out
        clear hL hO hb HO3 HL3 HW3
        have HBw := hide (HB0.out.trans (HWr.out.mono HB0.out.size))
        have HXl := hide (show xs.length = k + 2 by have h := congrArg List.length HL.out; rw [List.length_map, prefW_len t k hk] at h; exact h)
        by_cases hlt : k < t.Ops.length
        · have hki : (k : Int) < (t.Ops.length : Int) := by omega
          have HSu := hide (prefW_succ t k hlt)
          have hok := HOo.out _ (List.getElem_mem hlt)
          obtain ⟨b, off, rfl, hbS, d0, d1, d2⟩ := at_Op HA.out HBw.out hlt
          have HOt := opText_any t.Ops[k]
          obtain ⟨O, hOe⟩ : ∃ O : ByteArray, O = opText t.Ops[k] := ⟨_, rfl⟩
          have HOl := hide (show O.data.toList = opL t.Ops[k] by rw [hOe, opText_eq]; unfold opB; rw [if_pos hok])
          rw [← hOe] at HOt
          have HOt := hide HOt
          clear hOe hok
          generalize t.Ops[k] = o at d0 d1 d2 HOt HOl HSu
          go_upto_region 9 with fail
          have HO4 := hide (HO.out.onlyBelow ((Below.refl wr.heap.size wr).alloc (Nat.le_refl _) (.cells #[.int .i64 o.Kind, .int .i64 o.Key, .int .i64 o.Value] 41)))
          have HW4 := hide (HWr.out.alloc HWr.out.size (.cells #[.int .i64 o.Kind, .int .i64 o.Key, .int .i64 o.Value] 41))
          have HV4 := hide (Blk.new wr 41 #[.int .i64 o.Kind, .int .i64 o.Key, .int .i64 o.Value])
          clear d0 d1 d2 HO
          generalize wr.alloc _ = w4 at HO4 HW4 HV4 ⊢
          have z0 := HV4.out.cell 0; have z1 := HV4.out.cell 1; have z2 := HV4.out.cell 2
          simp only [List.getElem?_toArray, List.getElem?_cons_zero, List.getElem?_cons_succ] at z0 z1 z2
          have HSn := hide (show (xs ++ [O]).map (·.data.toList) = prefW t (k + 1) by rw [HSu.out, List.map_append, HL.out, List.map_cons, HOl.out]; rfl)
          go_wp2_with (first | (go_at_call 33; refine (HOt.out _).mono ?_; rintro e w5 ⟨rfl, hb5⟩; have HO5 := hide (HO4.out.onlyBelow hb5); have HW5 := hide (HW4.out.trans (hb5.mono HW4.out.size)); clear hb5) | (at_builtin; refine wpList_put tStr rfl (.tmp 25) (.tmp 28) 37 rfl 9 i0 _ 16 Tryd.underlying37 hi hz0 hz1 hz2 rfl (by decide) (fun b => W.heap.size ≤ b) (fun _ => False) xs O [.string O] _ rfl HO5.out _ rfl rfl (fun _ h => h.elim) (fun b hb => Nat.le_trans HW5.out.size hb) (by have := HXl.out; simp only [maxLen]; omega) (by have := HXl.out; omega) ?_; intro v6 w6 hO_ hK_; have HO6 := hide hO_; have HW6 := hide (below_only HW5.out hK_ HW5.out.size (fun i hi => hi)); clear hO_ hK_))
          go_roundw
          case rel => exact ⟨k + 1, xs ++ [O], _, rfl, by omega, by go_num, HSn.out, HO6.out, HW6.out⟩
          case measure => simp [intOf]; omega
        · obtain rfl : k = t.Ops.length := by omega
          have HLa := hide (HL.out.trans (prefW_all t))
          obtain ⟨A9, c9, rfl, hle9, hcm9, hR9⟩ := HO.out.sl
          have HJ := join_any xs ⟨#[32]⟩ A9 c9 wr hle9 (hR9.mono (fun b h => h.2) (fun _ _ => rfl)) (by have := HXl.out; omega) (by
            rw [HLa.out]
            show (txnL t).length ≤ _
            have := prefL_len HOk.out t.Ops.length (Nat.le_refl _)
            rw [prefL_all] at this
            omega)
          rw [HLa.out] at HJ
          have HJ := hide HJ
          clear hR9
          go_wp2_with (go_at_call 34; refine HJ.out.mono ?_; rintro e w9 ⟨rfl, hb9⟩; have HB9 := hide (HBw.out.trans (hb9.mono HBw.out.size)); clear hb9)
          go_ret
          exact ⟨ret_str (by rw [HR.out]; rfl), HB9.out⟩
end Go.Proofs.YtjnghnkilnhacaaDoor
