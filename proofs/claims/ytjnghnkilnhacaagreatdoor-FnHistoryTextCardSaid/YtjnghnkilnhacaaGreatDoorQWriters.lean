/- The text of an operation; alive. The draws that hand back a history alone. Small words for laws over drawn histories. slices.IndexFunc and slices.ContainsFunc answer by the first element that the predicate takes, for lists, drafts, operations and edges. slices.IndexFunc and slices.ContainsFunc answer by the first element that the predicate takes, for transactions. The program's TxnValid and the predicates over it. A map from a key of two numbers to a number, that the call made: what it holds, key by key. The program's table of writers. -/
import Derived.Test.YtjnghnkilnhacaaGreatDoorQHistS
import Derived.Test.YtjnghnkilnhacaaGreatDoorQHistD
import Derived.Test.YtjnghnkilnhacaaGreatDoorProg
import Derived.Test.YtjnghnkilnhacaaGreatDoorQElems
import Derived.Deep.RegionHeld3
import Derived.WalkLawsBesides
import Derived.Maps.Own
import Derived.Maps.OwnSet
import Derived.Maps.Views
import Derived.DeepKeys4
import Derived.WideKeyPair
namespace Go.Proofs.YtjnghnkilnhacaaGreatDoor
open Go.RowKit
set_option linter.unusedVariables false
set_option linter.unusedSimpArgs false

def digitsS : ByteArray := { data := #[48, 49, 50, 51, 52, 53, 54, 55, 56, 57, 97, 98, 99, 100, 101, 102, 103, 104, 105, 106, 107, 108, 109, 110, 111, 112, 113, 114, 115, 116, 117, 118, 119, 120, 121, 122] }
theorem itoa_digit (n : Nat) (hn : n < 10) (w : World) :
    Calls Tryz.prog 42 #[.int .i64 n] w fun e w' => e = .returned (.string (digitsS.extract n (n + 1))) ∧ w = w' := by
  have h1 : (0 : Int) ≤ (n : Int) := by omega
  have h2 : (n : Int) < 100 := by omega
  have h3 : (n : Int) < 10 := by omega
  go_enter Tryz.func42, Tryz.ntmps42
  go_wp2
  go_ret
  exact ⟨rfl, rfl⟩

def smallsS : ByteArray := { data := #[48, 48, 48, 49, 48, 50, 48, 51, 48, 52, 48, 53, 48, 54, 48, 55, 48, 56, 48, 57, 49, 48, 49, 49, 49, 50, 49, 51, 49, 52, 49, 53, 49, 54, 49, 55, 49, 56, 49, 57, 50, 48, 50, 49, 50, 50, 50, 51, 50, 52, 50, 53, 50, 54, 50, 55, 50, 56, 50, 57, 51, 48, 51, 49, 51, 50, 51, 51, 51, 52, 51, 53, 51, 54, 51, 55, 51, 56, 51, 57, 52, 48, 52, 49, 52, 50, 52, 51, 52, 52, 52, 53, 52, 54, 52, 55, 52, 56, 52, 57, 53, 48, 53, 49, 53, 50, 53, 51, 53, 52, 53, 53, 53, 54, 53, 55, 53, 56, 53, 57, 54, 48, 54, 49, 54, 50, 54, 51, 54, 52, 54, 53, 54, 54, 54, 55, 54, 56, 54, 57, 55, 48, 55, 49, 55, 50, 55, 51, 55, 52, 55, 53, 55, 54, 55, 55, 55, 56, 55, 57, 56, 48, 56, 49, 56, 50, 56, 51, 56, 52, 56, 53, 56, 54, 56, 55, 56, 56, 56, 57, 57, 48, 57, 49, 57, 50, 57, 51, 57, 52, 57, 53, 57, 54, 57, 55, 57, 56, 57, 57] }
def itoaS (n : Nat) : ByteArray := if n < 10 then digitsS.extract n (n + 1) else smallsS.extract (n * 2) (n * 2 + 2)
set_option maxRecDepth 20000 in
theorem itoa_any (n : Nat) (hn : n < 100) (w : World) :
    Calls Tryz.prog 42 #[.int .i64 n] w fun e w' => e = .returned (.string (itoaS n)) ∧ w = w' := by
  by_cases h : n < 10
  · unfold itoaS; rw [if_pos h]; exact itoa_digit n h w
  · have HI := hide (show itoaS n = smallsS.extract (n * 2) (n * 2 + 2) by unfold itoaS; rw [if_neg h])
    have h1 : (0 : Int) ≤ (n : Int) := by omega
    have h2 : (n : Int) < 100 := by omega
    have h3 : ¬ (n : Int) < 10 := by omega
    go_enter Tryz.func42, Tryz.ntmps42
    go_wp2
    go_ret
    exact ⟨by rw [HI.out]; rfl, rfl⟩
theorem extract_size (s : ByteArray) (a b : Nat) : (s.extract a b).size ≤ b - a := by rw [ByteArray.size_extract]; omega
theorem itoaS_size (n : Nat) : (itoaS n).size ≤ 2 := by
  unfold itoaS
  split
  · have := extract_size digitsS n (n + 1); omega
  · have := extract_size smallsS (n * 2) (n * 2 + 2); omega
def letterS (o : Op) : ByteArray := if o.Kind == 2 then { data := #[119] } else { data := #[114] }
set_option maxHeartbeats 400000 in
theorem letter_any (o : Op) (w : World) : Calls Tryz.prog 51 #[.agg #[.int .i64 o.Kind, .int .i64 o.Key, .int .i64 o.Value]] w fun e w' => e = .returned (.string (letterS o)) ∧ Below w.heap.size w w' := by
  have HC := hide (fun W => writes_any o W)
  have HB := hide ((Below.refl _ w).alloc (Nat.le_refl _) (.cells #[.int .i64 o.Kind, .int .i64 o.Key, .int .i64 o.Value] 46))
  have HL := hide (show letterS o = if o.Kind == 2 then { data := #[119] } else { data := #[114] } from rfl)
  cases hq : (o.Kind == 2) with
  | true =>
    rw [hq] at HC HL
    clear hq
    go_enter Tryz.func51, Tryz.ntmps51
    go_wp2_with (go_at_call 67; refine (HC.out _).mono ?_; rintro e w' ⟨rfl, hb⟩; have HB2 := hide (HB.out.trans (hb.mono (by simp))); clear hb)
    go_ret
    exact ⟨by rw [HL.out]; rfl, HB2.out⟩
  | false =>
    rw [hq] at HC HL
    clear hq
    go_enter Tryz.func51, Tryz.ntmps51
    go_wp2_with (go_at_call 67; refine (HC.out _).mono ?_; rintro e w' ⟨rfl, hb⟩; have HB2 := hide (HB.out.trans (hb.mono (by simp))); clear hb)
    go_ret
    exact ⟨by rw [HL.out]; rfl, HB2.out⟩

theorem letterS_size (o : Op) : (letterS o).size = 1 := by unfold letterS; split <;> rfl
/-- The text of an operation. -/
def opText (o : Op) : ByteArray := if opOk o then letterS o ++ itoaS o.Key.toNat ++ { data := #[61] } ++ itoaS o.Value.toNat else { data := #[] }
set_option maxRecDepth 10000 in
set_option maxHeartbeats 2000000 in
theorem opText_any (o : Op) (w : World) : Calls Tryz.prog 26 #[.agg #[.int .i64 o.Kind, .int .i64 o.Key, .int .i64 o.Value]] w fun e w' => e = .returned (.string (opText o)) ∧ Below w.heap.size w w' := by
  have HV := hide (fun W => opValid_any o W)
  have HB := hide ((Below.refl _ w).alloc (Nat.le_refl _) (.cells #[.int .i64 o.Kind, .int .i64 o.Key, .int .i64 o.Value] 46))
  cases q1 : opOk o with
  | false =>
    have HO := hide (show opText o = { data := #[] } by unfold opText; rw [q1]; rfl)
    rw [q1] at HV
    clear q1
    go_enter Tryz.func26, Tryz.ntmps26
    go_wp2_with (go_at_call 50; refine (HV.out _).mono ?_; rintro e w1 ⟨rfl, hb1⟩; have HB := hide (HB.out.trans (hb1.mono HB.out.size)); clear hb1)
    go_ret
    exact ⟨by rw [HO.out]; rfl, HB.out⟩
  | true =>
    have HO := hide (show opText o = letterS o ++ itoaS o.Key.toNat ++ { data := #[61] } ++ itoaS o.Value.toNat by unfold opText; rw [q1]; rfl)
    have HL := hide (fun W => letter_any o W)
    have hls := letterS_size o
    generalize hL : letterS o = L at HO HL hls
    clear hL
    have hq := q1
    unfold opOk at hq
    simp only [Bool.and_eq_true, inR_iff] at hq
    obtain ⟨⟨⟨_, hk0, hk1⟩, hv0, hv1⟩, _⟩ := hq
    rw [q1] at HV
    clear q1
    generalize hK : o.Kind = Kd at HV HL HB ⊢
    obtain ⟨k, hk⟩ : ∃ k : Nat, o.Key = (k : Int) := ⟨o.Key.toNat, by omega⟩
    obtain ⟨v, hv⟩ : ∃ v : Nat, o.Value = (v : Int) := ⟨o.Value.toNat, by omega⟩
    have HI1 := hide (fun W => itoa_any k (by omega) W)
    have HI2 := hide (fun W => itoa_any v (by omega) W)
    have hs1 := itoaS_size k
    have hs2 := itoaS_size v
    obtain ⟨N1, hN1⟩ : ∃ N, N = itoaS k := ⟨_, rfl⟩
    obtain ⟨N2, hN2⟩ : ∃ N, N = itoaS v := ⟨_, rfl⟩
    rw [← hN1] at HI1 hs1
    rw [← hN2] at HI2 hs2
    rw [show o.Key.toNat = k by omega, show o.Value.toNat = v by omega, ← hN1, ← hN2] at HO
    clear hN1 hN2
    have hadd1 : ∀ W, (Op.stringOp .add L N1).run Tryz.prog W = .ok (.string (L ++ N1)) W := fun W => run_string_add_sum _ _ _ (by omega)
    have hadd2 : ∀ W, (Op.stringOp .add (L ++ N1) { data := #[61] }).run Tryz.prog W = .ok (.string (L ++ N1 ++ { data := #[61] })) W := fun W => run_string_add_sum _ _ _ (by rw [ByteArray.size_append]; have : ({ data := #[61] } : ByteArray).size = 1 := rfl; omega)
    have hadd3 : ∀ W, (Op.stringOp .add (L ++ N1 ++ { data := #[61] }) N2).run Tryz.prog W = .ok (.string (L ++ N1 ++ { data := #[61] } ++ N2)) W := fun W => run_string_add_sum _ _ _ (by rw [ByteArray.size_append, ByteArray.size_append]; have : ({ data := #[61] } : ByteArray).size = 1 := rfl; omega)
    rw [hk, hv] at HV HL HB ⊢
    clear hk hv hk0 hk1 hv0 hv1 hK
    go_enter Tryz.func26, Tryz.ntmps26
    go_wp2_with (go_at_call 50; refine (HV.out _).mono ?_; rintro e w1 ⟨rfl, hb1⟩; have HB := hide (HB.out.trans (hb1.mono HB.out.size)); have z0 := (hb1.cell (p := ⟨w.heap.size, 0, none⟩) (by simp)).trans ((Blk.new w _ _).cell 0); have z1 := (hb1.cell (p := ⟨w.heap.size, 1, none⟩) (by simp)).trans ((Blk.new w _ _).cell 1); have z2 := (hb1.cell (p := ⟨w.heap.size, 2, none⟩) (by simp)).trans ((Blk.new w _ _).cell 2); have hz1 : w.heap.size < w1.heap.size := (by have := hb1.size; simp at this; omega); clear hb1)
    simp only [List.getElem?_toArray, List.getElem?_cons_zero, List.getElem?_cons_succ] at z0 z1 z2
    go_region_held3 (fun w' => w'.cell? ⟨w.heap.size, 0, none⟩ = some (.int .i64 Kd) ∧ w'.cell? ⟨w.heap.size, 1, none⟩ = some (.int .i64 k) ∧ w'.cell? ⟨w.heap.size, 2, none⟩ = some (.int .i64 v) ∧ Below w.heap.size w w')
      (first
        | ((try dsimp only); exact ⟨z0, z1, z2, HB.out.drew⟩)
        | ((try dsimp only); exact ⟨(HB2.out.cell (p := ⟨w.heap.size, 0, none⟩) hz1).trans z0, (HB2.out.cell (p := ⟨w.heap.size, 1, none⟩) hz1).trans z1, (HB2.out.cell (p := ⟨w.heap.size, 2, none⟩) hz1).trans z2, HB.out.drew.trans (HB2.out.mono HB.out.size)⟩)
        | go_keep)
      ((first
        | (go_at_call 51; refine (HL.out _).mono ?_; rintro e w2 ⟨rfl, hb2⟩; have HB2 := hide hb2)
        | (go_at_call 42; refine (HI1.out _).mono ?_; rintro e w' ⟨rfl, rfl⟩)
        | (go_at_call 42; refine (HI2.out _).mono ?_; rintro e w' ⟨rfl, rfl⟩)))
    have HBF := hide (show Below w.heap.size w w2 from HB.out.drew.trans (HB2.out.mono HB.out.size))
    go_wp2
    go_ret
    exact ⟨by rw [HO.out]; rfl, HBF.out⟩

set_option maxRecDepth 10000 in
theorem alive_any (w : World) : Calls Tryz.prog 10 #[] w fun e w' => e = .returned (.bool true) ∧ Below w.heap.size w w' := by
  have HC := hide (fun W => opText_any ⟨2, 0, 5⟩ W)
  have HT := hide (show opText ⟨2, 0, 5⟩ = { data := #[119, 48, 61, 53] } by decide +kernel)
  rw [HT.out] at HC
  go_enter Tryz.func10, Tryz.ntmps10
  go_wp2_with (go_at_call 26; refine (HC.out _).mono ?_; rintro e w1 ⟨rfl, hb1⟩)
  go_ret
  exact ⟨rfl, hb1⟩
def opsN20 (h : List Txn) : Nat := tot (fun x : Txn => x.Ops.length) h
/-- A history that is not too long. -/
def HistS (xs : List Txn) : Prop := xs.length ≤ 8 ∧ ∀ t ∈ xs, t.Ops.length ≤ 20
theorem HistS.ops {xs : List Txn} (h : HistS xs) : opsN20 xs ≤ 400 := by
  obtain ⟨h1, h2⟩ := h
  have : ∀ l : List Txn, (∀ t ∈ l, t.Ops.length ≤ 20) → opsN20 l ≤ 20 * l.length := by
    intro l
    induction l with
    | nil => intro _; simp [opsN20, tot]
    | cons t l ih =>
      intro h
      have h3 := ih (fun x hx => h x (List.mem_cons_of_mem _ hx))
      have h4 := h t List.mem_cons_self
      simp only [opsN20, tot, List.map_cons, List.sum_cons, List.length_cons] at h3 ⊢
      omega
  have := this xs h2
  omega
/-- Some history, in memory. -/
def DrawnHist (w : World) (e : Ending) (w' : World) : Prop := ∃ (xs : List Txn) (v : Value), e = .returned v ∧ HistS xs ∧ Sl tTxn w' (Old w') xs v ∧ Below w.heap.size w w'
set_option maxHeartbeats 1000000 in
theorem drawHistoryText (bs : List Int) (A : Option Addr) (c : Nat) (w : World) (hl : bs.length ≤ 1048576) (hc : bs.length ≤ c) (hcm : c ≤ maxLen) (hA : Row tByte w (Old w) A bs) :
    Calls Tryz.prog 6 #[.slice A bs.length c] w (DrawnHist w) := by
  have HC := hide (open_any bs A c w hl hc hcm hA)
  clear hA
  go_enter Tryz.func6, Tryz.ntmps6
  go_wp2_with fail
  refine HC.out.mono ?_
  rintro e w1 ⟨R, rfl, hR0, hr1, hb1⟩
  have HB1 := hide hb1
  have HR1 := hide hr1
  have HRw := hide hR0
  clear hb1 hr1 hR0 HC
  go_wp2_with fail
  refine (history_any _ R 0 5 6 HR1.out (by omega) (by omega) (by omega) (by omega)).mono ?_
  rintro e w4 ⟨xs, v, rfl, hx, ho, hS, hr4, hg4⟩
  go_wp2_with fail
  go_ret
  exact ⟨xs, v, rfl, ⟨hx, ho⟩, hS.mono (fun _ hb => hb.2) (fun _ _ => rfl), below_gr HB1.out hg4 HB1.out.size HRw.out⟩
theorem Sl.fresh {α : Type} {T : Ty α} {w w' : World} {xs : List α} {v : Value} (h : Sl T w' (New w w') xs v) : ∃ A c, v = .slice A xs.length c ∧ xs.length ≤ c ∧ c ≤ maxLen ∧ Row T w' (Old w') A xs := by
  obtain ⟨A, c, rfl, hc, hm, hr⟩ := h
  exact ⟨A, c, rfl, hc, hm, hr.mono (fun b hb => hb.2) (fun _ _ => rfl)⟩
theorem HistS.le {xs : List Txn} (h : HistS xs) : xs.length ≤ maxLen ∧ xs.length ≤ 1048576 ∧ opsN20 xs ≤ 1048576 ∧ ∀ x ∈ xs, x.Ops.length ≤ 1048576 :=
  ⟨by have := h.1; simp only [maxLen]; omega, by have := h.1; omega, by have := h.ops; omega, fun x hx => by have := h.2 x hx; omega⟩
end Go.Proofs.YtjnghnkilnhacaaGreatDoor
namespace Go.Proofs.YtjnghnkilnhacaaGreatDoor
open Go.RowKit

set_option maxHeartbeats 400000 in
theorem idx_Op (xs : List Op) (A : Option Addr) (c : Nat) (w : World) (g : Nat) (lb : Array Value) (p : Op → Bool)
    (eg : ∀ args w, (callFunc g args).run Tryz.prog w = .ok (.enter g args) w) (hl : xs.length ≤ maxLen) (hR : Row tOp w (Old w) A xs)
    (hf : ∀ x ∈ xs, ∀ cs, tOp.rel w (Old w) x cs → Pred Tryz.prog g lb w (one_ cs) (p x)) :
    Calls Tryz.prog 84 #[.slice A xs.length c, .func (.func g) #[] lb] w fun e w' => e = .returned (.int .i64 (idx p xs)) ∧ Below w.heap.size w w' := by
  unfold maxLen at hl
  go_enter Tryz.func84, Tryz.ntmps84
  go_wp2
  go_loopw [5, 8] (fun _ i wr => ∃ k : Nat, k ≤ xs.length ∧ i = .int .i64 k ∧ Hid (∀ j (hj : j < xs.length), j < k → p xs[j] = false) ∧ Below w.heap.size w wr) (fun _ i _ => xs.length - (intOf i).toNat)
  case atStart => exact ⟨0, Nat.zero_le _, rfl, (fun j hj h => absurd h (by omega)), Below.refl _ _⟩
  case round =>
    obtain ⟨k, hk, rfl, hI, hb⟩ := hrel
    by_cases hlt : k < xs.length
    · obtain ⟨b, off, rfl, hbS, hc⟩ := hR (by omega)
      obtain ⟨cs, hr, hcs⟩ := hc k hlt
      have hp := hf xs[k] (List.getElem_mem hlt) cs hr wr hb
      obtain rfl := hr
      have c0 := (hb.cell (p := ⟨b, off + k * tOp.size + 0, none⟩) hbS).trans (hcs 0 _ rfl)
      have c1 := (hb.cell (p := ⟨b, off + k * tOp.size + 1, none⟩) hbS).trans (hcs 1 _ rfl)
      have c2 := (hb.cell (p := ⟨b, off + k * tOp.size + 2, none⟩) hbS).trans (hcs 2 _ rfl)
      clear hc hf hR hcs
      simp only [tOp, flat, Nat.add_zero] at c0 c1 c2
      simp only [one_] at hp
      cases hq : p xs[k] with
      | true =>
        rw [hq] at hp
        have HQ := hide hq; clear hq
        go_wp2_with (go_at_fn g; refine hp.mono ?_; rintro e w' ⟨rfl, hb'⟩)
        go_ret
        exact ⟨ret_int (idx_hit p xs k hlt HQ.out hI.out).symm, hb'⟩
      | false =>
        rw [hq] at hp
        have HQ := hide hq; clear hq
        go_wp2_with (go_at_fn g; refine hp.mono ?_; rintro e w' ⟨rfl, hb'⟩)
        go_roundw
        case rel => exact ⟨k + 1, by omega, by go_num, (fun j hj h => by rcases Nat.lt_succ_iff_lt_or_eq.1 h with h | rfl; exact hI.out j hj h; exact HQ.out), hb'⟩
        case measure => simp [intOf]; omega
    · have hI2 : Hid (∀ j (hj : j < xs.length), p xs[j] = false) := fun j hj => hI.out j hj (by omega)
      clear hI hR hf
      go_wp2
      go_ret
      exact ⟨ret_int (idx_miss p xs hI2.out).symm, hb⟩
theorem cont_Op (xs : List Op) (A : Option Addr) (c : Nat) (w : World) (g : Nat) (lb : Array Value) (p : Op → Bool)
    (eg : ∀ args w, (callFunc g args).run Tryz.prog w = .ok (.enter g args) w) (hl : xs.length ≤ maxLen) (hR : Row tOp w (Old w) A xs)
    (hf : ∀ x ∈ xs, ∀ cs, tOp.rel w (Old w) x cs → Pred Tryz.prog g lb w (one_ cs) (p x)) :
    Calls Tryz.prog 65 #[.slice A xs.length c, .func (.func g) #[] lb] w fun e w' => e = .returned (.bool (xs.any p)) ∧ Below w.heap.size w w' := by
  have H := hide (idx_Op xs A c w g lb p eg hl hR hf)
  clear hR hf
  go_enter Tryz.func65, Tryz.ntmps65
  go_wp2_with (go_at_call 84; refine H.out.mono ?_; rintro e w' ⟨rfl, hb'⟩)
  go_ret
  refine ⟨ret_bool ?_, hb'⟩
  rw [Bool.eq_iff_iff, ← idx_neg, decide_eq_true_iff]

end Go.Proofs.YtjnghnkilnhacaaGreatDoor
namespace Go.Proofs.YtjnghnkilnhacaaGreatDoor
open Go.RowKit

set_option maxHeartbeats 400000 in
theorem idx_Txn (xs : List Txn) (A : Option Addr) (c : Nat) (w : World) (g : Nat) (lb : Array Value) (p : Txn → Bool)
    (eg : ∀ args w, (callFunc g args).run Tryz.prog w = .ok (.enter g args) w) (hl : xs.length ≤ maxLen) (hR : Row tTxn w (Old w) A xs)
    (hf : ∀ x ∈ xs, ∀ cs, tTxn.rel w (Old w) x cs → Pred Tryz.prog g lb w (one_ cs) (p x)) :
    Calls Tryz.prog 63 #[.slice A xs.length c, .func (.func g) #[] lb] w fun e w' => e = .returned (.int .i64 (idx p xs)) ∧ Below w.heap.size w w' := by
  unfold maxLen at hl
  go_enter Tryz.func63, Tryz.ntmps63
  go_wp2
  go_loopw [5, 8] (fun _ i wr => ∃ k : Nat, k ≤ xs.length ∧ i = .int .i64 k ∧ Hid (∀ j (hj : j < xs.length), j < k → p xs[j] = false) ∧ Below w.heap.size w wr) (fun _ i _ => xs.length - (intOf i).toNat)
  case atStart => exact ⟨0, Nat.zero_le _, rfl, (fun j hj h => absurd h (by omega)), Below.refl _ _⟩
  case round =>
    obtain ⟨k, hk, rfl, hI, hb⟩ := hrel
    by_cases hlt : k < xs.length
    · obtain ⟨b, off, rfl, hbS, hc⟩ := hR (by omega)
      obtain ⟨cs, hr, hcs⟩ := hc k hlt
      have hp := hf xs[k] (List.getElem_mem hlt) cs hr wr hb
      obtain ⟨v, rfl, A2, c2, rfl, hs1, hs2, hs3⟩ := hr
      have c0 := (hb.cell (p := ⟨b, off + k * tTxn.size + 0, none⟩) hbS).trans (hcs 0 _ rfl)
      have c1 := (hb.cell (p := ⟨b, off + k * tTxn.size + 1, none⟩) hbS).trans (hcs 1 _ rfl)
      have c2 := (hb.cell (p := ⟨b, off + k * tTxn.size + 2, none⟩) hbS).trans (hcs 2 _ rfl)
      clear hc hf hR hcs
      simp only [tTxn, Nat.add_zero] at c0 c1 c2
      simp only [one_] at hp
      cases hq : p xs[k] with
      | true =>
        rw [hq] at hp
        have HQ := hide hq; clear hq
        go_wp2_with (go_at_fn g; refine hp.mono ?_; rintro e w' ⟨rfl, hb'⟩)
        go_ret
        exact ⟨ret_int (idx_hit p xs k hlt HQ.out hI.out).symm, hb'⟩
      | false =>
        rw [hq] at hp
        have HQ := hide hq; clear hq
        go_wp2_with (go_at_fn g; refine hp.mono ?_; rintro e w' ⟨rfl, hb'⟩)
        go_roundw
        case rel => exact ⟨k + 1, by omega, by go_num, (fun j hj h => by rcases Nat.lt_succ_iff_lt_or_eq.1 h with h | rfl; exact hI.out j hj h; exact HQ.out), hb'⟩
        case measure => simp [intOf]; omega
    · have hI2 : Hid (∀ j (hj : j < xs.length), p xs[j] = false) := fun j hj => hI.out j hj (by omega)
      clear hI hR hf
      go_wp2
      go_ret
      exact ⟨ret_int (idx_miss p xs hI2.out).symm, hb⟩
theorem cont_Txn (xs : List Txn) (A : Option Addr) (c : Nat) (w : World) (g : Nat) (lb : Array Value) (p : Txn → Bool)
    (eg : ∀ args w, (callFunc g args).run Tryz.prog w = .ok (.enter g args) w) (hl : xs.length ≤ maxLen) (hR : Row tTxn w (Old w) A xs)
    (hf : ∀ x ∈ xs, ∀ cs, tTxn.rel w (Old w) x cs → Pred Tryz.prog g lb w (one_ cs) (p x)) :
    Calls Tryz.prog 38 #[.slice A xs.length c, .func (.func g) #[] lb] w fun e w' => e = .returned (.bool (xs.any p)) ∧ Below w.heap.size w w' := by
  have H := hide (idx_Txn xs A c w g lb p eg hl hR hf)
  clear hR hf
  go_enter Tryz.func38, Tryz.ntmps38
  go_wp2_with (go_at_call 63; refine H.out.mono ?_; rintro e w' ⟨rfl, hb'⟩)
  go_ret
  refine ⟨ret_bool ?_, hb'⟩
  rw [Bool.eq_iff_iff, ← idx_neg, decide_eq_true_iff]

end Go.Proofs.YtjnghnkilnhacaaGreatDoor
namespace Go.Proofs.YtjnghnkilnhacaaGreatDoor
open Go.RowKit Go.Maps
set_option linter.unusedVariables false
set_option linter.unusedSimpArgs false

theorem opLit (o : Op) (w : World) : Calls Tryz.prog 66 #[.agg #[.int .i64 o.Kind, .int .i64 o.Key, .int .i64 o.Value]] w fun e w' => e = .returned (.bool (!opOk o)) ∧ Below w.heap.size w w' := by
  have HV := hide (fun W => opValid_any o W)
  go_enter Tryz.func66, Tryz.ntmps66
  go_wp2_with (go_at_call 50; refine (HV.out _).mono ?_; rintro e w' ⟨rfl, hb'⟩; have HB := hide hb'; clear hb')
  go_ret
  exact ⟨rfl, ((Below.refl _ w).alloc (Nat.le_refl _) _).trans (HB.out.mono (by simp))⟩
set_option maxHeartbeats 400000 in
theorem implTxnValid (t : Txn) (A : Option Addr) (c : Nat) (w : World) (hm : t.Ops.length ≤ maxLen) (hA : Row tOp w (Old w) A t.Ops) :
    Calls Tryz.prog 40 #[.agg #[.int .i64 t.Session, .slice A t.Ops.length c, .bool t.Done]] w fun e w' => e = .returned (.bool (txnOk t)) ∧ Below w.heap.size w w' := by
  have hB : Below w.heap.size w (w.alloc (.cells #[.int .i64 t.Session, .slice A t.Ops.length c, .bool t.Done] 41)) := (Below.refl _ _).alloc (Nat.le_refl _) _
  have HB := hide hB
  have hcont := hide (cont_Op t.Ops A c _ 66 #[] (fun o => !opOk o) (enters_of Tryz.func66 (by kernel_rfl) rfl) hm (hA.old hB)
    (fun x _ cs hr W hW => by
      obtain rfl := hr
      exact (opLit x W).mono (by rintro e w' ⟨rfl, hb⟩; exact ⟨rfl, hW.trans (hb.mono hW.size)⟩)))
  have hm' : t.Ops.length ≤ 9223372036854775807 := by simpa [maxLen] using hm
  clear hA hB hm
  cases hq : inR t.Session 0 3 with
  | false =>
    have HO := hide (show txnOk t = false by unfold txnOk; rw [hq]; simp)
    go_enter Tryz.func40, Tryz.ntmps40
    go_wp2_with (go_at_call 64; refine (sessionOk _ _).mono ?_; rintro e w' ⟨rfl, rfl⟩)
    go_ret
    exact ⟨ret_bool HO.out.symm, HB.out⟩
  | true =>
    by_cases hq2 : t.Ops.length ≤ 6
    · have HO := hide (show (!(t.Ops.any fun o => !opOk o)) = txnOk t by unfold txnOk; rw [hq, List.any_eq_not_all_not]; simp [hq2])
      have hq2' : (t.Ops.length : Int) ≤ 6 := by omega
      go_enter Tryz.func40, Tryz.ntmps40
      go_wp2_with (first | (go_at_call 64; refine (sessionOk _ _).mono ?_; rintro e w' ⟨rfl, rfl⟩) | (go_at_call 65; refine hcont.out.mono ?_; rintro e w' ⟨rfl, hb'⟩; have HB' := hide hb'; clear hb'))
      go_ret
      exact ⟨ret_bool HO.out, HB.out.trans (HB'.out.mono (by simp))⟩
    · have HO := hide (show txnOk t = false by unfold txnOk; simp [hq2])
      have hq2' : ¬ (t.Ops.length : Int) ≤ 6 := by omega
      go_enter Tryz.func40, Tryz.ntmps40
      go_wp2_with (go_at_call 64; refine (sessionOk _ _).mono ?_; rintro e w' ⟨rfl, rfl⟩)
      go_ret
      exact ⟨ret_bool HO.out.symm, HB.out⟩
theorem txnLit (t : Txn) (A : Option Addr) (c : Nat) (w : World) (hm : t.Ops.length ≤ maxLen) (hA : Row tOp w (Old w) A t.Ops) :
    Calls Tryz.prog 39 #[.agg #[.int .i64 t.Session, .slice A t.Ops.length c, .bool t.Done]] w fun e w' => e = .returned (.bool (!txnOk t)) ∧ Below w.heap.size w w' := by
  have hB : Below w.heap.size w (w.alloc (.cells #[.int .i64 t.Session, .slice A t.Ops.length c, .bool t.Done] 41)) := (Below.refl _ _).alloc (Nat.le_refl _) _
  have H := hide (implTxnValid t A c _ hm (hA.old hB))
  clear hA hB
  go_enter Tryz.func39, Tryz.ntmps39
  go_wp2_with (go_at_call 40; refine H.out.mono ?_; rintro e w' ⟨rfl, hb'⟩; have HB := hide hb'; clear hb')
  go_ret
  exact ⟨rfl, ((Below.refl _ w).alloc (Nat.le_refl _) _).trans (HB.out.mono (by simp))⟩
theorem laidOutW : laidOutB Tryz.prog = true := by kernel_rfl
theorem sizeW : ∃ m, Tryz.prog.types.size = m + 1 := ⟨Tryz.prog.types.size - 1, by kernel_rfl⟩
theorem cellsW : Tryz.prog.cellsOf 94 = 2 := by kernel_rfl
theorem cellsI : Tryz.prog.cellsOf 3 = 1 := by kernel_rfl
theorem keyTypeW : Tryz.prog.keyType 94 = true := by kernel_rfl
theorem lawW : WideMaps.KeyLaw Tryz.prog 94 := deep_law_laid laidOutW (m := 2) (by omega) (of_decide_eq_true (by kernel_rfl)) (by kernel_rfl) (by rw [Tryz.underlying94])
theorem keyedW : Keyed Tryz.prog 94 := Keyed.of_law lawW
def litW (a b : Int) : Lit := .string (keyBytes [.int .i64 a, .int .i64 b])
theorem keyW (a b : Int) (ha : (Lit.int .i64 a).wf = true) (hb : (Lit.int .i64 b).wf = true) : keyOf Tryz.prog 94 (.agg #[.int .i64 a, .int .i64 b]) = some (litW a b) := by
  obtain ⟨m, hm⟩ := sizeW
  have hk := keyTypeW
  unfold keyOf
  simp only [Tryz.underlying94]
  rw [if_pos (by simp [hk, Value.formed, Tryz.underlying94, cellsW]), hm]
  unfold Program.keyLits
  simp only [Tryz.underlying94, Value.cells]
  rw [if_pos (by rw [cellsW]; simp)]
  simp [Program.keyLits, Tryz.underlying3, ha, hb, cellsI, litW]
theorem litW_inj {a b c d : Int} (ha : (Lit.int .i64 a).wf = true) (hb : (Lit.int .i64 b).wf = true) (hc : (Lit.int .i64 c).wf = true) (hd : (Lit.int .i64 d).wf = true) (h : litW a b = litW c d) : a = c ∧ b = d := by
  have h1 := lawW.inj (keyW a b ha hb) (by rw [h]; exact keyW c d hc hd)
  simpa using h1
theorem zeroIntW (w : World) : (zeroValue 3).run Tryz.prog w = .ok (.int .i64 0) w := by kernel_rfl

def wf64 (a : Int) : Prop := (Lit.int .i64 a).wf = true
theorem wf64_small {a : Int} (h0 : 0 ≤ a) (h1 : a ≤ 1000000) : wf64 a := by
  unfold wf64 Lit.wf
  have e1 : IntKind.i64.min = -9223372036854775808 := by decide
  have e2 : IntKind.i64.max = 9223372036854775807 := by decide
  simp [e1, e2]
  omega
/-- Block b holds, for each key of two numbers, what f says. -/
def Tab (w : World) (b n : Nat) (f : Int → Int → Option Int) : Prop :=
  ∃ D : DataW Unit, w.ownsMap Tryz.prog 94 (plainElem Tryz.prog 3) b n D ∧ IsMap D ∧
    ∀ x y, wf64 x → wf64 y → Maps.has D (litW x y) = (f x y).isSome ∧ ∀ c, f x y = some c → D.atKey (litW x y) (.lit (.int .i64 0)) = .lit (.int .i64 c)
theorem Tab.made (w : World) : Tab (w.alloc (.map #[] 0)) w.heap.size 0 (fun _ _ => none) :=
  ⟨.map [], World.ownsMap_made w _ _ _, isMap_empty, fun x y _ _ => ⟨rfl, fun c h => by cases h⟩⟩
theorem Tab.lt {w : World} {b n : Nat} {f : Int → Int → Option Int} (h : Tab w b n f) : b < w.heap.size := by obtain ⟨D, h, _⟩ := h; exact h.lt
theorem Tab.keep {w w' : World} {b n : Nat} {f : Int → Int → Option Int} (h : Tab w b n f) (he : w'.heap[b]? = w.heap[b]?) : Tab w' b n f := by
  obtain ⟨D, ⟨es, clock, hb, hr⟩, h2⟩ := h
  exact ⟨D, ⟨es, clock, he.trans hb, hr⟩, h2⟩
theorem put_tab {D : DataW Unit} {f : Int → Int → Option Int} (hD : IsMap D) (hf : ∀ x y, wf64 x → wf64 y → Maps.has D (litW x y) = (f x y).isSome ∧ ∀ c, f x y = some c → D.atKey (litW x y) (.lit (.int .i64 0)) = .lit (.int .i64 c)) (a b c : Int) (ha : wf64 a) (hb : wf64 b) :
    ∀ x y, wf64 x → wf64 y → Maps.has (D.put (litW a b) (.lit (.int .i64 c))) (litW x y) = (if x = a ∧ y = b then some c else f x y).isSome ∧ ∀ c', (if x = a ∧ y = b then some c else f x y) = some c' → (D.put (litW a b) (.lit (.int .i64 c))).atKey (litW x y) (.lit (.int .i64 0)) = .lit (.int .i64 c') := fun x y hx hy => by
  by_cases h : x = a ∧ y = b
  · obtain ⟨rfl, rfl⟩ := h
    rw [if_pos ⟨rfl, rfl⟩]
    refine ⟨by rw [has_put_same hD (by simp [litW, WideAt.IsKeyLit])]; rfl, fun c' hc => ?_⟩
    cases hc
    exact atKey_put_same hD (by simp [litW, WideAt.IsKeyLit]) _ _
  · rw [if_neg h]
    have hne : litW x y ≠ litW a b := fun e => h (litW_inj hx hy ha hb e)
    refine ⟨by rw [has_put_other hne]; exact (hf x y hx hy).1, fun c' hc => ?_⟩
    rw [atKey_put_other hne]
    exact (hf x y hx hy).2 c' hc
theorem below_table {B b : Nat} {w w6 w7 : World} (h : Below B w w6) (g : w6.grownBy w7 (some b)) (hb : B ≤ b) (hB : B ≤ w6.heap.size) : Below B w w7 :=
  ⟨g.os.trans h.os, g.tape.trans h.tape, g.output.trans h.output, Nat.le_trans h.size g.size, fun i hi => (g.block i (by omega) (fun e => by injection e with e; omega)).trans (h.block i hi)⟩
/-- The operations of a history, each with the number of its transaction. -/
def num : List Txn → Nat → List (Nat × Op)
  | [], _ => []
  | t :: r, i => t.Ops.map (fun o => (i, o)) ++ num r (i + 1)
theorem num_take (h : List Txn) : ∀ (i k : Nat) (hk : k < h.length), num (h.take (k + 1)) i = num (h.take k) i ++ h[k].Ops.map (fun o => (i + k, o)) := by
  induction h with
  | nil => intro i k hk; cases hk
  | cons t r ih =>
    intro i k hk
    cases k with
    | zero => simp [num]
    | succ k =>
      have := ih (i + 1) k (by simpa using hk)
      simp only [List.take_succ_cons, num, List.getElem_cons_succ] at this ⊢
      rw [this, List.append_assoc, show i + 1 + k = i + (k + 1) by omega]
def look (l : List (Nat × Op)) (x y : Int) : Option Int := (l.find? fun p => isW x y p.2).map fun p => (p.1 : Int)
def Fresh (l : List (Nat × Op)) : Prop := ∀ i (hi : i < l.length), l[i].2.Kind = 2 → look (l.take i) l[i].2.Key l[i].2.Value = none
theorem Fresh.nil : Fresh [] := fun i hi => absurd hi (by simp)
theorem look_snoc (l : List (Nat × Op)) (p : Nat × Op) (x y : Int) : look (l ++ [p]) x y = (look l x y).or (if isW x y p.2 then some (p.1 : Int) else none) := by
  unfold look
  rw [List.find?_append]
  cases l.find? (fun q => isW x y q.2) with
  | some q => rfl
  | none =>
    simp only [Option.none_or, List.find?_cons, List.find?_nil, Option.map_none]
    split <;> simp_all
theorem Fresh.snoc {l : List (Nat × Op)} {p : Nat × Op} (h : Fresh l) (hp : p.2.Kind = 2 → look l p.2.Key p.2.Value = none) : Fresh (l ++ [p]) := fun i hi hk => by
  rw [List.length_append, List.length_singleton] at hi
  by_cases hil : i < l.length
  · rw [List.getElem_append_left hil] at hk ⊢
    rw [List.take_append_of_le_length (Nat.le_of_lt hil)]
    exact h i hil hk
  · obtain rfl : i = l.length := by omega
    rw [List.getElem_append_right (Nat.le_refl _)] at hk ⊢
    simp only [Nat.sub_self, List.getElem_cons_zero, List.take_left'] at hk ⊢
    exact hp hk
theorem Fresh.not {l r : List (Nat × Op)} {p : Nat × Op} (hp : p.2.Kind = 2) (hl : look l p.2.Key p.2.Value ≠ none) : ¬ Fresh (l ++ p :: r) := fun h => by
  have := h l.length (by simp) (by rw [List.getElem_append_right (Nat.le_refl _)]; simpa using hp)
  rw [List.getElem_append_right (Nat.le_refl _)] at this
  simp only [Nat.sub_self, List.getElem_cons_zero, List.take_left'] at this
  exact hl this
theorem own_keep {w w' : World} {b n : Nat} {D : DataW Unit} (h : w.ownsMap Tryz.prog 94 (plainElem Tryz.prog 3) b n D) (he : w'.heap[b]? = w.heap[b]?) : w'.ownsMap Tryz.prog 94 (plainElem Tryz.prog 3) b n D := by
  obtain ⟨es, clock, hb, hr⟩ := h
  exact ⟨es, clock, he.trans hb, hr⟩
/-- What stands at operation l of transaction k. -/
def pre (h : List Txn) (k l : Nat) (hk : k < h.length) : List (Nat × Op) := num (h.take k) 0 ++ (h[k].Ops.take l).map (fun o => (k, o))
theorem pre_snoc (h : List Txn) (k l : Nat) (hk : k < h.length) (hl : l < h[k].Ops.length) : pre h k (l + 1) hk = pre h k l hk ++ [(k, h[k].Ops[l])] := by
  unfold pre
  rw [List.take_succ_eq_append_getElem hl, List.map_append, List.append_assoc]
  rfl
theorem pre_all (h : List Txn) (k : Nat) (hk : k < h.length) : pre h k h[k].Ops.length hk = num (h.take (k + 1)) 0 := by
  unfold pre
  rw [num_take h 0 k hk, List.take_length, Nat.zero_add]
theorem num_part : ∀ (h : List Txn) (m i : Nat), ∃ r, num h i = num (h.take m) i ++ r
  | [], m, i => ⟨[], by simp [num]⟩
  | t :: r, 0, i => ⟨num (t :: r) i, by simp [num]⟩
  | t :: r, m + 1, i => by
    obtain ⟨q, hq⟩ := num_part r m (i + 1)
    exact ⟨q, by simp only [num, List.take_succ_cons, List.append_assoc]; rw [hq]⟩
theorem num_split (h : List Txn) (k l : Nat) (hk : k < h.length) (hl : l < h[k].Ops.length) : ∃ r, num h 0 = pre h k l hk ++ (k, h[k].Ops[l]) :: r := by
  obtain ⟨r, hr⟩ := num_part h (k + 1) 0
  refine ⟨(h[k].Ops.drop (l + 1)).map (fun o => (k, o)) ++ r, ?_⟩
  rw [hr, num_take h 0 k hk, Nat.zero_add]
  unfold pre
  rw [List.append_assoc, List.append_assoc]
  congr 1
  rw [← List.cons_append, ← List.append_assoc]
  congr 1
  generalize hM : h[k].Ops.map (fun o => (k, o)) = M
  have hlM : l < M.length := by rw [← hM]; simpa using hl
  have e1 : (h[k].Ops.take l).map (fun o => (k, o)) = M.take l := by rw [← hM, List.map_take]
  have e2 : (h[k].Ops.drop (l + 1)).map (fun o => (k, o)) = M.drop (l + 1) := by rw [← hM, List.map_drop]
  have e3 : (k, h[k].Ops[l]) = M[l] := by subst hM; simp
  rw [e1, e2, e3, ← List.drop_eq_getElem_cons hlM, List.take_append_drop]
theorem look_put {l : List (Nat × Op)} {k : Nat} {o : Op} (h2 : o.Kind = 2) (hn : look l o.Key o.Value = none) (x y : Int) : look (l ++ [(k, o)]) x y = if x = o.Key ∧ y = o.Value then some (k : Int) else look l x y := by
  rw [look_snoc]
  by_cases h : x = o.Key ∧ y = o.Value
  · obtain ⟨rfl, rfl⟩ := h
    simp [hn, isW, h2]
  · have hw : isW x y o = false := by
      cases hq : isW x y o with
      | false => rfl
      | true =>
        simp only [isW, Bool.and_eq_true, beq_iff_eq] at hq
        exact absurd ⟨hq.1.2.symm, hq.2.symm⟩ h
    rw [if_neg h, hw]
    simp
theorem look_skip {l : List (Nat × Op)} {k : Nat} {o : Op} (h2 : o.Kind ≠ 2) {x y : Int} : look (l ++ [(k, o)]) x y = look l x y := by
  rw [look_snoc, if_neg (by simp [isW, h2])]
  simp

set_option maxRecDepth 10000 in
set_option maxHeartbeats 4000000 in
theorem writers_any (xs : List Txn) (A : Option Addr) (c : Nat) (w : World) (hm : xs.length ≤ 6) (hA : Row tTxn w (Old w) A xs) (hv : ∀ t ∈ xs, txnOk t = true) :
    Calls Tryz.prog 41 #[.slice A xs.length c] w fun e w' => ((∃ b n, e = .returned (.tuple #[.map (some b), .bool true]) ∧ Fresh (num xs 0) ∧ w.heap.size ≤ b ∧ Tab w' b n (look (num xs 0))) ∨ (e = .returned (.tuple #[.map none, .bool false]) ∧ ¬ Fresh (num xs 0))) ∧ Below w.heap.size w w' := by
  have HA := hide hA
  have HV := hide hv
  have hmm := @run_makeMap Tryz.prog
  have hq : xs.length ≤ 9223372036854775807 := by omega
  clear hA hv
  go_enter Tryz.func41, Tryz.ntmps41
  go_wp2
  go_loopw [15] (fun i wr => ∃ k n : Nat, k ≤ xs.length ∧ i = .int .i64 k ∧ n ≤ 6 * k ∧ Hid (Fresh (num (xs.take k) 0)) ∧ Hid (Tab wr w.heap.size n (look (num (xs.take k) 0))) ∧ Below w.heap.size w wr) (fun i _ => xs.length - (intOf i).toNat)
  case atStart => exact ⟨0, 0, Nat.zero_le _, rfl, Nat.le_refl _, Fresh.nil, Tab.made w, (Below.refl _ w).alloc (Nat.le_refl _) _⟩
  case round =>
    obtain ⟨k, n, hk, rfl, hn, hF, hT, hb⟩ := hrel
    by_cases hlt : k < xs.length
    · obtain ⟨b, off, A2, c2, rfl, hbS, c0, c1, c3, hi1, hi2, hi3⟩ := at_Txn HA.out (Below.refl _ w) hlt
      have d0 := (hb.cell (p := ⟨b, off + k * 3, none⟩) hbS).trans c0
      have d1 := (hb.cell (p := ⟨b, off + k * 3 + 1, none⟩) hbS).trans c1
      have d2 := (hb.cell (p := ⟨b, off + k * 3 + 2, none⟩) hbS).trans c3
      have HR := hide hi3
      have hv := HV.out xs[k] (List.getElem_mem hlt)
      have hv2 := hv
      unfold txnOk at hv2
      simp only [Bool.and_eq_true, decide_eq_true_eq] at hv2
      have h6 := hv2.2.2
      have HOk := hide (fun o (ho : o ∈ xs[k].Ops) => List.all_eq_true.1 hv2.1 o ho)
      have hq2 : xs[k].Ops.length ≤ 9223372036854775807 := by omega
      clear c0 c1 c3 hi3 hi2 hv hv2
      have HB := hide hb
      go_wp2
      go_loopw [23] (fun j wr => ∃ l n2 : Nat, l ≤ xs[k].Ops.length ∧ j = .int .i64 l ∧ n2 ≤ 6 * k + l ∧ Hid (Fresh (pre xs k l hlt)) ∧ Hid (Tab wr w.heap.size n2 (look (pre xs k l hlt))) ∧ Below w.heap.size w wr) (fun j _ => xs[k].Ops.length - (intOf j).toNat)
      case atStart =>
        have hp : pre xs k 0 hlt = num (xs.take k) 0 := by unfold pre; simp
        exact ⟨0, n, Nat.zero_le _, rfl, by omega, by rw [hp]; exact hF, by rw [hp]; exact hT.out.keep (Below.heap_alloc _ _ _ hT.out.lt), HB.out.alloc HB.out.size _⟩
      case round =>
        obtain ⟨l, n2, hl, rfl, hn2, hF2, hT2, hb2⟩ := hrel
        clear hF hT hb d0 d1 d2
        by_cases hlt2 : l < xs[k].Ops.length
        · obtain ⟨b2, off2, rfl, hbS2, d0, d1, d2⟩ := at_Op HR.out hb2 hlt2
          have hok := HOk.out _ (List.getElem_mem hlt2)
          simp only [opOk, inR, Bool.and_eq_true, decide_eq_true_eq] at hok
          have hwk : (Lit.int .i64 xs[k].Ops[l].Key).wf = true := wf64_small hok.1.1.2.1 (by omega)
          have hwv : (Lit.int .i64 xs[k].Ops[l].Value).wf = true := wf64_small hok.1.2.1 (by omega)
          have hwn : (Lit.int .i64 (k : Int)).wf = true := wf64_small (by omega) (by omega)
          obtain ⟨D, hown, hD, hf⟩ := hT2.out
          have hff := hf _ _ hwk hwv
          have HOwn3 := hide ((hown.alloc (.cells #[.int .i64 xs[k].Ops[l].Kind, .int .i64 xs[k].Ops[l].Key, .int .i64 xs[k].Ops[l].Value] 46)).alloc (.cells #[.int .i64 xs[k].Ops[l].Key, .int .i64 xs[k].Ops[l].Value] 94))
          have HPf := hide (put_tab hD hf xs[k].Ops[l].Key xs[k].Ops[l].Value k hwk hwv)
          have HDf := hide (show IsMap D ∧ ∀ x y, wf64 x → wf64 y → Maps.has D (litW x y) = (look (pre xs k l hlt) x y).isSome ∧ ∀ c, look (pre xs k l hlt) x y = some c → D.atKey (litW x y) (.lit (.int .i64 0)) = .lit (.int .i64 c) from ⟨hD, hf⟩)
          have HB3 := hide (((hb2.alloc hb2.size (.cells #[.int .i64 xs[k].Ops[l].Kind, .int .i64 xs[k].Ops[l].Key, .int .i64 xs[k].Ops[l].Value] 46)).alloc (Nat.le_trans hb2.size (by simp)) (.cells #[.int .i64 xs[k].Ops[l].Key, .int .i64 xs[k].Ops[l].Value] 94)))
          have HS := hide (pre_snoc xs k l hlt hlt2)
          have HLk := hide (look_snoc (pre xs k l hlt) (k, xs[k].Ops[l]))
          clear hok hown hD hf
          cases hl2 : look (pre xs k l hlt) xs[k].Ops[l].Key xs[k].Ops[l].Value with
          | none =>
            have HH := hide (show Maps.has D (litW xs[k].Ops[l].Key xs[k].Ops[l].Value) = false by rw [hff.1, hl2]; rfl)
            have HL2 := hide hl2
            clear hff hl2
            cases hkd : (xs[k].Ops[l].Kind == 2) with
            | false =>
              have HKd := hide hkd
              clear hkd
              go_wp2_with (first | (at_lookup; refine wpList_lookup_own_ok_int _ rfl (.tmp 33) (.tmp 34) 64 rfl 94 3 .i64 keyedW Tryz.underlying64 Tryz.underlying3 (zeroIntW _) w.heap.size n2 D rfl HOwn3.out _ _ rfl (keyW _ _ hwk hwv) ?_; intro c9 hat hwc; rw [HH.out]) | (go_at_call 67; refine (writes_any xs[k].Ops[l] _).mono ?_; rintro e w6 ⟨rfl, hb6⟩; rw [HKd.out]; have HB6 := hide (HB5.out.trans (hb6.mono HB5.out.size)); have HOwn6 := hide (own_keep HOwn5.out (hb6.block _ HOwn5.out.lt)); obtain ⟨hc6, hf6⟩ := bcell hb6; have hz6 : wr.heap.size < w6.heap.size := Nat.lt_of_lt_of_le hz5 hb6.size; clear hb6) | (go_at_call 67; refine (writes_any xs[k].Ops[l] _).mono ?_; rintro e w5 ⟨rfl, hb5⟩; rw [HKd.out]; have HB5 := hide hb5; have HOwn5 := hide (own_keep HOwn3.out (hb5.block _ HOwn3.out.lt)); obtain ⟨hc5, hf5⟩ := bcell hb5; have hz5 : wr.heap.size < w5.heap.size := (by have := hb5.size; simp at this; omega); have hy5 : wr.heap.size + 1 < w5.heap.size := (by have := hb5.size; simp at this; omega); clear hb5))
              go_roundw
              case rel => exact ⟨l + 1, n2, by omega, by go_num, by omega, by rw [HS.out]; exact hF2.out.snoc (fun h => absurd (show (xs[k].Ops[l].Kind == 2) = true by rw [h]; rfl) (by rw [HKd.out]; decide)), ⟨D, HOwn6.out, HDf.out.1, fun x y hx hy => by rw [HS.out, look_skip (by intro h; have h' := HKd.out; rw [h] at h'; cases h')]; exact HDf.out.2 x y hx hy⟩, HB3.out.trans (HB6.out.mono HB3.out.size)⟩
              case measure => simp [intOf]; omega
            | true =>
              have HKd := hide hkd
              clear hkd
              go_wp2_with (first | (at_lookup; refine wpList_lookup_own_ok_int _ rfl (.tmp 33) (.tmp 34) 64 rfl 94 3 .i64 keyedW Tryz.underlying64 Tryz.underlying3 (zeroIntW _) w.heap.size n2 D rfl HOwn3.out _ _ rfl (keyW _ _ hwk hwv) ?_; intro c9 hat hwc; rw [HH.out]) | (go_at_call 67; refine (writes_any xs[k].Ops[l] _).mono ?_; rintro e w6 ⟨rfl, hb6⟩; rw [HKd.out]; have HB6 := hide (HB5.out.trans (hb6.mono HB5.out.size)); have HOwn6 := hide (own_keep HOwn5.out (hb6.block _ HOwn5.out.lt)); obtain ⟨hc6, hf6⟩ := bcell hb6; have hz6 : wr.heap.size < w6.heap.size := Nat.lt_of_lt_of_le hz5 hb6.size; clear hb6) | (go_at_call 67; refine (writes_any xs[k].Ops[l] _).mono ?_; rintro e w5 ⟨rfl, hb5⟩; rw [HKd.out]; have HB5 := hide hb5; have HOwn5 := hide (own_keep HOwn3.out (hb5.block _ HOwn3.out.lt)); obtain ⟨hc5, hf5⟩ := bcell hb5; have hz5 : wr.heap.size < w5.heap.size := (by have := hb5.size; simp at this; omega); have hy5 : wr.heap.size + 1 < w5.heap.size := (by have := hb5.size; simp at this; omega); clear hb5) | (at_mapUpdate; refine wpList_mapUpdate_own _ rfl (.tmp 45) (.tmp 46) (.tmp 47) 64 rfl 94 3 keyedW Tryz.underlying64 _ w.heap.size n2 D rfl HOwn6.out (by unfold maxLen; omega) _ _ (litW xs[k].Ops[l].Key xs[k].Ops[l].Value) rfl rfl (keyW _ _ hwk hwv) _ [] (plainElem_int Tryz.underlying3 hwn) ?_; intro w7 hown7 hgrow7; have HOwn7 := hide hown7; have HB7 := hide (below_table (HB3.out.trans (HB6.out.mono HB3.out.size)) hgrow7 (Nat.le_refl _) (Nat.le_trans HB3.out.size HB6.out.size)); clear hown7 hgrow7))
              go_roundw
              case rel => exact ⟨l + 1, n2 + 1, by omega, by go_num, by omega, by rw [HS.out]; exact hF2.out.snoc (fun _ => HL2.out), ⟨_, HOwn7.out, HDf.out.1.put _ _, fun x y hx hy => by rw [HS.out, look_put (by simpa using HKd.out) HL2.out]; exact HPf.out x y hx hy⟩, HB7.out⟩
              case measure => simp [intOf]; omega
          | some c8 =>
            have HH := hide (show Maps.has D (litW xs[k].Ops[l].Key xs[k].Ops[l].Value) = true by rw [hff.1, hl2]; rfl)
            have HL2 := hide hl2
            clear hff hl2
            cases hkd : (xs[k].Ops[l].Kind == 2) with
            | false =>
              have HKd := hide hkd
              clear hkd
              go_wp2_with (first | (at_lookup; refine wpList_lookup_own_ok_int _ rfl (.tmp 33) (.tmp 34) 64 rfl 94 3 .i64 keyedW Tryz.underlying64 Tryz.underlying3 (zeroIntW _) w.heap.size n2 D rfl HOwn3.out _ _ rfl (keyW _ _ hwk hwv) ?_; intro c9 hat hwc; rw [HH.out]) | (go_at_call 67; refine (writes_any xs[k].Ops[l] _).mono ?_; rintro e w6 ⟨rfl, hb6⟩; rw [HKd.out]; have HB6 := hide (HB5.out.trans (hb6.mono HB5.out.size)); have HOwn6 := hide (own_keep HOwn5.out (hb6.block _ HOwn5.out.lt)); obtain ⟨hc6, hf6⟩ := bcell hb6; have hz6 : wr.heap.size < w6.heap.size := Nat.lt_of_lt_of_le hz5 hb6.size; clear hb6) | (go_at_call 67; refine (writes_any xs[k].Ops[l] _).mono ?_; rintro e w5 ⟨rfl, hb5⟩; rw [HKd.out]; have HB5 := hide hb5; have HOwn5 := hide (own_keep HOwn3.out (hb5.block _ HOwn3.out.lt)); obtain ⟨hc5, hf5⟩ := bcell hb5; have hz5 : wr.heap.size < w5.heap.size := (by have := hb5.size; simp at this; omega); have hy5 : wr.heap.size + 1 < w5.heap.size := (by have := hb5.size; simp at this; omega); clear hb5))
              go_roundw
              case rel => exact ⟨l + 1, n2, by omega, by go_num, by omega, by rw [HS.out]; exact hF2.out.snoc (fun h => absurd (show (xs[k].Ops[l].Kind == 2) = true by rw [h]; rfl) (by rw [HKd.out]; decide)), ⟨D, HOwn6.out, HDf.out.1, fun x y hx hy => by rw [HS.out, look_skip (by intro h; have h' := HKd.out; rw [h] at h'; cases h')]; exact HDf.out.2 x y hx hy⟩, HB3.out.trans (HB6.out.mono HB3.out.size)⟩
              case measure => simp [intOf]; omega
            | true =>
              have HKd := hide hkd
              clear hkd
              have HNF := hide (show ¬ Fresh (num xs 0) by
                obtain ⟨r, hr⟩ := num_split xs k l hlt hlt2
                rw [hr]
                exact Fresh.not (by simpa using HKd.out) (by rw [HL2.out]; simp))
              go_wp2_with (first | (at_lookup; refine wpList_lookup_own_ok_int _ rfl (.tmp 33) (.tmp 34) 64 rfl 94 3 .i64 keyedW Tryz.underlying64 Tryz.underlying3 (zeroIntW _) w.heap.size n2 D rfl HOwn3.out _ _ rfl (keyW _ _ hwk hwv) ?_; intro c9 hat hwc; rw [HH.out]) | (go_at_call 67; refine (writes_any xs[k].Ops[l] _).mono ?_; rintro e w6 ⟨rfl, hb6⟩; rw [HKd.out]; have HB6 := hide (HB5.out.trans (hb6.mono HB5.out.size)); have HOwn6 := hide (own_keep HOwn5.out (hb6.block _ HOwn5.out.lt)); obtain ⟨hc6, hf6⟩ := bcell hb6; have hz6 : wr.heap.size < w6.heap.size := Nat.lt_of_lt_of_le hz5 hb6.size; clear hb6) | (go_at_call 67; refine (writes_any xs[k].Ops[l] _).mono ?_; rintro e w5 ⟨rfl, hb5⟩; rw [HKd.out]; have HB5 := hide hb5; have HOwn5 := hide (own_keep HOwn3.out (hb5.block _ HOwn3.out.lt)); obtain ⟨hc5, hf5⟩ := bcell hb5; have hz5 : wr.heap.size < w5.heap.size := (by have := hb5.size; simp at this; omega); have hy5 : wr.heap.size + 1 < w5.heap.size := (by have := hb5.size; simp at this; omega); clear hb5))
              go_ret2
              exact ⟨.inr ⟨rfl, HNF.out⟩, HB3.out.trans (HB5.out.mono HB3.out.size)⟩
        · obtain rfl : l = xs[k].Ops.length := by omega
          have HP := hide (pre_all xs k hlt)
          go_wp2
          go_roundw
          case rel => exact ⟨k + 1, n2, by omega, by go_num, by omega, by rw [← HP.out]; exact hF2.out, by rw [← HP.out]; exact hT2.out, hb2⟩
          case measure => simp [intOf]; omega
    · obtain rfl : k = xs.length := by omega
      have HE := hide (show num (xs.take xs.length) 0 = num xs 0 by rw [List.take_length])
      rw [HE.out] at hF hT
      clear HE HA HV
      go_wp2
      go_ret2
      exact ⟨.inl ⟨_, n, rfl, hF.out, Nat.le_refl _, hT.out⟩, hb⟩
end Go.Proofs.YtjnghnkilnhacaaGreatDoor
