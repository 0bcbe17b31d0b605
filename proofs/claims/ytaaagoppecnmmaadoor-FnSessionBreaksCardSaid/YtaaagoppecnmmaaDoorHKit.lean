/- The draws that hand back a history alone. Small words for laws over drawn histories. -/
import Derived.Test.YtaaagoppecnmmaaDoorHistD
import Derived.Test.YtaaagoppecnmmaaDoorAlive
namespace Go.Proofs.YtaaagoppecnmmaaDoor
open Go.RowKit
set_option linter.unusedVariables false
set_option linter.unusedSimpArgs false

def opsN20 (h : List Txn) : Nat := tot (fun x : Txn => x.Ops.length) h
/-- A history that is not too long. -/
def HistS (xs : List Txn) : Prop := xs.length ≤ 8 ∧ ∀ t ∈ xs, t.Ops.length ≤ 20
theorem HistS.ops {xs : List Txn} (h : HistS xs) : opsN20 xs ≤ 400 := by
  obtain ⟨h1, h2⟩ := h
  have : ∀ l : List Txn, (∀ t ∈ l, t.Ops.length ≤ 20) → opsN20 l ≤ 20 * l.length := by
    intro l
    induction l with
    | nil => intro _; simp [opsN20, tot]
    | cons t l ih =>
      intro h
      have h3 := ih (fun x hx => h x (List.mem_cons_of_mem _ hx))
      have h4 := h t List.mem_cons_self
      simp only [opsN20, tot, List.map_cons, List.sum_cons, List.length_cons] at h3 ⊢
      omega
  have := this xs h2
  omega
/-- Some history, in memory. -/
def DrawnHist (w : World) (e : Ending) (w' : World) : Prop := ∃ (xs : List Txn) (v : Value), e = .returned v ∧ HistS xs ∧ Sl tTxn w' (Old w') xs v ∧ Below w.heap.size w w'
set_option maxHeartbeats 1000000 in
theorem drawShrinkBad (bs : List Int) (A : Option Addr) (c : Nat) (w : World) (hl : bs.length ≤ 1048576) (hc : bs.length ≤ c) (hcm : c ≤ maxLen) (hA : Row tByte w (Old w) A bs) :
    Calls Tryd.prog 24 #[.slice A bs.length c] w (DrawnHist w) := by
  have HC := hide (open_any bs A c w hl hc hcm hA)
  clear hA
  go_enter Tryd.func24, Tryd.ntmps24
  go_wp2_with fail
  refine HC.out.mono ?_
  rintro e w1 ⟨R, rfl, hR0, hr1, hb1⟩
  have HB1 := hide hb1
  have HR1 := hide hr1
  have HRw := hide hR0
  clear hb1 hr1 hR0 HC
  go_wp2_with fail
  refine (history_any _ R 0 5 9 HR1.out (by omega) (by omega) (by omega) (by omega)).mono ?_
  rintro e w4 ⟨xs, v, rfl, hx, ho, hS, hr4, hg4⟩
  go_wp2_with fail
  go_ret
  exact ⟨xs, v, rfl, ⟨hx, ho⟩, hS.mono (fun _ hb => hb.2) (fun _ _ => rfl), below_gr HB1.out hg4 HB1.out.size HRw.out⟩
set_option maxHeartbeats 1000000 in
theorem drawFindSnapshot (bs : List Int) (A : Option Addr) (c : Nat) (w : World) (hl : bs.length ≤ 1048576) (hc : bs.length ≤ c) (hcm : c ≤ maxLen) (hA : Row tByte w (Old w) A bs) :
    Calls Tryd.prog 31 #[.slice A bs.length c] w (DrawnHist w) := by
  have HC := hide (open_any bs A c w hl hc hcm hA)
  clear hA
  go_enter Tryd.func31, Tryd.ntmps31
  go_wp2_with fail
  refine HC.out.mono ?_
  rintro e w1 ⟨R, rfl, hR0, hr1, hb1⟩
  have HB1 := hide hb1
  have HR1 := hide hr1
  have HRw := hide hR0
  clear hb1 hr1 hR0 HC
  go_wp2_with fail
  refine (history_any _ R 0 5 9 HR1.out (by omega) (by omega) (by omega) (by omega)).mono ?_
  rintro e w4 ⟨xs, v, rfl, hx, ho, hS, hr4, hg4⟩
  go_wp2_with fail
  go_ret
  exact ⟨xs, v, rfl, ⟨hx, ho⟩, hS.mono (fun _ hb => hb.2) (fun _ _ => rfl), below_gr HB1.out hg4 HB1.out.size HRw.out⟩
theorem Sl.fresh {α : Type} {T : Ty α} {w w' : World} {xs : List α} {v : Value} (h : Sl T w' (New w w') xs v) : ∃ A c, v = .slice A xs.length c ∧ xs.length ≤ c ∧ c ≤ maxLen ∧ Row T w' (Old w') A xs := by
  obtain ⟨A, c, rfl, hc, hm, hr⟩ := h
  exact ⟨A, c, rfl, hc, hm, hr.mono (fun b hb => hb.2) (fun _ _ => rfl)⟩
theorem Sl.oldE {α : Type} {T : Ty α} {w' : World} {xs : List α} {v : Value} (h : Sl T w' (Old w') xs v) : ∃ A c, v = .slice A xs.length c ∧ xs.length ≤ c ∧ c ≤ maxLen ∧ Row T w' (Old w') A xs := h
theorem HistS.le {xs : List Txn} (h : HistS xs) : xs.length ≤ maxLen ∧ xs.length ≤ 1048576 ∧ opsN20 xs ≤ 1048576 ∧ ∀ x ∈ xs, x.Ops.length ≤ 1048576 :=
  ⟨by have := h.1; simp only [maxLen]; omega, by have := h.1; omega, by have := h.ops; omega, fun x hx => by have := h.2 x hx; omega⟩
theorem Sl.grNew {α : Type} {T : Ty α} {w1 w4 w5 : World} {R : Nat} {xs : List α} {v : Value} (h : Sl T w4 (New w1 w4) xs v) (g : Gr w4 w5 R) (hR : R < w1.heap.size) : Sl T w5 (New w1 w5) xs v :=
  h.mono (fun b hb => ⟨hb.1, Nat.lt_of_lt_of_le hb.2 g.size⟩) (fun b hb => g.block b hb.2 (fun e => by injection e with e; have := hb.1; omega))
theorem Sl.newOld {α : Type} {T : Ty α} {w w' : World} {xs : List α} {v : Value} (h : Sl T w' (New w w') xs v) : Sl T w' (Old w') xs v := h.mono (fun _ hb => hb.2) (fun _ _ => rfl)
end Go.Proofs.YtaaagoppecnmmaaDoor
