/- DrawSessionBreaks: some history, some orders, and a number. -/
import Derived.Test.YtaaagoppecnmmaaDoorDrawOr
import Derived.Test.YtaaagoppecnmmaaDoorAnyOrder
namespace Go.Proofs.YtaaagoppecnmmaaDoor
open Go.RowKit
set_option linter.unusedVariables false
set_option linter.unusedSimpArgs false

def proZ (k : Nat) : Int := [1, 2, 1, 2, 0, 3].getD k 0
theorem proZ_at (k : Nat) (hk : k < 6) : (#[.int .i64 1, .int .i64 2, .int .i64 1, .int .i64 2, .int .i64 0, .int .i64 3] : Array Value)[k]? = some (.int .i64 (proZ k)) := by
  match k, hk with
  | 0, _ => rfl
  | 1, _ => rfl
  | 2, _ => rfl
  | 3, _ => rfl
  | 4, _ => rfl
  | 5, _ => rfl
theorem proZ_li (k : Nat) (hk : k < 6) : ([.int .i64 1, .int .i64 2, .int .i64 1, .int .i64 2, .int .i64 0, .int .i64 3] : List Value)[k]? = some (.int .i64 (proZ k)) := by
  have := proZ_at k hk
  rwa [List.getElem?_toArray] at this
/-- What is new since lo stays as it is. -/
structure Ev1 (lo : Nat) (w w' : World) : Prop where
  size : w.heap.size ≤ w'.heap.size
  block : ∀ b, lo ≤ b → b < w.heap.size → w'.heap[b]? = w.heap[b]?
theorem Ev1.refl (lo : Nat) (w : World) : Ev1 lo w w := ⟨Nat.le_refl _, fun _ _ _ => rfl⟩
theorem Ev1.alloc (lo : Nat) (w : World) (o : Obj) : Ev1 lo w (w.alloc o) := ⟨by simp, fun b _ h => Below.heap_alloc _ _ _ h⟩
theorem Ev1.gr {lo R : Nat} {w w' : World} (h : Gr w w' R) (hR : R < lo) : Ev1 lo w w' := ⟨h.size, fun b h1 h2 => h.block b h2 (fun e => by injection e with e; omega)⟩
theorem Sl.ev1 {α : Type} {T : Ty α} {lo : Nat} {w w' : World} {xs : List α} {v : Value} (h : Sl T w (In lo w.heap.size) xs v) (e : Ev1 lo w w') : Sl T w' (In lo w'.heap.size) xs v :=
  h.mono (fun b hb => ⟨hb.1, Nat.lt_of_lt_of_le hb.2 e.size⟩) (fun b hb => e.block b hb.1 hb.2)
def FSB (lo R : Nat) (vX : Value) (i : Nat) (v : Value) (w : World) : Prop := match i with
  | 0 => v = vX
  | 1 => v = .pointer (some ⟨R, 0, none⟩)
  | 2 => v = vX
  | 3 => ∃ os : List (List Int), os.length ≤ 3 ∧ (∀ o ∈ os, o.length ≤ 12) ∧ Sl (tSlice tInt) w (In lo w.heap.size) os v
  | 4 => ∃ g : Nat, v = .slice (some ⟨g, 0, none⟩) 6 6 ∧ In lo w.heap.size g ∧ Blk w g 3 #[.int .i64 1, .int .i64 2, .int .i64 1, .int .i64 2, .int .i64 0, .int .i64 3]
  | 5 => v = .pointer (some ⟨R, 0, none⟩)
  | 6 => ∃ y : Nat, v = .int .i64 y ∧ y < 6
  | 7 => ∃ (g k : Nat) (y : Int), v = .pointer (some ⟨g, k, none⟩) ∧ In lo w.heap.size g ∧ w.cell? ⟨g, k, none⟩ = some (.int .i64 y)
  | 8 => ∃ y : Int, v = .int .i64 y
  | 9 => v = vX
  | 10 => ∃ os : List (List Int), os.length ≤ 3 ∧ (∀ o ∈ os, o.length ≤ 12) ∧ Sl (tSlice tInt) w (In lo w.heap.size) os v
  | _ => True
theorem FSB.ev {lo R : Nat} {vX : Value} {i : Nat} {v : Value} {w w' : World} (h : FSB lo R vX i v w) (e : Ev1 lo w w') : FSB lo R vX i v w' := by
  unfold FSB at h ⊢
  split at h
  all_goals first
    | exact h
    | (obtain ⟨os, h1, h2, h3⟩ := h; exact ⟨os, h1, h2, h3.ev1 e⟩)
    | (obtain ⟨g, h1, h2, h3⟩ := h; exact ⟨g, h1, ⟨h2.1, Nat.lt_of_lt_of_le h2.2 e.size⟩, h3.of (e.block g h2.1 h2.2)⟩)
    | (obtain ⟨g, k, y, h1, h2, h3⟩ := h; exact ⟨g, k, y, h1, ⟨h2.1, Nat.lt_of_lt_of_le h2.2 e.size⟩, (World.cell?_of_block (e.block g h2.1 h2.2)).trans h3⟩)
set_option maxRecDepth 10000 in
set_option maxHeartbeats 2000000 in
theorem drawSessionBreaks (bs : List Int) (A : Option Addr) (c : Nat) (w : World) (hl : bs.length ≤ 1048576) (hc : bs.length ≤ c) (hcm : c ≤ maxLen) (hA : Row tByte w (Old w) A bs) :
    Calls Tryd.prog 41 #[.slice A bs.length c] w (DrawnHRN w) := by
  have HC := hide (open_any bs A c w hl hc hcm hA)
  clear hA
  go_enter Tryd.func41, Tryd.ntmps41
  go_wp2_with fail
  refine HC.out.mono ?_
  rintro e w1 ⟨R, rfl, hR0, hr1, hb1⟩
  have HB1 := hide hb1
  have HR1 := hide hr1
  have HRw := hide hR0
  have HRl := hide hr1.lt
  clear hb1 hr1 hR0 HC
  go_wp2_with fail
  refine (history_any _ R 0 6 9 HR1.out (by omega) (by omega) (by omega) (by omega)).mono ?_
  rintro e w4 ⟨xs, v, rfl, hx, ho, hS, hr4, hg4⟩
  have HX := hide (show HistS xs from ⟨hx, ho⟩)
  have HS4 := hide hS
  have HR4 := hide hr4
  have HG4 := hide hg4
  clear hx ho hS hr4 hg4 HR1
  obtain ⟨A4, c4, rfl, h41, h42, hr4⟩ := HS4.out
  have HT4 := hide (show Sl tTxn w4.drew (New w1 w4.drew) xs (.slice A4 xs.length c4) from ⟨A4, c4, rfl, h41, h42, hr4.mono (fun _ h => h) (fun _ _ => rfl)⟩)
  have HG4d := hide (show Gr w1 w4.drew R from gr_drewN HG4.out 1)
  have HR4d := hide (show Rd w4.drew R 400 from HR4.out.keep (w' := w4.drew) (fun _ _ => rfl))
  clear hr4 HS4 HR4 h41 h42 HG4
  go_upto_region 3 with (fail)
  refine wp_region_facts 11 (fun L W => Rd W R (400 + (if L 3 then 40 else 0) + (if L 6 then 1 else 0)) ∧ Gr w1 W R ∧ Sl tTxn W (New w1 W) xs (.slice A4 xs.length c4)) (FSB w1.heap.size R (.slice A4 xs.length c4)) (fun _ a b => Ev1 w1.heap.size a b) [some 11, some 12, some 13, some 14, some 15, some 16, some 17, some 18, some 19, some 2, some 3] (by kernel_rfl) (by kernel_rfl) (by kernel_rfl) (by kernel_rfl) ?_ ?_ ?_ ?_
  · exact ⟨by simpa using HR4d.out, HG4d.out, HT4.out⟩
  · intro i k va wa wb hi hk hn hF hE
    exact hF.ev hE
  · intro i o hi ho a wa L hL hJ hc hd K hK
    have hi' : i = 0 ∨ i = 1 ∨ i = 2 ∨ i = 3 ∨ i = 4 ∨ i = 5 ∨ i = 6 ∨ i = 7 ∨ i = 8 ∨ i = 9 ∨ i = 10 := by omega
    clear hi
    have hsz := hJ.2.1.size
    rcases hi' with rfl | rfl | rfl | rfl | rfl | rfl | rfl | rfl | rfl | rfl | rfl
    all_goals
      simp only [List.getElem?_toArray, List.getElem?_cons_zero, List.getElem?_cons_succ, Option.some.injEq] at ho
      subst ho
      simp only [reduceCtorEq, if_false] at hK
    · have e6 := (hc 6 (by kernel_rfl)).trans rfl
      go_simp
      exact hK _ _ rfl (by simpa using hJ) (Ev1.refl _ _)
    · have e5 := (hc 5 (by kernel_rfl)).trans rfl
      go_simp
      exact hK _ _ rfl (by simpa using hJ) (Ev1.refl _ _)
    · have e6 := (hc 6 (by kernel_rfl)).trans rfl
      go_simp
      exact hK _ _ rfl (by simpa using hJ) (Ev1.refl _ _)
    · have e12 : a.tmps.getD 12 undef = .pointer (some ⟨R, 0, none⟩) := hd 1 12 (by kernel_rfl)
      have e13 : a.tmps.getD 13 undef = .slice A4 xs.length c4 := hd 2 13 (by kernel_rfl)
      have hrow : Row tTxn wa (fun b => R < b ∧ Old wa b) A4 xs := by
        obtain ⟨A5, c5, he5, q1, q2, q3⟩ := hJ.2.2
        obtain ⟨rfl, rfl⟩ : A4 = A5 ∧ c4 = c5 := by simpa using he5
        exact q3.mono (fun b hb => ⟨Nat.lt_of_lt_of_le HRl.out hb.1, hb.2⟩) (fun _ _ => rfl)
      go_simp
      refine (orders_any _ R _ xs A4 c4 9 hJ.1 (by split <;> split <;> omega) (by decide) HX.out hrow).mono ?_
      rintro e w' ⟨os, u, rfl, hol, hoo, hS, hr, hg⟩
      exact hK _ _ ⟨os, hol, hoo, hS.mono (fun b hb => ⟨Nat.le_trans hsz hb.1, hb.2⟩) (fun _ _ => rfl)⟩ ⟨hr.up (by simp [hL] <;> split <;> omega), gr_trans hJ.2.1 hg, hJ.2.2.grNew hg HRl.out⟩ (Ev1.gr hg HRl.out)
    · go_simp
      exact hK _ _ ⟨wa.heap.size, rfl, ⟨hsz, by simp⟩, Blk.new _ _ _⟩ ⟨by simpa using hJ.1.alloc _, gr_alloc hJ.2.1 _, hJ.2.2.mono (fun b hb => ⟨hb.1, Nat.lt_of_lt_of_le hb.2 (by simp)⟩) (fun b hb => Below.heap_alloc _ _ _ hb.2)⟩ (Ev1.alloc _ _ _)
    · have e5 := (hc 5 (by kernel_rfl)).trans rfl
      go_simp
      exact hK _ _ rfl (by simpa using hJ) (Ev1.refl _ _)
    · have e16 : a.tmps.getD 16 undef = .pointer (some ⟨R, 0, none⟩) := hd 5 16 (by kernel_rfl)
      go_simp
      refine (pick_any _ R _ 6 hJ.1 (by split <;> split <;> omega)).mono ?_
      rintro e w' ⟨y, rfl, hy0, hy1, hr, hg⟩
      have hy6 := hy1 (by decide)
      exact hK _ _ ⟨y.toNat, by rw [Int.toNat_of_nonneg hy0], by omega⟩ ⟨hr.up (by simp [hL]), gr_trans hJ.2.1 hg, hJ.2.2.grNew hg HRl.out⟩ (Ev1.gr hg HRl.out)
    · obtain ⟨g, e15, hg, hB⟩ : ∃ g : Nat, a.tmps.getD 15 undef = .slice (some ⟨g, 0, none⟩) 6 6 ∧ In w1.heap.size wa.heap.size g ∧ Blk wa g 3 #[.int .i64 1, .int .i64 2, .int .i64 1, .int .i64 2, .int .i64 0, .int .i64 3] := hd 4 15 (by kernel_rfl)
      obtain ⟨y, e17, hy⟩ : ∃ y : Nat, a.tmps.getD 17 undef = .int .i64 y ∧ y < 6 := hd 6 17 (by kernel_rfl)
      have hz : wa.cell? ⟨g, y, none⟩ = some (.int .i64 (proZ y)) := by rw [hB.cell]; exact proZ_at y hy
      have hy0 : (0 : Int) ≤ (y : Int) := by omega
      have hy6 : (y : Int) < 6 := by omega
      clear hB
      go_simp
      exact hK _ _ ⟨g, y, _, rfl, hg, hz⟩ (by simpa using hJ) (Ev1.refl _ _)
    · obtain ⟨g, k, y, e18, _, hcl⟩ : ∃ (g k : Nat) (y : Int), a.tmps.getD 18 undef = .pointer (some ⟨g, k, none⟩) ∧ In w1.heap.size wa.heap.size g ∧ wa.cell? ⟨g, k, none⟩ = some (.int .i64 y) := hd 7 18 (by kernel_rfl)
      go_simp
      exact hK _ _ ⟨y, rfl⟩ (by simpa using hJ) (Ev1.refl _ _)
    · have e11 : a.tmps.getD 11 undef = .slice A4 xs.length c4 := hd 0 11 (by kernel_rfl)
      go_simp
      exact hK _ _ rfl (by simpa using hJ) (Ev1.refl _ _)
    · obtain ⟨os, hol, hoo, A6, c6, e14, h61, h62, h63⟩ : ∃ os : List (List Int), os.length ≤ 3 ∧ (∀ o ∈ os, o.length ≤ 12) ∧ Sl (tSlice tInt) wa (In w1.heap.size wa.heap.size) os (a.tmps.getD 14 undef) := hd 3 14 (by kernel_rfl)
      rw [Array.getD_eq_getD_getElem?] at e14
      go_simp
      exact hK _ _ ⟨os, hol, hoo, _, _, rfl, h61, h62, h63⟩ (by simpa using hJ) (Ev1.refl _ _)
  · intro vs w' L hL hJ hF
    have f9 : vs 9 = .slice A4 xs.length c4 := hF 9 (by decide)
    obtain ⟨y, f8⟩ : ∃ y : Int, vs 8 = .int .i64 y := hF 8 (by decide)
    obtain ⟨os, hol, hoo, hS⟩ : ∃ os : List (List Int), os.length ≤ 3 ∧ (∀ o ∈ os, o.length ≤ 12) ∧ Sl (tSlice tInt) w' (In w1.heap.size w'.heap.size) os (vs 10) := hF 10 (by decide)
    simp only [putD, Act.put, List.setIfInBounds_toArray, List.set_cons_zero, List.set_cons_succ, List.drop_succ_cons, List.drop_zero]
    rw [f9, f8]
    have HG9 := hide hJ.2.1
    have HT9 := hide hJ.2.2.newOld
    have HU9 := hide (hS.mono (S' := Old w') (fun b hb => hb.2) (fun _ _ => rfl))
    have HOo := hide hoo
    generalize vs 10 = u at HU9 ⊢
    generalize vs 1 = v1; generalize vs 2 = v2; generalize vs 3 = v3; generalize vs 4 = v4; generalize vs 5 = v5; generalize vs 6 = v6; generalize vs 7 = v7; generalize vs 0 = v0
    clear hJ hF hL f9 f8 hS hoo
    go_wp2_with fail
    refine bodyPost_ret (v := .tuple #[_, u, .int .i64 _]) (by simp [results, Tryd.results41, go_sem]; exact ⟨rfl, rfl⟩) rfl ?_
    exact ⟨xs, os, _, u, _, rfl, HX.out, hol, HOo.out, HT9.out, HU9.out, below_gr HB1.out HG9.out HB1.out.size HRw.out⟩
end Go.Proofs.YtaaagoppecnmmaaDoor
