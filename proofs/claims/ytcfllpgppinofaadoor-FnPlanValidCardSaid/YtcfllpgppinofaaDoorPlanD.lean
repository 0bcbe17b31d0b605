/- l20Plan: some drafts. -/
import Derived.Test.YtcfllpgppinofaaDoorListsD
import Derived.Test.YtcfllpgppinofaaDoorAnyOrder
namespace Go.Proofs.YtcfllpgppinofaaDoor
open Go.RowKit
set_option linter.unusedVariables false

theorem infoOpD : (Tryd.prog.info? 83).map (fun i => (i.zero, i.size, i.bytes)) = some (some (.agg #[.int .i64 0, .int .i64 0, .int .i64 0]), 3, 24) := by kernel_rfl
theorem infoDraftD : (Tryd.prog.info? 49).map (fun i => (i.zero, i.size, i.bytes)) = some (some (.agg #[.int .i64 0, .slice none 0 0]), 2, 32) := by kernel_rfl
/-- What is new since lo stays as it is. -/
structure Ev0 (lo : Nat) (w w' : World) : Prop where
  size : w.heap.size ≤ w'.heap.size
  block : ∀ b, lo ≤ b → b < w.heap.size → w'.heap[b]? = w.heap[b]?
theorem Ev0.refl (lo : Nat) (w : World) : Ev0 lo w w := ⟨Nat.le_refl _, fun _ _ _ => rfl⟩
theorem Ev0.alloc (lo : Nat) (w : World) (o : Obj) : Ev0 lo w (w.alloc o) := ⟨by simp, fun b _ h => Below.heap_alloc _ _ _ h⟩
theorem Ev0.gr {lo R : Nat} {w w' : World} (h : Gr w w' R) (hR : R < lo) : Ev0 lo w w' := ⟨h.size, fun b h1 h2 => h.block b h2 (fun e => by injection e with e; omega)⟩
theorem Ev0.only {lo : Nat} {K : Nat → Prop} {w w' : World} (h : Only K w w') (hK : ∀ b, K b → b < lo ∨ w.heap.size ≤ b) : Ev0 lo w w' := ⟨h.size, fun b h1 h2 => h.block b h2 (fun e => by have := hK b e; omega)⟩
theorem Sl.ev {α : Type} {T : Ty α} {lo : Nat} {w w' : World} {xs : List α} {v : Value} (h : Sl T w (In lo w.heap.size) xs v) (e : Ev0 lo w w') : Sl T w' (In lo w'.heap.size) xs v :=
  h.mono (fun b hb => ⟨hb.1, Nat.lt_of_lt_of_le hb.2 e.size⟩) (fun b hb => e.block b hb.1 hb.2)
/-- The value is a draft, in new blocks. -/
def DV (lo : Nat) (w : World) (v : Value) : Prop := ∃ (d : Draft) (u : Value), v = .agg #[.int .i64 d.Session, u] ∧ Sl tOp w (In lo w.heap.size) d.Steps u
theorem DV.ev {lo : Nat} {w w' : World} {v : Value} (h : DV lo w v) (e : Ev0 lo w w') : DV lo w' v := by
  obtain ⟨d, u, rfl, h⟩ := h; exact ⟨d, u, rfl, h.ev e⟩
theorem Box.beyond {α : Type} {T : Ty α} {e : TypeId} {w W W' : World} {R P : Nat} {K : Nat → Prop} {xs : List α} {v : Value} {B : Nat} {t : TypeId} {cs : Array Value} {K' : Nat → Prop}
    (h : Box T e w W R P K xs v B t cs) (k : Only K' W W') (hK : ∀ b, K' b → B < b) : Box T e w W' R P K xs v B t cs :=
  ⟨h.rd.only k (fun b hb => Nat.lt_trans (Nat.lt_of_lt_of_le h.rlt h.ge) (hK b hb)), gr_only h.gr k (fun b hb => Nat.le_trans h.ge (Nat.le_of_lt (hK b hb))),
    h.own.only k (fun b hb => ⟨Nat.lt_trans hb.2 h.blk.lt, fun e => by have := hK b e; have := hb.2; omega⟩), h.blk.of (k.block B h.blk.lt (fun e => by have := hK B e; omega)), h.ge, h.rlt⟩

def FBad (lo R : Nat) (vo : Value) (i : Nat) (v : Value) (w : World) : Prop := match i with
  | 0 => v = vo
  | 1 => DV lo w v
  | 2 => ∃ a b c : Int, v = .agg #[.int .i64 a, .int .i64 b, .int .i64 c]
  | 3 => ∃ xs, Sl tOp w (In lo w.heap.size) xs v
  | 4 => DV lo w v
  | 5 => ∃ a b c : Int, v = .agg #[.int .i64 a, .int .i64 b, .int .i64 c]
  | 6 => ∃ xs, Sl tOp w (In lo w.heap.size) xs v
  | 7 => DV lo w v
  | 8 => ∃ a b c : Int, v = .agg #[.int .i64 a, .int .i64 b, .int .i64 c]
  | 9 => ∃ xs, Sl tOp w (In lo w.heap.size) xs v
  | 10 => DV lo w v
  | 11 => ∃ a b c : Int, v = .agg #[.int .i64 a, .int .i64 b, .int .i64 c]
  | 12 => ∃ xs, Sl tOp w (In lo w.heap.size) xs v
  | 13 => DV lo w v
  | 14 => ∃ xs, Sl tOp w (In lo w.heap.size) xs v
  | 15 => DV lo w v
  | 16 => ∃ ds : List Draft, ds.length = 6 ∧ Sl tDraft w (In lo w.heap.size) ds v
  | 17 => v = .pointer (some ⟨R, 0, none⟩)
  | 18 => ∃ y : Nat, v = .int .i64 y ∧ y < 6
  | 19 => ∃ (d : Draft) (b o : Nat) (u : Value), v = .pointer (some ⟨b, o, none⟩) ∧ In lo w.heap.size b ∧ w.cell? ⟨b, o, none⟩ = some (.int .i64 d.Session) ∧ w.cell? ⟨b, o + 1, none⟩ = some u ∧ Sl tOp w (In lo w.heap.size) d.Steps u
  | 20 => DV lo w v
  | 21 => ∃ d : Draft, Sl tDraft w (In lo w.heap.size) [d] v
  | _ => True
theorem FBad.ev {lo R : Nat} {vo : Value} {i : Nat} {v : Value} {w w' : World} (h : FBad lo R vo i v w) (e : Ev0 lo w w') : FBad lo R vo i v w' := by
  unfold FBad at h ⊢
  split at h
  all_goals first
    | exact h
    | exact DV.ev h e
    | (obtain ⟨xs, h⟩ := h; exact ⟨xs, h.ev e⟩)
    | (obtain ⟨ds, h1, h⟩ := h; exact ⟨ds, h1, h.ev e⟩)
    | (obtain ⟨d, b, o, u, h1, h2, h3, h4, h5⟩ := h; exact ⟨d, b, o, u, h1, ⟨h2.1, Nat.lt_of_lt_of_le h2.2 e.size⟩, (World.cell?_of_block (e.block b h2.1 h2.2)).trans h3, (World.cell?_of_block (e.block b h2.1 h2.2)).trans h4, h5.ev e⟩)
/-- A slice that was just made of some steps. -/
theorem sl_of_ops {w : World} {lo : Nat} (hlo : lo ≤ w.heap.size) (a b c : Int) : Sl tOp (w.alloc (.cells #[.int .i64 a, .int .i64 b, .int .i64 c] 83)) (In lo (w.alloc (.cells #[.int .i64 a, .int .i64 b, .int .i64 c] 83)).heap.size) [⟨a, b, c⟩] (.slice (some ⟨w.heap.size, 0, none⟩) 1 1) :=
  ⟨_, 1, rfl, Nat.le_refl _, by simp [maxLen], fun _ => ⟨_, 0, rfl, ⟨hlo, by simp⟩, fun k hk => by
    obtain rfl : k = 0 := by simpa using hk
    refine ⟨_, rfl, fun j u hu => ?_⟩
    rw [(Blk.new w _ _).cell]
    simpa [tOp] using hu⟩⟩

def FStep (lo R B : Nat) (u : Value) (st : List Op) (i : Nat) (v : Value) (w : World) : Prop := match i with
  | 0 => v = .pointer (some ⟨B, 1, none⟩)
  | 1 => v = u
  | 2 => v = .pointer (some ⟨R, 0, none⟩)
  | 3 => ∃ y : Int, v = .int .i64 y
  | 4 => ∃ y : Int, v = .int .i64 y
  | 5 => ∃ g : Nat, v = .slice (some ⟨g, 0, none⟩) 5 5 ∧ In lo w.heap.size g ∧ Blk w g 3 #[.int .i64 0, .int .i64 0, .int .i64 1, .int .i64 1, .int .i64 2]
  | 6 => v = .pointer (some ⟨R, 0, none⟩)
  | 7 => ∃ y : Nat, v = .int .i64 y ∧ y < 5
  | 8 => ∃ (g k : Nat) (y : Int), v = .pointer (some ⟨g, k, none⟩) ∧ In lo w.heap.size g ∧ w.cell? ⟨g, k, none⟩ = some (.int .i64 y)
  | 9 => ∃ y : Int, v = .int .i64 y
  | 10 => ∃ a b c : Int, v = .agg #[.int .i64 a, .int .i64 b, .int .i64 c]
  | 11 => ∃ o : Op, Sl tOp w (In lo w.heap.size) [o] v
  | 12 => ∃ o : Op, Own tOp 83 w (fun b => B < b ∧ Old w b) (st ++ [o]) v
  | 13 => v = .pointer (some ⟨B, 1, none⟩)
  | _ => True
theorem FStep.ev {lo R B : Nat} {u : Value} {st : List Op} {i : Nat} {v : Value} {w w' : World} (h : FStep lo R B u st i v w) (e : Ev0 lo w w') (hi : i = 12 → w' = w) : FStep lo R B u st i v w' := by
  by_cases h12 : i = 12
  · rw [hi h12]; exact h
  unfold FStep at h ⊢
  split at h
  all_goals first
    | exact h
    | (obtain ⟨g, h1, h2, h3⟩ := h; exact ⟨g, h1, ⟨h2.1, Nat.lt_of_lt_of_le h2.2 e.size⟩, h3.of (e.block g h2.1 h2.2)⟩)
    | (obtain ⟨g, k, y, h1, h2, h3⟩ := h; exact ⟨g, k, y, h1, ⟨h2.1, Nat.lt_of_lt_of_le h2.2 e.size⟩, (World.cell?_of_block (e.block g h2.1 h2.2)).trans h3⟩)
    | (obtain ⟨o, h⟩ := h; exact ⟨o, h.ev e⟩)
    | exact absurd rfl h12

theorem only_after {ops : Array Oper} {n i m : Nat} (h : ((List.range n).all fun k => needB ops n i k || k == m) = true) {k : Nat} (hk : k < n) (hn : needB ops n i k = false) : k = m := by
  have := List.all_eq_true.1 h k (List.mem_range.2 hk)
  rw [hn] at this
  simpa using this
theorem Box.drew_ {α : Type} {T : Ty α} {e : TypeId} {w W : World} {R P : Nat} {K : Nat → Prop} {xs : List α} {v : Value} {B : Nat} {t : TypeId} {cs : Array Value} (h : Box T e w W R P K xs v B t cs) : Box T e w W.drew R P K xs v B t cs :=
  ⟨h.rd.keep fun _ _ => rfl, gr_drewN h.gr 1, h.own.mono (fun _ h => h) (fun _ _ => rfl), h.blk.of rfl, h.ge, h.rlt⟩

theorem sl_zero_ops {w : World} {lo : Nat} (hlo : lo ≤ w.heap.size) : Sl tOp (w.alloc (.cells (madeCells #[.int .i64 0, .int .i64 0, .int .i64 0] 15) 83)) (In lo (w.alloc (.cells (madeCells #[.int .i64 0, .int .i64 0, .int .i64 0] 15) 83)).heap.size) (List.replicate 5 ⟨0, 0, 0⟩) (.slice (some ⟨w.heap.size, 0, none⟩) 5 5) :=
  ⟨_, 5, rfl, by simp, by simp [maxLen], fun _ => ⟨_, 0, rfl, ⟨hlo, by simp⟩, fun k hk => by
    refine ⟨_, rfl, fun j u hu => ?_⟩
    rw [(Blk.new w _ _).cell]
    have hk5 : k < 5 := by simpa using hk
    rw [show madeCells #[.int .i64 0, .int .i64 0, .int .i64 0] 15 = #[.int .i64 0, .int .i64 0, .int .i64 0, .int .i64 0, .int .i64 0, .int .i64 0, .int .i64 0, .int .i64 0, .int .i64 0, .int .i64 0, .int .i64 0, .int .i64 0, .int .i64 0, .int .i64 0, .int .i64 0] by kernel_rfl]
    simp only [tOp, flat, List.getElem_replicate] at hu ⊢
    match j, hu with
    | 0, hu => (match k, hk5 with | 0, _ | 1, _ | 2, _ | 3, _ | 4, _ => exact hu)
    | 1, hu => (match k, hk5 with | 0, _ | 1, _ | 2, _ | 3, _ | 4, _ => exact hu)
    | 2, hu => (match k, hk5 with | 0, _ | 1, _ | 2, _ | 3, _ | 4, _ => exact hu)
    | j + 3, hu => simp at hu⟩⟩
theorem sl_one {w : World} {lo : Nat} (hlo : lo ≤ w.heap.size) {d : Draft} {u : Value} (h : Sl tOp w (In lo w.heap.size) d.Steps u) : Sl tDraft (w.alloc (.cells #[.int .i64 d.Session, u] 49)) (In lo (w.alloc (.cells #[.int .i64 d.Session, u] 49)).heap.size) [d] (.slice (some ⟨w.heap.size, 0, none⟩) 1 1) :=
  ⟨_, 1, rfl, Nat.le_refl _, by simp [maxLen], fun _ => ⟨_, 0, rfl, ⟨hlo, by simp⟩, fun k hk => by
    obtain rfl : k = 0 := by simpa using hk
    refine ⟨_, ⟨u, rfl, h.ev (Ev0.alloc _ _ _)⟩, fun j x hx => ?_⟩
    rw [(Blk.new w _ _).cell]
    simpa [tDraft] using hx⟩⟩
theorem sl_six {w : World} {lo : Nat} (hlo : lo ≤ w.heap.size) {d0 d1 d2 d3 d4 d5 : Draft} {u0 u1 u2 u3 u4 u5 : Value} (h0 : Sl tOp w (In lo w.heap.size) d0.Steps u0) (h1 : Sl tOp w (In lo w.heap.size) d1.Steps u1) (h2 : Sl tOp w (In lo w.heap.size) d2.Steps u2) (h3 : Sl tOp w (In lo w.heap.size) d3.Steps u3) (h4 : Sl tOp w (In lo w.heap.size) d4.Steps u4) (h5 : Sl tOp w (In lo w.heap.size) d5.Steps u5) :
    Sl tDraft (w.alloc (.cells #[.int .i64 d0.Session, u0, .int .i64 d1.Session, u1, .int .i64 d2.Session, u2, .int .i64 d3.Session, u3, .int .i64 d4.Session, u4, .int .i64 d5.Session, u5] 49)) (In lo (w.alloc (.cells #[.int .i64 d0.Session, u0, .int .i64 d1.Session, u1, .int .i64 d2.Session, u2, .int .i64 d3.Session, u3, .int .i64 d4.Session, u4, .int .i64 d5.Session, u5] 49)).heap.size) [d0, d1, d2, d3, d4, d5] (.slice (some ⟨w.heap.size, 0, none⟩) 6 6) :=
  ⟨_, 6, rfl, by simp, by simp [maxLen], fun _ => ⟨_, 0, rfl, ⟨hlo, by simp⟩, fun k hk => by
    have hk6 : k < 6 := by simpa using hk
    match k, hk6 with
    | 0, _ => exact ⟨_, ⟨u0, rfl, h0.ev (Ev0.alloc _ _ _)⟩, fun j x hx => by rw [(Blk.new w _ _).cell]; match j, hx with | 0, hx => exact hx | 1, hx => exact hx | j + 2, hx => simp at hx⟩
    | 1, _ => exact ⟨_, ⟨u1, rfl, h1.ev (Ev0.alloc _ _ _)⟩, fun j x hx => by rw [(Blk.new w _ _).cell]; match j, hx with | 0, hx => exact hx | 1, hx => exact hx | j + 2, hx => simp at hx⟩
    | 2, _ => exact ⟨_, ⟨u2, rfl, h2.ev (Ev0.alloc _ _ _)⟩, fun j x hx => by rw [(Blk.new w _ _).cell]; match j, hx with | 0, hx => exact hx | 1, hx => exact hx | j + 2, hx => simp at hx⟩
    | 3, _ => exact ⟨_, ⟨u3, rfl, h3.ev (Ev0.alloc _ _ _)⟩, fun j x hx => by rw [(Blk.new w _ _).cell]; match j, hx with | 0, hx => exact hx | 1, hx => exact hx | j + 2, hx => simp at hx⟩
    | 4, _ => exact ⟨_, ⟨u4, rfl, h4.ev (Ev0.alloc _ _ _)⟩, fun j x hx => by rw [(Blk.new w _ _).cell]; match j, hx with | 0, hx => exact hx | 1, hx => exact hx | j + 2, hx => simp at hx⟩
    | 5, _ => exact ⟨_, ⟨u5, rfl, h5.ev (Ev0.alloc _ _ _)⟩, fun j x hx => by rw [(Blk.new w _ _).cell]; match j, hx with | 0, hx => exact hx | 1, hx => exact hx | j + 2, hx => simp at hx⟩⟩⟩

set_option maxRecDepth 10000 in
set_option maxHeartbeats 8000000 in
theorem plan_any (w : World) (R P : Nat) (n : Int) (h : Rd w R P) (hP : P ≤ 500) (hn : n ≤ 1000000) :
    Calls Tryd.prog 67 #[.pointer (some ⟨R, 0, none⟩), .int .i64 n] w (DrawnS tDraft w R (P + 100) 10) := by
  obtain ⟨i0, hi, hz0, hz1, hz2⟩ := info_parts infoOpD
  obtain ⟨i1, hi1, hz01, hz11, hz21⟩ := info_parts infoDraftD
  have HR0 := hide (h.alloc (.cells #[] 49))
  have HlR := hide h.lt
  have HP := hide hP
  have HG0 := hide (gr_alloc (gr_refl w R) (.cells #[] 49))
  have HO0 := hide (Own.empty (T := tDraft) (e := 49) w (fun b => w.heap.size ≤ b) (Nat.le_refl _))
  clear h hP
  go_enter Tryd.func67, Tryd.ntmps67
  go_wp2_with fail
  refine (pick_any _ R P 5 HR0.out (by have := HP.out; omega)).mono ?_
  rintro e w1 ⟨m, rfl, hm0, hm1, hr1, hg1⟩
  have HR1 := hide hr1
  have HG1 := hide (gr_trans HG0.out hg1)
  have HO1 := hide (Own.onlyGr HO0.out hg1 (by have := HlR.out; omega))
  have hm7 := hm1 (by decide)
  obtain ⟨kk0, rfl⟩ : ∃ n : Nat, m = (n : Int) := ⟨m.toNat, by omega⟩
  have hkk0 : kk0 ≤ 4 := by omega
  clear hm1 hr1 hg1 HG0 HR0 HO0 hm0 hm7
  go_wp2_with fail
  go_loopw [5, 6] (fun v k wr => ∃ (kk : Nat) (xs : List Draft) (vo : Value), vo = v ∧ k = .int .i64 kk ∧ kk ≤ 4 ∧ Hid (xs.length + kk ≤ 4) ∧ Hid (Own tDraft 49 wr (fun b => w.heap.size ≤ b ∧ Old wr b) xs v) ∧ Hid (Rd wr R (P + 41 - 10 * kk)) ∧ Hid (Gr w wr R)) (fun _ k _ => (intOf k).toNat)
  case atStart => exact ⟨kk0, [], _, rfl, rfl, hkk0, by simpa [Hid] using hkk0, HO1.out, HR1.out.up (by omega), HG1.out⟩
  case round =>
    obtain ⟨kk, xs, vo, rfl, rfl, hk, hxl, hO, hR, hG⟩ := hrel
    clear HO1 HR1 HG1
    by_cases hgo : 0 < (kk : Int)
    · go_wp2_with fail
      refine (pick_any _ R (P + 41 - 10 * kk) 3 hR.out (by have := HP.out; omega)).mono ?_
      rintro e w2 ⟨s, rfl, hs0, hs1, hr2, hg2⟩
      have hG2 := gr_trans hG.out hg2
      have hO2 := Own.onlyGr hO.out hg2 (by have := HlR.out; omega)
      have HX0 := hide (Box.make (cs := #[.int .i64 s, .slice none 0 0]) (t := 49) hr2 hG2 hO2 HlR.out)
      clear hr2 hg2 hs1 hO hR hG hO2 hG2
      go_wp2_with fail
      refine (pick_any _ R _ 4 HX0.out.rd (by have := HP.out; omega)).mono ?_
      rintro e w3 ⟨y, rfl, hy0, hy1, hr3, hg3⟩
      have hy4 := hy1 (by decide)
      obtain ⟨jj0, hjj0⟩ : ∃ n : Nat, 1 + y = (n : Int) := ⟨(1 + y).toNat, by omega⟩
      have hjl : jj0 ≤ 4 := by omega
      have hsum : IntKind.i64.wrap (1 + y) = (jj0 : Int) := by rw [hjj0]; exact IntWalk.i64_in _ (by omega)
      have HX1 := hide ((HX0.out.pick hr3 hg3 (fun _ h => h)).up (show P + 41 - 10 * kk + 1 + 1 ≤ P + 51 - 10 * kk - 8 by omega))
      clear hr3 hg3 HX0 hy1
      go_wp2_with fail
      go_loopw [8] (fun j wr => ∃ (jj : Nat) (st : List Op) (u : Value), j = .int .i64 jj ∧ jj ≤ 4 ∧ Hid (st.length + jj ≤ 4) ∧ Hid (Box tDraft 49 w wr R (P + 51 - 10 * kk - 2 * jj) (fun b => w.heap.size ≤ b) xs vo w2.heap.size 49 #[.int .i64 s, u]) ∧ Hid (Own tOp 83 wr (fun b => w2.heap.size < b ∧ Old wr b) st u)) (fun j _ => (intOf j).toNat)
      case atStart => exact ⟨jj0, [], .slice none 0 0, rfl, hjl, by simpa [Hid] using hjl, HX1.out.up (by have : jj0 ≤ 4 := hjl; omega), Own.nil_⟩
      case round =>
        obtain ⟨jj, st, u, rfl, hj, hst, hX, hU⟩ := hrel
        clear HX1
        by_cases hgo2 : 0 < (jj : Int)
        · go_upto_region 9 with (fail)
          have HLB := hide (show w2.heap.size < wr.heap.size from hX.out.blk.lt)
          have HLR := hide (show R < wr.heap.size from Nat.lt_of_lt_of_le (Nat.lt_of_lt_of_le HlR.out hX.out.ge) (Nat.le_of_lt HLB.out))
          refine wp_region_facts 14 (fun L W => Box tDraft 49 w W R (P + 51 - 10 * kk - 2 * jj + (if L 3 then 1 else 0) + (if L 7 then 1 else 0)) (fun b => w.heap.size ≤ b) xs vo w2.heap.size 49 #[.int .i64 s, u] ∧ wr.heap.size ≤ W.heap.size ∧ (L 12 = false → Own tOp 83 W (fun b => w2.heap.size < b ∧ Old W b) st u ∧ ∀ b, b < wr.heap.size → b ≠ R → W.heap[b]? = wr.heap[b]?)) (FStep wr.heap.size R w2.heap.size u st) (fun k a b => Ev0 wr.heap.size a b ∧ (k = 13 → b = a)) [some 26, some 27, some 28, some 29, some 30, some 31, some 32, some 33, some 34, some 35, some 36, some 37, some 38, some 39] (by kernel_rfl) (by kernel_rfl) (by kernel_rfl) (by kernel_rfl) ?_ ?_ ?_ ?_
          · exact ⟨by simpa using hX.out.drew_, Nat.le_refl _, fun _ => ⟨hU.out.mono (fun _ h => h) (fun _ _ => rfl), fun _ _ _ => rfl⟩⟩
          · intro i k va wa wb hi hk hn hF hE
            refine hF.ev hE.1 fun h12 => hE.2 ?_
            subst h12
            exact only_after (by kernel_rfl) hk hn
          · intro i o hi ho a wa L hL hJ hc hd K hK
            have hi' : i = 0 ∨ i = 1 ∨ i = 2 ∨ i = 3 ∨ i = 4 ∨ i = 5 ∨ i = 6 ∨ i = 7 ∨ i = 8 ∨ i = 9 ∨ i = 10 ∨ i = 11 ∨ i = 12 ∨ i = 13 := by omega
            clear hi
            rcases hi' with rfl | rfl | rfl | rfl | rfl | rfl | rfl | rfl | rfl | rfl | rfl | rfl | rfl | rfl
            all_goals
              simp only [List.getElem?_toArray, List.getElem?_cons_zero, List.getElem?_cons_succ, Option.some.injEq] at ho
              subst ho
              simp only [reduceCtorEq, if_false] at hK
            · have e7 := (hc 7 (by kernel_rfl)).trans rfl
              go_simp
              exact hK _ _ rfl (by simpa using hJ) ⟨Ev0.refl _ _, fun _ => rfl⟩
            · have e26 : a.tmps.getD 26 undef = .pointer (some ⟨w2.heap.size, 1, none⟩) := hd 0 26 (by kernel_rfl)
              have c1 := hJ.1.blk.cell 1
              simp only [List.getElem?_toArray, List.getElem?_cons_zero, List.getElem?_cons_succ] at c1
              go_simp
              exact hK _ _ rfl (by simpa using hJ) ⟨Ev0.refl _ _, fun _ => rfl⟩
            · have e0 := (hc 0 (by kernel_rfl)).trans rfl
              go_simp
              exact hK _ _ rfl (by simpa using hJ) ⟨Ev0.refl _ _, fun _ => rfl⟩
            · have e28 : a.tmps.getD 28 undef = .pointer (some ⟨R, 0, none⟩) := hd 2 28 (by kernel_rfl)
              go_simp
              refine (pick_any _ R _ 2 hJ.1.rd (by have := HP.out; split <;> split <;> omega)).mono ?_
              rintro e w' ⟨y, rfl, _, _, hr, hg⟩
              exact hK _ _ ⟨y, rfl⟩ ⟨(hJ.1.pick hr hg (fun _ h => h)).up (by simp [hL] <;> omega), Nat.le_trans hJ.2.1 hg.size, fun h => by
                have h' := hJ.2.2 (by simpa using h)
                exact ⟨Own.onlyGr h'.1 hg (by have := HlR.out; have := hX.out.ge; omega), fun b hb hne => (hg.block b (Nat.lt_of_lt_of_le hb hJ.2.1) (fun e => hne (Option.some.inj e))).trans (h'.2 b hb hne)⟩⟩ ⟨Ev0.gr hg HLR.out, fun h => by cases h⟩
            · obtain ⟨y, e29⟩ : ∃ y : Int, a.tmps.getD 29 undef = .int .i64 y := hd 3 29 (by kernel_rfl)
              go_simp
              exact hK _ _ ⟨_, rfl⟩ (by simpa using hJ) ⟨Ev0.refl _ _, fun _ => rfl⟩
            · go_simp
              exact hK _ _ ⟨wa.heap.size, rfl, ⟨hJ.2.1, by simp⟩, Blk.new _ _ _⟩ ⟨by simpa using hJ.1.alloc _, Nat.le_trans hJ.2.1 (by simp), fun h => by
                have h' := hJ.2.2 (by simpa using h)
                exact ⟨h'.1.mono (fun b hb => ⟨hb.1, Nat.lt_of_lt_of_le hb.2 (by simp)⟩) (fun b hb => Below.heap_alloc _ _ _ hb.2), fun b hb hne => (Below.heap_alloc _ _ _ (Nat.lt_of_lt_of_le hb hJ.2.1)).trans (h'.2 b hb hne)⟩⟩ ⟨Ev0.alloc _ _ _, fun h => by cases h⟩
            · have e0 := (hc 0 (by kernel_rfl)).trans rfl
              go_simp
              exact hK _ _ rfl (by simpa using hJ) ⟨Ev0.refl _ _, fun _ => rfl⟩
            · have e32 : a.tmps.getD 32 undef = .pointer (some ⟨R, 0, none⟩) := hd 6 32 (by kernel_rfl)
              go_simp
              refine (pick_any _ R _ 5 hJ.1.rd (by have := HP.out; split <;> split <;> omega)).mono ?_
              rintro e w' ⟨y, rfl, hy0, hy1, hr, hg⟩
              have hy5 := hy1 (by decide)
              exact hK _ _ ⟨y.toNat, by rw [Int.toNat_of_nonneg hy0], by omega⟩ ⟨(hJ.1.pick hr hg (fun _ h => h)).up (by simp [hL] <;> omega), Nat.le_trans hJ.2.1 hg.size, fun h => by
                have h' := hJ.2.2 (by simpa using h)
                exact ⟨Own.onlyGr h'.1 hg (by have := HlR.out; have := hX.out.ge; omega), fun b hb hne => (hg.block b (Nat.lt_of_lt_of_le hb hJ.2.1) (fun e => hne (Option.some.inj e))).trans (h'.2 b hb hne)⟩⟩ ⟨Ev0.gr hg HLR.out, fun h => by cases h⟩
            · obtain ⟨g, e31, hg, hB⟩ : ∃ g : Nat, a.tmps.getD 31 undef = .slice (some ⟨g, 0, none⟩) 5 5 ∧ In wr.heap.size wa.heap.size g ∧ Blk wa g 3 #[.int .i64 0, .int .i64 0, .int .i64 1, .int .i64 1, .int .i64 2] := hd 5 31 (by kernel_rfl)
              obtain ⟨y, e33, hy⟩ : ∃ y : Nat, a.tmps.getD 33 undef = .int .i64 y ∧ y < 5 := hd 7 33 (by kernel_rfl)
              obtain ⟨z, hz⟩ : ∃ z : Int, wa.cell? ⟨g, y, none⟩ = some (.int .i64 z) := by
                rw [hB.cell]
                match y, hy with
                | 0, _ => exact ⟨_, rfl⟩
                | 1, _ => exact ⟨_, rfl⟩
                | 2, _ => exact ⟨_, rfl⟩
                | 3, _ => exact ⟨_, rfl⟩
                | 4, _ => exact ⟨_, rfl⟩
              have hy0 : (0 : Int) ≤ (y : Int) := by omega
              have hy5 : (y : Int) < 5 := by omega
              clear hB
              go_simp
              exact hK _ _ ⟨g, y, z, rfl, hg, hz⟩ (by simpa using hJ) ⟨Ev0.refl _ _, fun _ => rfl⟩
            · obtain ⟨g, k, y, e34, _, hcl⟩ : ∃ (g k : Nat) (y : Int), a.tmps.getD 34 undef = .pointer (some ⟨g, k, none⟩) ∧ In wr.heap.size wa.heap.size g ∧ wa.cell? ⟨g, k, none⟩ = some (.int .i64 y) := hd 8 34 (by kernel_rfl)
              go_simp
              exact hK _ _ ⟨y, rfl⟩ (by simpa using hJ) ⟨Ev0.refl _ _, fun _ => rfl⟩
            · obtain ⟨y, e30⟩ : ∃ y : Int, a.tmps.getD 30 undef = .int .i64 y := hd 4 30 (by kernel_rfl)
              obtain ⟨z, e35⟩ : ∃ y : Int, a.tmps.getD 35 undef = .int .i64 y := hd 9 35 (by kernel_rfl)
              rw [Array.getD_eq_getD_getElem?] at e30 e35
              go_simp
              exact hK _ _ ⟨_, _, _, rfl⟩ (by simpa using hJ) ⟨Ev0.refl _ _, fun _ => rfl⟩
            · obtain ⟨a1, b1, c1, e36⟩ : ∃ a1 b1 c1 : Int, a.tmps.getD 36 undef = .agg #[.int .i64 a1, .int .i64 b1, .int .i64 c1] := hd 10 36 (by kernel_rfl)
              rw [Array.getD_eq_getD_getElem?] at e36
              go_simp
              exact hK _ _ ⟨⟨a1, b1, c1⟩, sl_of_ops hJ.2.1 _ _ _⟩ ⟨by simpa using hJ.1.alloc _, Nat.le_trans hJ.2.1 (by simp), fun h => by
                have h' := hJ.2.2 (by simpa using h)
                exact ⟨h'.1.mono (fun b hb => ⟨hb.1, Nat.lt_of_lt_of_le hb.2 (by simp)⟩) (fun b hb => Below.heap_alloc _ _ _ hb.2), fun b hb hne => (Below.heap_alloc _ _ _ (Nat.lt_of_lt_of_le hb hJ.2.1)).trans (h'.2 b hb hne)⟩⟩ ⟨Ev0.alloc _ _ _, fun h => by cases h⟩
            · have e27 : a.tmps.getD 27 undef = u := hd 1 27 (by kernel_rfl)
              obtain ⟨o1, A, c, e37, _, _, hrow⟩ : ∃ o : Op, Sl tOp wa (In wr.heap.size wa.heap.size) [o] (a.tmps.getD 37 undef) := hd 11 37 (by kernel_rfl)
              have h' := hJ.2.2 hL
              refine wp_app tOp (.tmp 27) (.tmp 37) 47 rfl 83 i0 _ 24 Tryd.underlying47 hi hz0 hz1 hz2 rfl (by decide) (fun b => w2.heap.size < b ∧ Old wa b) (In wr.heap.size wa.heap.size) (fun b => w2.heap.size < b) st [o1] u e27 h'.1 A 1 c e37 rfl hrow.any (by have := hst.out; simp only [maxLen, List.length_cons, List.length_nil]; omega) (by have := hst.out; simp only [List.length_cons, List.length_nil]; omega) (fun b hb => hb.2) (fun b hb => ⟨hb.2, fun e => Nat.lt_irrefl _ (Nat.lt_of_lt_of_le (hU.out.owned b e).2 hb.1)⟩) (fun b hb => hb.1) (fun b hb => Nat.lt_of_lt_of_le HLB.out hb.1) (Nat.lt_of_lt_of_le HLB.out hJ.2.1) ?_
              intro v' w' hO' hG'
              exact hK v' w' ⟨o1, hO'⟩ ⟨by simpa using hJ.1.beyond (Only.of_grown (K := fun b => w2.heap.size < b) hG' (fun i hi => (hU.out.owned i hi).1)) (fun _ h => h), Nat.le_trans hJ.2.1 hG'.size, fun h => by simp at h⟩
                ⟨⟨hG'.size, fun b h1 h2 => hG'.block b h2 (fun e => Nat.lt_irrefl _ (Nat.lt_of_lt_of_le (hU.out.owned b e.symm).2 h1))⟩, fun h => by cases h⟩
            · have e7 := (hc 7 (by kernel_rfl)).trans rfl
              go_simp
              exact hK _ _ rfl (by simpa using hJ) ⟨Ev0.refl _ _, fun _ => rfl⟩
          · intro vs w' L hL hJ hF
            obtain ⟨o1, hO⟩ : ∃ o : Op, Own tOp 83 w' (fun b => w2.heap.size < b ∧ Old w' b) (st ++ [o]) (vs 12) := hF 12 (by decide)
            have f13 : vs 13 = .pointer (some ⟨w2.heap.size, 1, none⟩) := hF 13 (by decide)
            simp only [putD, Act.put, List.setIfInBounds_toArray, List.set_cons_zero, List.set_cons_succ]
            rw [f13]
            have HX2 := hide hJ.1
            generalize vs 12 = u2 at hO ⊢
            obtain ⟨A2, c2, h2e, _⟩ := hO.sl
            obtain ⟨n2, hn2⟩ : ∃ n, n = (st ++ [o1]).length := ⟨_, rfl⟩
            rw [← hn2] at h2e
            subst h2e
            have HO2 := hide hO
            clear hn2
            have g1 := hJ.1.blk.frozen 1
            have c1 := hJ.1.blk.cell 1
            simp only [List.getElem?_toArray, List.getElem?_cons_zero, List.getElem?_cons_succ] at c1
            generalize vs 0 = v0; generalize vs 1 = v1; generalize vs 2 = v2; generalize vs 3 = v3; generalize vs 4 = v4; generalize vs 5 = v5; generalize vs 6 = v6; generalize vs 7 = v7; generalize vs 8 = v8; generalize vs 9 = v9; generalize vs 10 = v10; generalize vs 11 = v11
            simp only [hL 3 (by decide), hL 7 (by decide), if_true] at HX2
            clear hJ hF hL hO f13
            go_wp2_with fail
            go_roundw
            case rel => exact ⟨jj - 1, st ++ [o1], .slice A2 n2 c2, by go_num, by omega, by have := hst.out; show _ ≤ 4; simp; omega, hide (by simpa using (HX2.out.set 1 (.slice A2 n2 c2)).up (show _ ≤ P + 51 - 10 * kk - 2 * (jj - 1) by omega)), HO2.out.mono (fun b hb => ⟨hb.1, by have := hb.2; simpa [Old, World.setCell] using this⟩) (fun b hb => Below.heap_setCell _ _ _ b (Nat.ne_of_gt hb.1))⟩
            case measure => simp [intOf]; omega
        · obtain rfl : jj = 0 := by omega
          obtain ⟨A2, c2, h2e, hu1, hu2, hu3⟩ := hU.out.sl
          obtain ⟨n2, hn2⟩ : ∃ n, n = st.length := ⟨_, rfl⟩
          rw [← hn2] at h2e
          subst h2e
          have HY := hide (show tDraft.rel wr (fun b => w2.heap.size < b ∧ Old wr b) ⟨s, st⟩ [.int .i64 s, .slice A2 n2 c2] from ⟨_, rfl, A2, c2, by rw [hn2], hu1, hu2, hu3⟩)
          have HOo := hide hX.out.open_
          have HOw := hide (fun b (h : vo.ownBlock = some b) => (hX.out.own.owned b h).2)
          have HR5 := hide hX.out.rd
          have HG5 := hide hX.out.gr
          have HBw := hide hX.out.ge
          have c0 := hX.out.blk.cell 0
          have c1 := hX.out.blk.cell 1
          simp only [List.getElem?_toArray, List.getElem?_cons_zero, List.getElem?_cons_succ] at c0 c1
          clear hu1 hu2 hu3 hn2 hX hU
          go_wp2_with (at_builtin; refine wpList_put tDraft rfl (.tmp 40) (.tmp 42) 44 rfl 49 i1 _ 32 Tryd.underlying44 hi1 hz01 hz11 hz21 rfl (by decide) (fun b => w.heap.size ≤ b) (fun b => w2.heap.size < b ∧ Old wr b) xs ⟨s, st⟩ [.int .i64 s, .slice A2 n2 c2] _ rfl HOo.out _ rfl HY.out (fun b hb => ⟨Nat.le_trans HBw.out (Nat.le_of_lt hb.1), hb.2, fun e => Nat.lt_irrefl _ (Nat.lt_trans hb.1 (HOw.out b e))⟩) (fun b hb => Nat.le_trans HG5.out.size hb) (by have := hxl.out; simp only [maxLen]; omega) (by have := hxl.out; omega) ?_; intro v8 w8 hO_ hK_; have HO8 := hide hO_; have HR8 := hide (HR5.out.only hK_ (fun b hb => Nat.lt_of_lt_of_le HlR.out hb)); have HG8 := hide (gr_only HG5.out hK_ (fun b hb => hb)); clear hO_ hK_)
          go_roundw
          case rel => exact ⟨kk - 1, xs ++ [(⟨s, st⟩ : Draft)], v8, rfl, by go_num, by omega, by have := hxl.out; show _ ≤ 4; simp; omega, HO8, hide (HR8.out.up (by omega)), HG8⟩
          case measure => simp [intOf]; omega
    · obtain rfl : kk = 0 := by omega
      go_wp2_with fail
      refine (odd_any wr R _ n hR.out (by have := HP.out; omega) hn).mono ?_
      rintro e w3 ⟨o, rfl, hr3, hg3⟩
      have HR3 := hide hr3
      have HG3 := hide (gr_trans hG.out hg3)
      have HO3 := hide (Own.onlyGr hO.out hg3 (by have := HlR.out; omega))
      have hx4 : xs.length ≤ 4 := by have := hxl.out; omega
      clear hr3 hg3 hO hR hG hxl
      cases o with
      | false =>
        go_wp2_with fail
        go_ret
        exact ⟨xs, vo, rfl, by omega, HO3.out.oldRow, HR3.out.up (by omega), HG3.out⟩
      | true =>
        go_upto_region 12 with (fail)
        have HLR := hide (show R < w3.heap.size from HR3.out.lt)
        refine wp_region_facts 22 (fun L W => Rd W R (P + 43 + (if L 18 then 1 else 0)) ∧ Gr w3 W R) (FBad w3.heap.size R vo) (fun _ a b => Ev0 w3.heap.size a b) [some 47, some 48, some 49, some 50, some 51, some 52, some 53, some 54, some 55, some 56, some 57, some 58, some 59, some 60, some 61, some 62, some 63, some 64, some 65, some 66, some 67, some 68] (by kernel_rfl) (by kernel_rfl) (by kernel_rfl) (by kernel_rfl) ?_ ?_ ?_ ?_
        · exact ⟨by simpa using (HR3.out.keep (w' := w3.drew) fun _ _ => rfl).up (by omega), gr_drewN (gr_refl _ _) 1⟩
        · intro i k va wa wb hi hk hn hF hE
          exact hF.ev hE
        · intro i o hi ho a wa L hL hJ hc hd K hK
          have hi' : i = 0 ∨ i = 1 ∨ i = 2 ∨ i = 3 ∨ i = 4 ∨ i = 5 ∨ i = 6 ∨ i = 7 ∨ i = 8 ∨ i = 9 ∨ i = 10 ∨ i = 11 ∨ i = 12 ∨ i = 13 ∨ i = 14 ∨ i = 15 ∨ i = 16 ∨ i = 17 ∨ i = 18 ∨ i = 19 ∨ i = 20 ∨ i = 21 := by omega
          clear hi
          have hsz : w3.heap.size ≤ wa.heap.size := hJ.2.size
          rcases hi' with rfl | rfl | rfl | rfl | rfl | rfl | rfl | rfl | rfl | rfl | rfl | rfl | rfl | rfl | rfl | rfl | rfl | rfl | rfl | rfl | rfl | rfl
          all_goals
            simp only [List.getElem?_toArray, List.getElem?_cons_zero, List.getElem?_cons_succ, Option.some.injEq] at ho
            subst ho
            simp only [reduceCtorEq, if_false] at hK
          · have e5 := (hc 5 (by kernel_rfl)).trans rfl
            go_simp
            exact hK _ _ rfl (by simpa using hJ) (Ev0.refl _ _)
          · go_simp
            exact hK _ _ ⟨⟨0, []⟩, _, rfl, none, 0, rfl, Nat.le_refl _, by simp [maxLen], Row.nil⟩ (by simpa using hJ) (Ev0.refl _ _)
          · go_simp
            exact hK _ _ ⟨_, _, _, rfl⟩ (by simpa using hJ) (Ev0.refl _ _)
          · obtain ⟨a1, b1, c1, e49⟩ : ∃ a1 b1 c1 : Int, a.tmps.getD 49 undef = .agg #[.int .i64 a1, .int .i64 b1, .int .i64 c1] := hd 2 49 (by kernel_rfl)
            rw [Array.getD_eq_getD_getElem?] at e49
            go_simp
            exact hK _ _ ⟨[⟨a1, b1, c1⟩], sl_of_ops hsz _ _ _⟩ ⟨by simpa using hJ.1.alloc _, gr_alloc hJ.2 _⟩ (Ev0.alloc _ _ _)
          · obtain ⟨xs3, A3, c3, e50, h31, h32, h33⟩ : ∃ xs, Sl tOp wa (In w3.heap.size wa.heap.size) xs (a.tmps.getD 50 undef) := hd 3 50 (by kernel_rfl)
            rw [Array.getD_eq_getD_getElem?] at e50
            go_simp
            exact hK _ _ ⟨⟨-1, xs3⟩, _, rfl, A3, c3, rfl, h31, h32, h33⟩ (by simpa using hJ) (Ev0.refl _ _)
          · go_simp
            exact hK _ _ ⟨_, _, _, rfl⟩ (by simpa using hJ) (Ev0.refl _ _)
          · obtain ⟨a1, b1, c1, e52⟩ : ∃ a1 b1 c1 : Int, a.tmps.getD 52 undef = .agg #[.int .i64 a1, .int .i64 b1, .int .i64 c1] := hd 5 52 (by kernel_rfl)
            rw [Array.getD_eq_getD_getElem?] at e52
            go_simp
            exact hK _ _ ⟨[⟨a1, b1, c1⟩], sl_of_ops hsz _ _ _⟩ ⟨by simpa using hJ.1.alloc _, gr_alloc hJ.2 _⟩ (Ev0.alloc _ _ _)
          · obtain ⟨xs3, A3, c3, e53, h31, h32, h33⟩ : ∃ xs, Sl tOp wa (In w3.heap.size wa.heap.size) xs (a.tmps.getD 53 undef) := hd 6 53 (by kernel_rfl)
            rw [Array.getD_eq_getD_getElem?] at e53
            go_simp
            exact hK _ _ ⟨⟨0, xs3⟩, _, rfl, A3, c3, rfl, h31, h32, h33⟩ (by simpa using hJ) (Ev0.refl _ _)
          · go_simp
            exact hK _ _ ⟨_, _, _, rfl⟩ (by simpa using hJ) (Ev0.refl _ _)
          · obtain ⟨a1, b1, c1, e55⟩ : ∃ a1 b1 c1 : Int, a.tmps.getD 55 undef = .agg #[.int .i64 a1, .int .i64 b1, .int .i64 c1] := hd 8 55 (by kernel_rfl)
            rw [Array.getD_eq_getD_getElem?] at e55
            go_simp
            exact hK _ _ ⟨[⟨a1, b1, c1⟩], sl_of_ops hsz _ _ _⟩ ⟨by simpa using hJ.1.alloc _, gr_alloc hJ.2 _⟩ (Ev0.alloc _ _ _)
          · obtain ⟨xs3, A3, c3, e56, h31, h32, h33⟩ : ∃ xs, Sl tOp wa (In w3.heap.size wa.heap.size) xs (a.tmps.getD 56 undef) := hd 9 56 (by kernel_rfl)
            rw [Array.getD_eq_getD_getElem?] at e56
            go_simp
            exact hK _ _ ⟨⟨0, xs3⟩, _, rfl, A3, c3, rfl, h31, h32, h33⟩ (by simpa using hJ) (Ev0.refl _ _)
          · go_simp
            exact hK _ _ ⟨_, _, _, rfl⟩ (by simpa using hJ) (Ev0.refl _ _)
          · obtain ⟨a1, b1, c1, e58⟩ : ∃ a1 b1 c1 : Int, a.tmps.getD 58 undef = .agg #[.int .i64 a1, .int .i64 b1, .int .i64 c1] := hd 11 58 (by kernel_rfl)
            rw [Array.getD_eq_getD_getElem?] at e58
            go_simp
            exact hK _ _ ⟨[⟨a1, b1, c1⟩], sl_of_ops hsz _ _ _⟩ ⟨by simpa using hJ.1.alloc _, gr_alloc hJ.2 _⟩ (Ev0.alloc _ _ _)
          · obtain ⟨xs3, A3, c3, e59, h31, h32, h33⟩ : ∃ xs, Sl tOp wa (In w3.heap.size wa.heap.size) xs (a.tmps.getD 59 undef) := hd 12 59 (by kernel_rfl)
            rw [Array.getD_eq_getD_getElem?] at e59
            go_simp
            exact hK _ _ ⟨⟨0, xs3⟩, _, rfl, A3, c3, rfl, h31, h32, h33⟩ (by simpa using hJ) (Ev0.refl _ _)
          · have hmk : ∀ W : World, (Instr.makeSlice 47 (.int .i64 5) (.int .i64 5)).run Tryd.prog W = .ok (.slice (some ⟨W.heap.size, 0, none⟩) 5 5) (W.alloc (.cells (madeCells #[.int .i64 0, .int .i64 0, .int .i64 0] 15) 83)) := fun W => by
              have h := run_make_rowN (P := Tryd.prog) 47 83 i0 _ Tryd.underlying47 hi hz0 .i64 .i64 5 5 (Nat.le_refl _) (by rw [hz2]; omega) (by omega) W
              rw [hz1] at h
              exact h
            go_simp
            exact hK _ _ ⟨List.replicate 5 ⟨0, 0, 0⟩, sl_zero_ops hsz⟩ ⟨by simpa using hJ.1.alloc _, gr_alloc hJ.2 _⟩ (Ev0.alloc _ _ _)
          · obtain ⟨xs3, A3, c3, e61, h31, h32, h33⟩ : ∃ xs, Sl tOp wa (In w3.heap.size wa.heap.size) xs (a.tmps.getD 61 undef) := hd 14 61 (by kernel_rfl)
            rw [Array.getD_eq_getD_getElem?] at e61
            go_simp
            exact hK _ _ ⟨⟨0, xs3⟩, _, rfl, A3, c3, rfl, h31, h32, h33⟩ (by simpa using hJ) (Ev0.refl _ _)
          · obtain ⟨d0, u0, e48, s0⟩ : DV w3.heap.size wa (a.tmps.getD 48 undef) := hd 1 48 (by kernel_rfl)
            obtain ⟨d1, u1, e51, s1⟩ : DV w3.heap.size wa (a.tmps.getD 51 undef) := hd 4 51 (by kernel_rfl)
            obtain ⟨d2, u2, e54, s2⟩ : DV w3.heap.size wa (a.tmps.getD 54 undef) := hd 7 54 (by kernel_rfl)
            obtain ⟨d3, u3, e57, s3⟩ : DV w3.heap.size wa (a.tmps.getD 57 undef) := hd 10 57 (by kernel_rfl)
            obtain ⟨d4, u4, e60, s4⟩ : DV w3.heap.size wa (a.tmps.getD 60 undef) := hd 13 60 (by kernel_rfl)
            obtain ⟨d5, u5, e62, s5⟩ : DV w3.heap.size wa (a.tmps.getD 62 undef) := hd 15 62 (by kernel_rfl)
            rw [Array.getD_eq_getD_getElem?] at e48 e51 e54 e57 e60 e62
            go_simp
            exact hK _ _ ⟨[d0, d1, d2, d3, d4, d5], rfl, sl_six hsz s0 s1 s2 s3 s4 s5⟩ ⟨by simpa using hJ.1.alloc _, gr_alloc hJ.2 _⟩ (Ev0.alloc _ _ _)
          · have e0 := (hc 0 (by kernel_rfl)).trans rfl
            go_simp
            exact hK _ _ rfl (by simpa using hJ) (Ev0.refl _ _)
          · have e64 : a.tmps.getD 64 undef = .pointer (some ⟨R, 0, none⟩) := hd 17 64 (by kernel_rfl)
            go_simp
            refine (pick_any _ R _ 6 hJ.1 (by have := HP.out; split <;> omega)).mono ?_
            rintro e w' ⟨y, rfl, hy0, hy1, hr, hg⟩
            have hy6 := hy1 (by decide)
            exact hK _ _ ⟨y.toNat, by rw [Int.toNat_of_nonneg hy0], by omega⟩ ⟨hr.up (by simp [hL]), gr_trans hJ.2 hg⟩ (Ev0.gr hg HLR.out)
          · obtain ⟨ds, h6, A6, c6, e63, h61, h62, h63⟩ : ∃ ds : List Draft, ds.length = 6 ∧ Sl tDraft wa (In w3.heap.size wa.heap.size) ds (a.tmps.getD 63 undef) := hd 16 63 (by kernel_rfl)
            obtain ⟨y, e65, hy⟩ : ∃ y : Nat, a.tmps.getD 65 undef = .int .i64 y ∧ y < 6 := hd 18 65 (by kernel_rfl)
            obtain ⟨b6, o6, rfl, hb6, hrow6⟩ := h63 (by omega)
            obtain ⟨cs6, ⟨u6, rfl, hs6⟩, hc6⟩ := hrow6 y (by omega)
            have z0 := hc6 0 _ rfl
            have z1 := hc6 1 _ rfl
            simp only [tDraft, Nat.add_zero] at z0 z1
            rw [h6] at e63 h61
            have hy0 : (0 : Int) ≤ (y : Int) := by omega
            have hy6 : (y : Int) < 6 := by omega
            clear hrow6 hc6
            go_simp
            exact hK _ _ ⟨ds[y], b6, o6 + y * 2, u6, rfl, hb6, z0, z1, hs6⟩ (by simpa using hJ) (Ev0.refl _ _)
          · obtain ⟨d, b6, o6, u6, e66, hb6, z0, z1, A6, c6, rfl, hs6⟩ : ∃ (d : Draft) (b o : Nat) (u : Value), a.tmps.getD 66 undef = .pointer (some ⟨b, o, none⟩) ∧ In w3.heap.size wa.heap.size b ∧ wa.cell? ⟨b, o, none⟩ = some (.int .i64 d.Session) ∧ wa.cell? ⟨b, o + 1, none⟩ = some u ∧ Sl tOp wa (In w3.heap.size wa.heap.size) d.Steps u := hd 19 66 (by kernel_rfl)
            go_simp
            exact hK _ _ ⟨d, _, rfl, A6, c6, rfl, hs6⟩ (by simpa using hJ) (Ev0.refl _ _)
          · obtain ⟨d, u6, e67, A6, c6, rfl, h61, h62, h63⟩ : DV w3.heap.size wa (a.tmps.getD 67 undef) := hd 20 67 (by kernel_rfl)
            rw [Array.getD_eq_getD_getElem?] at e67
            go_simp
            exact hK _ _ ⟨d, sl_one hsz (d := d) ⟨A6, c6, rfl, h61, h62, h63⟩⟩ ⟨by simpa using hJ.1.alloc _, gr_alloc hJ.2 _⟩ (Ev0.alloc _ _ _)
        · intro vs w' L hL hJ hF
          have f0 : vs 0 = vo := hF 0 (by decide)
          obtain ⟨d, A6, c6, e68, h61, h62, h63⟩ : ∃ d : Draft, Sl tDraft w' (In w3.heap.size w'.heap.size) [d] (vs 21) := hF 21 (by decide)
          simp only [putD, Act.put, List.setIfInBounds_toArray, List.set_cons_zero, List.set_cons_succ, List.drop_succ_cons, List.drop_zero]
          rw [f0, e68]
          have HRw := hide (h63.any)
          have HOv := hide (Own.onlyGr HO3.out hJ.2 (by have := HlR.out; omega))
          have HOb := hide (fun b (h : vo.ownBlock = some b) => (HO3.out.owned b h).2)
          have HR4 := hide (hJ.1.up (show P + 43 + (if L 18 then 1 else 0) ≤ P + 44 by split <;> omega))
          have HG4 := hide (gr_trans HG3.out hJ.2)
          have HS4 := hide hJ.2.size
          have HS3 := hide HG3.out.size
          generalize vs 1 = v1; generalize vs 2 = v2; generalize vs 3 = v3; generalize vs 4 = v4; generalize vs 5 = v5; generalize vs 6 = v6; generalize vs 7 = v7; generalize vs 8 = v8; generalize vs 9 = v9; generalize vs 10 = v10; generalize vs 11 = v11; generalize vs 12 = v12; generalize vs 13 = v13; generalize vs 14 = v14; generalize vs 15 = v15; generalize vs 16 = v16; generalize vs 17 = v17; generalize vs 18 = v18; generalize vs 19 = v19; generalize vs 20 = v20
          clear hJ hF hL f0 e68 h61 h62 h63 HR3 HG3 HO3
          go_wp2_with (at_builtin; refine wpList_cat tDraft rfl (.tmp 47) (.tmp 68) 44 rfl 49 i1 _ 32 Tryd.underlying44 hi1 hz01 hz11 hz21 rfl (by decide) (fun b => w.heap.size ≤ b) (In w3.heap.size w'.heap.size) xs [d] _ rfl HOv.out _ _ _ rfl rfl HRw.out (fun b hb => ⟨Nat.le_trans HS3.out hb.1, hb.2, fun e => Nat.lt_irrefl _ (Nat.lt_of_lt_of_le (HOb.out b e) hb.1)⟩) (fun b hb => Nat.le_trans (Nat.le_trans HS3.out HS4.out) hb) (by simp only [maxLen, List.length_cons, List.length_nil]; omega) (by simp only [List.length_cons, List.length_nil]; omega) ?_; intro v8 w8 hO_ hK_; have HO8 := hide hO_; have HR8 := hide (HR4.out.only hK_ (fun b hb => Nat.lt_of_lt_of_le HlR.out hb)); have HG8 := hide (gr_only HG4.out hK_ (fun b hb => hb)); clear hO_ hK_)
          go_ret
          exact ⟨_, _, rfl, by simp; omega, HO8.out.oldRow, HR8.out.up (by omega), HG8.out⟩
/-- DrawPlanValid. -/
theorem drawPlan (bs : List Int) (A : Option Addr) (c : Nat) (w : World) (hl : bs.length ≤ 1048576) (hc : bs.length ≤ c) (hcm : c ≤ maxLen) (hA : Row tByte w (Old w) A bs) :
    Calls Tryd.prog 27 #[.slice A bs.length c] w (DrawnSL tDraft 10 w) := by
  have HC := hide (open_any bs A c w hl hc hcm hA)
  clear hA
  go_enter Tryd.func27, Tryd.ntmps27
  go_wp2_with fail
  refine HC.out.mono ?_
  rintro e w1 ⟨R, rfl, hR0, hr1, hb1⟩
  have HB1 := hide hb1
  have HR1 := hide hr1
  clear hb1 hr1
  go_wp2_with fail
  refine (plan_any _ R 0 2 HR1.out (by omega) (by omega)).mono ?_
  rintro e w4 ⟨xs, v, rfl, hx, ho, hr4, hg4⟩
  have HB4 := hide (below_gr HB1.out hg4 HB1.out.size hR0)
  have HO := hide ho
  clear ho hr4 hg4
  go_wp2_with fail
  go_ret
  exact ⟨xs, v, rfl, hx, HO.out, HB4.out⟩
end Go.Proofs.YtcfllpgppinofaaDoor

