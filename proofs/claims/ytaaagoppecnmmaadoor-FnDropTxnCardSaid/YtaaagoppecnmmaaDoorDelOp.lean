/- The program's copies: slices.Clone, slices.Clip of operations; copyTxn, copyHistory. slices.DeleteFunc of operations, in place. -/
import Derived.Test.YtaaagoppecnmmaaDoorHold
import Derived.Test.YtaaagoppecnmmaaDoorOwnList
import Derived.WalkSpells
import Derived.Test.YtaaagoppecnmmaaDoorContB
import Derived.Lib.SliceRun
namespace Go.Proofs.YtaaagoppecnmmaaDoor
open Go.RowKit
set_option linter.unusedVariables false
set_option linter.unusedSimpArgs false

set_option maxRecDepth 10000 in
set_option maxHeartbeats 400000 in
theorem clone_Op (xs : List Op) (A : Option Addr) (c : Nat) (w : World) (hl : xs.length ≤ 1048576) (hA : Row tOp w (Old w) A xs) :
    Calls Tryd.prog 150 #[.slice A xs.length c] w fun e w' => ∃ v, e = .returned v ∧ Own tOp 71 w' (New w w') xs v ∧ Below w.heap.size w w' := by
  obtain ⟨i0, hi, hz0, hz1, hz2⟩ := info_parts infoOpT
  have qT : ∀ (w : World) (a : Option Addr) (n c n' c' : Nat), (binOp .eql 40 (.slice a n c) (.slice none n' c')).run Tryd.prog w = .ok (.bool a.isNone) w := fun w a n c n' c' => Lib.run_eql_slice_nil w _ _ a n c n' c' Tryd.underlying40
  rcases A with _ | A
  · have hnil : xs = [] := by
      rcases Nat.eq_zero_or_pos xs.length with h | h
      · exact List.eq_nil_of_length_eq_zero h
      · obtain ⟨b, off, hb, _⟩ := hA h; cases hb
    have HN := hide hnil
    clear hnil hA
    go_enter Tryd.func150, Tryd.ntmps150
    go_wp2
    go_ret
    exact ⟨_, rfl, by rw [HN.out]; exact Own.nil_, Below.refl _ _⟩
  · have HO := hide (Own.made (T := tOp) (e := 71) w (S := fun b => b = w.heap.size) #[] 0 (by simp) (by simp [maxLen]) rfl)
    have HR := hide ((hA.mono (w' := w.alloc (.cells #[] 71)) (S' := Old w) (fun _ h => h) (fun b h => Below.heap_alloc _ _ _ h)).anyOp)
    clear hA
    go_enter Tryd.func150, Tryd.ntmps150
    go_wp2_with (at_builtin; refine wpList_app tOp rfl (.tmp 5) (.tmp 6) 40 rfl 71 i0 _ 24 Tryd.underlying40 hi hz0 hz1 hz2 rfl (by decide) (fun b => b = w.heap.size) (fun _ => False) (fun b => w.heap.size ≤ b) [] xs _ rfl HO.out _ xs.length c rfl rfl HR.out (by simp only [maxLen, List.length_nil]; omega) (by simp only [List.length_nil]; omega) (fun b h => by subst h; simp [Old]) (fun b h => h.elim) (fun b h => by omega) (fun b h => h.elim) (by simp) ?_; intro v' w' hO2 hg2; have HO2 := hide hO2; have HG := hide hg2; clear hO2 hg2)
    go_ret
    refine ⟨v', rfl, HO2.out, ((Below.refl _ w).alloc (Nat.le_refl _) _).grown HG.out (by simp) (fun k hk => ?_)⟩
    have hk2 : some w.heap.size = some k := hk
    injection hk2 with hk3
    exact Nat.le_of_eq hk3

theorem clip_Op (n : Nat) (A : Option Addr) (c : Nat) (w : World) (hl : n ≤ c) (hc : c ≤ maxLen) :
    Calls Tryd.prog 110 #[.slice A n c] w fun e w' => e = .returned (.slice A n n) ∧ w = w' := by
  unfold maxLen at hc
  have h1 : (0 : Int) ≤ (n : Int) := by omega
  have h2 : (n : Int) ≤ (c : Int) := by omega
  go_enter Tryd.func110, Tryd.ntmps110
  go_wp2
  go_ret
  exact ⟨rfl, rfl⟩

theorem clip_Txn (n : Nat) (A : Option Addr) (c : Nat) (w : World) (hl : n ≤ c) (hc : c ≤ maxLen) :
    Calls Tryd.prog 113 #[.slice A n c] w fun e w' => e = .returned (.slice A n n) ∧ w = w' := by
  unfold maxLen at hc
  have h1 : (0 : Int) ≤ (n : Int) := by omega
  have h2 : (n : Int) ≤ (c : Int) := by omega
  go_enter Tryd.func113, Tryd.ntmps113
  go_wp2
  go_ret
  exact ⟨rfl, rfl⟩

set_option maxRecDepth 10000 in
set_option maxHeartbeats 1000000 in
theorem copyTxn (t : Txn) (A : Option Addr) (c : Nat) (w : World) (hm : t.Ops.length ≤ 1048576) (hA : Row tOp w (Old w) A t.Ops) :
    Calls Tryd.prog 109 #[.agg #[.int .i64 t.Session, .slice A t.Ops.length c, .bool t.Done]] w fun e w' => ∃ v g, e = .returned (.agg #[.int .i64 t.Session, v, .bool t.Done]) ∧ Hold tOp 71 w' (New w w') t.Ops v g ∧ New w w' g ∧ Below w.heap.size w w' := by
  have HA := hide hA
  clear hA
  go_enter Tryd.func109, Tryd.ntmps109
  go_upto_region 1 with (fail)
  generalize hW : World.alloc _ _ = W
  have hb3 : Below w.heap.size w W := by rw [← hW]; exact ((Below.refl _ w).alloc (Nat.le_refl _) _).alloc (by simp) _
  have hs3 : W.heap.size = w.heap.size + 2 := by rw [← hW]; simp
  have hB0 : Blk W w.heap.size 42 #[.int .i64 t.Session, .slice A t.Ops.length c, .bool t.Done] := by rw [← hW]; exact (Blk.new w _ _).alloc _
  have hB1 : Blk W (w.heap.size + 1) 42 #[.int .i64 0, .slice none 0 0, .bool false] := by rw [← hW]; have := (Blk.new (w.alloc (.cells #[.int .i64 t.Session, .slice A t.Ops.length c, .bool t.Done] 42)) 42 #[.int .i64 0, .slice none 0 0, .bool false]); simpa using this
  clear hW
  have c01 := hB0.cell 1
  simp only [List.getElem?_toArray, List.getElem?_cons_zero, List.getElem?_cons_succ] at c01
  have HB := hide hb3; have HS := hide hs3; have H0 := hide hB0; have H1 := hide hB1
  have HC := hide (clone_Op t.Ops A c W hm (HA.out.old hb3))
  clear hb3 hs3 hB0 hB1 HA
  go_wp2_with (first | (go_at_call 150; refine HC.out.mono ?_; rintro e w4 ⟨v, rfl, hO, hb4⟩; obtain ⟨A3, c3, rfl, h31, h32, _⟩ := hO.sl; have HO := hide hO; have HB4 := hide hb4; clear hO; have h04 := H0.out.below hb4 H0.out.lt; have h14 := H1.out.below hb4 H1.out.lt; have d0 := h04.cell 0; have d1 := h04.cell 1; have d2 := h04.cell 2; have f1 := h04.frozen 1; have e0 := h14.cell 0; have e1 := h14.cell 1; have e2 := h14.cell 2; have g0 := h14.frozen 0; have g1 := h14.frozen 1; have g2 := h14.frozen 2; simp only [List.getElem?_toArray, List.getElem?_cons_zero, List.getElem?_cons_succ] at d0 d1 d2 e0 e1 e2; clear h04 h14 hb4) | (go_at_call 110; refine (clip_Op _ _ _ _ h31 h32).mono ?_; rintro e w' ⟨rfl, rfl⟩))
  obtain ⟨g, hH, hg⟩ := HO.out.holdAt (w.heap.size)
  have HB5 := hide (HB.out.trans (HB4.out.mono HB.out.size))
  have hsz : w.heap.size + 2 ≤ w4.heap.size := by have := HS.out; have := HB4.out.size; omega
  have HH := hide (hH.clip.mono (w' := w4) (S2 := In (w.heap.size + 2) w4.heap.size) (fun b h => ⟨by have := HS.out; have := h.1; omega, h.2⟩) (fun _ _ => rfl))
  refine bodyPost_ret (v := .agg #[.int .i64 t.Session, .slice A3 t.Ops.length t.Ops.length, .bool t.Done]) (by simp [results, Tryd.results109, go_sem, e0, e1, e2]) rfl ⟨_, g, rfl, ?_, ?_, ?_⟩
  · refine HH.out.mono (fun b h => ⟨by have := h.1; omega, by simpa using h.2⟩) (fun b h => ?_)
    have := h.1
    repeat (first | rw [Below.heap_setCell _ _ _ _ (by simp; try omega)])
  · rcases hg with hg | rfl
    · exact ⟨by have := HS.out; have := hg.1; omega, by simpa using hg.2⟩
    · exact ⟨Nat.le_refl _, by simp; omega⟩
  · repeat (first | refine Below.setCell ?_ (by simp; try omega) _ | exact HB5.out)
theorem idx_cases {α : Type} (p : α → Bool) : ∀ (xs : List α), (idx p xs = -1 ∧ ∀ x ∈ xs, p x = false) ∨ ∃ (i : Nat) (hi : i < xs.length), idx p xs = (i : Int) ∧ p xs[i] = true ∧ ∀ j (hj : j < xs.length), j < i → p xs[j] = false
  | [] => .inl ⟨rfl, fun x hx => by cases hx⟩
  | x :: xs => by
    cases hx : p x with
    | true => exact .inr ⟨0, by simp, by simp [idx, hx], by simpa using hx, fun j hj h => absurd h (by omega)⟩
    | false =>
      rcases idx_cases p xs with ⟨h1, h2⟩ | ⟨i, hi, h1, h2, h3⟩
      · left
        refine ⟨by simp only [idx, hx, h1]; rfl, fun y hy => ?_⟩
        rcases List.mem_cons.1 hy with rfl | hy
        · exact hx
        · exact h2 y hy
      · right
        refine ⟨i + 1, by simpa using hi, by simp only [idx, hx, h1]; rfl, by simpa using h2, fun j hj h => ?_⟩
        cases j with
        | zero => simpa using hx
        | succ j => simpa using h3 j (by simpa using hj) (by omega)
/-- The cells of an operation at place k. -/
def OpAt (cur : Array Value) (k : Nat) (o : Op) : Prop := cur[k * 3]? = some (.int .i64 o.Kind) ∧ cur[k * 3 + 1]? = some (.int .i64 o.Key) ∧ cur[k * 3 + 2]? = some (.int .i64 o.Value)
theorem opAt_of_row {w : World} {S : Nat → Prop} {g : Nat} {e : TypeId} {cur : Array Value} {xs : List Op} (hB : Blk w g e cur) (h : RowAt tOp w S g 0 xs) : ∀ k (hk : k < xs.length), OpAt cur k xs[k] := fun k hk => by
  obtain ⟨cs, hr, hc⟩ := h k hk
  obtain rfl := hr
  have h0 := hc 0 _ rfl; have h1 := hc 1 _ rfl; have h2 := hc 2 _ rfl
  simp only [tOp, flat, Nat.zero_add, Nat.add_zero] at h0 h1 h2
  rw [hB.cell] at h0 h1 h2
  exact ⟨h0, h1, h2⟩
theorem row_of_opAt {w : World} {S : Nat → Prop} {g : Nat} {e : TypeId} {cur : Array Value} {xs : List Op} (hB : Blk w g e cur) (h : ∀ k (hk : k < xs.length), OpAt cur k xs[k]) : RowAt tOp w S g 0 xs := fun k hk => by
  obtain ⟨h0, h1, h2⟩ := h k hk
  refine ⟨_, rfl, fun j u hu => ?_⟩
  have hj : j < 3 := by have := (List.getElem?_eq_some_iff.1 hu).1; simpa using this
  rw [hB.cell]
  simp only [tOp, flat, Nat.zero_add]
  match j, hj, hu with
  | 0, _, hu => simp at hu; subst hu; simpa using h0
  | 1, _, hu => simp at hu; subst hu; exact h1
  | 2, _, hu => simp at hu; subst hu; exact h2
theorem opAt_put {cur : Array Value} {i : Nat} {o : Op} (hi : i * 3 + 2 < cur.size) : OpAt (((cur.setIfInBounds (i * 3) (.int .i64 o.Kind)).setIfInBounds (i * 3 + 1) (.int .i64 o.Key)).setIfInBounds (i * 3 + 2) (.int .i64 o.Value)) i o := by
  refine ⟨?_, ?_, ?_⟩
  · rw [Array.getElem?_setIfInBounds_ne (by omega), Array.getElem?_setIfInBounds_ne (by omega), Array.getElem?_setIfInBounds, if_pos rfl, if_pos (by omega)]
  · rw [Array.getElem?_setIfInBounds_ne (by omega), Array.getElem?_setIfInBounds, if_pos rfl, if_pos (by simp; omega)]
  · rw [Array.getElem?_setIfInBounds, if_pos rfl, if_pos (by simp; omega)]
theorem opAt_other {cur : Array Value} {i k : Nat} {o : Op} (a b c : Value) (h : OpAt cur k o) (hik : k ≠ i) : OpAt (((cur.setIfInBounds (i * 3) a).setIfInBounds (i * 3 + 1) b).setIfInBounds (i * 3 + 2) c) k o := by
  obtain ⟨h0, h1, h2⟩ := h
  refine ⟨?_, ?_, ?_⟩
  · rw [Array.getElem?_setIfInBounds_ne (by omega), Array.getElem?_setIfInBounds_ne (by omega), Array.getElem?_setIfInBounds_ne (by omega)]; exact h0
  · rw [Array.getElem?_setIfInBounds_ne (by omega), Array.getElem?_setIfInBounds_ne (by omega), Array.getElem?_setIfInBounds_ne (by omega)]; exact h1
  · rw [Array.getElem?_setIfInBounds_ne (by omega), Array.getElem?_setIfInBounds_ne (by omega), Array.getElem?_setIfInBounds_ne (by omega)]; exact h2
theorem setCells_blk {g : Nat} {e : TypeId} : ∀ (vs : List Value) (o : Nat) (w : World) (cur : Array Value), Blk w g e cur → ∃ cur', Blk (w.setCells g o vs) g e cur' ∧ cur'.size = cur.size ∧ (∀ j, j < o → cur'[j]? = cur[j]?) ∧ Only (fun b => b = g) w (w.setCells g o vs)
  | [], o, w, cur, h => ⟨cur, h, rfl, fun _ _ => rfl, Only.refl _ _⟩
  | v :: r, o, w, cur, h => by
    obtain ⟨cur', h1, h2, h3, h4⟩ := setCells_blk r (o + 1) (w.setCell ⟨g, o, none⟩ v) _ (h.set_ o v)
    refine ⟨cur', h1, by rw [h2]; simp, fun j hj => ?_, (Only.setCell (S := fun b => b = g) (Only.refl _ w) (p := ⟨g, o, none⟩) rfl v).trans h4⟩
    rw [h3 j (by omega), Array.getElem?_setIfInBounds_ne (by omega)]
theorem run_clear_any {P : Program} {w : World} {g : Nat} {e : TypeId} {cur : Array Value} (t : TypeId) (z : Value) (ht : P.underlying t = some (.slice e)) (hv : ∀ w, (zeroValue e).run P w = .ok z w) (hz : ∀ u ∈ z.cells.toList, u.oneCell' = true)
    (o n c : Nat) (hn : 0 < n) (hB : Blk w g e cur) (hs : o + n * z.cells.size ≤ cur.size) :
    ∃ w' cur', (∀ ty, (Builtin.clear_ #[t] ty #[.slice (some ⟨g, o, none⟩) n c]).run P w = .ok (.tuple #[]) w') ∧ Blk w' g e cur' ∧ cur'.size = cur.size ∧ (∀ j, j < o → cur'[j]? = cur[j]?) ∧ Only (fun b => b = g) w w' := by
  obtain ⟨zs, hzs⟩ : ∃ zs, zs = (Builtin.zeroCells z.cells n).toList := ⟨_, rfl⟩
  have hlen : zs.length = n * z.cells.size := by rw [hzs]; simp [Builtin.zeroCells]
  have hone : ∀ v ∈ zs, v.oneCell' = true := by
    intro v hv2
    rw [hzs] at hv2
    simp only [Builtin.zeroCells, Array.toList_map, List.mem_map, Array.mem_toList_iff] at hv2
    obtain ⟨a, ha, rfl⟩ := hv2
    have hpos : 0 < z.cells.size := by
      rcases Nat.eq_zero_or_pos z.cells.size with h0 | h0
      · rw [h0] at ha; simp at ha
      · exact h0
    have hlt := Nat.mod_lt a hpos
    apply hz
    rw [getElem!_pos z.cells _ hlt]
    exact Array.mem_toList_iff.2 (Array.getElem_mem hlt)
  have hst := run_storeCells_cells (P := P) g o zs 0 w
    (fun j hj => by rw [Nat.add_zero, hB.cell, Array.getElem?_eq_getElem (by omega)]; rfl) (fun j hj => by rw [Nat.add_zero]; exact hB.frozen _) hone
  rw [Nat.add_zero] at hst
  obtain ⟨cur', h1, h2, h3, h4⟩ := setCells_blk zs o w cur hB
  refine ⟨_, cur', fun ty => ?_, h1, h2, h3, h4⟩
  obtain ⟨m, rfl⟩ : ∃ m, n = m + 1 := ⟨n - 1, by omega⟩
  simp [Builtin.clear_, run_underlying ht, hv, ← hzs, hst]

theorem zeroOpW (w : World) : (zeroValue 71).run Tryd.prog w = .ok (.agg #[.int .i64 0, .int .i64 0, .int .i64 0]) w := by kernel_rfl
set_option maxRecDepth 10000 in
set_option maxHeartbeats 1000000 in
theorem delFunc_Op (xs : List Op) (A : Option Addr) (c : Nat) (w : World) (g : Nat) (S : Nat → Prop) (gf : Nat) (lb : Array Value) (p : Op → Bool)
    (eg : ∀ args w, (callFunc gf args).run Tryd.prog w = .ok (.enter gf args) w) (hn : xs.length ≤ 1048576) (hH : Hold tOp 71 w S xs (.slice A xs.length c) g) (hSo : ∀ b, S b → Old w b)
    (hf : ∀ (x : Op), x ∈ xs → ∀ (W : World), Only (fun b => b = g) w W → Calls Tryd.prog gf (#[.agg #[.int .i64 x.Kind, .int .i64 x.Key, .int .i64 x.Value]] ++ lb) W fun e w' => e = .returned (.bool (p x)) ∧ Below W.heap.size W w') :
    Calls Tryd.prog 111 #[.slice A xs.length c, .func (.func gf) #[] lb] w fun e w' => e = .returned (.slice A (xs.filter fun o => !p o).length c) ∧ Hold tOp 71 w' S (xs.filter fun o => !p o) (.slice A (xs.filter fun o => !p o).length c) g ∧ Only (fun b => b = g) w w' := by
  have hR : Row tOp w (Old w) A xs := by
    obtain ⟨A', c', hv, _, _, hr⟩ := hH.sl.mono (w' := w) (S' := Old w) hSo (fun _ _ => rfl)
    injection hv with h1 _ _
    subst h1
    exact hr
  have HI := hide (idx_Op xs A c w gf lb p eg (by simp only [maxLen]; omega) hR (fun x hx cs hr W hW => by obtain rfl := hr; exact (hf x hx W (Only.of_below hW)).mono (by rintro e w' ⟨rfl, hb⟩; exact ⟨rfl, hW.trans (hb.mono hW.size)⟩)))
  have HH := hide hH
  have HF := hide hf
  clear hH hf hR
  rcases idx_cases p xs with ⟨hi, hall⟩ | ⟨i0, hi0, hi, hp, hno⟩
  · rw [hi] at HI
    have HE := hide (show xs.filter (fun o => !p o) = xs from List.filter_eq_self.2 fun x hx => by rw [hall x hx]; rfl)
    clear hi hall
    go_enter Tryd.func111, Tryd.ntmps111
    go_wp2_with (go_at_call 151; refine HI.out.mono ?_; rintro e w' ⟨rfl, hb'⟩)
    go_ret
    rw [HE.out]
    exact ⟨rfl, HH.out.mono (fun _ h => h) (fun b h => hb'.block b (hSo b h)), Only.of_below hb'⟩
  · rw [hi] at HI
    obtain ⟨A', c', hv, hlc, hcm, hr⟩ := HH.out
    injection hv with h1 h2 h3
    subst h1; subst h3
    obtain ⟨rfl, hg, ⟨cur, hB, hsz⟩, S', hS', hrow⟩ := hr (by omega)
    have hat := opAt_of_row hB hrow
    have hsz' : xs.length * 3 ≤ cur.size := hsz
    have HS := hide hS'
    have HG := hide (hSo g hg)
    have HF0 := hide (show (xs.take (i0 + 1)).filter (fun o => !p o) = xs.take i0 by
      rw [List.take_succ_eq_append_getElem hi0, List.filter_append]
      have e1 : (xs.take i0).filter (fun o => !p o) = xs.take i0 := List.filter_eq_self.2 fun x hx => by
        obtain ⟨j, hj, rfl⟩ := List.getElem_of_mem hx
        rw [List.length_take] at hj
        rw [List.getElem_take, hno j (by omega) (by omega)]; rfl
      rw [e1]
      simp [hp])
    have HX := hide (show cur.size = cur.size ∧ (∀ k (hk : k < xs.length), OpAt cur k xs[k]) from ⟨rfl, hat⟩)
    have HBk := hide hB
    have hq : xs.length ≤ 9223372036854775807 := by omega
    have hcm' : c ≤ 9223372036854775807 := by simpa [maxLen] using hcm
    have HSO := hide hSo
    have h01 : ((i0 : Int) == -1) = false := by rw [beq_eq_false_iff_ne]; omega
    have HG2 := hide hg
    clear hno hp hi hr hS' hat hB hrow HH hSo hsz hcm hg
    go_enter Tryd.func111, Tryd.ntmps111
    go_wp2_with (go_at_call 151; refine HI.out.mono ?_; rintro e w1 ⟨rfl, hb1⟩; have HB1 := hide hb1; clear hb1)
    go_loopw [5, 6, 7] (fun iv jv _ wr => ∃ i j : Nat, i < j ∧ j ≤ xs.length ∧ iv = .int .i64 i ∧ jv = .int .i64 j ∧ Hid (((xs.take j).filter (fun o => !p o)).length = i) ∧ Hid (∃ cur', Blk wr g 71 cur' ∧ cur'.size = cur.size ∧ (∀ k (hk : k < xs.length), j ≤ k → OpAt cur' k xs[k]) ∧ (∀ k (hk : k < ((xs.take j).filter (fun o => !p o)).length), OpAt cur' k ((xs.take j).filter (fun o => !p o))[k])) ∧ Hid (Only (fun b => b = g) w wr)) (fun _ j _ _ => xs.length - (intOf j).toNat)
    case atStart =>
      refine ⟨i0, i0 + 1, by omega, by omega, rfl, by go_num, ?_, ?_, Only.of_below HB1.out⟩
      · show _ = _
        rw [HF0.out, List.length_take]; omega
      · refine ⟨cur, HBk.out.below HB1.out HBk.out.lt, rfl, fun k hk _ => HX.out.2 k hk, fun k hk => ?_⟩
        have hF := HF0.out
        have hk2 : k < (xs.take i0).length := by rw [← hF]; exact hk
        have e : ((xs.take (i0 + 1)).filter (fun o => !p o))[k] = xs[k]'(by rw [List.length_take] at hk2; omega) := by
          simp only [hF, List.getElem_take]
        rw [e]
        exact HX.out.2 k _
    case round =>
      obtain ⟨i, j, hij, hj, rfl, rfl, hF, hX, hO⟩ := hrel
      clear HI HF0
      by_cases hlt : j < xs.length
      · obtain ⟨cur', hB', hs', hrest, hdone⟩ := hX.out
        obtain ⟨d0, d1, d2⟩ := hrest j hlt (Nat.le_refl _)
        rw [← hB'.cell] at d0 d1 d2
        have hz : g < wr.heap.size := hB'.lt
        have HC := hide (HF.out xs[j] (List.getElem_mem hlt) (wr.alloc (.cells #[.int .i64 xs[j].Kind, .int .i64 xs[j].Key, .int .i64 xs[j].Value] 71)) (hO.out.trans (Only.of_alloc _ _)))
        have HT := hide (show (xs.take (j + 1)).filter (fun o => !p o) = (xs.take j).filter (fun o => !p o) ++ (if p xs[j] then [] else [xs[j]]) by
          rw [List.take_succ_eq_append_getElem hlt, List.filter_append]
          congr 1
          cases hpj : p xs[j] <;> simp [hpj])
        have HX := hide (show Blk wr g _ cur' ∧ cur'.size = cur.size ∧ (∀ k (hk : k < xs.length), j ≤ k → OpAt cur' k xs[k]) ∧ (∀ k (hk : k < ((xs.take j).filter (fun o => !p o)).length), OpAt cur' k ((xs.take j).filter (fun o => !p o))[k]) from ⟨hB', hs', hrest, hdone⟩)
        have hzi : i * 3 + 2 < cur'.size := by omega
        clear hB' hrest hdone hX
        cases hq2 : p xs[j] with
        | true =>
          rw [hq2] at HC HT
          simp only [if_true, List.append_nil] at HT
          clear hq2
          go_wp2_with (go_at_fn gf; refine HC.out.mono ?_; rintro e w2 ⟨rfl, hb2⟩; have HB2 := hide hb2; clear hb2)
          go_roundw
          case rel =>
            refine ⟨i, j + 1, by omega, by omega, rfl, by go_num, by rw [HT.out]; exact hF.out, ⟨cur', (HX.out.1.alloc _).below HB2.out (HX.out.1.alloc _).lt, HX.out.2.1, fun k hk h => HX.out.2.2.1 k hk (by omega), ?_⟩, (hO.out.trans (Only.of_alloc _ _)).trans (Only.of_below HB2.out)⟩
            have hh := HX.out.2.2.2
            rw [← HT.out] at hh
            exact hh
          case measure => simp [intOf]; omega
        | false =>
          rw [hq2] at HC HT
          simp only [Bool.false_eq_true, if_false] at HT
          clear hq2
          go_wp2_with (go_at_fn gf; refine HC.out.mono ?_; rintro e w2 ⟨rfl, hb2⟩; have HB2 := hide hb2; have HBw := hide ((HX.out.1.alloc (.cells #[.int .i64 xs[j].Kind, .int .i64 xs[j].Key, .int .i64 xs[j].Value] 71)).below hb2 (HX.out.1.alloc _).lt); obtain ⟨⟨u0, k0⟩, f0⟩ := HBw.out.there (i := i * 3) (by omega); obtain ⟨⟨u1, k1⟩, f1⟩ := HBw.out.there (i := i * 3 + 1) (by omega); obtain ⟨⟨u2, k2⟩, f2⟩ := HBw.out.there (i := i * 3 + 2) (by omega); obtain ⟨hc2, hf2⟩ := bcell hb2; have hz2 : wr.heap.size < w2.heap.size := (by have := hb2.size; simp at this; omega); clear hb2)
          go_roundw
          case rel =>
            refine ⟨i + 1, j + 1, by omega, by omega, by go_num, by go_num, ?_, ⟨_, ((HBw.out.set_ (i * 3) (.int .i64 xs[j].Kind)).set_ (i * 3 + 1) (.int .i64 xs[j].Key)).set_ (i * 3 + 2) (.int .i64 xs[j].Value), by simp [HX.out.2.1], fun k hk h => opAt_other _ _ _ (HX.out.2.2.1 k hk (by omega)) (by omega), fun k hk => ?_⟩, ?_⟩
            · show _ = _
              rw [HT.out, List.length_append, hF.out]; rfl
            · have hFl := hF.out
              have hk2 : k < (List.filter (fun o => !p o) (xs.take j) ++ [xs[j]]).length := by rw [← HT.out]; exact hk
              have e : (List.filter (fun o => !p o) (xs.take (j + 1)))[k] = (List.filter (fun o => !p o) (xs.take j) ++ [xs[j]])[k] := by simp only [HT.out]
              rw [e]
              rw [List.length_append, List.length_singleton] at hk2
              by_cases hki : k < (List.filter (fun o => !p o) (xs.take j)).length
              · rw [List.getElem_append_left hki]
                exact opAt_other _ _ _ (HX.out.2.2.2 k hki) (by omega)
              · obtain rfl : k = i := by omega
                rw [List.getElem_append_right (by omega)]
                simp only [hFl, Nat.sub_self, List.getElem_cons_zero]
                exact opAt_put hzi
            · exact ((((hO.out.trans (Only.of_alloc _ _)).trans (Only.of_below HB2.out)).setCell (p := ⟨g, i * 3, none⟩) rfl _).setCell (p := ⟨g, i * 3 + 1, none⟩) rfl _).setCell (p := ⟨g, i * 3 + 2, none⟩) rfl _
          case measure => simp [intOf]; omega
      · obtain rfl : j = xs.length := by omega
        obtain ⟨cur', hB', hs', hrest, hdone⟩ := hX.out
        have hci : ¬ c = i := by omega
        have hF' := hF.out
        rw [List.take_length] at hF' hdone
        obtain ⟨w3, cur3, hcl, hB3, hs3, hk3, ho3⟩ := run_clear_any (P := Tryd.prog) 40 (.agg #[.int .i64 0, .int .i64 0, .int .i64 0]) Tryd.underlying40 zeroOpW (by intro u hu; simp [Value.cells] at hu; subst hu; rfl) (i * 3) (xs.length - i) (c - i) (by omega) hB' (by simp only [Value.cells]; show i * 3 + (xs.length - i) * 3 ≤ _; omega)
        have H3 := hide (show Blk w3 g _ cur3 ∧ cur3.size = cur'.size ∧ (∀ j, j < i * 3 → cur3[j]? = cur'[j]?) ∧ Only (fun b => b = g) wr w3 from ⟨hB3, hs3, hk3, ho3⟩)
        have HD := hide hdone
        have HFl := hide hF'
        have HFe := hide (show (xs.filter fun o => !p o).length = i from hF')
        have hib : (i : Int) ≤ (c : Int) := by omega
        have hib2 : (i : Int) ≤ (xs.length : Int) := by omega
        have Hs' := hide hs'
        have HB' := hide hB'
        clear hB3 hs3 hk3 ho3 hdone hF' hrest hF hX hB' HF hs'
        go_wp2
        go_ret
        refine ⟨by rw [HFe.out]; rfl, ?_, hO.out.trans H3.out.2.2.2⟩
        refine ⟨_, _, by rw [HFe.out], by rw [HFe.out]; omega, by simp only [maxLen]; omega, fun hp => ⟨rfl, HG2.out, ⟨cur3, H3.out.1, ?_⟩, fun _ => False, fun _ h => h.elim, ?_⟩⟩
        · rw [HFe.out]; show i * 3 ≤ _; have := H3.out.2.1; have := Hs'.out; omega
        · refine row_of_opAt H3.out.1 fun k hk => ?_
          have hki : k < i := by rw [← HFe.out]; exact hk
          obtain ⟨a0, a1, a2⟩ := HD.out k hk
          exact ⟨(H3.out.2.2.1 _ (by omega)).trans a0, (H3.out.2.2.1 _ (by omega)).trans a1, (H3.out.2.2.1 _ (by omega)).trans a2⟩
end Go.Proofs.YtaaagoppecnmmaaDoor
