/- Texts of histories: what stands behind an accepted text is refused, and how a text is scanned for its parts. Plain laws. Comparing equal data of the laws package answers true. Comparing equal data of the laws package answers true: transactions. The marks that the laws package writes into transactions and reads back. The law of ReadTxn: the program answers as the reference does, for all arguments, in memory of its own. -/
import Derived.Test.YtjnghnkilnhacaaDoorQTxtP
import Derived.Test.YtjnghnkilnhacaaDoorProg
import Derived.Test.YtjnghnkilnhacaaDoorQBuild
import Derived.Test.YtjnghnkilnhacaaDoorQTabT
import Derived.Test.YtjnghnkilnhacaaDoorQOwnList
import Derived.Test.YtjnghnkilnhacaaDoorQTxtH
namespace Go.Proofs.YtjnghnkilnhacaaDoor
open Go.RowKit
set_option linter.unusedVariables false
set_option linter.unusedSimpArgs false

theorem txnW_ne {t : Txn} : ([] : Bs) ∉ txnW t := by
  unfold txnW
  intro h
  rcases List.mem_cons.1 h with e | h
  · cases e
  · rcases List.mem_cons.1 h with e | h
    · split at e <;> cases e
    · obtain ⟨o, _, e⟩ := List.mem_map.1 h
      unfold opL at e
      cases e
/-- A text with a space behind it is refused. -/
theorem readTL_sp (l : Bs) : readTL (l ++ [32]) = none := by
  refine readTL_no fun t ht he => ?_
  rw [wordsL_snoc_sp] at he
  exact txnW_ne (t := t) (by rw [← he]; simp)
/-! ### Scanning -/
theorem mapMT_snoc {ws : List Bs} {x : Bs} {os : List Txn} {o : Txn} : ws.mapM readTL = some os → readTL x = some o → (ws ++ [x]).mapM readTL = some (os ++ [o]) := by
  intro h1 h2
  rw [List.mapM_append, h1]
  simp [h2]
theorem mapMT_bad {x : Bs} (h : readTL x = none) : ∀ {ws : List Bs}, x ∈ ws → ws.mapM readTL = none
  | w :: ws, hm => by
    rw [List.mapM_cons]
    rcases List.mem_cons.1 hm with e | hm
    · rw [← e, h]; rfl
    · rw [mapMT_bad h hm]
      cases readTL w <;> rfl
theorem mapMT_len {ws : List Bs} {os : List Txn} (h : ws.mapM readTL = some os) : os.length = ws.length := by
  have := (mapM_txnL_some h).1
  rw [← this, List.length_map]
theorem readHL_bad {l x : Bs} (hl : l ≠ []) (hx : x ∈ partsL l) (h : readTL x = none) : readHL l = none := by
  unfold readHL
  rw [if_neg hl, mapMT_bad h hx]
theorem readHL_many {l : Bs} (hl : l ≠ []) (h : 7 ≤ (partsL l).length) : readHL l = none := by
  unfold readHL
  rw [if_neg hl]
  cases hm : (partsL l).mapM readTL with
  | none => rfl
  | some x =>
    simp only
    rw [if_neg]
    intro hv
    have h1 := (histV_parts hv).1
    have h2 := mapMT_len hm
    omega
def putPre (p : Bs) : List Bs → List Bs
  | [] => [p]
  | w :: ws => (p ++ w) :: ws
theorem putPre_nil {ws : List Bs} (h : ws ≠ []) : putPre [] ws = ws := by
  cases ws with
  | nil => exact absurd rfl h
  | cons w ws => rfl
theorem putPre_head (p : Bs) (x : UInt8) {ws : List Bs} (h : ws ≠ []) : putPre p (putHead x ws) = putPre (p ++ [x]) ws := by
  cases ws with
  | nil => exact absurd rfl h
  | cons w ws => simp [putPre, putHead]
theorem partsL_step (x : UInt8) (rest : Bs) (h : ¬ (x = 59 ∧ rest.head? = some 32)) : partsL (x :: rest) = putHead x (partsL rest) := by
  cases rest with
  | nil => rfl
  | cons y l => rw [partsL, if_neg (by simpa using h)]
/-- The scan of a text for its parts: what has been read, and where. -/
structure Scan (l : Bs) (b k : Nat) (out : List Txn) : Prop where
  parts : ∃ ps, ps.mapM readTL = some out ∧ partsL l = ps ++ partsL (l.drop b)
  b1 : b ≤ k + 1
  b2 : b ≤ l.length
  b3 : k < b → l[k]? = some 32
  cur : partsL (l.drop b) = putPre ((l.drop b).take (k - b)) (partsL (l.drop (max b k)))
theorem Scan.zero (l : Bs) : Scan l 0 0 [] := ⟨⟨[], rfl, rfl⟩, by omega, by omega, by omega, by simp [putPre_nil (partsL_ne l)]⟩
theorem Scan.next {l : Bs} {b k : Nat} {out : List Txn} (h : Scan l b k out) (hk : k < l.length) (hc : ¬ (l[k]? = some 59 ∧ l[k + 1]? = some 32)) : Scan l b (k + 1) out := by
  obtain ⟨h1, h2, h3, h4, h5⟩ := h
  by_cases hbk : k < b
  · obtain rfl : b = k + 1 := by omega
    refine ⟨h1, by omega, h3, by omega, ?_⟩
    rw [Nat.sub_self, Nat.max_self, List.take_zero, putPre_nil (partsL_ne _)]
  · refine ⟨h1, by omega, h3, by omega, ?_⟩
    rw [Nat.max_eq_right (by omega)] at h5 ⊢
    have hd : l.drop k = l[k] :: l.drop (k + 1) := List.drop_eq_getElem_cons hk
    rw [h5, hd, partsL_step, putPre_head _ _ (partsL_ne _)]
    · congr 1
      have hlt : k - b < (l.drop b).length := by rw [List.length_drop]; omega
      rw [show k + 1 - b = (k - b) + 1 by omega, List.take_succ_eq_append_getElem hlt, List.getElem_drop]
      congr 3
      omega
    · rw [List.head?_drop]
      rintro ⟨e1, e2⟩
      exact hc ⟨by rw [List.getElem?_eq_getElem hk, e1], e2⟩
theorem Scan.ge {l : Bs} {b k : Nat} {out : List Txn} (h : Scan l b k out) (hc : k = l.length ∨ l[k]? = some 59) : b ≤ k := by
  rcases Nat.lt_or_ge k b with hlt | hge
  · have h3 := h.b3 hlt
    rcases hc with e | e
    · have := h.b2; omega
    · rw [e] at h3; cases h3
  · exact hge
theorem Scan.end_ {l : Bs} {b : Nat} {out : List Txn} (h : Scan l b l.length out) : ∃ ps, ps.mapM readTL = some out ∧ partsL l = ps ++ [(l.drop b).take (l.length - b)] := by
  obtain ⟨ps, h1, h2⟩ := h.parts
  refine ⟨ps, h1, ?_⟩
  rw [h2, h.cur, Nat.max_eq_right h.b2, List.drop_length]
  simp [partsL, putPre]
theorem Scan.cut {l : Bs} {b k : Nat} {out : List Txn} (h : Scan l b k out) (h1 : l[k]? = some 59) (h2 : l[k + 1]? = some 32) : ∃ ps, ps.mapM readTL = some out ∧ partsL l = ps ++ (l.drop b).take (k - b) :: partsL (l.drop (k + 2)) := by
  have hb := h.ge (.inr h1)
  obtain ⟨ps, h3, h4⟩ := h.parts
  refine ⟨ps, h3, ?_⟩
  have hk : k < l.length := by
    rcases Nat.lt_or_ge k l.length with hlt | hge
    · exact hlt
    · rw [List.getElem?_eq_none hge] at h1; cases h1
  have hk1 : k + 1 < l.length := by
    rcases Nat.lt_or_ge (k + 1) l.length with hlt | hge
    · exact hlt
    · rw [List.getElem?_eq_none hge] at h2; cases h2
  have e1 : l[k] = 59 := by rw [List.getElem?_eq_getElem hk] at h1; simpa using h1
  have e2 : l[k + 1] = 32 := by rw [List.getElem?_eq_getElem hk1] at h2; simpa using h2
  rw [h4, h.cur, Nat.max_eq_right hb, List.drop_eq_getElem_cons hk, List.drop_eq_getElem_cons hk1, e1, e2, partsL, if_pos ⟨rfl, rfl⟩]
  simp [putPre]
/-- A part that is read goes to what has been read. -/
theorem Scan.take {l : Bs} {b k : Nat} {out : List Txn} {t : Txn} (h : Scan l b k out) (h1 : l[k]? = some 59) (h2 : l[k + 1]? = some 32) (ht : readTL ((l.drop b).take (k - b)) = some t) : Scan l (k + 2) (k + 1) (out ++ [t]) := by
  obtain ⟨ps, h3, h4⟩ := h.cut h1 h2
  have hk1 : k + 1 < l.length := by
    rcases Nat.lt_or_ge (k + 1) l.length with hlt | hge
    · exact hlt
    · rw [List.getElem?_eq_none hge] at h2; cases h2
  refine ⟨⟨ps ++ [(l.drop b).take (k - b)], mapMT_snoc h3 ht, by rw [h4]; simp⟩, by omega, by omega, fun _ => h2, ?_⟩
  rw [show k + 1 - (k + 2) = 0 by omega, List.take_zero, Nat.max_eq_left (by omega), putPre_nil (partsL_ne _)]
theorem Scan.last {l : Bs} {b : Nat} {out : List Txn} {t : Txn} (h : Scan l b l.length out) (ht : readTL ((l.drop b).take (l.length - b)) = some t) : (partsL l).mapM readTL = some (out ++ [t]) := by
  obtain ⟨ps, h1, h2⟩ := h.end_
  rw [h2]
  exact mapMT_snoc h1 ht
/-- A cut: at the end, or at a semicolon with a space behind it. -/
def CutAt (l : Bs) (k : Nat) : Prop := k = l.length ∨ (l[k]? = some 59 ∧ l[k + 1]? = some 32)
theorem Scan.bad {l : Bs} {b k : Nat} {out : List Txn} (h : Scan l b k out) (hc : CutAt l k) (hl : l ≠ []) (hb : readTL ((l.drop b).take (k - b)) = none) : readHL l = none := by
  rcases hc with e | ⟨h1, h2⟩
  · subst e
    obtain ⟨ps, _, h3⟩ := h.end_
    exact readHL_bad hl (by rw [h3]; simp) hb
  · obtain ⟨ps, _, h3⟩ := h.cut h1 h2
    exact readHL_bad hl (by rw [h3]; simp) hb
theorem Scan.many {l : Bs} {b k : Nat} {out : List Txn} (h : Scan l b k out) (hc : CutAt l k) (hl : l ≠ []) (ho : out.length = 6) : readHL l = none := by
  rcases hc with e | ⟨h1, h2⟩
  · subst e
    obtain ⟨ps, h1, h3⟩ := h.end_
    have := mapMT_len h1
    exact readHL_many hl (by rw [h3, List.length_append]; simp; omega)
  · obtain ⟨ps, h1, h3⟩ := h.cut h1 h2
    have := mapMT_len h1
    exact readHL_many hl (by rw [h3, List.length_append]; simp; omega)
/-- What has been read behind k rounds. -/
def ScanI (l : Bs) (b k : Nat) (out : List Txn) : Prop := if k ≤ l.length then Scan l b k out else k = l.length + 1 ∧ (partsL l).mapM readTL = some out
theorem ScanI.of {l : Bs} {b k : Nat} {out : List Txn} (h : ScanI l b k out) (hk : k ≤ l.length) : Scan l b k out := by unfold ScanI at h; rwa [if_pos hk] at h
theorem ScanI.zero (l : Bs) : ScanI l 0 0 [] := by unfold ScanI; rw [if_pos (by omega)]; exact Scan.zero l
theorem ScanI.skip {l : Bs} {b k : Nat} {out : List Txn} (h : ScanI l b k out) (hk : k < l.length) (hc : ¬ CutAt l k) : ScanI l b (k + 1) out := by
  unfold ScanI
  rw [if_pos (by omega)]
  exact (h.of (by omega)).next hk (fun e => hc (.inr e))
theorem ScanI.read {l : Bs} {b k : Nat} {out : List Txn} {t : Txn} (h : ScanI l b k out) (hk : k ≤ l.length) (hc : CutAt l k) (ht : readTL ((l.drop b).take (k - b)) = some t) : ScanI l (k + 2) (k + 1) (out ++ [t]) := by
  have h := h.of hk
  unfold ScanI
  rcases hc with e | ⟨h1, h2⟩
  · subst e
    rw [if_neg (by omega)]
    exact ⟨rfl, h.last ht⟩
  · have hk1 : k + 1 < l.length := by
      rcases Nat.lt_or_ge (k + 1) l.length with hlt | hge
      · exact hlt
      · rw [List.getElem?_eq_none hge] at h2; cases h2
    rw [if_pos (by omega)]
    exact h.take h1 h2 ht
theorem ScanI.done {l : Bs} {b k : Nat} {out : List Txn} (h : ScanI l b k out) (hk : ¬ k ≤ l.length) : (partsL l).mapM readTL = some out := by unfold ScanI at h; rw [if_neg hk] at h; exact h.2
end Go.Proofs.YtjnghnkilnhacaaDoor
namespace Go.Proofs.YtjnghnkilnhacaaDoor
open Go.RowKit

theorem eqOp (x : Op) (w : World) :
    Calls Tryd.prog 47 #[.agg #[.int .i64 x.Kind, .int .i64 x.Key, .int .i64 x.Value], .agg #[.int .i64 x.Kind, .int .i64 x.Key, .int .i64 x.Value]] w fun e w' => e = .returned (.bool true) ∧ Below w.heap.size w w' := by
  go_enter Tryd.func47, Tryd.ntmps47
  go_wp2
  go_ret
  exact ⟨rfl, ((Below.refl _ _).alloc (Nat.le_refl _) _).alloc (by simp) _⟩
set_option maxRecDepth 10000 in
set_option maxHeartbeats 400000 in
theorem eqOpS (xs : List Op) (A B : Option Addr) (c d : Nat) (w : World) (hl : xs.length ≤ maxLen) (hA : Row tOp w (Old w) A xs) (hB : Row tOp w (Old w) B xs) :
    Calls Tryd.prog 26 #[.slice A xs.length c, .slice B xs.length d] w fun e w' => e = .returned (.bool true) ∧ Below w.heap.size w w' := by
  unfold maxLen at hl
  go_enter Tryd.func26, Tryd.ntmps26
  go_wp2
  go_loopw [5] (fun i wr => ∃ k : Nat, k ≤ xs.length ∧ i = .int .i64 k ∧ Below w.heap.size w wr) (fun i _ => xs.length - (intOf i).toNat)
  case atStart => exact ⟨0, Nat.zero_le _, rfl, Below.refl _ _⟩
  case round =>
    obtain ⟨k, hk, rfl, hb⟩ := hrel
    by_cases hlt : k < xs.length
    · obtain ⟨b, off, rfl, hbS, c0_, c1_, c2_⟩ := at_Op hA hb hlt
      obtain ⟨b2, off2, rfl, hbS2, d0_, d1_, d2_⟩ := at_Op hB hb hlt
      clear hA hB
      go_wp2
      go_still_tail 8, (by kernel_rfl)
      have hbd : Below wr.heap.size wr wr.drew := (Below.refl _ _).drew
      change wpList _ _ _ _ _ wr.drew
      have hcall := (eqOp xs[k] wr.drew)
      have hb2 : Below w.heap.size w wr.drew := hb.drew
      clear hbd
      generalize wr.drew = w2 at hb2 hcall ⊢
      have HC := hide hcall
      clear hcall
      go_wp2_with (go_at_call 47; refine HC.out.mono ?_; rintro e w' ⟨rfl, hb'⟩)
      go_roundw
      case rel => exact ⟨k + 1, by omega, by go_num, hb2.trans (hb'.mono hb2.size)⟩
      case measure => simp [intOf]; omega
    · clear hA hB
      go_wp2
      go_ret
      exact ⟨rfl, hb⟩
end Go.Proofs.YtjnghnkilnhacaaDoor
namespace Go.Proofs.YtjnghnkilnhacaaDoor
open Go.RowKit

set_option maxHeartbeats 400000 in
theorem eqTxn (x : Txn) (w : World) (A B : Option Addr) (c d : Nat) (hl : x.Ops.length ≤ maxLen) (hA : Row tOp w (Old w) A x.Ops) (hB : Row tOp w (Old w) B x.Ops) :
    Calls Tryd.prog 8 #[.agg #[.int .i64 x.Session, .slice A x.Ops.length c, .bool x.Done], .agg #[.int .i64 x.Session, .slice B x.Ops.length d, .bool x.Done]] w fun e w' => e = .returned (.bool true) ∧ Below w.heap.size w w' := by
  go_enter Tryd.func8, Tryd.ntmps8
  go_wp2_with (go_at_call 26; refine (eqOpS x.Ops A B c d _ hl (hA.old (((Below.refl _ w).alloc (Nat.le_refl _) _).alloc (by simp) _)) (hB.old (((Below.refl _ w).alloc (Nat.le_refl _) _).alloc (by simp) _))).mono ?_; rintro e w' ⟨rfl, hb'⟩; have HB := hide hb'; clear hb'; clear hA hB; obtain ⟨hc, hf⟩ := bcell HB.out; have hz : w.heap.size + 2 ≤ w'.heap.size := (by have := HB.out.size; simpa using this))
  go_ret
  exact ⟨rfl, (((Below.refl _ w).alloc (Nat.le_refl _) _).alloc (by simp) _).trans (HB.out.mono (by simp; omega))⟩
end Go.Proofs.YtjnghnkilnhacaaDoor
namespace Go.Proofs.YtjnghnkilnhacaaDoor
open Go.RowKit
set_option linter.unusedVariables false
set_option linter.unusedSimpArgs false

theorem get3 {cur : Array Value} {j : Nat} {a b c : Value} (h : j * 3 + 2 < cur.size) (i : Nat) :
    (((cur.setIfInBounds (j * 3) a).setIfInBounds (j * 3 + 1) b).setIfInBounds (j * 3 + 2) c)[i]? = if i = j * 3 + 2 then some c else if i = j * 3 + 1 then some b else if i = j * 3 then some a else cur[i]? := by
  by_cases h2 : i = j * 3 + 2
  · subst h2; rw [if_pos rfl, Array.getElem?_setIfInBounds, if_pos rfl, if_pos (by simp; omega)]
  · rw [if_neg h2, Array.getElem?_setIfInBounds_ne (by omega)]
    by_cases h1 : i = j * 3 + 1
    · subst h1; rw [if_pos rfl, Array.getElem?_setIfInBounds, if_pos rfl, if_pos (by simp; omega)]
    · rw [if_neg h1, Array.getElem?_setIfInBounds_ne (by omega)]
      by_cases h0 : i = j * 3
      · subst h0; rw [if_pos rfl, Array.getElem?_setIfInBounds, if_pos rfl, if_pos (by omega)]
      · rw [if_neg h0, Array.getElem?_setIfInBounds_ne (by omega)]
set_option maxRecDepth 10000 in
set_option maxHeartbeats 1000000 in
theorem markOpS (n : Nat) (k : Int) (A : Option Addr) (c : Nat) (w : World) (S : Nat → Prop) (hn : n ≤ 2097152) (h0 : 0 ≤ k) (h1 : k ≤ 4611686018427387904) (hR : Room w S 41 A (n * 3)) :
    Calls Tryd.prog 27 #[.slice A n c, .int .i64 k] w fun e w' => e = .returned (.int .i64 (k + 3 * (n : Int))) ∧ Only (fun b => S b ∧ 0 < n ∧ ∃ a, A = some a ∧ a.block = b) w w' ∧ Shape w w' ∧ MarksAt w' S A k (n * 3) := by
  go_enter Tryd.func27, Tryd.ntmps27
  go_wp2
  go_loopw [1, 5] (fun m i wr => ∃ j : Nat, j ≤ n ∧ i = .int .i64 j ∧ m = .int .i64 (k + 3 * (j : Int)) ∧ Hid (Only (fun b => S b ∧ 0 < n ∧ ∃ a, A = some a ∧ a.block = b) w wr) ∧ Hid (Shape w wr) ∧ Hid (MarksAt wr S A k (j * 3))) (fun _ i _ => n - (intOf i).toNat)
  case atStart => exact ⟨0, Nat.zero_le _, rfl, by simp, Only.refl _ _, Shape.refl _, fun h => absurd h (by omega)⟩
  case round =>
    obtain ⟨j, hj, rfl, rfl, hO, hS, hM⟩ := hrel
    by_cases hlt : j < n
    · obtain ⟨g, cur, rfl, hg, hB, hsz⟩ := (hR.shape hS.out) (by omega)
      obtain ⟨⟨u0, k0⟩, f0⟩ := hB.there (i := j * 3) (by omega)
      obtain ⟨⟨u1, k1⟩, f1⟩ := hB.there (i := j * 3 + 1) (by omega)
      obtain ⟨⟨u2, k2⟩, f2⟩ := hB.there (i := j * 3 + 2) (by omega)
      have HB := hide hB
      have hsum1 : IntKind.i64.wrap (k + 3 * (j : Int) + 1) = k + 3 * (j : Int) + 1 := by rw [IntKind.wrap_i64]; omega
      have hsum2 : IntKind.i64.wrap (k + 3 * (j : Int) + 1 + 1) = k + 3 * (j : Int) + 1 + 1 := by rw [IntKind.wrap_i64]; omega
      have hsum3 : IntKind.i64.wrap (k + 3 * (j : Int) + 1 + 1 + 1) = k + 3 * (j : Int) + 1 + 1 + 1 := by rw [IntKind.wrap_i64]; omega
      clear hR hB
      go_wp2
      go_roundw
      case rel =>
        refine ⟨j + 1, by omega, by go_num, by rw [show k + 3 * ((j + 1 : Nat) : Int) = k + 3 * (j : Int) + 1 + 1 + 1 by omega], ((hO.out.setCell (p := ⟨g, j * 3, none⟩) ⟨hg, by omega, _, rfl, rfl⟩ _).setCell (p := ⟨g, j * 3 + 1, none⟩) ⟨hg, by omega, _, rfl, rfl⟩ _).setCell (p := ⟨g, j * 3 + 2, none⟩) ⟨hg, by omega, _, rfl, rfl⟩ _, hS.out.trans (((Shape.setCell _ _ _ _).trans (Shape.setCell _ _ _ _)).trans (Shape.setCell _ _ _ _)), fun _ => ⟨g, rfl, hg, fun i hi => ?_⟩⟩
        rw [(((HB.out.set_ (j * 3) _).set_ (j * 3 + 1) _).set_ (j * 3 + 2) _).cell, get3 (by omega)]
        split
        · rename_i h; subst h; congr 2; omega
        · split
          · rename_i h; subst h; congr 2; omega
          · split
            · rename_i h; subst h; congr 2; omega
            · obtain ⟨g', hA, _, hc⟩ := hM.out (by omega)
              have hgg : g' = g := by simpa using hA.symm
              subst hgg
              rw [← HB.out.cell]
              exact hc i (by omega)
      case measure => simp [intOf]; omega
    · obtain rfl : j = n := by omega
      clear hR
      go_wp2
      go_ret
      exact ⟨rfl, hO.out, hS.out, hM.out⟩
set_option maxRecDepth 10000 in
set_option maxHeartbeats 1000000 in
theorem heldOpS (n : Nat) (k : Int) (A : Option Addr) (c : Nat) (w : World) (S : Nat → Prop) (hn : n ≤ 2097152) (h0 : 0 ≤ k) (h1 : k ≤ 4611686018427387904) (hM : MarksAt w S A k (n * 3)) :
    Calls Tryd.prog 28 #[.slice A n c, .int .i64 k] w fun e w' => e = .returned (.int .i64 (k + 3 * (n : Int))) ∧ w = w' := by
  go_enter Tryd.func28, Tryd.ntmps28
  go_wp2
  go_loop [1, 5] (fun m i => ∃ j : Nat, j ≤ n ∧ i = .int .i64 j ∧ m = .int .i64 (k + 3 * (j : Int))) (fun _ i => n - (intOf i).toNat)
  case atStart => exact ⟨0, Nat.zero_le _, rfl, by simp⟩
  case round =>
    obtain ⟨j, hj, rfl, rfl⟩ := hrel
    by_cases hlt : j < n
    · obtain ⟨g, rfl, hg, hc⟩ := hM (by omega)
      have c0 : w.cell? ⟨g, j * 3, none⟩ = some (.int .i64 (k + 3 * (j : Int))) := by rw [hc _ (by omega)]; congr 2; omega
      have c1 : w.cell? ⟨g, j * 3 + 1, none⟩ = some (.int .i64 (k + 3 * (j : Int) + 1)) := by rw [hc _ (by omega)]; congr 2; omega
      have c2 : w.cell? ⟨g, j * 3 + 2, none⟩ = some (.int .i64 (k + 3 * (j : Int) + 1 + 1)) := by rw [hc _ (by omega)]; congr 2; omega
      have hsum1 : IntKind.i64.wrap (k + 3 * (j : Int) + 1) = k + 3 * (j : Int) + 1 := by rw [IntKind.wrap_i64]; omega
      have hsum2 : IntKind.i64.wrap (k + 3 * (j : Int) + 1 + 1) = k + 3 * (j : Int) + 1 + 1 := by rw [IntKind.wrap_i64]; omega
      have hsum3 : IntKind.i64.wrap (k + 3 * (j : Int) + 1 + 1 + 1) = k + 3 * (j : Int) + 1 + 1 + 1 := by rw [IntKind.wrap_i64]; omega
      clear hc hM
      go_wp2
      go_round
      case rel => exact ⟨j + 1, by omega, by go_num, by rw [show k + 3 * ((j + 1 : Nat) : Int) = k + 3 * (j : Int) + 1 + 1 + 1 by omega]⟩
      case measure => simp [intOf]; omega
    · obtain rfl : j = n := by omega
      clear hM
      go_wp2
      go_ret
      exact ⟨rfl, rfl⟩

theorem Own.roomOp {e : TypeId} {w : World} {S : Nat → Prop} {xs : List Op} {A : Option Addr} {n c : Nat} (h : Own tOp e w S xs (.slice A n c)) : Room w S e A (xs.length * 3) := fun hn => by
  rcases h with ⟨h, rfl⟩ | ⟨g, cap, cur, S', hv, hg, hB, h1, h2, h3, _⟩
  · simp at hn
  · injection hv with hA _ _
    refine ⟨g, cur, hA, hg, hB, ?_⟩
    rw [h3]; show xs.length * 3 ≤ cap * 3; omega
/-- The mark at which transaction j begins. -/
def kAt (k : Int) (ls : List Nat) (j : Nat) : Int := k + (((ls.take j).map fun l => 2 + 3 * l).sum : Nat)
/-- Transactions of which the first i bear their marks. -/
structure MT (S : Nat → Prop) (g : Nat) (k : Int) (ls gs : List Nat) (i : Nat) (w : World) : Prop where
  blk : ∃ cur, Blk w g 24 cur ∧ ls.length * 3 ≤ cur.size
  inn : ∀ j (hj : j < ls.length) (hg : j < gs.length), ∃ A c, w.cell? ⟨g, j * 3 + 1, none⟩ = some (.slice A ls[j] c) ∧ (0 < ls[j] → A = some ⟨gs[j], 0, none⟩ ∧ S gs[j] ∧ ∃ cur, Blk w gs[j] 41 cur ∧ ls[j] * 3 ≤ cur.size ∧ (j < i → ∀ t, t < ls[j] * 3 → cur[t]? = some (.int .i64 (kAt k ls j + 1 + t))))
  out : ∀ j (hj : j < ls.length), j < i → w.cell? ⟨g, j * 3, none⟩ = some (.int .i64 (kAt k ls j)) ∧ w.cell? ⟨g, j * 3 + 2, none⟩ = some (.bool ((kAt k ls j + 1) % 3 == 0))
theorem MT.keep {S : Nat → Prop} {g : Nat} {k : Int} {ls gs : List Nat} {i : Nat} {w w' : World} (h : MT S g k ls gs i w) (hw : ∀ b, S b → w'.heap[b]? = w.heap[b]?) (hg : S g) : MT S g k ls gs i w' := by
  obtain ⟨⟨cur, hb, hs⟩, hi, ho⟩ := h
  refine ⟨⟨cur, hb.of (hw g hg), hs⟩, fun j hj hgj => ?_, fun j hj hji => ?_⟩
  · obtain ⟨A, c, h1, h2⟩ := hi j hj hgj
    refine ⟨A, c, (World.cell?_of_block (hw g hg)).trans h1, fun hp => ?_⟩
    obtain ⟨h3, h4, cur2, h5, h6⟩ := h2 hp
    exact ⟨h3, h4, cur2, h5.of (hw _ h4), h6⟩
  · obtain ⟨h1, h2⟩ := ho j hj hji
    exact ⟨(World.cell?_of_block (hw g hg)).trans h1, (World.cell?_of_block (hw g hg)).trans h2⟩
/-- A history that bears its marks. -/
def Marked (w : World) (S : Nat → Prop) (A : Option Addr) (k : Int) (ls gs : List Nat) : Prop :=
  0 < ls.length → ∃ g, A = some ⟨g, 0, none⟩ ∧ S g ∧ ls.length = gs.length ∧ MT S g k ls gs ls.length w
theorem Marked.keep {w w' : World} {S : Nat → Prop} {A : Option Addr} {k : Int} {ls gs : List Nat} (h : Marked w S A k ls gs) (hw : ∀ b, S b → w'.heap[b]? = w.heap[b]?) : Marked w' S A k ls gs := fun hp => by
  obtain ⟨g, hA, hg, hl, hm⟩ := h hp
  exact ⟨g, hA, hg, hl, hm.keep hw hg⟩
end Go.Proofs.YtjnghnkilnhacaaDoor
namespace Go.Proofs.YtjnghnkilnhacaaDoor
open Go.RowKit
set_option linter.unusedVariables false
set_option linter.unusedSimpArgs false

theorem rdT_len (l : Bs) : (rdT l).Ops.length ≤ 6 := by
  unfold rdT
  cases h : readTL l with
  | none => simp
  | some t => exact (txnOk_parts' (readTL_some h).1).2.2
theorem Hold.roomOp {w : World} {S : Nat → Prop} {xs : List Op} {A : Option Addr} {n c g : Nat} (h : Hold tOp 41 w S xs (.slice A n c) g) : Room w S 41 A (xs.length * 3) := fun hn => by
  obtain ⟨A', c', hv, _, _, hr⟩ := h
  injection hv with hA _ _
  subst hA
  obtain ⟨hA2, hg, ⟨cur, hB, hs⟩, _⟩ := hr (by omega)
  exact ⟨g, cur, hA2, hg, hB, hs⟩
set_option maxHeartbeats 1000000 in
theorem markTxn_any (sn : Int) (dn : Bool) (n : Nat) (k : Int) (A : Option Addr) (c : Nat) (w : World) (S : Nat → Prop) (hn : n ≤ 2097152) (h0 : 0 ≤ k) (h1 : k ≤ 1048576) (hS : ∀ b, S b → Old w b) (hR : Room w S 41 A (n * 3)) :
    Calls Tryd.prog 9 #[.agg #[.int .i64 sn, .slice A n c, .bool dn], .int .i64 k] w fun e w' => e = .returned (.int .i64 (k + 3 * (n : Int))) ∧ Only S w w' ∧ MarksAt w' S A k (n * 3) := by
  have HX := hide (Blk.new w 24 #[.int .i64 sn, .slice A n c, .bool dn])
  have HO := hide (Only.of_alloc (K := S) w (.cells #[.int .i64 sn, .slice A n c, .bool dn] 24))
  have HC := hide (markOpS n k A c (w.alloc (.cells #[.int .i64 sn, .slice A n c, .bool dn] 24)) S hn h0 (by omega) (hR.keep (fun b hb => Below.heap_alloc _ _ _ (hS b hb))))
  clear hR hS
  go_enter Tryd.func9, Tryd.ntmps9
  go_upto_region 1 with fail
  generalize w.alloc _ = W at HX HO HC ⊢
  have x1 := HX.out.cell 1
  simp only [List.getElem?_toArray, List.getElem?_cons_zero, List.getElem?_cons_succ] at x1
  go_wp2_with (go_at_call 27; refine HC.out.mono ?_; rintro e w1 ⟨rfl, ho, _, hk⟩; have HO1 := hide (HO.out.trans (ho.mono (fun b hb => hb.1))); have HK := hide hk; clear ho hk)
  go_ret
  exact ⟨rfl, HO1.out, HK.out⟩
set_option maxHeartbeats 1000000 in
theorem heldTxn_any (sn : Int) (dn : Bool) (n : Nat) (k : Int) (A : Option Addr) (c : Nat) (w : World) (S : Nat → Prop) (hn : n ≤ 2097152) (h0 : 0 ≤ k) (h1 : k ≤ 1048576) (hS : ∀ b, S b → Old w b) (hM : MarksAt w S A k (n * 3)) :
    Calls Tryd.prog 10 #[.agg #[.int .i64 sn, .slice A n c, .bool dn], .int .i64 k] w fun e w' => e = .returned (.int .i64 (k + 3 * (n : Int))) ∧ Below w.heap.size w w' := by
  have HX := hide (Blk.new w 24 #[.int .i64 sn, .slice A n c, .bool dn])
  have HB := hide ((Below.refl _ w).alloc (Nat.le_refl _) (.cells #[.int .i64 sn, .slice A n c, .bool dn] 24))
  have HC := hide (heldOpS n k A c (w.alloc (.cells #[.int .i64 sn, .slice A n c, .bool dn] 24)) S hn h0 (by omega) (hM.keep (fun b hb => Below.heap_alloc _ _ _ (hS b hb))))
  have hng : ¬ k + 3 * (n : Int) < 0 := by omega
  have hnd : decide (k + 3 * (n : Int) < 0) = false := decide_eq_false hng
  clear hM hS
  go_enter Tryd.func10, Tryd.ntmps10
  go_upto_region 1 with fail
  generalize w.alloc _ = W at HX HB HC ⊢
  have x1 := HX.out.cell 1
  simp only [List.getElem?_toArray, List.getElem?_cons_zero, List.getElem?_cons_succ] at x1
  go_wp2_with (go_at_call 28; refine HC.out.mono ?_; rintro e w1 ⟨rfl, rfl⟩)
  go_ret
  exact ⟨rfl, HB.out⟩
/-- Two struct variables, the first one's operations below n, marked memory S. -/
structure RT (w W : World) (S : Nat → Prop) (p0 p1 n : Nat) (c0 c1 : Array Value) (A : Option Addr) (os : List Op) : Prop where
  v0 : Blk W p0 24 c0
  v1 : Blk W p1 24 c1
  r0 : Row tOp W (fun b => b < n) A os
  nn : n ≤ W.heap.size
  sw : ∀ b, S b → w.heap.size ≤ b ∧ n ≤ b ∧ b < W.heap.size ∧ b ≠ p0 ∧ b ≠ p1
  bel : Below w.heap.size w W
section
variable {w W W' : World} {S : Nat → Prop} {p0 p1 n : Nat} {c0 c1 : Array Value} {A : Option Addr} {os : List Op}
theorem RT.below (h : RT w W S p0 p1 n c0 c1 A os) (hb : Below W.heap.size W W') : RT w W' S p0 p1 n c0 c1 A os :=
  ⟨h.v0.below hb h.v0.lt, h.v1.below hb h.v1.lt, h.r0.mono (fun _ h => h) (fun b hl => hb.block b (Nat.lt_of_lt_of_le hl h.nn)), Nat.le_trans h.nn hb.size,
    fun b hs => by obtain ⟨h1, h2, h3, h4, h5⟩ := h.sw b hs; exact ⟨h1, h2, Nat.lt_of_lt_of_le h3 hb.size, h4, h5⟩, h.bel.trans (hb.mono h.bel.size)⟩
theorem RT.only (h : RT w W S p0 p1 n c0 c1 A os) (ho : Only S W W') : RT w W' S p0 p1 n c0 c1 A os :=
  ⟨h.v0.of (ho.block _ h.v0.lt (fun e => (h.sw _ e).2.2.2.1 rfl)), h.v1.of (ho.block _ h.v1.lt (fun e => (h.sw _ e).2.2.2.2 rfl)),
    h.r0.mono (fun _ h => h) (fun b hl => ho.block b (Nat.lt_of_lt_of_le hl h.nn) (fun e => Nat.lt_irrefl _ (Nat.lt_of_lt_of_le hl (h.sw b e).2.1))), Nat.le_trans h.nn ho.size,
    fun b hs => by obtain ⟨h1, h2, h3, h4, h5⟩ := h.sw b hs; exact ⟨h1, h2, Nat.lt_of_lt_of_le h3 ho.size, h4, h5⟩, below_only h.bel ho h.bel.size (fun i hi => (h.sw i hi).1)⟩
theorem RT.row (h : RT w W S p0 p1 n c0 c1 A os) : Row tOp W (Old W) A os := h.r0.mono (fun b hl => Nat.lt_of_lt_of_le hl h.nn) (fun _ _ => rfl)
theorem RT.old (h : RT w W S p0 p1 n c0 c1 A os) : ∀ b, S b → Old W b := fun b hs => (h.sw b hs).2.2.1
end
set_option maxRecDepth 10000 in
set_option maxHeartbeats 4000000 in
theorem lawRdT (s : ByteArray) (w : World) (hE : ErrOk w) :
    Calls Tryd.prog 3 #[.string s] w fun e w' => e = .returned (.bool true) ∧ Below w.heap.size w w' := by
  by_cases hl : s.size ≤ 1048576
  rotate_left
  · clear hE
    go_enter Tryd.func3, Tryd.ntmps3
    go_wp2_with fail
    go_ret
    exact ⟨rfl, Below.refl _ _⟩
  have HI := hide (fun (W : World) (h : ErrOk W) => implReadTxn s W (by omega) h)
  have HSp := hide (fun (W : World) => specReadTxn s W (by omega))
  have HE := hide hE
  have hol := rdT_len s.data.toList
  clear hE
  generalize rdT s.data.toList = t at HI HSp hol
  generalize (readTL s.data.toList).isSome = ok at HI HSp
  obtain ⟨sn, os, dn⟩ := t
  simp only at HI HSp hol
  have hbb : (ok != ok) = false := by simp
  obtain ⟨rr, hrr⟩ : ∃ rr : Int, rr = 1 + 3 * (os.length : Int) := ⟨_, rfl⟩
  have hr0 : ¬ rr < 0 := by omega
  have hr1 : decide (rr < 0) = false := decide_eq_false hr0
  have HRr := hide hrr
  clear hrr
  go_enter Tryd.func3, Tryd.ntmps3
  go_upto_region 4 with (go_at_call 6; refine (HSp.out _).mono ?_; rintro e w1 ⟨v0, rfl, hO, hb⟩; obtain ⟨A0, c0, rfl, _, _, hR⟩ := hO.oldRow; have HR0 := hide hR; have HB1 := hide hb; clear hO hb hR)
  have HV0 := hide (Blk.new w1 24 #[.int .i64 sn, .slice A0 os.length c0, .bool dn])
  have hbz := (Below.refl w1.heap.size w1).alloc (Nat.le_refl _) (.cells #[.int .i64 sn, .slice A0 os.length c0, .bool dn] 24)
  have HR0 := hide (HR0.out.old hbz)
  have HB2 := hide (HB1.out.trans (hbz.mono HB1.out.size))
  have HP0 := hide (show w1.heap.size < (w1.alloc (.cells #[.int .i64 sn, .slice A0 os.length c0, .bool dn] 24)).heap.size by simp)
  clear hbz HB1
  generalize w1.alloc _ = w2 at HV0 HR0 HB2 HP0 ⊢
  generalize w1.heap.size = p0 at HV0 HP0 ⊢
  have HE2 := hide (HE.out.below HB2.out)
  go_upto_region 5 with (go_at_call 7; refine (HI.out _ HE2.out).mono ?_; rintro e w3 ⟨v1, g1, rfl, hH, hg, hb⟩; have hH2 := hH; obtain ⟨A1, c1, rfl, _, _, _⟩ := hH2; have HH1 := hide hH; have HB3 := hide hb; clear hH hg hb)
  have HT4 := hide (show RT w (w3.alloc (.cells #[.int .i64 sn, .slice A1 os.length c1, .bool dn] 24)) (New w2 w3) p0 w3.heap.size w2.heap.size #[.int .i64 sn, .slice A0 os.length c0, .bool dn] #[.int .i64 sn, .slice A1 os.length c1, .bool dn] A0 os from by
    have hbz := HB3.out.alloc HB3.out.size (.cells #[.int .i64 sn, .slice A1 os.length c1, .bool dn] 24)
    exact ⟨HV0.out.below hbz HV0.out.lt, Blk.new _ _ _, HR0.out.mono (fun _ h => h) (fun b h => hbz.block b h), hbz.size,
      fun b hb => ⟨Nat.le_trans HB2.out.size hb.1, hb.1, Nat.lt_of_lt_of_le hb.2 (by simp), fun e => by have := HP0.out; have := hb.1; omega, fun e => by have := hb.2; omega⟩, HB2.out.trans (hbz.mono HB2.out.size)⟩)
  have HH1 := hide (HH1.out.mono (w' := w3.alloc (.cells #[.int .i64 sn, .slice A1 os.length c1, .bool dn] 24)) (fun _ h => h) (fun b hb => Below.heap_alloc _ _ _ hb.2))
  clear HV0 HR0 HB2 HB3 HP0 HE2
  generalize w3.alloc _ = w4 at HT4 HH1 ⊢
  generalize New w2 w3 = S at HT4 HH1 ⊢
  generalize w3.heap.size = p1 at HT4 ⊢
  generalize w2.heap.size = n at HT4
  have x0 := HT4.out.v0.cell 0; have x1 := HT4.out.v0.cell 1; have x2 := HT4.out.v0.cell 2
  have y0 := HT4.out.v1.cell 0; have y1 := HT4.out.v1.cell 1; have y2 := HT4.out.v1.cell 2
  simp only [List.getElem?_toArray, List.getElem?_cons_zero, List.getElem?_cons_succ] at x0 x1 x2 y0 y1 y2
  have HQ := hide (eqTxn ⟨sn, os, dn⟩ w4 A1 A0 c1 c0 (by simp only [maxLen]; omega) (HH1.out.sl.row.mono (fun b hb => HT4.out.old b hb) (fun _ _ => rfl)) HT4.out.row)
  go_upto_region 7 with (go_at_call 8; refine HQ.out.mono ?_; rintro e w5 ⟨rfl, hb⟩; have HT5 := hide (HT4.out.below hb); have HH5 := hide (HH1.out.mono (fun _ h => h) (fun b h => hb.block b (HT4.out.old b h))); clear hb)
  clear x0 x1 x2 y0 y1 y2 HQ HT4 HH1
  have y0 := HT5.out.v1.cell 0; have y1 := HT5.out.v1.cell 1; have y2 := HT5.out.v1.cell 2
  simp only [List.getElem?_toArray, List.getElem?_cons_zero, List.getElem?_cons_succ] at y0 y1 y2
  have HM := markTxn_any sn dn os.length 1 A1 c1 w5 S (by omega) (by omega) (by omega) HT5.out.old HH5.out.roomOp
  rw [← HRr.out] at HM
  have HM := hide HM
  clear HH5
  go_upto_region 9 with (go_at_call 9; refine HM.out.mono ?_; rintro e w6 ⟨rfl, ho, hk⟩; have HT6 := hide (HT5.out.only ho); have HK := hide hk; clear ho hk)
  clear y0 y1 y2 HM HT5
  have y0 := HT6.out.v1.cell 0; have y1 := HT6.out.v1.cell 1; have y2 := HT6.out.v1.cell 2
  simp only [List.getElem?_toArray, List.getElem?_cons_zero, List.getElem?_cons_succ] at y0 y1 y2
  have HHl := heldTxn_any sn dn os.length 1 A1 c1 w6 S (by omega) (by omega) (by omega) HT6.out.old HK.out
  rw [← HRr.out] at HHl
  have HHl := hide HHl
  go_upto_region 15 with (go_at_call 10; refine HHl.out.mono ?_; rintro e w7 ⟨rfl, hb⟩; have HT7 := hide (HT6.out.below hb); have HK := hide (HK.out.keep (fun b h => hb.block b (HT6.out.old b h))); clear hb)
  clear y0 y1 y2 HHl HT6
  have HE7 := hide (HE.out.below HT7.out.bel)
  go_upto_region 16 with (go_at_call 7; refine (HI.out _ HE7.out).mono ?_; rintro e w8 ⟨v2, g2, rfl, hH, hg, hb⟩; have hH2 := hH; obtain ⟨A2, c2, rfl, _, _, _⟩ := hH2; have HR2 := hide hH.old.row; have HT8 := hide (HT7.out.below hb); have HK := hide (HK.out.keep (fun b h => hb.block b (HT7.out.old b h))); clear hH hg hb)
  have hbz := (Below.refl w8.heap.size w8).alloc (Nat.le_refl _) (.cells #[.int .i64 sn, .slice A2 os.length c2, .bool dn] 24)
  have HV2 := hide (Blk.new w8 24 #[.int .i64 sn, .slice A2 os.length c2, .bool dn])
  have HR2 := hide (HR2.out.old hbz)
  have HT9 := hide (HT8.out.below hbz)
  have HK := hide (HK.out.keep (fun b h => hbz.block b (HT8.out.old b h)))
  clear hbz HT7 HT8 HE7
  generalize w8.alloc _ = w9 at HV2 HR2 HT9 HK ⊢
  generalize w8.heap.size = p2 at HV2 ⊢
  have x0 := HT9.out.v0.cell 0; have x1 := HT9.out.v0.cell 1; have x2 := HT9.out.v0.cell 2
  have y0 := HV2.out.cell 0; have y1 := HV2.out.cell 1; have y2 := HV2.out.cell 2
  simp only [List.getElem?_toArray, List.getElem?_cons_zero, List.getElem?_cons_succ] at x0 x1 x2 y0 y1 y2
  have HQ := hide (eqTxn ⟨sn, os, dn⟩ w9 A2 A0 c2 c0 (by simp only [maxLen]; omega) HR2.out HT9.out.row)
  clear HR2
  go_upto_region 18 with (go_at_call 8; refine HQ.out.mono ?_; rintro e w10 ⟨rfl, hb⟩; have HT10 := hide (HT9.out.below hb); have HK := hide (HK.out.keep (fun b h => hb.block b (HT9.out.old b h))); clear hb)
  clear x0 x1 x2 y0 y1 y2 HQ HT9 HV2
  have y0 := HT10.out.v1.cell 0; have y1 := HT10.out.v1.cell 1; have y2 := HT10.out.v1.cell 2
  simp only [List.getElem?_toArray, List.getElem?_cons_zero, List.getElem?_cons_succ] at y0 y1 y2
  have HHl := heldTxn_any sn dn os.length 1 A1 c1 w10 S (by omega) (by omega) (by omega) HT10.out.old HK.out
  rw [← HRr.out] at HHl
  have HHl := hide HHl
  go_wp2_with (go_at_call 10; refine HHl.out.mono ?_; rintro e w11 ⟨rfl, hb⟩; have HT11 := hide (HT10.out.below hb); clear hb)
  go_ret
  exact ⟨rfl, HT11.out.bel⟩
end Go.Proofs.YtjnghnkilnhacaaDoor
