/- Texts of histories: what stands behind an accepted text is refused, and how a text is scanned for its parts. Plain laws. strings.SplitSeq at "; ": its iterator yields the parts of a text. The marks that the laws package writes into transactions and reads back. Lists of transactions in new memory that can be marked and asked for their marks. -/
import Derived.Test.YtjnghnkilnhacaaGreatDoorQTxtP
import Derived.Test.YtjnghnkilnhacaaGreatDoorQVals
import Derived.Test.YtjnghnkilnhacaaGreatDoorQTabT
import Derived.Test.YtjnghnkilnhacaaGreatDoorQOwnList
import Derived.Test.YtjnghnkilnhacaaGreatDoorQHistS
namespace Go.Proofs.YtjnghnkilnhacaaGreatDoor
open Go.RowKit
set_option linter.unusedVariables false
set_option linter.unusedSimpArgs false

theorem join_ne {w : Bs} {ws : List Bs} (h : w ≠ []) : Lib.join (w :: ws) [59, 32] ≠ [] := by
  cases ws with
  | nil => rw [Lib.join_one]; exact h
  | cons v ws =>
    have e : Lib.join (w :: v :: ws) [59, 32] = w ++ 59 :: 32 :: Lib.join (v :: ws) [59, 32] := by rw [Lib.join_cons, Lib.join_cons]; rfl
    rw [e]
    simp
theorem join_last : ∀ (w : Bs) (ws : List Bs), (∀ v ∈ w :: ws, v ≠ [] ∧ (59 : UInt8) ∉ v) → (Lib.join (w :: ws) [59, 32]).getLast? ≠ some 59
  | w, [], h => by
    rw [Lib.join_one]
    intro e
    exact (h w List.mem_cons_self).2 (List.mem_of_getLast? e)
  | w, v :: ws, h => by
    have ih := join_last v ws (fun u hu => h u (List.mem_cons_of_mem _ hu))
    have hne : Lib.join (v :: ws) [59, 32] ≠ [] := join_ne (h v (List.mem_cons_of_mem _ List.mem_cons_self)).1
    have e : Lib.join (w :: v :: ws) [59, 32] = w ++ 59 :: 32 :: Lib.join (v :: ws) [59, 32] := by rw [Lib.join_cons, Lib.join_cons]; rfl
    rw [e]
    cases hJ : Lib.join (v :: ws) [59, 32] with
    | nil => exact absurd hJ hne
    | cons a b =>
      rw [hJ] at ih
      intro hh
      apply ih
      rw [← hh, List.getLast?_append]
      simp [List.getLast?_cons]
/-- A text with a semicolon behind it is refused. -/
theorem readHL_semi (l : Bs) : readHL (l ++ [59]) = none := by
  cases h : readHL (l ++ [59]) with
  | none => rfl
  | some x =>
    exfalso
    obtain ⟨hv, he⟩ := readHL_some h
    unfold histL at he
    rw [if_pos hv] at he
    cases x with
    | nil =>
      have := congrArg List.length he
      simp [Lib.join] at this
    | cons t x =>
      rw [List.map_cons] at he
      refine join_last (txnL t) (x.map txnL) (fun w hw => ?_) (by rw [he]; simp)
      rw [← List.map_cons] at hw
      obtain ⟨t', ht, rfl⟩ := List.mem_map.1 hw
      exact ⟨txnL_ne, txnL_semi (histV_ok hv t' ht)⟩

/-! ### Scanning -/
theorem mapMT_snoc {ws : List Bs} {x : Bs} {os : List Txn} {o : Txn} : ws.mapM readTL = some os → readTL x = some o → (ws ++ [x]).mapM readTL = some (os ++ [o]) := by
  intro h1 h2
  rw [List.mapM_append, h1]
  simp [h2]
theorem mapMT_bad {x : Bs} (h : readTL x = none) : ∀ {ws : List Bs}, x ∈ ws → ws.mapM readTL = none
  | w :: ws, hm => by
    rw [List.mapM_cons]
    rcases List.mem_cons.1 hm with e | hm
    · rw [← e, h]; rfl
    · rw [mapMT_bad h hm]
      cases readTL w <;> rfl
theorem mapMT_len {ws : List Bs} {os : List Txn} (h : ws.mapM readTL = some os) : os.length = ws.length := by
  have := (mapM_txnL_some h).1
  rw [← this, List.length_map]
theorem readHL_bad {l x : Bs} (hl : l ≠ []) (hx : x ∈ partsL l) (h : readTL x = none) : readHL l = none := by
  unfold readHL
  rw [if_neg hl, mapMT_bad h hx]
theorem readHL_many {l : Bs} (hl : l ≠ []) (h : 7 ≤ (partsL l).length) : readHL l = none := by
  unfold readHL
  rw [if_neg hl]
  cases hm : (partsL l).mapM readTL with
  | none => rfl
  | some x =>
    simp only
    rw [if_neg]
    intro hv
    have h1 := (histV_parts hv).1
    have h2 := mapMT_len hm
    omega
theorem readHL_all {l : Bs} {x : List Txn} (hl : l ≠ []) (h : (partsL l).mapM readTL = some x) : readHL l = if histV x then some x else none := by
  unfold readHL
  rw [if_neg hl, h]
def putPre (p : Bs) : List Bs → List Bs
  | [] => [p]
  | w :: ws => (p ++ w) :: ws
theorem putPre_nil {ws : List Bs} (h : ws ≠ []) : putPre [] ws = ws := by
  cases ws with
  | nil => exact absurd rfl h
  | cons w ws => rfl
theorem putPre_head (p : Bs) (x : UInt8) {ws : List Bs} (h : ws ≠ []) : putPre p (putHead x ws) = putPre (p ++ [x]) ws := by
  cases ws with
  | nil => exact absurd rfl h
  | cons w ws => simp [putPre, putHead]
theorem partsL_step (x : UInt8) (rest : Bs) (h : ¬ (x = 59 ∧ rest.head? = some 32)) : partsL (x :: rest) = putHead x (partsL rest) := by
  cases rest with
  | nil => rfl
  | cons y l => rw [partsL, if_neg (by simpa using h)]
/-- The scan of a text for its parts: what has been read, and where. -/
structure Scan (l : Bs) (b k : Nat) (out : List Txn) : Prop where
  parts : ∃ ps, ps.mapM readTL = some out ∧ partsL l = ps ++ partsL (l.drop b)
  b1 : b ≤ k + 1
  b2 : b ≤ l.length
  b3 : k < b → l[k]? = some 32
  cur : partsL (l.drop b) = putPre ((l.drop b).take (k - b)) (partsL (l.drop (max b k)))
theorem Scan.zero (l : Bs) : Scan l 0 0 [] := ⟨⟨[], rfl, rfl⟩, by omega, by omega, by omega, by simp [putPre_nil (partsL_ne l)]⟩
theorem Scan.next {l : Bs} {b k : Nat} {out : List Txn} (h : Scan l b k out) (hk : k < l.length) (hc : ¬ (l[k]? = some 59 ∧ l[k + 1]? = some 32)) : Scan l b (k + 1) out := by
  obtain ⟨h1, h2, h3, h4, h5⟩ := h
  by_cases hbk : k < b
  · obtain rfl : b = k + 1 := by omega
    refine ⟨h1, by omega, h3, by omega, ?_⟩
    rw [Nat.sub_self, Nat.max_self, List.take_zero, putPre_nil (partsL_ne _)]
  · refine ⟨h1, by omega, h3, by omega, ?_⟩
    rw [Nat.max_eq_right (by omega)] at h5 ⊢
    have hd : l.drop k = l[k] :: l.drop (k + 1) := List.drop_eq_getElem_cons hk
    rw [h5, hd, partsL_step, putPre_head _ _ (partsL_ne _)]
    · congr 1
      have hlt : k - b < (l.drop b).length := by rw [List.length_drop]; omega
      rw [show k + 1 - b = (k - b) + 1 by omega, List.take_succ_eq_append_getElem hlt, List.getElem_drop]
      congr 3
      omega
    · rw [List.head?_drop]
      rintro ⟨e1, e2⟩
      exact hc ⟨by rw [List.getElem?_eq_getElem hk, e1], e2⟩
theorem Scan.ge {l : Bs} {b k : Nat} {out : List Txn} (h : Scan l b k out) (hc : k = l.length ∨ l[k]? = some 59) : b ≤ k := by
  rcases Nat.lt_or_ge k b with hlt | hge
  · have h3 := h.b3 hlt
    rcases hc with e | e
    · have := h.b2; omega
    · rw [e] at h3; cases h3
  · exact hge
theorem Scan.end_ {l : Bs} {b : Nat} {out : List Txn} (h : Scan l b l.length out) : ∃ ps, ps.mapM readTL = some out ∧ partsL l = ps ++ [(l.drop b).take (l.length - b)] := by
  obtain ⟨ps, h1, h2⟩ := h.parts
  refine ⟨ps, h1, ?_⟩
  rw [h2, h.cur, Nat.max_eq_right h.b2, List.drop_length]
  simp [partsL, putPre]
theorem Scan.cut {l : Bs} {b k : Nat} {out : List Txn} (h : Scan l b k out) (h1 : l[k]? = some 59) (h2 : l[k + 1]? = some 32) : ∃ ps, ps.mapM readTL = some out ∧ partsL l = ps ++ (l.drop b).take (k - b) :: partsL (l.drop (k + 2)) := by
  have hb := h.ge (.inr h1)
  obtain ⟨ps, h3, h4⟩ := h.parts
  refine ⟨ps, h3, ?_⟩
  have hk : k < l.length := by
    rcases Nat.lt_or_ge k l.length with hlt | hge
    · exact hlt
    · rw [List.getElem?_eq_none hge] at h1; cases h1
  have hk1 : k + 1 < l.length := by
    rcases Nat.lt_or_ge (k + 1) l.length with hlt | hge
    · exact hlt
    · rw [List.getElem?_eq_none hge] at h2; cases h2
  have e1 : l[k] = 59 := by rw [List.getElem?_eq_getElem hk] at h1; simpa using h1
  have e2 : l[k + 1] = 32 := by rw [List.getElem?_eq_getElem hk1] at h2; simpa using h2
  rw [h4, h.cur, Nat.max_eq_right hb, List.drop_eq_getElem_cons hk, List.drop_eq_getElem_cons hk1, e1, e2, partsL, if_pos ⟨rfl, rfl⟩]
  simp [putPre]
/-- A part that is read goes to what has been read. -/
theorem Scan.take {l : Bs} {b k : Nat} {out : List Txn} {t : Txn} (h : Scan l b k out) (h1 : l[k]? = some 59) (h2 : l[k + 1]? = some 32) (ht : readTL ((l.drop b).take (k - b)) = some t) : Scan l (k + 2) (k + 1) (out ++ [t]) := by
  obtain ⟨ps, h3, h4⟩ := h.cut h1 h2
  have hk1 : k + 1 < l.length := by
    rcases Nat.lt_or_ge (k + 1) l.length with hlt | hge
    · exact hlt
    · rw [List.getElem?_eq_none hge] at h2; cases h2
  refine ⟨⟨ps ++ [(l.drop b).take (k - b)], mapMT_snoc h3 ht, by rw [h4]; simp⟩, by omega, by omega, fun _ => h2, ?_⟩
  rw [show k + 1 - (k + 2) = 0 by omega, List.take_zero, Nat.max_eq_left (by omega), putPre_nil (partsL_ne _)]
theorem Scan.last {l : Bs} {b : Nat} {out : List Txn} {t : Txn} (h : Scan l b l.length out) (ht : readTL ((l.drop b).take (l.length - b)) = some t) : (partsL l).mapM readTL = some (out ++ [t]) := by
  obtain ⟨ps, h1, h2⟩ := h.end_
  rw [h2]
  exact mapMT_snoc h1 ht
/-- A cut: at the end, or at a semicolon with a space behind it. -/
def CutAt (l : Bs) (k : Nat) : Prop := k = l.length ∨ (l[k]? = some 59 ∧ l[k + 1]? = some 32)
theorem Scan.bad {l : Bs} {b k : Nat} {out : List Txn} (h : Scan l b k out) (hc : CutAt l k) (hl : l ≠ []) (hb : readTL ((l.drop b).take (k - b)) = none) : readHL l = none := by
  rcases hc with e | ⟨h1, h2⟩
  · subst e
    obtain ⟨ps, _, h3⟩ := h.end_
    exact readHL_bad hl (by rw [h3]; simp) hb
  · obtain ⟨ps, _, h3⟩ := h.cut h1 h2
    exact readHL_bad hl (by rw [h3]; simp) hb
theorem Scan.many {l : Bs} {b k : Nat} {out : List Txn} (h : Scan l b k out) (hc : CutAt l k) (hl : l ≠ []) (ho : out.length = 6) : readHL l = none := by
  rcases hc with e | ⟨h1, h2⟩
  · subst e
    obtain ⟨ps, h1, h3⟩ := h.end_
    have := mapMT_len h1
    exact readHL_many hl (by rw [h3, List.length_append]; simp; omega)
  · obtain ⟨ps, h1, h3⟩ := h.cut h1 h2
    have := mapMT_len h1
    exact readHL_many hl (by rw [h3, List.length_append]; simp; omega)
/-- What has been read behind k rounds. -/
def ScanI (l : Bs) (b k : Nat) (out : List Txn) : Prop := if k ≤ l.length then Scan l b k out else k = l.length + 1 ∧ (partsL l).mapM readTL = some out
theorem ScanI.of {l : Bs} {b k : Nat} {out : List Txn} (h : ScanI l b k out) (hk : k ≤ l.length) : Scan l b k out := by unfold ScanI at h; rwa [if_pos hk] at h
theorem ScanI.zero (l : Bs) : ScanI l 0 0 [] := by unfold ScanI; rw [if_pos (by omega)]; exact Scan.zero l
theorem ScanI.skip {l : Bs} {b k : Nat} {out : List Txn} (h : ScanI l b k out) (hk : k < l.length) (hc : ¬ CutAt l k) : ScanI l b (k + 1) out := by
  unfold ScanI
  rw [if_pos (by omega)]
  exact (h.of (by omega)).next hk (fun e => hc (.inr e))
theorem ScanI.read {l : Bs} {b k : Nat} {out : List Txn} {t : Txn} (h : ScanI l b k out) (hk : k ≤ l.length) (hc : CutAt l k) (ht : readTL ((l.drop b).take (k - b)) = some t) : ScanI l (k + 2) (k + 1) (out ++ [t]) := by
  have h := h.of hk
  unfold ScanI
  rcases hc with e | ⟨h1, h2⟩
  · subst e
    rw [if_neg (by omega)]
    exact ⟨rfl, h.last ht⟩
  · have hk1 : k + 1 < l.length := by
      rcases Nat.lt_or_ge (k + 1) l.length with hlt | hge
      · exact hlt
      · rw [List.getElem?_eq_none hge] at h2; cases h2
    rw [if_pos (by omega)]
    exact h.take h1 h2 ht
theorem ScanI.done {l : Bs} {b k : Nat} {out : List Txn} (h : ScanI l b k out) (hk : ¬ k ≤ l.length) : (partsL l).mapM readTL = some out := by unfold ScanI at h; rw [if_neg hk] at h; exact h.2
theorem partsL_len : ∀ l : Bs, (partsL l).length ≤ l.length + 1
  | [] => by simp [partsL]
  | [x] => by simp [partsL]
  | x :: y :: l => by
    unfold partsL
    split
    · have := partsL_len l
      simp
      omega
    · have := partsL_len (y :: l)
      cases hw : partsL (y :: l) with
      | nil => simp [putHead]
      | cons u us => rw [hw] at this; simp [putHead] at this ⊢; omega
end Go.Proofs.YtjnghnkilnhacaaGreatDoor
namespace Go.Proofs.YtjnghnkilnhacaaGreatDoor
open Go.RowKit Go.Shelf
set_option linter.unusedVariables false
set_option linter.unusedSimpArgs false
attribute [local go_sem] Oper.semAt_some

theorem index_semi (x : UInt8) (l : Bs) : Lib.index (x :: l) [59, 32] = if x = 59 ∧ l.head? = some 32 then 0 else if Lib.index l [59, 32] = -1 then -1 else Lib.index l [59, 32] + 1 := by
  rw [Lib.index]
  by_cases h : x = 59 ∧ l.head? = some 32
  · obtain ⟨rfl, h2⟩ := h
    cases l with
    | nil => cases h2
    | cons y l =>
      obtain rfl : y = 32 := by simpa using h2
      simp [List.isPrefixOf]
  · have hp : ([59, 32] : List UInt8).isPrefixOf (x :: l) = false := by
      cases l with
      | nil => simp [List.isPrefixOf]
      | cons y l =>
        rw [List.head?_cons] at h
        simp only [List.isPrefixOf, Bool.and_true]
        rw [Bool.and_eq_false_iff]
        by_cases hx : x = 59
        · right
          rw [beq_eq_false_iff_ne]
          intro e
          exact h ⟨hx, by rw [← e]⟩
        · left
          rw [beq_eq_false_iff_ne]
          exact fun e => hx e.symm
    rw [hp, if_neg h]
    simp
theorem index_parts : ∀ l : Bs, (Lib.index l [59, 32] = -1 → partsL l = [l]) ∧ (∀ i : Nat, Lib.index l [59, 32] = (i : Int) → i + 2 ≤ l.length ∧ partsL l = l.take i :: partsL (l.drop (i + 2)))
  | [] => ⟨fun _ => rfl, fun i h => by simp [Lib.index] at h⟩
  | x :: l => by
    obtain ⟨ih1, ih2⟩ := index_parts l
    rw [index_semi]
    by_cases h : x = 59 ∧ l.head? = some 32
    · rw [if_pos h]
      obtain ⟨rfl, h2⟩ := h
      cases l with
      | nil => cases h2
      | cons y l =>
        obtain rfl : y = 32 := by simpa using h2
        refine ⟨fun e => by omega, fun i e => ?_⟩
        obtain rfl : i = 0 := by omega
        refine ⟨by simp, ?_⟩
        rw [partsL, if_pos ⟨rfl, rfl⟩]
        rfl
    · rw [if_neg h, partsL_step x l h]
      by_cases hn : Lib.index l [59, 32] = -1
      · rw [if_pos hn, ih1 hn]
        exact ⟨fun _ => rfl, fun i e => by omega⟩
      · rw [if_neg hn]
        have hge := Lib.index_ge l [59, 32]
        refine ⟨fun e => by omega, fun i e => ?_⟩
        obtain ⟨j, hj⟩ : ∃ j : Nat, Lib.index l [59, 32] = (j : Int) := ⟨(Lib.index l [59, 32]).toNat, by omega⟩
        obtain ⟨k1, k2⟩ := ih2 j hj
        obtain rfl : i = j + 1 := by omega
        refine ⟨by simp; omega, ?_⟩
        rw [k2]
        rfl
/-- A part: a text of at most so many bytes. -/
abbrev Part := { x : ByteArray // x.size ≤ 1048576 }
def partT (x : Part) : Bs := x.1.data.toList
/-- What the iterator reads. -/
structure SS (W : World) (Bq Bs Bv : Nat) (rest : ByteArray) : Prop where
  q : Boxed W Bq 9 (.string ⟨#[59, 32]⟩)
  s : Boxed W Bs 9 (.string rest)
  v : Boxed W Bv 3 (.int .i64 0)
  m : ∃ m, W.cell? ⟨0, 0, none⟩ = some (.int .i64 m)
/-- The blocks that the iterator reads. -/
def SSK (Bq Bs Bv b : Nat) : Prop := b = Bq ∨ b = Bs ∨ b = Bv ∨ b = 0
theorem SS.round {W W' : World} {Bq Bs Bv : Nat} {rest : ByteArray} (h : SS W Bq Bs Bv rest) (hb : SameK (SSK Bq Bs Bv) W W') : SS W' Bq Bs Bv rest := by
  obtain ⟨m, hm⟩ := h.m
  exact ⟨(hb _ (.inl rfl)).trans h.q, (hb _ (.inr (.inl rfl))).trans h.s, (hb _ (.inr (.inr (.inl rfl)))).trans h.v, m, (World.cell?_of_block (hb _ (.inr (.inr (.inr rfl))))).trans hm⟩
theorem SS.set {W : World} {Bq Bs Bv : Nat} {rest : ByteArray} (h : SS W Bq Bs Bv rest) (h1 : Bq ≠ Bs) (h3 : Bv ≠ Bs) (h4 : 0 ≠ Bs) (r : ByteArray) : SS (W.setCell ⟨Bs, 0, none⟩ (.string r)) Bq Bs Bv r := by
  obtain ⟨m, hm⟩ := h.m
  exact ⟨(heap_set_far W Bs _ _ h1).trans h.q, h.s.set _, (heap_set_far W Bs _ _ h3).trans h.v, m, (World.cell?_of_block (heap_set_far W Bs _ _ h4)).trans hm⟩
def strAt (W : World) (B : Nat) : Nat := match W.cell? ⟨B, 0, none⟩ with
  | some (.string z) => z.size
  | _ => 0
theorem strAt_box {W : World} {B : Nat} {z : ByteArray} (h : Boxed W B 9 (.string z)) : strAt W B = z.size := by unfold strAt; rw [h.cell]
theorem ext_list (r : ByteArray) (a b : Nat) : (r.extract a b).data.toList = (r.data.toList.drop a).take (b - a) := by
  rw [ByteArray.data_extract, Array.toList_extract, List.extract_eq_take_drop]
set_option maxRecDepth 100000 in
set_option maxHeartbeats 2000000 in
theorem split_stops (n : Nat) (hn : 1 ≤ n) (Bq Bs Bv : Nat) (s : ByteArray) (hs : s.size ≤ 1048576) (w : World) (hS : SS w Bq Bs Bv s) (e1 : Bq ≠ Bs) (e3 : Bv ≠ Bs) (e4 : 0 ≠ Bs) :
    SeqCell Fence.wide n Tryz.prog 74 #[.pointer (some ⟨Bq, 0, none⟩), .pointer (some ⟨Bs, 0, none⟩), .pointer (some ⟨Bv, 0, none⟩)] (fun x : Part => #[Value.string x.1]) (SSK Bq Bs Bv) Bs (fun ys => ys.map partT = partsL s.data.toList) (fun pre => pre.map partT <+: partsL s.data.toList) (s.size + 2) w := fun l J Jx W hW hJs hY h0 => by
  have HS0 := hide (hS.round hW)
  have HR := hide (fun (W1 W2 : World) (rest : ByteArray) (h : SS W1 Bq Bs Bv rest) (hb : SameK (SSK Bq Bs Bv) W1 W2) => h.round hb)
  have HSet := hide (fun (W1 : World) (rest r : ByteArray) (h : SS W1 Bq Bs Bv rest) => h.set e1 e3 e4 r)
  have HJs := hide hJs
  clear hS hW e1 e3 e4 hJs
  refine callsIn_of_wp Tryz.func74 rfl trivial ?_ rfl
  simp only [Tryz.ntmps74, List.size_toArray, List.length_cons, List.length_nil, Nat.reduceAdd, Nat.reduceSub, Array.replicate_succ, Array.replicate_zero, List.push_toArray, List.append_toArray, List.nil_append, List.cons_append]
  have q0 := HS0.out.q.cell
  gi_wp2
  gi_loopw [7, 8] (fun _ _ wr => ∃ (pre : List Part) (rest : ByteArray), Hid (partsL s.data.toList = pre.map partT ++ partsL rest.data.toList) ∧ Hid (SS wr Bq Bs Bv rest) ∧ Hid (rest.size ≤ s.size) ∧ J pre wr) (fun _ _ wr => strAt wr Bs)
  case atStart => exact ⟨[], s, rfl, HS0.out, Nat.le_refl _, h0⟩
  case round =>
    obtain ⟨pre, rest, hP, hSS, hsz, hJ⟩ := hrel
    have HP := hide hP.out; have HSS := hide hSS.out
    have hsz' : rest.size ≤ s.size := hsz.out
    clear hP hSS hsz HS0 q0
    obtain ⟨m, hm⟩ := HSS.out.m
    have HIx := fun k : Nat => show CallsIn Fence.wide k Tryz.prog 76 #[.string rest, .string ⟨#[59, 32]⟩] wr fun e w' => e = .returned (.int .i64 (Lib.index rest.data.toList [59, 32])) ∧ w' = wr from callsIn_wide.2 (Any.strings_Index { tLaySplit with } rest ⟨#[59, 32]⟩ m wr (by omega) hm)
    have hfI : Fence.wide.fn 76 := trivial
    obtain ⟨hI1, hI2⟩ := index_parts rest.data.toList
    have hge := Lib.index_ge rest.data.toList [59, 32]
    have hrl : rest.data.toList.length = rest.size := by rw [Array.length_toList]; rfl
    have hsl : s.data.toList.length = s.size := by rw [Array.length_toList]; rfl
    have hlen : pre.length < s.size + 2 := by
      have h5 := partsL_len s.data.toList
      rw [HP.out, List.length_append, List.length_map] at h5
      have h6 := List.length_pos_iff.2 (partsL_ne rest.data.toList)
      omega
    have q0 := HSS.out.q.cell; have s0 := HSS.out.s.cell; have v0 := HSS.out.v.cell
    by_cases hneg : Lib.index rest.data.toList [59, 32] = -1
    · have HIx' := HIx
      rw [hneg] at HIx'
      have HIx := hide HIx'
      have HL := hide (show partsL s.data.toList = (pre ++ [(⟨rest, by omega⟩ : Part)]).map partT by rw [HP.out, hI1 hneg, List.map_append]; rfl)
      clear hneg hI1 hI2 hge HIx' hm
      obtain ⟨fn, tmps, assign, body, hy, hR⟩ := hY pre ⟨rest, by omega⟩ wr hJ hlen
      dsimp only at hy
      gi_wp2_with (gi_at_call 76; refine (HIx.out _).mono ?_; rintro e w' ⟨rfl, rfl⟩)
      refine hR.mono ?_
      rintro e W3 (⟨rfl, hJ3, hk3⟩ | ⟨rfl, hJx3⟩)
      · gi_wp2
        go_end0
        exact ⟨⟨_, rfl⟩, .inl ⟨_, HL.out.symm, hJ3⟩⟩
      · gi_wp2
        go_end0
        exact ⟨⟨_, rfl⟩, .inr ⟨_, ⟨[], by rw [List.append_nil]; exact HL.out.symm⟩, hJx3⟩⟩
    · obtain ⟨i, hi⟩ : ∃ i : Nat, Lib.index rest.data.toList [59, 32] = (i : Int) := ⟨(Lib.index rest.data.toList [59, 32]).toNat, by omega⟩
      obtain ⟨k1, k2⟩ := hI2 i hi
      rw [hrl] at k1
      have HIx' := HIx
      rw [hi] at HIx'
      have HIx := hide HIx'
      have hfs : (rest.extract 0 i).size ≤ 1048576 := by rw [ByteArray.size_extract]; omega
      have HL := hide (show partsL s.data.toList = (pre ++ [(⟨rest.extract 0 i, hfs⟩ : Part)]).map partT ++ partsL (rest.extract (i + 2) rest.size).data.toList by
        rw [HP.out, k2, List.map_append, List.append_assoc, ext_list]
        congr 1
        show _ = (rest.extract 0 i).data.toList :: _
        rw [ext_list]
        congr 2
        rw [List.take_of_length_le (by rw [List.length_drop, hrl]; exact Nat.le_refl _)])
      have hng : ¬ (i : Int) < 0 := by omega
      have hw1 : IntKind.i64.wrap ((i : Int) + 0) = i := by rw [IntKind.wrap_i64]; omega
      have hw1' : IntKind.i64.wrap (i : Int) = i := by rw [IntKind.wrap_i64]; omega
      have hw2 : IntKind.i64.wrap ((i : Int) + 2) = ((i + 2 : Nat) : Int) := by rw [IntKind.wrap_i64]; omega
      have hq2 : rest.size ≤ 9223372036854775807 := by omega
      clear hneg hI1 hI2 hge HIx' hm hi k2
      obtain ⟨fn, tmps, assign, body, hy, hR⟩ := hY pre ⟨rest.extract 0 i, hfs⟩ wr hJ hlen
      dsimp only at hy
      gi_wp2_with (gi_at_call 76; refine (HIx.out _).mono ?_; rintro e w' ⟨rfl, rfl⟩)
      refine hR.mono ?_
      rintro e W3 (⟨rfl, hJ3, hk3⟩ | ⟨rfl, hJx3⟩)
      · have HS3 := hide (HR.out _ _ _ HSS.out hk3)
        have q0 := HS3.out.q.cell; have s0 := HS3.out.s.cell; have f0 := HS3.out.s.frozen
        gi_wp2
        go_roundw
        case rel => exact ⟨pre ++ [(⟨rest.extract 0 i, hfs⟩ : Part)], rest.extract (i + 2) rest.size, HL.out, HSet.out _ _ _ HS3.out, by show (rest.extract (i + 2) rest.size).size ≤ s.size; rw [ByteArray.size_extract]; omega, HJs.out _ _ _ hJ3⟩
        case measure =>
          rw [strAt_box (HSet.out _ _ _ HS3.out).s, strAt_box HSS.out.s, ByteArray.size_extract]
          omega
      · gi_wp2
        refine bodyPost_ret (results_none rfl _ _ _) rfl ?_
        exact ⟨⟨_, rfl⟩, .inr ⟨_, ⟨_, HL.out.symm⟩, hJx3⟩⟩
end Go.Proofs.YtjnghnkilnhacaaGreatDoor
namespace Go.Proofs.YtjnghnkilnhacaaGreatDoor
open Go.RowKit
set_option linter.unusedVariables false
set_option linter.unusedSimpArgs false

theorem get3 {cur : Array Value} {j : Nat} {a b c : Value} (h : j * 3 + 2 < cur.size) (i : Nat) :
    (((cur.setIfInBounds (j * 3) a).setIfInBounds (j * 3 + 1) b).setIfInBounds (j * 3 + 2) c)[i]? = if i = j * 3 + 2 then some c else if i = j * 3 + 1 then some b else if i = j * 3 then some a else cur[i]? := by
  by_cases h2 : i = j * 3 + 2
  · subst h2; rw [if_pos rfl, Array.getElem?_setIfInBounds, if_pos rfl, if_pos (by simp; omega)]
  · rw [if_neg h2, Array.getElem?_setIfInBounds_ne (by omega)]
    by_cases h1 : i = j * 3 + 1
    · subst h1; rw [if_pos rfl, Array.getElem?_setIfInBounds, if_pos rfl, if_pos (by simp; omega)]
    · rw [if_neg h1, Array.getElem?_setIfInBounds_ne (by omega)]
      by_cases h0 : i = j * 3
      · subst h0; rw [if_pos rfl, Array.getElem?_setIfInBounds, if_pos rfl, if_pos (by omega)]
      · rw [if_neg h0, Array.getElem?_setIfInBounds_ne (by omega)]
set_option maxRecDepth 10000 in
set_option maxHeartbeats 1000000 in
theorem markOpS (n : Nat) (k : Int) (A : Option Addr) (c : Nat) (w : World) (S : Nat → Prop) (hn : n ≤ 2097152) (h0 : 0 ≤ k) (h1 : k ≤ 4611686018427387904) (hR : Room w S 46 A (n * 3)) :
    Calls Tryz.prog 33 #[.slice A n c, .int .i64 k] w fun e w' => e = .returned (.int .i64 (k + 3 * (n : Int))) ∧ Only (fun b => S b ∧ 0 < n ∧ ∃ a, A = some a ∧ a.block = b) w w' ∧ Shape w w' ∧ MarksAt w' S A k (n * 3) := by
  go_enter Tryz.func33, Tryz.ntmps33
  go_wp2
  go_loopw [1, 5] (fun m i wr => ∃ j : Nat, j ≤ n ∧ i = .int .i64 j ∧ m = .int .i64 (k + 3 * (j : Int)) ∧ Hid (Only (fun b => S b ∧ 0 < n ∧ ∃ a, A = some a ∧ a.block = b) w wr) ∧ Hid (Shape w wr) ∧ Hid (MarksAt wr S A k (j * 3))) (fun _ i _ => n - (intOf i).toNat)
  case atStart => exact ⟨0, Nat.zero_le _, rfl, by simp, Only.refl _ _, Shape.refl _, fun h => absurd h (by omega)⟩
  case round =>
    obtain ⟨j, hj, rfl, rfl, hO, hS, hM⟩ := hrel
    by_cases hlt : j < n
    · obtain ⟨g, cur, rfl, hg, hB, hsz⟩ := (hR.shape hS.out) (by omega)
      obtain ⟨⟨u0, k0⟩, f0⟩ := hB.there (i := j * 3) (by omega)
      obtain ⟨⟨u1, k1⟩, f1⟩ := hB.there (i := j * 3 + 1) (by omega)
      obtain ⟨⟨u2, k2⟩, f2⟩ := hB.there (i := j * 3 + 2) (by omega)
      have HB := hide hB
      have hsum1 : IntKind.i64.wrap (k + 3 * (j : Int) + 1) = k + 3 * (j : Int) + 1 := by rw [IntKind.wrap_i64]; omega
      have hsum2 : IntKind.i64.wrap (k + 3 * (j : Int) + 1 + 1) = k + 3 * (j : Int) + 1 + 1 := by rw [IntKind.wrap_i64]; omega
      have hsum3 : IntKind.i64.wrap (k + 3 * (j : Int) + 1 + 1 + 1) = k + 3 * (j : Int) + 1 + 1 + 1 := by rw [IntKind.wrap_i64]; omega
      clear hR hB
      go_wp2
      go_roundw
      case rel =>
        refine ⟨j + 1, by omega, by go_num, by rw [show k + 3 * ((j + 1 : Nat) : Int) = k + 3 * (j : Int) + 1 + 1 + 1 by omega], ((hO.out.setCell (p := ⟨g, j * 3, none⟩) ⟨hg, by omega, _, rfl, rfl⟩ _).setCell (p := ⟨g, j * 3 + 1, none⟩) ⟨hg, by omega, _, rfl, rfl⟩ _).setCell (p := ⟨g, j * 3 + 2, none⟩) ⟨hg, by omega, _, rfl, rfl⟩ _, hS.out.trans (((Shape.setCell _ _ _ _).trans (Shape.setCell _ _ _ _)).trans (Shape.setCell _ _ _ _)), fun _ => ⟨g, rfl, hg, fun i hi => ?_⟩⟩
        rw [(((HB.out.set_ (j * 3) _).set_ (j * 3 + 1) _).set_ (j * 3 + 2) _).cell, get3 (by omega)]
        split
        · rename_i h; subst h; congr 2; omega
        · split
          · rename_i h; subst h; congr 2; omega
          · split
            · rename_i h; subst h; congr 2; omega
            · obtain ⟨g', hA, _, hc⟩ := hM.out (by omega)
              have hgg : g' = g := by simpa using hA.symm
              subst hgg
              rw [← HB.out.cell]
              exact hc i (by omega)
      case measure => simp [intOf]; omega
    · obtain rfl : j = n := by omega
      clear hR
      go_wp2
      go_ret
      exact ⟨rfl, hO.out, hS.out, hM.out⟩
set_option maxRecDepth 10000 in
set_option maxHeartbeats 1000000 in
theorem heldOpS (n : Nat) (k : Int) (A : Option Addr) (c : Nat) (w : World) (S : Nat → Prop) (hn : n ≤ 2097152) (h0 : 0 ≤ k) (h1 : k ≤ 4611686018427387904) (hM : MarksAt w S A k (n * 3)) :
    Calls Tryz.prog 34 #[.slice A n c, .int .i64 k] w fun e w' => e = .returned (.int .i64 (k + 3 * (n : Int))) ∧ w = w' := by
  go_enter Tryz.func34, Tryz.ntmps34
  go_wp2
  go_loop [1, 5] (fun m i => ∃ j : Nat, j ≤ n ∧ i = .int .i64 j ∧ m = .int .i64 (k + 3 * (j : Int))) (fun _ i => n - (intOf i).toNat)
  case atStart => exact ⟨0, Nat.zero_le _, rfl, by simp⟩
  case round =>
    obtain ⟨j, hj, rfl, rfl⟩ := hrel
    by_cases hlt : j < n
    · obtain ⟨g, rfl, hg, hc⟩ := hM (by omega)
      have c0 : w.cell? ⟨g, j * 3, none⟩ = some (.int .i64 (k + 3 * (j : Int))) := by rw [hc _ (by omega)]; congr 2; omega
      have c1 : w.cell? ⟨g, j * 3 + 1, none⟩ = some (.int .i64 (k + 3 * (j : Int) + 1)) := by rw [hc _ (by omega)]; congr 2; omega
      have c2 : w.cell? ⟨g, j * 3 + 2, none⟩ = some (.int .i64 (k + 3 * (j : Int) + 1 + 1)) := by rw [hc _ (by omega)]; congr 2; omega
      have hsum1 : IntKind.i64.wrap (k + 3 * (j : Int) + 1) = k + 3 * (j : Int) + 1 := by rw [IntKind.wrap_i64]; omega
      have hsum2 : IntKind.i64.wrap (k + 3 * (j : Int) + 1 + 1) = k + 3 * (j : Int) + 1 + 1 := by rw [IntKind.wrap_i64]; omega
      have hsum3 : IntKind.i64.wrap (k + 3 * (j : Int) + 1 + 1 + 1) = k + 3 * (j : Int) + 1 + 1 + 1 := by rw [IntKind.wrap_i64]; omega
      clear hc hM
      go_wp2
      go_round
      case rel => exact ⟨j + 1, by omega, by go_num, by rw [show k + 3 * ((j + 1 : Nat) : Int) = k + 3 * (j : Int) + 1 + 1 + 1 by omega]⟩
      case measure => simp [intOf]; omega
    · obtain rfl : j = n := by omega
      clear hM
      go_wp2
      go_ret
      exact ⟨rfl, rfl⟩

/-- The mark at which transaction j begins. -/
def kAt (k : Int) (ls : List Nat) (j : Nat) : Int := k + (((ls.take j).map fun l => 2 + 3 * l).sum : Nat)
theorem kAt_succ (k : Int) (ls : List Nat) (j : Nat) (h : j < ls.length) : kAt k ls (j + 1) = kAt k ls j + 1 + 3 * (ls[j] : Int) + 1 := by
  unfold kAt
  rw [List.take_succ_eq_append_getElem h, List.map_append, List.sum_append]
  simp
  omega
theorem kAt_le (k : Int) (ls : List Nat) (B : Nat) (hB : ∀ l ∈ ls, l ≤ B) : ∀ j, kAt k ls j ≤ k + j * (2 + 3 * B)
  | 0 => by simp [kAt]
  | j + 1 => by
    have h1 := kAt_le k ls B hB j
    by_cases hj : j < ls.length
    · have h2 := kAt_succ k ls j hj
      have h3 := hB _ (List.getElem_mem hj)
      have h4 : (ls[j] : Int) ≤ (B : Int) := by omega
      have h5 : (((j + 1 : Nat) : Int) * (2 + 3 * (B : Int))) = (j : Int) * (2 + 3 * (B : Int)) + (2 + 3 * (B : Int)) := by rw [Int.natCast_add, Int.add_mul]; simp
      omega
    · have h2 : kAt k ls (j + 1) = kAt k ls j := by unfold kAt; rw [List.take_of_length_le (by omega), List.take_of_length_le (by omega)]
      have h5 : (((j + 1 : Nat) : Int) * (2 + 3 * (B : Int))) = (j : Int) * (2 + 3 * (B : Int)) + (2 + 3 * (B : Int)) := by rw [Int.natCast_add, Int.add_mul]; simp
      omega
theorem kAt_ge (k : Int) (ls : List Nat) (j : Nat) : k ≤ kAt k ls j := by unfold kAt; omega
/-- Transactions of which the first i bear their marks. -/
structure MT (S : Nat → Prop) (g : Nat) (k : Int) (ls gs : List Nat) (i : Nat) (w : World) : Prop where
  blk : ∃ cur, Blk w g 41 cur ∧ ls.length * 3 ≤ cur.size
  inn : ∀ j (hj : j < ls.length) (hg : j < gs.length), ∃ A c, w.cell? ⟨g, j * 3 + 1, none⟩ = some (.slice A ls[j] c) ∧ (0 < ls[j] → A = some ⟨gs[j], 0, none⟩ ∧ S gs[j] ∧ ∃ cur, Blk w gs[j] 46 cur ∧ ls[j] * 3 ≤ cur.size ∧ (j < i → ∀ t, t < ls[j] * 3 → cur[t]? = some (.int .i64 (kAt k ls j + 1 + t))))
  out : ∀ j (hj : j < ls.length), j < i → w.cell? ⟨g, j * 3, none⟩ = some (.int .i64 (kAt k ls j)) ∧ w.cell? ⟨g, j * 3 + 2, none⟩ = some (.bool ((kAt k ls j + 1) % 3 == 0))
theorem MT.keep {S : Nat → Prop} {g : Nat} {k : Int} {ls gs : List Nat} {i : Nat} {w w' : World} (h : MT S g k ls gs i w) (hw : ∀ b, S b → w'.heap[b]? = w.heap[b]?) (hg : S g) : MT S g k ls gs i w' := by
  obtain ⟨⟨cur, hb, hs⟩, hi, ho⟩ := h
  refine ⟨⟨cur, hb.of (hw g hg), hs⟩, fun j hj hgj => ?_, fun j hj hji => ?_⟩
  · obtain ⟨A, c, h1, h2⟩ := hi j hj hgj
    refine ⟨A, c, (World.cell?_of_block (hw g hg)).trans h1, fun hp => ?_⟩
    obtain ⟨h3, h4, cur2, h5, h6⟩ := h2 hp
    exact ⟨h3, h4, cur2, h5.of (hw _ h4), h6⟩
  · obtain ⟨h1, h2⟩ := ho j hj hji
    exact ⟨(World.cell?_of_block (hw g hg)).trans h1, (World.cell?_of_block (hw g hg)).trans h2⟩
/-- A history that bears its marks. -/
def Marked (w : World) (S : Nat → Prop) (A : Option Addr) (k : Int) (ls gs : List Nat) : Prop :=
  0 < ls.length → ∃ g, A = some ⟨g, 0, none⟩ ∧ S g ∧ ls.length = gs.length ∧ MT S g k ls gs ls.length w
theorem Marked.keep {w w' : World} {S : Nat → Prop} {A : Option Addr} {k : Int} {ls gs : List Nat} (h : Marked w S A k ls gs) (hw : ∀ b, S b → w'.heap[b]? = w.heap[b]?) : Marked w' S A k ls gs := fun hp => by
  obtain ⟨g, hA, hg, hl, hm⟩ := h hp
  exact ⟨g, hA, hg, hl, hm.keep hw hg⟩
theorem MT.start {w : World} {S : Nat → Prop} {ps : List (Txn × Nat)} {A : Option Addr} {n c g : Nat} (h : Hold (tTxnB 46) 41 w S ps (.slice A n c) g) (hp : 0 < ps.length) (k : Int) :
    A = some ⟨g, 0, none⟩ ∧ S g ∧ MT S g k (ps.map fun p => p.1.Ops.length) (ps.map Prod.snd) 0 w := by
  obtain ⟨A', c', hv, hc, hm, hr⟩ := h
  injection hv with h1 h2 h3
  subst h1
  obtain ⟨rfl, hg, ⟨cur, hB, hs⟩, S', hS', hrow⟩ := hr hp
  refine ⟨rfl, hg, ⟨cur, hB, by rw [List.length_map]; exact hs⟩, fun j hj hgj => ?_, fun j hj h => absurd h (by omega)⟩
  rw [List.length_map] at hj
  obtain ⟨cs, ⟨v, rfl, hH⟩, hcs⟩ := hrow j hj
  obtain ⟨A2, c2, rfl, h4, h5, h6⟩ := hH
  refine ⟨A2, c2, ?_, fun hpos => ?_⟩
  · have := hcs 1 _ rfl
    simp only [tTxnB, Nat.zero_add] at this
    simpa using this
  · simp only [List.getElem_map] at hpos ⊢
    obtain ⟨rfl, hg2, ⟨cur2, hB2, hs2⟩, _⟩ := h6 hpos
    exact ⟨rfl, (hS' _ hg2).1, cur2, hB2, hs2, fun h => absurd h (by omega)⟩
set_option maxRecDepth 10000 in
set_option maxHeartbeats 1000000 in
theorem markTxnS_own (ls gs : List Nat) (k : Int) (A : Option Addr) (c : Nat) (w : World) (S : Nat → Prop) (hn : ls.length ≤ 1048576) (hs : ∀ l ∈ ls, l ≤ 1048576) (h0 : 0 ≤ k) (h1 : k ≤ 1048576) (hlg : ls.length = gs.length) (hup : gs.Pairwise (· < ·))
    (hS : 0 < ls.length → ∃ g, A = some ⟨g, 0, none⟩ ∧ S g ∧ MT S g k ls gs 0 w) :
    Calls Tryz.prog 15 #[.slice A ls.length c, .int .i64 k] w fun e w' => e = .returned (.int .i64 (kAt k ls ls.length)) ∧ Only S w w' ∧ Marked w' S A k ls gs := by
  have HS := hide hS
  have HU := hide hup
  have HLG := hide hlg
  have HK := hide (fun j => kAt_le k ls 1048576 hs j)
  have HKS := hide (kAt_succ k ls)
  clear hS hup hlg
  go_enter Tryz.func15, Tryz.ntmps15
  go_wp2
  go_loopw [1, 5] (fun m i wr => ∃ (j : Nat), j ≤ ls.length ∧ i = .int .i64 j ∧ m = .int .i64 (kAt k ls j) ∧ Hid (Only S w wr) ∧ Hid (0 < ls.length → ∃ g, A = some ⟨g, 0, none⟩ ∧ S g ∧ MT S g k ls gs j wr)) (fun _ i _ => ls.length - (intOf i).toNat)
  case atStart => exact ⟨0, Nat.zero_le _, rfl, by simp [kAt], Only.refl _ _, HS.out⟩
  case round =>
    obtain ⟨j, hj, rfl, rfl, hOn, hM⟩ := hrel
    by_cases hlt : j < ls.length
    · obtain ⟨g, rfl, hg, hMT⟩ := hM.out (by omega)
      have hlg : j < gs.length := by have := HLG.out; omega
      obtain ⟨A2, c2, c1, hin⟩ := hMT.inn j hlt hlg
      obtain ⟨cur, hB, hsz⟩ := hMT.blk
      obtain ⟨⟨u0, k0⟩, f0⟩ := hB.there (i := j * 3) (by omega)
      have hlen := hs _ (List.getElem_mem hlt)
      have hk0 := kAt_ge k ls j
      have hk1 := HK.out j
      have hRoom : Room wr S 46 A2 (ls[j] * 3) := fun hp => by
        obtain ⟨hA, hg2, cur2, hB2, hs2, _⟩ := hin (by omega)
        exact ⟨gs[j], cur2, hA, hg2, hB2, hs2⟩
      have HMT := hide hMT
      have HIn := hide hin
      have HS2 := hide (HKS.out j hlt)
      generalize hln : ls[j] = ln at c1 hlen hRoom HIn HS2
      generalize hkj : kAt k ls j = r at hk0 hk1 HS2
      have HC := hide (markOpS ln (r + 1) A2 c2 (wr.setCell ⟨g, j * 3, none⟩ (.int .i64 r)) S (by omega) (by omega) (by omega) (hRoom.shape (Shape.setCell _ _ _ _)))
      have HRoom := hide hRoom
      have HB := hide hB
      have HB' := hide (hB.set_ (j * 3) (.int .i64 r))
      have HSz : Hid (j * 3 + 2 < (cur.setIfInBounds (j * 3) (.int .i64 r)).size) := by show _ < _; simp; omega
      have hsum1 : IntKind.i64.wrap (r + 1) = r + 1 := by rw [IntKind.wrap_i64]; omega
      have hsum2 : IntKind.i64.wrap (r + 1 + 3 * (ln : Int) + 1) = r + 1 + 3 * (ln : Int) + 1 := by rw [IntKind.wrap_i64]; omega
      have Hln := hide hln; have Hkj := hide hkj
      clear hMT hB hRoom hin hln hkj
      go_wp2_with (go_at_call 33; refine HC.out.mono ?_; rintro e w2 ⟨rfl, ho, hsh, hma⟩; have hne2 : ∀ b, (S b ∧ 0 < ln ∧ ∃ a, A2 = some a ∧ a.block = b) → b ≠ g := (fun b hb e => by obtain ⟨_, hp, a, hA, rfl⟩ := hb; obtain ⟨g2, cur2, hA2, _, hB2, _⟩ := HRoom.out (by omega); rw [hA] at hA2; have hh : a = ⟨g2, 0, none⟩ := (by simpa using hA2); subst hh; exact Blk.ne_ HB.out hB2 (by decide) e.symm); have HG2 := hide (ho.block g HB'.out.lt (fun h => hne2 g h rfl)); have hB2 := HB'.out.of HG2.out; obtain ⟨⟨u2, k2⟩, f2⟩ := hB2.there (i := j * 3 + 2) HSz.out; have HO2 := hide ho; have HSh := hide hsh; have HB2 := hide hB2; have HMa := hide hma; clear ho hsh hne2 hB2 hma)
      go_roundw
      case rel =>
        refine ⟨j + 1, by omega, by go_num, by rw [HS2.out], ((hOn.out.setCell (p := ⟨g, j * 3, none⟩) hg _).trans (HO2.out.mono (fun b hb => hb.1))).setCell (p := ⟨g, j * 3 + 2, none⟩) hg _, fun _ => ⟨g, rfl, hg, ?_⟩⟩
        have hcell : ∀ i, i ≠ j * 3 → i ≠ j * 3 + 2 → (w2.setCell ⟨g, j * 3 + 2, none⟩ (.bool ((r + 1) % 3 == 0))).cell? ⟨g, i, none⟩ = wr.cell? ⟨g, i, none⟩ := fun i h1 h2 => by
          rw [World.cell?_setCell_other _ _ _ _ (by intro e; injection e with _ e _; omega), World.cell?_of_block HG2.out, World.cell?_setCell_other _ _ _ _ (by intro e; injection e with _ e _; omega)]
        refine ⟨⟨_, HB2.out.set_ (j * 3 + 2) _, by simpa using hsz⟩, fun i hi hgi => ?_, fun i hi hij => ?_⟩
        · obtain ⟨A3, c3, d1, d2⟩ := HMT.out.inn i hi hgi
          refine ⟨A3, c3, by rw [hcell _ (by omega) (by omega)]; exact d1, fun hp => ?_⟩
          obtain ⟨e1, e2, cur3, e3, e4, e5⟩ := d2 hp
          have hgg : gs[i] ≠ g := fun h => Blk.ne_ HB.out e3 (by decide) h.symm
          by_cases hij : i = j
          · subst hij
            have hln2 := Hln.out
            obtain ⟨g4, hA4, hg4, hc4⟩ := HMa.out (by omega)
            have hA5 := (HIn.out (by omega)).1
            have h46 : g4 = gs[i] := by rw [hA5] at hA4; simpa using hA4.symm
            subst h46
            have e3' : Blk (wr.setCell ⟨g, i * 3, none⟩ (.int .i64 r)) gs[i] _ cur3 := e3.far (p := ⟨g, i * 3, none⟩) hgg _
            obtain ⟨b2, hb2, hs2⟩ := HSh.out _ _ _ e3'
            refine ⟨e1, e2, b2, hb2.far (p := ⟨g, i * 3 + 2, none⟩) hgg _, by omega, fun _ t ht => ?_⟩
            rw [← hb2.cell, hc4 t (by omega), Hkj.out]
          · have hne : gs[i] ≠ gs[j] := by
              have hpw := List.pairwise_iff_getElem.1 HU.out
              rcases Nat.lt_or_gt_of_ne hij with h | h
              · have := hpw i j hgi hlg h; omega
              · have := hpw j i hlg hgi h; omega
            have e3' : Blk (wr.setCell ⟨g, j * 3, none⟩ (.int .i64 r)) gs[i] _ cur3 := e3.far (p := ⟨g, j * 3, none⟩) hgg _
            have e4' : Blk w2 gs[i] _ cur3 := e3'.of (HO2.out.block _ e3'.lt (fun ⟨_, hp2, a, hA, hab⟩ => by
              have hA5 := (HIn.out (by omega)).1
              rw [hA5] at hA
              have : a = ⟨gs[j], 0, none⟩ := by simpa using hA.symm
              subst this
              exact hne hab.symm))
            exact ⟨e1, e2, cur3, e4'.far (p := ⟨g, j * 3 + 2, none⟩) hgg _, e4, fun h => e5 (by omega)⟩
        · by_cases hij2 : i = j
          · subst hij2
            have hB3 := HB2.out.set_ (i * 3 + 2) (.bool ((r + 1) % 3 == 0))
            have hsz2 : i * 3 + 2 < cur.size := by omega
            rw [Hkj.out]
            refine ⟨?_, ?_⟩
            · rw [hB3.cell, Array.getElem?_setIfInBounds_ne (by omega), Array.getElem?_setIfInBounds, if_pos rfl, if_pos (by omega)]
            · rw [hB3.cell, Array.getElem?_setIfInBounds, if_pos rfl, if_pos (by simp; omega)]
          · obtain ⟨f1, f2⟩ := HMT.out.out i hi (by omega)
            exact ⟨by rw [hcell _ (by omega) (by omega)]; exact f1, by rw [hcell _ (by omega) (by omega)]; exact f2⟩
      case measure => simp [intOf]; omega
    · obtain rfl : j = ls.length := by omega
      go_wp2
      go_ret
      exact ⟨rfl, hOn.out, fun hp => by obtain ⟨g, h1, h2, h3⟩ := hM.out hp; exact ⟨g, h1, h2, HLG.out, h3⟩⟩

set_option maxRecDepth 10000 in
set_option maxHeartbeats 1000000 in
theorem heldTxnS (ls gs : List Nat) (k : Int) (A : Option Addr) (c : Nat) (w : World) (S : Nat → Prop) (hn : ls.length ≤ 1048576) (hs : ∀ l ∈ ls, l ≤ 1048576) (h0 : 0 ≤ k) (h1 : k ≤ 1048576) (hM : Marked w S A k ls gs) :
    Calls Tryz.prog 16 #[.slice A ls.length c, .int .i64 k] w fun e w' => e = .returned (.int .i64 (kAt k ls ls.length)) ∧ w = w' := by
  have HM := hide hM
  have HK := hide (fun j => kAt_le k ls 1048576 hs j)
  have HKS := hide (kAt_succ k ls)
  clear hM
  go_enter Tryz.func16, Tryz.ntmps16
  go_wp2
  go_loop [1, 5] (fun m i => ∃ (j : Nat), j ≤ ls.length ∧ i = .int .i64 j ∧ m = .int .i64 (kAt k ls j)) (fun _ i => ls.length - (intOf i).toNat)
  case atStart => exact ⟨0, Nat.zero_le _, rfl, by simp [kAt]⟩
  case round =>
    obtain ⟨j, hj, rfl, rfl⟩ := hrel
    by_cases hlt : j < ls.length
    · obtain ⟨g, rfl, hg, hlg, hMT⟩ := HM.out (by omega)
      obtain ⟨A2, c2, c1, hin⟩ := hMT.inn j hlt (by omega)
      obtain ⟨c0, c3⟩ := hMT.out j hlt hlt
      have hlen := hs _ (List.getElem_mem hlt)
      have hk0 := kAt_ge k ls j
      have hk1 := HK.out j
      have HS2 := hide (HKS.out j hlt)
      have hMa : MarksAt w S A2 (kAt k ls j + 1) (ls[j] * 3) := fun hp => by
        obtain ⟨hA, hg2, cur2, hB2, hs2, hc⟩ := hin (by omega)
        exact ⟨_, hA, hg2, fun t ht => by rw [hB2.cell]; exact hc hlt t ht⟩
      clear hin hMT hlg
      generalize ls[j] = ln at c1 hlen hMa HS2
      generalize kAt k ls j = r at hk0 hk1 HS2 hMa c0 c3 ⊢
      have HC := hide (heldOpS ln (r + 1) A2 c2 w S (by omega) (by omega) (by omega) hMa)
      have hsum1 : IntKind.i64.wrap (r + 1) = r + 1 := by rw [IntKind.wrap_i64]; omega
      have hsum2 : IntKind.i64.wrap (r + 1 + 3 * (ln : Int) + 1) = r + 1 + 3 * (ln : Int) + 1 := by rw [IntKind.wrap_i64]; omega
      have hneg : decide (r + 1 + 3 * (ln : Int) < 0) = false := by simp; omega
      clear hMa
      go_wp2_with (go_at_call 34; refine HC.out.mono ?_; rintro e w2 ⟨rfl, rfl⟩)
      go_round
      case rel => exact ⟨j + 1, by omega, by go_num, by rw [HS2.out]⟩
      case measure => simp [intOf]; omega
    · obtain rfl : j = ls.length := by omega
      go_wp2
      go_ret
      exact ⟨rfl, rfl⟩
end Go.Proofs.YtjnghnkilnhacaaGreatDoor
namespace Go.Proofs.YtjnghnkilnhacaaGreatDoor
open Go.RowKit
set_option linter.unusedVariables false

/-- Transactions in memory of S, each with its operations in a block of its own. -/
def HoldT (w : World) (S : Nat → Prop) (xs : List Txn) (v : Value) : Prop :=
  ∃ ps g, ps.map Prod.fst = xs ∧ Hold (tTxnB 46) 41 w S ps v g ∧ Up ps
theorem HoldT.mono {w w' : World} {S S' : Nat → Prop} {xs : List Txn} {v : Value} (h : HoldT w S xs v) (h1 : ∀ b, S b → S' b) (h2 : ∀ b, S b → w'.heap[b]? = w.heap[b]?) : HoldT w' S' xs v := by
  obtain ⟨ps, g, e, h3, h4⟩ := h
  exact ⟨ps, g, e, h3.mono h1 h2, h4⟩
theorem HoldT.sl {w : World} {S : Nat → Prop} {xs : List Txn} {v : Value} (h : HoldT w S xs v) : Sl tTxn w S xs v := by
  obtain ⟨ps, g, rfl, h3, h4⟩ := h
  exact h3.sl.txnB
/-- The lengths of the operations. -/
def lensT (xs : List Txn) : List Nat := xs.map fun x => x.Ops.length
theorem markTxn_hold (xs : List Txn) (k : Int) (A : Option Addr) (c : Nat) (w : World) (S : Nat → Prop) (hn : xs.length ≤ 1048576) (hs : ∀ x ∈ xs, x.Ops.length ≤ 1048576) (h0 : 0 ≤ k) (h1 : k ≤ 1048576) (hH : HoldT w S xs (.slice A xs.length c)) :
    Calls Tryz.prog 15 #[.slice A xs.length c, .int .i64 k] w fun e w' => ∃ gs, e = .returned (.int .i64 (kAt k (lensT xs) xs.length)) ∧ Only S w w' ∧ Marked w' S A k (lensT xs) gs := by
  obtain ⟨ps, g, hps, hh, hup⟩ := hH
  have hl : (lensT xs).length = xs.length := List.length_map _
  have hpl : ps.length = xs.length := by rw [← hps, List.length_map]
  have hle : lensT xs = ps.map fun p => p.1.Ops.length := by unfold lensT; rw [← hps, List.map_map]; rfl
  have h := markTxnS_own (lensT xs) (ps.map Prod.snd) k A c w S (by omega) (fun l hlm => by obtain ⟨x, hx, rfl⟩ := List.mem_map.1 hlm; exact hs x hx) h0 h1 (by rw [hl, List.length_map, hpl]) (List.pairwise_map.2 hup)
    (fun hp => by
      obtain ⟨e1, e2, e3⟩ := MT.start hh (by omega) k
      exact ⟨g, e1, e2, by rw [hle]; exact e3⟩)
  rw [hl] at h
  exact h.mono fun e w' ⟨e1, e2, e3⟩ => ⟨_, e1, e2, e3⟩
theorem heldTxn_list (xs : List Txn) (gs : List Nat) (k : Int) (A : Option Addr) (c : Nat) (w : World) (S : Nat → Prop) (hn : xs.length ≤ 1048576) (hs : ∀ x ∈ xs, x.Ops.length ≤ 1048576) (h0 : 0 ≤ k) (h1 : k ≤ 1048576) (hM : Marked w S A k (lensT xs) gs) :
    Calls Tryz.prog 16 #[.slice A xs.length c, .int .i64 k] w fun e w' => e = .returned (.int .i64 (kAt k (lensT xs) xs.length)) ∧ w = w' := by
  have hl : (lensT xs).length = xs.length := List.length_map _
  have h := heldTxnS (lensT xs) gs k A c w S (by omega) (fun l hlm => by obtain ⟨x, hx, rfl⟩ := List.mem_map.1 hlm; exact hs x hx) h0 h1 hM
  rw [hl] at h
  exact h
end Go.Proofs.YtjnghnkilnhacaaGreatDoor
