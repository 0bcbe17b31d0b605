/- Plain laws: the values that an order of transactions installs for a key. Who writes a value: plain laws about valid histories. No program in sight. What the edges of a history say of serial orders. No program in sight. The program's WriterOf, for valid histories. Right reads: the kinds of bad reads, early reads, and what they say together. Plain laws about valid histories. -/
import Derived.Test.YtjiobgfaohldhaaGreatDoorQFirstI
import Derived.Test.YtjiobgfaohldhaaGreatDoorQInsS
import Derived.Test.YtjiobgfaohldhaaGreatDoorQBadJ
import Derived.Test.YtjiobgfaohldhaaGreatDoorQHMath
namespace Go.Proofs.YtjiobgfaohldhaaGreatDoor
open Go.RowKit Go.Maps
set_option linter.unusedVariables false
set_option linter.unusedSimpArgs false

theorem insK_instD (h : List Txn) (key : Int) (ns : List Int) : insK h key ns = instD h key ns := by
  unfold insK instD
  congr 1
  funext n
  unfold opsOf
  cases h[n.toNat]? with
  | none => rfl
  | some t => rfl
theorem insK_perm (h : List Txn) (key : Int) {a b : List Int} (hp : a.Perm b) : (insK h key a).Perm (insK h key b) := by
  unfold insK; exact hp.flatMap_right _
theorem insK_done (h : List Txn) (key : Int) : insK h key (doneL h) = instL h key := by rw [insK_instD, instD_all]
theorem insK_nodup {h : List Txn} (hv : histV h = true) (key : Int) {o : List Int} (ho : o.Perm (doneL h)) : (insK h key o).Nodup := by
  rw [(insK_perm h key ho).nodup_iff, insK_done]
  exact instL_nodup hv key
theorem insK_mem {h : List Txn} {key v : Int} {a : List Int} (hm : v ∈ insK h key a) : ∃ n ∈ a, ∃ d, lastW (opsOf h n) key = some d ∧ d.Value = v := by
  unfold insK at hm
  obtain ⟨n, hn, h1⟩ := List.mem_flatMap.1 hm
  cases hl : lastW (opsOf h n) key with
  | none => rw [hl] at h1; cases h1
  | some d => rw [hl] at h1; exact ⟨n, hn, d, hl, (by simpa using h1 : v = d.Value).symm⟩
theorem mem_insK {h : List Txn} {key : Int} {a : List Int} {n : Int} {d : Op} (hn : n ∈ a) (hl : lastW (opsOf h n) key = some d) : d.Value ∈ insK h key a := by
  unfold insK
  exact List.mem_flatMap.2 ⟨n, hn, by rw [hl]; simp⟩
theorem op_ok {h : List Txn} (hv : histV h = true) (n : Int) : ∀ o ∈ opsOf h n, opOk o = true := by
  intro o ho
  unfold opsOf at ho
  cases hx : h[n.toNat]? with
  | none => rw [hx] at ho; simp at ho
  | some t =>
    rw [hx] at ho
    exact (txnOk_parts ((histV_parts hv).2 t (List.mem_of_getElem? hx))).1 o (by simpa using ho)
theorem num_at {h : List Txn} : ∀ {i n : Nat} {o : Op}, (n, o) ∈ num h i ↔ ∃ k, ∃ hk : k < h.length, n = i + k ∧ o ∈ h[k].Ops := by
  induction h with
  | nil => intro i n o; simp [num]
  | cons t r ih =>
    intro i n o
    rw [num, List.mem_append, ih]
    constructor
    · rintro (hm | ⟨k, hk, rfl, ho⟩)
      · obtain ⟨o', ho, he⟩ := List.mem_map.1 hm
        simp only [Prod.mk.injEq] at he
        obtain ⟨rfl, rfl⟩ := he
        exact ⟨0, by simp, by simp, ho⟩
      · exact ⟨k + 1, by simpa using hk, by omega, by simpa using ho⟩
    · rintro ⟨k, hk, rfl, ho⟩
      cases k with
      | zero => exact .inl (List.mem_map.2 ⟨o, by simpa using ho, by simp⟩)
      | succ k => exact .inr ⟨k, by simpa using hk, by omega, by simpa using ho⟩
/-- The number of the transaction that writes a value to a key. -/
def wrN (h : List Txn) (key v : Int) : Option Int := look (num h 0) key v
theorem isW_iff {key v : Int} {o : Op} : isW key v o = true ↔ o.Kind = 2 ∧ o.Key = key ∧ o.Value = v := by
  simp [isW, and_assoc]
/-- A writer, if there is one. -/
theorem wrN_some {h : List Txn} {key v w : Int} (hw : wrN h key v = some w) : ∃ n : Nat, w = (n : Int) ∧ n < h.length ∧ ∃ o ∈ opsOf h (n : Int), o.Kind = 2 ∧ o.Key = key ∧ o.Value = v := by
  unfold wrN look at hw
  cases hf : (num h 0).find? (fun p => isW key v p.2) with
  | none => rw [hf] at hw; cases hw
  | some q =>
    rw [hf] at hw
    have h1 := List.mem_of_find?_eq_some hf
    have h2 := List.find?_some hf
    obtain ⟨n, o⟩ := q
    obtain ⟨k, hk, rfl, ho⟩ := num_at.1 h1
    refine ⟨0 + k, by simpa using hw.symm, by omega, o, ?_, isW_iff.1 h2⟩
    rw [Nat.zero_add, opsOf_nat hk]
    exact ho
/-- In a valid history it is the only one. -/
theorem wrN_is {h : List Txn} (hv : histV h = true) {n : Nat} (hn : n < h.length) {o : Op} (ho : o ∈ opsOf h (n : Int)) (h2 : o.Kind = 2) : wrN h o.Key o.Value = some (n : Int) := by
  obtain ⟨h6, hok⟩ := histV_parts hv
  have hF := (fresh_hist h6 hok).2 hv
  rw [opsOf_nat hn] at ho
  have hm : (n, o) ∈ num h 0 := num_at.2 ⟨n, hn, by omega, ho⟩
  obtain ⟨i, hi, he⟩ := List.getElem_of_mem hm
  have hl := hF i hi (by rw [he]; exact h2)
  rw [he] at hl
  have hs : num h 0 = (num h 0).take i ++ (n, o) :: (num h 0).drop (i + 1) := by
    rw [← he, ← List.drop_eq_getElem_cons hi, List.take_append_drop]
  unfold wrN
  rw [hs]
  unfold look at hl ⊢
  rw [List.find?_append]
  cases hf : (List.take i (num h 0)).find? (fun p => isW o.Key o.Value p.2) with
  | some q => rw [hf] at hl; cases hl
  | none =>
    rw [Option.none_or, List.find?_cons, show isW o.Key o.Value (n, o).2 = true from isW_iff.2 ⟨h2, rfl, rfl⟩]
    rfl
theorem wrN_zero {h : List Txn} (hv : histV h = true) (key : Int) : wrN h key 0 = none := by
  cases hw : wrN h key 0 with
  | none => rfl
  | some w =>
    obtain ⟨n, _, _, o, ho, h2, _, h0⟩ := wrN_some hw
    exact absurd h0 ((opOk_parts (op_ok hv _ o ho)).2.2.2.2 h2)
/-- What a transaction installs for a key is written by it. -/
theorem wrN_last {h : List Txn} (hv : histV h = true) {n : Nat} (hn : n < h.length) {key : Int} {d : Op} (hd : lastW (opsOf h (n : Int)) key = some d) : wrN h key d.Value = some (n : Int) := by
  obtain ⟨h1, h2, h3⟩ := lastW_some hd
  rw [← h3]
  exact wrN_is hv hn h1 h2
theorem mem_num_done {h : List Txn} {x : Int} (hx : x ∈ doneL h) : ∃ n : Nat, x = (n : Int) ∧ n < h.length ∧ dneOf h x = true := by
  have h1 := doneI_mem h h.length x hx
  have h2 := doneI_done h h.length x hx
  refine ⟨x.toNat, by omega, by omega, ?_⟩
  unfold dneOf
  rw [h2]
  simp
  omega
theorem done_mem {h : List Txn} {x : Int} (hx : dneOf h x = true) : x ∈ doneL h := by
  unfold dneOf at hx
  simp only [Bool.and_eq_true, decide_eq_true_eq] at hx
  obtain ⟨n, rfl⟩ : ∃ n : Nat, x = (n : Int) := ⟨x.toNat, by omega⟩
  exact mem_doneI h h.length n (by omega) hx.2
/-- A value of an order of values: who installs it. -/
theorem ins_ex {h : List Txn} (hv : histV h = true) {key v : Int} (hm : v ∈ instL h key) : ∃ n : Nat, n < h.length ∧ dneOf h (n : Int) = true ∧ (∃ d, lastW (opsOf h (n : Int)) key = some d ∧ d.Value = v) ∧ wrN h key v = some (n : Int) := by
  rw [← insK_done] at hm
  obtain ⟨x, hx, d, hd, rfl⟩ := insK_mem hm
  obtain ⟨n, rfl, hn, hdn⟩ := mem_num_done hx
  exact ⟨n, hn, hdn, ⟨d, hd, rfl⟩, wrN_last hv hn hd⟩
/-- a stands before b. -/
def Bef (o : List Int) (a b : Int) : Prop := ∃ p q, o = p ++ b :: q ∧ a ∈ p
theorem split_uniq {n : Int} : ∀ {p p' q q' : List Int}, p ++ n :: q = p' ++ n :: q' → n ∉ p → n ∉ p' → p = p' ∧ q = q'
  | [], [], q, q', h, _, _ => ⟨rfl, by simpa using h⟩
  | [], x :: p', q, q', h, _, h2 => by
    simp only [List.nil_append, List.cons_append, List.cons.injEq] at h
    exact absurd (by rw [h.1]; simp) h2
  | x :: p, [], q, q', h, h1, _ => by
    simp only [List.nil_append, List.cons_append, List.cons.injEq] at h
    exact absurd (by rw [h.1]; simp) h1
  | x :: p, y :: p', q, q', h, h1, h2 => by
    simp only [List.cons_append, List.cons.injEq] at h
    obtain ⟨rfl, h⟩ := h
    obtain ⟨h3, h4⟩ := split_uniq h (fun hm => h1 (List.mem_cons_of_mem _ hm)) (fun hm => h2 (List.mem_cons_of_mem _ hm))
    exact ⟨by rw [h3], h4⟩
theorem nodup_split {p q : List Int} {n : Int} (h : (p ++ n :: q).Nodup) : n ∉ p ∧ n ∉ q ∧ ∀ x ∈ p, x ∉ q := by
  rw [List.nodup_append] at h
  obtain ⟨h1, h2, h3⟩ := h
  rw [List.nodup_cons] at h2
  exact ⟨fun hm => h3 n hm n (by simp) rfl, h2.1, fun x hx hq => h3 x hx x (List.mem_cons_of_mem _ hq) rfl⟩
theorem Bef.pre {p q : List Int} {n a : Int} (hn : (p ++ n :: q).Nodup) (h : Bef (p ++ n :: q) a n) : a ∈ p := by
  obtain ⟨p', q', he, ha⟩ := h
  have h1 := nodup_split hn
  have h2 := nodup_split (he ▸ hn)
  obtain ⟨rfl, _⟩ := split_uniq he h1.1 h2.1
  exact ha
theorem Bef.post {p q : List Int} {n b : Int} (hn : (p ++ n :: q).Nodup) (h : Bef (p ++ n :: q) n b) : b ∉ p := fun hb => by
  obtain ⟨p', q', he, ha⟩ := h
  obtain ⟨c, d, rfl⟩ := List.append_of_mem hb
  have he' : c ++ b :: (d ++ n :: q) = p' ++ b :: q' := by rw [← he]; simp
  have hn' : (c ++ b :: (d ++ n :: q)).Nodup := by simpa using hn
  have h1 := nodup_split hn'
  have h2 := nodup_split (he' ▸ hn')
  obtain ⟨rfl, _⟩ := split_uniq he' h1.1 h2.1
  exact h1.2.2 n ha (by simp)
theorem Bef.asymm {o : List Int} {a b : Int} (hn : o.Nodup) (h : Bef o a b) : ¬ Bef o b a := fun h2 => by
  obtain ⟨p, q, rfl, ha⟩ := h
  exact h2.post hn ha
theorem Bef.trans {o : List Int} {a b c : Int} (hn : o.Nodup) (h : Bef o a b) (h2 : Bef o b c) : Bef o a c := by
  obtain ⟨p, q, rfl, hb⟩ := h2
  refine ⟨p, q, rfl, ?_⟩
  obtain ⟨c1, d, rfl⟩ := List.append_of_mem hb
  have hn' : (c1 ++ b :: (d ++ c :: q)).Nodup := by simpa using hn
  have h' : Bef (c1 ++ b :: (d ++ c :: q)) a b := by simpa using h
  exact List.mem_append_left _ (h'.pre hn')
/-- y stands behind v in an order of values, or is the first, for 0. -/
def NextP (o : List Int) (v y : Int) : Prop := (v = 0 ∧ ∃ q, o = y :: q) ∨ ∃ p q, o = p ++ v :: y :: q
/-- The edges, each by its reason. -/
def EdgeP (h : List Txn) (os : List (List Int)) (e : Edge) : Prop :=
  (∃ key : Nat, key < 3 ∧ ∃ p x y q, os.getD key [] = p ++ x :: y :: q ∧ ∃ a b, wrN h (key : Int) x = some a ∧ wrN h (key : Int) y = some b ∧ e = ⟨a, b, 1⟩) ∨
  (∃ n, dneOf h n = true ∧ ∃ r ∈ firstR (opsOf h n), ∃ a, wrN h r.Key r.Value = some a ∧ dneOf h a = true ∧ a ≠ n ∧ e = ⟨a, n, 2⟩) ∨
  ∃ n, dneOf h n = true ∧ ∃ r ∈ firstR (opsOf h n), ∃ y, NextP (os.getD r.Key.toNat []) r.Value y ∧ ∃ b, wrN h r.Key y = some b ∧ b ≠ n ∧ e = ⟨n, b, 3⟩
theorem pair_of_chain {R : Int → Int → Prop} (htr : ∀ a b c, R a b → R b c → R a c) : ∀ (L : List Int), (∀ p x y q, L = p ++ x :: y :: q → R x y) → L.Pairwise R
  | [], _ => List.Pairwise.nil
  | x :: L, h => by
    have ih := pair_of_chain htr L (fun p a b q he => h (x :: p) a b q (by rw [he]; rfl))
    refine List.pairwise_cons.2 ⟨fun y hy => ?_, ih⟩
    cases L with
    | nil => cases hy
    | cons z L =>
      have hz := h [] x z L rfl
      rcases List.mem_cons.1 hy with rfl | hy
      · exact hz
      · exact htr _ _ _ hz ((List.pairwise_cons.1 ih).1 y hy)
theorem perm_pair_eq {R : Int → Int → Prop} (has : ∀ a b, R a b → ¬ R b a) : ∀ (L M : List Int), L.Perm M → L.Pairwise R → M.Pairwise R → L = M
  | [], M, hp, _, _ => (List.nil_perm.1 hp).symm
  | x :: L, [], hp, _, _ => absurd hp.symm (by simp)
  | x :: L, y :: M, hp, hL, hM => by
    have hL' := List.pairwise_cons.1 hL
    have hM' := List.pairwise_cons.1 hM
    have hxy : x = y := by
      by_cases h : x = y
      · exact h
      · have h1 : x ∈ M := by
          have := hp.mem_iff.1 (List.mem_cons_self (a := x) (l := L))
          rcases List.mem_cons.1 this with h2 | h2
          · exact absurd h2 h
          · exact h2
        have h2 : y ∈ L := by
          have := hp.mem_iff.2 (List.mem_cons_self (a := y) (l := M))
          rcases List.mem_cons.1 this with h3 | h3
          · exact absurd h3.symm h
          · exact h3
        exact absurd (hM'.1 x h1) (has _ _ (hL'.1 y h2))
    subst hxy
    rw [perm_pair_eq has L M (hp.cons_inv) hL'.2 hM'.2]
theorem insK_cons (h : List Txn) (key n : Int) (o : List Int) : insK h key (n :: o) = (lastW (opsOf h n) key).toList.map Op.Value ++ insK h key o := rfl
theorem insK_split {h : List Txn} {key x : Int} : ∀ {o L1 L2 : List Int}, insK h key o = L1 ++ x :: L2 → ∃ p n q d, o = p ++ n :: q ∧ insK h key p = L1 ∧ lastW (opsOf h n) key = some d ∧ d.Value = x ∧ insK h key q = L2
  | [], L1, L2, he => by
    have : insK h key [] = [] := rfl
    rw [this] at he
    cases L1 <;> cases he
  | n :: o, L1, L2, he => by
    rw [insK_cons] at he
    cases hl : lastW (opsOf h n) key with
    | none =>
      rw [hl] at he
      obtain ⟨p, m, q, d, rfl, h1, h2, h3, h4⟩ := insK_split (o := o) he
      exact ⟨n :: p, m, q, d, rfl, by rw [insK_cons, hl]; exact h1, h2, h3, h4⟩
    | some d =>
      rw [hl] at he
      cases L1 with
      | nil =>
        have he' : d.Value = x ∧ insK h key o = L2 := by simpa using he
        exact ⟨[], n, o, d, rfl, rfl, hl, he'.1, he'.2⟩
      | cons y L1 =>
        have he' : d.Value = y ∧ insK h key o = L1 ++ x :: L2 := by simpa using he
        obtain ⟨p, m, q, d', rfl, h1, h2, h3, h4⟩ := insK_split (o := o) he'.2
        exact ⟨n :: p, m, q, d', rfl, by rw [insK_cons, hl, h1, ← he'.1]; rfl, h2, h3, h4⟩
theorem insK_ne0 {h : List Txn} (hv : histV h = true) {key v : Int} {o : List Int} (hm : v ∈ insK h key o) : v ≠ 0 := by
  obtain ⟨n, _, d, hd, rfl⟩ := insK_mem hm
  obtain ⟨h1, h2, _⟩ := lastW_some hd
  exact (opOk_parts (op_ok hv n d h1)).2.2.2.2 h2
theorem perm_num {h : List Txn} {o : List Int} (ho : o.Perm (doneL h)) {x : Int} (hx : x ∈ o) : ∃ n : Nat, x = (n : Int) ∧ n < h.length ∧ dneOf h x = true := mem_num_done (ho.mem_iff.1 hx)
theorem perm_nodup {h : List Txn} {o : List Int} (ho : o.Perm (doneL h)) : o.Nodup := ho.nodup_iff.2 (doneI_nodup h h.length)
theorem done_in {h : List Txn} {o : List Int} (ho : o.Perm (doneL h)) {x : Int} (hx : dneOf h x = true) : x ∈ o := ho.mem_iff.2 (done_mem hx)
/-- Who installs a value of insK. -/
theorem insK_wr {h : List Txn} (hv : histV h = true) {o p : List Int} (ho : o.Perm (doneL h)) (hp : ∀ x ∈ p, x ∈ o) {key v : Int} (hm : v ∈ insK h key p) : ∃ n ∈ p, wrN h key v = some n := by
  obtain ⟨x, hx, d, hd, rfl⟩ := insK_mem hm
  obtain ⟨n, rfl, hn, _⟩ := perm_num ho (hp x hx)
  exact ⟨_, hx, wrN_last hv hn hd⟩
/-- A serial order leads along all edges of its orders of values. -/
theorem serial_edges {h : List Txn} (hv : histV h = true) {o : List Int} (ho : o.Perm (doneL h)) (hr : runsOK h o = true) {os : List (List Int)} (hos : ∀ key : Nat, key < 3 → os.getD key [] = insK h (key : Int) o) {e : Edge} (he : EdgeP h os e) : Bef o e.From e.To := by
  have hnd := perm_nodup ho
  have hok : ∀ n : Int, ∀ x ∈ opsOf h n, x.Kind = 1 ∨ x.Kind = 2 := fun n x hx => (opOk_parts (op_ok hv n x hx)).1
  obtain ⟨t, hrt⟩ : ∃ t, runTx h St0 o = some t := Option.isSome_iff_exists.1 hr
  have hfirst : ∀ n, dneOf h n = true → ∀ r ∈ firstR (opsOf h n), ∃ a b, o = a ++ n :: b ∧ (insK h r.Key a).getLast?.getD 0 = r.Value ∧ ∃ k : Nat, k < 3 ∧ r.Key = (k : Int) := fun n hn r hrm => by
    obtain ⟨a, b, rfl⟩ := List.append_of_mem (done_in ho hn)
    obtain ⟨u, v, h1, h2, _⟩ := run_split hrt
    obtain ⟨h3, _, h5⟩ := run_first h2 r hrm
    have h6 := run_ins h hok St0 a u h1 r.Key
    have hk := (opOk_parts (op_ok hv n r h3)).2.1
    exact ⟨a, b, rfl, by rw [← h5, h6]; rfl, r.Key.toNat, by omega, by omega⟩
  rcases he with ⟨key, hk, p, x, y, q, hpe, a, b, ha, hb, rfl⟩ | ⟨n, hn, r, hrm, a, ha, hda, hne, rfl⟩ | ⟨n, hn, r, hrm, y, hny, b, hb, hne, rfl⟩
  · rw [hos key hk] at hpe
    obtain ⟨p1, n1, q1, d1, rfl, h1, h2, h3, h4⟩ := insK_split hpe
    obtain ⟨p2, n2, q2, d2, rfl, h5, h6, h7, h8⟩ := insK_split (show insK h (key : Int) q1 = [] ++ y :: q from h4)
    obtain ⟨m1, hm1, hl1, _⟩ := perm_num ho (x := n1) (by simp)
    obtain ⟨m2, hm2, hl2, _⟩ := perm_num ho (x := n2) (by simp)
    subst hm1; subst hm2
    have e1 := wrN_last hv hl1 h2
    have e2 := wrN_last hv hl2 h6
    rw [h3, ha] at e1
    rw [h7, hb] at e2
    simp only [Option.some.injEq] at e1 e2
    subst e1; subst e2
    exact ⟨p1 ++ (m1 : Int) :: p2, q2, by simp, by simp⟩
  · obtain ⟨p, q, rfl, hlast, _⟩ := hfirst n hn r hrm
    refine ⟨p, q, rfl, ?_⟩
    cases hg : (insK h r.Key p).getLast? with
    | none =>
      rw [hg] at hlast
      have h0 : r.Value = 0 := hlast.symm
      rw [h0, wrN_zero hv] at ha
      cases ha
    | some z =>
      rw [hg] at hlast
      have hz : z = r.Value := hlast
      subst hz
      obtain ⟨m, hm, hw⟩ := insK_wr hv ho (fun x hx => List.mem_append_left _ hx) (List.mem_of_getLast? hg)
      rw [ha] at hw
      simp only [Option.some.injEq] at hw
      rw [hw]; exact hm
  · obtain ⟨p, q, rfl, hlast, k, hk3, hkk⟩ := hfirst n hn r hrm
    have hsplit : insK h r.Key (p ++ n :: q) = insK h r.Key p ++ ((lastW (opsOf h n) r.Key).toList.map Op.Value ++ insK h r.Key q) := by rw [insK_append, insK_cons]
    have hin : os.getD r.Key.toNat [] = insK h r.Key (p ++ n :: q) := by rw [hkk, Int.toNat_natCast]; exact hos k hk3
    rw [hin] at hny
    have hy : ∃ z, (lastW (opsOf h n) r.Key).toList.map Op.Value ++ insK h r.Key q = y :: z := by
      rcases hny with ⟨h0, z, hz⟩ | ⟨p1, q1, hz⟩
      · cases hg : insK h r.Key p with
        | nil => rw [hsplit, hg] at hz; exact ⟨z, hz⟩
        | cons c L =>
          exfalso
          have hne' : (insK h r.Key p).getLast? ≠ none := by rw [hg]; simp
          cases hgl : (insK h r.Key p).getLast? with
          | none => exact hne' hgl
          | some z' =>
            rw [hgl, h0] at hlast
            exact insK_ne0 hv (List.mem_of_getLast? hgl) hlast
      · have hv0 : r.Value ≠ 0 := insK_ne0 hv (o := p ++ n :: q) (key := r.Key) (by rw [hz]; simp)
        cases hgl : (insK h r.Key p).getLast? with
        | none =>
          rw [hgl] at hlast
          exact absurd hlast.symm hv0
        | some z' =>
          rw [hgl] at hlast
          have hz' : z' = r.Value := hlast
          subst hz'
          obtain ⟨ys, hys⟩ := List.getLast?_eq_some_iff.1 hgl
          have hnd2 : (insK h r.Key (p ++ n :: q)).Nodup := insK_nodup hv r.Key ho
          have he2 : ys ++ r.Value :: ((lastW (opsOf h n) r.Key).toList.map Op.Value ++ insK h r.Key q) = p1 ++ r.Value :: y :: q1 := by
            rw [← hz, hsplit, hys]; simp
          have hn1 : (ys ++ r.Value :: ((lastW (opsOf h n) r.Key).toList.map Op.Value ++ insK h r.Key q)).Nodup := by rw [he2, ← hz]; exact hnd2
          obtain ⟨_, h2⟩ := split_uniq he2 (nodup_split hn1).1 (nodup_split (he2 ▸ hn1)).1
          exact ⟨q1, h2⟩
    obtain ⟨z, hz⟩ := hy
    have hbq : b ∈ q := by
      cases hl : lastW (opsOf h n) r.Key with
      | some d =>
        exfalso
        rw [hl] at hz
        have hdy : d.Value = y := by
          have : d.Value = y ∧ insK h r.Key q = z := by simpa using hz
          exact this.1
        obtain ⟨m, hm, hml, _⟩ := perm_num ho (x := n) (by simp)
        subst hm
        have := wrN_last hv hml hl
        rw [hdy, hb] at this
        simp only [Option.some.injEq] at this
        exact hne this
      | none =>
        rw [hl] at hz
        have hz' : insK h r.Key q = y :: z := hz
        obtain ⟨m, hm, hw⟩ := insK_wr hv ho (p := q) (fun x hx => by simp [hx]) (key := r.Key) (v := y) (by rw [hz']; simp)
        rw [hb] at hw
        simp only [Option.some.injEq] at hw
        rw [hw]; exact hm
    obtain ⟨c, d, rfl⟩ := List.append_of_mem hbq
    exact ⟨p ++ n :: c, d, by simp, by simp⟩
theorem runOps_of_first : ∀ (ops : List Op) (s : St), (∀ j (hj : j < ops.length), ops[j].Kind = 1 → (∀ q, lastOn (ops.take j) ops[j].Key = some q → q.Value = ops[j].Value) ∧ (lastOn (ops.take j) ops[j].Key = none → s ops[j].Key = ops[j].Value)) → ∃ t, runOps s ops = some t := by
  intro ops s h
  have H : ∀ k, k ≤ ops.length → ∃ t, runOps s (ops.take k) = some t := by
    intro k
    induction k with
    | zero => intro _; exact ⟨s, rfl⟩
    | succ k ih =>
      intro hk
      have hlt : k < ops.length := by omega
      obtain ⟨t, ht⟩ := ih (by omega)
      rw [List.take_succ_eq_append_getElem hlt, runOps_snoc, ht]
      simp only [Option.bind_some, runOps]
      by_cases hk1 : ops[k].Kind = 1
      · have h1 := h k hlt hk1
        have h2 := run_last s (ops.take k) t ht ops[k].Key
        have h3 : t ops[k].Key = ops[k].Value := by
          rw [h2]
          cases hl : lastOn (ops.take k) ops[k].Key with
          | none => exact h1.2 hl
          | some q => exact h1.1 q hl
        rw [if_neg (by simp [h3])]
        exact ⟨_, rfl⟩
      · rw [if_neg (by simp [hk1])]
        exact ⟨_, rfl⟩
  have := H ops.length (Nat.le_refl _)
  rwa [List.take_length] at this
theorem mem_firstRs {ops : List Op} : ∀ (k j : Nat), k ≤ ops.length → (hj : j < k) → ∀ hj' : j < ops.length, ops[j].Kind = 1 → lastOn (ops.take j) ops[j].Key = none → ops[j] ∈ firstRs ops k
  | 0, _, _, hj, _, _, _ => absurd hj (by omega)
  | k + 1, j, hk, hj, hj', h1, h2 => by
    rw [firstRs_succ ops k (by omega), List.mem_append]
    by_cases hjk : j = k
    · subst hjk
      refine .inr ?_
      rw [if_pos (by simp [h1, h2])]
      simp
    · exact .inl (mem_firstRs k j (by omega) (by omega) hj' h1 h2)
/-- What right reads say of first reads and of those behind them. -/
structure ReadsP (h : List Txn) : Prop where
  own : ∀ n, dneOf h n = true → ∀ j (hj : j < (opsOf h n).length), (opsOf h n)[j].Kind = 1 → ∀ q, lastOn ((opsOf h n).take j) (opsOf h n)[j].Key = some q → q.Value = (opsOf h n)[j].Value
  first : ∀ n, dneOf h n = true → ∀ r ∈ firstR (opsOf h n), r.Value ≠ 0 → ∃ w, wrN h r.Key r.Value = some w ∧ w ≠ n ∧ dneOf h w = true ∧ ∃ d, lastW (opsOf h w) r.Key = some d ∧ d.Value = r.Value
/-- An order that leads along all edges is serial, if the reads are right. -/
theorem top_serial {h : List Txn} (hv : histV h = true) (hR : ReadsP h) {o : List Int} (ho : o.Perm (doneL h)) {os : List (List Int)} (hos : ∀ key : Nat, key < 3 → (os.getD key []).Perm (instL h (key : Int))) (he : ∀ e, EdgeP h os e → Bef o e.From e.To) : runsOK h o = true := by
  have hnd := perm_nodup ho
  have hok : ∀ n : Int, ∀ x ∈ opsOf h n, x.Kind = 1 ∨ x.Kind = 2 := fun n x hx => (opOk_parts (op_ok hv n x hx)).1
  have hlist : ∀ key : Nat, key < 3 → os.getD key [] = insK h (key : Int) o := fun key hk => by
    have hp : (os.getD key []).Perm (insK h (key : Int) o) := (hos key hk).trans (by rw [← insK_done]; exact (insK_perm h (key : Int) ho).symm)
    have hwr : ∀ v ∈ os.getD key [], ∃ a, wrN h (key : Int) v = some a := fun v hvm => by
      obtain ⟨n, _, _, _, h4⟩ := ins_ex hv ((hos key hk).mem_iff.1 hvm)
      exact ⟨_, h4⟩
    refine perm_pair_eq (R := fun x y => ∃ a b, wrN h (key : Int) x = some a ∧ wrN h (key : Int) y = some b ∧ Bef o a b) ?_ _ _ hp ?_ ?_
    · rintro x y ⟨a, b, h1, h2, h3⟩ ⟨a', b', h4, h5, h6⟩
      rw [h2] at h4; rw [h1] at h5
      simp only [Option.some.injEq] at h4 h5
      subst h4; subst h5
      exact h3.asymm hnd h6
    · refine pair_of_chain ?_ _ ?_
      · rintro x y z ⟨a, b, h1, h2, h3⟩ ⟨b', c, h4, h5, h6⟩
        rw [h2] at h4
        simp only [Option.some.injEq] at h4
        subst h4
        exact ⟨a, c, h1, h5, h3.trans hnd h6⟩
      · intro p x y q hpe
        obtain ⟨a, ha⟩ := hwr x (by rw [hpe]; simp)
        obtain ⟨b, hb⟩ := hwr y (by rw [hpe]; simp)
        exact ⟨a, b, ha, hb, he ⟨a, b, 1⟩ (.inl ⟨key, hk, p, x, y, q, hpe, a, b, ha, hb, rfl⟩)⟩
    · refine pair_of_chain ?_ _ ?_
      · rintro x y z ⟨a, b, h1, h2, h3⟩ ⟨b', c, h4, h5, h6⟩
        rw [h2] at h4
        simp only [Option.some.injEq] at h4
        subst h4
        exact ⟨a, c, h1, h5, h3.trans hnd h6⟩
      · intro p x y q hpe
        obtain ⟨p1, n1, q1, d1, hoe, h1, h2, h3, h4⟩ := insK_split hpe
        obtain ⟨p2, n2, q2, d2, hoe2, h5, h6, h7, h8⟩ := insK_split (show insK h (key : Int) q1 = [] ++ y :: q from h4)
        subst hoe2
        obtain ⟨m1, hm1, hl1, _⟩ := perm_num ho (x := n1) (by rw [hoe]; simp)
        obtain ⟨m2, hm2, hl2, _⟩ := perm_num ho (x := n2) (by rw [hoe]; simp)
        subst hm1; subst hm2
        exact ⟨_, _, by rw [← h3]; exact wrN_last hv hl1 h2, by rw [← h7]; exact wrN_last hv hl2 h6, p1 ++ (m1 : Int) :: p2, q2, by rw [hoe]; simp, by simp⟩
  have H : ∀ (pre post : List Int), o = pre ++ post → ∃ t, runTx h St0 pre = some t := by
    intro pre
    refine snoc_ind (P := fun pre => ∀ post, o = pre ++ post → ∃ t, runTx h St0 pre = some t) ?_ ?_ pre
    · intro post _; exact ⟨St0, rfl⟩
    · intro pre n ih post hoe
      have hoe' : o = pre ++ n :: post := by rw [hoe]; simp
      obtain ⟨s, hs⟩ := ih (n :: post) hoe'
      rw [runTx_append, hs]
      simp only [Option.bind_some, runTx]
      obtain ⟨m, hm, hml, hdn⟩ := perm_num ho (x := n) (by rw [hoe']; simp)
      have hnd' : (pre ++ n :: post).Nodup := hoe' ▸ hnd
      have hins := run_ins h hok St0 pre s hs
      have hlast : ∀ r ∈ firstR (opsOf h n), s r.Key = r.Value := fun r hr => by
        obtain ⟨jr, hjr, hre, _⟩ := firstRs_at (opsOf h n) (opsOf h n).length (Nat.le_refl _) r hr
        have hrm : r ∈ opsOf h n := hre ▸ List.getElem_mem hjr
        have hk := (opOk_parts (op_ok hv n r hrm)).2.1
        obtain ⟨k, hk3, hkk⟩ : ∃ k : Nat, k < 3 ∧ r.Key = (k : Int) := ⟨r.Key.toNat, by omega, by omega⟩
        have hL : os.getD r.Key.toNat [] = insK h r.Key pre ++ ((lastW (opsOf h n) r.Key).toList.map Op.Value ++ insK h r.Key post) := by
          rw [hkk, Int.toNat_natCast, hlist k hk3, hoe', insK_append, insK_cons]
        have hno : ∀ y, NextP (os.getD r.Key.toNat []) r.Value y → y ∉ insK h r.Key pre := fun y hy hmem => by
          obtain ⟨b, hb, hw⟩ := insK_wr hv ho (p := pre) (fun x hx => by rw [hoe']; simp [hx]) hmem
          have hbn : b ≠ n := fun e => (nodup_split hnd').1 (e ▸ hb)
          have := he ⟨n, b, 3⟩ (.inr (.inr ⟨n, hdn, r, hr, y, hy, b, hw, hbn, rfl⟩))
          rw [hoe'] at this
          exact this.post hnd' hb
        rw [hins r.Key]
        by_cases h0 : r.Value = 0
        · cases hg : insK h r.Key pre with
          | nil => rw [h0]; rfl
          | cons y T =>
            exact absurd (by rw [hg]; simp) (hno y (.inl ⟨h0, T ++ ((lastW (opsOf h n) r.Key).toList.map Op.Value ++ insK h r.Key post), by rw [hL, hg]; rfl⟩))
        · obtain ⟨w, hw, hwn, hdw, d, hd, hdv⟩ := hR.first n hdn r hr h0
          have hbef := he ⟨w, n, 2⟩ (.inr (.inl ⟨n, hdn, r, hr, w, hw, hdw, hwn, rfl⟩))
          rw [hoe'] at hbef
          have hwp := hbef.pre hnd'
          have hmem : r.Value ∈ insK h r.Key pre := hdv ▸ mem_insK hwp hd
          obtain ⟨A, B, hAB⟩ := List.append_of_mem hmem
          cases B with
          | nil => rw [hAB]; simp
          | cons y B =>
            exact absurd (by rw [hAB]; simp) (hno y (.inr ⟨A, B ++ ((lastW (opsOf h n) r.Key).toList.map Op.Value ++ insK h r.Key post), by rw [hL, hAB]; simp⟩))
      obtain ⟨t, ht⟩ := runOps_of_first (opsOf h n) s (fun j hj hk1 => ⟨hR.own n hdn j hj hk1, fun hno => hlast _ (mem_firstRs _ j (Nat.le_refl _) hj hj hk1 hno)⟩)
      have ht' : runOps s ((h[n.toNat]?.map Txn.Ops).getD []) = some t := ht
      rw [ht']
      exact ⟨t, rfl⟩
  obtain ⟨t, ht⟩ := H o [] (by simp)
  unfold runsOK
  rw [ht]; rfl
/-- The number of the writer, or -1. -/
def wrI (h : List Txn) (key v : Int) : Int := (wrN h key v).getD (-1)
set_option maxRecDepth 10000 in
set_option maxHeartbeats 2000000 in
theorem implWriterOf (xs : List Txn) (key v : Int) (A : Option Addr) (c : Nat) (w : World) (hv : histV xs = true) (hk0 : 0 ≤ key) (hk1 : key ≤ 1000000) (hv0 : 0 ≤ v) (hv1 : v ≤ 1000000) (hA : Row tTxn w (Old w) A xs) :
    Calls Tryz.prog 71 #[.slice A xs.length c, .int .i64 key, .int .i64 v] w fun e w' => e = .returned (.int .i64 (wrI xs key v)) ∧ Below w.heap.size w w' := by
  have h6 : xs.length ≤ 6 := (histV_parts hv).1
  have hok := (histV_parts hv).2
  have HC := hide (implHistoryValid xs A c w (by simp only [maxLen]; omega) hA)
  rw [hv] at HC
  have HW := hide (fun (W : World) (hb : Below w.heap.size w W) => writers_any xs A c W h6 (hA.old hb) hok)
  have HFr := hide ((fresh_hist h6 hok).2 hv)
  have hwk : (Lit.int .i64 key).wf = true := wf64_small hk0 hk1
  have hwv : (Lit.int .i64 v).wf = true := wf64_small hv0 hv1
  have HE := hide (show wrI xs key v = (look (num xs 0) key v).getD (-1) from rfl)
  clear hA hv hok hk0 hk1 hv0 hv1
  go_enter Tryz.func71, Tryz.ntmps71
  go_wp2_with (go_at_call 27; refine HC.out.mono ?_; rintro e w1 ⟨rfl, hb1⟩; have HB1 := hide hb1; clear hb1)
  refine (HW.out _ HB1.out).mono ?_
  rintro e w2 ⟨h2, hb2⟩
  have HB2 := hide (HB1.out.trans (hb2.mono HB1.out.size))
  rcases h2 with ⟨b, n, rfl, _, hbl, hT⟩ | ⟨rfl, hnf⟩
  · obtain ⟨D, hown, hD, hf⟩ := hT
    have hff := hf _ _ hwk hwv
    have HO := hide hown
    clear hown hD hf hbl hb2 HW HFr HC HB1
    cases hl : look (num xs 0) key v with
    | none =>
      have HR := hide (show wrI xs key v = -1 by rw [HE.out, hl]; rfl)
      have HH := hide (show Maps.has D (litW key v) = false by rw [hff.1, hl]; rfl)
      clear hff hl HE
      go_wp2_with (at_lookup; go_loud (refine wpList_lookup_own_ok_int _ rfl (.tmp 20) (.tmp 23) 84 rfl 122 3 .i64 keyedW Tryz.underlying84 Tryz.underlying3 (zeroIntW _) b n D rfl HO.out _ _ rfl (keyW _ _ hwk hwv) ?_; intro c9 hat hwc; rw [HH.out]))
      go_ret
      exact ⟨ret_int HR.out.symm, HB2.out⟩
    | some c8 =>
      have HR := hide (show wrI xs key v = c8 by rw [HE.out, hl]; rfl)
      have HH := hide (show Maps.has D (litW key v) = true by rw [hff.1, hl]; rfl)
      have HAt := hide (hff.2 c8 hl)
      clear hff hl HE
      go_wp2_with (at_lookup; go_loud (refine wpList_lookup_own_ok_int _ rfl (.tmp 20) (.tmp 23) 84 rfl 122 3 .i64 keyedW Tryz.underlying84 Tryz.underlying3 (zeroIntW _) b n D rfl HO.out _ _ rfl (keyW _ _ hwk hwv) ?_; intro c9 hat hwc; rw [HH.out]; rw [HAt.out] at hat; obtain rfl : c8 = c9 := by simpa using hat))
      go_ret
      exact ⟨ret_int HR.out.symm, HB2.out⟩
  · exact absurd HFr.out hnf
/-- A value is the last one that its writer writes to the key. -/
def lastB (h : List Txn) (key v : Int) : Bool := match wrN h key v with
  | some n => (match lastW (opsOf h n) key with | some d => d.Value == v | none => false)
  | none => false
/-- The kind of a bad read of a value of another transaction, or 0. -/
def kindB (h : List Txn) (n : Int) (o : Op) : Int :=
  if (!(o.Kind == 1) || o.Value == 0 || wrI h o.Key o.Value == n) then 0
  else if wrI h o.Key o.Value < 0 then 1
  else if dneOf h (wrI h o.Key o.Value) then (if lastB h o.Key o.Value then 0 else 3)
  else 2
def badO (h : List Txn) (kind : Int) (n : Int) (ops : List Op) : Nat → List Span
  | 0 => []
  | j + 1 => badO h kind n ops j ++ (match ops[j]? with | some o => if kindB h n o == kind then [⟨n, j⟩] else [] | none => [])
theorem badO_succ (h : List Txn) (kind n : Int) (ops : List Op) (j : Nat) (hj : j < ops.length) : badO h kind n ops (j + 1) = badO h kind n ops j ++ (if kindB h n ops[j] == kind then [⟨n, j⟩] else []) := by
  rw [badO, List.getElem?_eq_getElem hj]
theorem badO_len (h : List Txn) (kind n : Int) (ops : List Op) : ∀ j, (badO h kind n ops j).length ≤ j
  | 0 => Nat.le_refl _
  | j + 1 => by
    have := badO_len h kind n ops j
    rw [badO, List.length_append]
    split
    · split <;> simp <;> omega
    · simp; omega
/-- The bad reads of a kind of some transactions. -/
def badKs (h : List Txn) (kind : Int) (l : List Int) : List Span := l.flatMap fun n => badO h kind n (opsOf h n) (opsOf h n).length
theorem badKs_take (h : List Txn) (kind : Int) (l : List Int) (k : Nat) (hk : k < l.length) : badKs h kind (l.take (k + 1)) = badKs h kind (l.take k) ++ badO h kind l[k] (opsOf h l[k]) (opsOf h l[k]).length := by
  unfold badKs
  rw [List.take_succ_eq_append_getElem hk, List.flatMap_append]
  simp
theorem badKs_len {h : List Txn} (hv : ∀ t ∈ h, t.Ops.length ≤ 6) (kind : Int) : ∀ (l : List Int), (badKs h kind l).length ≤ 6 * l.length
  | [] => by simp [badKs]
  | n :: r => by
    have h1 := badKs_len hv kind r
    have h2 : (opsOf h n).length ≤ 6 := by
      unfold opsOf
      cases hx : h[n.toNat]? with
      | none => simp
      | some t => simpa using hv t (List.mem_of_getElem? hx)
    have h3 := badO_len h kind n (opsOf h n) (opsOf h n).length
    unfold badKs at h1 ⊢
    rw [List.flatMap_cons, List.length_append, List.length_cons]
    omega
theorem badKs_done (h : List Txn) (kind : Int) (k : Nat) (hk : k < h.length) : badKs h kind (doneI h (k + 1)) = badKs h kind (doneI h k) ++ (if h[k].Done then badO h kind (k : Int) h[k].Ops h[k].Ops.length else []) := by
  rw [doneI_succ h k hk]
  unfold badKs
  rw [List.flatMap_append]
  cases h[k].Done with
  | false => rfl
  | true => simp only [if_true, List.flatMap_cons, List.flatMap_nil, List.append_nil, opsOf_nat hk]
def badR (h : List Txn) (kind : Int) : List Span := badKs h kind (doneL h)
/-- A transaction reads a value before it writes it. -/
def earlyB : List Op → Bool
  | [] => false
  | o :: r => (o.Kind == 1 && r.any (isW o.Key o.Value)) || earlyB r
/-- The same, of first reads. -/
def earlyS (h : List Txn) (n : Int) (ops : List Op) : Bool := (firstR ops).any fun r => decide (0 < r.Value) && wrI h r.Key r.Value == n
def readsB (h : List Txn) : Bool := histV h && ((badR h 1).length == 0 && ((badR h 2).length == 0 && ((badR h 3).length == 0 && (fineB h && (doneL h).all fun n => !earlyB (opsOf h n)))))

theorem kindB_cases (h : List Txn) (n : Int) (o : Op) : kindB h n o = 0 ∨ kindB h n o = 1 ∨ kindB h n o = 2 ∨ kindB h n o = 3 := by
  unfold kindB
  split
  · exact .inl rfl
  · split
    · exact .inr (.inl rfl)
    · split
      · split
        · exact .inl rfl
        · exact .inr (.inr (.inr rfl))
      · exact .inr (.inr (.inl rfl))
theorem badO_nil {h : List Txn} {kind n : Int} {ops : List Op} : ∀ {j : Nat}, j ≤ ops.length → (badO h kind n ops j = [] ↔ ∀ i (hi : i < ops.length), i < j → kindB h n ops[i] ≠ kind)
  | 0, _ => ⟨fun _ _ _ h => absurd h (by omega), fun _ => rfl⟩
  | j + 1, hj => by
    have hj' : j < ops.length := by omega
    rw [badO_succ h kind n ops j hj', List.append_eq_nil_iff, badO_nil (j := j) (by omega)]
    constructor
    · rintro ⟨h1, h2⟩ i hi hij
      rcases Nat.lt_succ_iff_lt_or_eq.1 hij with h3 | rfl
      · exact h1 i hi h3
      · intro he
        rw [if_pos (by rw [he]; exact beq_self_eq_true _)] at h2
        cases h2
    · intro h1
      refine ⟨fun i hi hij => h1 i hi (by omega), ?_⟩
      rw [if_neg]
      rw [beq_iff_eq]
      exact h1 j hj' (by omega)
theorem badR_nil {h : List Txn} {kind : Int} : (badR h kind).length = 0 ↔ ∀ n, dneOf h n = true → ∀ i (hi : i < (opsOf h n).length), kindB h n (opsOf h n)[i] ≠ kind := by
  unfold badR badKs
  rw [List.length_eq_zero_iff, List.flatMap_eq_nil_iff]
  constructor
  · intro h1 n hn i hi
    exact (badO_nil (Nat.le_refl _)).1 (h1 n (done_mem hn)) i hi hi
  · intro h1 n hn
    obtain ⟨m, rfl, hm, hd⟩ := mem_num_done hn
    exact (badO_nil (Nat.le_refl _)).2 fun i hi _ => h1 _ hd i hi
theorem ownE_nil {who : Int} {ops : List Op} : ∀ {j : Nat}, j ≤ ops.length → (ownE who ops j = [] ↔ ∀ i (hi : i < ops.length), i < j → errAt ops i ops[i] = false)
  | 0, _ => ⟨fun _ _ _ h => absurd h (by omega), fun _ => rfl⟩
  | j + 1, hj => by
    have hj' : j < ops.length := by omega
    rw [ownE_succ who ops j hj', List.append_eq_nil_iff, ownE_nil (j := j) (by omega)]
    constructor
    · rintro ⟨h1, h2⟩ i hi hij
      rcases Nat.lt_succ_iff_lt_or_eq.1 hij with h3 | rfl
      · exact h1 i hi h3
      · cases he : errAt ops i ops[i] with
        | false => rfl
        | true => rw [he] at h2; cases h2
    · intro h1
      refine ⟨fun i hi hij => h1 i hi (by omega), ?_⟩
      rw [h1 j hj' (by omega)]; rfl
theorem fineB_iff {h : List Txn} : fineB h = true ↔ ∀ n, dneOf h n = true → ∀ i (hi : i < (opsOf h n).length), errAt (opsOf h n) i (opsOf h n)[i] = false := by
  unfold fineB
  rw [badS_eq, beq_iff_eq, List.length_eq_zero_iff]
  unfold badL
  rw [List.flatMap_eq_nil_iff]
  constructor
  · intro h1 n hn i hi
    exact (ownE_nil (Nat.le_refl _)).1 (h1 n (done_mem hn)) i hi hi
  · intro h1 n hn
    obtain ⟨m, rfl, hm, hd⟩ := mem_num_done hn
    exact (ownE_nil (Nat.le_refl _)).2 fun i hi _ => h1 _ hd i hi
/-- Reads have the value of the operation on the key that stands before them. -/
def OwnP (ops : List Op) : Prop := ∀ j (hj : j < ops.length), ops[j].Kind = 1 → ∀ q, lastOn (ops.take j) ops[j].Key = some q → q.Value = ops[j].Value
theorem err_own {ops : List Op} (hok : ∀ o ∈ ops, opOk o = true) : (∀ i (hi : i < ops.length), errAt ops i ops[i] = false) ↔ OwnP ops := by
  constructor
  · intro h1 j hj hk q hq
    have h2 := h1 j hj
    have h0 : 0 ≤ q.Value := (opOk_parts (hok q (List.mem_of_mem_take (lastOn_some hq).1))).2.2.1
    unfold errAt at h2
    rw [beforeV_some hq] at h2
    simpa [hk, h0] using h2
  · intro h1 j hj
    unfold errAt
    cases hq : lastOn (ops.take j) ops[j].Key with
    | none => rw [beforeV_none hq]; simp
    | some q =>
      rw [beforeV_some hq]
      by_cases hk : ops[j].Kind = 1
      · have := h1 j hj hk q hq
        simp [this]
      · simp [hk]
/-- A read goes back to a first read of the same value, or to a write of it. -/
theorem root {ops : List Op} (hok : ∀ o ∈ ops, opOk o = true) (hO : OwnP ops) : ∀ (N j : Nat), j < N → ∀ hj : j < ops.length, ops[j].Kind = 1 → (∃ r ∈ firstR ops, r.Key = ops[j].Key ∧ r.Value = ops[j].Value) ∨ ∃ i, ∃ hi : i < ops.length, i < j ∧ ops[i].Kind = 2 ∧ ops[i].Key = ops[j].Key ∧ ops[i].Value = ops[j].Value
  | 0, _, h0, _, _ => absurd h0 (by omega)
  | N + 1, j, hN, hj, hk => by
    cases hq : lastOn (ops.take j) ops[j].Key with
    | none => exact .inl ⟨ops[j], mem_firstRs _ j (Nat.le_refl _) hj hj hk hq, rfl, rfl⟩
    | some q =>
      have hv := hO j hj hk q hq
      obtain ⟨hm, hkey⟩ := lastOn_some hq
      obtain ⟨i, hi, he⟩ := List.getElem_of_mem hm
      rw [List.length_take] at hi
      have he' : ops[i]'(by omega) = q := by rw [← he]; simp
      rcases (opOk_parts (hok q (List.mem_of_mem_take hm))).1 with h1 | h2
      · rcases root hok hO N i (by omega) (by omega) (by rw [he']; exact h1) with ⟨r, hr, h3, h4⟩ | ⟨i', hi', h3, h4, h5, h6⟩
        · exact .inl ⟨r, hr, by rw [h3, he', hkey], by rw [h4, he', hv]⟩
        · exact .inr ⟨i', hi', by omega, h4, by rw [h5, he', hkey], by rw [h6, he', hv]⟩
      · exact .inr ⟨i, by omega, by omega, by rw [he']; exact h2, by rw [he', hkey], by rw [he', hv]⟩
/-- No transaction of a valid history writes a value twice. -/
theorem once_w {h : List Txn} (hv : histV h = true) {n : Nat} (hn : n < h.length) {ops : List Op} (hO : opsOf h (n : Int) = ops) {i j : Nat} (hj : j < ops.length) (hij : i < j) (h1 : ops[j].Kind = 2) (h2 : isW ops[j].Key ops[j].Value (ops[i]'(by omega)) = true) : False := by
  have hv' := hv
  unfold histV at hv'
  rw [Bool.and_eq_true, List.all_eq_true] at hv'
  have h5 := hv'.1 h[n] (List.getElem_mem hn)
  unfold txnFine at h5
  rw [Bool.and_eq_true, List.all_eq_true] at h5
  rw [opsOf_nat hn] at hO
  subst hO
  have h6 := h5.2 h[n].Ops[j] (List.getElem_mem hj)
  unfold opFine writesN at h6
  rw [h1] at h6
  simp only [beq_self_eq_true, Bool.true_and, Bool.not_eq_true', decide_eq_false_iff_not] at h6
  have h7 := tot_le (fun x : Txn => x.Ops.countP (isW h[n].Ops[j].Key h[n].Ops[j].Value)) h h[n] (List.getElem_mem hn)
  have h8 := countP_take (isW h[n].Ops[j].Key h[n].Ops[j].Value) h[n].Ops j hj
  rw [if_pos (by unfold isW; simp [h1])] at h8
  have h9 : 0 < (h[n].Ops.take j).countP (isW h[n].Ops[j].Key h[n].Ops[j].Value) := by
    rw [List.countP_pos_iff]
    refine ⟨h[n].Ops[i]'(by omega), ?_, h2⟩
    rw [List.mem_take_iff_getElem]
    exact ⟨i, by omega, rfl⟩
  have h10 := (List.take_sublist (j + 1) h[n].Ops).countP_le (p := isW h[n].Ops[j].Key h[n].Ops[j].Value)
  omega
theorem early_iff {ops : List Op} : earlyB ops = true ↔ ∃ i j, ∃ hi : i < ops.length, ∃ hj : j < ops.length, i < j ∧ ops[i].Kind = 1 ∧ isW ops[i].Key ops[i].Value ops[j] = true := by
  induction ops with
  | nil => simp [earlyB]
  | cons o r ih =>
    rw [earlyB, Bool.or_eq_true, ih, Bool.and_eq_true, beq_iff_eq, List.any_eq_true]
    constructor
    · rintro (⟨h1, x, hx, h2⟩ | ⟨i, j, hi, hj, h1, h2, h3⟩)
      · obtain ⟨j, hj, rfl⟩ := List.getElem_of_mem hx
        exact ⟨0, j + 1, by simp, by simpa using hj, by omega, h1, by simpa using h2⟩
      · exact ⟨i + 1, j + 1, by simpa using hi, by simpa using hj, by omega, by simpa using h2, by simpa using h3⟩
    · rintro ⟨i, j, hi, hj, h1, h2, h3⟩
      cases j with
      | zero => omega
      | succ j =>
        cases i with
        | zero => exact .inl ⟨h2, r[j]'(by simpa using hj), List.getElem_mem _, by simpa using h3⟩
        | succ i => exact .inr ⟨i, j, by simpa using hi, by simpa using hj, by omega, by simpa using h2, by simpa using h3⟩
theorem wrI_some {h : List Txn} {key v w : Int} (hw : wrN h key v = some w) : wrI h key v = w := by unfold wrI; rw [hw]; rfl
theorem wrI_nat {h : List Txn} {key v : Int} (h0 : 0 ≤ wrI h key v) : wrN h key v = some (wrI h key v) := by
  unfold wrI at h0 ⊢
  cases hw : wrN h key v with
  | none => rw [hw] at h0; exact absurd h0 (by decide)
  | some x => rfl
theorem dne_range {h : List Txn} {n : Int} (hd : dneOf h n = true) : ∃ m : Nat, n = (m : Int) ∧ m < h.length := by
  unfold dneOf at hd
  simp only [Bool.and_eq_true, decide_eq_true_eq] at hd
  exact ⟨n.toNat, by omega, by omega⟩
/-- Who writes a first read's value writes it behind it, if it is the reader. -/
theorem early_of {h : List Txn} (hv : histV h = true) {n : Int} (hn : dneOf h n = true) {r : Op} (hr : r ∈ firstR (opsOf h n)) (hw : wrN h r.Key r.Value = some n) : earlyB (opsOf h n) = true := by
  obtain ⟨j, hj, he, hk, hno⟩ := firstRs_at (opsOf h n) (opsOf h n).length (Nat.le_refl _) r hr
  obtain ⟨m, hm, _, o, ho, h2, h3, h4⟩ := wrN_some hw
  rw [← hm] at ho
  obtain ⟨i, hi, he2⟩ := List.getElem_of_mem ho
  rw [early_iff]
  refine ⟨j, i, hj, hi, ?_, hk, by rw [he2, isW_iff, ← he]; exact ⟨h2, h3, h4⟩⟩
  rcases Nat.lt_trichotomy i j with h5 | h5 | h5
  · exfalso
    have h6 : ∃ q, lastOn ((opsOf h n).take j) (opsOf h n)[j].Key = some q := by
      cases hq : lastOn ((opsOf h n).take j) (opsOf h n)[j].Key with
      | some q => exact ⟨q, rfl⟩
      | none =>
        unfold lastOn at hq
        rw [List.find?_eq_none] at hq
        have := hq (opsOf h n)[i] (by rw [List.mem_reverse, List.mem_take_iff_getElem]; exact ⟨i, by omega, rfl⟩)
        rw [he2, ← he, h3] at this
        simp at this
    rw [hno] at h6
    obtain ⟨q, hq⟩ := h6
    cases hq
  · exfalso
    subst h5
    rw [he2, h2] at hk
    omega
  · exact h5
theorem first_read {ops : List Op} {r : Op} (hr : r ∈ firstR ops) : r ∈ ops ∧ r.Kind = 1 := by
  obtain ⟨j, hj, he, hk, hno⟩ := firstRs_at ops ops.length (Nat.le_refl _) r hr
  exact ⟨he ▸ List.getElem_mem hj, by rw [he]; exact hk⟩
/-- What the questions of ReadsRight say together. -/
theorem reads_iff {h : List Txn} (hv : histV h = true) : readsB h = true ↔ ReadsP h := by
  unfold readsB
  rw [hv]
  simp only [Bool.true_and, Bool.and_eq_true, beq_iff_eq, badR_nil, fineB_iff, List.all_eq_true, Bool.not_eq_true']
  constructor
  · rintro ⟨h1, h2, h3, h4, h5⟩
    have hO : ∀ n, dneOf h n = true → OwnP (opsOf h n) := fun n hn => (err_own (op_ok hv n)).1 (h4 n hn)
    refine ⟨fun n hn j hj hk q hq => hO n hn j hj hk q hq, fun n hn r hr hr0 => ?_⟩
    obtain ⟨hm, hk⟩ := first_read hr
    obtain ⟨j, hj, he⟩ := List.getElem_of_mem hm
    have hne : wrN h r.Key r.Value ≠ some n := fun hw => by
      have := early_of hv hn hr hw
      rw [h5 n (done_mem hn)] at this
      cases this
    have k1 := h1 n hn j hj
    have k2 := h2 n hn j hj
    have k3 := h3 n hn j hj
    rw [he] at k1 k2 k3
    have hk0 : kindB h n r = 0 := by
      rcases kindB_cases h n r with h0 | h0 | h0 | h0
      · exact h0
      · exact absurd h0 k1
      · exact absurd h0 k2
      · exact absurd h0 k3
    unfold kindB at hk0
    split at hk0
    · rename_i hc
      simp only [hk, beq_self_eq_true, Bool.not_true, Bool.false_or, Bool.or_eq_true, beq_iff_eq] at hc
      rcases hc with hc | hc
      · exact absurd hc hr0
      · obtain ⟨m, hm2, _⟩ := dne_range hn
        exact absurd (by rw [wrI_nat (by rw [hc]; omega), hc]) hne
    · split at hk0
      · cases hk0
      · rename_i hneg
        split at hk0
        · rename_i hd
          split at hk0
          · rename_i hl
            have hw := wrI_nat (by omega : 0 ≤ wrI h r.Key r.Value)
            refine ⟨_, hw, fun e => hne (by rw [hw, e]), hd, ?_⟩
            unfold lastB at hl
            rw [hw] at hl
            simp only at hl
            cases hd2 : lastW (opsOf h (wrI h r.Key r.Value)) r.Key with
            | none => rw [hd2] at hl; cases hl
            | some d => rw [hd2] at hl; exact ⟨d, rfl, by simpa using hl⟩
          · cases hk0
        · cases hk0
  · intro hR
    have hO : ∀ n, dneOf h n = true → OwnP (opsOf h n) := fun n hn => hR.own n hn
    have hz : ∀ n, dneOf h n = true → ∀ i (hi : i < (opsOf h n).length), kindB h n (opsOf h n)[i] = 0 := fun n hn i hi => by
      by_cases hk : (opsOf h n)[i].Kind = 1
      · by_cases h0 : (opsOf h n)[i].Value = 0
        · unfold kindB; rw [if_pos (by simp [h0])]
        · rcases root (op_ok hv n) (hO n hn) (i + 1) i (by omega) hi hk with ⟨r, hr, hk1, hv1⟩ | ⟨j, hj, hji, hk2, hk1, hv1⟩
          · obtain ⟨w, hw, hwn, hdw, d, hd, hdv⟩ := hR.first n hn r hr (by rw [hv1]; exact h0)
            rw [hk1, hv1] at hw
            rw [hk1] at hd
            rw [hv1] at hdv
            obtain ⟨m, hm, _⟩ := dne_range hdw
            have hwi := wrI_some hw
            unfold kindB
            rw [if_neg (by rw [hwi]; simp [hk, h0, hwn]), hwi, if_neg (by omega), if_pos hdw, if_pos]
            unfold lastB
            rw [hw]
            simp only [hd, hdv, beq_self_eq_true]
          · obtain ⟨m, rfl, hm⟩ := dne_range hn
            have hw := wrN_is hv hm (List.getElem_mem hj) hk2
            rw [hk1, hv1] at hw
            unfold kindB
            rw [if_pos (by rw [wrI_some hw]; simp)]
      · unfold kindB; rw [if_pos (by simp [hk])]
    refine ⟨fun n hn i hi => by rw [hz n hn i hi]; decide, fun n hn i hi => by rw [hz n hn i hi]; decide, fun n hn i hi => by rw [hz n hn i hi]; decide, fun n hn => (err_own (op_ok hv n)).2 (hO n hn), fun n hn => ?_⟩
    obtain ⟨m, rfl, hm, hdm⟩ := mem_num_done hn
    cases he : earlyB (opsOf h (m : Int)) with
    | false => rfl
    | true =>
      exfalso
      obtain ⟨i, j, hi, hj, hij, hk, hw⟩ := early_iff.1 he
      obtain ⟨w2, w3, w4⟩ := isW_iff.1 hw
      have hwr := wrN_is hv hm (List.getElem_mem hj) w2
      rw [w3, w4] at hwr
      have h0 : (opsOf h (m : Int))[i].Value ≠ 0 := by
        rw [← w4]
        exact (opOk_parts (op_ok hv _ _ (List.getElem_mem hj))).2.2.2.2 w2
      rcases root (op_ok hv _) (hO _ hdm) (i + 1) i (by omega) hi hk with ⟨r, hr, hk1, hv1⟩ | ⟨i', hi', hlt, hk2, hk1, hv1⟩
      · obtain ⟨w, hw', hwn, _⟩ := hR.first _ hdm r hr (by rw [hv1]; exact h0)
        rw [hk1, hv1, hwr, Option.some.injEq] at hw'
        exact hwn hw'.symm
      · exact once_w hv hm rfl hj (by omega : i' < j) w2 (by rw [isW_iff, w3, w4]; exact ⟨hk2, hk1, hv1⟩)
/-- The two ways to ask for early reads are one, where reads fit what was done before. -/
theorem early_same {h : List Txn} (hv : histV h = true) (hf : fineB h = true) {n : Int} (hn : dneOf h n = true) : earlyS h n (opsOf h n) = earlyB (opsOf h n) := by
  have hO : OwnP (opsOf h n) := (err_own (op_ok hv n)).1 (fineB_iff.1 hf n hn)
  obtain ⟨m, hme, hm⟩ := dne_range hn
  subst hme
  rw [Bool.eq_iff_iff]
  unfold earlyS
  rw [List.any_eq_true]
  constructor
  · rintro ⟨r, hr, hc⟩
    simp only [Bool.and_eq_true, decide_eq_true_eq, beq_iff_eq] at hc
    exact early_of hv hn hr (by rw [wrI_nat (by rw [hc.2]; omega), hc.2])
  · intro he
    obtain ⟨i, j, hi, hj, hij, hk, hw⟩ := early_iff.1 he
    obtain ⟨w2, w3, w4⟩ := isW_iff.1 hw
    have hjm : (opsOf h (m : Int))[j] ∈ opsOf h (m : Int) := List.getElem_mem hj
    have hwr := wrN_is hv hm hjm w2
    rw [w3, w4] at hwr
    have hp := opOk_parts (op_ok hv _ _ (List.getElem_mem hj))
    have h0 : (opsOf h (m : Int))[i].Value ≠ 0 := by rw [← w4]; exact hp.2.2.2.2 w2
    rcases root (op_ok hv _) hO (i + 1) i (by omega) hi hk with ⟨r, hr, hk1, hv1⟩ | ⟨i', hi', hlt, hk2, hk1, hv1⟩
    · refine ⟨r, hr, ?_⟩
      rw [hk1, hv1, wrI_some hwr]
      have := (opOk_parts (op_ok hv _ _ (List.getElem_mem hi))).2.2.1
      simp only [Bool.and_eq_true, decide_eq_true_eq, beq_self_eq_true, and_true]
      omega
    · exact absurd (once_w hv hm rfl hj (by omega : i' < j) w2 (by rw [isW_iff, w3, w4]; exact ⟨hk2, hk1, hv1⟩)) (fun h => h)
/-- Right reads, as the reference asks. -/
theorem readsB_S {h : List Txn} : readsB h = (histV h && ((badR h 1).length == 0 && ((badR h 2).length == 0 && ((badR h 3).length == 0 && (fineB h && (doneL h).all fun n => !earlyS h n (opsOf h n)))))) := by
  unfold readsB
  cases hv : histV h with
  | false => rfl
  | true =>
    cases hf : fineB h with
    | false => simp
    | true =>
      congr 1; congr 1; congr 1; congr 1; congr 1
      rw [Bool.eq_iff_iff, List.all_eq_true, List.all_eq_true]
      constructor
      · intro h1 n hn
        obtain ⟨m, _, _, hd⟩ := mem_num_done hn
        rw [early_same hv hf hd]; exact h1 n hn
      · intro h1 n hn
        obtain ⟨m, _, _, hd⟩ := mem_num_done hn
        rw [← early_same hv hf hd]; exact h1 n hn
/-- A serial order says that the reads are right. -/
theorem reads_serial {h : List Txn} (hv : histV h = true) {o : List Int} (ho : o.Perm (doneL h)) (hr : runsOK h o = true) : ReadsP h := by
  have hnd := perm_nodup ho
  have hok : ∀ n : Int, ∀ x ∈ opsOf h n, x.Kind = 1 ∨ x.Kind = 2 := fun n x hx => (opOk_parts (op_ok hv n x hx)).1
  obtain ⟨t, hrt⟩ : ∃ t, runTx h St0 o = some t := Option.isSome_iff_exists.1 hr
  refine ⟨fun n hn j hj hk q hq => ?_, fun n hn r hrm hr0 => ?_⟩
  · obtain ⟨u, v, h1⟩ := run_each h o St0 t hrt n (done_in ho hn)
    obtain ⟨x, h2, h3⟩ := run_at h1 j hj
    have h4 := run_last u _ x h2 (opsOf h n)[j].Key
    rw [hq] at h4
    rw [← h3 hk, h4]; rfl
  · obtain ⟨a, b, rfl⟩ := List.append_of_mem (done_in ho hn)
    obtain ⟨u, v, h1, h2, _⟩ := run_split hrt
    obtain ⟨h3, _, h5⟩ := run_first h2 r hrm
    have h6 := run_ins h hok St0 a u h1 r.Key
    rw [h5] at h6
    cases hg : (insK h r.Key a).getLast? with
    | none => rw [hg] at h6; exact absurd h6 hr0
    | some z =>
      rw [hg] at h6
      have hz : r.Value = z := h6
      subst hz
      have hmem := List.mem_of_getLast? hg
      obtain ⟨w, hw, hwr⟩ := insK_wr hv ho (fun x hx => List.mem_append_left _ hx) hmem
      obtain ⟨w', hw', d, hd, hdv⟩ := insK_mem hmem
      obtain ⟨m, hm, hml, hdm⟩ := perm_num ho (x := w) (List.mem_append_left _ hw)
      obtain ⟨m', hm', hml', _⟩ := perm_num ho (x := w') (List.mem_append_left _ hw')
      have hww : w = w' := by
        subst hm'
        have := wrN_last hv hml' hd
        rw [hdv, hwr, Option.some.injEq] at this
        exact this
      subst hww
      exact ⟨w, hwr, fun e => (nodup_split hnd).1 (e ▸ hw), hdm, d, hd, hdv⟩
end Go.Proofs.YtjiobgfaohldhaaGreatDoor
