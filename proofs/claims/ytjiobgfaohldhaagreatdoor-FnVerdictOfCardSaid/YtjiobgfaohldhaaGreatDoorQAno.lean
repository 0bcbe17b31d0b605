/- The edges of valid orders, each by its reason: what the gathered list holds. Plain laws. Anomalies of edges, and levels: what both programs ask, in one form. Plain laws. -/
import Derived.Test.YtjiobgfaohldhaaGreatDoorQReadM
import Derived.Test.YtjiobgfaohldhaaGreatDoorQEdgI
import Derived.Test.YtjiobgfaohldhaaGreatDoorQSortC
import Derived.Test.YtjiobgfaohldhaaGreatDoorQGraph
namespace Go.Proofs.YtjiobgfaohldhaaGreatDoor
open Go.RowKit
set_option linter.unusedVariables false
set_option linter.unusedSimpArgs false

theorem putL_mem {h : List Txn} {L : List Edge} {f t k : Int} {e : Edge} : e ∈ putL h L f t k ↔ e ∈ L ∨ (dneOf h f = true ∧ dneOf h t = true ∧ f ≠ t ∧ e = ⟨f, t, k⟩) := by
  unfold putL
  split
  · rename_i hc
    simp only [Bool.and_eq_true, bne_iff_ne, ne_eq] at hc
    rw [List.mem_append, List.mem_singleton]
    constructor
    · rintro (h1 | h1)
      · exact .inl h1
      · exact .inr ⟨hc.1.1, hc.1.2, hc.2, h1⟩
    · rintro (h1 | ⟨_, _, _, h1⟩)
      · exact .inl h1
      · exact .inr h1
  · rename_i hc
    simp only [Bool.and_eq_true, bne_iff_ne, ne_eq] at hc
    constructor
    · exact .inl
    · rintro (h1 | ⟨h1, h2, h3, _⟩)
      · exact h1
      · exact absurd ⟨⟨h1, h2⟩, h3⟩ hc
theorem partW_mem {h : List Txn} {key : Nat} {o : List Int} {L : List Edge} {e : Edge} : ∀ {i : Nat}, e ∈ partW h key o L i ↔ e ∈ L ∨ ∃ j, j < i ∧ dneOf h (wrI h (key : Int) (o.getD j 0)) = true ∧ dneOf h (wrI h (key : Int) (o.getD (j + 1) 0)) = true ∧ wrI h (key : Int) (o.getD j 0) ≠ wrI h (key : Int) (o.getD (j + 1) 0) ∧ e = ⟨wrI h (key : Int) (o.getD j 0), wrI h (key : Int) (o.getD (j + 1) 0), 1⟩
  | 0 => by simp [partW]
  | i + 1 => by
    rw [partW, putL_mem, partW_mem (i := i)]
    constructor
    · rintro ((h1 | ⟨j, hj, h1⟩) | h1)
      · exact .inl h1
      · exact .inr ⟨j, by omega, h1⟩
      · exact .inr ⟨i, by omega, h1⟩
    · rintro (h1 | ⟨j, hj, h1⟩)
      · exact .inl (.inl h1)
      · rcases Nat.lt_succ_iff_lt_or_eq.1 hj with h2 | rfl
        · exact .inl (.inr ⟨j, h2, h1⟩)
        · exact .inr h1
theorem getD_mid {p q : List Int} {x y : Int} : (p ++ x :: y :: q).getD p.length 0 = x ∧ (p ++ x :: y :: q).getD (p.length + 1) 0 = y := by
  simp [List.getD_eq_getElem?_getD, List.getElem?_append]
theorem split_at2 {o : List Int} {j : Nat} (hj : j + 1 < o.length) : o = o.take j ++ o.getD j 0 :: o.getD (j + 1) 0 :: o.drop (j + 2) := by
  have h1 : o.getD j 0 = o[j] := by rw [List.getD_eq_getElem?_getD, List.getElem?_eq_getElem (by omega)]; rfl
  have h2 : o.getD (j + 1) 0 = o[j + 1] := by rw [List.getD_eq_getElem?_getD, List.getElem?_eq_getElem hj]; rfl
  rw [h1, h2, ← List.drop_eq_getElem_cons hj, ← List.drop_eq_getElem_cons (by omega : j < o.length), List.take_append_drop]
/-- Two values that stand side by side in a valid order. -/
theorem ord_pair {h : List Txn} {os : List (List Int)} (ho : ordB h os = true) {k : Nat} (hk : k < 3) {p q : List Int} {x y : Int} (he : os.getD k [] = p ++ x :: y :: q) :
    ∃ a b : Nat, wrN h (k : Int) x = some (a : Int) ∧ wrN h (k : Int) y = some (b : Int) ∧ dneOf h (a : Int) = true ∧ dneOf h (b : Int) = true ∧ (a : Int) ≠ (b : Int) ∧ a < h.length ∧ b < h.length := by
  obtain ⟨hv, h3, hp⟩ := ord_parts ho
  have hnd : (os.getD k []).Nodup := (hp k hk).nodup_iff.2 (instL_nodup hv _)
  obtain ⟨n1, hn1, hd1, ⟨d1, hl1, hv1⟩, hw1⟩ := ins_ex hv ((hp k hk).mem_iff.1 (show x ∈ os.getD k [] by rw [he]; simp))
  obtain ⟨n2, hn2, hd2, ⟨d2, hl2, hv2⟩, hw2⟩ := ins_ex hv ((hp k hk).mem_iff.1 (show y ∈ os.getD k [] by rw [he]; simp))
  refine ⟨n1, n2, hw1, hw2, hd1, hd2, fun e => ?_, hn1, hn2⟩
  rw [e] at hl1
  have hdd : d1 = d2 := by rw [hl1] at hl2; exact Option.some.inj hl2
  rw [he] at hnd
  have := (nodup_split hnd).2.1
  rw [← hv1, ← hv2, hdd] at this
  simp at this
theorem partK_mem {h : List Txn} {os : List (List Int)} (ho : ordB h os = true) {e : Edge} : ∀ {n : Nat}, n ≤ 3 → (e ∈ partK h os n ↔ ∃ key : Nat, key < n ∧ ∃ p x y q, os.getD key [] = p ++ x :: y :: q ∧ ∃ a b, wrN h (key : Int) x = some a ∧ wrN h (key : Int) y = some b ∧ e = ⟨a, b, 1⟩)
  | 0, _ => by simp [partK]
  | n + 1, hn => by
    rw [partK, partW_mem, partK_mem ho (n := n) (by omega)]
    constructor
    · rintro (⟨key, hk, h1⟩ | ⟨j, hj, h1, h2, h3, h4⟩)
      · exact ⟨key, by omega, h1⟩
      · have hs := split_at2 (o := os.getD n []) (j := j) (by omega)
        obtain ⟨a, b, ha, hb, _⟩ := ord_pair ho (by omega : n < 3) hs
        refine ⟨n, by omega, _, _, _, _, hs, _, _, ha, hb, ?_⟩
        rw [h4]
        unfold wrI
        rw [ha, hb]; rfl
    · rintro ⟨key, hk, p, x, y, q, he, a, b, ha, hb, rfl⟩
      rcases Nat.lt_succ_iff_lt_or_eq.1 hk with h2 | rfl
      · exact .inl ⟨key, h2, p, x, y, q, he, a, b, ha, hb, rfl⟩
      · obtain ⟨a', b', ha', hb', hd1, hd2, hne, _, _⟩ := ord_pair ho (by omega : key < 3) he
        rw [ha, Option.some.injEq] at ha'
        rw [hb, Option.some.injEq] at hb'
        subst ha'; subst hb'
        have hg := getD_mid (p := p) (q := q) (x := x) (y := y)
        have hl : (os.getD key []).length = p.length + (q.length + 2) := by rw [he]; simp
        refine .inr ⟨p.length, by omega, ?_⟩
        rw [he, hg.1, hg.2]
        unfold wrI
        rw [ha, hb]
        exact ⟨hd1, hd2, hne, rfl⟩
theorem idx_split {p q : List Int} {v : Int} (hp : v ∉ p) : idx (fun y => v == y) (p ++ v :: q) = (p.length : Int) := by
  refine idx_hit _ _ p.length (by simp) (by simp) fun j hj hjp => ?_
  rw [List.getElem_append_left hjp]
  rw [beq_eq_false_iff_ne]
  exact fun e => hp (e ▸ List.getElem_mem hjp)
theorem nxI_iff {o : List Int} (hn : o.Nodup) (h0 : (0 : Int) ∉ o) {v y : Int} : nxI o v = some y ↔ NextP o v y := by
  unfold nxI NextP
  by_cases hv : v = 0
  · subst hv
    rw [if_pos rfl]
    constructor
    · intro h1
      cases o with
      | nil => cases h1
      | cons z q =>
        have : z = y := by simpa using h1
        subst this
        exact .inl ⟨rfl, q, rfl⟩
    · rintro (⟨_, q, rfl⟩ | ⟨p, q, rfl⟩)
      · rfl
      · exact absurd (by simp) h0
  · rw [if_neg hv]
    constructor
    · intro h1
      split at h1
      · rename_i hi
        obtain ⟨x, hx, hxe⟩ := List.any_eq_true.1 ((idx_neg _ _).1 hi)
        have hxv : v = x := by simpa using hxe
        subst hxv
        obtain ⟨p, q, rfl⟩ := List.append_of_mem hx
        rw [idx_split (nodup_split hn).1, Int.toNat_natCast] at h1
        cases q with
        | nil => simp at h1
        | cons z q =>
          have : z = y := by simpa [List.getElem?_append] using h1
          subst this
          exact .inr ⟨p, q, rfl⟩
      · cases h1
    · rintro (⟨h1, _⟩ | ⟨p, q, rfl⟩)
      · exact absurd h1 hv
      · rw [idx_split (nodup_split hn).1, if_pos (by omega), Int.toNat_natCast]
        simp [List.getElem?_append]
theorem rdL_mem {h : List Txn} {L : List Edge} {n : Int} (hn : dneOf h n = true) {r : Op} {e : Edge} : e ∈ rdL h L n r ↔ e ∈ L ∨ ∃ a, wrN h r.Key r.Value = some a ∧ dneOf h a = true ∧ a ≠ n ∧ e = ⟨a, n, 2⟩ := by
  unfold rdL
  rw [putL_mem]
  constructor
  · rintro (h1 | ⟨h1, _, h3, h4⟩)
    · exact .inl h1
    · refine .inr ⟨wrI h r.Key r.Value, ?_, h1, h3, h4⟩
      unfold wrI at h1 ⊢
      cases hw : wrN h r.Key r.Value with
      | none => rw [hw] at h1; simp only [Option.getD_none] at h1; rw [dne_neg] at h1; cases h1
      | some x => rfl
  · rintro (h1 | ⟨a, h1, h2, h3, h4⟩)
    · exact .inl h1
    · have : wrI h r.Key r.Value = a := by unfold wrI; rw [h1]; rfl
      rw [this]
      exact .inr ⟨h2, hn, h3, h4⟩
theorem ovL_mem {h : List Txn} {os : List (List Int)} (ho : ordB h os = true) {L : List Edge} {n : Int} (hn : dneOf h n = true) {r : Op} (hk : 0 ≤ r.Key ∧ r.Key ≤ 2) {e : Edge} : e ∈ ovL h os L n r ↔ e ∈ L ∨ ∃ y, NextP (os.getD r.Key.toNat []) r.Value y ∧ ∃ b, wrN h r.Key y = some b ∧ b ≠ n ∧ e = ⟨n, b, 3⟩ := by
  obtain ⟨hv, h3, hp⟩ := ord_parts ho
  have hk3 : r.Key.toNat < 3 := by omega
  have hkk : ((r.Key.toNat : Nat) : Int) = r.Key := by omega
  have hnd : (os.getD r.Key.toNat []).Nodup := (hp _ hk3).nodup_iff.2 (instL_nodup hv _)
  have h0 : (0 : Int) ∉ os.getD r.Key.toNat [] := fun hm => by
    have := instL_val hv ((hp _ hk3).mem_iff.1 hm)
    omega
  cases hx : nxI (os.getD r.Key.toNat []) r.Value with
  | none =>
    rw [ov_none hx]
    refine ⟨.inl, ?_⟩
    rintro (h1 | ⟨y, hy, _⟩)
    · exact h1
    · rw [(nxI_iff hnd h0).2 hy] at hx; cases hx
  | some y =>
    rw [(ov_some ho hn hk hx).2]
    have hm := (hp _ hk3).mem_iff.1 (nxI_mem hx)
    obtain ⟨m, hm1, hd, _, hw⟩ := ins_ex hv hm
    rw [hkk] at hw
    have hwi : wrI h r.Key y = (m : Int) := by unfold wrI; rw [hw]; rfl
    rw [hwi]
    have hN := (nxI_iff hnd h0).1 hx
    by_cases hne : (m : Int) = n
    · rw [if_neg (by simp [hne])]
      refine ⟨.inl, ?_⟩
      rintro (h1 | ⟨y', hy', b, hb, hbn, _⟩)
      · exact h1
      · rw [(nxI_iff hnd h0).2 hy', Option.some.injEq] at hx
        subst hx
        rw [hw, Option.some.injEq] at hb
        exact absurd (hb ▸ hne) hbn
    · rw [if_pos (by simp [hne]), List.mem_append, List.mem_singleton]
      constructor
      · rintro (h1 | h1)
        · exact .inl h1
        · exact .inr ⟨y, hN, m, hw, hne, h1⟩
      · rintro (h1 | ⟨y', hy', b, hb, hbn, he⟩)
        · exact .inl h1
        · rw [(nxI_iff hnd h0).2 hy', Option.some.injEq] at hx
          subst hx
          rw [hw, Option.some.injEq] at hb
          subst hb
          exact .inr he
/-- Why a transaction's first read gives an edge. -/
def ReadE (h : List Txn) (os : List (List Int)) (n : Int) (r : Op) (e : Edge) : Prop :=
  (∃ a, wrN h r.Key r.Value = some a ∧ dneOf h a = true ∧ a ≠ n ∧ e = ⟨a, n, 2⟩) ∨ ∃ y, NextP (os.getD r.Key.toNat []) r.Value y ∧ ∃ b, wrN h r.Key y = some b ∧ b ≠ n ∧ e = ⟨n, b, 3⟩
theorem partR_mem {h : List Txn} {os : List (List Int)} (ho : ordB h os = true) {n : Int} (hn : dneOf h n = true) {e : Edge} : ∀ {rs : List Op} {L : List Edge}, (∀ r ∈ rs, 0 ≤ r.Key ∧ r.Key ≤ 2) → (e ∈ partR h os n L rs ↔ e ∈ L ∨ ∃ r ∈ rs, ReadE h os n r e)
  | [], L, _ => by simp [partR]
  | r :: rs, L, hk => by
    have ih := partR_mem ho hn (e := e) (rs := rs) (L := stepR h os n L r) (fun x hx => hk x (List.mem_cons_of_mem _ hx))
    have hs : partR h os n L (r :: rs) = partR h os n (stepR h os n L r) rs := rfl
    rw [hs, ih]
    unfold stepR
    rw [ovL_mem ho hn (hk r (by simp)), rdL_mem hn]
    unfold ReadE
    constructor
    · rintro (((h1 | h1) | h1) | ⟨x, hx, h1⟩)
      · exact .inl h1
      · exact .inr ⟨r, by simp, .inl h1⟩
      · exact .inr ⟨r, by simp, .inr h1⟩
      · exact .inr ⟨x, List.mem_cons_of_mem _ hx, h1⟩
    · rintro (h1 | ⟨x, hx, h1⟩)
      · exact .inl (.inl (.inl h1))
      · rcases List.mem_cons.1 hx with rfl | hx
        · rcases h1 with h1 | h1
          · exact .inl (.inl (.inr h1))
          · exact .inl (.inr h1)
        · exact .inr ⟨x, hx, h1⟩
theorem first_key {h : List Txn} (hv : histV h = true) {n : Int} {r : Op} (hr : r ∈ firstR (opsOf h n)) : 0 ≤ r.Key ∧ r.Key ≤ 2 := by
  obtain ⟨j, hj, he, _⟩ := firstRs_at (opsOf h n) (opsOf h n).length (Nat.le_refl _) r hr
  have := (opOk_parts (op_ok hv n r (he ▸ List.getElem_mem hj))).2.1
  omega
theorem partD_mem {h : List Txn} {os : List (List Int)} (ho : ordB h os = true) {e : Edge} : ∀ {ns : List Int} {L : List Edge}, (∀ n ∈ ns, dneOf h n = true) → (e ∈ partD h os L ns ↔ e ∈ L ∨ ∃ n ∈ ns, ∃ r ∈ firstR (opsOf h n), ReadE h os n r e)
  | [], L, _ => by simp [partD]
  | n :: ns, L, hd => by
    have hs : partD h os L (n :: ns) = partD h os (partR h os n L (firstR (opsOf h n))) ns := rfl
    rw [hs, partD_mem ho (fun x hx => hd x (List.mem_cons_of_mem _ hx)), partR_mem ho (hd n (by simp)) (fun r hr => first_key (ord_parts ho).1 hr)]
    constructor
    · rintro ((h1 | h1) | ⟨x, hx, h1⟩)
      · exact .inl h1
      · exact .inr ⟨n, by simp, h1⟩
      · exact .inr ⟨x, List.mem_cons_of_mem _ hx, h1⟩
    · rintro (h1 | ⟨x, hx, h1⟩)
      · exact .inl (.inl h1)
      · rcases List.mem_cons.1 hx with rfl | hx
        · exact .inl (.inr h1)
        · exact .inr ⟨x, hx, h1⟩
theorem raw_iff {h : List Txn} {os : List (List Int)} (ho : ordB h os = true) {e : Edge} : e ∈ rawI h os ↔ EdgeP h os e := by
  unfold rawI
  rw [partD_mem ho (fun n hn => by obtain ⟨_, _, _, hd⟩ := mem_num_done hn; exact hd), partK_mem ho (Nat.le_refl _)]
  unfold EdgeP
  constructor
  · rintro (h1 | ⟨n, hn, r, hr, h1 | h1⟩)
    · exact .inl h1
    · obtain ⟨_, _, _, hd⟩ := mem_num_done hn
      exact .inr (.inl ⟨n, hd, r, hr, h1⟩)
    · obtain ⟨_, _, _, hd⟩ := mem_num_done hn
      exact .inr (.inr ⟨n, hd, r, hr, h1⟩)
  · rintro (h1 | ⟨n, hd, r, hr, h1⟩ | ⟨n, hd, r, hr, h1⟩)
    · exact .inl h1
    · exact .inr ⟨n, done_mem hd, r, hr, .inl h1⟩
    · exact .inr ⟨n, done_mem hd, r, hr, .inr h1⟩
/-- The edges of orders. -/
def edgR (h : List Txn) (os : List (List Int)) : List Edge := if ordB h os then canE (rawI h os) else []
theorem edgR_ok {h : List Txn} {os : List (List Int)} (ho : ordB h os = true) : edgR h os = canE (rawI h os) := by unfold edgR; rw [if_pos ho]
theorem edg_iff {h : List Txn} {os : List (List Int)} (ho : ordB h os = true) {e : Edge} : e ∈ edgR h os ↔ EdgeP h os e := by
  have h6 := (histV_parts (ord_parts ho).1).1
  rw [edgR_ok ho, canE_mem, raw_iff ho]
  refine ⟨fun h1 => h1.2, fun h1 => ⟨allEd_mem ?_, h1⟩⟩
  exact rawI_ok h6 os e ((raw_iff ho).2 h1)
/-- Where an edge leads, and of which kind it is. -/
theorem edge_in {h : List Txn} {os : List (List Int)} (ho : ordB h os = true) {e : Edge} (he : EdgeP h os e) : dneOf h e.From = true ∧ dneOf h e.To = true ∧ e.From ≠ e.To ∧ 1 ≤ e.Kind ∧ e.Kind ≤ 3 := by
  obtain ⟨hv, h3, hp⟩ := ord_parts ho
  rcases he with ⟨key, hk, p, x, y, q, he, a, b, ha, hb, rfl⟩ | ⟨n, hn, r, hr, a, ha, hd, hne, rfl⟩ | ⟨n, hn, r, hr, y, hy, b, hb, hne, rfl⟩
  · obtain ⟨a', b', ha', hb', hd1, hd2, hne, _, _⟩ := ord_pair ho hk he
    rw [ha, Option.some.injEq] at ha'
    rw [hb, Option.some.injEq] at hb'
    subst ha'; subst hb'
    exact ⟨hd1, hd2, hne, by show (1 : Int) ≤ 1; decide, by show (1 : Int) ≤ 3; decide⟩
  · exact ⟨hd, hn, hne, by show (1 : Int) ≤ 2; decide, by show (2 : Int) ≤ 3; decide⟩
  · have hk := first_key hv hr
    have hk3 : r.Key.toNat < 3 := by omega
    have hkk : ((r.Key.toNat : Nat) : Int) = r.Key := by omega
    have hm : y ∈ os.getD r.Key.toNat [] := by
      rcases hy with ⟨_, q, h1⟩ | ⟨p, q, h1⟩ <;> rw [h1] <;> simp
    obtain ⟨m, hm1, hd, _, hw⟩ := ins_ex hv ((hp _ hk3).mem_iff.1 hm)
    rw [hkk, hb, Option.some.injEq] at hw
    subst hw
    exact ⟨hn, hd, fun e => hne e.symm, by show (1 : Int) ≤ 3; decide, by show (3 : Int) ≤ 3; decide⟩
theorem edgR_len (h : List Txn) (os : List (List Int)) : (edgR h os).length ≤ 144 := by
  unfold edgR
  split
  · exact List.length_filter_le _ _
  · simp
theorem edg_valid {h : List Txn} (hv : histV h = true) (os : List (List Int)) : edgesV (h.length : Int) (edgR h os) = true := by
  have h6 := (histV_parts hv).1
  have hl := edgR_len h os
  unfold edgesV
  simp only [Bool.and_eq_true, decide_eq_true_eq, List.all_eq_true]
  refine ⟨⟨by rw [inR_iff]; omega, hl⟩, fun e he => ?_⟩
  by_cases ho : ordB h os = true
  · obtain ⟨h1, h2, h3, h4, h5⟩ := edge_in ho ((edg_iff ho).1 he)
    obtain ⟨a, ha, ha2⟩ : ∃ m : Nat, e.From = (m : Int) ∧ m < h.length := by
      unfold dneOf at h1
      simp only [Bool.and_eq_true, decide_eq_true_eq] at h1
      exact ⟨e.From.toNat, by omega, by omega⟩
    obtain ⟨b, hb, hb2⟩ : ∃ m : Nat, e.To = (m : Int) ∧ m < h.length := by
      unfold dneOf at h2
      simp only [Bool.and_eq_true, decide_eq_true_eq] at h2
      exact ⟨e.To.toNat, by omega, by omega⟩
    unfold edgeOk
    simp only [Bool.and_eq_true, Bool.not_eq_true', beq_eq_false_iff_ne, ne_eq, inR_iff]
    exact ⟨⟨⟨by omega, by omega⟩, h3⟩, by omega⟩
  · unfold edgR at he
    rw [if_neg ho] at he
    cases he
/-- The edges of some kinds. -/
def subE (ks : List Int) (xs : List Edge) : List Edge := xs.filter fun e => ks.any fun y => e.Kind == y
theorem subE_mem {ks : List Int} {xs : List Edge} {e : Edge} : e ∈ subE ks xs ↔ e ∈ xs ∧ e.Kind ∈ ks := by
  unfold subE
  rw [List.mem_filter, List.any_eq_true]
  constructor
  · rintro ⟨h1, y, hy, he⟩
    rw [beq_iff_eq] at he
    exact ⟨h1, he ▸ hy⟩
  · rintro ⟨h1, h2⟩
    exact ⟨h1, _, h2, beq_self_eq_true _⟩
theorem subE_valid {many : Int} {xs : List Edge} (hv : edgesV many xs = true) (ks : List Int) : edgesV many (subE ks xs) = true := by
  unfold edgesV at hv ⊢
  simp only [Bool.and_eq_true, decide_eq_true_eq, List.all_eq_true] at hv ⊢
  exact ⟨⟨hv.1.1, Nat.le_trans (List.length_filter_le _ _) hv.1.2⟩, fun e he => hv.2 e (subE_mem.1 he).1⟩
theorem edgesV_all {many : Int} {xs : List Edge} (hv : edgesV many xs = true) : xs.all (edgeOk many) = true ∧ 0 ≤ many ∧ many ≤ 6 ∧ xs.length ≤ 144 := by
  unfold edgesV at hv
  simp only [Bool.and_eq_true, decide_eq_true_eq, inR_iff] at hv
  exact ⟨hv.2, hv.1.1.1, hv.1.1.2, hv.1.2⟩
theorem bitE_sub {many : Int} {xs : List Edge} (hv : edgesV many xs = true) (ks : List Int) : bitE (matOf ks xs) = edgE (subE ks xs) := by
  funext i j
  unfold bitE edgE hasE subE matOf
  rw [matOf_bit i j xs (fun _ => 0) (edgesV_all hv).1, Nat.zero_testBit, Bool.false_or, List.any_filter]
theorem wN_wk {M : Nat → Nat} (hE : ∀ i j, bitE M i j = true → j < 6) (i j : Nat) : (wN M 6 i).testBit j = true ↔ ∃ l, Wk (bitE M) j (l + 1) i := by
  rw [wN_via]
  constructor
  · intro h; exact h.wk
  · rintro ⟨l, h⟩; exact h.via hE
def roundB (M : Nat → Nat) : Bool := (List.range 6).any fun i => (wN M 6 i).testBit i
def singB (xs : List Edge) : Bool := xs.any fun e => e.Kind == 3 && (wN (matOf [1, 2] xs) 6 e.To.toNat).testBit e.From.toNat
/-- Edges have an anomaly. -/
def anoB (many : Int) (xs : List Edge) (kind : Int) : Bool := edgesV many xs && (if kind = 1 then roundB (matOf [1] xs) else if kind = 2 then roundB (matOf [1, 2] xs) else if kind = 3 then singB xs else if kind = 4 then roundB (matOf [1, 2, 3] xs) else false)
theorem edgE_bd {n : Nat} {xs : List Edge} (hv : edgesV (n : Int) xs = true) (i j : Nat) (h : edgE xs i j = true) : i < n ∧ j < n := edgE_in (edgesV_all hv).1 i j h
theorem round_iff {n : Nat} {xs : List Edge} (hv : edgesV (n : Int) xs = true) (ks : List Int) : roundB (matOf ks xs) = true ↔ ∃ i, i < n ∧ ∃ l, Wk (edgE (subE ks xs)) i (l + 1) i := by
  have hs := subE_valid hv ks
  have h6 := (edgesV_all hv).2.2.1
  have hE : ∀ i j, bitE (matOf ks xs) i j = true → i < n ∧ j < n := fun i j hij => by
    rw [bitE_sub hv] at hij; exact edgE_bd hs i j hij
  unfold roundB
  rw [List.any_eq_true]
  constructor
  · rintro ⟨i, _, hb⟩
    obtain ⟨l, hw⟩ := (wN_wk (fun a b hab => by have := hE a b hab; omega) i i).1 hb
    rw [bitE_sub hv] at hw
    obtain ⟨m, hm, _⟩ := hw
    exact ⟨i, (edgE_bd hs i m hm).1, l, m, hm, by assumption⟩
  · rintro ⟨i, hi, l, hw⟩
    rw [← bitE_sub hv] at hw
    exact ⟨i, List.mem_range.2 (by omega), (wN_wk (fun a b hab => by have := hE a b hab; omega) i i).2 ⟨l, hw⟩⟩
/-- A level allows a history with its edges. -/
def allB (h : List Txn) (xs : List Edge) (level : Int) : Bool := ((List.range level.toNat).all fun k : Nat => !anoB (h.length : Int) xs ((k : Int) + 1)) && (decide (level < 2) || readsB h)
/-- Where a relation that no number has to itself holds along all edges, no way leads back. -/
theorem wk_rel {R : Nat → Nat → Prop} (htr : ∀ a b c, R a b → R b c → R a c) {xs : List Edge} (he : ∀ i j, edgE xs i j = true → R i j) {s : Nat} : ∀ {l n : Nat}, Wk (edgE xs) s (l + 1) n → R n s
  | 0, n, h => by
    obtain ⟨m, h1, h2⟩ := h
    have : m = s := h2
    subst this
    exact he _ _ h1
  | l + 1, n, h => by
    obtain ⟨m, h1, h2⟩ := h
    exact htr _ _ _ (he _ _ h1) (wk_rel htr he h2)
theorem edgE_ends {xs : List Edge} {R : Nat → Nat → Prop} (h : ∀ e ∈ xs, ∀ a b : Nat, e.From = (a : Int) → e.To = (b : Int) → R a b) (i j : Nat) (hij : edgE xs i j = true) : R i j := by
  obtain ⟨e, he, h1, h2⟩ := edgE_ex.1 hij
  exact h e he i j h1 h2
theorem no_round {n : Nat} {xs : List Edge} (hv : edgesV (n : Int) xs = true) (ks : List Int) {R : Nat → Nat → Prop} (htr : ∀ a b c, R a b → R b c → R a c) (hir : ∀ a, ¬ R a a) (h : ∀ e ∈ xs, e.Kind ∈ ks → ∀ a b : Nat, e.From = (a : Int) → e.To = (b : Int) → R a b) : roundB (matOf ks xs) = false := by
  cases hb : roundB (matOf ks xs) with
  | false => rfl
  | true =>
    obtain ⟨i, _, l, hw⟩ := (round_iff hv ks).1 hb
    exact absurd (wk_rel htr (edgE_ends fun e he => h e (subE_mem.1 he).1 (subE_mem.1 he).2) hw) (hir i)
theorem no_sing {n : Nat} {xs : List Edge} (hv : edgesV (n : Int) xs = true) {R : Nat → Nat → Prop} (htr : ∀ a b c, R a b → R b c → R a c) (h : ∀ e ∈ xs, e.Kind ∈ [1, 2] → ∀ a b : Nat, e.From = (a : Int) → e.To = (b : Int) → R a b)
    (h3 : ∀ e ∈ xs, e.Kind = 3 → ∀ a b : Nat, e.From = (a : Int) → e.To = (b : Int) → ¬ R b a) : singB xs = false := by
  cases hb : singB xs with
  | false => rfl
  | true =>
    exfalso
    unfold singB at hb
    obtain ⟨e, he, h1⟩ := List.any_eq_true.1 hb
    rw [Bool.and_eq_true, beq_iff_eq] at h1
    have hs := subE_valid hv [1, 2]
    have h6 := (edgesV_all hv).2.2.1
    have hE : ∀ i j, bitE (matOf [1, 2] xs) i j = true → j < 6 := fun i j hij => by
      rw [bitE_sub hv] at hij
      have := edgE_bd hs i j hij
      omega
    obtain ⟨l, hw⟩ := (wN_wk hE _ _).1 h1.2
    rw [bitE_sub hv] at hw
    obtain ⟨h4, h5, _⟩ := edgeOk_iff (List.all_eq_true.1 (edgesV_all hv).1 e he)
    exact h3 e he h1.1 e.From.toNat e.To.toNat (by omega) (by omega) (wk_rel htr (edgE_ends fun e he => h e (subE_mem.1 he).1 (subE_mem.1 he).2) hw)
/-! ### What serial orders say -/
theorem Bef.left {o : List Int} {a b : Int} (h : Bef o a b) : a ∈ o ∧ b ∈ o := by
  obtain ⟨p, q, rfl, ha⟩ := h
  exact ⟨List.mem_append_left _ ha, by simp⟩
theorem serial_ano {h : List Txn} (hv : histV h = true) {o : List Int} (ho : o.Perm (doneL h)) (hr : runsOK h o = true) {os : List (List Int)} (hos : ordB h os = true) (hk : ∀ key : Nat, key < 3 → os.getD key [] = insK h (key : Int) o) (kind : Int) : anoB (h.length : Int) (edgR h os) kind = false := by
  have hnd := perm_nodup ho
  have hE := edg_valid hv os
  have hB : ∀ e ∈ edgR h os, ∀ a b : Nat, e.From = (a : Int) → e.To = (b : Int) → Bef o (a : Int) (b : Int) := fun e he a b ha hb => by
    have := serial_edges hv ho hr hk ((edg_iff hos).1 he)
    rwa [ha, hb] at this
  have htr : ∀ a b c : Nat, Bef o (a : Int) (b : Int) → Bef o (b : Int) (c : Int) → Bef o (a : Int) (c : Int) := fun a b c h1 h2 => h1.trans hnd h2
  have hir : ∀ a : Nat, ¬ Bef o (a : Int) (a : Int) := fun a h1 => h1.asymm hnd h1
  unfold anoB
  rw [hE, Bool.true_and]
  split
  · exact no_round hE _ htr hir fun e he _ => hB e he
  · split
    · exact no_round hE _ htr hir fun e he _ => hB e he
    · split
      · exact no_sing hE htr (fun e he _ => hB e he) fun e he _ a b ha hb h1 => (hB e he a b ha hb).asymm hnd h1
      · split
        · exact no_round hE _ htr hir fun e he _ => hB e he
        · rfl
theorem ord_of {h : List Txn} (hv : histV h = true) {os : List (List Int)} (h3 : os.length = 3) (hp : ∀ k : Nat, k < 3 → (os.getD k []).Perm (instL h (k : Int))) : ordB h os = true := by
  unfold ordB ordK
  rw [hv, h3]
  simp only [decide_true, Bool.true_and, List.all_eq_true, List.mem_range]
  exact fun k hk => (same_iff (instL_nodup hv _)).2 (hp k hk)
theorem serial_ord {h : List Txn} (hv : histV h = true) {o : List Int} (ho : o.Perm (doneL h)) {os : List (List Int)} (h3 : os.length = 3) (hk : ∀ key : Nat, key < 3 → os.getD key [] = insK h (key : Int) o) : ordB h os = true :=
  ord_of hv h3 fun k hk3 => by rw [hk k hk3, ← insK_done]; exact insK_perm h _ ho
theorem serial_all {h : List Txn} (hv : histV h = true) {o : List Int} (ho : o.Perm (doneL h)) (hr : runsOK h o = true) {os : List (List Int)} (h3 : os.length = 3) (hk : ∀ key : Nat, key < 3 → os.getD key [] = insK h (key : Int) o) (level : Int) : allB h (edgR h os) level = true := by
  have hos := serial_ord hv ho h3 hk
  unfold allB
  rw [Bool.and_eq_true]
  refine ⟨List.all_eq_true.2 fun k _ => by rw [serial_ano hv ho hr hos hk]; rfl, ?_⟩
  rw [(reads_iff hv).2 (reads_serial hv ho hr)]
  simp
/-! ### What orders without cycles say -/
theorem bef_filter {p : Int → Bool} {o : List Int} {a b : Int} (h : Bef o a b) (ha : p a = true) (hb : p b = true) : Bef (o.filter p) a b := by
  obtain ⟨x, y, rfl, hm⟩ := h
  refine ⟨x.filter p, y.filter p, ?_, List.mem_filter.2 ⟨hm, ha⟩⟩
  rw [List.filter_append, List.filter_cons, if_pos hb]
theorem top_all {n : Nat} {E : Nat → Nat → Bool} {s : List Nat × Nat} (h : TopOk E n n s) {i : Nat} (hi : i < n) : i ∈ s.1 := by
  refine Classical.byContradiction fun hno => ?_
  have := nodup_below n (i :: s.1) (List.nodup_cons.2 ⟨hno, h.nodup⟩) (fun x hx => by
    rcases List.mem_cons.1 hx with rfl | hx
    · exact hi
    · exact h.below x hx)
  rw [List.length_cons, h.len] at this
  omega
/-- The committed ones of an order in which all edges lead forward are a serial order, if the reads are right. -/
theorem top_good {h : List Txn} {os : List (List Int)} (ho : ordB h os = true) (hR : readsB h = true) {s : List Nat × Nat} (hs : topD (edgE (edgR h os)) h.length h.length = some s) :
    ((s.1.map fun n : Nat => (n : Int)).filter (dneOf h)).Perm (doneL h) ∧ runsOK h ((s.1.map fun n : Nat => (n : Int)).filter (dneOf h)) = true := by
  obtain ⟨hv, h3, hp⟩ := ord_parts ho
  have hE := edg_valid hv os
  have hT := topD_ok (edgE_bd hE) _ s hs
  have hnd : (s.1.map fun n : Nat => (n : Int)).Nodup := by
    have h1 := hT.nodup
    rw [List.Nodup, List.pairwise_map]
    exact List.Pairwise.imp (fun hab hc => hab (by omega)) h1
  have hperm : ((s.1.map fun n : Nat => (n : Int)).filter (dneOf h)).Perm (doneL h) := by
    show List.Perm _ (doneI h h.length)
    rw [List.perm_ext_iff_of_nodup (hnd.filter _) (doneI_nodup h h.length)]
    show ∀ x, _ ↔ x ∈ doneL h
    intro x
    rw [List.mem_filter]
    constructor
    · rintro ⟨_, hd⟩; exact done_mem hd
    · intro hx
      obtain ⟨m, rfl, hm, hd⟩ := mem_num_done hx
      exact ⟨List.mem_map.2 ⟨m, top_all hT hm, rfl⟩, hd⟩
  refine ⟨hperm, top_serial hv ((reads_iff hv).1 hR) hperm hp fun e he => ?_⟩
  obtain ⟨h1, h2, _⟩ := edge_in ho he
  refine bef_filter ?_ h1 h2
  have hd1 := mem_num_done (done_mem h1)
  have hd2 := mem_num_done (done_mem h2)
  obtain ⟨a, ha, hal, _⟩ := hd1
  obtain ⟨b, hb, hbl, _⟩ := hd2
  obtain ⟨p, q, hpq⟩ := List.append_of_mem (top_all hT hbl)
  have hed : edgE (edgR h os) a b = true := edgE_ex.2 ⟨e, (edg_iff ho).2 he, ha, hb⟩
  have hin := hT.fwd p b q hpq a hed
  rw [ha, hb, hpq]
  refine ⟨p.map fun n : Nat => (n : Int), q.map fun n : Nat => (n : Int), by simp, List.mem_map.2 ⟨a, hin, rfl⟩⟩
end Go.Proofs.YtjiobgfaohldhaaGreatDoor
