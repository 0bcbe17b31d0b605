/- Plain laws: edges of sessions lead forward exactly where each transaction stands behind the earlier ones of its session. -/
import Derived.Test.YtmlbfhknapkhgaaSess
import Derived.Test.YtmlbfhknapkhgaaFwd
namespace Go.Proofs.Ytmlbfhknapkhgaa
open Go.RowKit
set_option linter.unusedVariables false

theorem mem_doneL {h : List Txn} {x : Nat} : (x : Int) ∈ doneL h ↔ x < h.length ∧ doneAt h x = true := by
  constructor
  · intro hx
    have h1 := doneI_mem h _ _ hx
    have h2 := doneI_done h _ _ hx
    exact ⟨by omega, by simpa [doneAt] using h2⟩
  · rintro ⟨h1, h2⟩
    exact mem_doneI h _ x h1 h2
theorem ses_same (h : List Txn) (x : Nat) : sesOf h (x : Int) = sesAt h x := by
  unfold sesOf sesAt
  rw [Int.toNat_natCast]
theorem nextS_spec {h : List Txn} {k j : Nat} (hn : nextS h k = some j) : k < j ∧ j < h.length ∧ pairB h k j = true ∧ ∀ m, k < m → pairB h k m = true → m < h.length → j ≤ m := by
  unfold nextS at hn
  have h1 := List.find?_some hn
  have h2 := List.mem_of_find?_eq_some hn
  rw [Bool.and_eq_true, decide_eq_true_eq] at h1
  refine ⟨h1.1, List.mem_range.1 h2, h1.2, fun m hm hp hl => ?_⟩
  rw [List.find?_eq_some_iff_append] at hn
  obtain ⟨_, pa, pb, he, hno⟩ := hn
  by_cases hjm : j ≤ m
  · exact hjm
  · exfalso
    have hma : m ∈ pa := by
      have hpw : (List.range h.length).Pairwise (· < ·) := List.pairwise_lt_range
      have hmr : m ∈ List.range h.length := List.mem_range.2 hl
      rw [he] at hpw hmr
      rw [List.mem_append] at hmr
      rcases hmr with hmr | hmr
      · exact hmr
      · rw [List.pairwise_append] at hpw
        rcases List.mem_cons.1 hmr with rfl | hmr
        · omega
        · have := List.rel_of_pairwise_cons hpw.2.1 hmr
          omega
    have := hno m hma
    simp [hm, hp] at this
theorem nextS_ex {h : List Txn} {k m : Nat} (hm : k < m) (hl : m < h.length) (hp : pairB h k m = true) : ∃ j, nextS h k = some j := by
  cases hn : nextS h k with
  | some j => exact ⟨j, rfl⟩
  | none =>
    unfold nextS at hn
    rw [List.find?_eq_none] at hn
    have := hn m (List.mem_range.2 hl)
    simp [hm, hp] at this
theorem mem_sEdges {h : List Txn} {e : Edge} : e ∈ sEdges h h.length ↔ ∃ k j : Nat, k < h.length ∧ doneAt h k = true ∧ nextS h k = some j ∧ e = ⟨(k : Int), (j : Int), 4⟩ := by
  unfold sEdges
  rw [List.mem_flatMap]
  constructor
  · rintro ⟨k, hk, he⟩
    unfold edgeAt at he
    split at he
    · rename_i hd
      cases hn : nextS h k with
      | none => rw [hn] at he; cases he
      | some j => rw [hn] at he; exact ⟨k, j, List.mem_range.1 hk, hd, hn, by simpa using he⟩
    · cases he
  · rintro ⟨k, j, hk, hd, hn, rfl⟩
    refine ⟨k, List.mem_range.2 hk, ?_⟩
    unfold edgeAt
    rw [if_pos hd, hn]
    simp
/-- All edges of sessions lead forward. -/
def FwdP (h : List Txn) (o : List Int) : Prop := ∀ k j : Nat, k < h.length → doneAt h k = true → nextS h k = some j → ∀ l (hl : l < o.length), o[l] = (j : Int) → (k : Int) ∈ o.take (l + 1)
def StepP (h : List Txn) (o : List Int) : Prop := ∀ l (hl : l < o.length), ∀ b ∈ doneL h, b < o[l] → sesOf h b = sesOf h o[l] → b ∈ o.take l
theorem fwd_iff (h : List Txn) (o : List Int) : fwdB o (sEdges h h.length) = true ↔ FwdP h o := by
  unfold fwdB
  rw [List.all_eq_true]
  constructor
  · intro ha k j hk hd hn l hl hlj
    have h1 := ha ⟨(k : Int), (j : Int), 4⟩ (mem_sEdges.2 ⟨k, j, hk, hd, hn, rfl⟩)
    unfold edgeFwd at h1
    rw [List.all_eq_true] at h1
    have h2 := h1 l (List.mem_range.2 hl)
    unfold fwdAt at h2
    rw [List.getD_eq_getElem?_getD, List.getElem?_eq_getElem hl] at h2
    simpa [hlj] using h2
  · intro hF e he
    obtain ⟨k, j, hk, hd, hn, rfl⟩ := mem_sEdges.1 he
    refine edgeFwd_all fun l hl => ?_
    unfold fwdAt
    rw [List.getD_eq_getElem?_getD, List.getElem?_eq_getElem hl]
    by_cases hlj : o[l] = (j : Int)
    · have := hF k j hk hd hn l hl hlj
      simp [this]
    · simp [hlj]
theorem step_iff (h : List Txn) (o : List Int) : stepsOK (sesAlw h) o = true ↔ StepP h o := by
  unfold stepsOK sesAlw
  rw [List.all_eq_true]
  constructor
  · intro ha l hl b hb hlt hs
    have h1 := ha l (List.mem_range.2 hl)
    rw [List.all_eq_true] at h1
    have h2 := h1 b hb
    rw [List.getD_eq_getElem?_getD, List.getElem?_eq_getElem hl] at h2
    simpa [hlt, hs] using h2
  · intro hS l hl
    rw [List.mem_range] at hl
    rw [List.all_eq_true]
    intro b hb
    rw [List.getD_eq_getElem?_getD, List.getElem?_eq_getElem hl]
    by_cases hlt : b < o[l]
    · by_cases hs : sesOf h b = sesOf h o[l]
      · have := hS l hl b hb hlt hs
        simp [this]
      · simp [hs]
    · simp [hlt]
theorem take_mono_mem {o : List Int} {i j : Nat} (hij : i ≤ j) {x : Int} (hx : x ∈ o.take i) : x ∈ o.take j := by
  obtain ⟨k, hk, rfl⟩ := List.mem_take_iff_getElem.1 hx
  exact List.mem_take_iff_getElem.2 ⟨k, by omega, rfl⟩
theorem fwd_step (h : List Txn) (o : List Int) (ho : o.Perm (doneL h)) : FwdP h o ↔ StepP h o := by
  constructor
  · intro hF l hl
    have hnD : o[l] ∈ doneL h := ho.mem_iff.1 (List.getElem_mem hl)
    obtain ⟨hn0, hn1⟩ := doneI_mem h _ _ hnD
    obtain ⟨n, hn⟩ : ∃ n : Nat, o[l] = (n : Int) := ⟨o[l].toNat, by omega⟩
    rw [hn] at hnD hn1 ⊢
    obtain ⟨hnl, hnd⟩ := mem_doneL.1 hnD
    have key : ∀ (g b : Nat), n - b = g → b < n → b < h.length → doneAt h b = true → sesAt h b = sesAt h n → (b : Int) ∈ o.take l := by
      intro g
      induction g using Nat.strongRecOn with
      | ind g ih =>
        intro b hg hbn hbl hbd hbs
        have hp : pairB h b n = true := by unfold pairB; rw [hnd, hbs]; simp
        obtain ⟨m, hm⟩ := nextS_ex hbn hnl hp
        obtain ⟨h1, h2, h3, h4⟩ := nextS_spec hm
        have h5 := h4 n hbn hp hnl
        unfold pairB at h3
        rw [Bool.and_eq_true, beq_iff_eq] at h3
        by_cases hmn : m = n
        · subst hmn
          have h6 := hF b m hbl hbd hm l hl hn
          rw [List.take_succ_eq_append_getElem hl, List.mem_append, List.mem_singleton, hn] at h6
          rcases h6 with h6 | h6
          · exact h6
          · omega
        · have h6 := ih (n - m) (by omega) m rfl (by omega) h2 h3.1 (by rw [h3.2, hbs])
          obtain ⟨i, hi, hie⟩ := List.mem_take_iff_getElem.1 h6
          have h7 := hF b m hbl hbd hm i (by omega) hie
          exact take_mono_mem (by omega) h7
    intro b hb hlt hs
    obtain ⟨hb0, hb1⟩ := doneI_mem h _ _ hb
    obtain ⟨b', rfl⟩ : ∃ b' : Nat, b = (b' : Int) := ⟨b.toNat, by omega⟩
    obtain ⟨h1, h2⟩ := mem_doneL.1 hb
    rw [ses_same, ses_same] at hs
    exact key _ b' rfl (by omega) h1 h2 hs
  · intro hS k j hk hd hn l hl hlj
    obtain ⟨h1, h2, h3, _⟩ := nextS_spec hn
    unfold pairB at h3
    rw [Bool.and_eq_true, beq_iff_eq] at h3
    exact take_mono_mem (Nat.le_succ l) (hS l hl k (mem_doneL.2 ⟨hk, hd⟩) (by rw [hlj]; omega) (by rw [hlj, ses_same, ses_same, h3.2]))
theorem sesGood (h : List Txn) (o : List Int) (ho : o.Perm (doneL h)) : goodR (sesAlw h) h o = (runsOK h o && fwdB o (sEdges h h.length)) := by
  unfold goodR
  congr 1
  rw [Bool.eq_iff_iff, step_iff, fwd_iff, fwd_step h o ho]
end Go.Proofs.Ytmlbfhknapkhgaa
