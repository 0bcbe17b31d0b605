/- The cycle of the reference and that of the program are one: plain laws about shortest ways. No program in sight. -/
import Derived.Test.YtnlicjgegclilaaDoorFarM
import Derived.Test.YtnlicjgegclilaaDoorCyc
import Derived.Test.YtnlicjgegclilaaDoorBfs
namespace Go.Proofs.YtnlicjgegclilaaDoor
open Go.RowKit
set_option linter.unusedVariables false
set_option linter.unusedSimpArgs false

/-- Edges between natural numbers. -/
def edgE (xs : List Edge) : Nat → Nat → Bool := fun i j => hasE xs (i : Int) (j : Int)
theorem edgE_in {n : Nat} {xs : List Edge} (hv : xs.all (edgeOk (n : Int)) = true) (i j : Nat) (h : edgE xs i j = true) : i < n ∧ j < n := by
  have := hasE_in hv h
  simp only [inR_iff] at this
  omega
theorem edgE_ex {xs : List Edge} {i j : Nat} : edgE xs i j = true ↔ ∃ e ∈ xs, e.From = (i : Int) ∧ e.To = (j : Int) := by
  unfold edgE hasE
  simp [List.any_eq_true]
/-- The lengths of shortest ways up to s are known. -/
structure FarOk (xs : List Edge) (n t s : Nat) (F : List Int) : Prop where
  len : F.length = n
  val : ∀ k, k < n → F.getD k 0 = -1 ∨ ∃ l : Nat, l ≤ s ∧ F.getD k 0 = (l : Int) ∧ Sh (edgE xs) t k l
  low : ∀ k, k < n → ∀ l, l ≤ s → Sh (edgE xs) t k l → F.getD k 0 = (l : Int)
theorem FarOk.start {xs : List Edge} {n t : Nat} (ht : t < n) : FarOk xs n t 0 ((List.replicate n (-1)).set t 0) := by
  have h0 : ∀ k, k < n → ((List.replicate n (-1 : Int)).set t 0).getD k 0 = if k = t then 0 else -1 := fun k hk => by
    rw [getD_set6 (by simpa using ht)]
    split
    · rfl
    · simp [List.getD_eq_getElem?_getD, List.getElem?_replicate, hk]
  refine ⟨by simp, fun k hk => ?_, fun k hk l hl hsh => ?_⟩
  · rw [h0 k hk]
    by_cases h : k = t
    · rw [if_pos h]; exact .inr ⟨0, Nat.le_refl _, rfl, h, fun l' hl' => absurd hl' (by omega)⟩
    · rw [if_neg h]; exact .inl rfl
  · obtain rfl : l = 0 := by omega
    have : k = t := hsh.1
    rw [h0 k hk, if_pos this]; rfl
theorem farRow_at {n s : Nat} {xs : List Edge} (hv : xs.all (edgeOk (n : Int)) = true) {F : List Int} (hF : F.length = n) : ∀ k, k ≤ xs.length → ∀ i, i < n →
    (farRow s (xs.take k) F).getD i 0 = if F.getD i 0 < 0 ∧ (xs.take k).any (fun e => e.From == (i : Int) && F.getD e.To.toNat 0 == (s : Int)) = true then (s : Int) + 1 else F.getD i 0
  | 0, _, i, hi => by simp [farRow]
  | k + 1, hk, i, hi => by
    have hlt : k < xs.length := by omega
    have ih := farRow_at (s := s) hv hF k (by omega)
    have hlen := farRow_len s (xs.take k) F
    rw [farRow_succ s xs F k hlt, List.take_succ_eq_append_getElem hlt, List.any_append]
    have he := List.all_eq_true.1 hv _ (List.getElem_mem hlt)
    generalize xs[k] = e at he ⊢
    unfold edgeOk at he
    simp only [Bool.and_eq_true, inR_iff] at he
    obtain ⟨f, hf⟩ : ∃ f : Nat, e.From = (f : Int) := ⟨e.From.toNat, by omega⟩
    obtain ⟨t, ht⟩ : ∃ t : Nat, e.To = (t : Int) := ⟨e.To.toNat, by omega⟩
    have hfn : f < n := by omega
    have htn : t < n := by omega
    have iht := ih t htn
    have ihf := ih f hfn
    have ihi := ih i hi
    generalize farRow s (xs.take k) F = G at ih iht ihf ihi hlen ⊢
    have hts : G.getD t 0 = (s : Int) ↔ F.getD t 0 = (s : Int) := by
      rw [iht]
      split
      · rename_i h; have := h.1; omega
      · rfl
    simp only [List.any_cons, List.any_nil, Bool.or_false]
    unfold farStep
    rw [hf, ht, Int.toNat_natCast, Int.toNat_natCast]
    by_cases hc : G.getD t 0 = (s : Int) ∧ G.getD f 0 < 0
    · rw [if_pos hc, getD_set6 (by omega)]
      have hFt := hts.1 hc.1
      by_cases hif : i = f
      · subst hif
        have h0 : F.getD i 0 < 0 := by
          rcases Int.lt_or_le (F.getD i 0) 0 with h | h
          · exact h
          · rw [if_neg (fun h' => by omega)] at ihf; omega
        rw [if_pos rfl, if_pos ⟨h0, by rw [hFt]; simp only [beq_self_eq_true, Bool.and_self, Bool.or_true]⟩]
      · rw [if_neg hif, ihi]
        have hne : ((f : Int) == (i : Int)) = false := by rw [beq_eq_false_iff_ne]; omega
        rw [hne, Bool.false_and, Bool.or_false]
    · rw [if_neg hc, ihi]
      by_cases hif : i = f
      · subst hif
        by_cases h1 : F.getD t 0 = (s : Int)
        · have h2 : ¬ G.getD i 0 < 0 := fun h => hc ⟨hts.2 h1, h⟩
          by_cases h3 : F.getD i 0 < 0 ∧ (xs.take k).any (fun e => e.From == (i : Int) && F.getD e.To.toNat 0 == (s : Int)) = true
          · rw [if_pos h3, if_pos ⟨h3.1, by rw [h3.2]; rfl⟩]
          · rw [if_neg h3] at ihi ⊢
            rw [if_neg (fun h => by omega)]
        · have : ((F.getD t 0) == (s : Int)) = false := by rw [beq_eq_false_iff_ne]; exact h1
          rw [this, Bool.and_false, Bool.or_false]
      · have hne : ((f : Int) == (i : Int)) = false := by rw [beq_eq_false_iff_ne]; omega
        rw [hne, Bool.false_and, Bool.or_false]
theorem FarOk.next {xs : List Edge} {n t s : Nat} {F : List Int} (hv : xs.all (edgeOk (n : Int)) = true) (h : FarOk xs n t s F) : FarOk xs n t (s + 1) (farRow s xs F) := by
  have hat : ∀ i, i < n → (farRow s xs F).getD i 0 = if F.getD i 0 < 0 ∧ xs.any (fun e => e.From == (i : Int) && F.getD e.To.toNat 0 == (s : Int)) = true then (s : Int) + 1 else F.getD i 0 := fun i hi => by
    have := farRow_at (s := s) hv h.len xs.length (Nat.le_refl _) i hi
    rwa [List.take_length] at this
  refine ⟨(farRow_len s xs F).trans h.len, fun k hk => ?_, fun k hk l hl hsh => ?_⟩
  · rw [hat k hk]
    by_cases hc : F.getD k 0 < 0 ∧ xs.any (fun e => e.From == (k : Int) && F.getD e.To.toNat 0 == (s : Int)) = true
    · rw [if_pos hc]
      obtain ⟨e, he, h2⟩ := List.any_eq_true.1 hc.2
      simp only [Bool.and_eq_true, beq_iff_eq] at h2
      have h3 := List.all_eq_true.1 hv e he
      unfold edgeOk at h3
      simp only [Bool.and_eq_true, inR_iff] at h3
      obtain ⟨m, hm⟩ : ∃ m : Nat, e.To = (m : Int) := ⟨e.To.toNat, by omega⟩
      rw [hm, Int.toNat_natCast] at h2
      have hmn : m < n := by omega
      have hsm : Sh (edgE xs) t m s := by
        rcases h.val m hmn with h4 | ⟨l', _, h4, h5⟩
        · omega
        · have : l' = s := by omega
          rw [← this]; exact h5
      refine .inr ⟨s + 1, Nat.le_refl _, by omega, ⟨m, edgE_ex.2 ⟨e, he, h2.1, hm⟩, hsm.1⟩, fun l' hl' hw => ?_⟩
      obtain ⟨l2, h6, h7⟩ := hw.sh
      have := h.low k hk l2 (by omega) h7
      omega
    · rw [if_neg hc]
      rcases h.val k hk with h1 | ⟨l, h1, h2⟩
      · exact .inl h1
      · exact .inr ⟨l, by omega, h2⟩
  · rw [hat k hk]
    by_cases hls : l ≤ s
    · have := h.low k hk l hls hsh
      rw [if_neg (fun h' => by omega)]; exact this
    · obtain rfl : l = s + 1 := by omega
      have h0 : F.getD k 0 < 0 := by
        rcases h.val k hk with h1 | ⟨l', h1, _, h2⟩
        · omega
        · have := h2.uniq hsh
          omega
      obtain ⟨m, hm, hms⟩ := hsh.sh1.next
      have hmn := (edgE_in hv k m hm).2
      obtain ⟨e, he, h1, h2⟩ := edgE_ex.1 hm
      rw [if_pos ⟨h0, List.any_eq_true.2 ⟨e, he, by
        simp only [Bool.and_eq_true, beq_iff_eq]
        exact ⟨h1, by rw [h2, Int.toNat_natCast]; exact h.low m hmn s (Nat.le_refl _) hms⟩⟩⟩]
      omega
theorem farN_ok {xs : List Edge} {n t : Nat} (hv : xs.all (edgeOk (n : Int)) = true) (ht : t < n) : ∀ s, FarOk xs n t s (farN xs s ((List.replicate n (-1)).set t 0))
  | 0 => FarOk.start ht
  | s + 1 => (farN_ok hv ht s).next hv
/-- What the reference's list of lengths says. -/
structure FarD (xs : List Edge) (n t : Nat) (F : List Int) : Prop where
  len : F.length = n
  neg : ∀ k, k < n → F.getD k 0 < 0 → ∀ l, ¬ Sh (edgE xs) t k l
  is : ∀ k, k < n → ∀ l : Nat, F.getD k 0 = (l : Int) ↔ Sh (edgE xs) t k l
theorem farS_d {xs : List Edge} {n t : Nat} (hv : xs.all (edgeOk (n : Int)) = true) (ht : t < n) : FarD xs n t (farS n xs t) := by
  have h := farN_ok hv ht n
  have hl : ∀ k, k < n → ∀ l, Sh (edgE xs) t k l → (farS n xs t).getD k 0 = (l : Int) := fun k hk l hs => h.low k hk l (Nat.le_of_lt (hs.lt (edgE_in hv) ht)) hs
  refine ⟨h.len, fun k hk h0 l hs => by have := hl k hk l hs; omega, fun k hk l => ⟨fun he => ?_, hl k hk l⟩⟩
  rcases h.val k hk with h1 | ⟨l', _, h1, h2⟩
  · unfold farS at he; omega
  · have : l' = l := by unfold farS at he; omega
    rw [← this]; exact h2
theorem bestS_spec {xs : List Edge} {F : List Int} {s : Int} : ∀ (ys : List Edge), 
    ((bestS ys F s = -1 ∨ ∃ e ∈ ys, e.From = s ∧ bestS ys F s = F.getD e.To.toNat 0 ∧ 0 ≤ bestS ys F s) ∧ ∀ e ∈ ys, e.From = s → 0 ≤ F.getD e.To.toNat 0 → 0 ≤ bestS ys F s ∧ bestS ys F s ≤ F.getD e.To.toNat 0) := by
  intro ys
  have H : ∀ k, k ≤ ys.length → ((bestS (ys.take k) F s = -1 ∨ ∃ e ∈ ys.take k, e.From = s ∧ bestS (ys.take k) F s = F.getD e.To.toNat 0 ∧ 0 ≤ bestS (ys.take k) F s) ∧ ∀ e ∈ ys.take k, e.From = s → 0 ≤ F.getD e.To.toNat 0 → 0 ≤ bestS (ys.take k) F s ∧ bestS (ys.take k) F s ≤ F.getD e.To.toNat 0) := by
    intro k
    induction k with
    | zero => intro _; exact ⟨.inl rfl, fun e he => absurd he (by simp)⟩
    | succ k ih =>
      intro hk
      have hlt : k < ys.length := by omega
      obtain ⟨h1, h2⟩ := ih (by omega)
      rw [bestS_succ ys F s k hlt, List.take_succ_eq_append_getElem hlt]
      generalize ys[k] = x
      generalize hb : bestS (ys.take k) F s = b at h1 h2 ⊢
      unfold bestStep
      by_cases hc : x.From = s ∧ 0 ≤ F.getD x.To.toNat 0 ∧ (b < 0 ∨ F.getD x.To.toNat 0 < b)
      · rw [if_pos hc]
        refine ⟨.inr ⟨x, by simp, hc.1, rfl, hc.2.1⟩, fun e he hf h0 => ?_⟩
        rcases List.mem_append.1 he with he | he
        · have := h2 e he hf h0
          rcases hc.2.2 with h3 | h3 <;> omega
        · simp at he
          subst he
          exact ⟨h0, Int.le_refl _⟩
      · rw [if_neg hc]
        refine ⟨?_, fun e he hf h0 => ?_⟩
        · rcases h1 with h1 | ⟨e, he, h3⟩
          · exact .inl h1
          · exact .inr ⟨e, List.mem_append_left _ he, h3⟩
        · rcases List.mem_append.1 he with he | he
          · exact h2 e he hf h0
          · simp at he
            subst he
            rcases Int.lt_or_le b 0 with hb0 | hb0
            · exact absurd ⟨hf, h0, .inl hb0⟩ hc
            · exact ⟨hb0, by
                rcases Int.lt_or_le (F.getD e.To.toNat 0) b with h3 | h3
                · exact absurd ⟨hf, h0, .inr h3⟩ hc
                · exact h3⟩
  have := H ys.length (Nat.le_refl _)
  rwa [List.take_length] at this
/-- The way back to s: best + 1 edges. -/
theorem bestS_sh1 {xs : List Edge} {n s : Nat} (hv : xs.all (edgeOk (n : Int)) = true) (hs : s < n) (b : Nat) : bestS xs (farS n xs s) (s : Int) = (b : Int) ↔ Sh1 (edgE xs) s s (b + 1) := by
  have hF := farS_d hv hs
  obtain ⟨h1, h2⟩ := bestS_spec (xs := xs) (F := farS n xs s) (s := (s : Int)) xs
  have hto : ∀ e ∈ xs, ∃ t : Nat, e.To = (t : Int) ∧ t < n := fun e he => by
    have h3 := List.all_eq_true.1 hv e he
    unfold edgeOk at h3
    simp only [Bool.and_eq_true, inR_iff] at h3
    exact ⟨e.To.toNat, by omega, by omega⟩
  have hup : ∀ m l, edgE xs s m = true → Sh (edgE xs) s m l → 0 ≤ bestS xs (farS n xs s) (s : Int) ∧ bestS xs (farS n xs s) (s : Int) ≤ (l : Int) := fun m l hm hl => by
    obtain ⟨e, he, hf, ht⟩ := edgE_ex.1 hm
    have hmn := (edgE_in hv s m hm).2
    have h3 := (hF.is m hmn l).2 hl
    have := h2 e he hf (by rw [ht, Int.toNat_natCast]; omega)
    rw [ht, Int.toNat_natCast, h3] at this
    exact this
  have hsh : ∀ c : Nat, bestS xs (farS n xs s) (s : Int) = (c : Int) → Sh1 (edgE xs) s s (c + 1) := fun c hc => by
    rcases h1 with h1 | ⟨e, he, hf, hb, h0⟩
    · omega
    · obtain ⟨t, ht, htn⟩ := hto e he
      rw [ht, Int.toNat_natCast] at hb
      have hst := (hF.is t htn c).1 (by omega)
      refine ⟨by omega, ⟨t, edgE_ex.2 ⟨e, he, hf, ht⟩, hst.1⟩, fun l' hl1 hl2 hw => ?_⟩
      obtain ⟨m, rfl⟩ : ∃ m, l' = m + 1 := ⟨l' - 1, by omega⟩
      obtain ⟨y, hy, hwy⟩ := hw
      obtain ⟨l2, h3, h4⟩ := hwy.sh
      have := hup y l2 hy h4
      omega
  refine ⟨hsh b, fun h => ?_⟩
  obtain ⟨m, hm, hms⟩ := h.next
  have h3 := hup m b hm hms
  have h4 := hsh (bestS xs (farS n xs s) (s : Int)).toNat (by omega)
  have := h4.uniq h
  omega
theorem bestS_neg {xs : List Edge} {n s : Nat} (hv : xs.all (edgeOk (n : Int)) = true) (hs : s < n) : bestS xs (farS n xs s) (s : Int) < 0 ↔ ∀ l, ¬ Wk (edgE xs) s (l + 1) s := by
  constructor
  · intro h l hw
    obtain ⟨l', _, h2⟩ := hw.sh1
    obtain ⟨c, rfl⟩ : ∃ c, l' = c + 1 := ⟨l' - 1, by have := h2.1; omega⟩
    have := (bestS_sh1 hv hs c).2 h2
    omega
  · intro h
    rcases Int.lt_or_le (bestS xs (farS n xs s) (s : Int)) 0 with h0 | h0
    · exact h0
    · have := (bestS_sh1 hv hs (bestS xs (farS n xs s) (s : Int)).toNat).1 (by omega)
      exact absurd this.2.1 (h _)
/-- nextS is the least number that serves. -/
theorem nextS_least {F : List Int} {a l many : Int} : ∀ (ys : List Edge), nextS ys F a l many ≤ many ∧ (∀ e ∈ ys, e.From = a → F.getD e.To.toNat 0 = l → nextS ys F a l many ≤ e.To) ∧ (nextS ys F a l many = many ∨ ∃ e ∈ ys, e.From = a ∧ F.getD e.To.toNat 0 = l ∧ nextS ys F a l many = e.To) := by
  intro ys
  have H : ∀ k, k ≤ ys.length → nextS (ys.take k) F a l many ≤ many ∧ (∀ e ∈ ys.take k, e.From = a → F.getD e.To.toNat 0 = l → nextS (ys.take k) F a l many ≤ e.To) ∧ (nextS (ys.take k) F a l many = many ∨ ∃ e ∈ ys.take k, e.From = a ∧ F.getD e.To.toNat 0 = l ∧ nextS (ys.take k) F a l many = e.To) := by
    intro k
    induction k with
    | zero => intro _; exact ⟨Int.le_refl _, fun e he => absurd he (by simp), .inl rfl⟩
    | succ k ih =>
      intro hk
      have hlt : k < ys.length := by omega
      obtain ⟨h1, h2, h3⟩ := ih (by omega)
      rw [nextS_succ ys F a l many k hlt, List.take_succ_eq_append_getElem hlt]
      generalize ys[k] = x
      generalize nextS (ys.take k) F a l many = b at h1 h2 h3 ⊢
      unfold nextStep
      by_cases hc : x.From = a ∧ F.getD x.To.toNat 0 = l
      · rw [if_pos hc]
        refine ⟨by omega, fun e he hf h0 => ?_, ?_⟩
        · rcases List.mem_append.1 he with he | he
          · have := h2 e he hf h0; omega
          · simp at he; subst he; omega
        · by_cases hm : b ≤ x.To
          · rw [Int.min_eq_left hm]
            rcases h3 with h3 | ⟨e, he, h4⟩
            · exact .inl h3
            · exact .inr ⟨e, List.mem_append_left _ he, h4⟩
          · exact .inr ⟨x, by simp, hc.1, hc.2, by omega⟩
      · rw [if_neg hc]
        refine ⟨h1, fun e he hf h0 => ?_, ?_⟩
        · rcases List.mem_append.1 he with he | he
          · exact h2 e he hf h0
          · simp at he; subst he; exact absurd ⟨hf, h0⟩ hc
        · rcases h3 with h3 | ⟨e, he, h4⟩
          · exact .inl h3
          · exact .inr ⟨e, List.mem_append_left _ he, h4⟩
  have := H ys.length (Nat.le_refl _)
  rwa [List.take_length] at this
/-- What the program's list of lengths says. -/
structure FarI (E : Nat → Nat → Bool) (s : Nat) (far : List Int) : Prop where
  len : far.length = 6
  is : ∀ k, k < 6 → ∀ l : Nat, 1 ≤ l → (far.getD k 0 = (l : Int) ↔ Sh1 E s k l)
theorem Bfs.farI {E : Nat → Nat → Bool} {s d : Nat} {st : List Int × List Int} (hE : ∀ i j, E i j = true → i < 6 ∧ j < 6) (hd : 1 ≤ d) (h : Bfs E s st d) (hq : st.2 = []) : FarI E s st.1 :=
  ⟨h.len, fun k hk l hl => ⟨fun he => by
    rcases h.val k hk with h1 | ⟨l', h1, h2⟩
    · omega
    · have : l' = l := by omega
      rw [← this]; exact h2, h.all hE hd hq k hk l⟩⟩
/-- One step of the two ways back. -/
theorem step_eq {xs : List Edge} {n s b l a : Nat} {far : List Int} (hn : n ≤ 6) (hv : xs.all (edgeOk (n : Int)) = true) (hs : s < n) (hI : FarI (edgE xs) s far) (hb : Sh1 (edgE xs) s s (b + 1)) (hl : l + 1 ≤ b) (ha : Sh1 (edgE xs) s a (l + 2)) :
    ∃ m : Nat, m < n ∧ edgE xs a m = true ∧ Sh1 (edgE xs) s m (l + 1) ∧ m ≠ s ∧ nextS xs (farS n xs s) (a : Int) ((l : Int) + 1) (n : Int) = (m : Int) ∧ stepW (edgE xs) far ((l + 1 : Nat) : Int) a = m := by
  have hF := farS_d hv hs
  have hok : ∀ j, edgE xs a j = true → ((farS n xs s).getD j 0 = ((l + 1 : Nat) : Int) ↔ far.getD j 0 = ((l + 1 : Nat) : Int)) := fun j hj => by
    have hjn := (edgE_in hv a j hj).2
    rw [hF.is j hjn (l + 1), hI.is j (by omega) (l + 1) (by omega)]
    refine ⟨Sh.sh1, fun h => h.sh (fun e => ?_)⟩
    subst e
    have := h.uniq hb
    omega
  obtain ⟨m0, hm0, hm0s⟩ := ha.next
  obtain ⟨h1, h2, h3⟩ := nextS_least (F := farS n xs s) (a := (a : Int)) (l := (l : Int) + 1) (many := (n : Int)) xs
  have hm0n := (edgE_in hv a m0 hm0).2
  have hFm0 := (hF.is m0 hm0n (l + 1)).2 hm0s
  have hle : nextS xs (farS n xs s) (a : Int) ((l : Int) + 1) (n : Int) ≤ (m0 : Int) := by
    obtain ⟨e, he, hf, ht⟩ := edgE_ex.1 hm0
    have := h2 e he hf (by rw [ht, Int.toNat_natCast, hFm0]; omega)
    rwa [ht] at this
  rcases h3 with h3 | ⟨e, he, hf, hFe, hne⟩
  · omega
  · have h4 := List.all_eq_true.1 hv e he
    unfold edgeOk at h4
    simp only [Bool.and_eq_true, inR_iff] at h4
    obtain ⟨m, hm⟩ : ∃ m : Nat, e.To = (m : Int) := ⟨e.To.toNat, by omega⟩
    have hmn : m < n := by omega
    have hE : edgE xs a m = true := edgE_ex.2 ⟨e, he, hf, hm⟩
    rw [hm, Int.toNat_natCast] at hFe
    have hsm := (hF.is m hmn (l + 1)).1 (by omega)
    refine ⟨m, hmn, hE, hsm.sh1, fun e' => ?_, by rw [hne, hm], ?_⟩
    · subst e'
      have := hsm.uniq (⟨rfl, fun l' h => absurd h (by omega)⟩ : Sh (edgE xs) m m 0)
      omega
    · unfold stepW
      rw [find_range (m := m) (by omega) (by rw [hE, (hok m hE).1 (by omega)]; simp) (fun j hj => ?_)]
      · rfl
      · cases hEj : edgE xs a j with
        | false => rfl
        | true =>
          cases hq : (far.getD j 0 == ((l + 1 : Nat) : Int)) with
          | false => simp
          | true =>
            rw [beq_iff_eq] at hq
            have h5 := (hok j hEj).2 hq
            obtain ⟨e2, he2, hf2, ht2⟩ := edgE_ex.1 hEj
            have := h2 e2 he2 hf2 (by rw [ht2, Int.toNat_natCast, h5]; omega)
            omega
theorem way_eq {xs : List Edge} {n s b : Nat} {far : List Int} (hn : n ≤ 6) (hv : xs.all (edgeOk (n : Int)) = true) (hs : s < n) (hI : FarI (edgE xs) s far) (hb : Sh1 (edgE xs) s s (b + 1)) : ∀ l a : Nat, l ≤ b → Sh1 (edgE xs) s a (l + 1) →
    wayS xs (farS n xs s) (n : Int) l (a : Int) = wayI (edgE xs) far l a
  | 0, _, _, _ => rfl
  | l + 1, a, hl, ha => by
    obtain ⟨m, _, _, hm, _, h1, h2⟩ := step_eq hn hv hs hI hb hl ha
    rw [wayS, wayI, h1, h2, way_eq hn hv hs hI hb l m (by omega) hm]
/-- The cycle that the program names, by its list of lengths. -/
def backL (E : Nat → Nat → Bool) (far : List Int) (s : Nat) : List Int := (s : Int) :: wayI E far (far.getD s 0 - 1).toNat s
theorem back_eq {xs : List Edge} {n s : Nat} {far : List Int} (hn : n ≤ 6) (hv : xs.all (edgeOk (n : Int)) = true) (hs : s < n) (hI : FarI (edgE xs) s far) (h0 : ¬ bestS xs (farS n xs s) (s : Int) < 0) :
    (s : Int) :: wayS xs (farS n xs s) (n : Int) (bestS xs (farS n xs s) (s : Int)).toNat (s : Int) = backL (edgE xs) far s := by
  obtain ⟨b, hb⟩ : ∃ b : Nat, bestS xs (farS n xs s) (s : Int) = (b : Int) := ⟨(bestS xs (farS n xs s) (s : Int)).toNat, by omega⟩
  have hsh := (bestS_sh1 hv hs b).1 hb
  have hfs := (hI.is s (by omega) (b + 1) (by omega)).2 hsh
  unfold backL
  rw [hb, Int.toNat_natCast, hfs, way_eq hn hv hs hI hsh b s (Nat.le_refl _) hsh, show (((b + 1 : Nat) : Int) - 1).toNat = b by omega]
/-- The first number that has a way back to itself. -/
theorem cycFrom_eq {xs : List Edge} {n : Nat} (hn : n ≤ 6) (hv : xs.all (edgeOk (n : Int)) = true) : ∀ f s, s + f = n → 
    (cycFrom xs n f s = [] ∧ ∀ i, s ≤ i → i < n → ∀ l, ¬ Wk (edgE xs) i (l + 1) i) ∨ ∃ i, s ≤ i ∧ i < n ∧ (∃ l, Wk (edgE xs) i (l + 1) i) ∧ (∀ j, s ≤ j → j < i → ∀ l, ¬ Wk (edgE xs) j (l + 1) j) ∧ ∀ far, FarI (edgE xs) i far → cycFrom xs n f s = backL (edgE xs) far i
  | 0, s, h => .inl ⟨rfl, fun i h1 h2 => absurd h1 (by omega)⟩
  | f + 1, s, h => by
    rw [cycFrom]
    by_cases hc : bestS xs (farS n xs s) (s : Int) < 0
    · rw [if_pos hc]
      have hno := (bestS_neg hv (show s < n by omega)).1 hc
      rcases cycFrom_eq hn hv f (s + 1) (by omega) with ⟨h1, h2⟩ | ⟨i, h1, h2, h3, h4, h5⟩
      · refine .inl ⟨h1, fun i h3 h4 => ?_⟩
        by_cases hi : i = s
        · subst hi; exact hno
        · exact h2 i (by omega) h4
      · refine .inr ⟨i, by omega, h2, h3, fun j hj hji => ?_, h5⟩
        by_cases hjs : j = s
        · subst hjs; exact hno
        · exact h4 j (by omega) hji
    · rw [if_neg hc]
      refine .inr ⟨s, Nat.le_refl _, by omega, ?_, fun j h1 h2 => absurd h1 (by omega), fun far hI => back_eq hn hv (by omega) hI hc⟩
      have := (bestS_sh1 hv (show s < n by omega) (bestS xs (farS n xs s) (s : Int)).toNat).1 (by omega)
      exact ⟨_, this.2.1⟩
end Go.Proofs.YtnlicjgegclilaaDoor
