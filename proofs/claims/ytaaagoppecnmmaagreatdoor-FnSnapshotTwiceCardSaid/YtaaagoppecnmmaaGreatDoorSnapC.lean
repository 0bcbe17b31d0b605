/- The cells of the state between transactions that see what was committed when they began. -/
import Derived.Test.YtaaagoppecnmmaaGreatDoorSnapN
import Derived.Test.YtaaagoppecnmmaaGreatDoorFollow
import Derived.Test.YtaaagoppecnmmaaGreatDoorSearchM
namespace Go.Proofs.YtaaagoppecnmmaaGreatDoor
open Go.RowKit
set_option linter.unusedVariables false
set_option linter.unusedSimpArgs false

def sF (S : SS) (bg cm : Nat) (i : Nat) : Value :=
  if i < 3 then .int .i64 (S.val i) else if i < 6 then .int .i64 (S.ver (i - 3 : Nat)) else if i < 24 then .int .i64 (S.beg ((i - 6) / 3 : Nat) ((i - 6) % 3 : Nat)) else if i = 24 then .int .u64 bg else .int .u64 cm
def snapC (S : SS) (bg cm : Nat) : Array Value := Array.ofFn (n := 26) fun i => sF S bg cm i
theorem snapC_get (S : SS) (bg cm i : Nat) (hi : i < 26) : (snapC S bg cm)[i]? = some (sF S bg cm i) := by
  unfold snapC
  rw [Array.getElem?_ofFn, dif_pos hi]
theorem snapC_ext {S S' : SS} {bg cm bg' cm' i : Nat} {v : Value} (hi : i < 26) (h : ∀ j, j < 26 → (if j = i then v else sF S bg cm j) = sF S' bg' cm' j) : (snapC S bg cm).setIfInBounds i v = snapC S' bg' cm' := by
  apply Array.ext
  · simp [snapC]
  · intro j h1 h2
    have hj : j < 26 := by simpa [snapC] using h2
    have e := h j hj
    rw [Array.getElem_setIfInBounds (by simpa [snapC] using hj)]
    simp only [snapC, Array.getElem_ofFn]
    by_cases hij : i = j
    · subst hij; rw [if_pos rfl]; rw [if_pos rfl] at e; exact e
    · rw [if_neg hij]; rw [if_neg (fun e => hij e.symm)] at e; exact e
theorem snapC_val (S : SS) (bg cm : Nat) (key v : Int) (h : key = 0 ∨ key = 1 ∨ key = 2) : (snapC S bg cm).setIfInBounds key.toNat (.int .i64 v) = snapC ⟨S.val.put key v, S.ver, S.beg, S.seen⟩ bg cm := by
  refine snapC_ext (by omega) fun j hj => ?_
  unfold sF St.put
  by_cases hjk : j = key.toNat
  · rw [if_pos hjk, if_pos (by omega)]; dsimp only; rw [if_pos (by omega)]
  · rw [if_neg hjk]
    by_cases h3 : j < 3
    · rw [if_pos h3, if_pos h3]; dsimp only; rw [if_neg (by omega)]
    · rw [if_neg h3, if_neg h3]
theorem snapC_ver (S : SS) (bg cm : Nat) (key v : Int) (h : key = 0 ∨ key = 1 ∨ key = 2) : (snapC S bg cm).setIfInBounds (3 + key.toNat) (.int .i64 v) = snapC ⟨S.val, S.ver.put key v, S.beg, S.seen⟩ bg cm := by
  refine snapC_ext (by omega) fun j hj => ?_
  unfold sF St.put
  by_cases hjk : j = 3 + key.toNat
  · rw [if_pos hjk, if_neg (by omega), if_pos (by omega)]; dsimp only; rw [if_pos (by omega)]
  · rw [if_neg hjk]
    by_cases h3 : j < 3
    · rw [if_pos h3, if_pos h3]
    · rw [if_neg h3, if_neg h3]
      by_cases h6 : j < 6
      · rw [if_pos h6, if_pos h6]; dsimp only; rw [if_neg (by omega)]
      · rw [if_neg h6, if_neg h6]
theorem snapC_beg (S : SS) (bg cm n : Nat) (u : St) (hn : n < 6) :
    (((snapC S bg cm).setIfInBounds (6 + n * 3) (.int .i64 (u 0))).setIfInBounds (6 + n * 3 + 1) (.int .i64 (u 1))).setIfInBounds (6 + n * 3 + 2) (.int .i64 (u 2)) = snapC ⟨S.val, S.ver, fun m => if m = (n : Int) then u else S.beg m, S.seen⟩ bg cm := by
  apply Array.ext
  · simp [snapC]
  · intro j h1 h2
    have hj : j < 26 := by simpa [snapC] using h2
    rw [Array.getElem_setIfInBounds (by simpa [snapC] using hj), Array.getElem_setIfInBounds (by simpa [snapC] using hj), Array.getElem_setIfInBounds (by simpa [snapC] using hj)]
    simp only [snapC, Array.getElem_ofFn]
    unfold sF
    by_cases h3 : j < 3
    · rw [if_neg (by omega), if_neg (by omega), if_neg (by omega)]; simp only [if_pos h3]
    · by_cases h6 : j < 6
      · rw [if_neg (by omega), if_neg (by omega), if_neg (by omega)]; simp only [if_neg h3, if_pos h6]
      · by_cases h24 : j < 24
        · simp only [if_neg h3, if_neg h6, if_pos h24]
          by_cases hm : (((j - 6) / 3 : Nat) : Int) = (n : Int)
          · have hd : (j - 6) / 3 = n := by omega
            rw [if_pos hm]
            have hmod := Nat.div_add_mod (j - 6) 3
            have hlt := Nat.mod_lt (j - 6) (show 3 > 0 by decide)
            rw [hd] at hmod
            rcases (show (j - 6) % 3 = 0 ∨ (j - 6) % 3 = 1 ∨ (j - 6) % 3 = 2 by omega) with h | h | h
            · rw [if_neg (by omega), if_neg (by omega), if_pos (by omega), h]; rfl
            · rw [if_neg (by omega), if_pos (by omega), h]; rfl
            · rw [if_pos (by omega), h]; rfl
          · rw [if_neg hm]
            have hd : (j - 6) / 3 ≠ n := fun e => hm (by rw [e])
            have hmod := Nat.div_add_mod (j - 6) 3
            have hlt := Nat.mod_lt (j - 6) (show 3 > 0 by decide)
            rw [if_neg (by omega), if_neg (by omega), if_neg (by omega)]
        · rw [if_neg (by omega), if_neg (by omega), if_neg (by omega)]
          simp only [if_neg h3, if_neg h6, if_neg h24]
theorem snapC_bg (S : SS) (bg cm bg' : Nat) : (snapC S bg cm).setIfInBounds 24 (.int .u64 bg') = snapC S bg' cm := by
  refine snapC_ext (by omega) fun j hj => ?_
  unfold sF
  by_cases h : j = 24
  · subst h; rfl
  · rw [if_neg h]; simp only [if_neg h]
theorem snapC_cm (S : SS) (bg cm cm' : Nat) : (snapC S bg cm).setIfInBounds 25 (.int .u64 cm') = snapC S bg cm' := by
  refine snapC_ext (by omega) fun j hj => ?_
  unfold sF
  by_cases h : j = 25
  · subst h; rfl
  · rw [if_neg h]
    by_cases h3 : j < 3
    · rw [if_pos h3, if_pos h3]
    · rw [if_neg h3, if_neg h3]
      by_cases h6 : j < 6
      · rw [if_pos h6, if_pos h6]
      · rw [if_neg h6, if_neg h6]
        by_cases h24 : j < 24
        · rw [if_pos h24, if_pos h24]
        · rw [if_neg h24, if_neg h24, if_pos (by omega), if_pos (by omega)]
theorem sF_val (S : SS) (bg cm : Nat) (key : Int) (h : key = 0 ∨ key = 1 ∨ key = 2) : sF S bg cm key.toNat = .int .i64 (S.val key) := by
  unfold sF
  rw [if_pos (by omega), Int.toNat_of_nonneg (by omega)]
theorem sF_ver (S : SS) (bg cm : Nat) (key : Int) (h : key = 0 ∨ key = 1 ∨ key = 2) : sF S bg cm (3 + key.toNat) = .int .i64 (S.ver key) := by
  unfold sF
  rw [if_neg (by omega), if_pos (by omega), show (((3 + key.toNat - 3 : Nat)) : Int) = key by omega]
theorem sF_beg (S : SS) (bg cm n : Nat) (key : Int) (hn : n < 6) (h : key = 0 ∨ key = 1 ∨ key = 2) : sF S bg cm (6 + n * 3 + key.toNat) = .int .i64 (S.beg n key) := by
  unfold sF
  rw [if_neg (by omega), if_neg (by omega), if_pos (by omega), show (6 + n * 3 + key.toNat - 6) / 3 = n by omega, show (((6 + n * 3 + key.toNat - 6) % 3 : Nat) : Int) = key by omega]
/-! ### Bits -/
theorem and_bit0 : ∀ a : Nat, a < 64 → ∀ n : Nat, n < 6 → (bits .and .u64 (a : Int) ((2 ^ n : Nat) : Int) == 0) = !a.testBit n := by decide +kernel
theorem and_bit (a n : Nat) (ha : a < 64) (hn : n < 6) : (bits .and .u64 (a : Int) (IntKind.u64.wrap (2 ^ n)) == 0) = !a.testBit n := by
  rw [shl1 n hn]; exact and_bit0 a ha n hn
def Bits1 (bg : Nat) (seen : List Int) : Prop := bg < 64 ∧ ∀ j : Nat, bg.testBit j = decide (1 ≤ seen.count (j : Int))
def Bits2 (cm : Nat) (seen : List Int) : Prop := cm < 64 ∧ ∀ j : Nat, cm.testBit j = decide (2 ≤ seen.count (j : Int))
theorem count_snoc (seen : List Int) (n m : Int) : (seen ++ [n]).count m = seen.count m + (if m = n then 1 else 0) := by
  rw [List.count_append]
  congr 1
  by_cases h : m = n
  · subst h; simp
  · rw [if_neg h]; exact List.count_eq_zero.2 (by simpa using h)
theorem Bits1.first {bg : Nat} {seen : List Int} (h : Bits1 bg seen) (n : Nat) (hn : n < 6) : Bits1 (bg ||| 2 ^ n) (seen ++ [(n : Int)]) := by
  refine ⟨Nat.or_lt_two_pow (n := 6) h.1 (pow6 hn), fun j => ?_⟩
  rw [Nat.testBit_or, h.2 j, Nat.testBit_two_pow, count_snoc, Bool.eq_iff_iff]
  simp only [Bool.or_eq_true, decide_eq_true_eq]
  by_cases hjn : j = n
  · subst hjn; simp
  · rw [if_neg (by omega)]; omega
theorem Bits1.more {bg : Nat} {seen : List Int} (h : Bits1 bg seen) (n : Nat) (h1 : 1 ≤ seen.count (n : Int)) : Bits1 bg (seen ++ [(n : Int)]) := by
  refine ⟨h.1, fun j => ?_⟩
  rw [h.2 j, count_snoc, Bool.eq_iff_iff]
  simp only [decide_eq_true_eq]
  by_cases hjn : j = n
  · subst hjn; rw [if_pos rfl]; omega
  · rw [if_neg (by omega)]; omega
theorem Bits2.first {cm : Nat} {seen : List Int} (h : Bits2 cm seen) (n : Nat) (h0 : seen.count (n : Int) = 0) : Bits2 cm (seen ++ [(n : Int)]) := by
  refine ⟨h.1, fun j => ?_⟩
  rw [h.2 j, count_snoc, Bool.eq_iff_iff]
  simp only [decide_eq_true_eq]
  by_cases hjn : j = n
  · subst hjn; rw [if_pos rfl]; omega
  · rw [if_neg (by omega)]; omega
theorem Bits2.more {cm : Nat} {seen : List Int} (h : Bits2 cm seen) (n : Nat) (hn : n < 6) (h1 : seen.count (n : Int) = 1) : Bits2 (cm ||| 2 ^ n) (seen ++ [(n : Int)]) := by
  refine ⟨Nat.or_lt_two_pow (n := 6) h.1 (pow6 hn), fun j => ?_⟩
  rw [Nat.testBit_or, h.2 j, Nat.testBit_two_pow, count_snoc, Bool.eq_iff_iff]
  simp only [Bool.or_eq_true, decide_eq_true_eq]
  by_cases hjn : j = n
  · subst hjn; rw [if_pos rfl]; omega
  · rw [if_neg (by omega)]; omega
theorem Bits1.zero : Bits1 0 [] := ⟨by decide, fun j => by simp⟩
theorem Bits2.zero : Bits2 0 [] := ⟨by decide, fun j => by simp⟩
theorem comm_take (b : St) (l : List Op) (k : Nat) (hk : k < l.length) (s : St × St) : comm b (l.take (k + 1)) s = (comm b (l.take k) s).bind fun q => if q.2 l[k].Key = b l[k].Key then some (q.1.put l[k].Key l[k].Value, q.2.put l[k].Key (q.2 l[k].Key + 1)) else none := by
  rw [List.take_succ_eq_append_getElem hk, comm_append]
  cases comm b (l.take k) s with
  | none => rfl
  | some q => simp only [Option.bind_some, comm]
theorem comm_stop (b : St) (l : List Op) (k : Nat) (hk : k < l.length) (s q : St × St) (h : comm b (l.take k) s = some q) (hne : q.2 l[k].Key ≠ b l[k].Key) : comm b l s = none := by
  have e : l.take k ++ l[k] :: l.drop (k + 1) = l := by rw [← List.drop_eq_getElem_cons hk, List.take_append_drop]
  rw [← e, comm_append, h]
  simp only [Option.bind_some, comm, if_neg hne]
theorem fit_take (v : St) (l : List Op) (k : Nat) (hk : k < l.length) (h : readsFit v (l.take k) = true) (hp : (v l[k].Key == l[k].Value) = true) : readsFit v (l.take (k + 1)) = true := by
  unfold readsFit at h ⊢
  rw [List.take_succ_eq_append_getElem hk, List.all_append, h]
  simp [hp]
theorem fit_stop (v : St) (l : List Op) (k : Nat) (hk : k < l.length) (hp : (v l[k].Key == l[k].Value) = false) : readsFit v l = false := by
  unfold readsFit
  rw [List.all_eq_false]
  exact ⟨_, List.getElem_mem hk, by simp [hp]⟩
theorem lastWs_mem {ops : List Op} {o : Op} (h : o ∈ lastWs ops) : o ∈ ops := by
  unfold lastWs at h
  simp only [List.mem_append, Option.mem_toList] at h
  rcases h with (h | h) | h <;> exact (lastW_some h).1
theorem firstRs_mem {ops : List Op} : ∀ {k : Nat} {o : Op}, o ∈ firstRs ops k → o ∈ ops
  | 0, o, h => by cases h
  | k + 1, o, h => by
    rw [firstRs, List.mem_append] at h
    rcases h with h | h
    · exact firstRs_mem h
    · split at h
      · rename_i q hq
        split at h
        · rw [List.mem_singleton.1 h]; exact List.mem_of_getElem? hq
        · cases h
      · cases h
end Go.Proofs.YtaaagoppecnmmaaGreatDoor
