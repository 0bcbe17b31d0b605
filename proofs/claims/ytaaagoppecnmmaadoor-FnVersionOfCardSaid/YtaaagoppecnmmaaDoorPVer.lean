/- The law FnVersionOf: versions are places. -/
import Derived.Test.YtaaagoppecnmmaaDoorDrawOr
import Derived.Test.YtaaagoppecnmmaaDoorVerO
namespace Go.Proofs.YtaaagoppecnmmaaDoor
open Go.RowKit
set_option linter.unusedVariables false
set_option linter.unusedSimpArgs false

theorem idx_at7 {α : Type} (p : α → Bool) : ∀ (xs : List α) (i : Nat) (h : i < xs.length), idx p xs = (i : Int) → p xs[i] = true
  | x :: xs, i, h, he => by
    cases hx : p x with
    | true =>
      simp only [idx, hx, if_true] at he
      obtain rfl : i = 0 := by omega
      exact hx
    | false =>
      simp only [idx, hx, Bool.false_eq_true, if_false] at he
      cases hi : idx p xs with
      | ofNat n =>
        rw [hi] at he
        obtain rfl : i = n + 1 := by simp only [Int.ofNat_eq_natCast] at he; omega
        have := idx_at7 p xs n (by simpa using h) (by rw [hi]; rfl)
        simpa using this
      | negSucc n =>
        rw [hi] at he
        simp only at he
        omega
theorem ver_facts {xs : List Txn} {os : List (List Int)} {key val : Int} (h0 : 0 ≤ verO xs os key val) : os.length = 3 ∧ 0 ≤ key ∧ key ≤ 2 ∧ ∃ n : Nat, verO xs os key val = (n : Int) ∧ n ≤ (os.getD key.toNat []).length ∧ ((n = 0 ∧ val = 0) ∨ (0 < n ∧ (os.getD key.toNat [])[n - 1]? = some val)) := by
  unfold verO at h0 ⊢
  split at h0
  · rename_i hc
    rw [Bool.and_eq_true] at hc
    have hk := inR_iff.1 hc.2
    refine ⟨ord_len hc.1, hk.1, hk.2, ?_⟩
    rw [if_pos (by rw [Bool.and_eq_true]; exact hc)]
    generalize os.getD key.toNat [] = o at h0 ⊢
    unfold verN7 at h0 ⊢
    split
    · rename_i hz
      exact ⟨0, rfl, Nat.zero_le _, .inl ⟨rfl, hz⟩⟩
    · rename_i hz
      rw [if_neg hz] at h0
      split at h0
      · rename_i hi
        rcases idx_lt7 (fun y => val == y) o with h1 | ⟨i, hi2, h1⟩
        · rw [h1] at hi; exact absurd hi (by decide)
        · rw [h1]
          rw [if_pos (by omega)]
          refine ⟨i + 1, by omega, hi2, .inr ⟨by omega, ?_⟩⟩
          have h2 : val = o[i] := by
            have := idx_at7 (fun y => val == y) o i hi2 h1
            simpa using this
          rw [Nat.add_sub_cancel, List.getElem?_eq_getElem hi2, h2]
      · exact absurd h0 (by decide)
  · exact absurd h0 (by decide)
set_option maxRecDepth 10000 in
set_option maxHeartbeats 4000000 in
theorem lawFnVer (bs : List Int) (A : Option Addr) (c : Nat) (w : World) (hm : bs.length ≤ maxLen) (hc : bs.length ≤ c) (hcm : c ≤ maxLen) (hA : Row tByte w (Old w) A bs) :
    Calls Tryd.prog 10 #[.slice A bs.length c] w fun e w' => e = .returned (.bool true) ∧ Below w.heap.size w w' := by
  have hq : bs.length ≤ 9223372036854775807 := by simpa [maxLen] using hm
  by_cases hl : bs.length ≤ 1048576
  · have HD := hide (drawVersionOf bs A c w hl hc hcm hA)
    clear hA
    go_enter Tryd.func10, Tryd.ntmps10
    go_wp2_with fail
    refine HD.out.mono ?_
    rintro e w1 ⟨xs, os, v, u, key, val, rfl, hS, hol, hoo, ho, hu, hb1⟩
    have HB1 := hide hb1
    clear hb1 HD
    obtain ⟨Ax, cx, rfl, hlex, hcmx, hrx⟩ := ho.oldE
    have Hx1 := hide hrx
    clear hrx ho
    obtain ⟨Ay, cy, rfl, hley, hcmy, hry⟩ := hu.oldE
    have Hy1 := hide hry
    clear hry hu
    obtain ⟨hxm, hx20, hxo, hxn⟩ := hS.le
    have hom : os.length ≤ 1048576 := by omega
    have HOo := hide hoo
    have hso : ∀ o ∈ os, o.length ≤ 1048576 := fun o ho => by have := HOo.out o ho; omega
    have HSo := hide hso
    clear hoo hso
    go_wp2_with fail
    refine (implVersionOf xs os key val _ _ _ _ w1 hxm hom HSo.out Hx1.out Hy1.out).mono ?_
    rintro e w2 ⟨rfl, hb⟩
    have Hx2 := hide (Hx1.out.old hb)
    have Hy2 := hide (Hy1.out.old hb)
    have HB2 := hide (HB1.out.trans (hb.mono HB1.out.size))
    clear hb HB1 Hx1 Hy1
    go_wp2_with fail
    refine (specVersionOf xs os key val _ _ _ _ w2 hxm hxo hom HSo.out Hx2.out Hy2.out).mono ?_
    rintro e w3 ⟨rfl, hb⟩
    have Hx3 := hide (Hx2.out.old hb)
    have Hy3 := hide (Hy2.out.old hb)
    have HB3 := hide (HB2.out.trans (hb.mono HB2.out.size))
    clear hb HB2 Hx2 Hy2
    by_cases h0 : 0 ≤ verO xs os key val
    · skip
      obtain ⟨hl3, hk0, hk2, n, hn, hnl, hor⟩ := ver_facts h0
      obtain ⟨m, rfl⟩ : ∃ m : Nat, key = (m : Int) := ⟨key.toNat, by omega⟩
      have hml : m < os.length := by omega
      obtain ⟨b, off, Ak, ck, hAe, _, c0, hck, _, hrk⟩ := at_IntS Hy3.out (Below.refl _ _) hml
      have hge : os.getD (m : Int).toNat [] = os[m] := by rw [Int.toNat_natCast, List.getD_eq_getElem?_getD, List.getElem?_eq_getElem hml]; rfl
      rw [hge] at hnl hor
      have hl12 := HOo.out _ (List.getElem_mem hml)
      have HRk := hide hrk
      obtain ⟨lk, hlk⟩ : ∃ l, l = os[m].length := ⟨_, rfl⟩
      rw [← hlk] at c0 hnl hl12 hck
      have HLk := hide hlk
      have hmi : (m : Int) < (os.length : Int) := by omega
      have hmi0 : (0 : Int) ≤ (m : Int) := by omega
      have hni : ¬ ((n : Int) > (lk : Int)) := by omega
      subst hAe
      rw [hn]
      clear h0 hn hge hrk hlk hk0 hk2
      rcases hor with ⟨rfl, rfl⟩ | ⟨hn0, hnv⟩
      · skip
        clear hni
        go_wp2_with fail
        go_ret
        exact ⟨rfl, HB3.out⟩
      · skip
        obtain ⟨q, rfl⟩ : ∃ q : Nat, n = q + 1 := ⟨n - 1, by omega⟩
        rw [Nat.add_sub_cancel] at hnv
        have hql : q < os[m].length := (List.getElem?_eq_some_iff.1 hnv).1
        have hqv := (List.getElem?_eq_some_iff.1 hnv).2
        obtain ⟨b2, off2, hAk, _, d0⟩ := at_Int HRk.out (Below.refl _ _) hql
        rw [hqv] at d0
        subst hAk
        have hvv : (val == val) = true := by simp
        have hqi : (q : Int) < (lk : Int) := by omega
        clear hnv hqv hni hn0
        go_wp2_with fail
        go_ret
        exact ⟨rfl, HB3.out⟩
    · skip
      have hm1 : verO xs os key val = -1 := by
        unfold verO verN7 at h0 ⊢
        split
        · rename_i hc
          rw [if_pos hc] at h0
          split
          · rename_i hz; rw [if_pos hz] at h0; exact absurd (Int.le_refl 0) h0
          · rename_i hz
            rw [if_neg hz] at h0
            split
            · rename_i hi; rw [if_pos hi] at h0; exact absurd (by omega) h0
            · rfl
        · rfl
      rw [hm1]
      clear h0 hm1
      go_wp2_with fail
      refine (alive_any _).mono ?_
      rintro e w4 ⟨rfl, hb⟩
      have Hx4 := hide (Hx3.out.old hb)
      have Hy4 := hide (Hy3.out.old hb)
      have HB4 := hide (HB3.out.trans (hb.mono HB3.out.size))
      clear hb HB3 Hx3 Hy3
      go_wp2_with fail
      go_ret
      exact ⟨rfl, HB4.out⟩
  · clear hA
    go_enter Tryd.func10, Tryd.ntmps10
    go_wp2_with fail
    go_ret
    exact ⟨rfl, Below.refl _ _⟩
end Go.Proofs.YtaaagoppecnmmaaDoor
