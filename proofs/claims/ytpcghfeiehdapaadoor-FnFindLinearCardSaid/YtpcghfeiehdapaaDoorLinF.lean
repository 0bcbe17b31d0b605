/- Calls that can be put in order can be without a read, too. -/
import Derived.Test.YtpcghfeiehdapaaDoorLinA
namespace Go.Proofs.YtpcghfeiehdapaaDoor
open Go.RowKit
set_option linter.unusedVariables false
set_option linter.unusedSimpArgs false

def linRun : Int → List Call → Option Int
  | v, [] => some v
  | v, c :: cs => if madeB c v then linRun c.Value cs else none
theorem linRun_app (b : List Call) : ∀ (a : List Call) (v : Int), linRun v (a ++ b) = (linRun v a).bind fun u => linRun u b
  | [], v => rfl
  | c :: a, v => by
    simp only [List.cons_append, linRun]
    split
    · exact linRun_app b a c.Value
    · rfl
theorem linS_run (xs : List Call) (o : List Int) : ∀ k, k ≤ o.length → linS xs o k = linRun 0 ((o.take k).map (callAt xs))
  | 0, _ => rfl
  | k + 1, hk => by
    rw [linS, linS_run xs o k (by omega), List.take_succ_eq_append_getElem (by omega : k < o.length), List.map_append, linRun_app, getD_get (by omega : k < o.length)]
    rfl
theorem linRun_less (a b : List Call) (c : Call) (v : Int) (hk : (c.Kind == 2) = false) (h : (linRun v (a ++ c :: b)).isSome = true) : (linRun v (a ++ b)).isSome = true := by
  rw [linRun_app] at h ⊢
  cases hr : linRun v a with
  | none => rw [hr] at h; exact h
  | some u =>
    rw [hr] at h
    simp only [Option.bind_some, linRun] at h ⊢
    split at h
    · rename_i hm
      unfold madeB at hm
      rw [hk, Bool.false_or, beq_iff_eq] at hm
      rw [hm] at h
      exact h
    · cases h
theorem time_pair (sp : List Span) (o : List Int) : timeB sp o o.length = true ↔ o.Pairwise fun x y => ¬ (spI sp y).To < (spI sp x).From := by
  unfold timeB
  rw [List.all_eq_true, List.pairwise_iff_getElem]
  constructor
  · intro h i j hi hj hij
    have h1 := h j (List.mem_range.2 hj)
    unfold rowT at h1
    rw [List.all_eq_true] at h1
    have h2 := h1 i (List.mem_range.2 hij)
    unfold spAt at h2
    rw [getD_get hi, getD_get hj] at h2
    have h3 : decide ((spI sp o[j]).To < (spI sp o[i]).From) = false := by
      rw [Bool.not_eq_true'] at h2
      exact h2
    exact of_decide_eq_false h3
  · intro h j hj
    have hjl := List.mem_range.1 hj
    unfold rowT
    rw [List.all_eq_true]
    intro i hi
    have hij := List.mem_range.1 hi
    have h1 := h i j (by omega) hjl hij
    unfold spAt
    rw [getD_get (by omega : i < o.length), getD_get hjl]
    have h3 : decide ((spI sp o[j]).To < (spI sp o[i]).From) = false := decide_eq_false h1
    unfold spI at h3
    rw [h3]
    rfl
def ren (l : Nat) (m : Int) : Int := if m < l then m else m - 1
theorem callAt_less (xs : List Call) (l : Nat) (hl : l < xs.length) (m : Int) (h0 : 0 ≤ m) (h1 : m < xs.length) (hne : m ≠ l) : callAt (xs.eraseIdx l) (ren l m) = callAt xs m := by
  obtain ⟨k, rfl⟩ : ∃ k : Nat, m = (k : Int) := ⟨m.toNat, by omega⟩
  unfold ren callAt
  rw [Int.toNat_natCast]
  by_cases hkl : k < l
  · rw [if_pos (by omega), Int.toNat_natCast, List.getD_eq_getElem?_getD, List.getD_eq_getElem?_getD, List.getElem?_eraseIdx_of_lt hkl]
  · rw [if_neg (by omega), List.getD_eq_getElem?_getD, List.getD_eq_getElem?_getD]
    have e : ((k : Int) - 1).toNat = k - 1 := by omega
    rw [e, List.getElem?_eraseIdx_of_ge (by omega)]
    rw [show k - 1 + 1 = k by omega]
theorem whens_less (xs : List Call) (l : Nat) (hl : l < xs.length) (m : Int) (h0 : 0 ≤ m) (h1 : m < xs.length) (hne : m ≠ l) : spI (whens (xs.eraseIdx l)) (ren l m) = spI (whens xs) m := by
  have hw : ∀ (ys : List Call) (n : Int), 0 ≤ n → n < ys.length → spI (whens ys) n = (callAt ys n).When := fun ys n hn hn2 => by
    obtain ⟨k, rfl⟩ : ∃ k : Nat, n = (k : Int) := ⟨n.toNat, by omega⟩
    rw [whens_nat ys k (by omega), callAt_nat ys k (by omega)]
  have hle : (xs.eraseIdx l).length = xs.length - 1 := List.length_eraseIdx_of_lt hl
  have hr : 0 ≤ ren l m ∧ ren l m < ((xs.eraseIdx l).length : Int) := by
    unfold ren
    split <;> omega
  rw [hw _ _ hr.1 hr.2, hw xs m h0 h1, callAt_less xs l hl m h0 h1 hne]
theorem fl_ex {xs : List Call} {o : List Int} (h : linB xs o = true) : (flF xs).isSome = true := by
  have h' := h
  unfold linB at h'
  simp only [Bool.and_eq_true] at h'
  rw [flF_find xs h'.1, List.find?_isSome]
  refine ⟨o, ?_, h⟩
  rw [permsI_eq_E _ _ (nums_nodup _), perms_mem _ _ _ rfl]
  exact (same_iff (nums_nodup _)).1 h'.2.1
theorem fl_less (xs : List Call) (l : Nat) (hl : l < xs.length) (hk : (xs[l].Kind == 2) = false) (h : (flF xs).isSome = true) : (flF (xs.eraseIdx l)).isSome = true := by
  obtain ⟨o, ho⟩ := Option.isSome_iff_exists.1 h
  have hr := flF_right ho
  unfold linB at hr
  simp only [Bool.and_eq_true] at hr
  obtain ⟨hv, hs, hrun, ht⟩ := hr
  have hp := (same_iff (nums_nodup xs.length)).1 hs
  have hin : ∀ x ∈ o, 0 ≤ x ∧ x < xs.length := fun x hx => mem_nums.1 (hp.mem_iff.1 hx)
  have hn : o.Nodup := hp.nodup_iff.2 (nums_nodup _)
  have hlo : (l : Int) ∈ o := hp.mem_iff.2 (mem_nums.2 (by omega))
  obtain ⟨a, b, rfl⟩ := List.append_of_mem hlo
  have hnl : ∀ x ∈ a ++ b, x ≠ (l : Int) := fun x hx e => by
    subst e
    have h1 := List.nodup_append.1 hn
    rcases List.mem_append.1 hx with hx | hx
    · exact h1.2.2 _ hx _ (by simp) rfl
    · exact (List.nodup_cons.1 h1.2.1).1 hx
  have hsub : (a ++ b).Sublist (a ++ (l : Int) :: b) := List.Sublist.append (List.Sublist.refl a) (List.sublist_cons_self _ _)
  have hinab : ∀ x ∈ a ++ b, 0 ≤ x ∧ x < xs.length := fun x hx => hin x (hsub.subset hx)
  have hle : (xs.eraseIdx l).length = xs.length - 1 := List.length_eraseIdx_of_lt hl
  refine fl_ex (o := (a ++ b).map (ren l)) ?_
  have hnd : ((a ++ b).map (ren l)).Nodup := by
    rw [List.nodup_iff_pairwise_ne, List.pairwise_map]
    have h1 : (a ++ b).Nodup := hsub.nodup hn
    rw [List.nodup_iff_pairwise_ne] at h1
    refine h1.imp_of_mem fun {x y} hx hy hne => ?_
    have h2 := hnl x hx
    have h3 := hnl y hy
    unfold ren
    split <;> split <;> omega
  have hlen : ((a ++ b).map (ren l)).length = xs.length - 1 := by
    have h1 := hp.length_eq
    rw [nums_len, List.length_append, List.length_cons] at h1
    rw [List.length_map, List.length_append]
    omega
  unfold linB
  simp only [Bool.and_eq_true]
  refine ⟨?_, (same_iff (nums_nodup _)).2 (perm_of _ _ hnd (fun x hx => ?_) (by rw [hlen, nums_len, hle])), ?_, ?_⟩
  · unfold callsV at hv ⊢
    rw [Bool.and_eq_true, decide_eq_true_iff, List.all_eq_true] at hv ⊢
    exact ⟨by omega, fun x hx => hv.2 x (List.mem_of_mem_eraseIdx hx)⟩
  · obtain ⟨m, hm, rfl⟩ := List.mem_map.1 hx
    have h1 := hinab m hm
    have h2 := hnl m hm
    rw [mem_nums, hle]
    unfold ren
    split <;> omega
  · rw [linS_run _ _ _ (Nat.le_refl _), List.take_length, List.map_map]
    rw [linS_run _ _ _ (Nat.le_refl _), List.take_length, List.map_append, List.map_cons, callAt_nat xs l hl] at hrun
    have h1 := linRun_less _ _ _ 0 hk hrun
    rw [← List.map_append] at h1
    have h2 : (a ++ b).map (callAt (xs.eraseIdx l) ∘ ren l) = (a ++ b).map (callAt xs) := List.map_congr_left fun x hx => callAt_less xs l hl x (hinab x hx).1 (hinab x hx).2 (hnl x hx)
    rw [h2]
    exact h1
  · rw [time_pair] at ht ⊢
    rw [List.pairwise_map]
    refine (ht.sublist hsub).imp_of_mem fun {x y} hx hy h1 => ?_
    rw [whens_less xs l hl x (hinab x hx).1 (hinab x hx).2 (hnl x hx), whens_less xs l hl y (hinab y hy).1 (hinab y hy).2 (hnl y hy)]
    exact h1
end Go.Proofs.YtpcghfeiehdapaaDoor
