/- The cells of the state between transactions that see what was committed when they began. The program's snapshots.next. The program's SnapshotRight. The reference's l13Runs. The reference's SnapshotRight. -/
import Derived.Test.YtkcobaimcfggjaaGreatDoorSnapN
import Derived.Test.YtkcobaimcfggjaaGreatDoorFollow
import Derived.Test.YtkcobaimcfggjaaGreatDoorSearchM
import Derived.Test.YtkcobaimcfggjaaGreatDoorFirstI
import Derived.Test.YtkcobaimcfggjaaGreatDoorBadJ
import Derived.BigQuiet
namespace Go.Proofs.YtkcobaimcfggjaaGreatDoor
open Go.RowKit Go.Maps
set_option linter.unusedVariables false
set_option linter.unusedSimpArgs false

def sF (S : SS) (bg cm : Nat) (i : Nat) : Value :=
  if i < 3 then .int .i64 (S.val i) else if i < 6 then .int .i64 (S.ver (i - 3 : Nat)) else if i < 24 then .int .i64 (S.beg ((i - 6) / 3 : Nat) ((i - 6) % 3 : Nat)) else if i = 24 then .int .u64 bg else .int .u64 cm
def snapC (S : SS) (bg cm : Nat) : Array Value := Array.ofFn (n := 26) fun i => sF S bg cm i
theorem snapC_get (S : SS) (bg cm i : Nat) (hi : i < 26) : (snapC S bg cm)[i]? = some (sF S bg cm i) := by
  unfold snapC
  rw [Array.getElem?_ofFn, dif_pos hi]
theorem snapC_ext {S S' : SS} {bg cm bg' cm' i : Nat} {v : Value} (hi : i < 26) (h : ∀ j, j < 26 → (if j = i then v else sF S bg cm j) = sF S' bg' cm' j) : (snapC S bg cm).setIfInBounds i v = snapC S' bg' cm' := by
  apply Array.ext
  · simp [snapC]
  · intro j h1 h2
    have hj : j < 26 := by simpa [snapC] using h2
    have e := h j hj
    rw [Array.getElem_setIfInBounds (by simpa [snapC] using hj)]
    simp only [snapC, Array.getElem_ofFn]
    by_cases hij : i = j
    · subst hij; rw [if_pos rfl]; rw [if_pos rfl] at e; exact e
    · rw [if_neg hij]; rw [if_neg (fun e => hij e.symm)] at e; exact e
theorem snapC_val (S : SS) (bg cm : Nat) (key v : Int) (h : key = 0 ∨ key = 1 ∨ key = 2) : (snapC S bg cm).setIfInBounds key.toNat (.int .i64 v) = snapC ⟨S.val.put key v, S.ver, S.beg, S.seen⟩ bg cm := by
  refine snapC_ext (by omega) fun j hj => ?_
  unfold sF St.put
  by_cases hjk : j = key.toNat
  · rw [if_pos hjk, if_pos (by omega)]; dsimp only; rw [if_pos (by omega)]
  · rw [if_neg hjk]
    by_cases h3 : j < 3
    · rw [if_pos h3, if_pos h3]; dsimp only; rw [if_neg (by omega)]
    · rw [if_neg h3, if_neg h3]
theorem snapC_ver (S : SS) (bg cm : Nat) (key v : Int) (h : key = 0 ∨ key = 1 ∨ key = 2) : (snapC S bg cm).setIfInBounds (3 + key.toNat) (.int .i64 v) = snapC ⟨S.val, S.ver.put key v, S.beg, S.seen⟩ bg cm := by
  refine snapC_ext (by omega) fun j hj => ?_
  unfold sF St.put
  by_cases hjk : j = 3 + key.toNat
  · rw [if_pos hjk, if_neg (by omega), if_pos (by omega)]; dsimp only; rw [if_pos (by omega)]
  · rw [if_neg hjk]
    by_cases h3 : j < 3
    · rw [if_pos h3, if_pos h3]
    · rw [if_neg h3, if_neg h3]
      by_cases h6 : j < 6
      · rw [if_pos h6, if_pos h6]; dsimp only; rw [if_neg (by omega)]
      · rw [if_neg h6, if_neg h6]
theorem snapC_beg (S : SS) (bg cm n : Nat) (u : St) (hn : n < 6) :
    (((snapC S bg cm).setIfInBounds (6 + n * 3) (.int .i64 (u 0))).setIfInBounds (6 + n * 3 + 1) (.int .i64 (u 1))).setIfInBounds (6 + n * 3 + 2) (.int .i64 (u 2)) = snapC ⟨S.val, S.ver, fun m => if m = (n : Int) then u else S.beg m, S.seen⟩ bg cm := by
  apply Array.ext
  · simp [snapC]
  · intro j h1 h2
    have hj : j < 26 := by simpa [snapC] using h2
    rw [Array.getElem_setIfInBounds (by simpa [snapC] using hj), Array.getElem_setIfInBounds (by simpa [snapC] using hj), Array.getElem_setIfInBounds (by simpa [snapC] using hj)]
    simp only [snapC, Array.getElem_ofFn]
    unfold sF
    by_cases h3 : j < 3
    · rw [if_neg (by omega), if_neg (by omega), if_neg (by omega)]; simp only [if_pos h3]
    · by_cases h6 : j < 6
      · rw [if_neg (by omega), if_neg (by omega), if_neg (by omega)]; simp only [if_neg h3, if_pos h6]
      · by_cases h24 : j < 24
        · simp only [if_neg h3, if_neg h6, if_pos h24]
          by_cases hm : (((j - 6) / 3 : Nat) : Int) = (n : Int)
          · have hd : (j - 6) / 3 = n := by omega
            rw [if_pos hm]
            have hmod := Nat.div_add_mod (j - 6) 3
            have hlt := Nat.mod_lt (j - 6) (show 3 > 0 by decide)
            rw [hd] at hmod
            rcases (show (j - 6) % 3 = 0 ∨ (j - 6) % 3 = 1 ∨ (j - 6) % 3 = 2 by omega) with h | h | h
            · rw [if_neg (by omega), if_neg (by omega), if_pos (by omega), h]; rfl
            · rw [if_neg (by omega), if_pos (by omega), h]; rfl
            · rw [if_pos (by omega), h]; rfl
          · rw [if_neg hm]
            have hd : (j - 6) / 3 ≠ n := fun e => hm (by rw [e])
            have hmod := Nat.div_add_mod (j - 6) 3
            have hlt := Nat.mod_lt (j - 6) (show 3 > 0 by decide)
            rw [if_neg (by omega), if_neg (by omega), if_neg (by omega)]
        · rw [if_neg (by omega), if_neg (by omega), if_neg (by omega)]
          simp only [if_neg h3, if_neg h6, if_neg h24]
theorem snapC_bg (S : SS) (bg cm bg' : Nat) : (snapC S bg cm).setIfInBounds 24 (.int .u64 bg') = snapC S bg' cm := by
  refine snapC_ext (by omega) fun j hj => ?_
  unfold sF
  by_cases h : j = 24
  · subst h; rfl
  · rw [if_neg h]; simp only [if_neg h]
theorem snapC_cm (S : SS) (bg cm cm' : Nat) : (snapC S bg cm).setIfInBounds 25 (.int .u64 cm') = snapC S bg cm' := by
  refine snapC_ext (by omega) fun j hj => ?_
  unfold sF
  by_cases h : j = 25
  · subst h; rfl
  · rw [if_neg h]
    by_cases h3 : j < 3
    · rw [if_pos h3, if_pos h3]
    · rw [if_neg h3, if_neg h3]
      by_cases h6 : j < 6
      · rw [if_pos h6, if_pos h6]
      · rw [if_neg h6, if_neg h6]
        by_cases h24 : j < 24
        · rw [if_pos h24, if_pos h24]
        · rw [if_neg h24, if_neg h24, if_pos (by omega), if_pos (by omega)]
theorem sF_val (S : SS) (bg cm : Nat) (key : Int) (h : key = 0 ∨ key = 1 ∨ key = 2) : sF S bg cm key.toNat = .int .i64 (S.val key) := by
  unfold sF
  rw [if_pos (by omega), Int.toNat_of_nonneg (by omega)]
theorem sF_ver (S : SS) (bg cm : Nat) (key : Int) (h : key = 0 ∨ key = 1 ∨ key = 2) : sF S bg cm (3 + key.toNat) = .int .i64 (S.ver key) := by
  unfold sF
  rw [if_neg (by omega), if_pos (by omega), show (((3 + key.toNat - 3 : Nat)) : Int) = key by omega]
theorem sF_beg (S : SS) (bg cm n : Nat) (key : Int) (hn : n < 6) (h : key = 0 ∨ key = 1 ∨ key = 2) : sF S bg cm (6 + n * 3 + key.toNat) = .int .i64 (S.beg n key) := by
  unfold sF
  rw [if_neg (by omega), if_neg (by omega), if_pos (by omega), show (6 + n * 3 + key.toNat - 6) / 3 = n by omega, show (((6 + n * 3 + key.toNat - 6) % 3 : Nat) : Int) = key by omega]
/-! ### Bits -/
theorem and_bit0 : ∀ a : Nat, a < 64 → ∀ n : Nat, n < 6 → (bits .and .u64 (a : Int) ((2 ^ n : Nat) : Int) == 0) = !a.testBit n := by decide +kernel
theorem and_bit (a n : Nat) (ha : a < 64) (hn : n < 6) : (bits .and .u64 (a : Int) (IntKind.u64.wrap (2 ^ n)) == 0) = !a.testBit n := by
  rw [shl1 n hn]; exact and_bit0 a ha n hn
def Bits1 (bg : Nat) (seen : List Int) : Prop := bg < 64 ∧ ∀ j : Nat, bg.testBit j = decide (1 ≤ seen.count (j : Int))
def Bits2 (cm : Nat) (seen : List Int) : Prop := cm < 64 ∧ ∀ j : Nat, cm.testBit j = decide (2 ≤ seen.count (j : Int))
theorem count_snoc (seen : List Int) (n m : Int) : (seen ++ [n]).count m = seen.count m + (if m = n then 1 else 0) := by
  rw [List.count_append]
  congr 1
  by_cases h : m = n
  · subst h; simp
  · rw [if_neg h]; exact List.count_eq_zero.2 (by simpa using h)
theorem Bits1.first {bg : Nat} {seen : List Int} (h : Bits1 bg seen) (n : Nat) (hn : n < 6) : Bits1 (bg ||| 2 ^ n) (seen ++ [(n : Int)]) := by
  refine ⟨Nat.or_lt_two_pow (n := 6) h.1 (pow6 hn), fun j => ?_⟩
  rw [Nat.testBit_or, h.2 j, Nat.testBit_two_pow, count_snoc, Bool.eq_iff_iff]
  simp only [Bool.or_eq_true, decide_eq_true_eq]
  by_cases hjn : j = n
  · subst hjn; simp
  · rw [if_neg (by omega)]; omega
theorem Bits1.more {bg : Nat} {seen : List Int} (h : Bits1 bg seen) (n : Nat) (h1 : 1 ≤ seen.count (n : Int)) : Bits1 bg (seen ++ [(n : Int)]) := by
  refine ⟨h.1, fun j => ?_⟩
  rw [h.2 j, count_snoc, Bool.eq_iff_iff]
  simp only [decide_eq_true_eq]
  by_cases hjn : j = n
  · subst hjn; rw [if_pos rfl]; omega
  · rw [if_neg (by omega)]; omega
theorem Bits2.first {cm : Nat} {seen : List Int} (h : Bits2 cm seen) (n : Nat) (h0 : seen.count (n : Int) = 0) : Bits2 cm (seen ++ [(n : Int)]) := by
  refine ⟨h.1, fun j => ?_⟩
  rw [h.2 j, count_snoc, Bool.eq_iff_iff]
  simp only [decide_eq_true_eq]
  by_cases hjn : j = n
  · subst hjn; rw [if_pos rfl]; omega
  · rw [if_neg (by omega)]; omega
theorem Bits2.more {cm : Nat} {seen : List Int} (h : Bits2 cm seen) (n : Nat) (hn : n < 6) (h1 : seen.count (n : Int) = 1) : Bits2 (cm ||| 2 ^ n) (seen ++ [(n : Int)]) := by
  refine ⟨Nat.or_lt_two_pow (n := 6) h.1 (pow6 hn), fun j => ?_⟩
  rw [Nat.testBit_or, h.2 j, Nat.testBit_two_pow, count_snoc, Bool.eq_iff_iff]
  simp only [Bool.or_eq_true, decide_eq_true_eq]
  by_cases hjn : j = n
  · subst hjn; rw [if_pos rfl]; omega
  · rw [if_neg (by omega)]; omega
theorem Bits1.zero : Bits1 0 [] := ⟨by decide, fun j => by simp⟩
theorem Bits2.zero : Bits2 0 [] := ⟨by decide, fun j => by simp⟩
theorem comm_take (b : St) (l : List Op) (k : Nat) (hk : k < l.length) (s : St × St) : comm b (l.take (k + 1)) s = (comm b (l.take k) s).bind fun q => if q.2 l[k].Key = b l[k].Key then some (q.1.put l[k].Key l[k].Value, q.2.put l[k].Key (q.2 l[k].Key + 1)) else none := by
  rw [List.take_succ_eq_append_getElem hk, comm_append]
  cases comm b (l.take k) s with
  | none => rfl
  | some q => simp only [Option.bind_some, comm]
theorem comm_stop (b : St) (l : List Op) (k : Nat) (hk : k < l.length) (s q : St × St) (h : comm b (l.take k) s = some q) (hne : q.2 l[k].Key ≠ b l[k].Key) : comm b l s = none := by
  have e : l.take k ++ l[k] :: l.drop (k + 1) = l := by rw [← List.drop_eq_getElem_cons hk, List.take_append_drop]
  rw [← e, comm_append, h]
  simp only [Option.bind_some, comm, if_neg hne]
theorem fit_take (v : St) (l : List Op) (k : Nat) (hk : k < l.length) (h : readsFit v (l.take k) = true) (hp : (v l[k].Key == l[k].Value) = true) : readsFit v (l.take (k + 1)) = true := by
  unfold readsFit at h ⊢
  rw [List.take_succ_eq_append_getElem hk, List.all_append, h]
  simp [hp]
theorem fit_stop (v : St) (l : List Op) (k : Nat) (hk : k < l.length) (hp : (v l[k].Key == l[k].Value) = false) : readsFit v l = false := by
  unfold readsFit
  rw [List.all_eq_false]
  exact ⟨_, List.getElem_mem hk, by simp [hp]⟩
theorem lastWs_mem {ops : List Op} {o : Op} (h : o ∈ lastWs ops) : o ∈ ops := by
  unfold lastWs at h
  simp only [List.mem_append, Option.mem_toList] at h
  rcases h with (h | h) | h <;> exact (lastW_some h).1
theorem firstRs_mem {ops : List Op} : ∀ {k : Nat} {o : Op}, o ∈ firstRs ops k → o ∈ ops
  | 0, o, h => by cases h
  | k + 1, o, h => by
    rw [firstRs, List.mem_append] at h
    rcases h with h | h
    · exact firstRs_mem h
    · split at h
      · rename_i q hq
        split at h
        · rw [List.mem_singleton.1 h]; exact List.mem_of_getElem? hq
        · cases h
      · cases h
/-- What next answers. -/
def NextPost (h : List Txn) (S : SS) (n : Int) (bs : Nat) (e : Ending) (w' : World) : Prop :=
  (∃ S' bg cm, snapNext h S n = some S' ∧ e = .returned (.bool true) ∧ Blk w' bs 148 (snapC S' bg cm) ∧ Bits1 bg S'.seen ∧ Bits2 cm S'.seen) ∨
  (snapNext h S n = none ∧ e = .returned (.bool false))
theorem count_le2 {cm : Nat} {seen : List Int} (h2 : Bits2 cm seen) {n : Nat} (h : cm.testBit n = true) : 2 ≤ seen.count (n : Int) := by
  rw [h2.2 n] at h; exact of_decide_eq_true h
theorem snapC_seen (S : SS) (bg cm : Nat) (l : List Int) : snapC S bg cm = snapC ⟨S.val, S.ver, S.beg, l⟩ bg cm := rfl
theorem snap_done {h : List Txn} {n : Nat} (hn : n < h.length) : dneOf h (n : Int) = h[n].Done := by
  unfold dneOf
  rw [Int.toNat_natCast, List.getElem?_eq_getElem hn]
  simp [hn]
set_option maxRecDepth 10000 in
set_option maxHeartbeats 4000000 in
theorem next_any (xs : List Txn) (A : Option Addr) (c : Nat) (S : SS) (bg cm n : Nat) (bs : Nat) (w : World) (hv : histV xs = true) (hn : n < xs.length) (hB : Blk w bs 148 (snapC S bg cm)) (h1 : Bits1 bg S.seen) (h2 : Bits2 cm S.seen) (hsm : ∀ key, 0 ≤ S.ver key ∧ S.ver key ≤ 1000) (hA : Row tTxn w (fun b => Old w b ∧ b ≠ bs) A xs) :
    Calls Tryz.prog 146 #[.pointer (some ⟨bs, 0, none⟩), .slice A xs.length c, .int .i64 n] w fun e w' => NextPost xs S n bs e w' ∧ Only (fun b => b = bs) w w' := by
  have hx6 : xs.length ≤ 6 := (histV_parts hv).1
  have hn6 : n < 6 := by omega
  have htx := (histV_parts hv).2 _ (List.getElem_mem hn)
  have HOps := hide (opsOf_nat hn)
  have HDn := hide (snap_done hn)
  have HSN := hide (show snapNext xs S n = (if dneOf xs n && decide (S.seen.count (n : Int) < 2) then
    (if S.seen.count (n : Int) = 0 then (if readsFit S.val (firstR (opsOf xs n)) then some ⟨S.val, S.ver, fun m => if m = n then S.ver else S.beg m, S.seen ++ [(n : Int)]⟩ else none)
    else (comm (S.beg n) (lastWs (opsOf xs n)) (S.val, S.ver)).map fun q => ⟨q.1, q.2, S.beg, S.seen ++ [(n : Int)]⟩) else none) from rfl)
  rw [HOps.out, HDn.out] at HSN
  have hq : xs.length ≤ 9223372036854775807 := by omega
  have ab1 : (bits .and .u64 (cm : Int) (IntKind.u64.wrap (2 ^ n)) != 0) = cm.testBit n := by unfold bne; rw [and_bit cm n h2.1 hn6, Bool.not_not]
  have ab2 := and_bit bg n h1.1 hn6
  have hc25 := (hB.cell 25).trans (snapC_get S bg cm 25 (by decide))
  have hc24 := (hB.cell 24).trans (snapC_get S bg cm 24 (by decide))
  rw [show sF S bg cm 25 = .int .u64 cm from rfl] at hc25
  rw [show sF S bg cm 24 = .int .u64 bg from rfl] at hc24
  have f24 := hB.frozen 24; have f25 := hB.frozen 25
  have hbl := hB.lt
  obtain ⟨b, off, A2, c2, hA2, hbS, d0, d1, d3, hj1, hj2, hj3⟩ : ∃ b off A2 c2, A = some ⟨b, off, none⟩ ∧ (Old w b ∧ b ≠ bs) ∧ w.cell? ⟨b, off + n * 3, none⟩ = some (.int .i64 xs[n].Session) ∧ w.cell? ⟨b, off + n * 3 + 1, none⟩ = some (.slice A2 xs[n].Ops.length c2) ∧ w.cell? ⟨b, off + n * 3 + 2, none⟩ = some (.bool xs[n].Done) ∧ xs[n].Ops.length ≤ c2 ∧ c2 ≤ maxLen ∧ Row tOp w (fun b => Old w b ∧ b ≠ bs) A2 xs[n].Ops := by
    obtain ⟨b, off, hA2, hbS, hrow⟩ := hA (by omega)
    obtain ⟨cs, ⟨v, rfl, A2, c2, rfl, h5, h6, h7⟩, hcs⟩ := hrow n hn
    exact ⟨b, off, A2, c2, hA2, hbS, hcs 0 _ rfl, hcs 1 _ rfl, hcs 2 _ rfl, h5, h6, h7⟩
  subst hA2
  have HBS := hide hbS
  have HR := hide hj3; have H1 := hide h1; have H2 := hide h2; have HB := hide hB
  have HOk := hide (txnOk_parts htx).1
  have ho6 := (txnOk_parts htx).2
  have HSm := hide hsm
  clear hv htx hA hj3 h1 h2 hbS HOps HDn hsm
  go_enter Tryz.func146, Tryz.ntmps146
  cases hdn : xs[n].Done with
  | false =>
    rw [hdn] at HSN d3
    have HN := hide (show snapNext xs S n = none by rw [HSN.out]; rfl)
    clear HSN hdn
    go_wp2_with (go_at_call 81; refine (within _ _ _ _).mono ?_; rintro e w' ⟨rfl, rfl⟩; rw [show inR (n : Int) 0 ((xs.length : Int) - 1) = true from inR_iff.2 ⟨by omega, by omega⟩])
    go_ret
    exact ⟨.inr ⟨HN.out, rfl⟩, Only.refl _ _⟩
  | true =>
    rw [hdn] at HSN d3
    have Hdn := hide hdn
    clear hdn
    cases hcm : cm.testBit n with
    | true =>
      rw [hcm] at ab1
      have hc2 := count_le2 H2.out hcm
      have HN := hide (show snapNext xs S n = none by rw [HSN.out, if_neg]; simp; omega)
      clear HSN hcm
      go_wp2_with (go_at_call 81; refine (within _ _ _ _).mono ?_; rintro e w' ⟨rfl, rfl⟩; rw [show inR (n : Int) 0 ((xs.length : Int) - 1) = true from inR_iff.2 ⟨by omega, by omega⟩])
      go_ret
      exact ⟨.inr ⟨HN.out, rfl⟩, Only.refl _ _⟩
    | false =>
      rw [hcm] at ab1
      have hc2 : S.seen.count (n : Int) < 2 := by
        have h := H2.out.2 n
        rw [hcm] at h
        have := of_decide_eq_false h.symm
        omega
      have HSN := hide (HSN.out.trans (if_pos (by simp [hc2])))
      clear hcm
      cases hbg : bg.testBit n with
      | false =>
        rw [hbg] at ab2
        have hc0 : S.seen.count (n : Int) = 0 := by
          have h := H1.out.2 n
          rw [hbg] at h
          have := of_decide_eq_false h.symm
          omega
        have HSN := hide (HSN.out.trans (if_pos hc0))
        clear hbg
        go_upto_region 6 with (go_at_call 81; refine (within _ _ _ _).mono ?_; rintro e w' ⟨rfl, rfl⟩; rw [show inR (n : Int) 0 ((xs.length : Int) - 1) = true from inR_iff.2 ⟨by omega, by omega⟩])
        have hor := or_shl bg n H1.out.1 hn6
        rw [hor]
        generalize hW : World.setCell _ _ _ = W
        have HBW := hide (show Blk W bs 148 (snapC S (bg ||| 2 ^ n) cm) by rw [← hW, ← snapC_bg S bg cm (bg ||| 2 ^ n)]; exact HB.out.set_ 24 _)
        have HOW := hide (show Only (fun b => b = bs) w W by rw [← hW]; exact (Only.refl (fun b => b = bs) w).setCell (p := ⟨bs, 24, none⟩) rfl _)
        clear hW hc24 hc25 f24 f25
        have hblW := HBW.out.lt
        have v0 := (HBW.out.cell 3).trans (snapC_get S (bg ||| 2 ^ n) cm 3 (by decide))
        have v1 := (HBW.out.cell 4).trans (snapC_get S (bg ||| 2 ^ n) cm 4 (by decide))
        have v2 := (HBW.out.cell 5).trans (snapC_get S (bg ||| 2 ^ n) cm 5 (by decide))
        have b0 := (HBW.out.cell (6 + n * 3)).trans (snapC_get S (bg ||| 2 ^ n) cm (6 + n * 3) (by omega))
        have b1 := (HBW.out.cell (6 + n * 3 + 1)).trans (snapC_get S (bg ||| 2 ^ n) cm (6 + n * 3 + 1) (by omega))
        have b2 := (HBW.out.cell (6 + n * 3 + 2)).trans (snapC_get S (bg ||| 2 ^ n) cm (6 + n * 3 + 2) (by omega))
        have g0 := HBW.out.frozen (6 + n * 3); have g1 := HBW.out.frozen (6 + n * 3 + 1); have g2 := HBW.out.frozen (6 + n * 3 + 2)
        rw [show sF S (bg ||| 2 ^ n) cm 3 = .int .i64 (S.ver 0) from rfl] at v0
        rw [show sF S (bg ||| 2 ^ n) cm 4 = .int .i64 (S.ver 1) from rfl] at v1
        rw [show sF S (bg ||| 2 ^ n) cm 5 = .int .i64 (S.ver 2) from rfl] at v2
        have hn6i : (n : Int) < 6 := by omega
        have HD := hide (And.intro d0 (And.intro d1 d3))
        clear d0 d1 d3
        go_still_tail 9, (by kernel_rfl)
        change wpList _ _ _ _ _ W.drew
        go_upto_region 7 with (fail)
        obtain ⟨S2, hS2⟩ : ∃ S2 : SS, S2 = ⟨S.val, S.ver, fun m => if m = (n : Int) then S.ver else S.beg m, S.seen ++ [(n : Int)]⟩ := ⟨_, rfl⟩
        generalize hW2 : World.drew _ = W2
        have HB2 := hide (show Blk W2 bs 148 (snapC S2 (bg ||| 2 ^ n) cm) by
          rw [← hW2, hS2]
          have e := snapC_beg S (bg ||| 2 ^ n) cm n S.ver hn6
          have h3 := ((HBW.out.set_ (6 + n * 3) (.int .i64 (S.ver 0))).set_ (6 + n * 3 + 1) (.int .i64 (S.ver 1))).set_ (6 + n * 3 + 2) (.int .i64 (S.ver 2))
          rw [e] at h3
          exact h3.drew_)
        have HO2 := hide (show Only (fun b => b = bs) w W2 by rw [← hW2]; exact (((HOW.out.setCell (p := ⟨bs, 6 + n * 3, none⟩) rfl _).setCell (p := ⟨bs, 6 + n * 3 + 1, none⟩) rfl _).setCell (p := ⟨bs, 6 + n * 3 + 2, none⟩) rfl _).drew_)
        have HB1 := hide (show Bits1 (bg ||| 2 ^ n) S2.seen by rw [hS2]; exact H1.out.first n hn6)
        have HBc := hide (show Bits2 cm S2.seen by rw [hS2]; exact H2.out.first n hc0)
        have HV := hide (show S2.val = S.val by rw [hS2])
        rw [← hS2] at HSN
        clear hW2 hS2 v0 v1 v2 b0 b1 b2 g0 g1 g2 HBW HOW hblW
        have hbb := HBS.out
        have d0 := (World.cell?_of_block (a := ⟨b, off + n * 3, none⟩) (HO2.out.block b hbb.1 hbb.2)).trans HD.out.1
        have d1 := (World.cell?_of_block (a := ⟨b, off + n * 3 + 1, none⟩) (HO2.out.block b hbb.1 hbb.2)).trans HD.out.2.1
        have d3 := (World.cell?_of_block (a := ⟨b, off + n * 3 + 2, none⟩) (HO2.out.block b hbb.1 hbb.2)).trans HD.out.2.2
        have HFR := hide (implFirstReads xs[n] A2 c2 W2 ho6 HOk.out (HR.out.mono (S' := Old W2) (fun b h => Nat.lt_of_lt_of_le h.1 HO2.out.size) (fun b h => HO2.out.block b h.1 h.2)))
        rw [Hdn.out] at HFR
        have HRok := hide (fun o (ho : o ∈ firstR xs[n].Ops) => HOk.out o (firstRs_mem ho))
        have hRl : (firstR xs[n].Ops).length ≤ 6 := Nat.le_trans (firstRs_len _ _) ho6
        generalize firstR xs[n].Ops = R at HFR HRok hRl HSN
        have hRq : R.length ≤ 9223372036854775807 := by omega
        go_wp2_with (go_at_call 53; refine HFR.out.mono ?_; rintro e w4 ⟨v4, rfl, hS4, hb4⟩; obtain ⟨A4, c4, rfl, h41, h42, h43⟩ := hS4; have HR4 := hide (h43.mono (S' := Old w4) (fun b h => h.2) (fun _ _ => rfl)); have HB4 := hide (HB2.out.below hb4 HB2.out.lt); have HO4 := hide (HO2.out.trans (Only.of_below hb4)); clear hb4 h43)
        clear d0 d1 d3
        go_loopw [9, 69] (fun _ i wr => ∃ k : Nat, k ≤ R.length ∧ i = .int .i64 k ∧ Hid (readsFit S.val (R.take k) = true) ∧ Hid (Below w4.heap.size w4 wr)) (fun _ i _ => R.length - (intOf i).toNat)
        case atStart => exact ⟨0, Nat.zero_le _, rfl, rfl, Below.refl _ _⟩
        case round =>
          obtain ⟨k, hk, rfl, hF, hb⟩ := hrel
          have HF := hide hF.out; have HBr := hide hb.out
          have HB5 := hide (HB4.out.below hb.out HB4.out.lt)
          clear hF hb
          by_cases hlt : k < R.length
          · obtain ⟨b4, off4, rfl, hbS4, x0, x1, x2⟩ := at_Op HR4.out HBr.out hlt
            have hp := opOk_parts (HRok.out _ (List.getElem_mem hlt))
            have HFt := hide (fit_take S.val R k hlt HF.out)
            have HFs := hide (fit_stop S.val R k hlt)
            generalize R[k] = o at x0 x1 x2 hp HFt HFs
            obtain ⟨kd, ky, vl⟩ := o
            dsimp only at x0 x1 x2 hp HFt HFs
            obtain ⟨_, hky, _, _, _⟩ := hp
            have HX := hide (HB5.out.alloc (.cells #[.int .i64 kd, .int .i64 ky, .int .i64 vl] 73))
            have hval := (HB5.out.cell ky.toNat).trans (snapC_get S2 (bg ||| 2 ^ n) cm ky.toNat (by omega))
            rw [sF_val S2 _ _ ky hky, HV.out] at hval
            have HBn := hide ((Below.refl _ wr).alloc (Nat.le_refl _) (.cells #[.int .i64 kd, .int .i64 ky, .int .i64 vl] 73))
            have hb5 := HB5.out.lt
            cases hne : (S.val ky == vl) with
            | true =>
              have HF2 := hide (HFt.out hne)
              have hne2 : (S.val ky != vl) = false := by unfold bne; rw [hne]; rfl
              clear HFt HFs hne
              rcases hky with rfl | rfl | rfl
              · have hv_ : wr.cell? ⟨bs, 0, none⟩ = some (.int .i64 (S.val 0)) := hval
                clear hval
                go_wp2_with fail
                go_quiet (fail)
                go_wp2_with fail
                go_roundw
                case rel => exact ⟨k + 1, by omega, by go_num, HF2.out, below_drewN (HBr.out.alloc HBr.out.size _) _⟩
                case measure => simp [intOf]; omega
              · have hv_ : wr.cell? ⟨bs, 1, none⟩ = some (.int .i64 (S.val 1)) := hval
                clear hval
                go_wp2_with fail
                go_quiet (fail)
                go_wp2_with fail
                go_roundw
                case rel => exact ⟨k + 1, by omega, by go_num, HF2.out, below_drewN (HBr.out.alloc HBr.out.size _) _⟩
                case measure => simp [intOf]; omega
              · have hv_ : wr.cell? ⟨bs, 2, none⟩ = some (.int .i64 (S.val 2)) := hval
                clear hval
                go_wp2_with fail
                go_quiet (fail)
                go_wp2_with fail
                go_roundw
                case rel => exact ⟨k + 1, by omega, by go_num, HF2.out, below_drewN (HBr.out.alloc HBr.out.size _) _⟩
                case measure => simp [intOf]; omega
            | false =>
              have HF2 := hide (HFs.out hne)
              have hne2 : (S.val ky != vl) = true := by unfold bne; rw [hne]; rfl
              have HN := hide (show snapNext xs S n = none by rw [HSN.out, HF2.out]; rfl)
              clear HFt HFs hne
              rcases hky with rfl | rfl | rfl
              · have hv_ : wr.cell? ⟨bs, 0, none⟩ = some (.int .i64 (S.val 0)) := hval
                clear hval
                go_wp2_with fail
                go_quiet (fail)
                go_wp2_with fail
                go_ret
                exact ⟨.inr ⟨HN.out, rfl⟩, (HO4.out.trans (Only.of_below HBr.out)).trans ((Only.of_below HBn.out).trans ⟨rfl, rfl, rfl, Nat.le_refl _, fun _ _ _ => rfl⟩)⟩
              · have hv_ : wr.cell? ⟨bs, 1, none⟩ = some (.int .i64 (S.val 1)) := hval
                clear hval
                go_wp2_with fail
                go_quiet (fail)
                go_wp2_with fail
                go_ret
                exact ⟨.inr ⟨HN.out, rfl⟩, (HO4.out.trans (Only.of_below HBr.out)).trans ((Only.of_below HBn.out).trans ⟨rfl, rfl, rfl, Nat.le_refl _, fun _ _ _ => rfl⟩)⟩
              · have hv_ : wr.cell? ⟨bs, 2, none⟩ = some (.int .i64 (S.val 2)) := hval
                clear hval
                go_wp2_with fail
                go_quiet (fail)
                go_wp2_with fail
                go_ret
                exact ⟨.inr ⟨HN.out, rfl⟩, (HO4.out.trans (Only.of_below HBr.out)).trans ((Only.of_below HBn.out).trans ⟨rfl, rfl, rfl, Nat.le_refl _, fun _ _ _ => rfl⟩)⟩
          · obtain rfl : k = R.length := by omega
            have HN := hide (show snapNext xs S n = some S2 by have h := HF.out; rw [List.take_length] at h; rw [HSN.out, h]; rfl)
            clear HF
            go_wp2_with fail
            go_ret
            exact ⟨.inl ⟨S2, _, _, HN.out, rfl, HB5.out, HB1.out, HBc.out⟩, HO4.out.trans (Only.of_below HBr.out)⟩
      | true =>
        rw [hbg] at ab2
        have hc1 : S.seen.count (n : Int) = 1 := by
          have h := H1.out.2 n
          rw [hbg] at h
          have := of_decide_eq_true h.symm
          omega
        have HSN := hide (HSN.out.trans (if_neg (by omega)))
        clear hbg
        go_upto_region 15 with (go_at_call 81; refine (within _ _ _ _).mono ?_; rintro e w' ⟨rfl, rfl⟩; rw [show inR (n : Int) 0 ((xs.length : Int) - 1) = true from inR_iff.2 ⟨by omega, by omega⟩])
        have hor := or_shl cm n H2.out.1 hn6
        rw [hor]
        generalize hW : World.setCell _ _ _ = W2
        have HB2 := hide (show Blk W2 bs 148 (snapC S bg (cm ||| 2 ^ n)) by rw [← hW, ← snapC_cm S bg cm (cm ||| 2 ^ n)]; exact HB.out.set_ 25 _)
        have HO2 := hide (show Only (fun b => b = bs) w W2 by rw [← hW]; exact (Only.refl (fun b => b = bs) w).setCell (p := ⟨bs, 25, none⟩) rfl _)
        clear hW hc24 hc25 f24 f25
        have hn6i : (n : Int) < 6 := by omega
        have HB1 := hide (show Bits1 bg (S.seen ++ [(n : Int)]) from H1.out.more n (by omega))
        have HBc := hide (show Bits2 (cm ||| 2 ^ n) (S.seen ++ [(n : Int)]) from H2.out.more n hn6 hc1)
        have hbb := HBS.out
        have e0 := (World.cell?_of_block (a := ⟨b, off + n * 3, none⟩) (HO2.out.block b hbb.1 hbb.2)).trans d0
        have e1 := (World.cell?_of_block (a := ⟨b, off + n * 3 + 1, none⟩) (HO2.out.block b hbb.1 hbb.2)).trans d1
        have e3 := (World.cell?_of_block (a := ⟨b, off + n * 3 + 2, none⟩) (HO2.out.block b hbb.1 hbb.2)).trans d3
        clear d0 d1 d3
        have HFR := hide (implLastWrites xs[n] A2 c2 W2 ho6 HOk.out (HR.out.mono (S' := Old W2) (fun b h => Nat.lt_of_lt_of_le h.1 HO2.out.size) (fun b h => HO2.out.block b h.1 h.2)))
        rw [Hdn.out] at HFR
        have HRok := hide (fun o (ho : o ∈ lastWs xs[n].Ops) => HOk.out o (lastWs_mem ho))
        have hRl := lastWs_len xs[n].Ops
        generalize lastWs xs[n].Ops = L at HFR HRok hRl HSN
        have hRq : L.length ≤ 9223372036854775807 := by omega
        go_wp2_with (go_at_call 138; refine HFR.out.mono ?_; rintro e w4 ⟨v4, rfl, hS4, hb4⟩; obtain ⟨A4, c4, rfl, h41, h42, h43⟩ := hS4.sl; have HR4 := hide h43; have HB4 := hide (HB2.out.below hb4 HB2.out.lt); have HO4 := hide (HO2.out.trans (Only.of_below hb4)); clear hb4 h43 hS4)
        clear e0 e1 e3
        have hW2b : bs < W2.heap.size := HB2.out.lt
        go_loopw [11, 98] (fun _ i wr => ∃ (k : Nat) (v u : St), k ≤ L.length ∧ i = .int .i64 k ∧ Hid (comm (S.beg n) (L.take k) (S.val, S.ver) = some (v, u)) ∧ Hid (∀ key, 0 ≤ u key ∧ u key ≤ 1000 + k) ∧ Hid (Blk wr bs 148 (snapC ⟨v, u, S.beg, S.seen ++ [(n : Int)]⟩ bg (cm ||| 2 ^ n))) ∧ Hid (Only (fun b => b = bs) w4 wr)) (fun _ i _ => L.length - (intOf i).toNat)
        case atStart => exact ⟨0, S.val, S.ver, Nat.zero_le _, rfl, rfl, fun key => by have := HSm.out key; omega, HB4.out, Only.refl _ _⟩
        case round =>
          obtain ⟨k, v, u, hk, rfl, hC, hU, hBk, hO⟩ := hrel
          have HC := hide hC.out; have HU := hide hU.out; have HBk := hide hBk.out; have HOw := hide hO.out
          have HOk2 := hide (HO4.out.trans hO.out)
          have hR5 := HR4.out.mono (w' := wr) (S' := Old wr) (fun b h => Nat.lt_of_lt_of_le h.2 hO.out.size) (fun b h => hO.out.block b h.2 (by have := h.1; omega))
          have hb5 := HBk.out.lt
          clear hC hU hBk hO
          by_cases hlt : k < L.length
          · obtain ⟨b4, off4, hA4, hbS4, x0, x1, x2⟩ := at_Op hR5 (Below.refl _ _) hlt
            subst hA4
            have hp := opOk_parts (HRok.out _ (List.getElem_mem hlt))
            have HCt := hide (comm_take (S.beg n) L k hlt (S.val, S.ver))
            have HCs := hide (comm_stop (S.beg n) L k hlt (S.val, S.ver) (v, u) HC.out)
            rw [HC.out] at HCt
            generalize L[k] = o at x0 x1 x2 hp HCt HCs
            obtain ⟨kd, ky, vl⟩ := o
            dsimp only [Option.bind_some] at x0 x1 x2 hp HCt HCs
            obtain ⟨_, hky, _, _, _⟩ := hp
            have hval := (HBk.out.cell ky.toNat).trans (snapC_get ⟨v, u, S.beg, S.seen ++ [(n : Int)]⟩ bg (cm ||| 2 ^ n) ky.toNat (by omega))
            have hver := (HBk.out.cell (3 + ky.toNat)).trans (snapC_get ⟨v, u, S.beg, S.seen ++ [(n : Int)]⟩ bg (cm ||| 2 ^ n) (3 + ky.toNat) (by omega))
            have hbeg := (HBk.out.cell (6 + n * 3 + ky.toNat)).trans (snapC_get ⟨v, u, S.beg, S.seen ++ [(n : Int)]⟩ bg (cm ||| 2 ^ n) (6 + n * 3 + ky.toNat) (by omega))
            rw [sF_val _ _ _ ky hky] at hval
            rw [sF_ver _ _ _ ky hky] at hver
            rw [sF_beg _ _ _ n ky hn6 hky] at hbeg
            dsimp only at hval hver hbeg
            have f0 := HBk.out.frozen ky.toNat; have f1 := HBk.out.frozen (3 + ky.toNat)
            clear hR5
            cases hne : (u ky == S.beg n ky) with
            | false =>
              have HN := hide (show snapNext xs S n = none by rw [HSN.out, HCs.out (by simpa using hne)]; rfl)
              have hne2 : (u ky != S.beg n ky) = true := by unfold bne; rw [hne]; rfl
              clear HCt HCs hne f0 f1
              rcases hky with rfl | rfl | rfl
              · have hv_ : wr.cell? ⟨bs, 3, none⟩ = some (.int .i64 (u 0)) := hver
                have hv2_ : wr.cell? ⟨bs, 6 + n * 3, none⟩ = some (.int .i64 (S.beg n 0)) := hbeg
                clear hver hbeg hval
                go_wp2_with fail
                go_quiet (fail)
                go_wp2_with fail
                go_ret
                exact ⟨.inr ⟨HN.out, rfl⟩, (HOk2.out.trans (Only.of_alloc wr _)).trans ⟨rfl, rfl, rfl, Nat.le_refl _, fun _ _ _ => rfl⟩⟩
              · have hv_ : wr.cell? ⟨bs, 4, none⟩ = some (.int .i64 (u 1)) := hver
                have hv2_ : wr.cell? ⟨bs, 6 + n * 3 + 1, none⟩ = some (.int .i64 (S.beg n 1)) := hbeg
                clear hver hbeg hval
                go_wp2_with fail
                go_quiet (fail)
                go_wp2_with fail
                go_ret
                exact ⟨.inr ⟨HN.out, rfl⟩, (HOk2.out.trans (Only.of_alloc wr _)).trans ⟨rfl, rfl, rfl, Nat.le_refl _, fun _ _ _ => rfl⟩⟩
              · have hv_ : wr.cell? ⟨bs, 5, none⟩ = some (.int .i64 (u 2)) := hver
                have hv2_ : wr.cell? ⟨bs, 6 + n * 3 + 2, none⟩ = some (.int .i64 (S.beg n 2)) := hbeg
                clear hver hbeg hval
                go_wp2_with fail
                go_quiet (fail)
                go_wp2_with fail
                go_ret
                exact ⟨.inr ⟨HN.out, rfl⟩, (HOk2.out.trans (Only.of_alloc wr _)).trans ⟨rfl, rfl, rfl, Nat.le_refl _, fun _ _ _ => rfl⟩⟩
            | true =>
              have HC2 := hide (HCt.out.trans (if_pos (by simpa using hne)))
              have hne2 : (u ky != S.beg n ky) = false := by unfold bne; rw [hne]; rfl
              clear HCt HCs hne
              rcases hky with rfl | rfl | rfl
              · have hv_ : wr.cell? ⟨bs, 3, none⟩ = some (.int .i64 (u 0)) := hver
                have hv2_ : wr.cell? ⟨bs, 6 + n * 3, none⟩ = some (.int .i64 (S.beg n 0)) := hbeg
                have hv3_ : wr.cell? ⟨bs, 0, none⟩ = some (.int .i64 (v 0)) := hval
                clear hver hbeg hval
                go_wp2_with fail
                go_quiet (fail)
                go_upto_region 20 with (fail)
                generalize hW3 : World.drewN _ _ = W3
                have HX3 := hide (show Blk W3 wr.heap.size 73 #[.int .i64 kd, .int .i64 0, .int .i64 vl] by rw [← hW3]; exact Blk.new wr _ _)
                have HK3 := hide (show Blk W3 bs 148 (snapC ⟨v, u, S.beg, S.seen ++ [(n : Int)]⟩ bg (cm ||| 2 ^ n)) by rw [← hW3]; exact HBk.out.alloc (.cells #[.int .i64 kd, .int .i64 0, .int .i64 vl] 73))
                have HO3 := hide (show Only (fun b => b = bs) w4 W3 by rw [← hW3]; exact (HOw.out.trans (Only.of_alloc wr (.cells #[.int .i64 kd, .int .i64 0, .int .i64 vl] 73))).drewN _)
                clear hW3 hv_ hv2_ hv3_ f0 f1
                have y0 := HX3.out.cell 0; have y1 := HX3.out.cell 1; have y2 := HX3.out.cell 2
                simp only [List.getElem?_toArray, List.getElem?_cons_zero, List.getElem?_cons_succ] at y0 y1 y2
                have hv3_ : W3.cell? ⟨bs, 0, none⟩ = some (.int .i64 (v 0)) := (HK3.out.cell 0).trans (snapC_get _ _ _ 0 (by decide))
                have f0 : W3.frozen? ⟨bs, 0, none⟩ = false := HK3.out.frozen 0
                have hz3 := HX3.out.lt; have hz4 := HK3.out.lt
                go_still_tail 8, (by kernel_rfl)
                change wpList _ _ _ _ _ W3.drew
                go_upto_region 21 with (fail)
                generalize hW4 : World.drew _ = W4
                have HX4 := hide (show Blk W4 wr.heap.size 73 #[.int .i64 kd, .int .i64 0, .int .i64 vl] by rw [← hW4]; exact (HX3.out.far (p := ⟨bs, 0, none⟩) (by show wr.heap.size ≠ bs; omega) _).drew_)
                have HK4 := hide (show Blk W4 bs 148 (snapC ⟨v.put 0 vl, u, S.beg, S.seen ++ [(n : Int)]⟩ bg (cm ||| 2 ^ n)) by
                  rw [← hW4]
                  have h3 := HK3.out.set_ 0 (.int .i64 vl)
                  rw [show 0 = Int.toNat 0 from rfl, snapC_val _ _ _ 0 vl (by omega)] at h3
                  exact h3.drew_)
                have HO4_ := hide (show Only (fun b => b = bs) w4 W4 by rw [← hW4]; exact (HO3.out.setCell (p := ⟨bs, 0, none⟩) rfl _).drew_)
                clear hW4 hv3_ f0 y0 y1 y2 hz3 hz4
                have y0 := HX4.out.cell 0; have y1 := HX4.out.cell 1; have y2 := HX4.out.cell 2
                simp only [List.getElem?_toArray, List.getElem?_cons_zero, List.getElem?_cons_succ] at y0 y1 y2
                have hv3_ : W4.cell? ⟨bs, 3, none⟩ = some (.int .i64 (u 0)) := (HK4.out.cell (3)).trans (snapC_get _ _ _ (3) (by decide))
                have f0 : W4.frozen? ⟨bs, 3, none⟩ = false := HK4.out.frozen (3)
                have hz3 := HX4.out.lt; have hz4 := HK4.out.lt
                have hu := HU.out 0
                have hsum : IntKind.i64.wrap (u 0 + 1) = u 0 + 1 := by rw [IntKind.wrap_i64]; omega
                go_still_tail 11, (by kernel_rfl)
                change wpList _ _ _ _ _ W4.drew
                go_wp2_with fail
                have HU2 := hide (show ∀ key, 0 ≤ (u.put 0 (u 0 + 1)) key ∧ (u.put 0 (u 0 + 1)) key ≤ 1000 + ((k + 1 : Nat) : Int) from fun key => by
                  have h9 := HU.out key
                  unfold St.put
                  split
                  · omega
                  · omega)
                have HK5 := HK4.out.set_ (3) (.int .i64 (u 0 + 1))
                rw [show 3 = 3 + Int.toNat 0 from rfl, snapC_ver _ _ _ 0 (u 0 + 1) (by omega)] at HK5
                go_roundw
                case rel => exact ⟨k + 1, _, _, by omega, by go_num, HC2.out, HU2.out, HK5, (HO4_.out.setCell (p := ⟨bs, 3, none⟩) rfl _).drew_⟩
                case measure => simp [intOf]; omega
              · have hv_ : wr.cell? ⟨bs, 4, none⟩ = some (.int .i64 (u 1)) := hver
                have hv2_ : wr.cell? ⟨bs, 6 + n * 3 + 1, none⟩ = some (.int .i64 (S.beg n 1)) := hbeg
                have hv3_ : wr.cell? ⟨bs, 1, none⟩ = some (.int .i64 (v 1)) := hval
                clear hver hbeg hval
                go_wp2_with fail
                go_quiet (fail)
                go_upto_region 20 with (fail)
                generalize hW3 : World.drewN _ _ = W3
                have HX3 := hide (show Blk W3 wr.heap.size 73 #[.int .i64 kd, .int .i64 1, .int .i64 vl] by rw [← hW3]; exact Blk.new wr _ _)
                have HK3 := hide (show Blk W3 bs 148 (snapC ⟨v, u, S.beg, S.seen ++ [(n : Int)]⟩ bg (cm ||| 2 ^ n)) by rw [← hW3]; exact HBk.out.alloc (.cells #[.int .i64 kd, .int .i64 1, .int .i64 vl] 73))
                have HO3 := hide (show Only (fun b => b = bs) w4 W3 by rw [← hW3]; exact (HOw.out.trans (Only.of_alloc wr (.cells #[.int .i64 kd, .int .i64 1, .int .i64 vl] 73))).drewN _)
                clear hW3 hv_ hv2_ hv3_ f0 f1
                have y0 := HX3.out.cell 0; have y1 := HX3.out.cell 1; have y2 := HX3.out.cell 2
                simp only [List.getElem?_toArray, List.getElem?_cons_zero, List.getElem?_cons_succ] at y0 y1 y2
                have hv3_ : W3.cell? ⟨bs, 1, none⟩ = some (.int .i64 (v 1)) := (HK3.out.cell 1).trans (snapC_get _ _ _ 1 (by decide))
                have f0 : W3.frozen? ⟨bs, 1, none⟩ = false := HK3.out.frozen 1
                have hz3 := HX3.out.lt; have hz4 := HK3.out.lt
                go_still_tail 8, (by kernel_rfl)
                change wpList _ _ _ _ _ W3.drew
                go_upto_region 21 with (fail)
                generalize hW4 : World.drew _ = W4
                have HX4 := hide (show Blk W4 wr.heap.size 73 #[.int .i64 kd, .int .i64 1, .int .i64 vl] by rw [← hW4]; exact (HX3.out.far (p := ⟨bs, 1, none⟩) (by show wr.heap.size ≠ bs; omega) _).drew_)
                have HK4 := hide (show Blk W4 bs 148 (snapC ⟨v.put 1 vl, u, S.beg, S.seen ++ [(n : Int)]⟩ bg (cm ||| 2 ^ n)) by
                  rw [← hW4]
                  have h3 := HK3.out.set_ 1 (.int .i64 vl)
                  rw [show 1 = Int.toNat 1 from rfl, snapC_val _ _ _ 1 vl (by omega)] at h3
                  exact h3.drew_)
                have HO4_ := hide (show Only (fun b => b = bs) w4 W4 by rw [← hW4]; exact (HO3.out.setCell (p := ⟨bs, 1, none⟩) rfl _).drew_)
                clear hW4 hv3_ f0 y0 y1 y2 hz3 hz4
                have y0 := HX4.out.cell 0; have y1 := HX4.out.cell 1; have y2 := HX4.out.cell 2
                simp only [List.getElem?_toArray, List.getElem?_cons_zero, List.getElem?_cons_succ] at y0 y1 y2
                have hv3_ : W4.cell? ⟨bs, 4, none⟩ = some (.int .i64 (u 1)) := (HK4.out.cell (4)).trans (snapC_get _ _ _ (4) (by decide))
                have f0 : W4.frozen? ⟨bs, 4, none⟩ = false := HK4.out.frozen (4)
                have hz3 := HX4.out.lt; have hz4 := HK4.out.lt
                have hu := HU.out 1
                have hsum : IntKind.i64.wrap (u 1 + 1) = u 1 + 1 := by rw [IntKind.wrap_i64]; omega
                go_still_tail 11, (by kernel_rfl)
                change wpList _ _ _ _ _ W4.drew
                go_wp2_with fail
                have HU2 := hide (show ∀ key, 0 ≤ (u.put 1 (u 1 + 1)) key ∧ (u.put 1 (u 1 + 1)) key ≤ 1000 + ((k + 1 : Nat) : Int) from fun key => by
                  have h9 := HU.out key
                  unfold St.put
                  split
                  · omega
                  · omega)
                have HK5 := HK4.out.set_ (4) (.int .i64 (u 1 + 1))
                rw [show 4 = 3 + Int.toNat 1 from rfl, snapC_ver _ _ _ 1 (u 1 + 1) (by omega)] at HK5
                go_roundw
                case rel => exact ⟨k + 1, _, _, by omega, by go_num, HC2.out, HU2.out, HK5, (HO4_.out.setCell (p := ⟨bs, 4, none⟩) rfl _).drew_⟩
                case measure => simp [intOf]; omega
              · have hv_ : wr.cell? ⟨bs, 5, none⟩ = some (.int .i64 (u 2)) := hver
                have hv2_ : wr.cell? ⟨bs, 6 + n * 3 + 2, none⟩ = some (.int .i64 (S.beg n 2)) := hbeg
                have hv3_ : wr.cell? ⟨bs, 2, none⟩ = some (.int .i64 (v 2)) := hval
                clear hver hbeg hval
                go_wp2_with fail
                go_quiet (fail)
                go_upto_region 20 with (fail)
                generalize hW3 : World.drewN _ _ = W3
                have HX3 := hide (show Blk W3 wr.heap.size 73 #[.int .i64 kd, .int .i64 2, .int .i64 vl] by rw [← hW3]; exact Blk.new wr _ _)
                have HK3 := hide (show Blk W3 bs 148 (snapC ⟨v, u, S.beg, S.seen ++ [(n : Int)]⟩ bg (cm ||| 2 ^ n)) by rw [← hW3]; exact HBk.out.alloc (.cells #[.int .i64 kd, .int .i64 2, .int .i64 vl] 73))
                have HO3 := hide (show Only (fun b => b = bs) w4 W3 by rw [← hW3]; exact (HOw.out.trans (Only.of_alloc wr (.cells #[.int .i64 kd, .int .i64 2, .int .i64 vl] 73))).drewN _)
                clear hW3 hv_ hv2_ hv3_ f0 f1
                have y0 := HX3.out.cell 0; have y1 := HX3.out.cell 1; have y2 := HX3.out.cell 2
                simp only [List.getElem?_toArray, List.getElem?_cons_zero, List.getElem?_cons_succ] at y0 y1 y2
                have hv3_ : W3.cell? ⟨bs, 2, none⟩ = some (.int .i64 (v 2)) := (HK3.out.cell 2).trans (snapC_get _ _ _ 2 (by decide))
                have f0 : W3.frozen? ⟨bs, 2, none⟩ = false := HK3.out.frozen 2
                have hz3 := HX3.out.lt; have hz4 := HK3.out.lt
                go_still_tail 8, (by kernel_rfl)
                change wpList _ _ _ _ _ W3.drew
                go_upto_region 21 with (fail)
                generalize hW4 : World.drew _ = W4
                have HX4 := hide (show Blk W4 wr.heap.size 73 #[.int .i64 kd, .int .i64 2, .int .i64 vl] by rw [← hW4]; exact (HX3.out.far (p := ⟨bs, 2, none⟩) (by show wr.heap.size ≠ bs; omega) _).drew_)
                have HK4 := hide (show Blk W4 bs 148 (snapC ⟨v.put 2 vl, u, S.beg, S.seen ++ [(n : Int)]⟩ bg (cm ||| 2 ^ n)) by
                  rw [← hW4]
                  have h3 := HK3.out.set_ 2 (.int .i64 vl)
                  rw [show 2 = Int.toNat 2 from rfl, snapC_val _ _ _ 2 vl (by omega)] at h3
                  exact h3.drew_)
                have HO4_ := hide (show Only (fun b => b = bs) w4 W4 by rw [← hW4]; exact (HO3.out.setCell (p := ⟨bs, 2, none⟩) rfl _).drew_)
                clear hW4 hv3_ f0 y0 y1 y2 hz3 hz4
                have y0 := HX4.out.cell 0; have y1 := HX4.out.cell 1; have y2 := HX4.out.cell 2
                simp only [List.getElem?_toArray, List.getElem?_cons_zero, List.getElem?_cons_succ] at y0 y1 y2
                have hv3_ : W4.cell? ⟨bs, 5, none⟩ = some (.int .i64 (u 2)) := (HK4.out.cell (5)).trans (snapC_get _ _ _ (5) (by decide))
                have f0 : W4.frozen? ⟨bs, 5, none⟩ = false := HK4.out.frozen (5)
                have hz3 := HX4.out.lt; have hz4 := HK4.out.lt
                have hu := HU.out 2
                have hsum : IntKind.i64.wrap (u 2 + 1) = u 2 + 1 := by rw [IntKind.wrap_i64]; omega
                go_still_tail 11, (by kernel_rfl)
                change wpList _ _ _ _ _ W4.drew
                go_wp2_with fail
                have HU2 := hide (show ∀ key, 0 ≤ (u.put 2 (u 2 + 1)) key ∧ (u.put 2 (u 2 + 1)) key ≤ 1000 + ((k + 1 : Nat) : Int) from fun key => by
                  have h9 := HU.out key
                  unfold St.put
                  split
                  · omega
                  · omega)
                have HK5 := HK4.out.set_ (5) (.int .i64 (u 2 + 1))
                rw [show 5 = 3 + Int.toNat 2 from rfl, snapC_ver _ _ _ 2 (u 2 + 1) (by omega)] at HK5
                go_roundw
                case rel => exact ⟨k + 1, _, _, by omega, by go_num, HC2.out, HU2.out, HK5, (HO4_.out.setCell (p := ⟨bs, 5, none⟩) rfl _).drew_⟩
                case measure => simp [intOf]; omega
          · obtain rfl : k = L.length := by omega
            have HN := hide (show snapNext xs S n = some ⟨v, u, S.beg, S.seen ++ [(n : Int)]⟩ by have h := HC.out; rw [List.take_length] at h; rw [HSN.out, h]; rfl)
            clear HC hR5
            go_wp2_with fail
            go_ret
            exact ⟨.inl ⟨_, _, _, HN.out, rfl, HBk.out, HB1.out, HBc.out⟩, HOk2.out⟩
def srB (h : List Txn) (p : List Int) : Bool := histV h && fineB h && decide (p.length = 2 * (doneL h).length) && (snapRun h SS0 p).isSome
theorem comm_up (b : St) : ∀ (l : List Op) (v u : St) (q : St × St), comm b l (v, u) = some q → ∀ key, u key ≤ q.2 key ∧ q.2 key ≤ u key + l.length
  | [], v, u, q, h, key => by cases h; simp
  | o :: r, v, u, q, h, key => by
    unfold comm at h
    split at h
    · have := comm_up b r _ _ q h key
      rw [List.length_cons]
      have hp : (u.put o.Key (u o.Key + 1)) key = if key = o.Key then u o.Key + 1 else u key := rfl
      dsimp only at h this ⊢
      rw [hp] at this
      split at this
      · rename_i hk; subst hk; omega
      · omega
    · cases h
theorem snapNext_ver {h : List Txn} {S S' : SS} {n : Int} (hn : snapNext h S n = some S') (key : Int) : S.ver key ≤ S'.ver key ∧ S'.ver key ≤ S.ver key + 3 := by
  unfold snapNext at hn
  split at hn
  · split at hn
    · split at hn
      · cases hn; simp; omega
      · cases hn
    · cases hc : comm (S.beg n) (lastWs (opsOf h n)) (S.val, S.ver) with
      | none => rw [hc] at hn; cases hn
      | some q =>
        rw [hc] at hn
        have := comm_up _ _ _ _ q hc key
        have := lastWs_len (opsOf h n)
        cases hn
        simp only
        omega
  · cases hn
theorem snapRun_ver {h : List Txn} : ∀ {p : List Int} {S S' : SS}, snapRun h S p = some S' → ∀ key, S.ver key ≤ S'.ver key ∧ S'.ver key ≤ S.ver key + 3 * p.length
  | [], S, S', hr, key => by cases hr; simp
  | n :: r, S, S', hr, key => by
    rw [snapRun] at hr
    cases hn : snapNext h S n with
    | none => rw [hn] at hr; cases hr
    | some S1 =>
      rw [hn] at hr
      have h1 := snapNext_ver hn key
      have h2 := snapRun_ver (S := S1) hr key
      rw [List.length_cons]
      omega
theorem snapRun_take (h : List Txn) (p : List Int) (k : Nat) (hk : k < p.length) (S : SS) (hS : snapRun h SS0 (p.take k) = some S) : snapRun h SS0 (p.take (k + 1)) = snapNext h S p[k] := by
  rw [List.take_succ_eq_append_getElem hk, snapRun_snoc, hS]; rfl
theorem snapRun_stop (h : List Txn) (p : List Int) (k : Nat) (hk : k < p.length) (S : SS) (hS : snapRun h SS0 (p.take k) = some S) (hn : snapNext h S p[k] = none) : snapRun h SS0 p = none := by
  have e : p.take k ++ p[k] :: p.drop (k + 1) = p := by rw [← List.drop_eq_getElem_cons hk, List.take_append_drop]
  rw [← e, snapRun_append, hS]
  simp only [Option.bind_some, snapRun, hn, Option.bind_none]
theorem snapNext_out (h : List Txn) (S : SS) (n : Int) (hn : inR n 0 ((h.length : Int) - 1) = false) : snapNext h S n = none := by
  unfold snapNext
  rw [if_neg]
  intro e
  rw [Bool.and_eq_true] at e
  have e1 := e.1
  unfold dneOf at e1
  simp only [Bool.and_eq_true, decide_eq_true_eq] at e1
  have := inR_iff.2 (show 0 ≤ n ∧ n ≤ (h.length : Int) - 1 by omega)
  rw [hn] at this; cases this
theorem snapC_zero : snapC SS0 0 0 = #[.int .i64 0, .int .i64 0, .int .i64 0, .int .i64 0, .int .i64 0, .int .i64 0, .int .i64 0, .int .i64 0, .int .i64 0, .int .i64 0, .int .i64 0, .int .i64 0, .int .i64 0, .int .i64 0, .int .i64 0, .int .i64 0, .int .i64 0, .int .i64 0, .int .i64 0, .int .i64 0, .int .i64 0, .int .i64 0, .int .i64 0, .int .i64 0, .int .u64 0, .int .u64 0] := by kernel_rfl
set_option maxRecDepth 10000 in
set_option maxHeartbeats 4000000 in
theorem implSnapshotRight (xs : List Txn) (ns : List Int) (A B : Option Addr) (c d : Nat) (w : World) (hm : xs.length ≤ maxLen) (hmn : ns.length ≤ 1048576) (hA : Row tTxn w (Old w) A xs) (hN : Row tInt w (Old w) B ns) :
    Calls Tryz.prog 94 #[.slice A xs.length c, .slice B ns.length d] w fun e w' => e = .returned (.bool (srB xs ns)) ∧ Below w.heap.size w w' := by
  have HC := hide (implHistoryValid xs A c w hm hA)
  have HA := hide hA; have HN := hide hN
  have hq : xs.length ≤ 9223372036854775807 := by simpa [maxLen] using hm
  have hqn : ns.length ≤ 9223372036854775807 := by omega
  have HSr := hide (show srB xs ns = (histV xs && fineB xs && decide (ns.length = 2 * (doneL xs).length) && (snapRun xs SS0 ns).isSome) from rfl)
  clear hA hN
  cases hv : histV xs with
  | false =>
    rw [hv] at HC HSr
    clear hv hm
    go_enter Tryz.func94, Tryz.ntmps94
    go_wp2_with (go_at_call 66; refine HC.out.mono ?_; rintro e w1 ⟨rfl, hb1⟩; have HB1 := hide hb1; clear hb1)
    go_ret
    exact ⟨ret_bool HSr.out.symm, HB1.out⟩
  | true =>
    have hx6 : xs.length ≤ 6 := (histV_parts hv).1
    have HFi := hide (fun (W : World) (hb : Below w.heap.size w W) => implOwnFine xs A c W hv hm (HA.out.old hb))
    have HDn := hide (fun (W : World) (hb : Below w.heap.size w W) => implDone xs A c W (by omega) (HA.out.old hb))
    have HNx := hide (fun (S : SS) (bg cm n bs : Nat) (W : World) => next_any xs A c S bg cm n bs W hv)
    have hdl : (doneL xs).length ≤ 6 := Nat.le_trans (doneI_len xs _) hx6
    rw [hv] at HC HSr
    clear hv hm
    cases hfi : fineB xs with
    | false =>
      rw [hfi] at HFi HSr
      clear hfi
      go_enter Tryz.func94, Tryz.ntmps94
      go_wp2_with (first | (go_at_call 66; refine HC.out.mono ?_; rintro e w1 ⟨rfl, hb1⟩; have HB1 := hide hb1; clear hb1) | (go_at_call 145; refine (HFi.out _ HB1.out).mono ?_; rintro e w2 ⟨rfl, hb2⟩; have HB2 := hide (HB1.out.trans (hb2.mono HB1.out.size)); clear hb2))
      go_ret
      exact ⟨ret_bool HSr.out.symm, HB2.out⟩
    | true =>
      rw [hfi] at HFi HSr
      clear hfi
      generalize doneL xs = D at HDn HSr hdl
      by_cases hl : ns.length = 2 * D.length
      · have hli : ((ns.length : Int) != 2 * (D.length : Int)) = false := by rw [bne_eq_false_iff_eq]; omega
        have HSr := hide (show srB xs ns = (snapRun xs SS0 ns).isSome by rw [HSr.out, decide_eq_true hl]; rfl)
        have hn12 : ns.length ≤ 12 := by omega
        clear hl
        go_enter Tryz.func94, Tryz.ntmps94
        go_wp2_with (first | (go_at_call 66; refine HC.out.mono ?_; rintro e w1 ⟨rfl, hb1⟩; have HB1 := hide hb1; clear hb1) | (go_at_call 145; refine (HFi.out _ HB1.out).mono ?_; rintro e w2 ⟨rfl, hb2⟩; have HB2 := hide (HB1.out.trans (hb2.mono HB1.out.size)); clear hb2) | (go_at_call 52; refine (HDn.out _ HB2.out).mono ?_; rintro e w3 ⟨v3, rfl, hO3, hb3⟩; obtain ⟨A3, c3, rfl, h31, h32, _⟩ := hO3.sl; have HB3 := hide (HB2.out.trans (hb3.mono HB2.out.size)); clear hb3 hO3))
        generalize hW : w3.alloc _ = W
        have hsW : W.heap.size = w3.heap.size + 1 := by rw [← hW]; simp
        have HBk := hide (show Blk W w3.heap.size 148 (snapC SS0 0 0) by rw [← hW, snapC_zero]; exact Blk.new w3 _ _)
        have HB4 := hide (show Below w.heap.size w W by rw [← hW]; exact HB3.out.alloc HB3.out.size _)
        have hw3 := HB3.out.size
        clear hW
        go_loopw [7, 29] (fun _ i wr => ∃ (k : Nat) (S : SS) (bg cm : Nat), k ≤ ns.length ∧ i = .int .i64 k ∧ Hid (snapRun xs SS0 (ns.take k) = some S) ∧ Hid (Blk wr w3.heap.size 148 (snapC S bg cm)) ∧ Hid (Bits1 bg S.seen) ∧ Hid (Bits2 cm S.seen) ∧ Hid (Only (fun b => b = w3.heap.size) W wr)) (fun _ i _ => ns.length - (intOf i).toNat)
        case atStart => exact ⟨0, SS0, 0, 0, Nat.zero_le _, rfl, rfl, HBk.out, Bits1.zero, Bits2.zero, Only.refl _ _⟩
        case round =>
          obtain ⟨k, S, bg, cm, hk, rfl, hS, hBk, h1, h2, hO⟩ := hrel
          have HS := hide hS.out; have HBk := hide hBk.out; have H1 := hide h1.out; have H2 := hide h2.out; have HO := hide hO.out
          have HBr := hide (below_only HB4.out hO.out HB4.out.size (fun i h => by omega))
          clear hS hBk h1 h2 hO
          by_cases hlt : k < ns.length
          · obtain ⟨b, off, rfl, hbS, d0⟩ := at_Int HN.out HBr.out hlt
            have HTk := hide (snapRun_take xs ns k hlt S HS.out)
            have HSp := hide (snapRun_stop xs ns k hlt S HS.out)
            have hver : ∀ key, 0 ≤ S.ver key ∧ S.ver key ≤ 1000 := fun key => by
              have h9 := snapRun_ver HS.out key
              rw [List.length_take] at h9
              have : SS0.ver key = 0 := rfl
              omega
            cases hin : inR ns[k] 0 ((xs.length : Int) - 1) with
            | false =>
              have HF := hide (show srB xs ns = false by rw [HSr.out, HSp.out (snapNext_out xs S _ hin)]; rfl)
              clear HTk HSp hver
              go_wp2_with (go_at_call 81; refine (within _ _ _ _).mono ?_; rintro e w' ⟨rfl, rfl⟩; rw [hin])
              go_ret
              exact ⟨ret_bool HF.out.symm, HBr.out⟩
            | true =>
              obtain ⟨hn0, hn1⟩ := inR_iff.1 hin
              obtain ⟨n, hn⟩ : ∃ n : Nat, ns[k] = (n : Int) := ⟨ns[k].toNat, by omega⟩
              have hnl : n < xs.length := by omega
              rw [hn] at d0 hin HTk HSp
              have HNc := hide (HNx.out S bg cm n w3.heap.size wr hnl HBk.out H1.out H2.out hver (HA.out.mono (fun b hb => ⟨Nat.lt_of_lt_of_le hb HBr.out.size, by unfold Old at hb; omega⟩) (fun b hb => HBr.out.block b hb)))
              have hn0' : ns[k].toNat = n := by omega
              clear hver hn hn0 hn1 HS
              go_wp2_with (go_at_call 81; refine (within _ _ _ _).mono ?_; rintro e w' ⟨rfl, rfl⟩; rw [hin])
              refine HNc.out.mono ?_
              rintro e w6 ⟨hP, hO6⟩
              have HO6 := hide (HO.out.trans hO6)
              have HB6 := hide (below_only HBr.out hO6 HBr.out.size (fun i h => by omega))
              clear hO6
              rcases hP with ⟨S', bg', cm', hs', rfl, hB', hb1, hb2⟩ | ⟨hs', rfl⟩
              · have HS2 := hide (HTk.out.trans hs')
                have HB' := hide hB'; have Hb1 := hide hb1; have Hb2 := hide hb2
                clear hs' hB' hb1 hb2 HTk HSp
                go_wp2_with fail
                go_roundw
                case rel => exact ⟨k + 1, S', bg', cm', by omega, by go_num, HS2.out, HB'.out, Hb1.out, Hb2.out, HO6.out⟩
                case measure => simp [intOf]; omega
              · have HF := hide (show srB xs ns = false by rw [HSr.out, HSp.out hs']; rfl)
                clear hs' HTk HSp
                go_wp2_with fail
                go_ret
                exact ⟨ret_bool HF.out.symm, HB6.out⟩
          · obtain rfl : k = ns.length := by omega
            have HT := hide (show srB xs ns = true by have h := HS.out; rw [List.take_length] at h; rw [HSr.out, h]; rfl)
            clear HS
            go_wp2_with fail
            go_ret
            exact ⟨ret_bool HT.out.symm, HBr.out⟩
      · have hli : ((ns.length : Int) != 2 * (D.length : Int)) = true := by rw [bne_iff_ne]; omega
        have HSr := hide (show srB xs ns = false by rw [HSr.out, decide_eq_false hl]; rfl)
        clear hl
        go_enter Tryz.func94, Tryz.ntmps94
        go_wp2_with (first | (go_at_call 66; refine HC.out.mono ?_; rintro e w1 ⟨rfl, hb1⟩; have HB1 := hide hb1; clear hb1) | (go_at_call 145; refine (HFi.out _ HB1.out).mono ?_; rintro e w2 ⟨rfl, hb2⟩; have HB2 := hide (HB1.out.trans (hb2.mono HB1.out.size)); clear hb2) | (go_at_call 52; refine (HDn.out _ HB2.out).mono ?_; rintro e w3 ⟨v3, rfl, hO3, hb3⟩; obtain ⟨A3, c3, rfl, h31, h32, _⟩ := hO3.sl; have HB3 := hide (HB2.out.trans (hb3.mono HB2.out.size)); clear hb3 hO3))
        go_ret
        exact ⟨ret_bool HSr.out.symm, HB3.out⟩
set_option maxHeartbeats 1000000 in
theorem l13Count_pure (xs : List Int) (n : Int) (A : Option Addr) (c : Nat) (w : World) (hm : xs.length ≤ maxLen) (hA : Row tInt w (Old w) A xs) :
    Calls Tryz.prog 97 #[.slice A xs.length c, .int .i64 n] w fun e w' => e = .returned (.int .i64 (xs.count n : Nat)) ∧ w = w' := by
  unfold maxLen at hm
  have HA := hide hA
  clear hA
  go_enter Tryz.func97, Tryz.ntmps97
  go_wp2
  go_loopw [5, 6] (fun m i wr => wr = w ∧ ∃ k q : Nat, k ≤ xs.length ∧ i = .int .i64 k ∧ m = .int .i64 q ∧ Hid (q = (xs.take k).count n) ∧ q ≤ k) (fun _ i _ => xs.length - (intOf i).toNat)
  case atStart => exact ⟨rfl, 0, 0, Nat.zero_le _, rfl, rfl, by simp [Hid], Nat.le_refl _⟩
  case round =>
    obtain ⟨rfl, k, q, hk, rfl, rfl, hq, hqk⟩ := hrel
    by_cases hlt : k < xs.length
    · obtain ⟨b, off, rfl, hbS, c0⟩ := at_Int HA.out (Below.refl _ _) hlt
      have HS := hide (count_take xs n k hlt)
      by_cases he : xs[k] = n
      · rw [if_pos he] at HS
        have hbe : (xs[k] == n) = true := by simpa using he
        have HS2 := hide (show q + 1 = (xs.take (k + 1)).count n by rw [HS.out, hq.out])
        clear he HS hq
        go_wp2
        go_roundw
        case rel => exact ⟨trivial, k + 1, q + 1, by omega, by go_num, by go_num, HS2.out, by omega⟩
        case measure => simp [intOf]; omega
      · rw [if_neg he] at HS
        have hbe : (xs[k] == n) = false := by simpa using he
        have HS2 := hide (show q = (xs.take (k + 1)).count n by rw [HS.out, hq.out]; rfl)
        clear he HS hq
        go_wp2
        go_roundw
        case rel => exact ⟨trivial, k + 1, q, by omega, by go_num, rfl, HS2.out, by omega⟩
        case measure => simp [intOf]; omega
    · obtain rfl : k = xs.length := by omega
      have HQ := hide (show q = xs.count n by have := hq.out; rwa [List.take_length] at this)
      clear hq
      go_wp2
      go_ret
      exact ⟨by rw [← HQ.out]; rfl, rfl⟩
theorem Row.take_ {α : Type} {T : Ty α} {w : World} {S : Nat → Prop} {A : Option Addr} {xs : List α} (h : Row T w S A xs) (k : Nat) : Row T w S A (xs.take k) := fun hp => by
  rw [List.length_take] at hp
  obtain ⟨b, off, rfl, hb, hr⟩ := h (by omega)
  refine ⟨b, off, rfl, hb, fun j hj => ?_⟩
  rw [List.length_take] at hj
  obtain ⟨cs, hrel, hcs⟩ := hr j (by omega)
  exact ⟨cs, by rw [List.getElem_take]; exact hrel, hcs⟩
def keyRun (h : List Txn) (p : List Int) (n : Int) (k : Nat) (s : St) : Nat → Option St
  | 0 => some s
  | j + 1 => (keyRun h p n k s j).bind (keyStep h p n k (j : Int))
theorem keyRun3 (h : List Txn) (p : List Int) (n : Int) (k : Nat) (s : St) : keyRun h p n k s 3 = ((keyStep h p n k 0 s).bind (keyStep h p n k 1)).bind (keyStep h p n k 2) := rfl
theorem specRun_stop (h : List Txn) (p : List Int) (s : St) : ∀ m k, k < m → specRun h p k = some s → specStep h p k s = none → specRun h p m = none
  | 0, k, hk, _, _ => absurd hk (by omega)
  | m + 1, k, hk, h1, h2 => by
    rw [specRun]
    by_cases hkm : k = m
    · subst hkm; rw [h1, Option.bind_some, h2]
    · rw [specRun_stop h p s m k (by omega) h1 h2]; rfl
theorem keyRun_none (h : List Txn) (p : List Int) (n : Int) (k : Nat) (s s' : St) (j : Nat) (hj : j < 3) (h1 : keyRun h p n k s j = some s') (h2 : keyStep h p n k (j : Int) s' = none) : keyRun h p n k s 3 = none := by
  rcases (show j = 0 ∨ j = 1 ∨ j = 2 by omega) with rfl | rfl | rfl
  · rw [keyRun, keyRun, keyRun, h1, Option.bind_some, h2]; rfl
  · rw [keyRun, keyRun, h1, Option.bind_some, h2]; rfl
  · rw [keyRun, h1, Option.bind_some, h2]
theorem hasW_none {ops : List Op} {key : Int} (h : lastW ops key = none) : hasW ops key = -1 := by unfold hasW; rw [h]; rfl
theorem hasW_some {ops : List Op} {key : Int} {o : Op} (h : lastW ops key = some o) : hasW ops key = o.Value := by unfold hasW; rw [h]; rfl
theorem hasW_ge {ops : List Op} (hok : ∀ o ∈ ops, opOk o = true) (key : Int) : decide (0 ≤ hasW ops key) = (lastW ops key).isSome := by
  cases h : lastW ops key with
  | none => rw [hasW_none h]; rfl
  | some o =>
    rw [hasW_some h]
    have := (opOk_parts (hok o (lastW_some h).1)).2.2.1
    simpa using this
theorem confB_hit {h : List Txn} {p : List Int} {key b : Int} {k j : Nat} (hj : j < k) (hb : b < (j : Int)) (hc : isC h p key j = true) : confB h p key b k = true := by
  unfold confB
  rw [List.any_eq_true]
  exact ⟨j, List.mem_range.2 hj, by simp [hb, hc]⟩
theorem confB_miss {h : List Txn} {p : List Int} {key b : Int} {k : Nat} (hn : ∀ j : Nat, b < (j : Int) → j < k → isC h p key j = false) : confB h p key b k = false := by
  unfold confB
  rw [List.any_eq_false]
  intro j hj
  have hjk := List.mem_range.1 hj
  by_cases hb : b < (j : Int)
  · simp [hn j hb hjk]
  · simp [hb]
theorem lastI_succ (p : List Int) (n : Int) (j : Nat) (hj : j < p.length) : lastI p n (j + 1) = if p[j] = n then (j : Int) else lastI p n j := by
  rw [lastI, List.getD_eq_getElem?_getD, List.getElem?_eq_getElem hj]; rfl
set_option maxRecDepth 10000 in
set_option maxHeartbeats 8000000 in
theorem specRuns13 (xs : List Txn) (ns : List Int) (A B : Option Addr) (c d : Nat) (w : World) (hv : histV xs = true) (hmn : ns.length ≤ 1048576) (hd1 : ns.length ≤ d) (hd2 : d ≤ maxLen) (hin : ∀ n ∈ ns, 0 ≤ n ∧ n < xs.length) (hA : Row tTxn w (Old w) A xs) (hB : Row tInt w (Old w) B ns) :
    Calls Tryz.prog 99 #[.slice A xs.length c, .slice B ns.length d] w fun e w' => e = .returned (.bool (l13R xs ns)) ∧ Below w.heap.size w w' := by
  obtain ⟨i0, hi, hz0, hz1, hz2⟩ := info_parts infoInt_
  have hmk : ∀ W : World, (Instr.makeSlice 30 (.int .i64 3) (.int .i64 3)).run Tryz.prog W = .ok (.slice (some ⟨W.heap.size, 0, none⟩) 3 3) (W.alloc (.cells (cells3 St0) 3)) := fun W => by
    have h := run_make_rowN (P := Tryz.prog) 30 3 i0 (.int .i64 0) Tryz.underlying30 hi hz0 .i64 .i64 3 3 (Nat.le_refl _) (by rw [hz2]; omega) (by omega) W
    rw [hz1] at h
    rw [← made3]
    exact h
  have hx6 : xs.length ≤ 6 := (histV_parts hv).1
  have hq : xs.length ≤ 9223372036854775807 := by omega
  have hqn : ns.length ≤ 9223372036854775807 := by omega
  have hqd : d ≤ 9223372036854775807 := by simpa [maxLen] using hd2
  have HV := hide (histV_parts hv).2
  have HA := hide hA; have HB := hide hB; have HIn := hide hin
  have HBk0 := hide (Blk.new w 3 (cells3 St0))
  have HLR := hide (show l13R xs ns = (specRun xs ns ns.length).isSome from rfl)
  clear hA hB hin hv
  go_enter Tryz.func99, Tryz.ntmps99
  go_wp2
  clear hmk
  go_loopw [6, 7, 8, 9, 10, 11, 12, 13, 14] (fun i _ _ _ _ _ _ _ _ wr => ∃ (k : Nat) (s : St), k ≤ ns.length ∧ i = .int .i64 k ∧ Hid (specRun xs ns k = some s) ∧ Hid (Blk wr w.heap.size 3 (cells3 s)) ∧ Hid (Below w.heap.size w wr)) (fun i _ _ _ _ _ _ _ _ _ => ns.length - (intOf i).toNat)
  case atStart => exact ⟨0, St0, Nat.zero_le _, rfl, rfl, HBk0.out, (Below.refl _ w).alloc (Nat.le_refl _) _⟩
  case round =>
    obtain ⟨k, s, hk, rfl, hR, hS, hb⟩ := hrel
    clear HBk0
    have HR := hide hR.out; have HS := hide hS.out; have Hb := hide hb.out
    clear hR hS hb
    by_cases hlt : k < ns.length
    · obtain ⟨b0, off0, hBe, hbS0, c0⟩ := at_Int HB.out Hb.out hlt
      subst hBe
      obtain ⟨hn0, hn1⟩ := HIn.out _ (List.getElem_mem hlt)
      obtain ⟨m, hm⟩ : ∃ m : Nat, ns[k] = (m : Int) := ⟨ns[k].toNat, by omega⟩
      have hml : m < xs.length := by omega
      have HGd := hide (show ns.getD k 0 = (m : Int) by rw [List.getD_eq_getElem?_getD, List.getElem?_eq_getElem hlt]; exact hm)
      rw [hm] at c0
      have htx := HV.out _ (List.getElem_mem hml)
      have HOk := hide (txnOk_parts htx).1
      have ho6 := (txnOk_parts htx).2
      have HOps := hide (show opsOf xs (m : Int) = xs[m].Ops by unfold opsOf; rw [Int.toNat_natCast, List.getElem?_eq_getElem hml]; rfl)
      have HTx := hide htx
      clear hm hn0 hn1 htx
      go_wp2_with fail
      obtain ⟨wo, hwo⟩ : ∃ wo : World, wo = wr := ⟨_, rfl⟩
      rw [← hwo] at HS Hb c0 ⊢
      clear hwo
      go_loopw [8, 9] (fun bg j wr2 => wr2 = wo ∧ ∃ l : Nat, l ≤ k ∧ j = .int .i64 l ∧ bg = .int .i64 (lastI ns m l)) (fun _ j _ => k - (intOf j).toNat)
      case atStart => exact ⟨rfl, 0, Nat.zero_le _, rfl, rfl⟩
      case round =>
        obtain ⟨rfl, l, hl, rfl, rfl⟩ := hrel
        by_cases hlk : l < k
        · obtain ⟨b1, off1, hBe, hbS1, c1⟩ := at_Int HB.out Hb.out (show l < ns.length by omega)
          obtain ⟨rfl, rfl⟩ : b0 = b1 ∧ off0 = off1 := by simpa using hBe
          have HL := hide (lastI_succ ns m l (by omega))
          have hlk' : (l : Int) < (k : Int) := by omega
          clear hBe hbS1
          by_cases he : ns[l] = (m : Int)
          · rw [if_pos he] at HL
            have hbe : (ns[l] == (m : Int)) = true := by simpa using he
            clear he
            go_wp2_with fail
            go_roundw
            case rel => exact ⟨trivial, l + 1, by omega, by go_num, by rw [HL.out]⟩
            case measure => simp [intOf]; omega
          · rw [if_neg he] at HL
            have hbe : (ns[l] == (m : Int)) = false := by simpa using he
            clear he
            go_wp2_with fail
            go_roundw
            case rel => exact ⟨trivial, l + 1, by omega, by go_num, by rw [HL.out]⟩
            case measure => simp [intOf]; omega
        · obtain rfl : l = k := by omega
          have HLt := lastI_lt ns m l
          have hlk' : ¬ (l : Int) < (l : Int) := by omega
          have HSt := hide (show specStep xs ns l s = (if lastI ns m l < 0 then (if readsFit s (firstR xs[m].Ops) then some s else none) else keyRun xs ns m l s 3) by
            unfold specStep
            rw [HGd.out, HOps.out, keyRun3])
          have HRs := hide (show specRun xs ns (l + 1) = specStep xs ns l s by rw [specRun, HR.out]; rfl)
          have HSp := hide (fun (h : specStep xs ns l s = none) => (show l13R xs ns = false by rw [HLR.out, specRun_stop xs ns s ns.length l hlt HR.out h]; rfl))
          clear HR
          obtain ⟨b, off, A2, c2, hA2, hbS, d0, d1, d3, hj1, hj2, hj3⟩ := at_Txn HA.out Hb.out hml
          subst hA2
          have HRow := hide hj3
          clear hj3
          by_cases hneg : lastI ns m l < 0
          · have HSt := hide (HSt.out.trans (if_pos hneg))
            have HFR := hide (specFirstReads xs[m] A2 c2 wr HTx.out HRow.out)
            have HRok := hide (fun o (ho : o ∈ firstR xs[m].Ops) => HOk.out o (firstRs_mem ho))
            have hRl : (firstR xs[m].Ops).length ≤ 6 := Nat.le_trans (firstRs_len _ _) ho6
            generalize lastI ns m l = bgn at hneg HLt
            generalize firstR xs[m].Ops = R at HFR HRok hRl HSt
            have hRq : R.length ≤ 9223372036854775807 := by omega
            go_wp2_with (go_at_call 57; refine HFR.out.mono ?_; rintro e w4 ⟨v4, rfl, hO4, hb4⟩; obtain ⟨A4, c4, rfl, h41, h42, h43⟩ := hO4.sl; have HR4 := hide (h43.mono (S' := Old w4) (fun b h => h.2) (fun _ _ => rfl)); have HS4 := hide (HS.out.below hb4 HS.out.lt); have Hb4 := hide (Hb.out.trans (hb4.mono Hb.out.size)); clear hb4 h43 hO4)
            clear d0 d1 d3 c0
            go_loopw [11] (fun i wr2 => ∃ q : Nat, q ≤ R.length ∧ i = .int .i64 q ∧ Hid (readsFit s (R.take q) = true) ∧ Hid (Below w4.heap.size w4 wr2)) (fun i _ => R.length - (intOf i).toNat)
            case atStart => exact ⟨0, Nat.zero_le _, rfl, rfl, Below.refl _ _⟩
            case round =>
              obtain ⟨q, hqR, rfl, hF, hb⟩ := hrel
              have HF := hide hF.out; have HBr := hide hb.out
              have HS5 := hide (HS4.out.below hb.out HS4.out.lt)
              have HB5 := hide (Hb4.out.trans (hb.out.mono Hb4.out.size))
              clear hF hb
              by_cases hltR : q < R.length
              · obtain ⟨b4, off4, rfl, hbS4, x0, x1, x2⟩ := at_Op HR4.out HBr.out hltR
                have hp := opOk_parts (HRok.out _ (List.getElem_mem hltR))
                have HFt := hide (fit_take s R q hltR HF.out)
                have HFs := hide (fit_stop s R q hltR)
                generalize R[q] = o at x0 x1 x2 hp HFt HFs
                obtain ⟨kd, ky, vl⟩ := o
                dsimp only at x0 x1 x2 hp HFt HFs
                obtain ⟨_, hky, _, _, _⟩ := hp
                have p0 := HS5.out.cell 0; have p1 := HS5.out.cell 1; have p2 := HS5.out.cell 2
                simp only [cells3, List.getElem?_toArray, List.getElem?_cons_zero, List.getElem?_cons_succ] at p0 p1 p2
                have hb5 := HS5.out.lt
                cases hne : (s ky == vl) with
                | true =>
                  have HF2 := hide (HFt.out hne)
                  have hne2 : (s ky != vl) = false := by unfold bne; rw [hne]; rfl
                  clear HFt HFs hne
                  rcases hky with rfl | rfl | rfl
                  · go_wp2_with fail
                    go_quiet (fail)
                    go_wp2_with fail
                    go_roundw
                    case rel => exact ⟨q + 1, by omega, by go_num, HF2.out, below_drewN HBr.out _⟩
                    case measure => simp [intOf]; omega
                  · go_wp2_with fail
                    go_quiet (fail)
                    go_wp2_with fail
                    go_roundw
                    case rel => exact ⟨q + 1, by omega, by go_num, HF2.out, below_drewN HBr.out _⟩
                    case measure => simp [intOf]; omega
                  · go_wp2_with fail
                    go_quiet (fail)
                    go_wp2_with fail
                    go_roundw
                    case rel => exact ⟨q + 1, by omega, by go_num, HF2.out, below_drewN HBr.out _⟩
                    case measure => simp [intOf]; omega
                | false =>
                  have HF := hide (show l13R xs ns = false from HSp.out (by rw [HSt.out, HFs.out hne]; rfl))
                  have hne2 : (s ky != vl) = true := by unfold bne; rw [hne]; rfl
                  clear HFt HFs hne
                  rcases hky with rfl | rfl | rfl
                  · go_wp2_with fail
                    go_quiet (fail)
                    go_wp2_with fail
                    go_ret
                    exact ⟨ret_bool HF.out.symm, below_drewN HB5.out _⟩
                  · go_wp2_with fail
                    go_quiet (fail)
                    go_wp2_with fail
                    go_ret
                    exact ⟨ret_bool HF.out.symm, below_drewN HB5.out _⟩
                  · go_wp2_with fail
                    go_quiet (fail)
                    go_wp2_with fail
                    go_ret
                    exact ⟨ret_bool HF.out.symm, below_drewN HB5.out _⟩
              · obtain rfl : q = R.length := by omega
                have HN := hide (show specRun xs ns (l + 1) = some s by have h := HF.out; rw [List.take_length] at h; rw [HRs.out, HSt.out, h]; rfl)
                clear HF
                go_wp2_with fail
                go_roundw
                case rel => exact ⟨l + 1, s, by omega, by go_num, HN.out, HS5.out, HB5.out⟩
                case measure => simp [intOf]; omega
          · have HSt := hide (HSt.out.trans (if_neg hneg))
            have hge := lastI_ge ns m l
            obtain ⟨bn, hbn⟩ : ∃ bn : Nat, lastI ns m l = (bn : Int) := ⟨(lastI ns m l).toNat, by omega⟩
            have HK0 := hide (fun (key : Nat) (s' : St) (h : lastW xs[m].Ops (key : Int) = none) => (show keyStep xs ns m l (key : Int) s' = some s' by unfold keyStep; rw [HOps.out, h]))
            have HK1 := hide (fun (key : Nat) (s' : St) (o : Op) (h : lastW xs[m].Ops (key : Int) = some o) => (show keyStep xs ns m l (key : Int) s' = if confB xs ns (key : Int) (bn : Int) l then none else some (s'.put (key : Int) o.Value) by unfold keyStep; rw [HOps.out, h, hbn]))
            rw [hbn] at HLt hneg ⊢
            clear hbn hge
            have hbl : bn < l := by omega
            go_wp2_with fail
            clear d0 d1 d3 hj1 hj2
            go_loopw [12, 13, 14] (fun i _ _ wr2 => ∃ (key : Nat) (s' : St), key ≤ 3 ∧ i = .int .i64 key ∧ Hid (keyRun xs ns m l s key = some s') ∧ Hid (Blk wr2 w.heap.size 3 (cells3 s')) ∧ Hid (Below w.heap.size w wr2)) (fun i _ _ _ => 3 - (intOf i).toNat)
            case atStart => exact ⟨0, s, by omega, rfl, rfl, HS.out, Hb.out⟩
            case round =>
              obtain ⟨key, s', hkey, rfl, hK, hS5, hb5⟩ := hrel
              have HK := hide hK.out; have HS5 := hide hS5.out; have HB5 := hide hb5.out
              clear hK hS5 hb5
              by_cases hlt3 : key < 3
              · have hk3 : decide ((key : Int) ≤ 2) = true := decide_eq_true (by omega)
                have hky : (key : Int) = 0 ∨ (key : Int) = 1 ∨ (key : Int) = 2 := by omega
                have HKn := hide (show keyRun xs ns m l s (key + 1) = keyStep xs ns m l (key : Int) s' by rw [keyRun, HK.out]; rfl)
                have HStp := hide (fun (h : keyStep xs ns m l (key : Int) s' = none) => HSp.out (by rw [HSt.out, keyRun_none xs ns m l s s' key hlt3 HK.out h]))
                obtain ⟨b', off', A3, c3, hAe, _, d0, d1, d3, hj1, hj2, hj3⟩ := at_Txn HA.out HB5.out hml
                obtain ⟨rfl, rfl⟩ : b = b' ∧ off = off' := by simpa using hAe
                have HHas := hide (l13Has_any xs[m] (key : Int) A3 c3 wr HTx.out hky hj3)
                clear hAe hj3 hj1 hj2
                cases hlw : lastW xs[m].Ops (key : Int) with
                | none =>
                  rw [hasW_none hlw] at HHas
                  have HK2 := hide (show keyRun xs ns m l s (key + 1) = some s' from HKn.out.trans (HK0.out key s' hlw))
                  clear hlw HKn HStp
                  go_wp2_with (go_at_call 96; refine HHas.out.mono ?_; rintro e w6 ⟨rfl, hb6⟩; have HS6 := hide (HS5.out.below hb6 HS5.out.lt); have HB6 := hide (HB5.out.trans (hb6.mono HB5.out.size)); clear hb6)
                  refine wp_loop_rounds 1 ?_
                  rw [rounds_succ]
                  by_cases hj : bn + 1 < l
                  · have hdj : decide ((bn : Int) + 1 < (l : Int)) = true := decide_eq_true (by omega)
                    have hdn : decide ((0 : Int) ≤ -1) = false := by decide
                    clear hj
                    go_wp2_with fail
                    go_roundw
                    case rel => exact ⟨key + 1, s', by omega, by go_num, HK2.out, HS6.out, HB6.out⟩
                    case measure => simp [intOf]; omega
                  · have hdj : decide ((bn : Int) + 1 < (l : Int)) = false := decide_eq_false (by omega)
                    have hdn : decide ((0 : Int) ≤ -1) = false := by decide
                    clear hj
                    go_wp2_with fail
                    go_roundw
                    case rel => exact ⟨key + 1, s', by omega, by go_num, HK2.out, HS6.out, HB6.out⟩
                    case measure => simp [intOf]; omega
                | some o =>
                  rw [hasW_some hlw] at HHas
                  have hv0 := (opOk_parts (HOk.out o (lastW_some hlw).1)).2.2.1
                  have hdv : decide ((0 : Int) ≤ o.Value) = true := decide_eq_true hv0
                  have HK2 := hide (HKn.out.trans (HK1.out key s' o hlw))
                  have HStp2 := hide (fun (h : confB xs ns (key : Int) (bn : Int) l = true) => HStp.out ((HK1.out key s' o hlw).trans (if_pos h)))
                  clear hlw HKn HStp
                  generalize o.Value = vl at HHas hv0 hdv HK2
                  go_wp2_with (go_at_call 96; refine HHas.out.mono ?_; rintro e w6 ⟨rfl, hb6⟩; have HS6 := hide (HS5.out.below hb6 HS5.out.lt); have HB6 := hide (HB5.out.trans (hb6.mono HB5.out.size)); clear hb6)
                  clear d0 d1 d3
                  obtain ⟨bq, hbq⟩ : ∃ bq : Nat, bq = bn + 1 := ⟨_, rfl⟩
                  have hb1 : ((bn : Int) + 1) = (bq : Int) := by omega
                  rw [hb1]
                  have HBq := hide hbq
                  clear hb1 hbq
                  go_loopw [14] (fun i wr2 => ∃ j : Nat, bq ≤ j ∧ j ≤ l ∧ i = .int .i64 j ∧ Hid (∀ i : Nat, (bn : Int) < (i : Int) → i < j → isC xs ns (key : Int) i = false) ∧ Hid (Below w6.heap.size w6 wr2)) (fun i _ => l - (intOf i).toNat)
                  case atStart => exact ⟨bq, Nat.le_refl _, by have := HBq.out; omega, rfl, fun i h1 h2 => by have := HBq.out; omega, Below.refl _ _⟩
                  case round =>
                    obtain ⟨j, hj1, hjl, rfl, hN, hb⟩ := hrel
                    have HN := hide hN.out; have HB7 := hide (HB6.out.trans (hb.out.mono HB6.out.size)); have Hbw := hide hb.out
                    have HS7 := hide (HS6.out.below hb.out HS6.out.lt)
                    clear hN hb
                    by_cases hjlt : j < l
                    · have hdj : decide ((j : Int) < (l : Int)) = true := decide_eq_true (by omega)
                      have hjn : j < ns.length := by omega
                      obtain ⟨b2, off2, hBe, hbs2, e0⟩ := at_Int HB.out HB7.out hjn
                      obtain ⟨rfl, rfl⟩ : b0 = b2 ∧ off0 = off2 := by simpa using hBe
                      clear hBe
                      obtain ⟨hn0, hn1⟩ := HIn.out _ (List.getElem_mem hjn)
                      obtain ⟨m2, hm2⟩ : ∃ m2 : Nat, ns[j] = (m2 : Int) := ⟨ns[j].toNat, by omega⟩
                      have hml2 : m2 < xs.length := by omega
                      have HIs := hide (show isC xs ns (key : Int) j = ((ns.take j).count (m2 : Int) == 1 && (lastW xs[m2].Ops (key : Int)).isSome) by
                        unfold isC
                        rw [List.getD_eq_getElem?_getD, List.getElem?_eq_getElem hjn, Option.getD_some, hm2]
                        unfold opsOf
                        rw [Int.toNat_natCast, List.getElem?_eq_getElem hml2]; rfl)
                      rw [hm2] at e0
                      have hlenj : (ns.take j).length = j := by rw [List.length_take]; omega
                      have HCnt := hide (fun (W : World) (hW : Below w.heap.size w W) => (l13Count_pure (ns.take j) (m2 : Int) (some ⟨b0, off0, none⟩) d W (by rw [hlenj]; simp only [maxLen]; omega) ((HB.out.old hW).take_ j)))
                      rw [hlenj] at HCnt
                      have hjd : (j : Int) ≤ (d : Int) := by omega
                      obtain ⟨b3, off3, A5, c5, hAe, _, g0, g1, g3, _, _, hR5⟩ := at_Txn HA.out HB7.out hml2
                      obtain ⟨rfl, rfl⟩ : b = b3 ∧ off = off3 := by simpa using hAe
                      have HR5 := hide hR5
                      have HNx := hide (fun (h : isC xs ns (key : Int) j = false) (i : Nat) (h1 : (bn : Int) < (i : Int)) (h2 : i < j + 1) => (show isC xs ns (key : Int) i = false by
                        by_cases hij : i < j
                        · exact HN.out i h1 hij
                        · obtain rfl : i = j := by omega
                          exact h))
                      have HHit := hide (fun (h : isC xs ns (key : Int) j = true) => HStp2.out (confB_hit hjlt (by have := HBq.out; omega) h))
                      clear hm2 hn0 hn1 hAe hR5 hlenj
                      cases hcn : ((ns.take j).count (m2 : Int) == 1) with
                      | false =>
                        have hci : ((((ns.take j).count (m2 : Int) : Nat) : Int) == 1) = false := by rw [beq_eq_false_iff_ne] at hcn ⊢; omega
                        have HF := hide (HNx.out (by rw [HIs.out, hcn]; rfl))
                        have HBel := hide (fun n => below_drewN HB7.out n)
                        clear hcn HIs HNx HHit
                        go_wp2_with fail
                        go_quiet ((go_at_call 97; exact Calls.quiet_of_same ((HCnt.out _ (HBel.out _)).mono (fun _ _ h => ⟨h.1, h.2.symm⟩))))
                        go_wp2_with fail
                        go_roundw
                        case rel => exact ⟨j + 1, by omega, by omega, by go_num, HF.out, below_drewN Hbw.out _⟩
                        case measure => simp [intOf]; omega
                      | true =>
                        have hci : ((((ns.take j).count (m2 : Int) : Nat) : Int) == 1) = true := by rw [beq_iff_eq] at hcn ⊢; omega
                        have HTx2 := hide (HV.out _ (List.getElem_mem hml2))
                        have hz0 : b0 < wr.heap.size := Nat.lt_of_lt_of_le hbs2 HB7.out.size
                        have hz1 : b < wr.heap.size := Nat.lt_of_lt_of_le hbS HB7.out.size
                        have hge2 := hasW_ge (txnOk_parts (HV.out _ (List.getElem_mem hml2))).1 (key : Int)
                        cases hl2 : lastW xs[m2].Ops (key : Int) with
                        | none =>
                          have HF := hide (HNx.out (by rw [HIs.out, hl2]; simp))
                          have HHv := hide (hasW_none hl2)
                          have hgf : decide ((0 : Int) ≤ -1) = false := by decide
                          clear hl2 hcn HIs HNx HHit hge2
                          have HHas2 := hide (l13Has_any xs[m2] (key : Int) A5 c5 wr.drew HTx2.out hky (HR5.out.old ((Below.refl _ wr).drew)))
                          rw [HHv.out] at HHas2
                          go_upto_region 26 with (fail)
                          go_region_held3 (fun W => W.cell? ⟨b0, off0 + j, none⟩ = some (.int .i64 m2) ∧ W.cell? ⟨b, off + m2 * 3, none⟩ = some (.int .i64 xs[m2].Session) ∧ W.cell? ⟨b, off + m2 * 3 + 1, none⟩ = some (.slice A5 xs[m2].Ops.length c5) ∧ W.cell? ⟨b, off + m2 * 3 + 2, none⟩ = some (.bool xs[m2].Done) ∧ Below w.heap.size w W)
                            (first
                              | ((try dsimp only); exact ⟨e0, g0, g1, g3, HB7.out.drew⟩)
                              | ((try dsimp only); exact ⟨(HB8.out.cell (p := ⟨b0, off0 + j, none⟩) hz0).trans e0, (HB8.out.cell (p := ⟨b, off + m2 * 3, none⟩) hz1).trans g0, (HB8.out.cell (p := ⟨b, off + m2 * 3 + 1, none⟩) hz1).trans g1, (HB8.out.cell (p := ⟨b, off + m2 * 3 + 2, none⟩) hz1).trans g3, HB9.out⟩)
                              | go_keep)
                            ((first
                              | (go_at_call 97; refine (HCnt.out _ HB7.out.drew).mono ?_; rintro e w' ⟨rfl, rfl⟩)
                              | (go_at_call 96; refine HHas2.out.mono ?_; rintro e w8 ⟨rfl, hb8⟩; have HB8 := hide ((Below.refl _ wr).drew.trans hb8); have HB9 := hide (HB7.out.drew.trans (hb8.mono HB7.out.size)); clear hb8)))
                          go_wp2_with fail
                          go_roundw
                          case rel => exact ⟨j + 1, by omega, by omega, by go_num, HF.out, Hbw.out.trans (HB8.out.mono Hbw.out.size)⟩
                          case measure => simp [intOf]; omega
                        | some o2 =>
                          have HF := hide (HHit.out (by rw [HIs.out, hcn, hl2]; rfl))
                          have HHv := hide (hasW_some hl2)
                          rw [hasW_some hl2, hl2] at hge2
                          have hge3 : (0 : Int) ≤ o2.Value := of_decide_eq_true hge2
                          clear hl2 hcn HIs HNx HHit
                          have HHas2 := hide (l13Has_any xs[m2] (key : Int) A5 c5 wr.drew HTx2.out hky (HR5.out.old ((Below.refl _ wr).drew)))
                          rw [HHv.out] at HHas2
                          go_upto_region 26 with (fail)
                          go_region_held3 (fun W => W.cell? ⟨b0, off0 + j, none⟩ = some (.int .i64 m2) ∧ W.cell? ⟨b, off + m2 * 3, none⟩ = some (.int .i64 xs[m2].Session) ∧ W.cell? ⟨b, off + m2 * 3 + 1, none⟩ = some (.slice A5 xs[m2].Ops.length c5) ∧ W.cell? ⟨b, off + m2 * 3 + 2, none⟩ = some (.bool xs[m2].Done) ∧ Below w.heap.size w W)
                            (first
                              | ((try dsimp only); exact ⟨e0, g0, g1, g3, HB7.out.drew⟩)
                              | ((try dsimp only); exact ⟨(HB8.out.cell (p := ⟨b0, off0 + j, none⟩) hz0).trans e0, (HB8.out.cell (p := ⟨b, off + m2 * 3, none⟩) hz1).trans g0, (HB8.out.cell (p := ⟨b, off + m2 * 3 + 1, none⟩) hz1).trans g1, (HB8.out.cell (p := ⟨b, off + m2 * 3 + 2, none⟩) hz1).trans g3, HB9.out⟩)
                              | go_keep)
                            ((first
                              | (go_at_call 97; refine (HCnt.out _ HB7.out.drew).mono ?_; rintro e w' ⟨rfl, rfl⟩)
                              | (go_at_call 96; refine HHas2.out.mono ?_; rintro e w8 ⟨rfl, hb8⟩; have HB8 := hide ((Below.refl _ wr).drew.trans hb8); have HB9 := hide (HB7.out.drew.trans (hb8.mono HB7.out.size)); clear hb8)))
                          go_wp2_with fail
                          go_ret
                          exact ⟨ret_bool HF.out.symm, HB9.out⟩
                    · obtain rfl : j = l := by omega
                      have HK3 := hide (HK2.out.trans (if_neg (by rw [confB_miss HN.out]; decide)))
                      have hdj : decide ((j : Int) < (j : Int)) = false := decide_eq_false (by omega)
                      have hcl := HS7.out.cell key
                      rw [show (cells3 s')[key]? = some (.int .i64 (s' key)) by have := cells3_get s' (key : Int) hky; rwa [Int.toNat_natCast] at this] at hcl
                      have hfr := HS7.out.frozen key
                      have hb7 := HS7.out.lt
                      clear HN HK2
                      go_wp2_with fail
                      go_roundw
                      case rel => exact ⟨key + 1, _, by omega, by go_num, HK3.out, by rw [← cells3_put s' (key : Int) vl hky, Int.toNat_natCast]; exact HS7.out.set_ key _, HB7.out.setCell (p := ⟨w.heap.size, key, none⟩) (Nat.le_refl _) _⟩
                      case measure => simp [intOf]; omega
              · obtain rfl : key = 3 := by omega
                have HN := hide (show specRun xs ns (l + 1) = some s' by rw [HRs.out, HSt.out, HK.out])
                clear HK
                go_wp2_with fail
                go_roundw
                case rel => exact ⟨l + 1, s', by omega, by go_num, HN.out, HS5.out, HB5.out⟩
                case measure => simp [intOf]; omega
    · obtain rfl : k = ns.length := by omega
      have HT := hide (show l13R xs ns = true by rw [HLR.out, HR.out]; rfl)
      clear HR
      go_wp2_with fail
      go_ret
      exact ⟨ret_bool HT.out.symm, Hb.out⟩
theorem take_all_true {α : Type} (p : α → Bool) (l : List α) (k : Nat) (hk : k < l.length) (h : (l.take k).all p = true) (hp : p l[k] = true) : (l.take (k + 1)).all p = true := by
  rw [List.take_succ_eq_append_getElem hk, List.all_append, h]
  simp [hp]
theorem srB_two {h : List Txn} {p : List Int} (ht : twoEach h p = false) : srB h p = false := by
  unfold srB
  by_cases hl : p.length = 2 * (doneL h).length
  · have := snap_right h p hl
    rw [ht, Bool.false_and] at this
    rw [← this, Bool.and_false]
  · rw [decide_eq_false hl]; simp
set_option maxRecDepth 10000 in
set_option maxHeartbeats 4000000 in
theorem specSnapshotRight (xs : List Txn) (ns : List Int) (A B : Option Addr) (c d : Nat) (w : World) (hm : xs.length ≤ maxLen) (ht : opsN xs ≤ 1048576) (hmn : ns.length ≤ 1048576) (hd1 : ns.length ≤ d) (hd2 : d ≤ maxLen) (hA : Row tTxn w (Old w) A xs) (hN : Row tInt w (Old w) B ns) :
    Calls Tryz.prog 35 #[.slice A xs.length c, .slice B ns.length d] w fun e w' => e = .returned (.bool (srB xs ns)) ∧ Below w.heap.size w w' := by
  have HD := hide (specDoneTxns xs A c w hm ht hA)
  have HC := hide (fun (W : World) (hb : Below w.heap.size w W) => specHistoryValid xs A c W hm (hA.old hb) ht)
  have hq : xs.length ≤ 9223372036854775807 := by simpa [maxLen] using hm
  have hqn : ns.length ≤ 9223372036854775807 := by omega
  have hmn' : ns.length ≤ maxLen := by simp only [maxLen]; omega
  have HCn := hide (fun (W : World) (n : Int) (hb : Below w.heap.size w W) => l13Count_pure ns n B d W hmn' (hN.old hb))
  have HSr := hide (show srB xs ns = (histV xs && fineB xs && decide (ns.length = 2 * (doneL xs).length) && (snapRun xs SS0 ns).isSome) from rfl)
  cases hv : histV xs with
  | false =>
    rw [hv] at HC HSr
    rw [show doneR xs = [] by unfold doneR; rw [hv]; rfl] at HD
    clear hv hA hN
    go_enter Tryz.func35, Tryz.ntmps35
    go_wp2_with (go_at_call 78; refine HD.out.mono ?_; rintro e w1 ⟨v1, rfl, hO1, hb1⟩; obtain ⟨A1, c1, rfl, h11, h12, _⟩ := hO1.sl; have HB1 := hide hb1; clear hb1 hO1)
    refine wp_loop_rounds 1 ?_
    rw [rounds_succ]
    go_wp2_with (go_at_call 65; refine (HC.out _ HB1.out).mono ?_; rintro e w2 ⟨rfl, hb2⟩; have HB2 := hide (HB1.out.trans (hb2.mono HB1.out.size)); clear hb2)
    go_ret
    exact ⟨ret_bool HSr.out.symm, HB2.out⟩
  | true =>
    have HBo := hide (fun (W : World) (hb : Below w.heap.size w W) => specBadOwn xs A c W hv hm ht (hA.old hb))
    have HRn := hide (fun (W : World) (hin : ∀ n ∈ ns, 0 ≤ n ∧ n < xs.length) (hb : Below w.heap.size w W) => specRuns13 xs ns A B c d W hv hmn hd1 hd2 hin (hA.old hb) (hN.old hb))
    have HTf := hide (fun (h : twoEach xs ns = false) => srB_two (h := xs) (p := ns) h)
    have HTt := hide (fun (h : twoEach xs ns = true) (hl : ns.length = 2 * (doneL xs).length) => (show (∀ n ∈ ns, 0 ≤ n ∧ n < xs.length) ∧ l13R xs ns = (snapRun xs SS0 ns).isSome from
      ⟨fun n hn => doneI_mem xs _ n (twoEach_in hl h n hn), by have := snap_right xs ns hl; rw [h, Bool.true_and] at this; exact this⟩))
    have HTw := hide (show twoEach xs ns = (doneL xs).all (fun d => ns.count d == 2) from rfl)
    have hdl : (doneL xs).length ≤ 6 := Nat.le_trans (doneI_len xs _) (histV_parts hv).1
    have HFi := hide (show fineB xs = ((badS xs).length == 0) from rfl)
    rw [hv] at HC HSr
    rw [show doneR xs = doneL xs by unfold doneR; rw [hv]; rfl] at HD
    clear hv hA hN
    generalize doneL xs = D at HD HSr HTt HTw hdl
    generalize badS xs = Bd at HBo HFi
    have hqD : D.length ≤ 9223372036854775807 := by omega
    go_enter Tryz.func35, Tryz.ntmps35
    go_wp2_with (go_at_call 78; refine HD.out.mono ?_; rintro e w1 ⟨v1, rfl, hO1, hb1⟩; obtain ⟨A1, c1, rfl, h11, h12, h13⟩ := hO1.sl; have HR1 := hide (h13.mono (S' := Old w1) (fun b h => h.2) (fun _ _ => rfl)); have HB1 := hide hb1; clear hb1 hO1 h13)
    go_loopw [6] (fun i wr => wr = w1 ∧ ∃ k : Nat, k ≤ D.length ∧ i = .int .i64 k ∧ Hid ((D.take k).all (fun d => ns.count d == 2) = true)) (fun i _ => D.length - (intOf i).toNat)
    case atStart => exact ⟨rfl, 0, Nat.zero_le _, rfl, rfl⟩
    case round =>
      obtain ⟨rfl, k, hk, rfl, hT⟩ := hrel
      by_cases hlt : k < D.length
      · obtain ⟨b, off, rfl, hbS, e0⟩ := at_Int HR1.out (Below.refl _ _) hlt
        have HCk := hide (HCn.out wr D[k] HB1.out)
        have HT2 := hide (take_all_true (fun d => ns.count d == 2) D k hlt hT.out)
        have HTa := hide (fun (h : (ns.count D[k] == 2) = false) => HTf.out (by rw [HTw.out]; exact all_false hlt h))
        clear hT
        generalize ns.count D[k] = q at HCk HT2 HTa
        cases hq2 : (q == 2) with
        | true =>
          have hqi : ((q : Int) != 2) = false := by rw [beq_iff_eq] at hq2; rw [bne_eq_false_iff_eq]; omega
          have HT3 := hide (HT2.out hq2)
          clear hq2 HT2 HTa
          go_wp2_with (go_at_call 97; refine HCk.out.mono ?_; rintro e w' ⟨rfl, rfl⟩)
          go_roundw
          case rel => exact ⟨trivial, k + 1, by omega, by go_num, HT3.out⟩
          case measure => simp [intOf]; omega
        | false =>
          have hqi : ((q : Int) != 2) = true := by rw [beq_eq_false_iff_ne] at hq2; rw [bne_iff_ne]; omega
          have HF := hide (HTa.out hq2)
          clear hq2 HT2 HTa
          go_wp2_with (go_at_call 97; refine HCk.out.mono ?_; rintro e w' ⟨rfl, rfl⟩)
          go_ret
          exact ⟨ret_bool HF.out.symm, HB1.out⟩
      · obtain rfl : k = D.length := by omega
        have HTT := hide (show twoEach xs ns = true by rw [HTw.out]; have := hT.out; rwa [List.take_length] at this)
        clear hT
        cases hf : (Bd.length == 0) with
        | false =>
          have hfi : ((Bd.length : Int) == 0) = false := by rw [beq_eq_false_iff_ne] at hf ⊢; omega
          have HF := hide (show srB xs ns = false by rw [HSr.out, HFi.out, hf]; rfl)
          clear hf HSr HFi
          go_wp2_with (first | (go_at_call 65; refine (HC.out _ HB1.out).mono ?_; rintro e w2 ⟨rfl, hb2⟩; have HB2 := hide (HB1.out.trans (hb2.mono HB1.out.size)); clear hb2) | (go_at_call 98; refine (HBo.out _ HB2.out).mono ?_; rintro e w3 ⟨v3, rfl, hO3, hb3⟩; obtain ⟨A3, c3, rfl, h31, h32, _⟩ := hO3.sl; have HB3 := hide (HB2.out.trans (hb3.mono HB2.out.size)); clear hb3 hO3))
          go_ret
          exact ⟨ret_bool HF.out.symm, HB3.out⟩
        | true =>
          have hfi : ((Bd.length : Int) == 0) = true := by rw [beq_iff_eq] at hf ⊢; omega
          have HFt := hide (show fineB xs = true by rw [HFi.out, hf])
          clear hf HFi
          by_cases hl : ns.length = 2 * D.length
          · have hli : ((ns.length : Int) == 2 * (D.length : Int)) = true := by rw [beq_iff_eq]; omega
            obtain ⟨hin, hl13⟩ := HTt.out HTT.out hl
            have HQ := hide (show srB xs ns = l13R xs ns by rw [HSr.out, HFt.out, decide_eq_true hl, hl13]; rfl)
            have HRn := hide (fun W hb => HRn.out W hin hb)
            clear hin hl13 hl HSr
            go_wp2_with (first | (go_at_call 65; refine (HC.out _ HB1.out).mono ?_; rintro e w2 ⟨rfl, hb2⟩; have HB2 := hide (HB1.out.trans (hb2.mono HB1.out.size)); clear hb2) | (go_at_call 98; refine (HBo.out _ HB2.out).mono ?_; rintro e w3 ⟨v3, rfl, hO3, hb3⟩; obtain ⟨A3, c3, rfl, h31, h32, _⟩ := hO3.sl; have HB3 := hide (HB2.out.trans (hb3.mono HB2.out.size)); clear hb3 hO3) | (go_at_call 99; refine (HRn.out _ HB3.out).mono ?_; rintro e w4 ⟨rfl, hb4⟩; have HB4 := hide (HB3.out.trans (hb4.mono HB3.out.size)); clear hb4))
            go_ret
            exact ⟨ret_bool HQ.out.symm, HB4.out⟩
          · have hli : ((ns.length : Int) == 2 * (D.length : Int)) = false := by rw [beq_eq_false_iff_ne]; omega
            have HF := hide (show srB xs ns = false by rw [HSr.out, HFt.out, decide_eq_false hl]; rfl)
            clear hl HSr
            go_wp2_with (first | (go_at_call 65; refine (HC.out _ HB1.out).mono ?_; rintro e w2 ⟨rfl, hb2⟩; have HB2 := hide (HB1.out.trans (hb2.mono HB1.out.size)); clear hb2) | (go_at_call 98; refine (HBo.out _ HB2.out).mono ?_; rintro e w3 ⟨v3, rfl, hO3, hb3⟩; obtain ⟨A3, c3, rfl, h31, h32, _⟩ := hO3.sl; have HB3 := hide (HB2.out.trans (hb3.mono HB2.out.size)); clear hb3 hO3))
            go_ret
            exact ⟨ret_bool HF.out.symm, HB3.out⟩
end Go.Proofs.YtkcobaimcfggjaaGreatDoor
