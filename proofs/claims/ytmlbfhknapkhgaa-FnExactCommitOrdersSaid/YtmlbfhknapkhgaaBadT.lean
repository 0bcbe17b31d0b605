/- The reference's BadReads, of the kind BadOwn. -/
import Derived.Test.YtmlbfhknapkhgaaBadS
namespace Go.Proofs.Ytmlbfhknapkhgaa
open Go.RowKit Go.Maps
set_option linter.unusedVariables false
set_option linter.unusedSimpArgs false

def dnI (h : List Txn) (n : Int) : Bool := (h[n.toNat]?.map Txn.Done).getD false
def badS (h : List Txn) : List Span := (ownEs h h.length).filter fun x => dnI h x.From
theorem filter_take {α : Type} (p : α → Bool) (l : List α) (k : Nat) (hk : k < l.length) : (l.take (k + 1)).filter p = (l.take k).filter p ++ (if p l[k] then [l[k]] else []) := by
  rw [List.take_succ_eq_append_getElem hk, List.filter_append]
  congr 1
  simp [List.filter_cons]
set_option maxRecDepth 10000 in
set_option maxHeartbeats 2000000 in
theorem specBadOwn (xs : List Txn) (A : Option Addr) (c : Nat) (w : World) (hv : histV xs = true) (hm : xs.length ≤ maxLen) (ht : opsN xs ≤ 1048576) (hA : Row tTxn w (Old w) A xs) :
    Calls Try.prog 72 #[.slice A xs.length c, .int .i64 4] w fun e w' => ∃ v, e = .returned v ∧ Own tSpan 128 w' (New w w') (badS xs) v ∧ Below w.heap.size w w' := by
  obtain ⟨i0, hi, hz0, hz1, hz2⟩ := info_parts infoPlace_
  have HB1 := hide ((Below.refl _ w).alloc (Nat.le_refl _) (.cells #[] 128))
  have HC1 := hide (specHistoryValid xs A c _ hm (hA.old HB1.out) ht)
  have HEr := hide (fun (W : World) (hb : Below w.heap.size w W) => specOwnErrors xs A c W hv hm ht (hA.old hb))
  have HWho := hide (ownEs_who xs xs.length (Nat.le_refl _))
  have hx6 : xs.length ≤ 6 := (histV_parts hv).1
  have hL0 := ownEs_len (h := xs) (fun t ht => (txnOk_parts ((histV_parts hv).2 t ht)).2) xs.length (Nat.le_refl _)
  have HA := hide hA
  have hq : xs.length ≤ 9223372036854775807 := by simpa [maxLen] using hm
  rw [hv] at HC1
  have HO1 := hide (Own.empty (T := tSpan) (e := 128) w (fun b => w.heap.size ≤ b) (Nat.le_refl _))
  have HD := hide (show badS xs = (ownEs xs xs.length).filter (fun x => dnI xs x.From) from rfl)
  clear hA hm ht hv
  have hL : (ownEs xs xs.length).length ≤ 36 := by omega
  clear hL0
  generalize ownEs xs xs.length = L at HEr HWho HD hL
  have hqL : L.length ≤ 9223372036854775807 := by omega
  go_enter Try.func72, Try.ntmps72
  go_wp2_with (first | (go_at_call 49; refine HC1.out.mono ?_; rintro e w2 ⟨rfl, hb2⟩; have HB2 := hide (HB1.out.trans (hb2.mono HB1.out.size)); have hw2 := HB2.out.size; have hw22 := hb2.size; have HO2 := hide (HO1.out.onlyBelow hb2); have HE2 := hide (HEr.out _ HB2.out); clear hb2) | (go_at_call 50; refine (l1In _ _ _ _).mono ?_; rintro e w' ⟨rfl, rfl⟩) | (go_at_call 124; refine HE2.out.mono ?_; rintro e w3 ⟨v3, rfl, hO3, hb3⟩; obtain ⟨A3, c3, rfl, h31, h32, _⟩ := hO3.sl; have HR3 := hide (hO3.sl.row); have hw23 := hb3.size; have HB3 := hide (HB2.out.trans (hb3.mono HB2.out.size)); have HO3 := hide (HO2.out.onlyBelow hb3); clear hO3 hb3))
  go_loopw [5, 7] (fun v i wr => ∃ k : Nat, k ≤ L.length ∧ i = .int .i64 k ∧ Hid (Own tSpan 128 wr (fun b => (w.heap.size = b ∨ w3.heap.size ≤ b) ∧ Old wr b) ((L.take k).filter (fun x => dnI xs x.From)) v) ∧ Hid (Below w.heap.size w wr) ∧ Hid (Only (fun b => w.heap.size = b ∨ w3.heap.size ≤ b) w3 wr)) (fun _ i _ => L.length - (intOf i).toNat)
  case atStart =>
    refine ⟨0, by omega, rfl, ?_, HB3.out, Only.refl _ _⟩
    rcases HO3.out with ⟨h1, _⟩ | ⟨g, cap, cur, S', hv3, hg, hBk, k1, k2, k3, k4, k5⟩
    · cases h1
    · have hge : g = w.heap.size := by injection hv3 with h1 _ _; injection h1 with h1; injection h1 with h1 _ _; exact h1.symm
      subst hge
      have h0 : cap = 0 := by injection hv3 with _ _ h3; exact h3.symm
      exact .inr ⟨_, cap, cur, fun _ => False, by rw [h0]; rfl, ⟨.inl rfl, hg.2⟩, hBk, by simp, k2, k3, fun _ h => h.elim, fun j hj => absurd hj (by simp)⟩
  case round =>
    obtain ⟨k, hk, rfl, hO, hb, hK⟩ := hrel
    have HO := hide hO.out; have HB := hide hb.out; have HK := hide hK.out
    have hR := HR3.out.mono (w' := wr) (S' := Old wr) (fun b h => Nat.lt_of_lt_of_le h.2 hK.out.size) (fun b h => hK.out.block b h.2 (by have h1 := h.1; have h2 := h.2; have h3 := hw22; simp at h3; omega))
    clear hO hb hK
    by_cases hlt : k < L.length
    · obtain ⟨b0, off0, hA3, hbS0, e0, e1⟩ := at_Span hR (Below.refl _ _) hlt
      subst hA3
      obtain ⟨hn0, hn1⟩ := HWho.out _ (List.getElem_mem hlt)
      have HS := hide (filter_take (fun x : Span => dnI xs x.From) L k hlt)
      have hfl : ((L.take k).filter (fun x => dnI xs x.From)).length ≤ k := Nat.le_trans (List.length_filter_le _ _) (by rw [List.length_take]; omega)
      generalize L[k] = x at e0 e1 hn0 hn1 HS
      obtain ⟨who, at_⟩ := x
      dsimp only at e0 e1 hn0 hn1 HS
      obtain ⟨n, rfl⟩ : ∃ n : Nat, who = (n : Int) := ⟨who.toNat, by omega⟩
      have hnl : n < xs.length := by omega
      have HDn := hide (show dnI xs (n : Int) = xs[n].Done by unfold dnI; rw [Int.toNat_natCast, List.getElem?_eq_getElem hnl]; rfl)
      obtain ⟨b, off, A2, c2, hA2, hbS, c0, c1, c4, _, _, _⟩ := at_Txn HA.out HB.out hnl
      subst hA2
      clear hR
      cases hdn : xs[n].Done with
      | false =>
        have HS2 := hide (show (L.take (k + 1)).filter (fun x => dnI xs x.From) = (L.take k).filter (fun x => dnI xs x.From) by rw [HS.out, HDn.out, hdn]; simp)
        rw [hdn] at c4
        clear HS HDn hdn
        go_wp2_with fail
        trace_state
        go_roundw
        case rel => exact ⟨k + 1, by omega, by go_num, by rw [HS2.out]; exact HO.out, HB.out, HK.out⟩
        case measure => simp [intOf]; omega
      | true =>
        have HS2 := hide (show (L.take (k + 1)).filter (fun x => dnI xs x.From) = (L.take k).filter (fun x => dnI xs x.From) ++ [⟨n, at_⟩] by rw [HS.out, HDn.out, hdn]; rfl)
        rw [hdn] at c4
        have hz3 := HK.out.size
        clear HS HDn hdn
        go_wp2_with (at_builtin; refine wpList_put tSpan rfl (.tmp 39) (.tmp 44) 82 rfl 128 i0 _ 16 Try.underlying82 hi hz0 hz1 (by assumption) rfl (by decide) (fun b => w.heap.size = b ∨ w3.heap.size ≤ b) (fun _ => False) ((L.take k).filter (fun x => dnI xs x.From)) ⟨(n : Int), at_⟩ [.int .i64 n, .int .i64 at_] _ rfl HO.out 1 rfl rfl (fun _ h => h.elim) (fun b hb => .inr (Nat.le_trans hz3 hb)) (by simp only [maxLen]; omega) (by omega) ?_; intro v6 w6 hO_ hK_; have HO6 := hide hO_; have HK6 := hide hK_; clear hO_ hK_)
        trace_state
        go_roundw
        case rel => exact ⟨k + 1, by omega, by go_num, by rw [HS2.out]; exact HO6.out, below_only HB.out HK6.out HB.out.size (fun i h => by omega), HK.out.trans HK6.out⟩
        case measure => simp [intOf]; omega
    · obtain rfl : k = L.length := by omega
      have HO1 := hide (show Own tSpan 128 wr (fun b => (w.heap.size = b ∨ w3.heap.size ≤ b) ∧ Old wr b) (badS xs) u5 by have := HO.out; rw [List.take_length] at this; rw [HD.out]; exact this)
      clear HO hR
      go_wp2_with fail
      go_ret
      exact ⟨_, rfl, HO1.out.mono (fun b h => ⟨by have := h.1; omega, h.2⟩) (fun _ _ => rfl), HB.out⟩
end Go.Proofs.Ytmlbfhknapkhgaa
