/- The law FnSessionBreaks: breaks of sessions are told. -/
import Derived.Test.YtaaagoppecnmmaaDoorDrawSB
import Derived.Test.YtaaagoppecnmmaaDoorBrkR
import Derived.Test.YtaaagoppecnmmaaDoorBrkS
import Derived.Test.YtaaagoppecnmmaaDoorSameL
import Derived.Test.YtaaagoppecnmmaaDoorFirstP
import Derived.Test.YtaaagoppecnmmaaDoorAlive
import Derived.Test.YtaaagoppecnmmaaDoorQTail
namespace Go.Proofs.YtaaagoppecnmmaaDoor
open Go.RowKit
set_option linter.unusedVariables false
set_option linter.unusedSimpArgs false

def sRow : List (Nat × Nat × List Nat) := [(34, 64, []), (35, 128, []), (36, 51539607552, [0, 1]), (37, 68719476736, [2]), (38, 137438953472, [3]), (39, 274877906944, [4]), (40, 549755813888, [5]), (41, 1099511627840, [6]), (42, 1099511627904, [6]), (43, 7696581394432, [7, 8, 6]), (44, 9895604649984, [9, 6]), (45, 18691697672192, [10, 6]), (46, 36283883716608, [11, 6]), (47, 71468255805440, [12, 6]), (48, 141836999983104, [6, 13]), (49, 281474976710656, [14, 6]), (50, 562949953421376, [15]), (51, 562949953421440, [15]), (52, 3940649673949184, [16, 17, 15]), (53, 5066549580791808, [18, 15]), (54, 9570149208162304, [19, 15]), (55, 18577348462903296, [20, 15]), (56, 562949953421376, [15]), (57, 562949953421440, [15]), (58, 216735732067205120, [22, 23, 15]), (59, 288793326105133056, [24, 15]), (60, 577023702256844800, [25, 15]), (61, 1153484454560268288, [26, 15]), (62, 2342434756186079232, [21, 27, 15]), (63, 4612248968380809216, [15, 28]), (64, 9223372036854775808, [29, 15]), (65, 18446744073709551680, [30]), (66, 18446744073709551744, [30]), (67, 129127208515966861312, [31, 32, 30]), (68, 166020696663385964544, [33, 30]), (69, 313594649253062377472, [34, 30]), (70, 608742554432415203328, [35, 30]), (71, 18446744073709551624, [30]), (72, 2379629985508532158464, [37, 30]), (73, 5921404847660766068736, [36, 38, 30]), (74, 9463179709812999979008, [30, 39]), (75, 18889465931478580854784, [40, 30]), (76, 37778931862957161709576, [41]), (77, 37778931862957161709632, [41]), (78, 37778931862957161709696, [41]), (79, 491126114218443102224384, [43, 44, 41]), (80, 642241841670271749062656, [45, 41]), (81, 1246704751477586336415744, [46, 41]), (82, 2455630571092215511121920, [47, 41]), (83, 4949040074047388183953408, [42, 48, 41]), (84, 9709185488779990559358976, [49, 41]), (85, 19380592045697023957008384, [50, 41]), (86, 37778931862957161709576, [41]), (87, 37778931862957161709632, [41]), (88, 37778931862957161709696, [41]), (89, 464265293663880560248881152, [53, 54, 41]), (90, 619007798574553094611271680, [55, 41]), (91, 1237977818217243232060833792, [56, 41]), (92, 2475917857502623506959958016, [57, 41]), (93, 5029169188528720323939401728, [52, 58, 41]), (94, 9903558093214905156354703360, [59, 41]), (95, 19807078407497947355547697152, [60, 41]), (96, 39652804662291699887524282368, [51, 61, 41]), (97, 79228200293196200550705659904, [41, 62]), (98, 158456325028528675187087900672, [63, 41]), (99, 316912650057057350374175801352, [64]), (100, 316912650057057350374175801408, [64]), (101, 316912650057057350374175801472, [64]), (102, 4119864450741745554864285417472, [66, 67, 64]), (103, 5387515050969974956360988622848, [68, 64]), (104, 10458117451882892562347801444352, [69, 64]), (105, 20599322253708727774321427087360, [70, 64]), (106, 41515557157474512899017029976064, [65, 71, 64]), (107, 81446551064663739046163180945408, [72, 64]), (108, 162576189479270420741952186089472, [73, 64]), (109, 324835466308483784133530196377600, [74, 64]), (110, 649354019966910510916686216953856, [64, 75]), (111, 1298074214633706907132624082305024, [76, 64]), (112, 2596148429267413814265248164610056, [77]), (113, 2596148429267413814265248164610112, [77]), (114, 2596148429267413814265248164610176, [77]), (115, 33749929580476379585448226139930624, [79, 80, 77]), (116, 44134523297546034842509218798370816, [81, 77]), (117, 85672898165824655870753189432131584, [82, 77]), (118, 168749647902381897927241130699653120, [83, 77]), (119, 340095444234031209668747509563916288, [78, 84, 77]), (120, 667210146321725350266168778304782336, [85, 77]), (121, 1331824144214183286718072308444954624, [86, 77]), (122, 2661052139999099159621879368725299200, [87, 77]), (123, 5319508131568930905429493489285988352, [77, 88]), (124, 10633823966279326983230456482242756608, [89, 77]), (125, 21267647932558653966460912964485513224, [90]), (126, 21267647932558653966460912964485513280, [90]), (127, 21267647932558653966460912964485513344, [90]), (128, 276479423123262501563991868538311671808, [92, 93, 90]), (129, 361550014853497117429835520396253724672, [94, 90]), (130, 701832381774435580893210127828021936128, [95, 90]), (131, 1382397115616312507819959342691558359040, [96, 90]), (132, 2786061879165183669606379598347602231296, [91, 97, 90]), (133, 5465785518667574069380454631872776896512, [98, 90]), (134, 10910303389402589484794448350781068279808, [99, 90, 90]), (135, 21799339130872620315622435788597651046400, [100, 90]), (136, 43577410613812681977278410664230816579584, [101, 90]), (137, 87133553579692805300590360415497147645952, [90, 102])]
theorem mem_rowK {h : List Txn} {os : List (List Int)} {p : Int} {k : Nat} {x : List Int} : ∀ {m : Nat}, x ∈ rowK h os p k m → ∃ j, j < m ∧ k < j ∧ x = [(k : Int), (j : Int)] ∧ brkP h os p k j = true
  | 0, hx => by cases hx
  | m + 1, hx => by
    rw [rowK] at hx
    rcases List.mem_append.1 hx with h1 | h1
    · obtain ⟨j, h2, h3⟩ := mem_rowK h1
      exact ⟨j, by omega, h3⟩
    · split at h1
      · rename_i hc
        rw [Bool.and_eq_true] at hc
        exact ⟨m, by omega, of_decide_eq_true hc.1, List.mem_singleton.1 h1, hc.2⟩
      · cases h1
theorem mem_brkK {h : List Txn} {os : List (List Int)} {p : Int} {x : List Int} : ∀ {n : Nat}, x ∈ brkK h os p n → ∃ k j, k < j ∧ j < h.length ∧ x = [(k : Int), (j : Int)] ∧ brkP h os p k j = true
  | 0, hx => by cases hx
  | n + 1, hx => by
    rw [brkK] at hx
    rcases List.mem_append.1 hx with h1 | h1
    · exact mem_brkK h1
    · obtain ⟨j, h2, h3, h4⟩ := mem_rowK h1
      exact ⟨n, j, h3, h2, h4⟩
/-- What a pair of breaks is. -/
theorem brk_pair {h : List Txn} {os : List (List Int)} {p : Int} {x : List Int} (hx : x ∈ brkR h os p) : ∃ k j, ∃ (hk : k < h.length) (hj : j < h.length), k < j ∧ x = [(k : Int), (j : Int)] ∧ h[k].Session = h[j].Session ∧ h[k].Done = true ∧ h[j].Done = true ∧ 0 < (firstP h[j]).length := by
  unfold brkR at hx
  split at hx
  · rename_i hc
    rw [Bool.and_eq_true] at hc
    obtain ⟨k, j, h1, h2, h3, h4⟩ := mem_brkK hx
    have hk : k < h.length := by omega
    unfold brkP brkS at h4
    simp only [Bool.and_eq_true] at h4
    obtain ⟨d1, d2, d3, d4⟩ := h4
    rw [doneAt_nat h k hk] at d1
    rw [doneAt_nat h j h2] at d2
    rw [sesAt_nat h k hk, sesAt_nat h j h2] at d3
    refine ⟨k, j, hk, h2, h1, h3, by simpa using d3, d1, d2, ?_⟩
    unfold brkB at d4
    obtain ⟨o, ho, _⟩ := List.any_eq_true.1 d4
    rw [txAt_nat h j h2] at ho
    have hv := ord_hist hc.1
    unfold firstP
    rw [if_pos ((histV_parts hv).2 _ (List.getElem_mem h2))]
    exact List.length_pos_of_mem ho
  · cases hx
set_option maxRecDepth 10000 in
set_option maxHeartbeats 4000000 in
theorem lawFnSesBrk (bs : List Int) (A : Option Addr) (c : Nat) (w : World) (hm : bs.length ≤ maxLen) (hc : bs.length ≤ c) (hcm : c ≤ maxLen) (hA : Row tByte w (Old w) A bs) :
    Calls Tryd.prog 11 #[.slice A bs.length c] w fun e w' => e = .returned (.bool true) ∧ Below w.heap.size w w' := by
  have hq : bs.length ≤ 9223372036854775807 := by simpa [maxLen] using hm
  by_cases hl : bs.length ≤ 1048576
  · have HD := hide (drawSessionBreaks bs A c w hl hc hcm hA)
    clear hA
    go_enter Tryd.func11, Tryd.ntmps11
    go_wp2_with fail
    refine HD.out.mono ?_
    rintro e w1 ⟨xs, os, v, u, a, rfl, hS, hol, hoo, ho, hu, hb1⟩
    have HB1 := hide hb1
    clear hb1 HD
    obtain ⟨Ax, cx, rfl, hlex, hcmx, hrx⟩ := ho.oldE
    have Hx1 := hide hrx
    clear hrx ho
    obtain ⟨Ay, cy, rfl, hley, hcmy, hry⟩ := hu.oldE
    have Hy1 := hide hry
    clear hry hu
    obtain ⟨hxm, hx20, hxo, hxn⟩ := hS.le
    have hom : os.length ≤ 1048576 := by omega
    have hon : ∀ o ∈ os, o.length ≤ 1048576 := fun o h => by have := hoo o h; omega
    have hrl := brkR_len xs os a
    have HRl := hide hrl
    have hrm : (brkR xs os a).length ≤ maxLen := by have := hrl.1; simp only [maxLen]; omega
    have hrn : ∀ x ∈ brkR xs os a, x.length ≤ maxLen := fun x h => by have := hrl.2 x h; simp only [maxLen]; omega
    have HBp := hide (fun x (h : x ∈ brkR xs os a) => brk_pair h)
    clear hrl
    go_wp2_with fail
    refine (implSessionBreaks xs os a _ _ _ _ w1 hxm hom hon Hx1.out Hy1.out).mono ?_
    rintro e w2 ⟨v2, rfl, hT2, hb⟩
    have Hx2 := hide (Hx1.out.old hb)
    have Hy2 := hide (Hy1.out.old hb)
    have HB2 := hide (HB1.out.trans (hb.mono HB1.out.size))
    clear hb HB1 Hx1 Hy1
    obtain ⟨Ar, cr, rfl, hler, hcmr, hrr⟩ := hT2.sl.fresh
    have Hr2 := hide hrr
    clear hrr hT2
    go_wp2_with fail
    refine (specSessionBreaks xs os a _ _ _ _ w2 (by omega) hxn hxo hom hon Hx2.out Hy2.out).mono ?_
    rintro e w3 ⟨v3, rfl, hT3, hb⟩
    have Hx3 := hide (Hx2.out.old hb)
    have Hy3 := hide (Hy2.out.old hb)
    have Hr3 := hide (Hr2.out.old hb)
    have HB3 := hide (HB2.out.trans (hb.mono HB2.out.size))
    clear hb HB2 Hx2 Hy2 Hr2
    obtain ⟨As, cs, rfl, hles, hcms, hrs⟩ := hT3.fresh
    have Hs3 := hide hrs
    clear hrs hT3
    generalize brkR xs os a = rr at HRl hrm hrn hler hles HBp Hr3 Hs3 ⊢
    go_wp2_with fail
    refine (sameLists_any rr _ _ _ _ w3 hrm hrn Hr3.out Hs3.out).mono ?_
    rintro e w4 ⟨rfl, hb⟩
    have Hx4 := hide (Hx3.out.old hb)
    have Hy4 := hide (Hy3.out.old hb)
    have Hr4 := hide (Hr3.out.old hb)
    have Hs4 := hide (Hs3.out.old hb)
    have HB4 := hide (HB3.out.trans (hb.mono HB3.out.size))
    clear hb HB3 Hx3 Hy3 Hr3 Hs3
    have Hx40 := hide Hx4.out
    have Hr40 := hide Hr4.out
    go_wp2_with fail
    go_loopw [7] (fun k wr => ∃ kk : Nat, kk ≤ rr.length ∧ k = .int .i64 kk ∧ Hid (Below w4.heap.size w4 wr)) (fun k _ => rr.length - (intOf k).toNat)
    case atStart => exact ⟨0, Nat.zero_le _, rfl, Below.refl _ _⟩
    case round =>
      obtain ⟨kk, hkk, rfl, hB⟩ := hrel
      have HBk := hide hB.out
      clear hB
      by_cases hlt : kk < rr.length
      · have hki : (kk : Int) < (rr.length : Int) := by omega
        have hrb := HRl.out.1
        obtain ⟨i, j, hi, hj, hij, hx, hs, hd1, hd2, hf⟩ := HBp.out rr[kk] (List.getElem_mem hlt)
        obtain ⟨b1, off1, A1, c1, hA1, u1, r0, u2, u3, hr1⟩ := at_IntS Hr40.out HBk.out hlt
        subst hA1
        rw [hx] at r0 hr1
        obtain ⟨b2, off2, hA2, n0⟩ := at_IntG hr1 (k := 0) (by simp)
        obtain ⟨b2', off2', hA2', n1⟩ := at_IntG hr1 (k := 1) (by simp)
        subst hA2
        obtain ⟨rfl, rfl⟩ : b2 = b2' ∧ off2 = off2' := by simpa using hA2'
        simp only [Nat.add_zero, List.getElem_cons_zero, List.getElem_cons_succ] at n0 n1
        clear hA2' hr1
        obtain ⟨b, off, A3, c3, hA3, u4, c0, u5, c2, u6, u7, u8⟩ := at_Txn Hx40.out HBk.out hi
        clear u5 u6 u7 u8
        subst hA3
        obtain ⟨b', off', A4, c4, hA4, u9, d0, d1, d2, u10, u11, hr4⟩ := at_Txn Hx40.out HBk.out hj
        obtain ⟨rfl, rfl⟩ : b = b' ∧ off = off' := by simpa using hA4
        have HC := hide (implFirstReadsP xs[j] A4 c4 wr.drew (by have := hxn xs[j] (List.getElem_mem hj); simp only [maxLen]; omega) (hr4.old (Below.refl _ wr).drew))
        have HF := hide hf
        have hix : (i : Int) < (xs.length : Int) := by omega
        have hjx : (j : Int) < (xs.length : Int) := by omega
        have hijx : (i : Int) < (j : Int) := by omega
        have hij2 : ¬ ((j : Int) ≤ (i : Int)) := by omega
        have hi0 : ¬ ((i : Int) < 0) := by omega
        have hj0 : ¬ ((j : Int) < 0) := by omega
        have hjn : ¬ ((xs.length : Int) ≤ (j : Int)) := by omega
        rw [hs] at c0
        rw [hd1] at c2
        rw [hd2] at d2 HC
        generalize xs[j].Session = ss at c0 d0 HC
        generalize hfn : (firstP xs[j]) = fp at HF HC
        generalize xs[j].Ops.length = on at d1 HC
        clear hfn hf hs hd1 hd2 hx hr4 u9 u10 u11 u4 u1 u2 u3 hA4
        have HBd := hide (HBk.out.trans ((Below.refl _ wr).drew.mono HBk.out.size))
        go_upto_region 10 with (fail)
        simp only [List.append_eq, List.cons_append, List.nil_append]
        refine wp_region_still_tail 100 (by kernel_rfl) (lexTail_of sRow (by kernel_rfl) (by kernel_rfl) (by as_aux_lemma => kernel_rfl) (by as_aux_lemma => kernel_rfl) (by as_aux_lemma => kernel_rfl) (by as_aux_lemma => kernel_rfl) (by as_aux_lemma => kernel_rfl)) (wpStill_of_quiet ?_)
        simp only [List.take_succ_cons, List.take_zero, List.drop_succ_cons, List.drop_zero]
        repeat (go_big_quiet_step (fail))
        refine wpQuiet_nil ?_
        change wpList _ _ _ _ _ wr.drew
        go_wp2_with (go_at_call 45; refine HC.out.mono ?_; rintro e w7 ⟨v7, rfl, hS7, hb7⟩; have HB7 := hide (HBd.out.trans (hb7.mono HBd.out.size)); obtain ⟨A7, c7, rfl, hl7, hc7, hr7⟩ := hS7.fresh; have hf0 : ¬ ((fp.length : Int) = 0) := (by have := HF.out; omega); clear hS7 hb7 hr7)
        go_roundw
        case rel => exact ⟨kk + 1, by omega, by go_num, HB7.out⟩
        case measure => simp [intOf]; omega
      · have hkk' : kk = rr.length := by omega
        subst hkk'
        go_wp2_with fail
        refine (alive_any _).mono ?_
        rintro e w6 ⟨rfl, hb6⟩
        have HB6 := hide (HB4.out.trans ((HBk.out.trans (hb6.mono HBk.out.size)).mono HB4.out.size))
        clear hb6
        go_wp2_with fail
        go_ret
        exact ⟨rfl, HB6.out⟩
  · clear hA
    go_enter Tryd.func11, Tryd.ntmps11
    go_wp2_with fail
    go_ret
    exact ⟨rfl, Below.refl _ _⟩
end Go.Proofs.YtaaagoppecnmmaaDoor
