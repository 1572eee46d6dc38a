/- The walk of EventTalliesAddUp. Printed by gen_lawtau.py. -/
import Derived.Test.YtacchooggifnhaaTv10
import Derived.Test.YtacchooggifnhaaTv11
namespace Go.Proofs.Ytacchooggifnhaa
open Go.RowKit
namespace Ex
set_option maxRecDepth 100000 in
set_option maxHeartbeats 16000000 in
theorem lawTau_at (l : List Ev) (hok : ∀ e ∈ l, e.ok) (key : ByteArray) (hx : key.size ≤ maxLen) (gap : Int) (x : ByteArray) (hx2 : x.size ≤ maxLen) (arms day : Int) (a : Option Addr) (c : Nat) (w : World) (hs : Sl w (.slice a l.length c) l.length (l.flatMap evL)) :
    Calls Try.prog 3 #[.slice a l.length c, .string key, .int .i64 gap, .string x, .int .i64 arms, .int .i64 day] w fun e w' => e = .returned (.bool true) ∧ Below w.heap.size w w' := by
  have hl := hs.len_le
  have HOK := Lib.hid hok
  have HS := Lib.hid hs
  have HX := Lib.hid hx
  have HX2 := Lib.hid hx2
  clear hok hs hx hx2
  go_enter Try.func3, Try.ntmps3
  go_wp2_with fail
  refine (Tallies_at l HOK.out x HX2.out arms day a c w HS.out).mono ?_
  rintro e w1 ⟨f, rows, bT, dT, rfl, hT, hI, hb1⟩
  have HT := Lib.hid hT
  have HI := Lib.hid hI
  clear hT hI
  by_cases h0 : f = 0
  · subst h0
    go_wp2_with fail
    refine (Exposed_at l HOK.out x HX2.out a c w1 (HS.out.ext hb1)).mono ?_
    rintro e w2 ⟨o, ks, p, q, cp, cq, rfl, hs1, hs2, hR, ⟨hol, -⟩, hb2⟩
    have hb3 := ext_trans hb1 hb2
    obtain ⟨hf0, hall⟩ := talIs_zero HI.out
    rw [if_pos hf0] at hR
    rw [hf0]
    obtain ⟨hro, hsum⟩ := hall o ks hR hol
    have HT2 := Lib.hid (HT.out.ext hb2)
    have HRO := Lib.hid hro
    have HSUM := Lib.hid hsum
    have HSO := Lib.hid hs1
    have hol2 := hs1.len_le
    clear hs1 hs2 hR hall HT HI hro hsum hb1 hb2 hf0
    go_wp2
    go_loopw [18, 50] (fun v18 i wr => ∃ (k cn : Nat), k ≤ o.length ∧ cn ≤ k ∧ i = .int .i64 k ∧ v18 = .int .i64 cn ∧ Hid ((o.take k).countP (keepB arms) = cn) ∧ Below w2.heap.size w2 wr) (fun _ i _ => o.length - (intOf i).toNat)
    case atStart => exact ⟨0, 0, by omega, by omega, rfl, rfl, Lib.hid (by simp), Below.refl _ _⟩
    case round =>
      obtain ⟨k, cn, hk, hcn, rfl, rfl, HC, hbr⟩ := hrel
      by_cases hlt : k < o.length
      · have hgk := List.getElem?_eq_getElem hlt
        generalize o[k] = s at hgk
        have HST := Lib.hid (cnt_take (arms := arms) hgk)
        obtain ⟨b, o', rfl, e0, e1, e2, e3, e4, e5, e6, e7⟩ := sb_cells (HSO.out.ext hbr) hgk
        have hk0 : (0 : Int) ≤ (k : Int) := Int.natCast_nonneg _
        have hk1 : (k : Int) < (o.length : Int) := by omega
        clear hgk
        go_upto_region 8 with (fail)
        clear e0 e1 e2 e3 e4 e5 e6 e7
        refine wp_box1 fun X hszX hbX hX => ?_
        obtain ⟨g0, g1, g2, g3, g4, g5, g6, g7⟩ := box_sb hX
        have hbw := ext_trans hbr hbX
        clear hX hszX hbX hbr
        by_cases hka : s.arm < arms
        · have HST2 : Hid ((o.take (k + 1)).countP (keepB arms) = cn + 1) := Lib.hid (by rw [HST.out, HC.out, if_pos (show keepB arms s = true from decide_eq_true hka)])
          go_wp2
          go_roundw
          case rel => exact ⟨k + 1, cn + 1, by omega, by omega, by go_num, by go_num, HST2, hbw⟩
          case measure => simp [intOf]; omega
        · have HST2 : Hid ((o.take (k + 1)).countP (keepB arms) = cn) := Lib.hid (by rw [HST.out, HC.out, if_neg (by unfold keepB; simpa using hka)]; rfl)
          have hkd : decide (s.arm < arms) = false := decide_eq_false hka
          go_wp2
          go_roundw
          case rel => exact ⟨k + 1, cn, by omega, by omega, by go_num, rfl, HST2, hbw⟩
          case measure => simp [intOf]; omega
      · have HC2 : Hid ((o.countP (keepB arms) : Nat) = cn) := Lib.hid (by have h9 := HC.out; rw [List.take_of_length_le (by omega)] at h9; exact h9)
        have HT3 := Lib.hid (HT2.out.ext hbr)
        have hb4 := ext_trans hb3 hbr
        have hcb : cn ≤ 20000 := by omega
        have hrl := HRO.out.len
        rw [HC2.out] at HSUM
        clear HC HC2 HT2 hbr hb3 hcn
        obtain ⟨wA, rfl⟩ : ∃ W, W = wr := ⟨wr, rfl⟩
        go_wp2
        clear hlt hk
        go_loopw [18, 63] (fun v18 i wq => ∃ (k : Nat) (z : Int), k ≤ rows.length ∧ i = .int .i64 k ∧ v18 = .int .i64 z ∧ Hid (z = (cn : Int) - sumR rows k) ∧ Below wA.heap.size wA wq) (fun _ i _ => rows.length - (intOf i).toNat)
        case atStart => exact ⟨0, cn, by omega, rfl, rfl, Lib.hid (by simp [sumR]), Below.refl _ _⟩
        case round =>
          obtain ⟨k, z, hk, rfl, rfl, HZ, hbq⟩ := hrel
          have hsb := sumR_bound HRO.out k hk
          have hz := HZ.out
          by_cases hlt : k < rows.length
          · have hgk := List.getElem?_eq_getElem hlt
            generalize rows[k] = r at hgk
            have HSC := Lib.hid (sumR_succ hgk)
            have hrm : r ∈ rows := List.mem_of_getElem? hgk
            have hwide := HRO.out.wide r hrm
            have HEA := Lib.hid (HRO.out.each r hrm)
            obtain ⟨bs, hbl, hTs, hTr⟩ := HT3.out.ext hbq
            obtain ⟨b, hb⟩ : ∃ b, bs[k]? = some b := ⟨_, List.getElem?_eq_getElem (by omega)⟩
            have HRS := Lib.hid (hTr k b r hb hgk)
            obtain ⟨b', o', hbo, e0, e1⟩ := tl_cells hTs (tlX_get hb hgk)
            subst hbo
            have hk0 : (0 : Int) ≤ (k : Int) := Int.natCast_nonneg _
            have hk1 : (k : Int) < (rows.length : Int) := by omega
            have hzb : -8000000000 ≤ z ∧ z ≤ 20000 := by omega
            clear hgk hrm hbl hTs hTr hb hz hsb
            go_upto_region 14 with (fail)
            clear e0 e1
            refine wp_box1 fun X hszX hbX hX => ?_
            have g1 : X.cell? ⟨wr.heap.size, 1, none⟩ = some (.slice (some ⟨b, 0, none⟩) r.2.length r.2.length) := hX.2 1
            have HRX := Lib.hid (HRS.out.ext hbX)
            have hbX2 := ext_trans hbq hbX
            have hrl2 : r.2.length ≤ 9223372036854775807 := by omega
            clear hX hszX hbX hbq HRS
            obtain ⟨R, hR⟩ : ∃ R, r.2 = R := ⟨_, rfl⟩
            rw [hR] at g1 HSC hwide HEA HRX hrl2
            clear hR
            go_wp2
            clear g1
            go_loopw [18, 70] (fun v18 i wp => ∃ (j : Nat) (y : Int), j ≤ R.length ∧ i = .int .i64 j ∧ v18 = .int .i64 y ∧ Hid (y = z - (R.take j).sum) ∧ Below X.heap.size X wp) (fun _ i _ => R.length - (intOf i).toNat)
            case atStart => exact ⟨0, z, by omega, rfl, rfl, Lib.hid (by simp), Below.refl _ _⟩
            case round =>
              obtain ⟨j, y, hj, rfl, rfl, HY, hbp⟩ := hrel
              have hjb := sum_bound (l := R.take j) (fun t ht => HEA.out t (List.mem_of_mem_take ht))
              rw [List.length_take, Nat.min_eq_left hj] at hjb
              have hy := HY.out
              have hyb : -9000000000 ≤ y ∧ y ≤ 20000 := by omega
              by_cases hlt2 : j < R.length
              · have hgj := List.getElem?_eq_getElem hlt2
                generalize R[j] = t at hgj
                have ht := HEA.out t (List.mem_of_getElem? hgj)
                have HSJ := Lib.hid (sum_take hgj)
                have e2 := int_cell (HRX.out.ext hbp) hgj
                have hj0 : (0 : Int) ≤ (j : Int) := Int.natCast_nonneg _
                have hj1 : (j : Int) < (R.length : Int) := by omega
                clear hgj hy hjb
                go_wp2
                go_roundw
                case rel => exact ⟨j + 1, y - t, by omega, by go_num, rfl, Lib.hid (by rw [HSJ.out, HY.out]; omega), hbp⟩
                case measure => simp [intOf]; omega
              · have HYE : Hid (y = (cn : Int) - sumR rows (k + 1)) := Lib.hid (by rw [HSC.out, HY.out, HZ.out, List.take_of_length_le (by omega)]; omega)
                have hbz := ext_trans hbX2 hbp
                clear hbp hbX2 HY hy hjb
                go_wp2
                clear hlt2
                go_roundw
                case rel => exact ⟨k + 1, y, by omega, by go_num, rfl, HYE, hbz⟩
                case measure => simp [intOf]; omega
          · have hz0 : z = 0 := by
              have h9 := HSUM.out
              have h8 := HZ.out
              unfold sumR at h8
              rw [List.take_of_length_le (by omega)] at h8
              omega
            subst hz0
            have hbA := ext_trans hb4 hbq
            obtain ⟨wB, rfl⟩ : ∃ W, W = wr := ⟨wr, rfl⟩
            clear HZ hbq hsb hz HT3 HSO HSUM HRO
            have HSB := Lib.hid (HS.out.ext hbA)
            go_wp2_with fail
            refine (Visits_at l HOK.out key HX.out gap a c wB HSB.out).mono ?_
            rintro e w3 ⟨bV, dV, rfl, hV, hb3⟩
            have HV := Lib.hid hV
            have hbw := ext_trans hbA hb3
            have HSC := Lib.hid (HSB.out.ext hb3)
            clear hV hb3 HSB hbA
            obtain ⟨gf, hgf⟩ : ∃ z, visF l key gap = z := ⟨_, rfl⟩
            have HG := Lib.hid hgf
            rw [hgf]
            clear hgf
            by_cases hg0 : gf = 0
            · subst hg0
              have HVF := Lib.hid (visFacts HG.out)
              have hl20 := checkL_len (visF_ok HG.out).1
              obtain ⟨V, hVV⟩ : ∃ z, visV l key gap = z := ⟨_, rfl⟩
              rw [hVV] at HV HVF ⊢
              have hV20 := HVF.out.len
              have hT20 := HVF.out.times
              clear hVV HG
              go_wp2
              go_loopw [26, 99] (fun v26 i wr => ∃ (k : Nat) (z : Int), k ≤ V.length ∧ i = .int .i64 k ∧ v26 = .int .i64 z ∧ Hid (z = sumV V k) ∧ Below w3.heap.size w3 wr) (fun _ i _ => V.length - (intOf i).toNat)
              case atStart => exact ⟨0, 0, by omega, rfl, rfl, Lib.hid (by simp [sumV]), Below.refl _ _⟩
              case round =>
                obtain ⟨k, z, hk, rfl, rfl, HZ, hbr⟩ := hrel
                have hsb := sumV_bound (fun v hv => by have h9 := HVF.out.each v hv; omega) k hk
                have hz := HZ.out
                have hzb : 0 ≤ z ∧ z ≤ 400000000 := by omega
                by_cases hlt : k < V.length
                · have hgk := List.getElem?_eq_getElem hlt
                  generalize V[k] = v at hgk
                  obtain ⟨hv1, hv2, hv3, hv4, hv5⟩ := HVF.out.each v (List.mem_of_getElem? hgk)
                  have HSU := Lib.hid (sumV_succ hgk)
                  obtain ⟨b, o', rfl, e0, e1, e2⟩ := vi_cells (HV.out.ext hbr) hgk
                  have hk0 : (0 : Int) ≤ (k : Int) := Int.natCast_nonneg _
                  have hk1 : (k : Int) < (V.length : Int) := by omega
                  clear hz hsb
                  go_upto_region 29 with (fail)
                  clear e0 e1 e2
                  refine wp_box1 fun X hszX hbX hX => ?_
                  have g0 : X.cell? ⟨wr.heap.size, 0, none⟩ = some (.int .i64 v.fr) := hX.2 0
                  have g1 : X.cell? ⟨wr.heap.size, 1, none⟩ = some (.int .i64 v.to) := hX.2 1
                  have g2 : X.cell? ⟨wr.heap.size, 2, none⟩ = some (.int .i64 v.n) := hX.2 2
                  have hbX2 := ext_trans hbr hbX
                  have HVX := Lib.hid (HV.out.ext hbX2)
                  have hl1 : decide (v.to < v.fr) = false := decide_eq_false (by omega)
                  have hl2 : decide (v.n < 1) = false := decide_eq_false (by omega)
                  clear hX hszX hbX hbr
                  cases k with
                  | zero =>
                    clear hgk
                    go_wp2_with fail
                    go_region
                    have HSV : Hid (z + v.n = sumV V (0 + 1)) := Lib.hid (by rw [HSU.out, HZ.out])
                    have hbd := hbX2.drew
                    go_wp2
                    go_roundw
                    case rel => exact ⟨0 + 1, z + v.n, by omega, by go_num, by go_num, HSV, hbd⟩
                    case measure => simp [intOf]; omega
                  | succ j =>
                    obtain ⟨p0, hp0⟩ : ∃ p0, V[j]? = some p0 := ⟨_, List.getElem?_eq_getElem (by omega)⟩
                    obtain ⟨-, -, -, -, hp5⟩ := HVF.out.each p0 (List.mem_of_getElem? hp0)
                    have hgp := HVF.out.gaps j p0 v hp0 hgk
                    have hl3 : decide (v.fr - p0.to ≤ gap) = false := decide_eq_false (by omega)
                    obtain ⟨b2, o2, hbo, -, c1, -⟩ := vi_cells HVX.out hp0
                    cases hbo
                    clear hgk hp0
                    go_wp2_with fail
                    go_region
                    have HSV : Hid (z + v.n = sumV V ((j + 1) + 1)) := Lib.hid (by rw [HSU.out, HZ.out])
                    have hbd := hbX2.drew
                    go_wp2
                    go_roundw
                    case rel => exact ⟨(j + 1) + 1, z + v.n, by omega, by go_num, by go_num, HSV, hbd⟩
                    case measure => simp [intOf]; omega
                · have HSE : Hid (z = ((timesX key l).length : Int)) := Lib.hid (by
                    rw [HZ.out, show k = V.length by omega]; exact HVF.out.sum)
                  have hbv := ext_trans hbw hbr
                  have HSL := Lib.hid (HSC.out.ext hbr)
                  clear HZ HSC hsb hz hbr HV
                  obtain ⟨wC, rfl⟩ : ∃ W, W = wr := ⟨wr, rfl⟩
                  go_wp2
                  clear hlt hk
                  go_loopw [26, 138] (fun v26 i wq => ∃ (k : Nat) (y : Int), k ≤ l.length ∧ i = .int .i64 k ∧ v26 = .int .i64 y ∧ Hid (y = ((timesX key l).length : Int) - ((timesX key (l.take k)).length : Int)) ∧ Below wC.heap.size wC wq) (fun _ i _ => l.length - (intOf i).toNat)
                  case atStart => exact ⟨0, z, by omega, rfl, rfl, Lib.hid (by rw [HSE.out]; simp [timesX]), Below.refl _ _⟩
                  case round =>
                    obtain ⟨k, y, hk, rfl, rfl, HY, hbq⟩ := hrel
                    have hlt1 : (timesX key (l.take k)).length ≤ 20000 := by
                      unfold timesX
                      rw [List.length_map]
                      exact Nat.le_trans (List.length_filter_le _ _) (by rw [List.length_take]; omega)
                    have hy := HY.out
                    have hyb : -20000 ≤ y ∧ y ≤ 20000 := by omega
                    clear hy hlt1
                    by_cases hlt : k < l.length
                    · have hgk := List.getElem?_eq_getElem hlt
                      generalize l[k] = s at hgk
                      have HTT := Lib.hid (times_take (key := key) hgk)
                      obtain ⟨b, o, rfl, e0, e1, e2, e3, e4, e5, e6, e7⟩ := ev_cells (HSL.out.ext hbq) hgk
                      have hk0 : (0 : Int) ≤ (k : Int) := Int.natCast_nonneg _
                      have hk1 : (k : Int) < (l.length : Int) := by omega
                      clear hgk
                      go_upto_region 36 with (fail)
                      clear e0 e1 e2 e3 e4 e5 e6 e7
                      refine wp_box1 fun X hszX hbX hX => ?_
                      obtain ⟨g0, g1, g2, g3, g4, g5, g6, g7⟩ := box_ev hX
                      have hbX2 := ext_trans hbq hbX
                      clear hX hszX hbX hbq
                      by_cases hky : s.key = key
                      · have hnb : (s.key.toList == key.toList) = true := by rw [hky]; simp
                        have hnb2 : s.key.toList = key.toList := by rw [hky]
                        by_cases hkd : s.kind = 3
                        · have hkb : (s.kind != 3) = false := by simpa using hkd
                          have HY2 : Hid (y = ((timesX key l).length : Int) - ((timesX key (l.take (k + 1))).length : Int)) := Lib.hid (by rw [HTT.out, HY.out]; unfold ofKey; simp [hkd])
                          clear hkd hky
                          go_wp2
                          go_roundw
                          case rel => exact ⟨k + 1, y, by omega, by go_num, rfl, HY2, hbX2⟩
                          case measure => simp [intOf]; omega
                        · have hkb : (s.kind != 3) = true := by simpa using hkd
                          have HY2 : Hid (y - 1 = ((timesX key l).length : Int) - ((timesX key (l.take (k + 1))).length : Int)) := Lib.hid (by
                            rw [HTT.out, HY.out, show ofKey key s = true by unfold ofKey; simp [hkd, hky], if_pos rfl, List.length_append, List.length_singleton]; omega)
                          clear hkd hky
                          go_wp2
                          go_roundw
                          case rel => exact ⟨k + 1, y - 1, by omega, by go_num, by go_num, HY2, hbX2⟩
                          case measure => simp [intOf]; omega
                      · have hnb : (s.key.toList == key.toList) = false := by rw [beq_eq_false_iff_ne, ByteArray.toList_eq, ByteArray.toList_eq]; exact fun h => hky (bytes_ext h)
                        have hnb2 : ¬ (s.key.toList = key.toList) := by rw [ByteArray.toList_eq, ByteArray.toList_eq]; exact fun h => hky (bytes_ext h)
                        have HY2 : Hid (y = ((timesX key l).length : Int) - ((timesX key (l.take (k + 1))).length : Int)) := Lib.hid (by rw [HTT.out, HY.out]; unfold ofKey; simp [hky])
                        clear hky
                        go_wp2
                        go_roundw
                        case rel => exact ⟨k + 1, y, by omega, by go_num, rfl, HY2, hbX2⟩
                        case measure => simp [intOf]; omega
                    · have hy0 : y = 0 := by
                        have h9 := HY.out
                        rw [List.take_of_length_le (by omega)] at h9
                        omega
                      subst hy0
                      have hbz := ext_trans hbv hbq
                      clear HY hbq hyb
                      go_wp2
                      go_ret
                      exact ⟨rfl, hbz⟩
            · have hne : (gf != 0) = true := by simpa using hg0
              have hnil := visV_nil (by rw [HG.out]; exact hg0)
              rw [hnil]
              clear hg0 hnil HV HSC
              go_wp2
              go_ret
              exact ⟨rfl, hbw⟩
  · have hne : (f == 0) = false := beq_eq_false_iff_ne.2 h0
    obtain ⟨wB, rfl⟩ : ∃ W, W = w1 := ⟨w1, rfl⟩
    have hbA := hb1
    clear h0 HT HI hb1
    have HSB := Lib.hid (HS.out.ext hbA)
    go_wp2_with fail
    refine (Visits_at l HOK.out key HX.out gap a c wB HSB.out).mono ?_
    rintro e w3 ⟨bV, dV, rfl, hV, hb3⟩
    have HV := Lib.hid hV
    have hbw := ext_trans hbA hb3
    have HSC := Lib.hid (HSB.out.ext hb3)
    clear hV hb3 HSB hbA
    obtain ⟨gf, hgf⟩ : ∃ z, visF l key gap = z := ⟨_, rfl⟩
    have HG := Lib.hid hgf
    rw [hgf]
    clear hgf
    by_cases hg0 : gf = 0
    · subst hg0
      have HVF := Lib.hid (visFacts HG.out)
      have hl20 := checkL_len (visF_ok HG.out).1
      obtain ⟨V, hVV⟩ : ∃ z, visV l key gap = z := ⟨_, rfl⟩
      rw [hVV] at HV HVF ⊢
      have hV20 := HVF.out.len
      have hT20 := HVF.out.times
      clear hVV HG
      go_wp2
      go_loopw [26, 99] (fun v26 i wr => ∃ (k : Nat) (z : Int), k ≤ V.length ∧ i = .int .i64 k ∧ v26 = .int .i64 z ∧ Hid (z = sumV V k) ∧ Below w3.heap.size w3 wr) (fun _ i _ => V.length - (intOf i).toNat)
      case atStart => exact ⟨0, 0, by omega, rfl, rfl, Lib.hid (by simp [sumV]), Below.refl _ _⟩
      case round =>
        obtain ⟨k, z, hk, rfl, rfl, HZ, hbr⟩ := hrel
        have hsb := sumV_bound (fun v hv => by have h9 := HVF.out.each v hv; omega) k hk
        have hz := HZ.out
        have hzb : 0 ≤ z ∧ z ≤ 400000000 := by omega
        by_cases hlt : k < V.length
        · have hgk := List.getElem?_eq_getElem hlt
          generalize V[k] = v at hgk
          obtain ⟨hv1, hv2, hv3, hv4, hv5⟩ := HVF.out.each v (List.mem_of_getElem? hgk)
          have HSU := Lib.hid (sumV_succ hgk)
          obtain ⟨b, o', rfl, e0, e1, e2⟩ := vi_cells (HV.out.ext hbr) hgk
          have hk0 : (0 : Int) ≤ (k : Int) := Int.natCast_nonneg _
          have hk1 : (k : Int) < (V.length : Int) := by omega
          clear hz hsb
          go_upto_region 29 with (fail)
          clear e0 e1 e2
          refine wp_box1 fun X hszX hbX hX => ?_
          have g0 : X.cell? ⟨wr.heap.size, 0, none⟩ = some (.int .i64 v.fr) := hX.2 0
          have g1 : X.cell? ⟨wr.heap.size, 1, none⟩ = some (.int .i64 v.to) := hX.2 1
          have g2 : X.cell? ⟨wr.heap.size, 2, none⟩ = some (.int .i64 v.n) := hX.2 2
          have hbX2 := ext_trans hbr hbX
          have HVX := Lib.hid (HV.out.ext hbX2)
          have hl1 : decide (v.to < v.fr) = false := decide_eq_false (by omega)
          have hl2 : decide (v.n < 1) = false := decide_eq_false (by omega)
          clear hX hszX hbX hbr
          cases k with
          | zero =>
            clear hgk
            go_wp2_with fail
            go_region
            have HSV : Hid (z + v.n = sumV V (0 + 1)) := Lib.hid (by rw [HSU.out, HZ.out])
            have hbd := hbX2.drew
            go_wp2
            go_roundw
            case rel => exact ⟨0 + 1, z + v.n, by omega, by go_num, by go_num, HSV, hbd⟩
            case measure => simp [intOf]; omega
          | succ j =>
            obtain ⟨p0, hp0⟩ : ∃ p0, V[j]? = some p0 := ⟨_, List.getElem?_eq_getElem (by omega)⟩
            obtain ⟨-, -, -, -, hp5⟩ := HVF.out.each p0 (List.mem_of_getElem? hp0)
            have hgp := HVF.out.gaps j p0 v hp0 hgk
            have hl3 : decide (v.fr - p0.to ≤ gap) = false := decide_eq_false (by omega)
            obtain ⟨b2, o2, hbo, -, c1, -⟩ := vi_cells HVX.out hp0
            cases hbo
            clear hgk hp0
            go_wp2_with fail
            go_region
            have HSV : Hid (z + v.n = sumV V ((j + 1) + 1)) := Lib.hid (by rw [HSU.out, HZ.out])
            have hbd := hbX2.drew
            go_wp2
            go_roundw
            case rel => exact ⟨(j + 1) + 1, z + v.n, by omega, by go_num, by go_num, HSV, hbd⟩
            case measure => simp [intOf]; omega
        · have HSE : Hid (z = ((timesX key l).length : Int)) := Lib.hid (by
            rw [HZ.out, show k = V.length by omega]; exact HVF.out.sum)
          have hbv := ext_trans hbw hbr
          have HSL := Lib.hid (HSC.out.ext hbr)
          clear HZ HSC hsb hz hbr HV
          obtain ⟨wC, rfl⟩ : ∃ W, W = wr := ⟨wr, rfl⟩
          go_wp2
          clear hlt hk
          go_loopw [26, 138] (fun v26 i wq => ∃ (k : Nat) (y : Int), k ≤ l.length ∧ i = .int .i64 k ∧ v26 = .int .i64 y ∧ Hid (y = ((timesX key l).length : Int) - ((timesX key (l.take k)).length : Int)) ∧ Below wC.heap.size wC wq) (fun _ i _ => l.length - (intOf i).toNat)
          case atStart => exact ⟨0, z, by omega, rfl, rfl, Lib.hid (by rw [HSE.out]; simp [timesX]), Below.refl _ _⟩
          case round =>
            obtain ⟨k, y, hk, rfl, rfl, HY, hbq⟩ := hrel
            have hlt1 : (timesX key (l.take k)).length ≤ 20000 := by
              unfold timesX
              rw [List.length_map]
              exact Nat.le_trans (List.length_filter_le _ _) (by rw [List.length_take]; omega)
            have hy := HY.out
            have hyb : -20000 ≤ y ∧ y ≤ 20000 := by omega
            clear hy hlt1
            by_cases hlt : k < l.length
            · have hgk := List.getElem?_eq_getElem hlt
              generalize l[k] = s at hgk
              have HTT := Lib.hid (times_take (key := key) hgk)
              obtain ⟨b, o, rfl, e0, e1, e2, e3, e4, e5, e6, e7⟩ := ev_cells (HSL.out.ext hbq) hgk
              have hk0 : (0 : Int) ≤ (k : Int) := Int.natCast_nonneg _
              have hk1 : (k : Int) < (l.length : Int) := by omega
              clear hgk
              go_upto_region 36 with (fail)
              clear e0 e1 e2 e3 e4 e5 e6 e7
              refine wp_box1 fun X hszX hbX hX => ?_
              obtain ⟨g0, g1, g2, g3, g4, g5, g6, g7⟩ := box_ev hX
              have hbX2 := ext_trans hbq hbX
              clear hX hszX hbX hbq
              by_cases hky : s.key = key
              · have hnb : (s.key.toList == key.toList) = true := by rw [hky]; simp
                have hnb2 : s.key.toList = key.toList := by rw [hky]
                by_cases hkd : s.kind = 3
                · have hkb : (s.kind != 3) = false := by simpa using hkd
                  have HY2 : Hid (y = ((timesX key l).length : Int) - ((timesX key (l.take (k + 1))).length : Int)) := Lib.hid (by rw [HTT.out, HY.out]; unfold ofKey; simp [hkd])
                  clear hkd hky
                  go_wp2
                  go_roundw
                  case rel => exact ⟨k + 1, y, by omega, by go_num, rfl, HY2, hbX2⟩
                  case measure => simp [intOf]; omega
                · have hkb : (s.kind != 3) = true := by simpa using hkd
                  have HY2 : Hid (y - 1 = ((timesX key l).length : Int) - ((timesX key (l.take (k + 1))).length : Int)) := Lib.hid (by
                    rw [HTT.out, HY.out, show ofKey key s = true by unfold ofKey; simp [hkd, hky], if_pos rfl, List.length_append, List.length_singleton]; omega)
                  clear hkd hky
                  go_wp2
                  go_roundw
                  case rel => exact ⟨k + 1, y - 1, by omega, by go_num, by go_num, HY2, hbX2⟩
                  case measure => simp [intOf]; omega
              · have hnb : (s.key.toList == key.toList) = false := by rw [beq_eq_false_iff_ne, ByteArray.toList_eq, ByteArray.toList_eq]; exact fun h => hky (bytes_ext h)
                have hnb2 : ¬ (s.key.toList = key.toList) := by rw [ByteArray.toList_eq, ByteArray.toList_eq]; exact fun h => hky (bytes_ext h)
                have HY2 : Hid (y = ((timesX key l).length : Int) - ((timesX key (l.take (k + 1))).length : Int)) := Lib.hid (by rw [HTT.out, HY.out]; unfold ofKey; simp [hky])
                clear hky
                go_wp2
                go_roundw
                case rel => exact ⟨k + 1, y, by omega, by go_num, rfl, HY2, hbX2⟩
                case measure => simp [intOf]; omega
            · have hy0 : y = 0 := by
                have h9 := HY.out
                rw [List.take_of_length_le (by omega)] at h9
                omega
              subst hy0
              have hbz := ext_trans hbv hbq
              clear HY hbq hyb
              go_wp2
              go_ret
              exact ⟨rfl, hbz⟩
    · have hne : (gf != 0) = true := by simpa using hg0
      have hnil := visV_nil (by rw [HG.out]; exact hg0)
      rw [hnil]
      clear hg0 hnil HV HSC
      go_wp2
      go_ret
      exact ⟨rfl, hbw⟩
end Ex
end Go.Proofs.Ytacchooggifnhaa
