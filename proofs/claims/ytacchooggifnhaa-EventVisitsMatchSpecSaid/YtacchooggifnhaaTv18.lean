/- Tallies of the reference. Printed by gen_rvis.py. The walk of EventVisitsMatchSpec. Printed by gen_lawvis.py. -/
import Derived.Test.YtacchooggifnhaaTv17
import Derived.Test.YtacchooggifnhaaTv02
import Derived.Test.YtacchooggifnhaaTv14
import Derived.Test.YtacchooggifnhaaTv03
import Derived.Test.YtacchooggifnhaaTv00
import Derived.Test.YtacchooggifnhaaShelf
import Derived.Test.YtacchooggifnhaaProg
import Derived.Test.YtacchooggifnhaaTv04
import Derived.Test.YtacchooggifnhaaTv05
import Derived.Test.YtacchooggifnhaaTv06
import Derived.Test.YtacchooggifnhaaTv07
import Derived.Test.YtacchooggifnhaaTv08
import Derived.Test.YtacchooggifnhaaTv09
import Derived.Test.YtacchooggifnhaaTv15
namespace Go.Proofs.Ytacchooggifnhaa
open Go.RowKit
namespace Ex
set_option maxRecDepth 100000 in
set_option maxHeartbeats 16000000 in
theorem refTallies_at (l : List Ev) (hok : ∀ e ∈ l, e.ok) (x : ByteArray) (hx : x.size ≤ maxLen) (arms day : Int) (a : Option Addr) (c : Nat) (w : World) (hs : Sl w (.slice a l.length c) l.length (l.flatMap evL)) :
    Calls Try.prog 11 #[.slice a l.length c, .string x, .int .i64 arms, .int .i64 day] w (TalPost x l arms day w) := by
  have hl := hs.len_le
  have HOK := Lib.hid hok
  have HS := Lib.hid hs
  have HX := Lib.hid hx
  clear hok hs hx
  go_enter Try.func11, Try.ntmps11
  go_wp2_with fail
  refine (ref7_CheckLog l HOK.out a c w HS.out).mono ?_
  rintro e w1 ⟨rfl, hb1⟩
  obtain ⟨f, hf⟩ : ∃ z, checkL l = z := ⟨_, rfl⟩
  have HF : Hid (expF l x = if f ≠ 0 then f else if nameB x.data.toList = true then 0 else 5) := Lib.hid (by rw [← hf]; rfl)
  have HCL := Lib.hid hf
  rw [hf]
  clear hf
  by_cases h0 : f = 0
  · subst h0
    obtain ⟨kb, hkb⟩ : ∃ z, nameB x.data.toList = z := ⟨_, rfl⟩
    rw [hkb] at HF
    have HXK := Lib.hid (fun W9 => (by have h9 := ref_IsName x HX.out W9; rw [hkb] at h9; exact h9 : Calls Try.prog 35 #[.string x] W9 fun e w' => e = .returned (.bool kb) ∧ W9 = w'))
    clear hkb
    go_wp2_with fail
    refine (HXK.out w1).mono ?_
    rintro e w2 ⟨rfl, hw⟩
    subst hw
    cases kb
    · have HFC : Hid (expF l x = 5) := Lib.hid (HF.out.trans rfl)
      have HP : Hid (TalPost x l arms day w (.returned (.tuple #[.slice none 0 0, .int .i64 5])) w1) := Lib.hid (tal_bad (by unfold TalIs; rw [if_pos (by rw [HFC.out]; decide), HFC.out]; exact ⟨rfl, rfl⟩) hb1)
      clear HF HXK
      go_wp2
      exact bodyPost_ret (v := .tuple #[.slice none 0 0, .int .i64 5]) (by simp [results, Try.results11, go_sem]) rfl HP.out
    · have HFC : Hid (expF l x = 0) := Lib.hid (HF.out.trans rfl)
      clear HF HXK
      by_cases ha1 : arms < 1
      · have HP : Hid (TalPost x l arms day w (.returned (.tuple #[.slice none 0 0, .int .i64 1])) w1) := Lib.hid (tal_bad (by unfold TalIs; rw [if_neg (by rw [HFC.out]; decide), if_pos (.inl (show withinB _ _ _ = false from decide_eq_false (by omega)))]; exact ⟨rfl, rfl⟩) hb1)
        clear HFC
        go_wp2
        exact bodyPost_ret (v := .tuple #[.slice none 0 0, .int .i64 1]) (by simp [results, Try.results11, go_sem]) rfl HP.out
      have ha1b : decide (arms < 1) = false := decide_eq_false ha1
      by_cases ha2 : 20 < arms
      · have HP : Hid (TalPost x l arms day w (.returned (.tuple #[.slice none 0 0, .int .i64 1])) w1) := Lib.hid (tal_bad (by unfold TalIs; rw [if_neg (by rw [HFC.out]; decide), if_pos (.inl (show withinB _ _ _ = false from decide_eq_false (by omega)))]; exact ⟨rfl, rfl⟩) hb1)
        clear HFC ha1
        go_wp2
        exact bodyPost_ret (v := .tuple #[.slice none 0 0, .int .i64 1]) (by simp [results, Try.results11, go_sem]) rfl HP.out
      have ha2b : decide (20 < arms) = false := decide_eq_false ha2
      by_cases hd1 : day < 1
      · have HP : Hid (TalPost x l arms day w (.returned (.tuple #[.slice none 0 0, .int .i64 1])) w1) := Lib.hid (tal_bad (by unfold TalIs; rw [if_neg (by rw [HFC.out]; decide), if_pos (.inr (show withinB _ _ _ = false from decide_eq_false (by omega)))]; exact ⟨rfl, rfl⟩) hb1)
        clear HFC ha1 ha2
        go_wp2
        exact bodyPost_ret (v := .tuple #[.slice none 0 0, .int .i64 1]) (by simp [results, Try.results11, go_sem]) rfl HP.out
      have hd1b : decide (day < 1) = false := decide_eq_false hd1
      by_cases hd2 : 100000000 < day
      · have HP : Hid (TalPost x l arms day w (.returned (.tuple #[.slice none 0 0, .int .i64 1])) w1) := Lib.hid (tal_bad (by unfold TalIs; rw [if_neg (by rw [HFC.out]; decide), if_pos (.inr (show withinB _ _ _ = false from decide_eq_false (by omega)))]; exact ⟨rfl, rfl⟩) hb1)
        clear HFC ha1 ha2 hd1
        go_wp2
        exact bodyPost_ret (v := .tuple #[.slice none 0 0, .int .i64 1]) (by simp [results, Try.results11, go_sem]) rfl HP.out
      have hd2b : decide (100000000 < day) = false := decide_eq_false hd2
      have harm : 1 ≤ arms ∧ arms ≤ 20 := by omega
      obtain ⟨ar, rfl⟩ : ∃ n : Nat, arms = (n : Int) := ⟨arms.toNat, by omega⟩
      have hday : 1 ≤ day ∧ day ≤ 100000000 := by omega
      have HIS : Hid (∀ f rows, (∃ (o : List Sbj) (ks : List ByteArray), ExpR (expX x l).1 (expX x l).2 o ks ∧ TalR (o.filter (keepB (ar : Int))) day ar f rows) → TalIs x l (ar : Int) day f rows) := Lib.hid (fun f rows h => by
        unfold TalIs
        rw [if_neg (by rw [HFC.out]; decide), if_neg (by unfold withinB; rw [decide_eq_true harm, decide_eq_true hday]; simp)]
        exact h)
      clear ha1 ha2 hd1 hd2
      go_wp2_with fail
      refine (refExposed_at l x a c w1 HCL.out (HS.out.ext hb1)).mono ?_
      rintro e w3 ⟨o, ks, p, q, cp, cq, rfl, ho1, ho2, hR, ⟨hol, _⟩, hb3⟩
      have hbw3 := ext_trans hb1 hb3
      have HR := Lib.hid hR
      have HSO := Lib.hid (Sl.ofOwn ho1)
      have hol2 := HSO.out.len_le
      have HTA : Hid (∀ s ∈ o, (0 ≤ s.time ∧ s.time ≤ 4000000000) ∧ 0 ≤ s.arm) := Lib.hid (fun s hs => by
        refine ⟨?_, arms_from HCL.out hR s hs⟩
        obtain ⟨e, he, h8, h9⟩ := expR_from hR s hs
        rw [h8]
        exact checkE_time (checkL_each HCL.out e he))
      have hd0 : ¬ day = 0 := by omega
      have hdb0 : (day == 0) = false := beq_eq_false_iff_ne.2 hd0
      have HIS2 : Hid (∀ f rows, TalR (o.filter (keepB (ar : Int))) day ar f rows → TalIs x l (ar : Int) day f rows) := Lib.hid (fun f rows h => HIS.out f rows ⟨o, ks, HR.out, h⟩)
      clear ho1 ho2 hR HR HIS hb1 hb3
      go_wp2
      go_loopw [13, 14, 53] (fun v13 v14 i wr => ∃ (k : Nat) (z1 z2 : Int), k ≤ o.length ∧ i = .int .i64 k ∧ v13 = .int .i64 z1 ∧ v14 = .int .i64 z2 ∧ Hid (mmX day ((o.take k).filter (keepB (ar : Int))) = (z1, z2)) ∧ (0 ≤ z1 ∧ z1 ≤ 4000000000) ∧ (-1 ≤ z2 ∧ z2 ≤ 4000000000) ∧ Below w3.heap.size w3 wr) (fun _ _ i _ => o.length - (intOf i).toNat)
      case atStart => exact ⟨0, 4000000000, -1, by omega, rfl, rfl, rfl, Lib.hid (by simp [mmX]), by omega, by omega, Below.refl _ _⟩
      case round =>
        obtain ⟨k, z1, z2, hk, rfl, rfl, rfl, HM, hz1, hz2, hbr⟩ := hrel
        by_cases hlt : k < o.length
        · have hgk := List.getElem?_eq_getElem hlt
          generalize o[k] = s at hgk
          obtain ⟨⟨hst0, hst1⟩, hsa⟩ := HTA.out s (List.mem_of_getElem? hgk)
          obtain ⟨b, o', rfl, e0, e1, e2, e3, e4, e5, e6, e7⟩ := sb_cells (HSO.out.ext hbr) hgk
          have hk0 : (0 : Int) ≤ (k : Int) := Int.natCast_nonneg _
          have hk1 : (k : Int) < (o.length : Int) := by omega
          have HG := Lib.hid hgk
          clear hgk
          go_upto_region 13 with (fail)
          clear e0 e1 e2 e3 e4 e5 e6 e7
          refine wp_box1 fun X hszX hbX hX => ?_
          obtain ⟨g0, g1, g2, g3, g4, g5, g6, g7⟩ := box_sb hX
          have hbw := ext_trans hbr hbX
          clear hX hszX hbX hbr
          by_cases hka : s.arm < (ar : Int)
          · obtain ⟨q, hq⟩ : ∃ q, s.time / day = q := ⟨_, rfl⟩
            have hq0 : 0 ≤ q := by rw [← hq]; exact Int.ediv_nonneg hst0 (by omega)
            have hq1 : q ≤ 4000000000 := by rw [← hq]; exact Int.le_trans (Int.ediv_le_self _ hst0) hst1
            have htd : s.time.tdiv day = q := by rw [Int.tdiv_eq_ediv_of_nonneg hst0]; exact hq
            have HM2 : Hid (mmX day ((o.take (k + 1)).filter (keepB (ar : Int))) = (min z1 q, max z2 q)) := Lib.hid (by
              rw [filt_yes HG.out (show keepB (ar : Int) s = true from decide_eq_true hka), mmX_snoc, HM.out]
              unfold mmS
              rw [hq])
            have hwq : IntKind.i64.wrap q = q := by rw [IntKind.wrap_i64]; omega
            clear hq HM HG
            go_wp2_with fail
            go_region
            have hbd := hbw.drew
            go_wp2
            go_roundw
            case rel => exact ⟨k + 1, min z1 q, max z2 q, by omega, by go_num, rfl, rfl, HM2, by omega, by omega, hbd⟩
            case measure => simp [intOf]; omega
          · have hkd : decide (s.arm < (ar : Int)) = false := decide_eq_false hka
            have HM2 : Hid (mmX day ((o.take (k + 1)).filter (keepB (ar : Int))) = (z1, z2)) := Lib.hid (by
              rw [filt_no HG.out (show keepB (ar : Int) s = false from hkd)]; exact HM.out)
            clear HM HG
            go_wp2
            go_roundw
            case rel => exact ⟨k + 1, z1, z2, by omega, by go_num, rfl, rfl, HM2, hz1, hz2, hbw⟩
            case measure => simp [intOf]; omega
        · have HMM : Hid (MmOk (o.filter (keepB (ar : Int))) day (z1, z2)) := Lib.hid (by
            have h9 := HM.out
            rw [List.take_of_length_le (by omega)] at h9
            rw [← h9]
            refine mmX_ok fun s hs => ?_
            obtain ⟨⟨h1, h2⟩, _⟩ := HTA.out s (List.mem_filter.1 hs).1
            exact ⟨Int.ediv_nonneg h1 (by omega), Int.le_trans (Int.ediv_le_self _ h1) h2⟩)
          have hbwr := ext_trans hbw3 hbr
          have HSOr := Lib.hid (HSO.out.ext hbr)
          clear HM hk hbr HSO
          obtain ⟨wB, rfl⟩ : ∃ W, W = wr := ⟨wr, rfl⟩
          by_cases hbig : 20000 ≤ z2 - z1
          · have HP : Hid (TalPost x l (ar : Int) day w (.returned (.tuple #[.slice none 0 0, .int .i64 2])) wB) := Lib.hid (tal_bad (HIS2.out 2 [] (large_of HMM.out hbig ar)) hbwr)
            have hbg : decide (20000 ≤ z2 - z1) = true := decide_eq_true hbig
            clear HMM HIS2
            go_wp2
            exact bodyPost_ret (v := .tuple #[.slice none 0 0, .int .i64 2]) (by simp [results, Try.results11, go_sem]) rfl HP.out
          · have hbg : decide (20000 ≤ z2 - z1) = false := decide_eq_false hbig
            obtain ⟨lo, n, rfl, hn20, hiff, hrng, htal⟩ := days_of HMM.out hbig
            have HRN := Lib.hid hrng
            have HTL := Lib.hid (HIS2.out 0 _ (htal ar))
            have HIFF := Lib.hid hiff
            clear hrng htal HMM HIS2 hbig hiff
            go_wp2
            clear hlt
            go_loopw [17, 18] (fun v17 i wq => ∃ (k : Nat) (bs : List Nat), k ≤ n ∧ i = .int .i64 ((lo : Int) + (k : Int)) ∧ Hid (bs.length = k) ∧ Hid bs.Nodup ∧ Hid (∀ b ∈ bs, b < wq.heap.size) ∧ Hid (Rows wq wB.heap.size ar bs (List.replicate k (List.replicate ar 0))) ∧ wq.ownsRow wB.heap.size 35 2 v17 k ((dayL lo ar bs).flatMap tlL) ∧ Below wB.heap.size wB wq) (fun _ i _ => n - ((intOf i) - lo).toNat)
            case atStart => exact ⟨0, [], by omega, by go_num, rfl, Lib.hid (by simp), Lib.hid (fun b h => by simp at h), Lib.hid (fun j b r h => by simp at h), World.ownsRow_nil _ _ _ _, Below.refl _ _⟩
            case round =>
              obtain ⟨k, bs, hk, rfl, HBL, HND, HBB, HRW, hoT, hbq⟩ := hrel
              obtain ⟨gT, cT, rfl⟩ := own_shape hoT
              by_cases hlt : k < n
              · have hle : decide ((lo : Int) + (k : Int) ≤ z2) = true := decide_eq_true ((HIFF.out k hk).2 hlt)
                have hk0 : (0 : Int) ≤ (k : Int) := Int.natCast_nonneg _
                have hone := tl_one ((lo : Int) + (k : Int), Value.slice (some ⟨wr.heap.size, 0, none⟩) ar ar) rfl
                go_wp2_with (first | ((with_reducible refine wpList_make_own (n := ar) ?_ (.tmp 86) (.tmp 86) 33 ?_ wB.heap.size 3 Try.underlying33 intE_info ?_ ?_ ?_ ?_ ?_ ?_); rfl; rfl; rfl; rfl; omega; (unfold maxLen; omega); (exact hbq.size); (intro W8 hown8 hg8; have hb8 : Below wr.heap.size wr W8 := below_none hg8 (Nat.le_refl _); have hoT8 := ownsRow_ext hoT hb8; have hsz8 : wr.heap.size < W8.heap.size := (hown8.lt _ rfl).2)) | (at_builtin; refine wpList_append_sl rfl _ _ 23 rfl wB.heap.size 35 Try.underlying23 tal_info rfl (by decide) rfl (ownsRow_ext hoT8 (ext_alloc _ _)) rfl (Sl.new W8 (tlC ((lo : Int) + (k : Int), Value.slice (some ⟨wr.heap.size, 0, none⟩) ar ar)) _ 1 1 (by omega) (by decide)) rfl hone (by unfold maxLen; omega) (by omega) (by have := hbq.size; simp; omega) ?_; intro v9 w9 hown9 hg9 _))
                have hbA := (ext_alloc W8 (.cells (tlC ((lo : Int) + (k : Int), Value.slice (some ⟨wr.heap.size, 0, none⟩) ar ar)) 35))
                have hoTA := ownsRow_ext hoT8 hbA
                have hown9' : W8.ownsRow wB.heap.size 3 1 (.slice (some ⟨wr.heap.size, 0, none⟩) ar ar) ar ((List.replicate ar (0 : Int)).map (Value.int .i64)) := by rw [← made_int]; exact hown8
                have hR9 := ((((HRW.out.ext hb8).snoc (by rw [HBL.out, List.length_replicate]) hown9').ext hbA).kept hoTA (by decide) hg9)
                rw [← List.replicate_succ'] at hR9
                have hoT9 : w9.ownsRow wB.heap.size 35 2 v9 (k + 1) ((dayL lo ar (bs ++ [wr.heap.size])).flatMap tlL) := by
                  rw [dayL_snoc, HBL.out, List.flatMap_append, show ([((lo : Int) + (k : Int), Value.slice (some ⟨wr.heap.size, 0, none⟩) ar ar)] : List (Int × Value)).flatMap tlL = tlL ((lo : Int) + (k : Int), Value.slice (some ⟨wr.heap.size, 0, none⟩) ar ar) by simp]; exact hown9
                have hbA8 := (hbq.trans (hb8.mono hbq.size)).trans (hbA.mono (Nat.le_trans hbq.size hb8.size))
                have hb9 : Below wB.heap.size wB w9 := hbA8.grown hg9 hbA8.size (fun q hq => (hoTA.lt q hq).1)
                have HND9 : Hid (bs ++ [wr.heap.size]).Nodup := Lib.hid (by
                  rw [List.nodup_append]
                  refine ⟨HND.out, by simp, fun u hu v hv e => ?_⟩
                  have := HBB.out u hu
                  simp at hv; omega)
                have HBB9 : Hid (∀ b ∈ bs ++ [wr.heap.size], b < w9.heap.size) := Lib.hid (fun b hb => by
                  have h9 := Nat.le_trans hbA.size hg9.size
                  rcases List.mem_append.1 hb with hb | hb
                  · have := HBB.out b hb; omega
                  · simp at hb; omega)
                exact ⟨⟨k + 1, bs ++ [wr.heap.size], by omega, by go_num, Lib.hid (by rw [List.length_append, HBL.out]; rfl), HND9, HBB9, Lib.hid hR9, hoT9, hb9⟩, by simp [intOf]; omega⟩
              · obtain rfl : k = n := by omega
                have hle : decide ((lo : Int) + (k : Int) ≤ z2) = false := decide_eq_false (fun h => hlt ((HIFF.out k hk).1 h))
                have HR0 : Hid (Rows wr wB.heap.size ar bs (tabT ((o.take 0).filter (keepB (ar : Int))) day (lo : Int) k ar)) := Lib.hid (by rw [List.take_zero, List.filter_nil, tabT_nil]; exact HRW.out)
                clear HRW HBB
                go_wp2
                clear hlt hk
                go_loopw [93] (fun i wq => ∃ j : Nat, j ≤ o.length ∧ i = .int .i64 j ∧ Hid (Rows wq wB.heap.size ar bs (tabT ((o.take j).filter (keepB (ar : Int))) day (lo : Int) k ar)) ∧ wq.ownsRow wB.heap.size 35 2 (.slice gT k cT) k ((dayL lo ar bs).flatMap tlL) ∧ Below wB.heap.size wB wq) (fun i _ => o.length - (intOf i).toNat)
                case atStart => exact ⟨0, by omega, rfl, HR0, hoT, hbq⟩
                case round =>
                  clear HR0 hoT hbq
                  obtain ⟨y, hy, rfl, HR, hoT, hbq⟩ := hrel
                  by_cases hlt : y < o.length
                  · have hgk := List.getElem?_eq_getElem hlt
                    generalize o[y] = s at hgk
                    obtain ⟨⟨hst0, hst1⟩, hsa0⟩ := HTA.out s (List.mem_of_getElem? hgk)
                    have HSM := Lib.hid (List.mem_of_getElem? hgk)
                    obtain ⟨b', o', rfl, e0, e1, e2, e3, e4, e5, e6, e7⟩ := sb_cells (HSOr.out.ext hbq) hgk
                    have hk0 : (0 : Int) ≤ (y : Int) := Int.natCast_nonneg _
                    have hk1 : (y : Int) < (o.length : Int) := by omega
                    have HG := Lib.hid hgk
                    clear hgk
                    go_upto_region 26 with (fail)
                    clear e0 e1 e2 e3 e4 e5 e6 e7
                    refine wp_box1 fun X hszX hbX hX => ?_
                    obtain ⟨g0, g1, g2, g3, g4, g5, g6, g7⟩ := box_sb hX
                    have hRX := HR.out.ext hbX
                    have hoTX := ownsRow_ext hoT hbX
                    have hbw := hbq.trans (hbX.mono hbq.size)
                    clear hX hszX hbX HR hoT hbq
                    by_cases hka : s.arm < (ar : Int)
                    · obtain ⟨hd1, hd2⟩ := HRN.out s (List.mem_filter.2 ⟨HSM.out, show keepB (ar : Int) s = true from decide_eq_true hka⟩)
                      obtain ⟨q, hq⟩ : ∃ q : Nat, s.time / day = (lo : Int) + (q : Int) := ⟨(s.time / day - lo).toNat, by omega⟩
                      obtain ⟨j, hj⟩ : ∃ j : Nat, s.arm = (j : Int) := ⟨s.arm.toNat, by omega⟩
                      have hqd : q < k := by omega
                      have hja : j < ar := by omega
                      have htd : s.time.tdiv day = (lo : Int) + (q : Int) := by rw [Int.tdiv_eq_ediv_of_nonneg hst0]; exact hq
                      have HSTEP : Hid (tabT ((o.take (y + 1)).filter (keepB (ar : Int))) day (lo : Int) k ar = (tabT ((o.take y).filter (keepB (ar : Int))) day (lo : Int) k ar).set q ((rowT ((o.take y).filter (keepB (ar : Int))) day ((lo : Int) + (q : Int)) ar).set j (((((o.take y).filter (keepB (ar : Int))).countP (cntB day ((lo : Int) + (q : Int)) (j : Int)) : Nat) : Int) + 1))) := Lib.hid (by
                        rw [filt_yes HG.out (show keepB (ar : Int) s = true from decide_eq_true hka)]
                        exact tabT_step hq hqd hj hja)
                      obtain ⟨KF, hKF⟩ : ∃ z, (o.take y).filter (keepB (ar : Int)) = z := ⟨_, rfl⟩
                      have hKl : KF.length ≤ 20000 := by
                        rw [← hKF]
                        exact Nat.le_trans (List.length_filter_le _ _) (by rw [List.length_take]; omega)
                      rw [hKF] at HSTEP hRX
                      obtain ⟨cn, hcn⟩ : ∃ z, KF.countP (cntB day ((lo : Int) + (q : Int)) (j : Int)) = z := ⟨_, rfl⟩
                      have hcb : cn ≤ 20000 := by
                        have h9 := List.countP_le_length (p := cntB day ((lo : Int) + (q : Int)) (j : Int)) (l := KF)
                        rw [hcn] at h9; omega
                      rw [hcn] at HSTEP
                      obtain ⟨b, hb⟩ : ∃ b, bs[q]? = some b := ⟨_, List.getElem?_eq_getElem (by rw [HBL.out]; exact hqd)⟩
                      have HB := Lib.hid hb
                      have HRQ : Hid ((tabT KF day (lo : Int) k ar)[q]? = some (rowT KF day ((lo : Int) + (q : Int)) ar)) := Lib.hid (tabT_get hqd)
                      have HRJ : Hid ((rowT KF day ((lo : Int) + (q : Int)) ar)[j]? = some (cn : Int)) := Lib.hid (by rw [rowT_get hja, hcn])
                      have HJ := Lib.hid hj
                      obtain ⟨gt, cap, hgv, hgB⟩ := own_form hoTX (by omega)
                      obtain rfl : gT = some ⟨gt, 0, none⟩ := by injection hgv
                      obtain rfl : cT = cap := by injection hgv
                      clear hgv
                      have c1 : X.cell? ⟨gt, q * 2 + 1, none⟩ = some (.slice (some ⟨b, 0, none⟩) ar ar) := (own_cell hoTX (flat_get (f := tlL) (sz := 2) (fun _ => rfl) _ _ _ (dayL_get HB.out) 1 _ rfl)).1
                      obtain ⟨c2, f2⟩ := own_cell (hRX q b _ HB.out HRQ.out) (i := j) (x := .int .i64 (cn : Int)) (by rw [List.getElem?_map, HRJ.out]; rfl)
                      have hR9 := hRX.set HND.out HB.out HRQ.out hja (rowT_len _ _ _ _) ((cn : Int) + 1)
                      have hoT9 := hRX.other hoTX (by decide) HB.out HRQ.out j (.int .i64 ((cn : Int) + 1))
                      have hbb : wB.heap.size ≤ b := ((hRX q b _ HB.out HRQ.out).lt _ rfl).1
                      have hb9 := hbw.setCell (p := ⟨b, j, none⟩) hbb (.int .i64 ((cn : Int) + 1))
                      rw [← HSTEP.out] at hR9
                      clear hRX hoTX hbw hKF hcn hb hd1 hd2
                      have hwq1 : IntKind.i64.wrap ((lo : Int) + (q : Int)) = (lo : Int) + (q : Int) := by rw [IntKind.wrap_i64]; omega
                      have hsq : (lo : Int) + (q : Int) - (lo : Int) = (q : Int) := by omega
                      have hq0 : (0 : Int) ≤ (q : Int) := Int.natCast_nonneg _
                      have hq1 : (q : Int) < (k : Int) := by omega
                      have hj0 : (0 : Int) ≤ (j : Int) := Int.natCast_nonneg _
                      have hj1 : (j : Int) < (ar : Int) := by omega
                      rw [HJ.out] at g2
                      clear hq hj hka
                      go_wp2_with fail
                      go_region
                      clear g0 g1 g2 g3 g4 g5 g6 g7 c1 c2 f2
                      have hRd : Hid (Rows (X.setCell ⟨b, j, none⟩ (.int .i64 ((cn : Int) + 1))).drew wB.heap.size ar bs (tabT ((o.take (y + 1)).filter (keepB (ar : Int))) day (lo : Int) k ar)) := Lib.hid hR9
                      have hoTd : (X.setCell ⟨b, j, none⟩ (.int .i64 ((cn : Int) + 1))).drew.ownsRow wB.heap.size 35 2 (.slice (some ⟨gt, 0, none⟩) k cT) k ((dayL lo ar bs).flatMap tlL) := hoT9
                      have hbd := hb9.drew
                      clear hR9 hoT9 hb9
                      generalize (X.setCell ⟨b, j, none⟩ (.int .i64 ((cn : Int) + 1))).drew = X9 at hRd hoTd hbd ⊢
                      go_wp2
                      refine And.intro ?_ (by simp [intOf]; omega)
                      first
                        | exact ⟨y + 1, by omega, by go_num, hRd, hoTd, hbd⟩
                        | (repeat apply Exists.intro
                           refine And.intro ?_ rfl
                           exact ⟨y + 1, by omega, by go_num, hRd, hoTd, hbd⟩)
                    · have hkd : decide (s.arm < (ar : Int)) = false := decide_eq_false hka
                      have HR2 : Hid (Rows X wB.heap.size ar bs (tabT ((o.take (y + 1)).filter (keepB (ar : Int))) day (lo : Int) k ar)) := Lib.hid (by
                        rw [filt_no HG.out (show keepB (ar : Int) s = false from hkd)]; exact hRX)
                      clear hRX HG hka
                      go_wp2
                      go_roundw
                      case rel => exact ⟨y + 1, by omega, by go_num, HR2, hoTX, hbw⟩
                      case measure => simp [intOf]; omega
                  · have hRK : Hid (Rows wr wB.heap.size ar bs (tabT (o.filter (keepB (ar : Int))) day (lo : Int) k ar)) := Lib.hid (by have h9 := HR.out; rw [List.take_of_length_le (by omega)] at h9; exact h9)
                    have hbz := ext_trans hbwr hbq
                    have HP : Hid (TalPost x l (ar : Int) day w (.returned (.tuple #[.slice gT k cT, .int .i64 0])) wr) := Lib.hid ⟨0, talX (o.filter (keepB (ar : Int))) day lo k ar, gT, cT, by rw [talX_len], ⟨bs, by rw [talX_len]; exact HBL.out, by rw [talX_len, tlX_days HBL.out]; exact Sl.ofOwn hoT, fun i b r h1 h2 => by
                      obtain ⟨hl9, e9⟩ := talX_row h2
                      rw [hl9]
                      exact Sl.ofOwn (hRK.out i b r.2 h1 e9)⟩, HTL.out, hbz⟩
                    clear HR hoT hbq hRK
                    go_wp2
                    exact bodyPost_ret (v := .tuple #[.slice gT k cT, .int .i64 0]) (by simp [results, Try.results11, go_sem]) rfl HP.out
  · have hne : (f != 0) = true := by simpa using h0
    have HFC : Hid (expF l x = f) := Lib.hid (HF.out.trans (if_pos h0))
    have HP : Hid (TalPost x l arms day w (.returned (.tuple #[.slice none 0 0, .int .i64 f])) w1) := Lib.hid (tal_bad (by unfold TalIs; rw [if_pos (by rw [HFC.out]; exact h0), HFC.out]; exact ⟨rfl, rfl⟩) hb1)
    clear h0 HF
    go_wp2
    exact bodyPost_ret (v := .tuple #[.slice none 0 0, .int .i64 f]) (by simp [results, Try.results11, go_sem]) rfl HP.out
end Ex
end Go.Proofs.Ytacchooggifnhaa
namespace Go.Proofs.Ytacchooggifnhaa
open Go.RowKit
namespace Ex
theorem TalIs.unique {x : ByteArray} {l : List Ev} {arms day f f' : Int} {rows rows' : List (Int × List Int)} (h : TalIs x l arms day f rows) (h' : TalIs x l arms day f' rows') : f = f' ∧ rows = rows' := by
  unfold TalIs at h h'
  by_cases h1 : expF l x ≠ 0
  · rw [if_pos h1] at h h'
    exact ⟨h.1.trans h'.1.symm, h.2.trans h'.2.symm⟩
  · rw [if_neg h1] at h h'
    by_cases h2 : withinB arms 1 20 = false ∨ withinB day 1 100000000 = false
    · rw [if_pos h2] at h h'
      exact ⟨h.1.trans h'.1.symm, h.2.trans h'.2.symm⟩
    · rw [if_neg h2] at h h'
      obtain ⟨o, ks, a1, a2⟩ := h
      obtain ⟨o', ks', b1, b2⟩ := h'
      obtain ⟨rfl, _⟩ := a1.unique b1
      exact a2.unique b2
set_option maxRecDepth 100000 in
set_option maxHeartbeats 16000000 in
theorem lawVis_at (l : List Ev) (hok : ∀ e ∈ l, e.ok) (key : ByteArray) (hx : key.size ≤ maxLen) (gap : Int) (x : ByteArray) (hx2 : x.size ≤ maxLen) (arms day : Int) (a : Option Addr) (c : Nat) (w : World) (hs : Sl w (.slice a l.length c) l.length (l.flatMap evL)) :
    Calls Try.prog 4 #[.slice a l.length c, .string key, .int .i64 gap, .string x, .int .i64 arms, .int .i64 day] w fun e w' => e = .returned (.bool true) ∧ Below w.heap.size w w' := by
  have HOK := Lib.hid hok
  have HS := Lib.hid hs
  have HX := Lib.hid hx
  have HX2 := Lib.hid hx2
  clear hok hs hx hx2
  go_enter Try.func4, Try.ntmps4
  go_wp2_with fail
  refine (Visits_at l HOK.out key HX.out gap a c w HS.out).mono ?_
  rintro e w1 ⟨b1, d1, rfl, hV1, hb1⟩
  have HC := Lib.hid (fun W (hW : Below w1.heap.size w1 W) => refVisits_at l HOK.out key HX.out gap a c W (HS.out.ext (ext_trans hb1 hW)))
  obtain ⟨V, hV⟩ : ∃ z, visV l key gap = z := ⟨_, rfl⟩
  obtain ⟨gf, hgf⟩ : ∃ z, visF l key gap = z := ⟨_, rfl⟩
  rw [hV] at hV1 HC ⊢
  rw [hgf] at HC ⊢
  have HV1 := Lib.hid hV1
  clear hV hgf hV1
  go_wp2_with fail
  refine (HC.out w1 (Below.refl _ _)).mono ?_
  rintro e w2 ⟨b2, d2, rfl, hV2, hb2⟩
  have HV2 := Lib.hid hV2
  have HV3 := Lib.hid (HV1.out.ext hb2)
  have hb3 := ext_trans hb1 hb2
  have hff : (gf != gf) = false := by simp
  clear hV2 HV1 HC
  go_wp2_with fail
  refine (equal_visits V b1 b2 d1 d2 w2 HV3.out HV2.out).mono ?_
  rintro e w3 ⟨rfl, hb4⟩
  have hb5 := ext_trans hb3 hb4
  have HS3 := Lib.hid (HS.out.ext hb5)
  clear HV2 HV3 hb3 hb4 hb1 hb2
  go_wp2_with fail
  refine (Tallies_at l HOK.out x HX2.out arms day a c w3 HS3.out).mono ?_
  rintro e w4 ⟨f, rows, bT, dT, rfl, hT, hI, hb6⟩
  have HT := Lib.hid hT
  have HI := Lib.hid hI
  have HS4 := Lib.hid (HS3.out.ext hb6)
  have hb7 := ext_trans hb5 hb6
  clear hT hI hb5 hb6
  go_wp2_with fail
  refine (refTallies_at l HOK.out x HX2.out arms day a c w4 HS4.out).mono ?_
  rintro e w5 ⟨f', rows', bR, dR, rfl, hT2, hI2, hb8⟩
  obtain ⟨h1, h2⟩ := HI.out.unique hI2
  subst h1
  subst h2
  have HT2 := Lib.hid hT2
  have HT3 := Lib.hid (HT.out.ext hb8)
  have hb9 := ext_trans hb7 hb8
  have hff2 : (f == f) = true := by simp
  clear hT2 hI2 HT HI hb7 hb8
  go_wp2_with fail
  refine (equal_tallies rows bT bR dT dR w5 HT3.out HT2.out).mono ?_
  rintro e w6 ⟨rfl, hbA⟩
  have hbB := ext_trans hb9 hbA
  clear HT3 HT2 hb9 hbA
  go_wp2
  go_ret
  exact ⟨rfl, hbB⟩
end Ex
end Go.Proofs.Ytacchooggifnhaa
