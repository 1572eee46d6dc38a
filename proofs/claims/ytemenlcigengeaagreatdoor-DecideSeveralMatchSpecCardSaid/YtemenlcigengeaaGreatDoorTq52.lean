/- Average of both. Printed by gen_sevv.py. -/
import Derived.Test.YtemenlcigengeaaGreatDoorTq51
import Derived.Test.YtemenlcigengeaaGreatDoorTq43
import Derived.Test.YtemenlcigengeaaGreatDoorTq49
import Derived.Test.YtemenlcigengeaaGreatDoorTq00
import Derived.Test.YtemenlcigengeaaGreatDoorTq40
import Derived.Test.YtemenlcigengeaaGreatDoorTq41
import Derived.Test.YtemenlcigengeaaGreatDoorTq31
namespace Go.Proofs.YtemenlcigengeaaGreatDoor
open Go.RowKit
namespace Nm
def sumW (s : Rat) : List RT → List RT → Rat
  | r :: t, u :: v => sumW (s + rQ r.n r.d * rQ u.n u.d) t v
  | _, _ => s
def sumV (a : Rat) : List RT → Rat
  | [] => a
  | u :: v => sumV (a + rQ u.n u.d) v
def wF : List RT → List RT → Int
  | r :: t, u :: v => if partF r.n r.d ≠ 0 then partF r.n r.d else if partF u.n u.d ≠ 0 then partF u.n u.d else wF t v
  | _, _ => 0
theorem sumW_step {l m : List RT} {k : Nat} {r u : RT} (h : l[k]? = some r) (h2 : m[k]? = some u) (s : Rat) : sumW s (l.drop k) (m.drop k) = sumW (s + rQ r.n r.d * rQ u.n u.d) (l.drop (k + 1)) (m.drop (k + 1)) := by
  obtain ⟨hk, rfl⟩ := List.getElem?_eq_some_iff.1 h
  obtain ⟨hk2, rfl⟩ := List.getElem?_eq_some_iff.1 h2
  rw [List.drop_eq_getElem_cons hk, List.drop_eq_getElem_cons hk2]; rfl
theorem sumV_step {m : List RT} {k : Nat} {u : RT} (h2 : m[k]? = some u) (a : Rat) : sumV a (m.drop k) = sumV (a + rQ u.n u.d) (m.drop (k + 1)) := by
  obtain ⟨hk2, rfl⟩ := List.getElem?_eq_some_iff.1 h2
  rw [List.drop_eq_getElem_cons hk2]; rfl
theorem wF_step {l m : List RT} {k : Nat} {r u : RT} (h : l[k]? = some r) (h2 : m[k]? = some u) : wF (l.drop k) (m.drop k) = if partF r.n r.d ≠ 0 then partF r.n r.d else if partF u.n u.d ≠ 0 then partF u.n u.d else wF (l.drop (k + 1)) (m.drop (k + 1)) := by
  obtain ⟨hk, rfl⟩ := List.getElem?_eq_some_iff.1 h
  obtain ⟨hk2, rfl⟩ := List.getElem?_eq_some_iff.1 h2
  rw [List.drop_eq_getElem_cons hk, List.drop_eq_getElem_cons hk2]; rfl
theorem wF_all : ∀ {l m : List RT}, l.length = m.length → wF l m = 0 → (∀ r ∈ l, partF r.n r.d = 0) ∧ ∀ r ∈ m, partF r.n r.d = 0
  | [], [], _, _ => ⟨fun r h => by (cases h), fun r h => by (cases h)⟩
  | [], _ :: _, h, _ => by simp at h
  | _ :: _, [], h, _ => by simp at h
  | r :: t, u :: v, h, h0 => by
    unfold wF at h0
    by_cases h1 : partF r.n r.d = 0
    · rw [if_neg (fun h => h h1)] at h0
      by_cases h2 : partF u.n u.d = 0
      · rw [if_neg (fun h => h h2)] at h0
        obtain ⟨g1, g2⟩ := wF_all (l := t) (m := v) (by simpa using h) h0
        exact ⟨fun x hx => (List.mem_cons.1 hx).elim (fun e => e ▸ h1) (g1 x), fun x hx => (List.mem_cons.1 hx).elim (fun e => e ▸ h2) (g2 x)⟩
      · rw [if_pos h2] at h0; exact absurd h0 h2
    · rw [if_pos h1] at h0; exact absurd h0 h1
theorem AvOk.quo {k : Nat} {s a : Rat} (h : AvOk k s a) (hk : k ≤ 10) (h0 : a ≠ 0) : Ln 3100 3100 (s / a) := (h.1.div h.2 h0).mono (by omega) (by omega)
theorem part_ln1 {r : RT} (h : partF r.n r.d = 0) : rF r.n r.d = 0 ∧ 0 ≤ rQ r.n r.d ∧ Ln 100 100 (rQ r.n r.d) ∧ Fits (rQ r.n r.d) ∧ r.n = showN (rQ r.n r.d) ∧ r.d = showD (rQ r.n r.d) := by
  obtain ⟨h1, q, hq, hrq, hn, hd, h0, hl⟩ := part_parts h
  rw [hrq]
  exact ⟨h1, h0, hl, hq, hn, hd⟩
def avgF (l m : List RT) : Int := if mF l.length ≠ 0 then mF l.length else if m.length ≠ l.length then 3 else if wF l m ≠ 0 then wF l m else if (sumV 0 m).num = 0 then 14 else 0
def avgN (l m : List RT) : ByteArray := if avgF l m = 0 then showN (sumW 0 l m / sumV 0 m) else ⟨#[]⟩
def avgD (l m : List RT) : ByteArray := if avgF l m = 0 then showD (sumW 0 l m / sumV 0 m) else ⟨#[]⟩
theorem avg_no {l m : List RT} {f : Int} (h : avgF l m = f) (hf : f ≠ 0) : avgN l m = ⟨#[]⟩ ∧ avgD l m = ⟨#[]⟩ := ⟨by unfold avgN; rw [if_neg (by rw [h]; exact hf)], by unfold avgD; rw [if_neg (by rw [h]; exact hf)]⟩
theorem xplus_is (x y z : Rat) (hz : x + y = z) (v u : Value) (w : World) (hx : XR w v x) (hy : XR w u y) (l1 : wlen x.num.natAbs ≤ 100000000) (l2 : wlen x.den ≤ 100000000) (l3 : wlen y.num.natAbs ≤ 100000000) (l4 : wlen y.den ≤ 100000000) : Calls Tryz.prog 42 #[v, u] w (XPost w z) := by
  subst hz; exact xplus_at x y v u w hx hy l1 l2 l3 l4
theorem show_zero (q : Rat) : ((showN q).toList == [48]) = decide (q.num = 0) := by
  have e : (showN q).toList = numL q := by rw [ByteArray.toList_eq]; rfl
  rw [e]
  unfold numL
  by_cases h : q.num < 0
  · rw [if_pos h, decide_eq_false (by omega)]; rfl
  · rw [if_neg h]
    by_cases h0 : q.num = 0
    · rw [decide_eq_true h0, h0]
      have : decS (Int.natAbs 0) = [48] := by rw [show Int.natAbs 0 = 0 from rfl, decS_small (by omega)]; rfl
      rw [this]; rfl
    · rw [decide_eq_false h0]
      have : decS q.num.natAbs ≠ [48] := fun e => h0 (by
        have := decv_decS q.num.natAbs
        rw [e] at this
        have h1 : decv [48] = 0 := by decide
        omega)
      simp [this]
set_option maxRecDepth 100000 in
set_option maxHeartbeats 16000000 in
theorem average_at (l m : List RT) (hok : ∀ r ∈ l, rtOk r) (hok2 : ∀ r ∈ m, rtOk r) (a b : Option Addr) (c d : Nat) (w : World) (hs : Sl w (.slice a l.length c) l.length (l.flatMap rtL)) (hs2 : Sl w (.slice b m.length d) m.length (m.flatMap rtL)) : Calls Tryz.prog 14 #[.slice a l.length c, .slice b m.length d] w (AnsPost w (avgN l m) (avgD l m) (avgF l m)) := by
  have HS := Lib.hid hs
  have HS2 := Lib.hid hs2
  have HGS := Lib.hid hok
  have HGM := Lib.hid hok2
  clear hs hs2 hok hok2
  go_enter Tryz.func14, Tryz.ntmps14
  go_upto_region 1 with (fail)
  refine wp_box1r fun w1' hsz hbW hC hF => ?_
  clear hsz
  have HB_o := Lib.hid hC
  have HF_o := Lib.hid hF
  have HW := Lib.hid hbW
  clear hbW hC hF
  go_wp2_with fail
  refine (checkManyP_at l.length a c w1').mono ?_
  rintro e w2' ⟨rfl, hw9⟩
  have hbz : Below w1'.heap.size w1' w2' := by rw [← hw9]; exact Below.refl _ _
  clear hw9
  replace HF_o := Lib.hid (HF_o.out.ext HB_o.out hbz)
  replace HB_o := Lib.hid (HB_o.out.ext hbz)
  replace HW := Lib.hid (ext_trans HW.out hbz)
  clear hbz
  by_cases hf : mF l.length = 0
  · have hne : (mF l.length != 0) = false := by simp [hf]
    obtain ⟨hl1, hl10⟩ := mF_ok hf
    have HF0 : Hid (avgF l m = if m.length ≠ l.length then 3 else if wF l m ≠ 0 then wF l m else if (sumV 0 m).num = 0 then 14 else 0) := Lib.hid (by unfold avgF; rw [if_neg (fun h => h hf)])
    clear hf
    by_cases hlm : m.length ≠ l.length
    · have HV : Hid (avgF l m = 3) := Lib.hid (by rw [HF0.out, if_pos hlm])
      have HNE : Hid ((3 : Int) ≠ 0) := Lib.hid (by decide)
      have hneg : ((l.length : Int) != (m.length : Int)) = true := by rw [bne_iff_ne]; omega
      clear hlm
      have c_o_0 : w2'.cell? ⟨w.heap.size, 0, none⟩ = some (.string ⟨#[]⟩) := HB_o.out.2 0
      have c_o_1 : w2'.cell? ⟨w.heap.size, 1, none⟩ = some (.string ⟨#[]⟩) := HB_o.out.2 1
      have f_o_0 := HF_o.out 0
      have f_o_1 := HF_o.out 1
      have HN := Lib.hid (avg_no HV.out HNE.out)
      have HR := Lib.hid (Nt.res2s (.string ⟨#[]⟩) (.string ⟨#[]⟩) HB_o.out HW.out (show w.heap.size ≤ w.heap.size by omega))
      obtain ⟨hbF, z0, z1⟩ := id HR.out
      clear hbF
      go_wp2
      exact bodyPost_ret (v := .tuple #[.agg #[.string ⟨#[]⟩, .string ⟨#[]⟩], .int .i64 (3)]) (by simp [results, Tryz.results14, go_sem, z0, z1]) rfl ⟨by rw [HN.out.1, HN.out.2, HV.out], HR.out.1⟩
    · have hlm' : m.length = l.length := by omega
      have HF1 : Hid (avgF l m = if wF l m ≠ 0 then wF l m else if (sumV 0 m).num = 0 then 14 else 0) := Lib.hid (by rw [HF0.out, if_neg hlm])
      have hneg : ((l.length : Int) != (m.length : Int)) = false := by rw [bne_eq_false_iff_eq]; omega
      have HLM := Lib.hid hlm'
      clear hlm hlm' HF0
      obtain ⟨zq, hzq⟩ : ∃ q : Rat, ((0 : Int) : Rat) = q := ⟨_, rfl⟩
      have HZQ : Hid (zq = 0) := Lib.hid hzq.symm
      have HWH : Hid (∀ w', Calls Tryz.prog 40 #[.int .i64 0] w' (XPost w' zq)) := Lib.hid (by rw [← hzq]; exact fun w' => whole_at 0 (by decide) (by decide) w')
      clear hzq
      go_wp2_with fail
      refine (HWH.out w2').mono ?_
      rintro e w3' ⟨v1, rfl, hv1, hbz⟩
      obtain ⟨p11, g11, p12, g12, rfl, _, _⟩ := hv1.open_
      obtain ⟨b1, hb1⟩ : ∃ b, decide (zq.num < 0) = b := ⟨_, rfl⟩
      obtain ⟨m11, hm11⟩ : ∃ x, (digs zq.num.natAbs).length = x := ⟨_, rfl⟩
      obtain ⟨m12, hm12⟩ : ∃ x, (digs zq.den).length = x := ⟨_, rfl⟩
      rw [hb1, hm11, hm12] at hv1 ⊢
      have HV1 := Lib.hid hv1
      clear hv1 hb1 hm11 hm12
      replace HF_o := Lib.hid (HF_o.out.ext HB_o.out hbz)
      replace HB_o := Lib.hid (HB_o.out.ext hbz)
      replace HW := Lib.hid (ext_trans HW.out hbz)
      clear hbz
      go_wp2_with fail
      refine (HWH.out w3').mono ?_
      rintro e w4' ⟨v2, rfl, hv2, hbz⟩
      obtain ⟨p21, g21, p22, g22, rfl, _, _⟩ := hv2.open_
      obtain ⟨b2, hb2⟩ : ∃ b, decide (zq.num < 0) = b := ⟨_, rfl⟩
      obtain ⟨m21, hm21⟩ : ∃ x, (digs zq.num.natAbs).length = x := ⟨_, rfl⟩
      obtain ⟨m22, hm22⟩ : ∃ x, (digs zq.den).length = x := ⟨_, rfl⟩
      rw [hb2, hm21, hm22] at hv2 ⊢
      have HV2 := Lib.hid hv2
      clear hv2 hb2 hm21 hm22
      replace HF_o := Lib.hid (HF_o.out.ext HB_o.out hbz)
      replace HB_o := Lib.hid (HB_o.out.ext hbz)
      replace HV1 := Lib.hid (HV1.out.ext hbz)
      replace HW := Lib.hid (ext_trans HW.out hbz)
      clear hbz
      go_upto_region 7 with (fail)
      refine wp_box2f fun w5' hsz hbz hC0 hF0 hC1 hF1 => ?_
      clear hsz
      have lt_o_s : w.heap.size < w4'.heap.size := HB_o.out.1
      have le_s : w.heap.size ≤ w4'.heap.size := HW.out.size
      replace HF_o := Lib.hid (HF_o.out.ext HB_o.out hbz)
      replace HB_o := Lib.hid (HB_o.out.ext hbz)
      replace HV1 := Lib.hid (HV1.out.ext hbz)
      replace HV2 := Lib.hid (HV2.out.ext hbz)
      replace HW := Lib.hid (ext_trans HW.out hbz)
      clear hbz
      have HB_s := Lib.hid hC0
      have HF_s := Lib.hid hF0
      clear hC0 hF0
      have HB_t := Lib.hid hC1
      have HF_t := Lib.hid hF1
      clear hC1 hF1
      generalize w4'.heap.size = b_s at *
      have HACS : Hid (Acc w5' b_s zq) := Lib.hid ⟨⟨⟨b1, p11, m11, g11, p12, m12, g12⟩, HB_s.out, HV1.out⟩, HF_s.out⟩
      have HACT : Hid (Acc w5' (b_s + 1) zq) := Lib.hid ⟨⟨⟨b2, p21, m21, g21, p22, m22, g22⟩, HB_t.out, HV2.out⟩, HF_t.out⟩
      clear HB_s HF_s HB_t HF_t HV1 HV2
      have HAV : Hid (AvOk 0 zq zq) := Lib.hid (by rw [HZQ.out]; exact AvOk.zero)
      have HS0 : Hid (sumW zq (l.drop 0) (m.drop 0) = sumW 0 l m) := Lib.hid (by rw [HZQ.out]; rfl)
      have HT0 : Hid (sumV zq (m.drop 0) = sumV 0 m) := Lib.hid (by rw [HZQ.out]; rfl)
      clear HWH HZQ
      go_wp2
      go_loopw [9, 12, 30] (fun _ _ i wr => ∃ (k : Nat) (s t : Rat), k ≤ l.length ∧ i = .int .i64 (k : Int) ∧ Hid (wF l m = wF (l.drop k) (m.drop k)) ∧ Hid (sumW s (l.drop k) (m.drop k) = sumW 0 l m) ∧ Hid (sumV t (m.drop k) = sumV 0 m) ∧ Hid (AvOk k s t) ∧ (Box wr w.heap.size #[.string ⟨#[]⟩, .string ⟨#[]⟩]) ∧ (Fre wr w.heap.size) ∧ (Acc wr b_s s) ∧ (Acc wr (b_s + 1) t) ∧ (Below w.heap.size w wr)) (fun _ _ i _ => l.length - (intOf i).toNat)
      case atStart => exact ⟨0, zq, zq, by omega, by rfl, rfl, HS0.out, HT0.out, HAV.out, HB_o.out, HF_o.out, HACS.out, HACT.out, HW.out⟩
      case round =>
        obtain ⟨k, s, t, hk, rfl, HK, HSS, HTT, HAK, q_HB_o, q_HF_o, q_HACS, q_HACT, q_HW⟩ := hrel
        clear HB_o HF_o HACS HACT HW
        clear HS0 HT0 HAV
        have HB_o := Lib.hid q_HB_o
        have HF_o := Lib.hid q_HF_o
        have HACS := Lib.hid q_HACS
        have HACT := Lib.hid q_HACT
        have HW := Lib.hid q_HW
        clear q_HB_o q_HF_o q_HACS q_HACT q_HW
        generalize hX : wr = X at *
        clear hX
        by_cases hlt : k < l.length
        · have hlt2 : k < m.length := by rw [HLM.out]; exact hlt
          have hk0 : (0 : Int) ≤ (k : Int) := Int.natCast_nonneg _
          have hk1 : (k : Int) < (l.length : Int) := by omega
          have hk2 : (k : Int) < (m.length : Int) := by omega
          have hgr := List.getElem?_eq_getElem hlt
          have okr := HGS.out _ (List.getElem_mem hlt)
          generalize l[k] = rr at hgr okr
          obtain ⟨rn, rd⟩ := rr
          have HGr := Lib.hid hgr
          have HOr := Lib.hid okr
          clear hgr okr
          have hgu := List.getElem?_eq_getElem hlt2
          have oku := HGM.out _ (List.getElem_mem hlt2)
          generalize m[k] = ur at hgu oku
          obtain ⟨un, ud⟩ := ur
          have HGu := Lib.hid hgu
          have HOu := Lib.hid oku
          clear hgu oku
          have HST := Lib.hid (HK.out.trans (wF_step HGr.out HGu.out))
          have HSS1 := Lib.hid ((sumW_step HGr.out HGu.out s).symm.trans HSS.out)
          have HTT1 := Lib.hid ((sumV_step HGu.out t).symm.trans HTT.out)
          simp only at HST HSS1 HTT1
          clear HK HSS HTT
          obtain ⟨pb, pbo, ep9, ecs⟩ := (HS.out.ext HW.out).elem (f := rtL) (fun _ => rfl) (by omega : 0 < 2) HGr.out
          have e0 : X.cell? ⟨pb, pbo + k * 2, none⟩ = some (.string rn) := ecs 0 _ rfl
          have e1 : X.cell? ⟨pb, pbo + k * 2 + 1, none⟩ = some (.string rd) := ecs 1 _ rfl
          clear ecs
          subst ep9
          go_upto_region 10 with (fail)
          refine wp_box1 fun w6' hsz hbz hC => ?_
          clear hsz
          have lt_o_r : w.heap.size < X.heap.size := HB_o.out.1
          have le_r : w.heap.size ≤ X.heap.size := HW.out.size
          replace HF_o := Lib.hid (HF_o.out.ext HB_o.out hbz)
          replace HB_o := Lib.hid (HB_o.out.ext hbz)
          replace HACS := Lib.hid (HACS.out.ext hbz)
          replace HACT := Lib.hid (HACT.out.ext hbz)
          replace HW := Lib.hid (ext_trans HW.out hbz)
          clear hbz e0 e1
          have HB_r := Lib.hid hC
          clear hC
          generalize X.heap.size = b_r at *
          have c_r_0 : w6'.cell? ⟨b_r, 0, none⟩ = some (.string rn) := HB_r.out.2 0
          have c_r_1 : w6'.cell? ⟨b_r, 1, none⟩ = some (.string rd) := HB_r.out.2 1
          go_wp2_with fail
          refine (readPart_at rn rd HOr.out.1 HOr.out.2 w6').mono ?_
          rintro e w7' ⟨xb, xa1, xn1, xc1, xa2, xn2, xc2, rfl, hx9, hbz⟩
          have HX9 := Lib.hid hx9
          clear hx9
          replace HF_o := Lib.hid (HF_o.out.ext HB_o.out hbz)
          replace HB_o := Lib.hid (HB_o.out.ext hbz)
          replace HB_r := Lib.hid (HB_r.out.ext hbz)
          replace HACS := Lib.hid (HACS.out.ext hbz)
          replace HACT := Lib.hid (HACT.out.ext hbz)
          replace HW := Lib.hid (ext_trans HW.out hbz)
          clear c_r_0 c_r_1
          clear hbz
          go_upto_region 11 with (fail)
          refine wp_box1 fun w8' hsz hbz hC => ?_
          clear hsz
          have lt_o_x : w.heap.size < w7'.heap.size := HB_o.out.1
          have lt_r_x : b_r < w7'.heap.size := HB_r.out.1
          have le_x : w.heap.size ≤ w7'.heap.size := HW.out.size
          replace HF_o := Lib.hid (HF_o.out.ext HB_o.out hbz)
          replace HB_o := Lib.hid (HB_o.out.ext hbz)
          replace HB_r := Lib.hid (HB_r.out.ext hbz)
          replace HACS := Lib.hid (HACS.out.ext hbz)
          replace HACT := Lib.hid (HACT.out.ext hbz)
          replace HX9 := Lib.hid (HX9.out.ext hbz)
          replace HW := Lib.hid (ext_trans HW.out hbz)
          clear hbz
          have HB_x := Lib.hid hC
          clear hC
          generalize w7'.heap.size = b_x at *
          clear HB_r
          by_cases hg : partF rn rd = 0
          · have hne2 : (partF rn rd != 0) = false := by simp [hg]
            have HST2 := Lib.hid (HST.out.trans (if_neg (fun h => h hg)))
            have HXR := Lib.hid (HX9.out hg)
            have HPQ := Lib.hid (part_ln1 (r := ⟨rn, rd⟩) hg)
            clear hg HST HX9
            obtain ⟨qb, qbo, up9, ucs⟩ := (HS2.out.ext HW.out).elem (f := rtL) (fun _ => rfl) (by omega : 0 < 2) HGu.out
            have u0 : w8'.cell? ⟨qb, qbo + k * 2, none⟩ = some (.string un) := ucs 0 _ rfl
            have u1 : w8'.cell? ⟨qb, qbo + k * 2 + 1, none⟩ = some (.string ud) := ucs 1 _ rfl
            clear ucs
            subst up9
            go_wp2_with fail
            refine (readPart_at un ud HOu.out.1 HOu.out.2 w8').mono ?_
            rintro e w9' ⟨yb, ya1, yn1, yc1, ya2, yn2, yc2, rfl, hy9, hbz⟩
            have HY9 := Lib.hid hy9
            clear hy9 u0 u1
            replace HF_o := Lib.hid (HF_o.out.ext HB_o.out hbz)
            replace HB_o := Lib.hid (HB_o.out.ext hbz)
            replace HB_x := Lib.hid (HB_x.out.ext hbz)
            replace HACS := Lib.hid (HACS.out.ext hbz)
            replace HACT := Lib.hid (HACT.out.ext hbz)
            replace HXR := Lib.hid (HXR.out.ext hbz)
            replace HW := Lib.hid (ext_trans HW.out hbz)
            clear hbz
            go_upto_region 14 with (fail)
            refine wp_box1 fun w10' hsz hbz hC => ?_
            clear hsz
            have lt_o_y : w.heap.size < w9'.heap.size := HB_o.out.1
            have lt_x_y : b_x < w9'.heap.size := HB_x.out.1
            have le_y : w.heap.size ≤ w9'.heap.size := HW.out.size
            replace HF_o := Lib.hid (HF_o.out.ext HB_o.out hbz)
            replace HB_o := Lib.hid (HB_o.out.ext hbz)
            replace HB_x := Lib.hid (HB_x.out.ext hbz)
            replace HACS := Lib.hid (HACS.out.ext hbz)
            replace HACT := Lib.hid (HACT.out.ext hbz)
            replace HXR := Lib.hid (HXR.out.ext hbz)
            replace HY9 := Lib.hid (HY9.out.ext hbz)
            replace HW := Lib.hid (ext_trans HW.out hbz)
            clear hbz
            have HB_y := Lib.hid hC
            clear hC
            generalize w9'.heap.size = b_y at *
            by_cases hg : partF un ud = 0
            · have hne3 : (partF un ud != 0) = false := by simp [hg]
              have HN : Hid (wF l m = wF (l.drop (k + 1)) (m.drop (k + 1))) := Lib.hid (HST2.out.trans (if_neg (fun h => h hg)))
              have HYR := Lib.hid (HY9.out hg)
              have HPU := Lib.hid (part_ln1 (r := ⟨un, ud⟩) hg)
              clear hg HST2 HY9
              generalize rQ rn rd = q at *
              generalize rQ un ud = p at *
              have HAK1 := Lib.hid (HAK.out.step HPQ.out.2.2.1 HPU.out.2.2.1)
              have hsA := HAK.out.small (by omega)
              have hsq := HPQ.out.2.2.1.small (by omega) (by omega)
              have hsp := HPU.out.2.2.1.small (by omega) (by omega)
              have hsm := (HPQ.out.2.2.1.mul HPU.out.2.2.1).small (by omega) (by omega)
              obtain ⟨qp, hqp⟩ : ∃ x, q * p = x := ⟨_, rfl⟩
              rw [hqp] at HAK1 HSS1 hsm
              obtain ⟨s', hs'⟩ : ∃ x, s + qp = x := ⟨_, rfl⟩
              rw [hs'] at HAK1 HSS1
              obtain ⟨t', ht'⟩ : ∃ x, t + p = x := ⟨_, rfl⟩
              rw [ht'] at HAK1 HTT1
              have HEQ := Lib.hid (And.intro hqp (And.intro hs' ht'))
              clear hqp hs' ht'
              go_upto_region 16 with (fail)
              obtain ⟨⟨⟨sb, sa1, sn1, sc1, sa2, sn2, sc2⟩, hsB, hsX⟩, hsF⟩ := id HACS.out
              have c_s_0 : w10'.cell? ⟨b_s, 0, none⟩ = some (.bool sb) := hsB.2 0
              have c_s_1 : w10'.cell? ⟨b_s, 1, none⟩ = some (.slice sa1 sn1 sc1) := hsB.2 1
              have c_s_2 : w10'.cell? ⟨b_s, 2, none⟩ = some (.slice sa2 sn2 sc2) := hsB.2 2
              have HXs := Lib.hid hsX
              have HQs := Lib.hid (And.intro hsB hsF)
              clear hsB hsX hsF
              obtain ⟨⟨⟨tb, ta1, tn1, tc1, ta2, tn2, tc2⟩, htB, htX⟩, htF⟩ := id HACT.out
              have c_t_0 : w10'.cell? ⟨(b_s + 1), 0, none⟩ = some (.bool tb) := htB.2 0
              have c_t_1 : w10'.cell? ⟨(b_s + 1), 1, none⟩ = some (.slice ta1 tn1 tc1) := htB.2 1
              have c_t_2 : w10'.cell? ⟨(b_s + 1), 2, none⟩ = some (.slice ta2 tn2 tc2) := htB.2 2
              have HXt := Lib.hid htX
              have HQt := Lib.hid (And.intro htB htF)
              clear htB htX htF
              have c_x_0 : w10'.cell? ⟨b_x, 0, none⟩ = some (.bool xb) := HB_x.out.2 0
              have c_x_1 : w10'.cell? ⟨b_x, 1, none⟩ = some (.slice xa1 xn1 xc1) := HB_x.out.2 1
              have c_x_2 : w10'.cell? ⟨b_x, 2, none⟩ = some (.slice xa2 xn2 xc2) := HB_x.out.2 2
              have c_y_0 : w10'.cell? ⟨b_y, 0, none⟩ = some (.bool yb) := HB_y.out.2 0
              have c_y_1 : w10'.cell? ⟨b_y, 1, none⟩ = some (.slice ya1 yn1 yc1) := HB_y.out.2 1
              have c_y_2 : w10'.cell? ⟨b_y, 2, none⟩ = some (.slice ya2 yn2 yc2) := HB_y.out.2 2
              refine Grow.wp_region_grow 8 [TP.eq (.agg #[.bool sb, .slice sa1 sn1 sc1, .slice sa2 sn2 sc2]), TP.eq (.agg #[.bool xb, .slice xa1 xn1 xc1, .slice xa2 xn2 xc2]), TP.eq (.agg #[.bool yb, .slice ya1 yn1 yc1, .slice ya2 yn2 yc2]), TPx qp, TPx s', TP.eq (.agg #[.bool tb, .slice ta1 tn1 tc1, .slice ta2 tn2 tc2]), TP.eq (.agg #[.bool yb, .slice ya1 yn1 yc1, .slice ya2 yn2 yc2]), TPx t'] [[], [], [], [1, 2], [0, 3], [], [], [5, 6]] (by kernel_rfl) (by kernel_rfl) ⟨?o0av, ?o1av, ?o2av, ?o3av, ?o4av, ?o5av, ?o6av, ?o7av, trivial⟩ ?_
              case o0av =>
                intro w' hb
                have c_s_0' : w'.cell? ⟨b_s, 0, none⟩ = some (.bool sb) := (hb.cell (World.block_lt_of_cell? _ _ c_s_0)).trans c_s_0
                have c_s_1' : w'.cell? ⟨b_s, 1, none⟩ = some (.slice sa1 sn1 sc1) := (hb.cell (World.block_lt_of_cell? _ _ c_s_1)).trans c_s_1
                have c_s_2' : w'.cell? ⟨b_s, 2, none⟩ = some (.slice sa2 sn2 sc2) := (hb.cell (World.block_lt_of_cell? _ _ c_s_2)).trans c_s_2
                show wpList _ _ _ _ _ _
                go_wp2
                exact ⟨rfl, Below.refl _ _, rfl⟩
              case o1av =>
                intro w' hb
                have c_x_0' : w'.cell? ⟨b_x, 0, none⟩ = some (.bool xb) := (hb.cell (World.block_lt_of_cell? _ _ c_x_0)).trans c_x_0
                have c_x_1' : w'.cell? ⟨b_x, 1, none⟩ = some (.slice xa1 xn1 xc1) := (hb.cell (World.block_lt_of_cell? _ _ c_x_1)).trans c_x_1
                have c_x_2' : w'.cell? ⟨b_x, 2, none⟩ = some (.slice xa2 xn2 xc2) := (hb.cell (World.block_lt_of_cell? _ _ c_x_2)).trans c_x_2
                show wpList _ _ _ _ _ _
                go_wp2
                exact ⟨rfl, Below.refl _ _, rfl⟩
              case o2av =>
                intro w' hb
                have c_y_0' : w'.cell? ⟨b_y, 0, none⟩ = some (.bool yb) := (hb.cell (World.block_lt_of_cell? _ _ c_y_0)).trans c_y_0
                have c_y_1' : w'.cell? ⟨b_y, 1, none⟩ = some (.slice ya1 yn1 yc1) := (hb.cell (World.block_lt_of_cell? _ _ c_y_1)).trans c_y_1
                have c_y_2' : w'.cell? ⟨b_y, 2, none⟩ = some (.slice ya2 yn2 yc2) := (hb.cell (World.block_lt_of_cell? _ _ c_y_2)).trans c_y_2
                show wpList _ _ _ _ _ _
                go_wp2
                exact ⟨rfl, Below.refl _ _, rfl⟩
              case o3av =>
                intro w' hb v1 hv1 v2 hv2
                obtain rfl : v1 = _ := hv1
                obtain rfl : v2 = _ := hv2
                show wpList _ _ _ _ _ _
                simp only [Grow.dstOf, List.getElem?_toArray, List.getElem?_cons_succ, List.getElem?_cons_zero, Option.bind_some, Act.put, List.setIfInBounds_toArray, List.set_cons_succ, List.set_cons_zero]
                go_wp2_with fail
                refine (xtimes_is q p qp HEQ.out.1 _ _ w' (HXR.out.ext hb) (HYR.out.ext hb) (by omega) (by omega) (by omega) (by omega)).mono ?_
                rintro e wz ⟨vz, rfl, hxz, hbz⟩
                go_wp2
                exact ⟨hxz, hbz, rfl⟩
              case o4av =>
                intro w' hb v1 hv1 v2 hv2
                obtain rfl : v1 = _ := hv1
                have hv2' : XR w' v2 qp := hv2
                clear hv2
                obtain ⟨o21, l21, o22, l22, rfl, _, _⟩ := hv2'.open_
                show wpList _ _ _ _ _ _
                simp only [Grow.dstOf, List.getElem?_toArray, List.getElem?_cons_succ, List.getElem?_cons_zero, Option.bind_some, Act.put, List.setIfInBounds_toArray, List.set_cons_succ, List.set_cons_zero]
                go_wp2_with fail
                refine (xplus_is s qp s' HEQ.out.2.1 _ _ w' (HXs.out.ext hb) hv2' (by omega) (by omega) (by omega) (by omega)).mono ?_
                rintro e wz ⟨vz, rfl, hxz, hbz⟩
                go_wp2
                exact ⟨hxz, hbz, rfl⟩
              case o5av =>
                intro w' hb
                have c_t_0' : w'.cell? ⟨(b_s + 1), 0, none⟩ = some (.bool tb) := (hb.cell (World.block_lt_of_cell? _ _ c_t_0)).trans c_t_0
                have c_t_1' : w'.cell? ⟨(b_s + 1), 1, none⟩ = some (.slice ta1 tn1 tc1) := (hb.cell (World.block_lt_of_cell? _ _ c_t_1)).trans c_t_1
                have c_t_2' : w'.cell? ⟨(b_s + 1), 2, none⟩ = some (.slice ta2 tn2 tc2) := (hb.cell (World.block_lt_of_cell? _ _ c_t_2)).trans c_t_2
                show wpList _ _ _ _ _ _
                go_wp2
                exact ⟨rfl, Below.refl _ _, rfl⟩
              case o6av =>
                intro w' hb
                have c_y_0' : w'.cell? ⟨b_y, 0, none⟩ = some (.bool yb) := (hb.cell (World.block_lt_of_cell? _ _ c_y_0)).trans c_y_0
                have c_y_1' : w'.cell? ⟨b_y, 1, none⟩ = some (.slice ya1 yn1 yc1) := (hb.cell (World.block_lt_of_cell? _ _ c_y_1)).trans c_y_1
                have c_y_2' : w'.cell? ⟨b_y, 2, none⟩ = some (.slice ya2 yn2 yc2) := (hb.cell (World.block_lt_of_cell? _ _ c_y_2)).trans c_y_2
                show wpList _ _ _ _ _ _
                go_wp2
                exact ⟨rfl, Below.refl _ _, rfl⟩
              case o7av =>
                intro w' hb v1 hv1 v2 hv2
                obtain rfl : v1 = _ := hv1
                obtain rfl : v2 = _ := hv2
                show wpList _ _ _ _ _ _
                simp only [Grow.dstOf, List.getElem?_toArray, List.getElem?_cons_succ, List.getElem?_cons_zero, Option.bind_some, Act.put, List.setIfInBounds_toArray, List.set_cons_succ, List.set_cons_zero]
                go_wp2_with fail
                refine (xplus_is t p t' HEQ.out.2.2 _ _ w' (HXt.out.ext hb) (HYR.out.ext hb) (by omega) (by omega) (by omega) (by omega)).mono ?_
                rintro e wz ⟨vz, rfl, hxz, hbz⟩
                go_wp2
                exact ⟨hxz, hbz, rfl⟩
              intro w11' hbz u0 hu0 u1 hu1 u2 hu2 u3 hu3 u4 hu4 u5 hu5 u6 hu6 u7 hu7
              have hvS : XR w11' u4 s' := hu4
              have hvT : XR w11' u7 t' := hu7
              obtain ⟨i1, j1, i2, j2, rfl, _, _⟩ := hvS.open_
              obtain ⟨i3, j3, i4, j4, rfl, _, _⟩ := hvT.open_
              generalize decide (s'.num < 0) = d1 at *
              generalize decide (t'.num < 0) = d2 at *
              generalize (digs s'.num.natAbs).length = f1 at *
              generalize (digs s'.den).length = f2 at *
              generalize (digs t'.num.natAbs).length = f3 at *
              generalize (digs t'.den).length = f4 at *
              have HNS : Hid (XR w11' (y3V ⟨d1, i1, f1, j1, i2, f2, j2⟩) s') := Lib.hid hvS
              have HNT : Hid (XR w11' (y3V ⟨d2, i3, f3, j3, i4, f4, j4⟩) t') := Lib.hid hvT
              clear hvS hvT HXs HXt HQs HQt HXR HYR HB_x HB_y hu0 hu1 hu2 hu3 hu4 hu5 hu6 hu7
              replace HF_o := Lib.hid (HF_o.out.ext HB_o.out hbz)
              replace HB_o := Lib.hid (HB_o.out.ext hbz)
              replace HACS := Lib.hid (HACS.out.ext hbz)
              replace HACT := Lib.hid (HACT.out.ext hbz)
              replace HW := Lib.hid (ext_trans HW.out hbz)
              clear c_s_0 c_s_1 c_s_2 c_t_0 c_t_1 c_t_2 c_x_0 c_x_1 c_x_2 c_y_0 c_y_1 c_y_2
              clear hbz
              show wpList _ _ _ _ _ _
              simp only [Act.put, List.setIfInBounds_toArray, List.set_cons_succ, List.set_cons_zero]
              obtain ⟨⟨⟨sb, sa1, sn1, sc1, sa2, sn2, sc2⟩, hsB, hsX⟩, hsF⟩ := id HACS.out
              have c_s_0 : w11'.cell? ⟨b_s, 0, none⟩ = some (.bool sb) := hsB.2 0
              have c_s_1 : w11'.cell? ⟨b_s, 1, none⟩ = some (.slice sa1 sn1 sc1) := hsB.2 1
              have c_s_2 : w11'.cell? ⟨b_s, 2, none⟩ = some (.slice sa2 sn2 sc2) := hsB.2 2
              have HXs := Lib.hid hsX
              have HQs := Lib.hid (And.intro hsB hsF)
              clear hsB hsX hsF
              have f_s_0 := HQs.out.2 0
              have f_s_1 := HQs.out.2 1
              have f_s_2 := HQs.out.2 2
              obtain ⟨⟨⟨tb, ta1, tn1, tc1, ta2, tn2, tc2⟩, htB, htX⟩, htF⟩ := id HACT.out
              have c_t_0 : w11'.cell? ⟨(b_s + 1), 0, none⟩ = some (.bool tb) := htB.2 0
              have c_t_1 : w11'.cell? ⟨(b_s + 1), 1, none⟩ = some (.slice ta1 tn1 tc1) := htB.2 1
              have c_t_2 : w11'.cell? ⟨(b_s + 1), 2, none⟩ = some (.slice ta2 tn2 tc2) := htB.2 2
              have HXt := Lib.hid htX
              have HQt := Lib.hid (And.intro htB htF)
              clear htB htX htF
              have f_t_0 := HQt.out.2 0
              have f_t_1 := HQt.out.2 1
              have f_t_2 := HQt.out.2 2
              go_upto_region 17 with (fail)
              obtain ⟨w12', hX⟩ : ∃ X, X = (((w11'.setCell ⟨b_s, 0, none⟩ (.bool d1)).setCell ⟨b_s, 1, none⟩ (.slice i1 f1 j1)).setCell ⟨b_s, 2, none⟩ (.slice i2 f2 j2)) := ⟨_, rfl⟩
              rw [← hX]
              have nB_o : Hid (Box w12' w.heap.size #[.string ⟨#[]⟩, .string ⟨#[]⟩]) := by rw [hX]; exact Lib.hid (ybox_other HB_o.out (Nat.ne_of_gt lt_o_s) _ _ _)
              have nF_o : Hid (Fre w12' w.heap.size) := by rw [hX]; exact Lib.hid (fre_set3 HF_o.out _ _ _)
              have n_HACS : Hid (Acc w12' b_s s') := by rw [hX]; exact Lib.hid (acc_set ⟨d1, i1, f1, j1, i2, f2, j2⟩ HQs.out.1 HQs.out.2 HNS.out)
              have n_HACT : Hid (Acc w12' (b_s + 1) t) := by rw [hX]; exact Lib.hid (acc_other HACT.out HQs.out.1 (by omega) _ _ _)
              have n_HNT : Hid (XR w12' (y3V ⟨d2, i3, f3, j3, i4, f4, j4⟩) t') := by rw [hX]; exact Lib.hid (xr_keep3 HNT.out HQs.out.1 (y3_nw _) _ _ _)
              have n_HW : Hid (Below w.heap.size w w12') := by rw [hX]; exact Lib.hid (below_set3 HW.out le_s _ _ _)
              clear c_s_0 c_s_1 c_s_2 f_s_0 f_s_1 f_s_2 c_t_0 c_t_1 c_t_2 f_t_0 f_t_1 f_t_2
              clear hX HB_o HF_o HACS HACT HNT HW
              have HB_o := nB_o; clear nB_o; have HF_o := nF_o; clear nF_o
              have HACS := n_HACS; clear n_HACS
              have HACT := n_HACT; clear n_HACT
              have HNT := n_HNT; clear n_HNT
              have HW := n_HW; clear n_HW
              clear HXs HQs HXt HQt HNS
              obtain ⟨⟨⟨tb, ta1, tn1, tc1, ta2, tn2, tc2⟩, htB, htX⟩, htF⟩ := id HACT.out
              have HQt := Lib.hid (And.intro htB htF)
              clear htB htX htF
              obtain ⟨w13', hX⟩ : ∃ X, X = (((w12'.setCell ⟨(b_s + 1), 0, none⟩ (.bool d2)).setCell ⟨(b_s + 1), 1, none⟩ (.slice i3 f3 j3)).setCell ⟨(b_s + 1), 2, none⟩ (.slice i4 f4 j4)) := ⟨_, rfl⟩
              rw [← hX]
              have nB_o : Hid (Box w13' w.heap.size #[.string ⟨#[]⟩, .string ⟨#[]⟩]) := by rw [hX]; exact Lib.hid (ybox_other HB_o.out (Nat.ne_of_gt (Nat.lt_succ_of_lt lt_o_s)) _ _ _)
              have nF_o : Hid (Fre w13' w.heap.size) := by rw [hX]; exact Lib.hid (fre_set3 HF_o.out _ _ _)
              have n_HACS : Hid (Acc w13' b_s s') := by rw [hX]; exact Lib.hid (acc_other HACS.out HQt.out.1 (by omega) _ _ _)
              have n_HACT : Hid (Acc w13' (b_s + 1) t') := by rw [hX]; exact Lib.hid (acc_set ⟨d2, i3, f3, j3, i4, f4, j4⟩ HQt.out.1 HQt.out.2 HNT.out)
              have n_HW : Hid (Below w.heap.size w w13') := by rw [hX]; exact Lib.hid (below_set3 HW.out (Nat.le_succ_of_le le_s) _ _ _)
              clear hX HB_o HF_o HACS HACT HW
              have HB_o := nB_o; clear nB_o; have HF_o := nF_o; clear nF_o
              have HACS := n_HACS; clear n_HACS
              have HACT := n_HACT; clear n_HACT
              have HW := n_HW; clear n_HW
              go_wp2
              go_roundw
              case rel => exact ⟨k + 1, s', t', by omega, by go_num, HN, HSS1, HTT1, HAK1, HB_o.out, HF_o.out, HACS.out, HACT.out, HW.out⟩
              case measure => simp [intOf]; omega
            · have hne3 : (partF un ud != 0) = true := by simp [hg]
              have HNE := Lib.hid hg
              have HV : Hid (avgF l m = partF un ud) := Lib.hid (by have h : wF l m = partF un ud := HST2.out.trans (if_pos hg); rw [HF1.out, if_pos (by rw [h]; exact hg), h])
              clear hg HST2
              have c_o_0 : w10'.cell? ⟨w.heap.size, 0, none⟩ = some (.string ⟨#[]⟩) := HB_o.out.2 0
              have c_o_1 : w10'.cell? ⟨w.heap.size, 1, none⟩ = some (.string ⟨#[]⟩) := HB_o.out.2 1
              have f_o_0 := HF_o.out 0
              have f_o_1 := HF_o.out 1
              have HN := Lib.hid (avg_no HV.out HNE.out)
              have HR := Lib.hid (Nt.res2s (.string ⟨#[]⟩) (.string ⟨#[]⟩) HB_o.out HW.out (show w.heap.size ≤ w.heap.size by omega))
              obtain ⟨hbF, z0, z1⟩ := id HR.out
              clear hbF
              go_wp2
              exact bodyPost_ret (v := .tuple #[.agg #[.string ⟨#[]⟩, .string ⟨#[]⟩], .int .i64 (partF un ud)]) (by simp [results, Tryz.results14, go_sem, z0, z1]) rfl ⟨by rw [HN.out.1, HN.out.2, HV.out], HR.out.1⟩
          · have hne2 : (partF rn rd != 0) = true := by simp [hg]
            have HNE := Lib.hid hg
            have HV : Hid (avgF l m = partF rn rd) := Lib.hid (by have h : wF l m = partF rn rd := HST.out.trans (if_pos hg); rw [HF1.out, if_pos (by rw [h]; exact hg), h])
            clear hg HST
            have c_o_0 : w8'.cell? ⟨w.heap.size, 0, none⟩ = some (.string ⟨#[]⟩) := HB_o.out.2 0
            have c_o_1 : w8'.cell? ⟨w.heap.size, 1, none⟩ = some (.string ⟨#[]⟩) := HB_o.out.2 1
            have f_o_0 := HF_o.out 0
            have f_o_1 := HF_o.out 1
            have HN := Lib.hid (avg_no HV.out HNE.out)
            have HR := Lib.hid (Nt.res2s (.string ⟨#[]⟩) (.string ⟨#[]⟩) HB_o.out HW.out (show w.heap.size ≤ w.heap.size by omega))
            obtain ⟨hbF, z0, z1⟩ := id HR.out
            clear hbF
            go_wp2
            exact bodyPost_ret (v := .tuple #[.agg #[.string ⟨#[]⟩, .string ⟨#[]⟩], .int .i64 (partF rn rd)]) (by simp [results, Tryz.results14, go_sem, z0, z1]) rfl ⟨by rw [HN.out.1, HN.out.2, HV.out], HR.out.1⟩
        · have hkl : k = l.length := by omega
          have HIF : Hid (wF l m = 0) := Lib.hid (by rw [HK.out, List.drop_of_length_le (show l.length ≤ k by omega)]; rfl)
          have HES : Hid (sumW 0 l m = s) := Lib.hid (by rw [← HSS.out, List.drop_of_length_le (show l.length ≤ k by omega)]; rfl)
          have HET : Hid (sumV 0 m = t) := Lib.hid (by rw [← HTT.out, List.drop_of_length_le (show m.length ≤ k by rw [HLM.out]; omega)]; rfl)
          have hsA := HAK.out.small (by omega)
          have HF2 : Hid (avgF l m = if t.num = 0 then 14 else 0) := Lib.hid (by rw [HF1.out, if_neg (fun h => h HIF.out), HET.out])
          clear hkl HK HSS HTT HF1 HIF
          obtain ⟨⟨⟨tb, ta1, tn1, tc1, ta2, tn2, tc2⟩, htB, htX⟩, htF⟩ := id HACT.out
          have c_t_0 : X.cell? ⟨(b_s + 1), 0, none⟩ = some (.bool tb) := htB.2 0
          have c_t_1 : X.cell? ⟨(b_s + 1), 1, none⟩ = some (.slice ta1 tn1 tc1) := htB.2 1
          have c_t_2 : X.cell? ⟨(b_s + 1), 2, none⟩ = some (.slice ta2 tn2 tc2) := htB.2 2
          have HXt := Lib.hid htX
          have HQt := Lib.hid (And.intro htB htF)
          clear htB htX htF
          go_wp2_with fail
          refine (zero_is t _ rfl _ X HXt.out).mono ?_
          rintro e w6' ⟨rfl, hbz⟩
          clear HXt HQt
          replace HF_o := Lib.hid (HF_o.out.ext HB_o.out hbz)
          replace HB_o := Lib.hid (HB_o.out.ext hbz)
          replace HACS := Lib.hid (HACS.out.ext hbz)
          replace HACT := Lib.hid (HACT.out.ext hbz)
          replace HW := Lib.hid (ext_trans HW.out hbz)
          clear c_t_0 c_t_1 c_t_2
          clear hbz
          by_cases ht0 : t.num = 0
          · have hd9 : decide (t.num = 0) = true := decide_eq_true ht0
            rw [hd9]
            have HV : Hid (avgF l m = 14) := Lib.hid (by rw [HF2.out, if_pos ht0])
            have HNE : Hid ((14 : Int) ≠ 0) := Lib.hid (by decide)
            clear ht0 hd9
            have c_o_0 : w6'.cell? ⟨w.heap.size, 0, none⟩ = some (.string ⟨#[]⟩) := HB_o.out.2 0
            have c_o_1 : w6'.cell? ⟨w.heap.size, 1, none⟩ = some (.string ⟨#[]⟩) := HB_o.out.2 1
            have f_o_0 := HF_o.out 0
            have f_o_1 := HF_o.out 1
            have HN := Lib.hid (avg_no HV.out HNE.out)
            have HR := Lib.hid (Nt.res2s (.string ⟨#[]⟩) (.string ⟨#[]⟩) HB_o.out HW.out (show w.heap.size ≤ w.heap.size by omega))
            obtain ⟨hbF, z0, z1⟩ := id HR.out
            clear hbF
            go_wp2
            exact bodyPost_ret (v := .tuple #[.agg #[.string ⟨#[]⟩, .string ⟨#[]⟩], .int .i64 (14)]) (by simp [results, Tryz.results14, go_sem, z0, z1]) rfl ⟨by rw [HN.out.1, HN.out.2, HV.out], HR.out.1⟩
          · have hd9 : decide (t.num = 0) = false := decide_eq_false ht0
            rw [hd9]
            have HV : Hid (avgF l m = 0) := Lib.hid (by rw [HF2.out, if_neg ht0])
            have HT9 := Lib.hid ht0
            have HTN : Hid (t ≠ 0) := Lib.hid (fun e => ht0 (by rw [e]; rfl))
            have hti := (HAK.out.2.inv HTN.out).small (by omega) (by omega)
            obtain ⟨ti, hti9⟩ : ∃ x, t⁻¹ = x := ⟨_, rfl⟩
            rw [hti9] at hti
            obtain ⟨A, hA⟩ : ∃ x, s * ti = x := ⟨_, rfl⟩
            have HA9 : Hid (sumW 0 l m / sumV 0 m = A) := Lib.hid (by rw [HES.out, HET.out, Rat.div_def, hti9, hA])
            have HLN : Hid (Ln 3100 3100 A) := Lib.hid (by have h := HAK.out.quo (by omega) HTN.out; rw [Rat.div_def, hti9, hA] at h; exact h)
            have HFA := Lib.hid (HLN.out.fits (by omega) (by omega))
            have hAs := HLN.out.small (by omega) (by omega)
            have HEQ := Lib.hid (And.intro hti9 hA)
            have HON := Lib.hid (out_fits HFA.out)
            clear ht0 hd9 hti9 hA
            go_upto_region 20 with (fail)
            obtain ⟨⟨⟨sb, sa1, sn1, sc1, sa2, sn2, sc2⟩, hsB, hsX⟩, hsF⟩ := id HACS.out
            have c_s_0 : w6'.cell? ⟨b_s, 0, none⟩ = some (.bool sb) := hsB.2 0
            have c_s_1 : w6'.cell? ⟨b_s, 1, none⟩ = some (.slice sa1 sn1 sc1) := hsB.2 1
            have c_s_2 : w6'.cell? ⟨b_s, 2, none⟩ = some (.slice sa2 sn2 sc2) := hsB.2 2
            have HXs := Lib.hid hsX
            have HQs := Lib.hid (And.intro hsB hsF)
            clear hsB hsX hsF
            obtain ⟨⟨⟨tb, ta1, tn1, tc1, ta2, tn2, tc2⟩, htB, htX⟩, htF⟩ := id HACT.out
            have c_t_0 : w6'.cell? ⟨(b_s + 1), 0, none⟩ = some (.bool tb) := htB.2 0
            have c_t_1 : w6'.cell? ⟨(b_s + 1), 1, none⟩ = some (.slice ta1 tn1 tc1) := htB.2 1
            have c_t_2 : w6'.cell? ⟨(b_s + 1), 2, none⟩ = some (.slice ta2 tn2 tc2) := htB.2 2
            have HXt := Lib.hid htX
            have HQt := Lib.hid (And.intro htB htF)
            clear htB htX htF
            refine Grow.wp_region_grow 7 [TP.eq (.agg #[.bool sb, .slice sa1 sn1 sc1, .slice sa2 sn2 sc2]), TP.eq (.agg #[.bool tb, .slice ta1 tn1 tc1, .slice ta2 tn2 tc2]), TPx ti, TPx A, TP.eq (.tuple #[.agg #[.string (showN A), .string (showD A)], .int .i64 0]), TP.eq (.agg #[.string (showN A), .string (showD A)]), TP.eq (.int .i64 0)] [[], [], [1], [0, 2], [3], [4], [4]] (by kernel_rfl) (by kernel_rfl) ⟨?o0fi, ?o1fi, ?o2fi, ?o3fi, ?o4fi, ?o5fi, ?o6fi, trivial⟩ ?_
            case o0fi =>
              intro w' hb
              have c_s_0' : w'.cell? ⟨b_s, 0, none⟩ = some (.bool sb) := (hb.cell (World.block_lt_of_cell? _ _ c_s_0)).trans c_s_0
              have c_s_1' : w'.cell? ⟨b_s, 1, none⟩ = some (.slice sa1 sn1 sc1) := (hb.cell (World.block_lt_of_cell? _ _ c_s_1)).trans c_s_1
              have c_s_2' : w'.cell? ⟨b_s, 2, none⟩ = some (.slice sa2 sn2 sc2) := (hb.cell (World.block_lt_of_cell? _ _ c_s_2)).trans c_s_2
              show wpList _ _ _ _ _ _
              go_wp2
              exact ⟨rfl, Below.refl _ _, rfl⟩
            case o1fi =>
              intro w' hb
              have c_t_0' : w'.cell? ⟨(b_s + 1), 0, none⟩ = some (.bool tb) := (hb.cell (World.block_lt_of_cell? _ _ c_t_0)).trans c_t_0
              have c_t_1' : w'.cell? ⟨(b_s + 1), 1, none⟩ = some (.slice ta1 tn1 tc1) := (hb.cell (World.block_lt_of_cell? _ _ c_t_1)).trans c_t_1
              have c_t_2' : w'.cell? ⟨(b_s + 1), 2, none⟩ = some (.slice ta2 tn2 tc2) := (hb.cell (World.block_lt_of_cell? _ _ c_t_2)).trans c_t_2
              show wpList _ _ _ _ _ _
              go_wp2
              exact ⟨rfl, Below.refl _ _, rfl⟩
            case o2fi =>
              intro w' hb v1 hv1
              obtain rfl : v1 = _ := hv1
              show wpList _ _ _ _ _ _
              simp only [Grow.dstOf, List.getElem?_toArray, List.getElem?_cons_succ, List.getElem?_cons_zero, Option.bind_some, Act.put, List.setIfInBounds_toArray, List.set_cons_succ, List.set_cons_zero]
              go_wp2_with fail
              refine (turned_q t ti HEQ.out.1 _ w' (HXt.out.ext hb) HT9.out).mono ?_
              rintro e wz ⟨vz, rfl, hxz, hbz⟩
              go_wp2
              exact ⟨hxz, hbz, rfl⟩
            case o3fi =>
              intro w' hb v1 hv1 v2 hv2
              obtain rfl : v1 = _ := hv1
              have hv2' : XR w' v2 ti := hv2
              clear hv2
              obtain ⟨o21, l21, o22, l22, rfl, _, _⟩ := hv2'.open_
              show wpList _ _ _ _ _ _
              simp only [Grow.dstOf, List.getElem?_toArray, List.getElem?_cons_succ, List.getElem?_cons_zero, Option.bind_some, Act.put, List.setIfInBounds_toArray, List.set_cons_succ, List.set_cons_zero]
              go_wp2_with fail
              refine (xtimes_is s ti A HEQ.out.2 _ _ w' (HXs.out.ext hb) hv2' (by omega) (by omega) (by omega) (by omega)).mono ?_
              rintro e wz ⟨vz, rfl, hxz, hbz⟩
              go_wp2
              exact ⟨hxz, hbz, rfl⟩
            case o4fi =>
              intro w' hb v1 hv1
              have hv1' : XR w' v1 A := hv1
              clear hv1
              obtain ⟨o11, l11, o12, l12, rfl, _, _⟩ := hv1'.open_
              show wpList _ _ _ _ _ _
              simp only [Grow.dstOf, List.getElem?_toArray, List.getElem?_cons_succ, List.getElem?_cons_zero, Option.bind_some, Act.put, List.setIfInBounds_toArray, List.set_cons_succ, List.set_cons_zero]
              go_wp2_with fail
              refine (ratio_at A _ w' hv1' (by omega) (by omega)).mono ?_
              unfold OutPost
              rw [HON.out.1, HON.out.2.1, HON.out.2.2]
              rintro e wz ⟨rfl, hbz⟩
              go_wp2
              exact ⟨rfl, hbz, rfl⟩
            case o5fi =>
              intro w' hb v1 hv1
              obtain rfl : v1 = _ := hv1
              show wpList _ _ _ _ _ _
              simp only [Grow.dstOf, List.getElem?_toArray, List.getElem?_cons_succ, List.getElem?_cons_zero, Option.bind_some, Act.put, List.setIfInBounds_toArray, List.set_cons_succ, List.set_cons_zero]
              go_wp2
              exact ⟨rfl, Below.refl _ _, rfl⟩
            case o6fi =>
              intro w' hb v1 hv1
              obtain rfl : v1 = _ := hv1
              show wpList _ _ _ _ _ _
              simp only [Grow.dstOf, List.getElem?_toArray, List.getElem?_cons_succ, List.getElem?_cons_zero, Option.bind_some, Act.put, List.setIfInBounds_toArray, List.set_cons_succ, List.set_cons_zero]
              go_wp2
              exact ⟨rfl, Below.refl _ _, rfl⟩
            intro w7' hbz u0 hu0 u1 hu1 u2 hu2 u3 hu3 u4 hu4 u5 hu5 u6 hu6
            obtain rfl : u5 = _ := hu5
            obtain rfl : u6 = _ := hu6
            clear HXs HXt HQs HQt hu0 hu1 hu2 hu3 hu4
            replace HF_o := Lib.hid (HF_o.out.ext HB_o.out hbz)
            replace HB_o := Lib.hid (HB_o.out.ext hbz)
            replace HACS := Lib.hid (HACS.out.ext hbz)
            replace HACT := Lib.hid (HACT.out.ext hbz)
            replace HW := Lib.hid (ext_trans HW.out hbz)
            clear c_s_0 c_s_1 c_s_2 c_t_0 c_t_1 c_t_2
            clear hbz
            show wpList _ _ _ _ _ _
            simp only [Act.put, List.setIfInBounds_toArray, List.set_cons_succ, List.set_cons_zero]
            have c_o_0 : w7'.cell? ⟨w.heap.size, 0, none⟩ = some (.string ⟨#[]⟩) := HB_o.out.2 0
            have c_o_1 : w7'.cell? ⟨w.heap.size, 1, none⟩ = some (.string ⟨#[]⟩) := HB_o.out.2 1
            have f_o_0 := HF_o.out 0
            have f_o_1 := HF_o.out 1
            have HN2 : Hid (avgN l m = showN A ∧ avgD l m = showD A) := Lib.hid ⟨by unfold avgN; rw [if_pos HV.out, HA9.out], by unfold avgD; rw [if_pos HV.out, HA9.out]⟩
            have HR := Lib.hid (Nt.res2s (.string (showN A)) (.string (showD A)) HB_o.out HW.out (show w.heap.size ≤ w.heap.size by omega))
            obtain ⟨hbF, z0, z1⟩ := id HR.out
            clear hbF
            go_wp2
            exact bodyPost_ret (v := .tuple #[.agg #[.string (showN A), .string (showD A)], .int .i64 0]) (by simp [results, Tryz.results14, go_sem, z0, z1]) rfl ⟨by rw [HN2.out.1, HN2.out.2, HV.out], HR.out.1⟩
  · have HV : Hid (avgF l m = mF l.length) := Lib.hid (by unfold avgF; rw [if_pos hf])
    have HNE := Lib.hid hf
    have hne : (mF l.length != 0) = true := by simp [hf]
    clear hf
    have c_o_0 : w2'.cell? ⟨w.heap.size, 0, none⟩ = some (.string ⟨#[]⟩) := HB_o.out.2 0
    have c_o_1 : w2'.cell? ⟨w.heap.size, 1, none⟩ = some (.string ⟨#[]⟩) := HB_o.out.2 1
    have f_o_0 := HF_o.out 0
    have f_o_1 := HF_o.out 1
    have HN := Lib.hid (avg_no HV.out HNE.out)
    have HR := Lib.hid (Nt.res2s (.string ⟨#[]⟩) (.string ⟨#[]⟩) HB_o.out HW.out (show w.heap.size ≤ w.heap.size by omega))
    obtain ⟨hbF, z0, z1⟩ := id HR.out
    clear hbF
    go_wp2
    exact bodyPost_ret (v := .tuple #[.agg #[.string ⟨#[]⟩, .string ⟨#[]⟩], .int .i64 (mF l.length)]) (by simp [results, Tryz.results14, go_sem, z0, z1]) rfl ⟨by rw [HN.out.1, HN.out.2, HV.out], HR.out.1⟩
end Nm
end Go.Proofs.YtemenlcigengeaaGreatDoor
