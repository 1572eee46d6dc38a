/- The walk of MetricMismatchIsOfShares. Printed by gen_lawshr.py. -/
import Derived.Test.YtilolnjbpokdnaaDoorBh19
import Derived.Test.YtilolnjbpokdnaaDoorBh21
import Derived.Test.YtilolnjbpokdnaaDoorBh18
import Derived.Test.YtilolnjbpokdnaaDoorBh10
import Derived.Test.YtilolnjbpokdnaaDoorShelf
import Derived.Laws.StructEq
namespace Go.Proofs.YtilolnjbpokdnaaDoor
open Go.RowKit
namespace Nm
open _root_.Go.Proofs.YtilolnjbpokdnaaDoor.Nt (Tab Tab.ext fits0 whole0 rtV RtP boxn_other)
theorem sh_inj {a b : ByteArray} (h : a.toList = b.toList) : a = b := by
 have h2 : a.data.toList = b.data.toList := by rw [← ByteArray.toList_eq, ← ByteArray.toList_eq]; exact h
 obtain ⟨⟨x⟩⟩ := a; obtain ⟨⟨y⟩⟩ := b
 simp only at h2
 rw [h2]
/-- the sum fits -/
theorem ms_sum {n w : Nat} : ∀ (l : List (Nat × Nat)) (k : Nat) (a : Rat), MsOk k a → (∀ p ∈ l, Ln 33 25 (misT n w p)) → MsOk (k + l.length) (misL n w a l)
 | [], _, _, h, _ => h
 | p :: r, k, a, h, ht => by
  have h2 := ms_sum r (k + 1) (a + misT n w p) (h.add (ht p (by simp))) (fun q hq => ht q (List.mem_cons_of_mem _ hq))
  rw [show k + (p :: r).length = k + 1 + r.length by simp only [List.length_cons]; omega]
  exact h2
theorem prs_term {n w : Nat} (hn : 0 < n) (hn' : n ≤ 400000) (hw : 0 < w) (hw' : w ≤ 2000000) : ∀ {cs xs : List Int}, OkL cs xs → ∀ p ∈ prs cs xs, Ln 33 25 (misT n w p)
 | [], _, _, p, hp => by simp [prs] at hp
 | _ :: _, [], _, p, hp => by simp [prs] at hp
 | c :: cs, x :: xs, ho, p, hp => by
  have h1 := okC_iff.1 ho.1
  rcases List.mem_cons.1 hp with rfl | h
  ·exact (ms_round hn hn' hw hw' (by omega) (by omega) (by omega)).term
  ·exact prs_term hn hn' hw hw' ho.2 p h
theorem prs_length : ∀ {cs xs : List Int}, cs.length = xs.length → (prs cs xs).length = cs.length
 | [], _, _ => rfl
 | _ :: _, [], h => by simp at h
 | c :: cs, x :: xs, h => by
  show ((c.toNat, x.toNat) :: prs cs xs).length = _
  rw [List.length_cons, prs_length (by simpa using h), List.length_cons]
theorem mis_fits {cs xs : List Int} (h : misF cs xs = 0) : Fits (misQ cs xs) := by
 have H := ms_all h
 have h2 := ms_sum (n := (sumI cs).toNat) (w := (sumI xs).toNat) (prs cs xs) 0 0 MsOk.zero (prs_term H.n0 H.n1 H.w0 H.w1 H.ok)
 have h3 : (prs cs xs).length ≤ 20 := by rw [prs_length H.len]; exact H.short
 exact h2.fits (by omega)
/-- the mismatch is written as 0 just if all counts have their shares -/
theorem shr_said {cs xs : List Int} (h : misF cs xs = 0) : decide (misN cs xs = showN 0 ∧ misD cs xs = showD 0) = evB (sumI cs) (sumI xs) cs xs := by
 have hN : misN cs xs = showN (misQ cs xs) := by unfold misN; rw [if_pos h]
 have hD : misD cs xs = showD (misQ cs xs) := by unfold misD; rw [if_pos h]
 have hf := (back (mis_fits h)).2
 have h0 := (back fits0).2
 rw [Bool.eq_iff_iff, decide_eq_true_eq, hN, hD, ← shr_even h]
 constructor
 ·rintro ⟨h1, h2⟩
  rw [← hf, h1, h2, h0]
 ·intro h1
  rw [h1]; exact ⟨rfl, rfl⟩
/-- weights as natural numbers -/
def natL (xs : List Int) : List Nat := xs.map (·.toNat)
def dblN (k : Nat) (ys : List Nat) : List Nat := (ys.take k).map (2 * ·) ++ ys.drop k
theorem natL_cells : ∀ {cs xs : List Int}, cs.length = xs.length → OkL cs xs → xs.map (Value.int .i64) = Nt.wcs (natL xs)
 | [], [], _, _ => rfl
 | [], _ :: _, h, _ => by simp at h
 | _ :: _, [], h, _ => by simp at h
 | c :: cs, x :: xs, h, ho => by
  have h1 := okC_iff.1 ho.1
  have ih := natL_cells (cs := cs) (xs := xs) (by simpa using h) ho.2
  show Value.int .i64 x :: xs.map (Value.int .i64) = Nt.wc x.toNat :: Nt.wcs (natL xs)
  rw [ih]
  unfold Nt.wc
  rw [Int.toNat_of_nonneg (by omega)]
theorem dblN_length {k : Nat} {ys : List Nat} (h : k ≤ ys.length) : (dblN k ys).length = ys.length := by
 unfold dblN; simp; omega
theorem dblN_at {k : Nat} {ys : List Nat} (h : k < ys.length) : (dblN k ys)[k]? = some ys[k] := by
 unfold dblN
 rw [List.getElem?_append_right (by rw [List.length_map, List.length_take]; exact Nat.min_le_left _ _)]
 simp [Nat.min_eq_left (Nat.le_of_lt h), h]
theorem dblN_set {k : Nat} {ys : List Nat} (h : k < ys.length) : (dblN k ys).set k (2 * ys[k]) = dblN (k + 1) ys := by
 unfold dblN
 have hl : ((ys.take k).map (2 * ·)).length = k := by simp; omega
 rw [List.set_append_right _ _ (by omega), hl, Nat.sub_self, List.drop_eq_getElem_cons h, List.set_cons_zero, List.take_succ_eq_append_getElem h, List.map_append, List.append_assoc]
 rfl
theorem dblN_end {xs : List Int} {k : Nat} (h : xs.length ≤ k) (hp : ∀ x ∈ xs, 0 ≤ x) : Nt.wcs (dblN k (natL xs)) = (dblL xs).map (Value.int .i64) := by
 have hl : (natL xs).length ≤ k := by unfold natL; simpa using h
 unfold dblN
 rw [List.take_of_length_le hl, List.drop_of_length_le hl, List.append_nil]
 unfold natL dblL Nt.wcs Nt.wc
 rw [List.map_map, List.map_map, List.map_map]
 refine List.map_congr_left fun x hx => ?_
 have := hp x hx
 simp only [Function.comp]
 congr 1
 omega
theorem ok_nonneg : ∀ {cs xs : List Int}, cs.length = xs.length → OkL cs xs → ∀ x ∈ xs, 0 ≤ x
 | [], [], _, _, x, hx => by simp at hx
 | [], _ :: _, h, _, _, _ => by simp at h
 | _ :: _, [], h, _, _, _ => by simp at h
 | c :: cs, x :: xs, h, ho, y, hy => by
  have h1 := okC_iff.1 ho.1
  rcases List.mem_cons.1 hy with rfl | hy
  ·omega
  ·exact ok_nonneg (by simpa using h) ho.2 y hy
theorem dbl_len (xs : List Int) : (dblL xs).length = xs.length := by unfold dblL; simp
/-- slices.Clone at counts that are not empty -/
theorem cloneI_at (xs : List Int) (ys : List Nat) (b : Option Addr) (d : Nat) (w : World) (hs : Sl w (.slice b xs.length d) xs.length (xs.map (Value.int .i64))) (h0 : 0 < xs.length) (hl : xs.length ≤ 20) (hy : xs.map (Value.int .i64) = Nt.wcs ys) :
  Calls Tryd.prog 5 #[.slice b xs.length d] w fun e w' => ∃ g cap, e = .returned (.slice (some ⟨g, 0, none⟩) xs.length cap) ∧ w.heap.size ≤ g ∧ xs.length ≤ cap ∧ cap ≤ maxLen ∧ Nt.Own w' g ys ∧ Below w.heap.size w w' := by
 obtain ⟨bb, o, rfl, _⟩ := ic_at (k := 0) hs h0
 refine (Tryd.slices_Clone_int bb o xs.length d xs w (Nat.le_refl _) (by omega) fun j hj => ?_).mono ?_
 ·obtain ⟨_, _, e, h⟩ := ic_at hs hj
  cases e
  rw [h]; simp [List.getD, List.getElem?_eq_getElem hj]
 ·rintro e w' ⟨v', rfl, h1, h2, h3⟩
  rw [List.take_of_length_le (Nat.le_refl _)] at h1
  rw [hy] at h1
  obtain ⟨g, cap, rfl, h4, h5, h6, h7⟩ := Nt.Own.ofRow h1 h0
  exact ⟨g, cap, rfl, h4, h5, h6, h7, h3⟩
set_option maxRecDepth 100000 in
set_option maxHeartbeats 16000000 in
theorem shr_walk (cs xs : List Int) (a b : Option Addr) (c d : Nat) (w : World) (hs : Sl w (.slice a cs.length c) cs.length (cs.map (Value.int .i64))) (hs2 : Sl w (.slice b xs.length d) xs.length (xs.map (Value.int .i64))) (ht : Tab w) :
  Calls Tryd.prog 3 #[.slice a cs.length c, .slice b xs.length d] w fun e w' => e = .returned (.bool true) ∧ Below w.heap.size w w' := by
 obtain ⟨an, h1⟩ : ∃ z, misN cs xs = z := ⟨_, rfl⟩
 obtain ⟨ad, h2⟩ : ∃ z, misD cs xs = z := ⟨_, rfl⟩
 have H_a := Lib.hid (And.intro h1 h2)
 have H := Lib.hid (And.intro hs hs2)
 clear h1 h2 hs hs2
 by_cases hf : misF cs xs = 0
 ·have HSD := Lib.hid (shr_said hf)
  have HM := Lib.hid (ms_all hf)
  have HDB := Lib.hid (fun h => shr_dbl hf (cs := cs) (xs := xs) h)
  have HF0 := Lib.hid hf
  have HDN := Lib.hid (show smB xs = true → misN cs (dblL xs) = an ∧ misD cs (dblL xs) = ad from fun h => by
   obtain ⟨e1, e2⟩ := shr_dbl hf h
   have h1 := H_a.out.1
   have h2 := H_a.out.2
   unfold misN at h1 ⊢
   unfold misD at h2 ⊢
   rw [if_pos hf] at h1 h2
   rw [if_pos e1, if_pos e1, e2]
   exact ⟨h1, h2⟩)
  clear hf
  have HCL := Lib.hid (natL_cells HM.out.len HM.out.ok)
  have HNN := Lib.hid (ok_nonneg HM.out.len HM.out.ok)
  obtain ⟨ys, hys⟩ : ∃ z, natL xs = z := ⟨_, rfl⟩
  have HYS := Lib.hid hys
  rw [hys] at HCL
  have hyl : ys.length = xs.length := by rw [← hys]; unfold natL; simp
  have HYL := Lib.hid hyl
  clear hys hyl
  have hcn : 0 < cs.length := (misF_parts HF0.out).1.1
  have hcm : cs.length ≤ 20 := HM.out.short
  go_enter Tryd.func3, Tryd.ntmps3
  have HT0 := Lib.hid ht
  clear ht
  go_wp2_with fail
  refine (mism_at cs xs a b c d w H.out.1 H.out.2).mono ?_
  rintro e w1' ⟨rfl, hbz⟩
  rw [H_a.out.1, H_a.out.2, HF0.out]
  have HW := Lib.hid hbz
  clear hbz
  go_upto_region 2 with (fail)
  refine wp_box1 fun w2' hsz hbz hC => ?_
  clear hsz
  have le_x : w.heap.size ≤ w1'.heap.size := HW.out.size
  replace HW := Lib.hid (ext_trans HW.out hbz)
  clear hbz
  have HB_x := Lib.hid hC
  clear hC
  generalize w1'.heap.size = b_x at *
  obtain ⟨pb, po, hpa, hq8⟩ := ic_at H.out.1 hcn
  subst hpa
  obtain ⟨qb, qo, hqa, hq9⟩ := ic_at (k := 0) H.out.2 (by have := HM.out.len; omega)
  subst hqa
  clear hq8 hq9
  go_wp2
  go_loopw [7, 8, 9, 10, 30] (fun n' x' _ _ i wr => ∃ (k : Nat) (sn sw : Int), k ≤ cs.length ∧ i = .int .i64 (k : Int) ∧ n' = .int .i64 sn ∧ x' = .int .i64 sw ∧ Hid (sn + sumI (cs.drop k) = sumI cs ∧ sw + sumI (xs.drop k) = sumI xs) ∧ (0 ≤ sn ∧ sn ≤ 20000 * (k : Int) ∧ 0 ≤ sw ∧ sw ≤ 100000 * (k : Int)) ∧ (Box wr b_x #[.string an, .string ad]) ∧ (Below w.heap.size w wr)) (fun _ _ _ _ i _ => cs.length - (intOf i).toNat)
  case atStart => exact ⟨0, 0, 0, by omega, rfl, rfl, rfl, Lib.hid ⟨by simp, by simp⟩, by omega, HB_x.out, HW.out⟩
  case round =>
   obtain ⟨k, sn, sw, hk, rfl, rfl, rfl, HK, hbd, q_HB_x, q_HW⟩ := hrel
   clear HB_x HW
   have HB_x := Lib.hid q_HB_x
   have HW := Lib.hid q_HW
   clear q_HB_x q_HW
   generalize hX : wr = X at *
   clear hX
   obtain ⟨hb1, hb2, hb3, hb4⟩ := hbd
   by_cases hlt : k < cs.length
   ·have hlt2 : k < xs.length := by rw [← HM.out.len]; exact hlt
    have hok := okC_iff.1 (HM.out.ok.at_ k hlt hlt2)
    have HSN := Lib.hid (sumI_step hlt)
    have HSW := Lib.hid (sumI_step hlt2)
    have e0 : X.cell? ⟨pb, po + k, none⟩ = some (.int .i64 cs[k]) := by obtain ⟨_, _, e, h⟩ := ic_at (H.out.1.ext HW.out) hlt; cases e; exact h
    have e1 : X.cell? ⟨qb, qo + k, none⟩ = some (.int .i64 xs[k]) := by obtain ⟨_, _, e, h⟩ := ic_at (H.out.2.ext HW.out) hlt2; cases e; exact h
    generalize cs[k] = ck at HSN e0 hok
    generalize xs[k] = xk at HSW e1 hok
    have hk0 : (0 : Int) ≤ (k : Int) := Int.natCast_nonneg _
    have hk1 : (k : Int) < (cs.length : Int) := by omega
    have hk2 : (k : Int) < (xs.length : Int) := by omega
    have hk3 : (k : Int).toNat = k := by omega
    have HN : Hid ((sn + ck) + sumI (cs.drop (k + 1)) = sumI cs ∧ (sw + xk) + sumI (xs.drop (k + 1)) = sumI xs) := Lib.hid ⟨by have h1 := HK.out.1; have h2 := HSN.out; omega, by have h1 := HK.out.2; have h2 := HSW.out; omega⟩
    clear HK HSN HSW
    obtain ⟨⟨hc1, hc2⟩, hx1, hx2⟩ := hok
    go_upto_region 8 with (fail)
    go_quiet (fail)
    go_wp2
    go_roundw
    case rel => exact ⟨k + 1, sn + ck, sw + xk, by omega, by go_num, by go_num, by go_num, HN, by omega, HB_x.out, ⟨HW.out.1, HW.out.2, HW.out.3, HW.out.4, HW.out.5⟩⟩
    case measure => simp [intOf]; omega
   ·have HE : Hid (sn = sumI cs ∧ sw = sumI xs) := Lib.hid ⟨by have := HK.out.1; rw [List.drop_of_length_le (show cs.length ≤ k by omega)] at this; simpa [sumI] using this, by have := HK.out.2; rw [List.drop_of_length_le (show xs.length ≤ k by have := HM.out.len; omega)] at this; simpa [sumI] using this⟩
    have hkl : k = cs.length := by omega
    have hsn : 0 ≤ sn ∧ sn ≤ 400000 ∧ 0 ≤ sw ∧ sw ≤ 2000000 := by omega
    clear HK hb1 hb2 hb3 hb4 hk hlt
    subst hkl
    have HSB := Lib.hid hsn
    clear hsn
    go_wp2_with fail
    refine (cloneI_at xs ys (some ⟨qb, qo, none⟩) d X (H.out.2.ext HW.out) (by have := HM.out.len; omega) (by have := HM.out.len; omega) HCL.out).mono ?_
    rintro e w3' ⟨g, cap, rfl, hg1, hg2, hg3, hO, hbz⟩
    have lt_x : b_x < g := Nat.lt_of_lt_of_le HB_x.out.1 hg1
    have le_g : w.heap.size ≤ g := Nat.le_trans HW.out.size hg1
    have HO := Lib.hid hO
    clear hO hg1
    replace HB_x := Lib.hid (HB_x.out.ext hbz)
    replace HW := Lib.hid (ext_trans HW.out hbz)
    clear hbz
    replace HO : Hid (Nt.Own w3' g (dblN 0 ys)) := Lib.hid (by have := HO.out; unfold dblN; simpa using this)
    go_wp2
    go_loopw [11, 12, 14, 15, 49] (fun ev sm _ _ i wr => ∃ (k : Nat) (e s : Bool), k ≤ cs.length ∧ i = .int .i64 (k : Int) ∧ ev = .bool e ∧ sm = .bool s ∧ Hid ((e && evB (sumI cs) (sumI xs) (cs.drop k) (xs.drop k)) = evB (sumI cs) (sumI xs) cs xs ∧ (s && smB (xs.drop k)) = smB xs) ∧ Nt.Own wr g (dblN k ys) ∧ (Box wr b_x #[.string an, .string ad]) ∧ (Below w.heap.size w wr)) (fun _ _ _ _ i _ => cs.length - (intOf i).toNat)
    case atStart => exact ⟨0, true, true, by omega, rfl, rfl, rfl, Lib.hid ⟨rfl, rfl⟩, HO.out, HB_x.out, HW.out⟩
    case round =>
     obtain ⟨k, e, s, hk, rfl, rfl, rfl, HK, q_HO, q_HB_x, q_HW⟩ := hrel
     clear HB_x HW
     clear HO
     have HO := Lib.hid q_HO
     clear q_HO
     have HB_x := Lib.hid q_HB_x
     have HW := Lib.hid q_HW
     clear q_HB_x q_HW
     generalize hX : wr = Y at *
     clear hX
     by_cases hlt : k < cs.length
     ·have hlt2 : k < xs.length := by rw [← HM.out.len]; exact hlt
      have hok := okC_iff.1 (HM.out.ok.at_ k hlt hlt2)
      have hltY : k < ys.length := by rw [HYL.out]; exact hlt2
      have HSN := Lib.hid (evB_step (n := sumI cs) (w := sumI xs) hlt hlt2)
      have HSW := Lib.hid (smB_step hlt2)
      have e0 : Y.cell? ⟨pb, po + k, none⟩ = some (.int .i64 cs[k]) := by obtain ⟨_, _, e, h⟩ := ic_at (H.out.1.ext HW.out) hlt; cases e; exact h
      have e1 : Y.cell? ⟨qb, qo + k, none⟩ = some (.int .i64 xs[k]) := by obtain ⟨_, _, e, h⟩ := ic_at (H.out.2.ext HW.out) hlt2; cases e; exact h
      have hyk : ((ys[k] : Nat) : Int) = xs[k] := by
       have e : ys[k] = xs[k].toNat := by have h := HYS.out; subst h; simp [natL]
       rw [e]; omega
      have e2 : Y.cell? ⟨g, k, none⟩ = some (.int .i64 xs[k]) := by
       have h := HO.out.cell (i := k) (by rw [dblN_length (by omega)]; exact hltY)
       have h2 := dblN_at hltY
       have h3 : (dblN k ys)[k]'(by rw [dblN_length (by omega)]; exact hltY) = ys[k] := by rw [List.getElem?_eq_getElem (by rw [dblN_length (by omega)]; exact hltY)] at h2; injection h2
       rw [h, h3, hyk]
      have f2 := HO.out.frozen k
      have HDS := Lib.hid (dblN_set hltY)
      have hdk : (2 * ((ys[k] : Nat) : Int)) = xs[k] * 2 := by omega
      generalize ys[k] = yk at HDS hdk
      generalize cs[k] = ck at HSN e0 hok
      generalize xs[k] = xk at HSN HSW e1 e2 hok hdk
      have hk0 : (0 : Int) ≤ (k : Int) := Int.natCast_nonneg _
      have hk1 : (k : Int) < (cs.length : Int) := by omega
      have hk2 : (k : Int) < (xs.length : Int) := by omega
      have hk3 : (k : Int).toNat = k := by omega
      have HDK := Lib.hid hdk
      clear hdk
      obtain ⟨⟨hc1, hc2⟩, hx1, hx2⟩ := hok
      obtain ⟨p, hp⟩ : ∃ z, ck * sw = z := ⟨_, rfl⟩
      obtain ⟨q, hq⟩ : ∃ z, sn * xk = z := ⟨_, rfl⟩
      have hpb : 0 ≤ p ∧ p ≤ 40000000000 := by rw [← hp]; exact ⟨Int.mul_nonneg hc1 HSB.out.2.2.1, Int.le_trans (Int.mul_le_mul hc2 HSB.out.2.2.2 HSB.out.2.2.1 (by decide)) (by decide)⟩
      have hqb : 0 ≤ q ∧ q ≤ 40000000000 := by rw [← hq]; exact ⟨Int.mul_nonneg HSB.out.1 (by omega), Int.le_trans (Int.mul_le_mul HSB.out.2.1 hx2 (by omega) (by decide)) (by decide)⟩
      have HPQ : Hid (evB (sumI cs) (sumI xs) (cs.drop k) (xs.drop k) = (decide (p = q) && evB (sumI cs) (sumI xs) (cs.drop (k + 1)) (xs.drop (k + 1)))) := Lib.hid (by rw [HSN.out, ← HE.out.1, ← HE.out.2, hp, hq])
      clear HSN
      cases e
      ·cases s
       ·have HN : Hid ((false && evB (sumI cs) (sumI xs) (cs.drop (k + 1)) (xs.drop (k + 1))) = evB (sumI cs) (sumI xs) cs xs ∧ (false && smB (xs.drop (k + 1))) = smB xs) := Lib.hid ⟨by rw [← HK.out.1, HPQ.out]; simp, by rw [← HK.out.2, HSW.out]; simp⟩
        clear HK HPQ HSW
        go_upto_region 17 with (fail)
        obtain ⟨w4', hX⟩ : ∃ Z9, Z9 = Y.setCell ⟨g, k, none⟩ (.int .i64 (xk * 2)) := ⟨_, rfl⟩
        rw [← hX]
        have nO : Hid (Nt.Own w4' g (dblN (k + 1) ys)) := by rw [hX, ← HDS.out]; exact Lib.hid (HO.out.set' (by rw [dblN_length (by omega)]; exact hltY) _ (by have := HDK.out; omega))
        have nB_x : Hid (Box w4' b_x #[.string an, .string ad]) := by rw [hX]; exact Lib.hid (boxn_other HB_x.out (Nat.ne_of_lt lt_x) k (.int .i64 (xk * 2)))
        have nW : Hid (Below w.heap.size w w4') := by rw [hX]; exact Lib.hid (HW.out.setCell (p := ⟨g, k, none⟩) le_g (.int .i64 (xk * 2)))
        have e3 : w4'.cell? ⟨g, k, none⟩ = some (.int .i64 (xk * 2)) := by
         have h := nO.out.cell (i := k) (by rw [dblN_length (by omega)]; exact hltY)
         rw [h]
         have h2 := HDS.out
         congr 2
         simp only [← h2, List.getElem_set_self]
         have := HDK.out; omega
        clear hX HO HB_x HW e0 e1 e2 f2
        go_wp2
        go_roundw
        case rel => exact ⟨k + 1, false, false, by omega, by go_num, rfl, rfl, HN, nO.out, nB_x.out, nW.out⟩
        case measure => simp [intOf]; omega
       ·by_cases hsm : xk * 2 ≤ 100000
        ·have HN : Hid ((false && evB (sumI cs) (sumI xs) (cs.drop (k + 1)) (xs.drop (k + 1))) = evB (sumI cs) (sumI xs) cs xs ∧ (true && smB (xs.drop (k + 1))) = smB xs) := Lib.hid ⟨by rw [← HK.out.1, HPQ.out]; simp, by rw [← HK.out.2, HSW.out]; simp; omega⟩
         clear HK HPQ HSW
         go_upto_region 17 with (fail)
         obtain ⟨w4', hX⟩ : ∃ Z9, Z9 = Y.setCell ⟨g, k, none⟩ (.int .i64 (xk * 2)) := ⟨_, rfl⟩
         rw [← hX]
         have nO : Hid (Nt.Own w4' g (dblN (k + 1) ys)) := by rw [hX, ← HDS.out]; exact Lib.hid (HO.out.set' (by rw [dblN_length (by omega)]; exact hltY) _ (by have := HDK.out; omega))
         have nB_x : Hid (Box w4' b_x #[.string an, .string ad]) := by rw [hX]; exact Lib.hid (boxn_other HB_x.out (Nat.ne_of_lt lt_x) k (.int .i64 (xk * 2)))
         have nW : Hid (Below w.heap.size w w4') := by rw [hX]; exact Lib.hid (HW.out.setCell (p := ⟨g, k, none⟩) le_g (.int .i64 (xk * 2)))
         have e3 : w4'.cell? ⟨g, k, none⟩ = some (.int .i64 (xk * 2)) := by
          have h := nO.out.cell (i := k) (by rw [dblN_length (by omega)]; exact hltY)
          rw [h]
          have h2 := HDS.out
          congr 2
          simp only [← h2, List.getElem_set_self]
          have := HDK.out; omega
         clear hX HO HB_x HW e0 e1 e2 f2
         go_wp2
         go_roundw
         case rel => exact ⟨k + 1, false, true, by omega, by go_num, rfl, rfl, HN, nO.out, nB_x.out, nW.out⟩
         case measure => simp [intOf]; omega
        ·have HN : Hid ((false && evB (sumI cs) (sumI xs) (cs.drop (k + 1)) (xs.drop (k + 1))) = evB (sumI cs) (sumI xs) cs xs ∧ (false && smB (xs.drop (k + 1))) = smB xs) := Lib.hid ⟨by rw [← HK.out.1, HPQ.out]; simp, by rw [← HK.out.2, HSW.out]; simp; omega⟩
         clear HK HPQ HSW
         go_upto_region 17 with (fail)
         obtain ⟨w4', hX⟩ : ∃ Z9, Z9 = Y.setCell ⟨g, k, none⟩ (.int .i64 (xk * 2)) := ⟨_, rfl⟩
         rw [← hX]
         have nO : Hid (Nt.Own w4' g (dblN (k + 1) ys)) := by rw [hX, ← HDS.out]; exact Lib.hid (HO.out.set' (by rw [dblN_length (by omega)]; exact hltY) _ (by have := HDK.out; omega))
         have nB_x : Hid (Box w4' b_x #[.string an, .string ad]) := by rw [hX]; exact Lib.hid (boxn_other HB_x.out (Nat.ne_of_lt lt_x) k (.int .i64 (xk * 2)))
         have nW : Hid (Below w.heap.size w w4') := by rw [hX]; exact Lib.hid (HW.out.setCell (p := ⟨g, k, none⟩) le_g (.int .i64 (xk * 2)))
         have e3 : w4'.cell? ⟨g, k, none⟩ = some (.int .i64 (xk * 2)) := by
          have h := nO.out.cell (i := k) (by rw [dblN_length (by omega)]; exact hltY)
          rw [h]
          have h2 := HDS.out
          congr 2
          simp only [← h2, List.getElem_set_self]
          have := HDK.out; omega
         clear hX HO HB_x HW e0 e1 e2 f2
         go_wp2
         go_roundw
         case rel => exact ⟨k + 1, false, false, by omega, by go_num, rfl, rfl, HN, nO.out, nB_x.out, nW.out⟩
         case measure => simp [intOf]; omega
      ·by_cases hpq : p = q
       ·subst hpq
        cases s
        ·have HN : Hid ((true && evB (sumI cs) (sumI xs) (cs.drop (k + 1)) (xs.drop (k + 1))) = evB (sumI cs) (sumI xs) cs xs ∧ (false && smB (xs.drop (k + 1))) = smB xs) := Lib.hid ⟨by rw [← HK.out.1, HPQ.out]; simp, by rw [← HK.out.2, HSW.out]; simp⟩
         clear HK HPQ HSW
         go_upto_region 17 with (fail)
         obtain ⟨w4', hX⟩ : ∃ Z9, Z9 = Y.setCell ⟨g, k, none⟩ (.int .i64 (xk * 2)) := ⟨_, rfl⟩
         rw [← hX]
         have nO : Hid (Nt.Own w4' g (dblN (k + 1) ys)) := by rw [hX, ← HDS.out]; exact Lib.hid (HO.out.set' (by rw [dblN_length (by omega)]; exact hltY) _ (by have := HDK.out; omega))
         have nB_x : Hid (Box w4' b_x #[.string an, .string ad]) := by rw [hX]; exact Lib.hid (boxn_other HB_x.out (Nat.ne_of_lt lt_x) k (.int .i64 (xk * 2)))
         have nW : Hid (Below w.heap.size w w4') := by rw [hX]; exact Lib.hid (HW.out.setCell (p := ⟨g, k, none⟩) le_g (.int .i64 (xk * 2)))
         have e3 : w4'.cell? ⟨g, k, none⟩ = some (.int .i64 (xk * 2)) := by
          have h := nO.out.cell (i := k) (by rw [dblN_length (by omega)]; exact hltY)
          rw [h]
          have h2 := HDS.out
          congr 2
          simp only [← h2, List.getElem_set_self]
          have := HDK.out; omega
         clear hX HO HB_x HW e0 e1 e2 f2
         go_wp2
         go_roundw
         case rel => exact ⟨k + 1, true, false, by omega, by go_num, rfl, rfl, HN, nO.out, nB_x.out, nW.out⟩
         case measure => simp [intOf]; omega
        ·by_cases hsm : xk * 2 ≤ 100000
         ·have HN : Hid ((true && evB (sumI cs) (sumI xs) (cs.drop (k + 1)) (xs.drop (k + 1))) = evB (sumI cs) (sumI xs) cs xs ∧ (true && smB (xs.drop (k + 1))) = smB xs) := Lib.hid ⟨by rw [← HK.out.1, HPQ.out]; simp, by rw [← HK.out.2, HSW.out]; simp; omega⟩
          clear HK HPQ HSW
          go_upto_region 17 with (fail)
          obtain ⟨w4', hX⟩ : ∃ Z9, Z9 = Y.setCell ⟨g, k, none⟩ (.int .i64 (xk * 2)) := ⟨_, rfl⟩
          rw [← hX]
          have nO : Hid (Nt.Own w4' g (dblN (k + 1) ys)) := by rw [hX, ← HDS.out]; exact Lib.hid (HO.out.set' (by rw [dblN_length (by omega)]; exact hltY) _ (by have := HDK.out; omega))
          have nB_x : Hid (Box w4' b_x #[.string an, .string ad]) := by rw [hX]; exact Lib.hid (boxn_other HB_x.out (Nat.ne_of_lt lt_x) k (.int .i64 (xk * 2)))
          have nW : Hid (Below w.heap.size w w4') := by rw [hX]; exact Lib.hid (HW.out.setCell (p := ⟨g, k, none⟩) le_g (.int .i64 (xk * 2)))
          have e3 : w4'.cell? ⟨g, k, none⟩ = some (.int .i64 (xk * 2)) := by
           have h := nO.out.cell (i := k) (by rw [dblN_length (by omega)]; exact hltY)
           rw [h]
           have h2 := HDS.out
           congr 2
           simp only [← h2, List.getElem_set_self]
           have := HDK.out; omega
          clear hX HO HB_x HW e0 e1 e2 f2
          go_wp2
          go_roundw
          case rel => exact ⟨k + 1, true, true, by omega, by go_num, rfl, rfl, HN, nO.out, nB_x.out, nW.out⟩
          case measure => simp [intOf]; omega
         ·have HN : Hid ((true && evB (sumI cs) (sumI xs) (cs.drop (k + 1)) (xs.drop (k + 1))) = evB (sumI cs) (sumI xs) cs xs ∧ (false && smB (xs.drop (k + 1))) = smB xs) := Lib.hid ⟨by rw [← HK.out.1, HPQ.out]; simp, by rw [← HK.out.2, HSW.out]; simp; omega⟩
          clear HK HPQ HSW
          go_upto_region 17 with (fail)
          obtain ⟨w4', hX⟩ : ∃ Z9, Z9 = Y.setCell ⟨g, k, none⟩ (.int .i64 (xk * 2)) := ⟨_, rfl⟩
          rw [← hX]
          have nO : Hid (Nt.Own w4' g (dblN (k + 1) ys)) := by rw [hX, ← HDS.out]; exact Lib.hid (HO.out.set' (by rw [dblN_length (by omega)]; exact hltY) _ (by have := HDK.out; omega))
          have nB_x : Hid (Box w4' b_x #[.string an, .string ad]) := by rw [hX]; exact Lib.hid (boxn_other HB_x.out (Nat.ne_of_lt lt_x) k (.int .i64 (xk * 2)))
          have nW : Hid (Below w.heap.size w w4') := by rw [hX]; exact Lib.hid (HW.out.setCell (p := ⟨g, k, none⟩) le_g (.int .i64 (xk * 2)))
          have e3 : w4'.cell? ⟨g, k, none⟩ = some (.int .i64 (xk * 2)) := by
           have h := nO.out.cell (i := k) (by rw [dblN_length (by omega)]; exact hltY)
           rw [h]
           have h2 := HDS.out
           congr 2
           simp only [← h2, List.getElem_set_self]
           have := HDK.out; omega
          clear hX HO HB_x HW e0 e1 e2 f2
          go_wp2
          go_roundw
          case rel => exact ⟨k + 1, true, false, by omega, by go_num, rfl, rfl, HN, nO.out, nB_x.out, nW.out⟩
          case measure => simp [intOf]; omega
       ·have hpq2 : (p == q) = false := by simpa using hpq
        cases s
        ·have HN : Hid ((false && evB (sumI cs) (sumI xs) (cs.drop (k + 1)) (xs.drop (k + 1))) = evB (sumI cs) (sumI xs) cs xs ∧ (false && smB (xs.drop (k + 1))) = smB xs) := Lib.hid ⟨by rw [← HK.out.1, HPQ.out]; simp [hpq], by rw [← HK.out.2, HSW.out]; simp⟩
         clear HK HPQ HSW
         go_upto_region 17 with (fail)
         obtain ⟨w4', hX⟩ : ∃ Z9, Z9 = Y.setCell ⟨g, k, none⟩ (.int .i64 (xk * 2)) := ⟨_, rfl⟩
         rw [← hX]
         have nO : Hid (Nt.Own w4' g (dblN (k + 1) ys)) := by rw [hX, ← HDS.out]; exact Lib.hid (HO.out.set' (by rw [dblN_length (by omega)]; exact hltY) _ (by have := HDK.out; omega))
         have nB_x : Hid (Box w4' b_x #[.string an, .string ad]) := by rw [hX]; exact Lib.hid (boxn_other HB_x.out (Nat.ne_of_lt lt_x) k (.int .i64 (xk * 2)))
         have nW : Hid (Below w.heap.size w w4') := by rw [hX]; exact Lib.hid (HW.out.setCell (p := ⟨g, k, none⟩) le_g (.int .i64 (xk * 2)))
         have e3 : w4'.cell? ⟨g, k, none⟩ = some (.int .i64 (xk * 2)) := by
          have h := nO.out.cell (i := k) (by rw [dblN_length (by omega)]; exact hltY)
          rw [h]
          have h2 := HDS.out
          congr 2
          simp only [← h2, List.getElem_set_self]
          have := HDK.out; omega
         clear hX HO HB_x HW e0 e1 e2 f2
         go_wp2
         go_roundw
         case rel => exact ⟨k + 1, false, false, by omega, by go_num, rfl, rfl, HN, nO.out, nB_x.out, nW.out⟩
         case measure => simp [intOf]; omega
        ·by_cases hsm : xk * 2 ≤ 100000
         ·have HN : Hid ((false && evB (sumI cs) (sumI xs) (cs.drop (k + 1)) (xs.drop (k + 1))) = evB (sumI cs) (sumI xs) cs xs ∧ (true && smB (xs.drop (k + 1))) = smB xs) := Lib.hid ⟨by rw [← HK.out.1, HPQ.out]; simp [hpq], by rw [← HK.out.2, HSW.out]; simp; omega⟩
          clear HK HPQ HSW
          go_upto_region 17 with (fail)
          obtain ⟨w4', hX⟩ : ∃ Z9, Z9 = Y.setCell ⟨g, k, none⟩ (.int .i64 (xk * 2)) := ⟨_, rfl⟩
          rw [← hX]
          have nO : Hid (Nt.Own w4' g (dblN (k + 1) ys)) := by rw [hX, ← HDS.out]; exact Lib.hid (HO.out.set' (by rw [dblN_length (by omega)]; exact hltY) _ (by have := HDK.out; omega))
          have nB_x : Hid (Box w4' b_x #[.string an, .string ad]) := by rw [hX]; exact Lib.hid (boxn_other HB_x.out (Nat.ne_of_lt lt_x) k (.int .i64 (xk * 2)))
          have nW : Hid (Below w.heap.size w w4') := by rw [hX]; exact Lib.hid (HW.out.setCell (p := ⟨g, k, none⟩) le_g (.int .i64 (xk * 2)))
          have e3 : w4'.cell? ⟨g, k, none⟩ = some (.int .i64 (xk * 2)) := by
           have h := nO.out.cell (i := k) (by rw [dblN_length (by omega)]; exact hltY)
           rw [h]
           have h2 := HDS.out
           congr 2
           simp only [← h2, List.getElem_set_self]
           have := HDK.out; omega
          clear hX HO HB_x HW e0 e1 e2 f2
          go_wp2
          go_roundw
          case rel => exact ⟨k + 1, false, true, by omega, by go_num, rfl, rfl, HN, nO.out, nB_x.out, nW.out⟩
          case measure => simp [intOf]; omega
         ·have HN : Hid ((false && evB (sumI cs) (sumI xs) (cs.drop (k + 1)) (xs.drop (k + 1))) = evB (sumI cs) (sumI xs) cs xs ∧ (false && smB (xs.drop (k + 1))) = smB xs) := Lib.hid ⟨by rw [← HK.out.1, HPQ.out]; simp [hpq], by rw [← HK.out.2, HSW.out]; simp; omega⟩
          clear HK HPQ HSW
          go_upto_region 17 with (fail)
          obtain ⟨w4', hX⟩ : ∃ Z9, Z9 = Y.setCell ⟨g, k, none⟩ (.int .i64 (xk * 2)) := ⟨_, rfl⟩
          rw [← hX]
          have nO : Hid (Nt.Own w4' g (dblN (k + 1) ys)) := by rw [hX, ← HDS.out]; exact Lib.hid (HO.out.set' (by rw [dblN_length (by omega)]; exact hltY) _ (by have := HDK.out; omega))
          have nB_x : Hid (Box w4' b_x #[.string an, .string ad]) := by rw [hX]; exact Lib.hid (boxn_other HB_x.out (Nat.ne_of_lt lt_x) k (.int .i64 (xk * 2)))
          have nW : Hid (Below w.heap.size w w4') := by rw [hX]; exact Lib.hid (HW.out.setCell (p := ⟨g, k, none⟩) le_g (.int .i64 (xk * 2)))
          have e3 : w4'.cell? ⟨g, k, none⟩ = some (.int .i64 (xk * 2)) := by
           have h := nO.out.cell (i := k) (by rw [dblN_length (by omega)]; exact hltY)
           rw [h]
           have h2 := HDS.out
           congr 2
           simp only [← h2, List.getElem_set_self]
           have := HDK.out; omega
          clear hX HO HB_x HW e0 e1 e2 f2
          go_wp2
          go_roundw
          case rel => exact ⟨k + 1, false, false, by omega, by go_num, rfl, rfl, HN, nO.out, nB_x.out, nW.out⟩
          case measure => simp [intOf]; omega
     ·have HEV : Hid (e = evB (sumI cs) (sumI xs) cs xs ∧ s = smB xs) := Lib.hid ⟨by have := HK.out.1; rw [evB_end (by omega), Bool.and_true] at this; exact this, by have := HK.out.2; rw [smB_end (by have := HM.out.len; omega), Bool.and_true] at this; exact this⟩
      have hkl : k = cs.length := by omega
      subst hkl
      clear HK hlt hk
      have HS2 : Hid (Sl Y (.slice (some ⟨g, 0, none⟩) xs.length cap) xs.length ((dblL xs).map (Value.int .i64))) := Lib.hid (by
       have h := HO.out.sl (c := cap) (by rw [dblN_length (by have := HYL.out; have := HM.out.len; omega), HYL.out]; exact hg2) hg3
       rw [dblN_length (by have := HYL.out; have := HM.out.len; omega), HYL.out] at h
       rw [← HYS.out, dblN_end (by have := HM.out.len; omega) HNN.out] at h
       exact h)
      have HTE : Hid (decide (an = showN 0 ∧ ad = showD 0) = e) := Lib.hid (by rw [← H_a.out.1, ← H_a.out.2, HSD.out, HEV.out.1])
      have c_x_0 : Y.cell? ⟨b_x, 0, none⟩ = some (.string an) := HB_x.out.2 0
      have c_x_1 : Y.cell? ⟨b_x, 1, none⟩ = some (.string ad) := HB_x.out.2 1
      go_upto_region 19 with (fail)
      refine Grow.wp_region_grow 5 [TP.eq (.agg #[.string an, .string ad]), TP.eq (rtV 0), TP.eq (.bool e), TP.eq (.bool e), TP.eq (.bool false)] [[], [], [0, 1], [], [2, 3]] (by kernel_rfl) (by kernel_rfl) ⟨?o0t, ?o1t, ?o2t, ?o3t, ?o4t, trivial⟩ ?_
      case o0t =>
       intro w' hb
       have c_x_0' := zzc hb c_x_0
       have c_x_1' := zzc hb c_x_1
       show wpList _ _ _ _ _ _
       go_wp2
       exact ⟨rfl, Below.refl _ _, rfl⟩
      case o1t =>
       intro w' hb
       show wpList _ _ _ _ _ _
       go_wp2_with fail
       refine (whole0 w' (HT0.out.ext (ext_trans HW.out hb))).mono ?_
       rintro e wz ⟨rfl, hbz⟩
       go_wp2
       exact ⟨rfl, hbz, rfl⟩
      case o2t =>
       intro w' hb v1 hv1 v2 hv2
       obtain rfl : v1 = _ := hv1
       obtain rfl : v2 = _ := hv2
       show wpList _ _ _ _ _ _
       simp only [Grow.dstOf, zz1, zz2, zz3, zz4, Act.put, zz5, zz6, zz7]
       go_wp2
       all_goals (refine ⟨congrArg Value.bool ?_, Below.refl _ _, rfl⟩; rw [← HTE.out]; first | (exact (decide_eq_true ⟨sh_inj ‹_›, sh_inj ‹_›⟩).symm) | (exact (decide_eq_false (fun h => absurd (congrArg ByteArray.toList h.1) ‹_›)).symm) | (exact (decide_eq_false (fun h => absurd (congrArg ByteArray.toList h.2) ‹_›)).symm))
      case o3t =>
       intro w' hb
       show wpList _ _ _ _ _ _
       go_wp2
       exact ⟨rfl, Below.refl _ _, rfl⟩
      case o4t =>
       intro w' hb v1 hv1 v2 hv2
       obtain rfl : v1 = _ := hv1
       obtain rfl : v2 = _ := hv2
       show wpList _ _ _ _ _ _
       simp only [Grow.dstOf, zz1, zz2, zz3, zz4, Act.put, zz5, zz6, zz7]
       go_wp2
       all_goals (refine ⟨congrArg Value.bool ?_, Below.refl _ _, rfl⟩; simp_all)
      intro w4' hbz u0 hu0 u1 hu1 u2 hu2 u3 hu3 u4 hu4
      obtain rfl : u4 = _ := hu4
      clear hu0 hu1 hu2 hu3
      replace HB_x := Lib.hid (HB_x.out.ext hbz)
      replace HS2 := Lib.hid (HS2.out.ext hbz)
      replace HW := Lib.hid (ext_trans HW.out hbz)
      clear c_x_0 c_x_1
      clear hbz
      refine tail_none (P := Tryd.prog) (ops := #[]) ?_
      simp only [Act.put, zz5, zz6, zz7]
      cases s
      ·have hmm := mism_at cs (dblL xs) (some ⟨pb, po, none⟩) (some ⟨g, 0, none⟩) c cap w4' (H.out.1.ext HW.out) (by rw [dbl_len]; exact HS2.out)
       rw [dbl_len] at hmm
       obtain ⟨bn, hbn⟩ : ∃ z, misN cs (dblL xs) = z := ⟨_, rfl⟩
       obtain ⟨bd, hbd⟩ : ∃ z, misD cs (dblL xs) = z := ⟨_, rfl⟩
       obtain ⟨bf, hbf⟩ : ∃ z, misF cs (dblL xs) = z := ⟨_, rfl⟩
       rw [hbn, hbd, hbf] at hmm
       clear hbn hbd hbf
       go_wp2_with fail
       refine hmm.mono ?_
       rintro e w5' ⟨rfl, hbz⟩
       clear hmm
       replace HB_x := Lib.hid (HB_x.out.ext hbz)
       replace HW := Lib.hid (ext_trans HW.out hbz)
       clear hbz
       go_upto_region 22 with (fail)
       refine wp_box1 fun w6' hsz hbz hC => ?_
       clear hsz
       have lt_x_y : b_x < w5'.heap.size := HB_x.out.1
       have le_y : w.heap.size ≤ w5'.heap.size := HW.out.size
       replace HB_x := Lib.hid (HB_x.out.ext hbz)
       replace HW := Lib.hid (ext_trans HW.out hbz)
       clear hbz
       have HB_y := Lib.hid hC
       clear hC
       generalize w5'.heap.size = b_y at *
       have c_x_0 : w6'.cell? ⟨b_x, 0, none⟩ = some (.string an) := HB_x.out.2 0
       have c_x_1 : w6'.cell? ⟨b_x, 1, none⟩ = some (.string ad) := HB_x.out.2 1
       have c_y_0 : w6'.cell? ⟨b_y, 0, none⟩ = some (.string bn) := HB_y.out.2 0
       have c_y_1 : w6'.cell? ⟨b_y, 1, none⟩ = some (.string bd) := HB_y.out.2 1
       go_wp2
       go_ret
       exact ⟨by simp, HW.out⟩
      ·have hmm := mism_at cs (dblL xs) (some ⟨pb, po, none⟩) (some ⟨g, 0, none⟩) c cap w4' (H.out.1.ext HW.out) (by rw [dbl_len]; exact HS2.out)
       rw [dbl_len] at hmm
       have hd9 := HDN.out HEV.out.2.symm
       rw [hd9.1, hd9.2, (HDB.out HEV.out.2.symm).1] at hmm
       clear hd9
       go_wp2_with fail
       refine hmm.mono ?_
       rintro e w5' ⟨rfl, hbz⟩
       clear hmm
       replace HB_x := Lib.hid (HB_x.out.ext hbz)
       replace HW := Lib.hid (ext_trans HW.out hbz)
       clear hbz
       go_upto_region 22 with (fail)
       refine wp_box1 fun w6' hsz hbz hC => ?_
       clear hsz
       have lt_x_y : b_x < w5'.heap.size := HB_x.out.1
       have le_y : w.heap.size ≤ w5'.heap.size := HW.out.size
       replace HB_x := Lib.hid (HB_x.out.ext hbz)
       replace HW := Lib.hid (ext_trans HW.out hbz)
       clear hbz
       have HB_y := Lib.hid hC
       clear hC
       generalize w5'.heap.size = b_y at *
       have c_x_0 : w6'.cell? ⟨b_x, 0, none⟩ = some (.string an) := HB_x.out.2 0
       have c_x_1 : w6'.cell? ⟨b_x, 1, none⟩ = some (.string ad) := HB_x.out.2 1
       have c_y_0 : w6'.cell? ⟨b_y, 0, none⟩ = some (.string an) := HB_y.out.2 0
       have c_y_1 : w6'.cell? ⟨b_y, 1, none⟩ = some (.string ad) := HB_y.out.2 1
       go_wp2
       go_ret
       exact ⟨by simp, HW.out⟩
 ·obtain ⟨af, h3⟩ : ∃ z, misF cs xs = z := ⟨_, rfl⟩
  have hne : (af != 0) = true := by rw [← h3]; simpa using hf
  have HV := Lib.hid h3
  obtain ⟨hn, hd⟩ := mis_no hf
  rw [H_a.out.1] at hn
  rw [H_a.out.2] at hd
  subst hn
  subst hd
  clear hf h3
  go_enter Tryd.func3, Tryd.ntmps3
  have HT0 := Lib.hid ht
  clear ht
  go_wp2_with fail
  refine (mism_at cs xs a b c d w H.out.1 H.out.2).mono ?_
  rintro e w1' ⟨rfl, hbz⟩
  rw [H_a.out.1, H_a.out.2, HV.out]
  have HW := Lib.hid hbz
  clear hbz
  go_upto_region 2 with (fail)
  refine wp_box1 fun w2' hsz hbz hC => ?_
  clear hsz
  have le_x : w.heap.size ≤ w1'.heap.size := HW.out.size
  replace HW := Lib.hid (ext_trans HW.out hbz)
  clear hbz
  have HB_x := Lib.hid hC
  clear hC
  generalize w1'.heap.size = b_x at *
  have c_x_0 : w2'.cell? ⟨b_x, 0, none⟩ = some (.string ⟨#[]⟩) := HB_x.out.2 0
  have c_x_1 : w2'.cell? ⟨b_x, 1, none⟩ = some (.string ⟨#[]⟩) := HB_x.out.2 1
  go_wp2
  go_ret
  exact ⟨by simp, HW.out⟩
end Nm
end Go.Proofs.YtilolnjbpokdnaaDoor
