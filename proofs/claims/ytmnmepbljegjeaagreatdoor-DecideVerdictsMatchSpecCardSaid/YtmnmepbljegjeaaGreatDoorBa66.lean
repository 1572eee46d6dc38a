/- Verdict of the reference: the program's terms. Printed by gen_rverd.py. -/
import Derived.Test.YtmnmepbljegjeaaGreatDoorBa64
import Derived.Test.YtmnmepbljegjeaaGreatDoorBa65
namespace Go.Proofs.YtmnmepbljegjeaaGreatDoor
open Go.RowKit
namespace Nt
open _root_.Go.Proofs.YtmnmepbljegjeaaGreatDoor.Nm (showN showD Fits rQ missF FPost RT rtL rtOk gF gF_step planF pF pF_step verF minN minN_le minN_step stopStep decG stopL stopL_step shipN verdV verdN verA VerPost IsSl RowsZ ics_not VL ints_info verA_no ret_three take_ics map_take_succ decB decAt ics pair_ok Ln sl_take sl_caps)
open _root_.Go.Proofs.YtmnmepbljegjeaaGreatDoor.lawLine (miss_parts)
/-- held: the world is an extension of W, a block reads as it did, and so do two cells -/
abbrev SD (W : World) (b : Nat) (A : Array Value) (g o : Nat) (u u' : Value) (w' : World) : Prop := Below W.heap.size W w' ∧ (∀ j, w'.cell? ⟨b, j, none⟩ = A[j]?) ∧ w'.cell? ⟨g, o, none⟩ = some u ∧ w'.cell? ⟨g, o + 1, none⟩ = some u'
theorem SD.start {W : World} {b : Nat} {A : Array Value} {g o : Nat} {u u' : Value} (h1 : Box W b A) (h2 : W.cell? ⟨g, o, none⟩ = some u) (h3 : W.cell? ⟨g, o + 1, none⟩ = some u') : SD W b A g o u u' W.drew := ⟨(Below.refl _ _).drew, h1.2, h2, h3⟩
theorem SD.ext {W w1 w2 : World} {b : Nat} {A : Array Value} {g o : Nat} {u u' : Value} (hb : Below w1.heap.size w1 w2) (h : SD W b A g o u u' w1) (h1 : Box W b A) : SD W b A g o u u' w2 :=
  ⟨ext_trans h.1 hb, fun j => (hb.cell (p := ⟨b, j, none⟩) (Nat.lt_of_lt_of_le h1.1 h.1.size)).trans (h.2.1 j), cell_later hb h.2.2.1, cell_later hb h.2.2.2⟩
theorem decided_is9 (d : Int) (d1 : 1 ≤ d) (d3 : d ≤ 3) (kn : Nat) (h1 : 1 ≤ kn) (h5 : kn ≤ 5) (q : Rat) (hq : Fits q) (h0 : 0 < q) (hlq : Ln 100 100 q) (l : List Int) (N r : Nat) (hN : l.length = N) (hr : decAt (decB d kn q⁻¹) 0 0 0 l = r) (a : Option Addr) (c : Nat) (w : World) (hs : Sl w (.slice a N c) N (ics l)) (hl : N ≤ 60) (ht : Tab w) :
    Calls Tryz.prog 118 #[.agg #[.int .i64 d, .int .i64 (kn : Int), .string (showN q), .string (showD q)], .slice a N c] w (fun e w' => e = .returned (.int .i64 (r : Int)) ∧ Below w.heap.size w w') := by
  subst hN hr; exact decided_at d d1 d3 kn h1 h5 q hq h0 hlq l hl a c w hs ht
theorem minN_cut (a : Nat) (z : List Int) (zs : List (List Int)) : minN a (z :: zs) = minN (min z.length a) zs := by rw [Nat.min_comm]; rfl
set_option maxRecDepth 100000 in
set_option maxHeartbeats 16000000 in
theorem refVerdict_at (P K : Int) (n m : ByteArray) (hn : n.size ≤ maxLen) (hm : m.size ≤ maxLen) (gs : List RT) (hgs : ∀ r ∈ gs, rtOk r) (pa : Option Addr) (pc : Nat) (goal : List Tri) (ga : Option Addr) (gc : Nat) (guards : List (List Tri)) (svs : List SV) (oa : Option Addr) (oc : Nat) (w : World)
    (hs : Sl w (.slice pa gs.length pc) gs.length (gs.flatMap rtL)) (hgo : Sl w (.slice ga goal.length gc) goal.length (goal.flatMap triL)) (hsv : Sl w (.slice oa svs.length oc) svs.length (svs.flatMap svL)) (hrw : RowsOf w triL svs guards) (hsz : svs.length * 24 ≤ 140737488351232) (ht : Tab w) :
    Calls Tryz.prog 66 #[.agg #[Value.int .i64 P, Value.int .i64 K, Value.string n, Value.string m, Value.slice pa gs.length pc], .slice ga goal.length gc, .slice oa svs.length oc] w (VerPost w (verA P K n m gs goal guards).1 (verA P K n m gs goal guards).2 (verF P K n m gs goal guards)) := by
  have HS := Lib.hid hs
  have HGS := Lib.hid hgs
  have HGO := Lib.hid hgo
  have HSV := Lib.hid hsv
  have HRW := Lib.hid hrw
  have HT0 := Lib.hid ht
  have HII := Lib.hid ints_info
  have HLEN : Hid (svs.length = guards.length) := hrw.1
  clear hs hgs hsv hrw hgo ht
  go_enter Tryz.func66, Tryz.ntmps66
  go_upto_region 1 with (fail)
  refine wp_box1 fun w0 hsz0 hbw0 hA0 => ?_
  have t0 : w0.cell? ⟨w.heap.size, 0, none⟩ = some (.int .i64 P) := hA0.2 0
  have t1 : w0.cell? ⟨w.heap.size, 1, none⟩ = some (.int .i64 K) := hA0.2 1
  have t2 : w0.cell? ⟨w.heap.size, 2, none⟩ = some (.string n) := hA0.2 2
  have t3 : w0.cell? ⟨w.heap.size, 3, none⟩ = some (.string m) := hA0.2 3
  have t4 : w0.cell? ⟨w.heap.size, 4, none⟩ = some (.slice pa gs.length pc) := hA0.2 4
  clear hsz0
  go_wp2_with fail
  refine (refCheckPlan_at P K n m hn hm gs HGS.out pa pc _ (HS.out.ext hbw0) (HT0.out.ext hbw0)).mono ?_
  rintro e w1 ⟨rfl, hb1⟩
  have hA1 := hA0.ext hb1
  have hbw1 := ext_trans hbw0 hb1
  clear t0 t1 t2 t3 t4 hA0 hbw0 hb1
  by_cases hpf : planF P K n m gs = 0
  · have hne : (planF P K n m gs != 0) = false := by simp [hpf]
    obtain ⟨hPK, hmi, hg20, hgF⟩ := planF_ok hpf
    have HGF := Lib.hid (gF_all hgF)
    have HPK := Lib.hid hPK
    obtain ⟨q, hq, hrq, rfl, rfl, h0, h1q, hlq⟩ := miss_parts hmi
    have HQ := Lib.hid (And.intro hq (And.intro h0 hlq))
    have HRQ := Lib.hid hrq
    obtain ⟨kn, hkn⟩ : ∃ kn : Nat, K = (kn : Int) := ⟨K.toNat, by omega⟩
    obtain ⟨pn, hpn⟩ : ∃ pn : Nat, P = (pn : Int) := ⟨P.toNat, by omega⟩
    subst hkn hpn
    have hp60 : pn ≤ 60 := by omega
    have hk1 : 1 ≤ kn := by omega
    have hk5 : kn ≤ 5 := by omega
    have HVF : Hid (verF (pn : Int) (kn : Int) (showN q) (showD q) gs goal guards = if pairF goal ≠ 0 then pairF goal else if pF guards ≠ 0 then pF guards else if guards.length ≠ gs.length then 3 else 0) := by
      have : verF (pn : Int) (kn : Int) (showN q) (showD q) gs goal guards = if pF (goal :: guards) ≠ 0 then pF (goal :: guards) else if guards.length ≠ gs.length then 3 else 0 := by unfold verF; rw [if_neg (by simp [hpf])]
      rw [this]
      have e : pF (goal :: guards) = if pairF goal ≠ 0 then pairF goal else pF guards := rfl
      rw [e]
      by_cases h9 : pairF goal ≠ 0
      · rw [if_pos h9, if_pos h9, if_pos h9]; exact Lib.hid rfl
      · rw [if_neg h9, if_neg h9]; exact Lib.hid rfl
    have HVA : Hid (verF (pn : Int) (kn : Int) (showN q) (showD q) gs goal guards = 0 → verA (pn : Int) (kn : Int) (showN q) (showD q) gs goal guards = (verdV (shipN kn (showN q) (showD q) (pairZ goal) (minN (min (pairZ goal).length pn) (guards.map pairZ))) (stopL kn (minN (min (pairZ goal).length pn) (guards.map pairZ)) 0 gs (guards.map pairZ)) (minN (min (pairZ goal).length pn) (guards.map pairZ)) pn, verdN (shipN kn (showN q) (showD q) (pairZ goal) (minN (min (pairZ goal).length pn) (guards.map pairZ))) (stopL kn (minN (min (pairZ goal).length pn) (guards.map pairZ)) 0 gs (guards.map pairZ)))) := fun h => by
      have e := minN_cut pn (pairZ goal) (guards.map pairZ)
      unfold verA; rw [if_pos h, Int.toNat_natCast, Int.toNat_natCast, List.map_cons, e]
    clear hpf hPK hmi hgF hq hrq h0 h1q hlq hn hm
    go_wp2_with fail
    refine (refPairs_at goal ga gc _ (HGO.out.ext hbw1)).mono ?_
    rintro e w2 ⟨a4, c4, rfl, hs4, hb4⟩
    have HS4 := Lib.hid hs4
    have hA2 := hA1.ext hb4
    have hbw2 := ext_trans hbw1 hb4
    clear hs4 hb4 hA1 hbw1
    by_cases hp : pairF goal = 0
    · have hne2 : (pairF goal != 0) = false := by simp [hp]
      obtain ⟨e1, e2⟩ := pair_ok hp
      have HVF1 : Hid (verF (pn : Int) (kn : Int) (showN q) (showD q) gs goal guards = if pF guards ≠ 0 then pF guards else if guards.length ≠ gs.length then 3 else 0) := by
        have h := HVF.out
        rw [if_neg (fun h => h hp)] at h
        exact h
      have HS5 : Hid (Sl w2 (.slice a4 (pairZ goal).length c4) (pairZ goal).length (ics (pairZ goal))) := by have h := HS4.out; rw [e1] at h; exact h
      rw [e1]
      clear hp e1 HS4 HVF
      obtain ⟨Z, hZ⟩ : ∃ Z, pairZ goal = Z := ⟨_, rfl⟩
      rw [hZ] at HS5 HVA e2 ⊢
      have HZG := Lib.hid hZ
      clear hZ
      obtain ⟨c0, hc0⟩ : ∃ c, min Z.length pn = c := ⟨_, rfl⟩
      rw [hc0] at HVA
      have hcp0 : c0 ≤ pn := by omega
      have hcZ : c0 ≤ Z.length := by omega
      have hmn : min (Z.length : Int) (pn : Int) = (c0 : Int) := by omega
      clear hc0
      have tP : w2.cell? ⟨w.heap.size, 0, none⟩ = some (.int .i64 (pn : Int)) := hA2.2 0
      obtain ⟨base, HBASE⟩ : ∃ base, Hid (w2.heap.size = base) := ⟨_, rfl⟩
      have HVL : Hid (VL w2 w2 base (.slice none 0 0) 0 [] []) := ⟨Below.refl _ _, World.ownsRow_nil _ _ _ _, RowQ.nil _ _, ⟨rfl, fun i sv z h => by simp at h⟩, rfl, by rw [HBASE.out]; exact Nat.le_refl _, by rw [← HBASE.out]; exact Nat.le_refl _⟩
      go_wp2
      clear tP hmn
      go_loopw [11, 12, 14, 15, 16, 42] (fun x v _ _ _ i wr => ∃ (k cur : Nat) (pvs : List SV) (zs : List (List Int)), k ≤ svs.length ∧ i = .int .i64 k ∧ x = .int .i64 cur ∧ cur ≤ c0 ∧ Hid (pF guards = pF (guards.drop k)) ∧ Hid (zs = (guards.take k).map pairZ) ∧ Hid (minN c0 (guards.map pairZ) = minN cur ((guards.map pairZ).drop k)) ∧ Hid (VL w2 wr base v k pvs zs)) (fun _ _ _ _ _ i _ => svs.length - (intOf i).toNat)
      case atStart => exact ⟨0, c0, [], [], by omega, rfl, rfl, Nat.le_refl _, rfl, rfl, rfl, HVL⟩
      case round =>
        clear HVL
        obtain ⟨k, cur, pvs, zs, hk, rfl, rfl, hcur, HK, HZS, HMK, HVL⟩ := hrel
        by_cases hlt : k < svs.length
        · have hgk := List.getElem?_eq_getElem hlt
          have hgl : ∃ l, guards[k]? = some l := ⟨_, List.getElem?_eq_getElem (by rw [← HRW.out.1]; exact hlt)⟩
          obtain ⟨l, hll⟩ := hgl
          generalize svs[k] = sv at hgk
          obtain ⟨hsn, hss⟩ := HRW.out.2 k sv l hgk hll
          have HST : Hid (pF guards = if pairF l ≠ 0 then pairF l else pF (guards.drop (k + 1))) := by have := HK.out; rw [pF_step hll] at this; exact this
          have HZ1 := Lib.hid (map_take_succ hll)
          have HM1 : Hid (minN c0 (guards.map pairZ) = minN (min cur (pairZ l).length) ((guards.map pairZ).drop (k + 1))) := by
            have h := HMK.out
            rw [minN_step (z := pairZ l) (by rw [List.getElem?_map, hll]; rfl)] at h
            exact h
          obtain ⟨bl, ol, rfl, hc⟩ := Nm.sl_addr (HSV.out.ext (ext_trans hbw2 HVL.out.low)) (show (svs.flatMap svL)[k]? = some (.slice sv.a sv.n sv.c) by have := flat_get (f := svL) (sz := 1) (fun _ => rfl) svs k sv hgk 0 _ rfl; simpa using this)
          obtain ⟨sa, sn, sc⟩ := sv
          simp only at hsn hss hc
          subst hsn
          have HSS := Lib.hid hss
          clear hgk hll hss HK HMK
          go_wp2_with fail
          refine (refPairs_at l sa sc _ (HSS.out.ext (ext_trans hbw2 HVL.out.low))).mono ?_
          rintro e w4 ⟨a6, c6, rfl, hs6, hb6⟩
          have HS6 := Lib.hid hs6
          have HV4 := Lib.hid (HVL.out.ext hb6)
          clear hs6 hb6 hc HVL
          by_cases hp : pairF l = 0
          · have hne3 : (pairF l != 0) = false := by simp [hp]
            obtain ⟨e1, e3⟩ := pair_ok hp
            have HN : Hid (pF guards = pF (guards.drop (k + 1))) := by have := HST.out; rw [if_neg (by simp [hp])] at this; exact this
            have HS7 : Hid (Sl w4 (.slice a6 (pairZ l).length c6) (pairZ l).length (ics (pairZ l))) := by have h := HS6.out; rw [e1] at h; exact h
            rw [e1]
            clear hp e1 HST HS6
            obtain ⟨c9, hc9⟩ : ∃ c, min cur (pairZ l).length = c := ⟨_, rfl⟩
            rw [hc9] at HM1
            have hc9le : c9 ≤ c0 := by omega
            have hmi : min (cur : Int) ((pairZ l).length : Int) = (c9 : Int) := by omega
            have hbs4 := HV4.out.bs
            clear hc9
            go_wp2_with (at_builtin; refine wpList_append_q IsSl rfl _ _ 162 rfl base 45 Tryz.underlying162 HII.out rfl (by decide) rfl (HV4.out.ext (ext_alloc _ _)).own rfl (Sl.new w4 #[.slice a6 (pairZ l).length c6] _ 1 1 (by omega) (by decide)) rfl (by intro u hu; simp at hu; subst hu; rfl) (by unfold maxLen; omega) (by omega) (by simp; omega) (HV4.out.ext (ext_alloc _ _)).q (by intro u hu; simp [Value.cells] at hu; subst hu; trivial) (by intro u hu; simp at hu; subst hu; trivial) ?_; intro v7 w7 hown7 hg7 hat7 hq7; have HV7 := Lib.hid ((HV4.out.ext (ext_alloc w4 _)).push ⟨a6, (pairZ l).length, c6⟩ (pairZ l) hg7 hown7 hq7 rfl (HS7.out.ext (ext_alloc _ _))); clear hown7 hg7 hat7 hq7)
            go_roundw
            case rel => exact ⟨k + 1, c9, _, _, by omega, by go_num, rfl, hc9le, HN, by rw [HZ1.out, ← HZS.out]; exact rfl, HM1, HV7⟩
            case measure => simp [intOf]; omega
          · have hne3 : (pairF l != 0) = true := by simp [hp]
            have HFIN : Hid (verF (pn : Int) (kn : Int) (showN q) (showD q) gs goal guards = pairF l) := by
              have h1 := HVF1.out
              have h2 := HST.out
              rw [if_pos hp] at h2
              rw [h2, if_pos hp] at h1
              exact h1
            have HV0 := Lib.hid (verA_no HFIN.out hp)
            have HBW := Lib.hid HV4.out.low
            clear hp HST HS6
            go_wp2
            go_ret3
            refine ⟨?_, ext_trans hbw2 HBW.out⟩
            rw [HFIN.out, HV0.out]; rfl
        · have hks : k = svs.length := by omega
          subst hks
          have HPF0 : Hid (pF guards = 0) := by
            have h := HK.out
            rw [List.drop_eq_nil_of_le (by rw [← HRW.out.1]; exact Nat.le_refl _)] at h
            exact h
          have HZL : Hid (zs = guards.map pairZ) := by
            have h := HZS.out
            rw [List.take_of_length_le (by rw [← HRW.out.1]; exact Nat.le_refl _)] at h
            exact h
          have HN0 : Hid (minN c0 (guards.map pairZ) = cur) := by
            have h := HMK.out
            rw [List.drop_eq_nil_of_le (by rw [List.length_map, ← HRW.out.1]; exact Nat.le_refl _)] at h
            exact h
          have HVF2 : Hid (verF (pn : Int) (kn : Int) (showN q) (showD q) gs goal guards = if guards.length ≠ gs.length then 3 else 0) := by
            have h := HVF1.out
            rw [HPF0.out, if_neg (by simp)] at h
            exact h
          have HBW := Lib.hid HVL.out.low
          clear HK HZS HPF0 HVF1 HMK
          have hA5 := hA2.ext HVL.out.low
          have u1 : wr.cell? ⟨w.heap.size, 1, none⟩ = some (.int .i64 (kn : Int)) := hA5.2 1
          have u4 : wr.cell? ⟨w.heap.size, 4, none⟩ = some (.slice pa gs.length pc) := hA5.2 4
          by_cases hlg : svs.length = gs.length
          · have hneg : ((svs.length : Int) != (gs.length : Int)) = false := by rw [hlg]; simp
            have HFIN0 : Hid (verF (pn : Int) (kn : Int) (showN q) (showD q) gs goal guards = 0) := by
              have h := HVF2.out
              rw [if_neg (by rw [← HLEN.out]; exact fun h => h hlg)] at h
              exact h
            have HLG := Lib.hid hlg
            have HANS := Lib.hid (HVA.out HFIN0.out)
            have HZN : Hid (zs.length = svs.length) := by
              have h : zs.length = svs.length := by rw [HZL.out, List.length_map, HLEN.out]
              exact h
            have HPVN : Hid (pvs.length = svs.length) := HVL.out.len
            have HLE : Hid (∀ z ∈ zs, cur ≤ z.length) := fun z hz => by
              have h := (minN_le (guards.map pairZ) c0).2 z (by rw [← HZL.out]; exact hz)
              rw [HN0.out] at h; exact h
            have hcz9 : cur ≤ Z.length := by omega
            have hc60 : cur ≤ 60 := by omega
            clear hlg HVF2 HVA
            have HT9 : Hid ((Z.take cur).length = cur) := by
              have : (Z.take cur).length = cur := by rw [List.length_take]; omega
              exact this
            have HSK0 : Hid (Sl wr (.slice a4 cur c4) cur (ics (Z.take cur))) := by
              have h := Nm.sl_take (HS5.out.ext HVL.out.low) hcz9
              rw [take_ics] at h; exact h
            have hcap0 := Nm.sl_caps HS5.out
            have hi0 : (0 : Int) ≤ (cur : Int) := Int.natCast_nonneg _
            have hi1 : (cur : Int) ≤ (c4 : Int) := by omega
            have HTW := Lib.hid (HT0.out.ext (ext_trans hbw2 HVL.out.low))
            obtain ⟨t, HT⟩ : ∃ t, Hid (decAt (decB 1 kn q⁻¹) 0 0 0 (Z.take cur) = t) := ⟨_, rfl⟩
            go_wp2_with fail
            have tq0 : wr.cell? ⟨w.heap.size, 2, none⟩ = some (.string (showN q)) := hA5.2 2
            have tq1 : wr.cell? ⟨w.heap.size, 2 + 1, none⟩ = some (.string (showD q)) := hA5.2 3
            clear u1 u4
            go_region_held3 (SD wr w.heap.size #[Value.int .i64 (pn : Int), Value.int .i64 (kn : Int), Value.string (showN q), Value.string (showD q), Value.slice pa gs.length pc] w.heap.size 2 (.string (showN q)) (.string (showD q))) (first | exact SD.start hA5 tq0 tq1 | exact SD.ext (by with_reducible assumption) (by with_reducible assumption) hA5 | assumption) (first | (go_at_call 118; refine (decided_is9 1 (by decide) (by decide) kn hk1 hk5 q HQ.out.1 HQ.out.2.1 HQ.out.2.2 (Z.take cur) cur t HT9.out HT.out a4 c4 _ (HSK0.out.ext (Below.refl wr.heap.size wr).drew) hc60 (HTW.out.ext (Below.refl wr.heap.size wr).drew)).mono ?_; rintro e w5 ⟨rfl, hb5⟩; have hc5 := Lib.hid (ext_trans (Below.refl wr.heap.size wr).drew hb5)))
            have HV5 := Lib.hid (HVL.out.ext hc5.out)
            have hbL5 := HV5.out.low
            have hA6 := hA5.ext hc5.out
            clear hA5 hi0 hi1 tq0 tq1
            have hlg2 : pvs.length = svs.length := HPVN.out
            obtain ⟨vA, vC, hv12⟩ := own_any HV5.out.own
            subst hv12
            go_wp2
            go_loopw [18, 19, 20, 21, 80] (fun x _ _ _ i wx => ∃ (k s : Nat), k ≤ svs.length ∧ i = .int .i64 k ∧ x = .int .i64 s ∧ Hid (stopL kn cur 0 gs (guards.map pairZ) = stopL kn cur s (gs.drop k) ((guards.map pairZ).drop k)) ∧ Hid (Below w5.heap.size w5 wx)) (fun _ _ _ _ i _ => svs.length - (intOf i).toNat)
            case atStart => exact ⟨0, 0, by omega, rfl, rfl, rfl, Below.refl _ _⟩
            case round =>
              obtain ⟨k, s, hk, rfl, rfl, HKS, HBX⟩ := hrel
              by_cases hlt : k < svs.length
              · have hlg9 := HLG.out
                obtain ⟨r, hrk⟩ : ∃ r, gs[k]? = some r := ⟨_, List.getElem?_eq_getElem (by omega)⟩
                obtain ⟨pv, hpv⟩ : ∃ pv, pvs[k]? = some pv := ⟨_, List.getElem?_eq_getElem (by rw [HPVN.out]; exact hlt)⟩
                obtain ⟨z, hzk⟩ : ∃ z, (guards.map pairZ)[k]? = some z := ⟨_, List.getElem?_eq_getElem (by rw [List.length_map, ← HLEN.out]; exact hlt)⟩
                have hzk1 : zs[k]? = some z := by rw [HZL.out]; exact hzk
                have HSTP : Hid (stopL kn cur 0 gs (guards.map pairZ) = stopL kn cur (stopStep s (decG kn r z cur)) (gs.drop (k + 1)) ((guards.map pairZ).drop (k + 1))) := by
                  have h := HKS.out; rw [stopL_step hrk hzk] at h; exact h
                have HVX := Lib.hid (HV5.out.ext HBX.out)
                obtain ⟨g', cap', hv', hck⟩ := HVX.out.cell hpv
                cases hv'
                obtain ⟨hnk, hsk⟩ := HVX.out.rows.2 k pv z hpv hzk1
                have hzle : cur ≤ z.length := HLE.out z (List.mem_of_getElem? hzk1)
                obtain ⟨q9, hq9, hrq9, hn9, hd9, h09, _, hl9⟩ := miss_parts (HGF.out r (List.mem_of_getElem? hrk))
                have hbwx := ext_trans hbw2 HVX.out.low
                obtain ⟨bq, oq, rfl, hcs⟩ := (HS.out.ext hbwx).elem (f := rtL) (fun _ => rfl) (by omega : 0 < 2) hrk
                have e0 := hcs 0 _ rfl
                have e1 := hcs 1 _ rfl
                rw [Nat.add_zero] at e0
                obtain ⟨rn, rd⟩ := r
                simp only at hn9 hd9 hrq9 e0 e1
                subst hn9 hd9
                obtain ⟨pva, pvn, pvc⟩ := pv
                simp only at hck hnk hsk
                subst hnk
                have HSK := Lib.hid hsk
                have hcapk := Nm.sl_caps hsk
                have HQ9 := Lib.hid (And.intro hq9 (And.intro h09 hl9))
                have HTK : Hid ((z.take cur).length = cur) := by
                  have : (z.take cur).length = cur := by rw [List.length_take]; omega
                  exact this
                have HSKX : Hid (Sl wr (.slice pva cur pvc) cur (ics (z.take cur))) := by
                  have h := Nm.sl_take HSK.out hzle
                  rw [take_ics] at h; exact h
                have hA7 := hA6.ext HBX.out
                have j0 : (0 : Int) ≤ (cur : Int) := Int.natCast_nonneg _
                have j1 : (cur : Int) ≤ (pvc : Int) := by omega
                have j2 : (k : Int) < (svs.length : Int) := by omega
                have j3 : (0 : Int) ≤ (k : Int) := Int.natCast_nonneg _
                have j4 : (k : Int) < (gs.length : Int) := by omega
                obtain ⟨hh, HH⟩ : ∃ hh, Hid (decAt (decB 2 kn q9⁻¹) 0 0 0 (z.take cur) = hh) := ⟨_, rfl⟩
                have HHG : Hid (decG kn ⟨showN q9, showD q9⟩ z cur = hh) := by
                  have h := HH.out
                  rw [← hrq9] at h
                  exact h
                rw [HHG.out] at HSTP
                have HTX := Lib.hid (HT0.out.ext hbwx)
                obtain ⟨oz, hoz⟩ : ∃ x, oq + k * 2 = x := ⟨_, rfl⟩
                rw [hoz] at e0 e1
                have ez0 : wr.cell? ⟨bq, oz, none⟩ = some (.string (showN q9)) := e0
                have ez1 : wr.cell? ⟨bq, oz + 1, none⟩ = some (.string (showD q9)) := e1
                clear hcs hrk hpv hzk hzk1 hsk HKS hq9 hrq9 h09 hl9 HSK hlg9
                go_upto_region 24 with (fail)
                clear hck
                have p1 : wr.cell? ⟨w.heap.size, 1, none⟩ = some (.int .i64 (kn : Int)) := hA7.2 1
                have p4 : wr.cell? ⟨w.heap.size, 4, none⟩ = some (.slice (some ⟨bq, oq, none⟩) gs.length pc) := hA7.2 4
                go_wp2_with fail
                clear p1 p4
                go_region_held3 (SD wr w.heap.size #[Value.int .i64 (pn : Int), Value.int .i64 (kn : Int), Value.string (showN q), Value.string (showD q), Value.slice (some ⟨bq, oq, none⟩) gs.length pc] bq oz (.string (showN q9)) (.string (showD q9))) (first | exact SD.start hA7 ez0 ez1 | exact SD.ext (by with_reducible assumption) (by with_reducible assumption) hA7 | assumption) (first | (go_at_call 118; refine (decided_is9 2 (by decide) (by decide) kn hk1 hk5 q9 HQ9.out.1 HQ9.out.2.1 HQ9.out.2.2 (z.take cur) cur hh HTK.out HH.out pva pvc _ (HSKX.out.ext (Below.refl wr.heap.size wr).drew) hc60 (HTX.out.ext (Below.refl wr.heap.size wr).drew)).mono ?_; rintro e w8 ⟨rfl, hb8⟩; have hc8 := Lib.hid (ext_trans (Below.refl wr.heap.size wr).drew hb8)))
                have HB8 := Lib.hid (ext_trans HBX.out hc8.out)
                clear j0 j1 hA7 ez0 ez1 e0 e1
                have hhN : 0 ≤ (hh : Int) := Int.natCast_nonneg _
                by_cases h0 : hh = 0
                · have HNX : Hid (stopL kn cur 0 gs (guards.map pairZ) = stopL kn cur s (gs.drop (k + 1)) ((guards.map pairZ).drop (k + 1))) := by
                    have h := HSTP.out
                    rw [show stopStep s hh = s by unfold stopStep; rw [if_neg (by omega)]] at h
                    exact h
                  have hg1 : decide ((0 : Int) < (hh : Int)) = false := decide_eq_false (by omega)
                  clear HSTP
                  go_wp2
                  go_roundw
                  case rel => exact ⟨k + 1, s, by omega, by go_num, rfl, HNX, HB8⟩
                  case measure => simp [intOf]; omega
                · have hg1 : decide ((0 : Int) < (hh : Int)) = true := decide_eq_true (by omega)
                  by_cases hs0 : s = 0
                  · have HNX : Hid (stopL kn cur 0 gs (guards.map pairZ) = stopL kn cur hh (gs.drop (k + 1)) ((guards.map pairZ).drop (k + 1))) := by
                      have h := HSTP.out
                      rw [show stopStep s hh = hh by unfold stopStep; rw [if_pos ⟨by omega, .inl hs0⟩]] at h
                      exact h
                    have hg2 : ((s : Int) == 0) = true := by rw [hs0]; rfl
                    clear HSTP hs0
                    go_wp2
                    go_roundw
                    case rel => exact ⟨k + 1, hh, by omega, by go_num, rfl, HNX, HB8⟩
                    case measure => simp [intOf]; omega
                  · have hg2 : ((s : Int) == 0) = false := beq_eq_false_iff_ne.2 (by omega)
                    by_cases hhs : hh < s
                    · have HNX : Hid (stopL kn cur 0 gs (guards.map pairZ) = stopL kn cur hh (gs.drop (k + 1)) ((guards.map pairZ).drop (k + 1))) := by
                        have h := HSTP.out
                        rw [show stopStep s hh = hh by unfold stopStep; rw [if_pos ⟨by omega, .inr hhs⟩]] at h
                        exact h
                      have hg3 : (hh : Int) < (s : Int) := by omega
                      clear HSTP hs0
                      go_wp2
                      go_roundw
                      case rel => exact ⟨k + 1, hh, by omega, by go_num, rfl, HNX, HB8⟩
                      case measure => simp [intOf]; omega
                    · have HNX : Hid (stopL kn cur 0 gs (guards.map pairZ) = stopL kn cur s (gs.drop (k + 1)) ((guards.map pairZ).drop (k + 1))) := by
                        have h := HSTP.out
                        rw [show stopStep s hh = s by unfold stopStep; rw [if_neg (by omega)]] at h
                        exact h
                      have hg3 : decide ((hh : Int) < (s : Int)) = false := decide_eq_false (by omega)
                      have hg4 : decide (hh < s) = false := decide_eq_false hhs
                      clear HSTP hs0
                      go_wp2
                      go_roundw
                      case rel => exact ⟨k + 1, s, by omega, by go_num, rfl, HNX, HB8⟩
                      case measure => simp [intOf]; omega
              · have hkg : k = svs.length := by omega
                subst hkg
                have HSTOP : Hid (stopL kn cur 0 gs (guards.map pairZ) = s) := by
                  have h := HKS.out
                  rw [List.drop_eq_nil_of_le (by rw [HLG.out]; exact Nat.le_refl _)] at h
                  exact h
                have HANS2 : Hid (verA (pn : Int) (kn : Int) (showN q) (showD q) gs goal guards = (verdV t s cur pn, verdN t s)) := by
                  have h := HANS.out
                  rw [HN0.out, HSTOP.out, show shipN kn (showN q) (showD q) Z cur = t from (by unfold shipN; rw [HRQ.out]; exact HT.out)] at h
                  exact h
                have HBF := Lib.hid (ext_trans (ext_trans hbw2 hbL5) HBX.out)
                have hA9 := hA6.ext HBX.out
                have tP : wr.cell? ⟨w.heap.size, 0, none⟩ = some (.int .i64 (pn : Int)) := hA9.2 0
                clear hA9 HKS
                by_cases hs0 : 0 < s
                · have g1 : decide ((0 : Int) < (s : Int)) = true := decide_eq_true (by omega)
                  by_cases ht0 : t = 0
                  · have g2 : ((t : Int) == 0) = true := by rw [ht0]; rfl
                    have HA1 : Hid (verdV t s cur pn = 3 ∧ verdN t s = s) := by
                      have h : verdV t s cur pn = 3 ∧ verdN t s = s := by unfold verdV verdN; rw [if_pos ⟨hs0, .inl ht0⟩, if_pos ⟨hs0, .inl ht0⟩]; exact ⟨rfl, rfl⟩
                      exact h
                    go_wp2
                    go_ret3
                    refine ⟨?_, HBF.out⟩
                    rw [HFIN0.out, HANS2.out]
                    exact ret_three HA1.out.1.symm HA1.out.2.symm rfl
                  · have g2 : ((t : Int) == 0) = false := beq_eq_false_iff_ne.2 (by omega)
                    by_cases hst : s ≤ t
                    · have g3 : (s : Int) ≤ (t : Int) := by omega
                      have HA1 : Hid (verdV t s cur pn = 3 ∧ verdN t s = s) := by
                        have h : verdV t s cur pn = 3 ∧ verdN t s = s := by unfold verdV verdN; rw [if_pos ⟨hs0, .inr hst⟩, if_pos ⟨hs0, .inr hst⟩]; exact ⟨rfl, rfl⟩
                        exact h
                      go_wp2
                      go_ret3
                      refine ⟨?_, HBF.out⟩
                      rw [HFIN0.out, HANS2.out]
                      exact ret_three HA1.out.1.symm HA1.out.2.symm rfl
                    · have g3 : decide ((s : Int) ≤ (t : Int)) = false := decide_eq_false (by omega)
                      have g4 : decide (s ≤ t) = false := decide_eq_false hst
                      have g5 : decide ((0 : Int) < (t : Int)) = true := decide_eq_true (by omega)
                      have HX1 := Lib.hid (show ¬ (0 < s ∧ (t = 0 ∨ s ≤ t)) by omega)
                      have HX2 := Lib.hid (show 0 < t by omega)
                      have HA1 : Hid (verdV t s cur pn = 2 ∧ verdN t s = t) := by
                        have h : verdV t s cur pn = 2 ∧ verdN t s = t := by unfold verdV verdN; rw [if_neg HX1.out, if_neg HX1.out, if_pos HX2.out, if_pos HX2.out]; exact ⟨rfl, rfl⟩
                        exact h
                      go_wp2
                      go_ret3
                      refine ⟨?_, HBF.out⟩
                      rw [HFIN0.out, HANS2.out]
                      exact ret_three HA1.out.1.symm HA1.out.2.symm rfl
                · have g1 : decide ((0 : Int) < (s : Int)) = false := decide_eq_false (by omega)
                  have HX1 := Lib.hid (show ¬ (0 < s ∧ (t = 0 ∨ s ≤ t)) by omega)
                  by_cases ht0 : 0 < t
                  · have g5 : decide ((0 : Int) < (t : Int)) = true := decide_eq_true (by omega)
                    have HA1 : Hid (verdV t s cur pn = 2 ∧ verdN t s = t) := by
                      have h : verdV t s cur pn = 2 ∧ verdN t s = t := by unfold verdV verdN; rw [if_neg HX1.out, if_neg HX1.out, if_pos ht0, if_pos ht0]; exact ⟨rfl, rfl⟩
                      exact h
                    go_wp2
                    go_ret3
                    refine ⟨?_, HBF.out⟩
                    rw [HFIN0.out, HANS2.out]
                    exact ret_three HA1.out.1.symm HA1.out.2.symm rfl
                  · have g5 : decide ((0 : Int) < (t : Int)) = false := decide_eq_false (by omega)
                    by_cases hcp2 : cur = pn
                    · have g6 : ((cur : Int) == (pn : Int)) = true := by rw [hcp2]; simp
                      have HCP := Lib.hid hcp2
                      clear hcp2
                      have HA1 : Hid (verdV t s cur pn = 4 ∧ verdN t s = 0) := by
                        have h : verdV t s cur pn = 4 ∧ verdN t s = 0 := by unfold verdV verdN; rw [if_neg HX1.out, if_neg HX1.out, if_neg ht0, if_neg ht0, if_pos HCP.out]; exact ⟨rfl, rfl⟩
                        exact h
                      go_wp2
                      go_ret3
                      refine ⟨?_, HBF.out⟩
                      rw [HFIN0.out, HANS2.out]
                      exact ret_three HA1.out.1.symm HA1.out.2.symm rfl
                    · have g6 : ((cur : Int) == (pn : Int)) = false := beq_eq_false_iff_ne.2 (by omega)
                      have HA1 : Hid (verdV t s cur pn = 1 ∧ verdN t s = 0) := by
                        have h : verdV t s cur pn = 1 ∧ verdN t s = 0 := by unfold verdV verdN; rw [if_neg HX1.out, if_neg HX1.out, if_neg ht0, if_neg ht0, if_neg hcp2]; exact ⟨rfl, rfl⟩
                        exact h
                      go_wp2
                      go_ret3
                      refine ⟨?_, HBF.out⟩
                      rw [HFIN0.out, HANS2.out]
                      exact ret_three HA1.out.1.symm HA1.out.2.symm rfl
          · have hneg : ((svs.length : Int) != (gs.length : Int)) = true := by rw [bne_iff_ne]; omega
            have HFIN : Hid (verF (pn : Int) (kn : Int) (showN q) (showD q) gs goal guards = 3) := by
              have h := HVF2.out
              rw [if_pos (by rw [← HLEN.out]; exact hlg)] at h
              exact h
            have HV0 := Lib.hid (verA_no HFIN.out (by decide))
            clear hlg
            go_wp2
            go_ret3
            refine ⟨?_, ext_trans hbw2 HBW.out⟩
            rw [HFIN.out, HV0.out]; rfl
    · have hne2 : (pairF goal != 0) = true := by simp [hp]
      have HFIN : Hid (verF (pn : Int) (kn : Int) (showN q) (showD q) gs goal guards = pairF goal) := by
        have h := HVF.out
        rw [if_pos hp] at h
        exact h
      have HV0 := Lib.hid (verA_no HFIN.out hp)
      clear hp HS4 HVF
      go_wp2
      go_ret3
      refine ⟨?_, hbw2⟩
      rw [HFIN.out, HV0.out]; rfl
  · have hne : (planF P K n m gs != 0) = true := by simp [hpf]
    have HFIN : Hid (verF P K n m gs goal guards = planF P K n m gs) := by
      have : verF P K n m gs goal guards = planF P K n m gs := by unfold verF; rw [if_pos hpf]
      exact this
    have HV0 := Lib.hid (verA_no HFIN.out hpf)
    clear hpf
    go_wp2
    go_ret3
    refine ⟨?_, hbw1⟩
    rw [HFIN.out, HV0.out]; rfl
end Nt
end Go.Proofs.YtmnmepbljegjeaaGreatDoor
