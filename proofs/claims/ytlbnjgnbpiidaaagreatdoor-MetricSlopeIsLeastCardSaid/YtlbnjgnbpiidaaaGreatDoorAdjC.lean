/- Adjust of package metric. Printed by gen_adjc.py. -/
import Derived.Test.YtlbnjgnbpiidaaaGreatDoorB835
import Derived.Test.YtlbnjgnbpiidaaaGreatDoorB836
import Derived.Test.YtlbnjgnbpiidaaaGreatDoorGrowF
namespace Go.Proofs.YtlbnjgnbpiidaaaGreatDoor
open Go.RowKit
namespace Nm
open _root_.Go.Proofs.YtlbnjgnbpiidaaaGreatDoor.Nt (RH RH.cell RH.box RH.row RH.lt RH.new RH.ext RH.fre RH.set RH.other RH.row_other store_cells)

/-- sums of the arms, field by field -/
def aS (f : Q5 → Rat) : List Arm → Rat
 | [] => 0
 | a :: r => f a.q + aS f r
theorem aS_app (f : Q5 → Rat) : ∀ (l : List Arm) (a : Arm), aS f (l ++ [a]) = aS f l + f a.q
 | [], a => by simp only [List.nil_append, aS]; grind
 | b :: r, a => by have h := aS_app f r a; simp only [List.cons_append, aS, h]; grind
theorem aS_take (f : Q5 → Rat) {l : List Arm} {k : Nat} (h : k < l.length) : aS f (l.take (k + 1)) = aS f (l.take k) + f l[k].q := by rw [List.take_succ_eq_append_getElem h, aS_app]
theorem aS_y : ∀ l : List Arm, aS (fun q => q.y) l = aY l
 | [] => rfl
 | a :: r => by simp only [aS, aY, aS_y r]
theorem aN_take {l : List Arm} {k : Nat} (h : k < l.length) : aN (l.take (k + 1)) = aN (l.take k) + l[k].n := by rw [List.take_succ_eq_append_getElem h, aN_app]
def aQ (l : List Arm) : Q5 := ⟨aS (fun q => q.x) l, aS (fun q => q.y) l, aS (fun q => q.xx) l, aS (fun q => q.yy) l, aS (fun q => q.xy) l⟩
theorem aS_ok {f : Q5 → Rat} (hf : ∀ q, QL q → Ln 100 0 (f q)) {l : List Arm} (hl : ArmsOk l) : ∀ k, k ≤ l.length → Ln (101 + k) 0 (aS f (l.take k))
 | 0, _ => (Ln.nat (n := 0) (a := 101) (Nat.zero_le _))
 | k + 1, h => by
  have ho := hl.ok _ (List.getElem_mem (show k < l.length by omega))
  rw [aS_take f (by omega)]; exact (Ln.add (aS_ok hf hl k (by omega)) (hf _ ho.2)).mono (by omega) (by omega)
theorem aQ_qs {l : List Arm} (hl : ArmsOk l) {k : Nat} (hk : k ≤ l.length) : QS (aQ (l.take k)) := by
 have h1 := hl.len
 exact ⟨(aS_ok (fun _ h => h.x) hl k hk).sm (by omega) (by omega), (aS_ok (fun _ h => h.y) hl k hk).sm (by omega) (by omega), (aS_ok (fun _ h => h.xx) hl k hk).sm (by omega) (by omega), (aS_ok (fun _ h => h.yy) hl k hk).sm (by omega) (by omega), (aS_ok (fun _ h => h.xy) hl k hk).sm (by omega) (by omega)⟩
theorem aN_ok {l : List Arm} (hl : ArmsOk l) : ∀ k, k ≤ l.length → (k : Int) ≤ aN (l.take k) ∧ aN (l.take k) ≤ 20000 * (k : Int)
 | 0, _ => by simp [aN]
 | k + 1, h => by
  have ho := hl.ok _ (List.getElem_mem (show k < l.length by omega))
  have := aN_ok hl k (by omega)
  rw [aN_take (by omega)]; omega
/-- an estimate -/
structure EV where
 n : Int
 m : Rat
 v : Rat
def evL (e : EV) : List Value := [.int .i64 e.n, .string (showN e.m), .string (showD e.m), .string (showN e.v), .string (showD e.v)]
def ajV (k : Rat) (n : Int) (q : Q5) : Rat := ((spA n q - ((2 : Int) : Rat) * k * spC n q) + k * k * spB n q) / (((n - 1 : Int) : Rat) * ((n : Int) : Rat))
def ajE (k mid : Rat) (a : Arm) : EV := ⟨a.n, adM k mid a, ajV k a.n a.q⟩
def mdQ (l : List Arm) : Rat := aY l / ((aN l : Int) : Rat)
def ajL (l : List Arm) : List EV := l.map (ajE (slQ l) (mdQ l))
def ajsL (l : List MV) : List EV := if raF 2 l ≠ 0 then [] else ajL (armL l)
theorem et_info : (Tryz.prog.info? 33).map (fun i => (i.zero, i.size, i.bytes)) = some (some (.agg #[.int .i64 0, .string ⟨#[]⟩, .string ⟨#[]⟩, .string ⟨#[]⟩, .string ⟨#[]⟩]), 5, 72) := by kernel_rfl
/-- estimates made so far -/
structure EO (w wr : World) (l : List Arm) (v : Value) (k : Nat) : Prop where
 low : Below w.heap.size w wr
 own : wr.ownsRow w.heap.size 33 5 v k (((ajL l).take k).flatMap evL)
theorem EO.ext {w wr w' : World} {l : List Arm} {v : Value} {k : Nat} (h : EO w wr l v k) (hb : Below wr.heap.size wr w') : EO w w' l v k := ⟨ext_trans h.low hb, ownsRow_ext h.own hb⟩
theorem EO.push {w wr w' : World} {l : List Arm} {v v' : Value} {k : Nat} {e : EV} (h : EO w wr l v k) (he : (ajL l)[k]? = some e) (hown : w'.ownsRow w.heap.size 33 5 v' (k + 1) (((ajL l).take k).flatMap evL ++ evL e)) (hg : wr.grownBy w' v.ownBlock) : EO w w' l v' (k + 1) := by
 have lt : ∀ q, v.ownBlock = some q → w.heap.size ≤ q := fun q e => (h.own.lt q e).1
 obtain ⟨hk, e⟩ := List.getElem?_eq_some_iff.1 he
 refine ⟨h.low.grown hg h.low.size lt, ?_⟩
 rw [List.take_succ_eq_append_getElem hk, List.flatMap_append, e]
 simpa using hown
def AjPost (w : World) (l : List MV) (e : Ending) (w' : World) : Prop := ∃ a c, e = .returned (.tuple #[.slice a (ajsL l).length c, .int .i64 (raF 2 l)]) ∧ Sl w' (.slice a (ajsL l).length c) (ajsL l).length ((ajsL l).flatMap evL) ∧ Below w.heap.size w w'
theorem AjPost.bad {w w' : World} {l : List MV} {f : Int} (h : raF 2 l = f) (hf : f ≠ 0) (hb : Below w.heap.size w w') : AjPost w l (.returned (.tuple #[.slice none 0 0, .int .i64 f])) w' := by
 have e : ajsL l = [] := by unfold ajsL; rw [if_pos (by rw [h]; exact hf)]
 refine ⟨none, 0, by rw [e, h]; rfl, ?_, hb⟩
 rw [e]; exact Sl.nil _
set_option maxRecDepth 100000 in
set_option maxHeartbeats 16000000 in
theorem adjM_at (l : List MV) (a : Option Addr) (c : Nat) (w : World) (hs : Sl w (.slice a l.length c) l.length (l.flatMap mnL)) (hok : ∀ m ∈ l, m.r.ok) : Calls Tryz.prog 7 #[.slice a l.length c] w (AjPost w l) := by
 have HS := Lib.hid hs
 have HKO := Lib.hid hok
 have HI := Lib.hid et_info
 clear hs hok
 go_enter Tryz.func7, Tryz.ntmps7
 have HW : Hid (Below w.heap.size w w) := Lib.hid (Below.refl _ _)
 go_wp2_with fail
 refine (readAllM_at l a c w (HS.out.ext HW.out) HKO.out).mono ?_
 rintro e w1' ⟨ra, rc, ss, rfl, hss, hbz⟩
 replace HW := Lib.hid (ext_trans HW.out hbz)
 clear hbz
 by_cases hz : raF 1 l = 0
 ·have hne2 : (raF 1 l != 0) = false := by simp [hz]
  have HZ := Lib.hid hz
  have HSO := Lib.hid (hss hz)
  have HAO := Lib.hid (arms_ok (Int.le_refl 1) hz)
  have HP2 := Lib.hid (ra_two hz)
  clear hz hss
  have HFEW : Hid (ssAny (fun n => decide (n < 2)) ss = fewL 2 l) := Lib.hid (ssAny_few HSO.out (fun m _ => rfl))
  obtain ⟨bb, hbb⟩ : ∃ b, ssAny (fun n => decide (n < 2)) ss = b := ⟨_, rfl⟩
  have HBB := Lib.hid hbb
  clear hbb
  go_wp2_with fail
  refine (contains_at 26 (enters_of Tryz.func26 (by kernel_rfl) rfl) (fun n => decide (n < 2)) (fun n b hb t w => two_at n b hb t w) ss ra rc w1' HSO.out.sl).mono ?_
  rintro e w2' ⟨rfl, hbz⟩
  rw [HBB.out]
  replace HSO := Lib.hid (HSO.out.ext hbz)
  replace HW := Lib.hid (ext_trans HW.out hbz)
  clear hbz
  cases bb
  ·have HP : Hid (raF 2 l = 0) := Lib.hid (by rw [HP2.out, if_neg (by rw [← HFEW.out, HBB.out]; decide)])
   have HFW : Hid (fewL 2 l = false) := Lib.hid (by rw [← HFEW.out, HBB.out])
   have HSS := Lib.hid HSO.out.arms
   clear HSO HP2 HFEW HBB
   have HLL : Hid (ajsL l = ajL (armL l)) := Lib.hid (by unfold ajsL; rw [if_neg (fun h => h HP.out)])
   have HN2 : Hid (∀ a ∈ armL l, 2 ≤ a.n) := Lib.hid (fun a ha => by
    obtain ⟨m, hm, rfl⟩ := List.mem_map.1 ha
    exact fewL_no HFW.out m hm)
   have HLP : Hid (0 < (armL l).length) := Lib.hid (by unfold armL; rw [List.length_map]; exact (ra_parts HP.out).1.1)
   clear HFW HZ HS HKO
   have HPO : Hid (∀ (a9 : Option Addr) (c9 : Nat) (W9 : World), Sl W9 (.slice a9 ss.length c9) ss.length ((ajL (armL l)).flatMap evL) → Below w2'.heap.size w2' W9 → AjPost w l (.returned (.tuple #[.slice a9 ss.length c9, .int .i64 0])) W9) := Lib.hid (fun a9 c9 W9 h1 h2 => by
    have e1 : (ajL (armL l)).length = ss.length := by unfold ajL; rw [List.length_map]; exact HSS.out.len.symm
    refine ⟨a9, c9, by rw [HLL.out, HP.out, e1], ?_, ext_trans HW.out h2⟩
    rw [HLL.out, e1]; exact h1)
   clear HLL HP HW
   replace HAO : Hid (ArmsOk (armL l)) := HAO
   generalize armL l = al at *
   have HOK := HAO
   clear HAO
   have HLS := Lib.hid HSS.out.len
   have HW : Hid (Below w2'.heap.size w2' w2') := Lib.hid (Below.refl _ _)
   have HAN : Hid (SsA w2' al ss ra rc) := HSS
   obtain ⟨kq, h9⟩ : ∃ z : Rat, slQ al = z := ⟨_, rfl⟩
   have E_kq := Lib.hid h9
   have N_kq : Hid (Ln 422 422 kq) := Lib.hid (by rw [← h9]; exact (sl_ln HOK.out).mono (by omega) (by omega))
   clear h9
   go_wp2_with fail
   refine (slope_at al HOK.out ss ra rc w2' HSS.out).mono ?_
   rintro e w3' ⟨v1, rfl, hv1, hbz⟩
   obtain ⟨tk, rfl, hxk⟩ := hv1.y3
   clear hv1
   rw [E_kq.out] at hxk
   replace HSS := Lib.hid (HSS.out.ext hbz)
   replace HW := Lib.hid (ext_trans HW.out hbz)
   clear hbz
   have HXk : Hid (XR w3' (y3V tk) kq) := Lib.hid hxk
   clear hxk
   go_upto_region 7 with (fail)
   refine wp_rows1 fun w4' hbz hR0 => ?_
   have le_k : w2'.heap.size ≤ w3'.heap.size := HW.out.size
   replace HSS := Lib.hid (HSS.out.ext hbz)
   replace HXk := Lib.hid (HXk.out.ext hbz)
   replace HW := Lib.hid (ext_trans HW.out hbz)
   clear hbz
   have HR_k : Hid (RH w4' w3'.heap.size #[.bool tk.b, .slice tk.a1 tk.n1 tk.c1, .slice tk.a2 tk.n2 tk.c2] 52) := Lib.hid hR0
   clear hR0
   generalize w3'.heap.size = b_k at *
   go_wp2_with fail
   refine (none_at 0 rfl w4').mono ?_
   rintro e w5' ⟨t0, rfl, hx0, hbz⟩
   replace HR_k := Lib.hid (HR_k.out.ext hbz)
   replace HSS := Lib.hid (HSS.out.ext hbz)
   replace HXk := Lib.hid (HXk.out.ext hbz)
   replace HW := Lib.hid (ext_trans HW.out hbz)
   clear hbz
   have HXt : Hid (SX w5' t0 ⟨0, 0, 0, 0, 0⟩) := Lib.hid hx0
   clear hx0
   have hsz : (smA (0) t0).size = 16 := rfl
   have hsc := run_storeCells_new (P := Tryz.prog) w5' 59 #[.int .i64 0, .bool false, .slice none 0 0, .slice none 0 0, .bool false, .slice none 0 0, .slice none 0 0, .bool false, .slice none 0 0, .slice none 0 0, .bool false, .slice none 0 0, .slice none 0 0, .bool false, .slice none 0 0, .slice none 0 0] (smA (0) t0) (sm_info _ _) rfl (sm_all _ _)
   go_upto_region 8 with (fail)
   clear hsc hsz
   refine wp_rows1 fun w6' hbz hR0 => ?_
   have lt_k_t : b_k < w5'.heap.size := HR_k.out.lt
   have le_t : w2'.heap.size ≤ w5'.heap.size := HW.out.size
   replace HR_k := Lib.hid (HR_k.out.ext hbz)
   replace HSS := Lib.hid (HSS.out.ext hbz)
   replace HXk := Lib.hid (HXk.out.ext hbz)
   replace HXt := Lib.hid (HXt.out.ext hbz)
   replace HW := Lib.hid (ext_trans HW.out hbz)
   clear hbz
   have HR_t : Hid (RH w6' w5'.heap.size (smA (0) t0) 59) := Lib.hid hR0
   clear hR0
   generalize w5'.heap.size = b_t at *
   clear HSS
   replace HXt : Hid (SX w6' t0 (aQ (al.take 0))) := HXt
   go_wp2
   go_loopw [37] (fun i wr => ∃ (k : Nat) (t : Y5), k ≤ ss.length ∧ i = .int .i64 (k : Int) ∧ (RH wr b_k #[.bool tk.b, .slice tk.a1 tk.n1 tk.c1, .slice tk.a2 tk.n2 tk.c2] 52) ∧ (RH wr b_t (smA (aN (al.take k)) t) 59) ∧ (XR wr (y3V tk) kq) ∧ (SX wr t (aQ (al.take k))) ∧ (Below w2'.heap.size w2' wr)) (fun i _ => ss.length - (intOf i).toNat)
   case atStart => exact ⟨0, t0, by omega, rfl, HR_k.out, HR_t.out, HXk.out, HXt.out, HW.out⟩
   case round =>
    obtain ⟨k, t, hk, rfl, q_HR_k, q_HR_t, q_HXk, q_HXt, q_HW⟩ := hrel
    clear HR_k HR_t HXk HXt HW
    have HR_k := Lib.hid q_HR_k
    have HR_t := Lib.hid q_HR_t
    have HXk := Lib.hid q_HXk
    have HXt := Lib.hid q_HXt
    have HW := Lib.hid q_HW
    clear q_HR_k q_HR_t q_HXk q_HXt q_HW
    generalize hX : wr = X at *
    clear hX
    have hsl : ss.length ≤ 20 := by have h1 := HOK.out.len; have h2 := HLS.out; omega
    by_cases hlt : k < ss.length
    ·have HSS := Lib.hid (HAN.out.ext HW.out)
     have hgk := List.getElem?_eq_getElem hlt
     have hal : k < al.length := by rw [← HSS.out.len]; exact hlt
     have HM := Lib.hid (HSS.out.ok k _ _ hgk (List.getElem?_eq_getElem hal))
     have HAK := Lib.hid (HOK.out.ok _ (List.getElem_mem hal))
     have HTN := Lib.hid (aN_take hal)
     have HTQ : Hid ((aQ (al.take k)).x + al[k].q.x = (aQ (al.take (k + 1))).x ∧ (aQ (al.take k)).y + al[k].q.y = (aQ (al.take (k + 1))).y ∧ (aQ (al.take k)).xx + al[k].q.xx = (aQ (al.take (k + 1))).xx ∧ (aQ (al.take k)).yy + al[k].q.yy = (aQ (al.take (k + 1))).yy ∧ (aQ (al.take k)).xy + al[k].q.xy = (aQ (al.take (k + 1))).xy) := Lib.hid ⟨(aS_take _ hal).symm, (aS_take _ hal).symm, (aS_take _ hal).symm, (aS_take _ hal).symm, (aS_take _ hal).symm⟩
     have HNB := Lib.hid (aN_ok HOK.out k (by omega))
     have HQS := Lib.hid (aQ_qs HOK.out (show k ≤ al.length by omega))
     generalize al[k] = ar at *
     obtain ⟨an, aq⟩ := ar
     generalize ss[k] = sn at *
     obtain ⟨sn_, st⟩ := sn
     obtain ⟨pb, po, hp9, hcs⟩ := (HSS.out.sl).elem (f := snL) (fun _ => rfl) (by omega : 0 < 16) hgk
     subst hp9
     have e0 : X.cell? ⟨pb, po + k * 16, none⟩ = some (.int .i64 (sn_)) := hcs 0 _ rfl
     have e1 : X.cell? ⟨pb, po + k * 16 + 1, none⟩ = some (.bool st.x.b) := hcs 1 _ rfl
     have e2 : X.cell? ⟨pb, po + k * 16 + 2, none⟩ = some (.slice st.x.a1 st.x.n1 st.x.c1) := hcs 2 _ rfl
     have e3 : X.cell? ⟨pb, po + k * 16 + 3, none⟩ = some (.slice st.x.a2 st.x.n2 st.x.c2) := hcs 3 _ rfl
     have e4 : X.cell? ⟨pb, po + k * 16 + 4, none⟩ = some (.bool st.y.b) := hcs 4 _ rfl
     have e5 : X.cell? ⟨pb, po + k * 16 + 5, none⟩ = some (.slice st.y.a1 st.y.n1 st.y.c1) := hcs 5 _ rfl
     have e6 : X.cell? ⟨pb, po + k * 16 + 6, none⟩ = some (.slice st.y.a2 st.y.n2 st.y.c2) := hcs 6 _ rfl
     have e7 : X.cell? ⟨pb, po + k * 16 + 7, none⟩ = some (.bool st.xx.b) := hcs 7 _ rfl
     have e8 : X.cell? ⟨pb, po + k * 16 + 8, none⟩ = some (.slice st.xx.a1 st.xx.n1 st.xx.c1) := hcs 8 _ rfl
     have e9 : X.cell? ⟨pb, po + k * 16 + 9, none⟩ = some (.slice st.xx.a2 st.xx.n2 st.xx.c2) := hcs 9 _ rfl
     have e10 : X.cell? ⟨pb, po + k * 16 + 10, none⟩ = some (.bool st.yy.b) := hcs 10 _ rfl
     have e11 : X.cell? ⟨pb, po + k * 16 + 11, none⟩ = some (.slice st.yy.a1 st.yy.n1 st.yy.c1) := hcs 11 _ rfl
     have e12 : X.cell? ⟨pb, po + k * 16 + 12, none⟩ = some (.slice st.yy.a2 st.yy.n2 st.yy.c2) := hcs 12 _ rfl
     have e13 : X.cell? ⟨pb, po + k * 16 + 13, none⟩ = some (.bool st.xy.b) := hcs 13 _ rfl
     have e14 : X.cell? ⟨pb, po + k * 16 + 14, none⟩ = some (.slice st.xy.a1 st.xy.n1 st.xy.c1) := hcs 14 _ rfl
     have e15 : X.cell? ⟨pb, po + k * 16 + 15, none⟩ = some (.slice st.xy.a2 st.xy.n2 st.xy.c2) := hcs 15 _ rfl
     have hk0 : (0 : Int) ≤ (k : Int) := Int.natCast_nonneg _
     have hk1 : (k : Int) < (ss.length : Int) := by omega
     have hk3 : (k : Int).toNat = k := by omega
     clear hcs hgk
     obtain rfl : sn_ = an := HM.out.1
     have hn0 : 1 ≤ sn_ := HAK.out.1.1
     have hn1 : sn_ ≤ 20000 := HAK.out.1.2
     clear HSS
     obtain ⟨na, hna⟩ : ∃ z, aN (al.take k) = z := ⟨_, rfl⟩
     obtain ⟨nb, hnb⟩ : ∃ z, aN (al.take (k + 1)) = z := ⟨_, rfl⟩
     obtain ⟨pq, hpq⟩ : ∃ z, aQ (al.take k) = z := ⟨_, rfl⟩
     obtain ⟨rq, hrq⟩ : ∃ z, aQ (al.take (k + 1)) = z := ⟨_, rfl⟩
     rw [hna] at HR_t HTN HNB
     rw [hnb] at HTN
     rw [hpq] at HXt HTQ HQS
     rw [hrq] at HTQ
     have HEN : Hid (IntKind.i64.wrap (na + sn_) = nb) := Lib.hid (by have h1 := HNB.out; rw [HTN.out]; exact IntWalk.i64_in _ (by constructor <;> omega))
     have HLQ := Lib.hid (And.intro hnb hrq)
     clear hna hnb hpq hrq HTN
     have HX : Hid (SX X st aq) := Lib.hid (HM.out.2)
     go_upto_region 11 with (fail)
     refine wp_rows1 fun w7' hbz hR0 => ?_
     have lt_k_s : b_k < X.heap.size := HR_k.out.lt
     have lt_t_s : b_t < X.heap.size := HR_t.out.lt
     have le_s : w2'.heap.size ≤ X.heap.size := HW.out.size
     replace HR_k := Lib.hid (HR_k.out.ext hbz)
     replace HR_t := Lib.hid (HR_t.out.ext hbz)
     replace HXk := Lib.hid (HXk.out.ext hbz)
     replace HXt := Lib.hid (HXt.out.ext hbz)
     replace HX := Lib.hid (HX.out.ext hbz)
     replace HW := Lib.hid (ext_trans HW.out hbz)
     clear e0 e1 e2 e3 e4 e5 e6 e7 e8 e9 e10 e11 e12 e13 e14 e15
     clear hbz
     have HR_s : Hid (RH w7' X.heap.size (smA (sn_) st) 59) := Lib.hid hR0
     clear hR0
     generalize X.heap.size = b_s at *
     go_wp2_with (first | (refine wpList_load_row rfl _ _ rfl b_t rfl _ (smA (na) t) _ _ HR_t.out Tryz.underlying59 rfl (sm_info _ _) ?_) | (refine wpList_load_row rfl _ _ rfl b_s rfl _ (smA (sn_) st) _ _ HR_s.out Tryz.underlying59 rfl (sm_info _ _) ?_))
     refine (sumsAdd_at na sn_ nb HEN.out pq aq rq HTQ.out t st w7' HXt.out HX.out HQS.out HAK.out.2.qs).mono ?_
     rintro e w8' ⟨t9, rfl, hx9, hbz⟩
     replace HR_k := Lib.hid (HR_k.out.ext hbz)
     replace HR_t := Lib.hid (HR_t.out.ext hbz)
     replace HR_s := Lib.hid (HR_s.out.ext hbz)
     replace HXk := Lib.hid (HXk.out.ext hbz)
     replace HXt := Lib.hid (HXt.out.ext hbz)
     replace HX := Lib.hid (HX.out.ext hbz)
     replace HW := Lib.hid (ext_trans HW.out hbz)
     clear hbz
     have HX9 : Hid (SX w8' t9 rq) := Lib.hid hx9
     clear hx9
     clear HX
     clear HXt
     clear HR_s
     go_upto_region 12 with (first | (refine wpList_store_row rfl _ _ _ rfl b_t (smA (nb) t9) rfl rfl _ _ HR_t.out (sm_info _ _) rfl (sm_all _ _) ?_))
     obtain ⟨w9', hX⟩ : ∃ Z9, Z9 = w8'.setRow b_t (smA (nb) t9) := ⟨_, rfl⟩
     rw [← hX]
     have n_t : Hid (RH w9' b_t (smA (nb) t9) 59) := by rw [hX]; exact Lib.hid (HR_t.out.row _)
     have n_k : Hid (RH w9' b_k #[.bool tk.b, .slice tk.a1 tk.n1 tk.c1, .slice tk.a2 tk.n2 tk.c2] 52) := by rw [hX]; exact Lib.hid (HR_k.out.row_other (show b_k ≠ b_t by omega) _)
     have HK_ : ∀ p : Addr, p.block ≠ b_t → w9'.cell? p = w8'.cell? p := fun p hp => by rw [hX]; exact cell_setRow_other _ _ _ p hp
     have n_HXk : Hid (XR w9' (y3V tk) kq) := Lib.hid (HXk.out.far HR_t.out.box (sm_nw _ _) HK_)
     have n_HX9 : Hid (SX w9' t9 rq) := Lib.hid (HX9.out.far HR_t.out.box (sm_nw _ _) HK_)
     have nW : Hid (Below w2'.heap.size w2' w9') := by rw [hX]; exact Lib.hid (below_setRow HW.out (show w2'.heap.size ≤ b_t by omega) _)
     clear hX HK_ HW HR_k HR_t HXk HX9
     have HR_k := n_k; clear n_k
     have HR_t := n_t; clear n_t
     have HXk := n_HXk; clear n_HXk
     have HX9 := n_HX9; clear n_HX9
     have HW := nW; clear nW
     rw [← HLQ.out.1] at HR_t
     rw [← HLQ.out.2] at HX9
     go_wp2
     go_roundw
     case rel => exact ⟨k + 1, t9, by omega, by go_num, HR_k.out, HR_t.out, HXk.out, HX9.out, HW.out⟩
     case measure => simp [intOf]; omega
    ·go_upto_region 13 with (fail)
     have hkl : k = al.length := by have h2 := HLS.out; omega
     rw [hkl, List.take_length] at HR_t HXt
     have HNA : Hid ((al.length : Int) ≤ aN al ∧ aN al ≤ 20000 * (al.length : Int)) := Lib.hid (by have h := aN_ok HOK.out al.length (Nat.le_refl _); rw [List.take_length] at h; exact h)
     have HYL : Hid (Ln 121 0 (aY al)) := Lib.hid (by have h := aS_ok (f := fun q => q.y) (fun _ h => h.y) HOK.out al.length (Nat.le_refl _); rw [List.take_length, aS_y] at h; exact h.mono (by have := HOK.out.len; omega) (by omega))
     clear hkl hk hlt
     obtain ⟨nt, hnt⟩ : ∃ z, aN al = z := ⟨_, rfl⟩
     have hntb : 1 ≤ nt ∧ nt ≤ 400000 := by have h1 := HNA.out; have h2 := HLP.out; have h3 := HOK.out.len; omega
     obtain ⟨yt, hyt⟩ : ∃ z, aY al = z := ⟨_, rfl⟩
     obtain ⟨nq, hnq⟩ : ∃ z : Rat, ((nt : Int) : Rat) = z := ⟨_, rfl⟩
     have N_nq : Hid (Ln 6 0 nq) := Lib.hid (by rw [← hnq]; exact Ln.int (z := nt) (a := 6) (by have h6 : (10 : Nat) ^ 6 = 1000000 := (by decide); omega))
     have HNZ : Hid (nq ≠ 0) := Lib.hid (by rw [← hnq]; exact n_ne (by omega))
     have HNQ := Lib.hid hnq
     have N_yt : Hid (Ln 121 0 yt) := Lib.hid (by rw [← hyt]; exact HYL.out)
     have HXY : Hid (XR X (y3V t.y) yt) := Lib.hid (by have h := HXt.out.y; rw [← hyt, ← aS_y]; exact h)
     rw [hnt] at HR_t
     have HEY := Lib.hid (And.intro hyt hnt)
     clear hyt hnt hnq HNA HYL HXt
     obtain ⟨mq, hmq⟩ : ∃ z : Rat, yt / nq = z := ⟨_, rfl⟩
     have E_mq := Lib.hid hmq
     have N_mq : Hid (Ln 121 6 mq) := Lib.hid (by rw [← hmq]; exact (Ln.div N_yt.out N_nq.out HNZ.out).mono (by omega) (by omega))
     have HMD : Hid (mdQ al = mq) := Lib.hid (by unfold mdQ; rw [HEY.out.1, HEY.out.2, HNQ.out]; exact hmq)
     clear hmq HEY
     obtain ⟨c_t_0, -, -, -, c_t_4, c_t_5, c_t_6, -, -, -, -, -, -, -, -, -⟩ := zs16 HR_t.out
     refine Grow.wp_region_grow 7 [TP.eq (.pointer (some ⟨b_t, 4, none⟩)), TP.eq (.agg #[.bool t.y.b, .slice t.y.a1 t.y.n1 t.y.c1, .slice t.y.a2 t.y.n2 t.y.c2]), TP.eq (.pointer (some ⟨b_t, 0, none⟩)), TP.eq (.int .i64 nt), TP.xq nq, TP.xq mq, TP.row X.heap.size zeroX 52] [[], [0], [], [2], [3], [1, 4], []] (by kernel_rfl) (by kernel_rfl) ⟨?o0m, ?o1m, ?o2m, ?o3m, ?o4m, ?o5m, ?o6m, trivial⟩ ?_
     case o0m | o2m =>
      intro w' hb
      show wpList _ _ _ _ _ _
      go_wp2
      exact ⟨rfl, Below.refl _ _, rfl⟩
     case o1m =>
      intro w' hb v1 hv1
      cases hv1
      have c_t_4' := zzc hb c_t_4
      have c_t_5' := zzc hb c_t_5
      have c_t_6' := zzc hb c_t_6
      show wpList _ _ _ _ _ _
      simp only [Grow.dstOf, zzp, Act.put]
      go_wp2
      exact ⟨rfl, Below.refl _ _, rfl⟩
     case o3m =>
      intro w' hb v1 hv1
      cases hv1
      have c_t_0' := zzc hb c_t_0
      show wpList _ _ _ _ _ _
      simp only [Grow.dstOf, zzp, Act.put]
      go_wp2
      exact ⟨rfl, Below.refl _ _, rfl⟩
     case o4m =>
      intro w' hb v1 hv1
      cases hv1
      show wpList _ _ _ _ _ _
      simp only [Grow.dstOf, zzp, Act.put]
      go_wp2_with fail
      refine (mwhole_is nt nq HNQ.out (by omega) (by omega) w').mono ?_
      rintro e wz ⟨vz, rfl, hxz, hbz⟩
      go_wp2
      exact ⟨hxz, hbz, rfl⟩
     case o5m =>
      intro w' hb v1 hv1 v2 hv2
      cases hv1
      have hv2' : XR w' v2 nq := hv2
      clear hv2
      show wpList _ _ _ _ _ _
      simp only [Grow.dstOf, zzp, Act.put]
      go_wp2_with fail
      refine (mover_is yt nq mq E_mq.out HNZ.out _ _ w' (HXY.out.ext hb) hv2' (N_yt.out.sm (by omega) (by omega)) (N_nq.out.sm (by omega) (by omega))).mono ?_
      rintro e wz ⟨vz, rfl, hxz, hbz⟩
      go_wp2
      exact ⟨hxz, hbz, rfl⟩
     case o6m =>
      intro w' hb
      show wpList _ _ _ _ _ _
      go_wp2
      exact ⟨⟨_, rfl, hb.size, RH.new _ _ _⟩, ext_alloc _ _, rfl⟩
     intro w7' hbz u0 hu0 u1 hu1 u2 hu2 u3 hu3 u4 hu4 u5 hu5 u6 hu6
     have hv9 : XR w7' u5 mq := hu5
     have hg9 : ∃ g, u6 = .pointer (some ⟨g, 0, none⟩) ∧ X.heap.size ≤ g ∧ RH w7' g zeroX 52 := hu6
     clear hu0 hu1 hu2 hu3 hu4 hu5 hu6
     obtain ⟨b_m, rfl, hgY, hRg⟩ := hg9
     have lt_k_m : b_k < b_m := Nat.lt_of_lt_of_le HR_k.out.lt hgY
     have lt_t_m : b_t < b_m := Nat.lt_of_lt_of_le HR_t.out.lt hgY
     have le_m : w2'.heap.size ≤ b_m := Nat.le_trans HW.out.size hgY
     clear hgY
     replace HR_k := Lib.hid (HR_k.out.ext hbz)
     replace HR_t := Lib.hid (HR_t.out.ext hbz)
     replace HXk := Lib.hid (HXk.out.ext hbz)
     replace HXY := Lib.hid (HXY.out.ext hbz)
     replace HW := Lib.hid (ext_trans HW.out hbz)
     clear c_t_0 c_t_4 c_t_5 c_t_6
     clear hbz
     obtain ⟨tm, rfl, hx9⟩ := hv9.y3
     clear hv9
     have HXm : Hid (XR w7' (y3V tm) mq) := Lib.hid (hx9)
     clear hx9
     have HR_m : Hid (RH w7' b_m #[.bool false, .slice none 0 0, .slice none 0 0] 52) := Lib.hid hRg
     clear hRg
     show wpList _ _ _ _ _ _
     simp only [Act.put, zzp]
     obtain ⟨c_m_0, c_m_1, c_m_2⟩ := zs3 HR_m.out
     have f_m_0 := HR_m.out.fre 0
     have f_m_1 := HR_m.out.fre 1
     have f_m_2 := HR_m.out.fre 2
     go_upto_region 14 with (fail)
     obtain ⟨w8', hX⟩ : ∃ Z9, Z9 = (((w7'.setCell ⟨b_m, 0, none⟩ (.bool tm.b)).setCell ⟨b_m, 1, none⟩ (.slice tm.a1 tm.n1 tm.c1)).setCell ⟨b_m, 2, none⟩ (.slice tm.a2 tm.n2 tm.c2)) := ⟨_, rfl⟩
     rw [← hX]
     have n_m : Hid (RH w8' b_m #[.bool tm.b, .slice tm.a1 tm.n1 tm.c1, .slice tm.a2 tm.n2 tm.c2] 52) := by rw [hX]; exact Lib.hid ((((HR_m.out).set 0 (.bool tm.b)).set 1 (.slice tm.a1 tm.n1 tm.c1)).set 2 (.slice tm.a2 tm.n2 tm.c2))
     have n_k : Hid (RH w8' b_k #[.bool tk.b, .slice tk.a1 tk.n1 tk.c1, .slice tk.a2 tk.n2 tk.c2] 52) := by rw [hX]; exact Lib.hid (zzo (zzo (zzo (HR_k.out) (by omega)) (by omega)) (by omega))
     have n_t : Hid (RH w8' b_t (smA (nt) t) 59) := by rw [hX]; exact Lib.hid (zzo (zzo (zzo (HR_t.out) (by omega)) (by omega)) (by omega))
     have HK_ : ∀ p : Addr, p.block ≠ b_m → w8'.cell? p = w7'.cell? p := fun p hp => by rw [hX]; exact (cs_other hp).trans ((cs_other hp).trans (cs_other hp))
     have n_HXk : Hid (XR w8' (y3V tk) kq) := Lib.hid (HXk.out.far HR_m.out.box (noW_all (by simp [isWord])) HK_)
     have n_HXY : Hid (XR w8' (y3V t.y) yt) := Lib.hid (HXY.out.far HR_m.out.box (noW_all (by simp [isWord])) HK_)
     have n_HXm : Hid (XR w8' (y3V tm) mq) := Lib.hid (HXm.out.far HR_m.out.box (noW_all (by simp [isWord])) HK_)
     have nW : Hid (Below w2'.heap.size w2' w8') := by rw [hX]; exact Lib.hid (zzw (zzw (zzw (HW.out) (by omega)) (by omega)) (by omega))
     clear c_m_0 c_m_1 c_m_2 f_m_0 f_m_1 f_m_2
     clear hX HK_ HW HR_k HR_t HR_m HXk HXY HXm
     have HR_k := n_k; clear n_k
     have HR_t := n_t; clear n_t
     have HR_m := n_m; clear n_m
     have HXk := n_HXk; clear n_HXk
     have HXY := n_HXY; clear n_HXY
     have HXm := n_HXm; clear n_HXm
     have HW := nW; clear nW
     clear HXY
     clear HR_t
     have HAM : Hid (SsA w8' al ss ra rc) := Lib.hid (HAN.out.ext HW.out)
     have HGL : Hid (∀ (i : Nat) (a : Arm), al[i]? = some a → (ajL al)[i]? = some (ajE kq mq a)) := Lib.hid (fun i a h => by unfold ajL; rw [List.getElem?_map, h, E_kq.out, HMD.out]; rfl)
     have HPF : Hid (∀ (a9 : Option Addr) (c9 : Nat) (W9 : World), Sl W9 (.slice a9 ss.length c9) ss.length ((ajL al).flatMap evL) → Below w8'.heap.size w8' W9 → _) := Lib.hid (fun a9 c9 W9 h1 h2 => HPO.out a9 c9 W9 h1 (ext_trans HW.out h2))
     clear HPO HW HAN
     have HEO : Hid (EO w8' w8' al (.slice none 0 0) 0) := Lib.hid ⟨Below.refl _ _, World.ownsRow_nil _ _ _ _⟩
     go_wp2
     go_loopw [11, 21, 53] (fun s _ i wr => ∃ k : Nat, k ≤ ss.length ∧ i = .int .i64 (k : Int) ∧ Hid (EO w8' wr al s k)) (fun _ _ i _ => ss.length - (intOf i).toNat)
     case atStart => exact ⟨0, by omega, rfl, HEO⟩
     case round =>
      clear HEO
      obtain ⟨k, hk, rfl, HEO⟩ := hrel
      generalize hX : wr = X at *
      clear hX
      have HW := Lib.hid HEO.out.low
      by_cases hlt : k < ss.length
      ·have n_HR_k := Lib.hid (HR_k.out.ext HW.out)
       clear HR_k
       have HR_k := n_HR_k
       clear n_HR_k
       have n_HR_m := Lib.hid (HR_m.out.ext HW.out)
       clear HR_m
       have HR_m := n_HR_m
       clear n_HR_m
       have n_HXk := Lib.hid (HXk.out.ext HW.out)
       clear HXk
       have HXk := n_HXk
       clear n_HXk
       have n_HXm := Lib.hid (HXm.out.ext HW.out)
       clear HXm
       have HXm := n_HXm
       clear n_HXm
       have HSS := Lib.hid (HAM.out.ext HW.out)
       have hsl : ss.length ≤ 20 := by have h1 := HOK.out.len; have h2 := HLS.out; omega
       have hgk := List.getElem?_eq_getElem hlt
       have hal : k < al.length := by rw [← HSS.out.len]; exact hlt
       have HM := Lib.hid (HSS.out.ok k _ _ hgk (List.getElem?_eq_getElem hal))
       have HAK := Lib.hid (HOK.out.ok _ (List.getElem_mem hal))
       have HN2K := Lib.hid (HN2.out _ (List.getElem_mem hal))
       have HGK := Lib.hid (HGL.out k _ (List.getElem?_eq_getElem hal))
       generalize al[k] = ar at *
       obtain ⟨an, aq⟩ := ar
       generalize ss[k] = sn at *
       obtain ⟨sn_, st⟩ := sn
       obtain ⟨pb, po, hp9, hcs⟩ := (HSS.out.sl).elem (f := snL) (fun _ => rfl) (by omega : 0 < 16) hgk
       subst hp9
       have e0 : X.cell? ⟨pb, po + k * 16, none⟩ = some (.int .i64 (sn_)) := hcs 0 _ rfl
       have e1 : X.cell? ⟨pb, po + k * 16 + 1, none⟩ = some (.bool st.x.b) := hcs 1 _ rfl
       have e2 : X.cell? ⟨pb, po + k * 16 + 2, none⟩ = some (.slice st.x.a1 st.x.n1 st.x.c1) := hcs 2 _ rfl
       have e3 : X.cell? ⟨pb, po + k * 16 + 3, none⟩ = some (.slice st.x.a2 st.x.n2 st.x.c2) := hcs 3 _ rfl
       have e4 : X.cell? ⟨pb, po + k * 16 + 4, none⟩ = some (.bool st.y.b) := hcs 4 _ rfl
       have e5 : X.cell? ⟨pb, po + k * 16 + 5, none⟩ = some (.slice st.y.a1 st.y.n1 st.y.c1) := hcs 5 _ rfl
       have e6 : X.cell? ⟨pb, po + k * 16 + 6, none⟩ = some (.slice st.y.a2 st.y.n2 st.y.c2) := hcs 6 _ rfl
       have e7 : X.cell? ⟨pb, po + k * 16 + 7, none⟩ = some (.bool st.xx.b) := hcs 7 _ rfl
       have e8 : X.cell? ⟨pb, po + k * 16 + 8, none⟩ = some (.slice st.xx.a1 st.xx.n1 st.xx.c1) := hcs 8 _ rfl
       have e9 : X.cell? ⟨pb, po + k * 16 + 9, none⟩ = some (.slice st.xx.a2 st.xx.n2 st.xx.c2) := hcs 9 _ rfl
       have e10 : X.cell? ⟨pb, po + k * 16 + 10, none⟩ = some (.bool st.yy.b) := hcs 10 _ rfl
       have e11 : X.cell? ⟨pb, po + k * 16 + 11, none⟩ = some (.slice st.yy.a1 st.yy.n1 st.yy.c1) := hcs 11 _ rfl
       have e12 : X.cell? ⟨pb, po + k * 16 + 12, none⟩ = some (.slice st.yy.a2 st.yy.n2 st.yy.c2) := hcs 12 _ rfl
       have e13 : X.cell? ⟨pb, po + k * 16 + 13, none⟩ = some (.bool st.xy.b) := hcs 13 _ rfl
       have e14 : X.cell? ⟨pb, po + k * 16 + 14, none⟩ = some (.slice st.xy.a1 st.xy.n1 st.xy.c1) := hcs 14 _ rfl
       have e15 : X.cell? ⟨pb, po + k * 16 + 15, none⟩ = some (.slice st.xy.a2 st.xy.n2 st.xy.c2) := hcs 15 _ rfl
       have hk0 : (0 : Int) ≤ (k : Int) := Int.natCast_nonneg _
       have hk1 : (k : Int) < (ss.length : Int) := by omega
       have hk3 : (k : Int).toNat = k := by omega
       clear hcs hgk
       obtain rfl : sn_ = an := HM.out.1
       have hn0 : 1 ≤ sn_ := HAK.out.1.1
       have hn1 : sn_ ≤ 20000 := HAK.out.1.2
       have hn2 : 2 ≤ sn_ := HN2K.out
       clear HSS
       obtain ⟨m9, hm9⟩ : ∃ m, sn_ - 1 = m := ⟨_, rfl⟩
       have hmw : IntKind.i64.wrap (sn_ - 1) = m9 := (IntWalk.i64_in _ (by omega)).trans hm9
       have hmb : 1 ≤ m9 ∧ m9 ≤ 20000 := by omega
       have HM9 := Lib.hid hm9
       clear hm9
       obtain ⟨sq, hsq⟩ : ∃ z : Rat, ((sn_ : Int) : Rat) = z := ⟨_, rfl⟩
       have HSQ := Lib.hid hsq
       have N_sq : Hid (Ln 5 0 sq) := Lib.hid (by rw [← hsq]; exact ln_n (by omega) hn1)
       have HSZ : Hid (sq ≠ 0) := Lib.hid (by rw [← hsq]; exact n_ne (by omega))
       obtain ⟨pq, hpq⟩ : ∃ z : Rat, ((m9 : Int) : Rat) = z := ⟨_, rfl⟩
       have HPQ := Lib.hid hpq
       have N_pq : Hid (Ln 5 0 pq) := Lib.hid (by rw [← hpq]; exact ln_n (by omega) (by omega))
       have HPZ : Hid (pq ≠ 0) := Lib.hid (by rw [← hpq]; exact n_ne (by omega))
       clear hsq hpq
       obtain ⟨xq, hxq⟩ : ∃ z, aq.x = z := ⟨_, rfl⟩
       obtain ⟨yq, hyq⟩ : ∃ z, aq.y = z := ⟨_, rfl⟩
       have E_xq := Lib.hid hxq
       have E_yq := Lib.hid hyq
       have N_xq : Hid (Ln 100 0 xq) := Lib.hid (by rw [← hxq]; exact HAK.out.2.x)
       have N_yq : Hid (Ln 100 0 yq) := Lib.hid (by rw [← hyq]; exact HAK.out.2.y)
       clear hxq hyq
       obtain ⟨xd, h9⟩ : ∃ z : Rat, xq / sq = z := ⟨_, rfl⟩
       have E_xd := Lib.hid h9
       have N_xd : Hid (Ln 100 5 xd) := Lib.hid (by rw [← h9]; exact (Ln.div N_xq.out N_sq.out HSZ.out).mono (by omega) (by omega))
       clear h9
       obtain ⟨yd, h9⟩ : ∃ z : Rat, yq / sq = z := ⟨_, rfl⟩
       have E_yd := Lib.hid h9
       have N_yd : Hid (Ln 100 5 yd) := Lib.hid (by rw [← h9]; exact (Ln.div N_yq.out N_sq.out HSZ.out).mono (by omega) (by omega))
       clear h9
       obtain ⟨df, h9⟩ : ∃ z : Rat, yd - mq = z := ⟨_, rfl⟩
       have E_df := Lib.hid h9
       have N_df : Hid (Ln 127 11 df) := Lib.hid (by rw [← h9]; exact (Ln.sub N_yd.out N_mq.out).mono (by omega) (by omega))
       clear h9
       obtain ⟨kd, h9⟩ : ∃ z : Rat, kq * df = z := ⟨_, rfl⟩
       have E_kd := Lib.hid h9
       have N_kd : Hid (Ln 549 433 kd) := Lib.hid (by rw [← h9]; exact (Ln.mul N_kq.out N_df.out).mono (by omega) (by omega))
       clear h9
       obtain ⟨me, h9⟩ : ∃ z : Rat, xd - kd = z := ⟨_, rfl⟩
       have E_me := Lib.hid h9
       have N_me : Hid (Ln 560 438 me) := Lib.hid (by rw [← h9]; exact (Ln.sub N_xd.out N_kd.out).mono (by omega) (by omega))
       clear h9
       obtain ⟨rA, h9⟩ : ∃ z : Rat, spA sn_ aq = z := ⟨_, rfl⟩
       have E_rA := Lib.hid h9
       have N_rA : Hid (Ln 201 5 rA) := Lib.hid (by rw [← h9]; exact (HAK.out.2.spA hn0 hn1).mono (by omega) (by omega))
       clear h9
       obtain ⟨bq, h9⟩ : ∃ z : Rat, spB sn_ aq = z := ⟨_, rfl⟩
       have E_bq := Lib.hid h9
       have N_bq : Hid (Ln 201 5 bq) := Lib.hid (by rw [← h9]; exact (HAK.out.2.spB hn0 hn1).mono (by omega) (by omega))
       clear h9
       obtain ⟨cq, h9⟩ : ∃ z : Rat, spC sn_ aq = z := ⟨_, rfl⟩
       have E_cq := Lib.hid h9
       have N_cq : Hid (Ln 201 5 cq) := Lib.hid (by rw [← h9]; exact (HAK.out.2.spC hn0 hn1).mono (by omega) (by omega))
       clear h9
       obtain ⟨two, h9⟩ : ∃ z : Rat, ((2 : Int) : Rat) = z := ⟨_, rfl⟩
       have E_two := Lib.hid h9
       have N_two : Hid (Ln 1 0 two) := Lib.hid (by rw [← h9]; exact (Ln.int (z := 2) (a := 1) (by decide)).mono (by omega) (by omega))
       clear h9
       obtain ⟨tr, h9⟩ : ∃ z : Rat, two * kq = z := ⟨_, rfl⟩
       have E_tr := Lib.hid h9
       have N_tr : Hid (Ln 423 422 tr) := Lib.hid (by rw [← h9]; exact (Ln.mul N_two.out N_kq.out).mono (by omega) (by omega))
       clear h9
       obtain ⟨tc, h9⟩ : ∃ z : Rat, tr * cq = z := ⟨_, rfl⟩
       have E_tc := Lib.hid h9
       have N_tc : Hid (Ln 624 427 tc) := Lib.hid (by rw [← h9]; exact (Ln.mul N_tr.out N_cq.out).mono (by omega) (by omega))
       clear h9
       obtain ⟨d1, h9⟩ : ∃ z : Rat, rA - tc = z := ⟨_, rfl⟩
       have E_d1 := Lib.hid h9
       have N_d1 : Hid (Ln 630 432 d1) := Lib.hid (by rw [← h9]; exact (Ln.sub N_rA.out N_tc.out).mono (by omega) (by omega))
       clear h9
       obtain ⟨rr, h9⟩ : ∃ z : Rat, kq * kq = z := ⟨_, rfl⟩
       have E_rr := Lib.hid h9
       have N_rr : Hid (Ln 844 844 rr) := Lib.hid (by rw [← h9]; exact (Ln.mul N_kq.out N_kq.out).mono (by omega) (by omega))
       clear h9
       obtain ⟨rb, h9⟩ : ∃ z : Rat, rr * bq = z := ⟨_, rfl⟩
       have E_rb := Lib.hid h9
       have N_rb : Hid (Ln 1045 849 rb) := Lib.hid (by rw [← h9]; exact (Ln.mul N_rr.out N_bq.out).mono (by omega) (by omega))
       clear h9
       obtain ⟨re, h9⟩ : ∃ z : Rat, d1 + rb = z := ⟨_, rfl⟩
       have E_re := Lib.hid h9
       have N_re : Hid (Ln 1480 1281 re) := Lib.hid (by rw [← h9]; exact (Ln.add N_d1.out N_rb.out).mono (by omega) (by omega))
       clear h9
       obtain ⟨nn, h9⟩ : ∃ z : Rat, pq * sq = z := ⟨_, rfl⟩
       have E_nn := Lib.hid h9
       have N_nn : Hid (Ln 10 0 nn) := Lib.hid (by rw [← h9]; exact (Ln.mul N_pq.out N_sq.out).mono (by omega) (by omega))
       clear h9
       have HNN : Hid (nn ≠ 0) := Lib.hid (by rw [← E_nn.out]; exact fun h => (Rat.mul_eq_zero.1 h).elim HPZ.out HSZ.out)
       have HNNQ : Hid (((m9 : Int) : Rat) * ((sn_ : Int) : Rat) = nn) := Lib.hid (by rw [HPQ.out, HSQ.out]; exact E_nn.out)
       obtain ⟨vq, h9⟩ : ∃ z : Rat, re / nn = z := ⟨_, rfl⟩
       have E_vq := Lib.hid h9
       have N_vq : Hid (Ln 1480 1291 vq) := Lib.hid (by rw [← h9]; exact (Ln.div N_re.out N_nn.out HNN.out).mono (by omega) (by omega))
       clear h9
       have HGE : Hid ((ajL al)[k]? = some ⟨sn_, me, vq⟩) := Lib.hid (by
        rw [HGK.out]
        unfold ajE adM ajV
        simp only [HM9.out]
        rw [HSQ.out, HPQ.out, E_xq.out, E_yq.out, E_xd.out, E_yd.out, E_df.out, E_kd.out, E_me.out, E_rA.out, E_bq.out, E_cq.out, E_two.out, E_tr.out, E_tc.out, E_d1.out, E_rr.out, E_rb.out, E_re.out, E_nn.out, E_vq.out])
       clear HGK
       clear HW
       obtain ⟨Z, hZ⟩ : ∃ Z9, Z9 = X := ⟨_, rfl⟩
       rw [← hZ] at HEO
       have HW : Hid (Below Z.heap.size Z X) := by rw [hZ]; exact Lib.hid (Below.refl _ _)
       clear hZ
       have HX : Hid (SX X st aq) := Lib.hid (HM.out.2)
       go_upto_region 18 with (fail)
       refine wp_rows1 fun w9' hbz hR0 => ?_
       have lt_k_s : b_k < X.heap.size := HR_k.out.lt
       have lt_m_s : b_m < X.heap.size := HR_m.out.lt
       have le_s : Z.heap.size ≤ X.heap.size := HW.out.size
       replace HR_k := Lib.hid (HR_k.out.ext hbz)
       replace HR_m := Lib.hid (HR_m.out.ext hbz)
       replace HXk := Lib.hid (HXk.out.ext hbz)
       replace HXm := Lib.hid (HXm.out.ext hbz)
       replace HX := Lib.hid (HX.out.ext hbz)
       replace HW := Lib.hid (ext_trans HW.out hbz)
       clear e0 e1 e2 e3 e4 e5 e6 e7 e8 e9 e10 e11 e12 e13 e14 e15
       clear hbz
       have HR_s : Hid (RH w9' X.heap.size (smA (sn_) st) 59) := Lib.hid hR0
       clear hR0
       generalize X.heap.size = b_s at *
       obtain ⟨c_s_0, -, -, -, -, -, -, -, -, -, -, -, -, -, -, -⟩ := zs16 HR_s.out
       go_wp2_with fail
       refine (mwhole_is sn_ sq HSQ.out (by omega) (by omega) w9').mono ?_
       rintro e w10' ⟨v1, rfl, hv1, hbz⟩
       obtain ⟨tn, rfl, hx1⟩ := hv1.y3
       clear hv1
       replace HR_k := Lib.hid (HR_k.out.ext hbz)
       replace HR_m := Lib.hid (HR_m.out.ext hbz)
       replace HR_s := Lib.hid (HR_s.out.ext hbz)
       replace HXk := Lib.hid (HXk.out.ext hbz)
       replace HXm := Lib.hid (HXm.out.ext hbz)
       replace HX := Lib.hid (HX.out.ext hbz)
       replace HW := Lib.hid (ext_trans HW.out hbz)
       clear c_s_0
       clear hbz
       have HXn : Hid (XR w10' (y3V tn) sq) := Lib.hid hx1
       clear hx1
       go_upto_region 19 with (fail)
       refine wp_rows1 fun w11' hbz hR0 => ?_
       have lt_k_n : b_k < w10'.heap.size := HR_k.out.lt
       have lt_m_n : b_m < w10'.heap.size := HR_m.out.lt
       have lt_s_n : b_s < w10'.heap.size := HR_s.out.lt
       have le_n : Z.heap.size ≤ w10'.heap.size := HW.out.size
       replace HR_k := Lib.hid (HR_k.out.ext hbz)
       replace HR_m := Lib.hid (HR_m.out.ext hbz)
       replace HR_s := Lib.hid (HR_s.out.ext hbz)
       replace HXk := Lib.hid (HXk.out.ext hbz)
       replace HXm := Lib.hid (HXm.out.ext hbz)
       replace HX := Lib.hid (HX.out.ext hbz)
       replace HXn := Lib.hid (HXn.out.ext hbz)
       replace HW := Lib.hid (ext_trans HW.out hbz)
       clear hbz
       have HR_n : Hid (RH w11' w10'.heap.size #[.bool tn.b, .slice tn.a1 tn.n1 tn.c1, .slice tn.a2 tn.n2 tn.c2] 52) := Lib.hid hR0
       clear hR0
       generalize w10'.heap.size = b_n at *
       go_wp2_with (first | (refine wpList_load_row rfl _ _ rfl b_s rfl _ (smA (sn_) st) _ _ HR_s.out Tryz.underlying59 rfl (sm_info _ _) ?_))
       refine (spread_at sn_ hn0 hn1 st aq w11' HX.out HAK.out.2).mono ?_
       rintro e w12' ⟨t1, t2, t3, rfl, hx1, hx2, hx3, hbz⟩
       replace HR_k := Lib.hid (HR_k.out.ext hbz)
       replace HR_m := Lib.hid (HR_m.out.ext hbz)
       replace HR_s := Lib.hid (HR_s.out.ext hbz)
       replace HR_n := Lib.hid (HR_n.out.ext hbz)
       replace HXk := Lib.hid (HXk.out.ext hbz)
       replace HXm := Lib.hid (HXm.out.ext hbz)
       replace HX := Lib.hid (HX.out.ext hbz)
       replace HXn := Lib.hid (HXn.out.ext hbz)
       replace HW := Lib.hid (ext_trans HW.out hbz)
       clear hbz
       have HXx : Hid (XR w12' (y3V t1) (spA sn_ aq)) := Lib.hid hx1
       clear hx1
       have HXy : Hid (XR w12' (y3V t2) (spB sn_ aq)) := Lib.hid hx2
       clear hx2
       have HXc : Hid (XR w12' (y3V t3) (spC sn_ aq)) := Lib.hid hx3
       clear hx3
       rw [E_rA.out] at HXx
       rw [E_bq.out] at HXy
       rw [E_cq.out] at HXc
       go_upto_region 20 with (fail)
       refine wp_rows3 fun w13' hbz hR0 hR1 hR2 => ?_
       have lt_k_x : b_k < w12'.heap.size := HR_k.out.lt
       have lt_m_x : b_m < w12'.heap.size := HR_m.out.lt
       have lt_s_x : b_s < w12'.heap.size := HR_s.out.lt
       have lt_n_x : b_n < w12'.heap.size := HR_n.out.lt
       have le_x : Z.heap.size ≤ w12'.heap.size := HW.out.size
       replace HR_k := Lib.hid (HR_k.out.ext hbz)
       replace HR_m := Lib.hid (HR_m.out.ext hbz)
       replace HR_s := Lib.hid (HR_s.out.ext hbz)
       replace HR_n := Lib.hid (HR_n.out.ext hbz)
       replace HXk := Lib.hid (HXk.out.ext hbz)
       replace HXm := Lib.hid (HXm.out.ext hbz)
       replace HX := Lib.hid (HX.out.ext hbz)
       replace HXn := Lib.hid (HXn.out.ext hbz)
       replace HXx := Lib.hid (HXx.out.ext hbz)
       replace HXy := Lib.hid (HXy.out.ext hbz)
       replace HXc := Lib.hid (HXc.out.ext hbz)
       replace HW := Lib.hid (ext_trans HW.out hbz)
       clear hbz
       have HR_x : Hid (RH w13' w12'.heap.size #[.bool t1.b, .slice t1.a1 t1.n1 t1.c1, .slice t1.a2 t1.n2 t1.c2] 52) := Lib.hid hR0
       have HR_y : Hid (RH w13' (w12'.heap.size + 1) #[.bool t2.b, .slice t2.a1 t2.n1 t2.c1, .slice t2.a2 t2.n2 t2.c2] 52) := Lib.hid hR1
       have HR_c : Hid (RH w13' (w12'.heap.size + 2) #[.bool t3.b, .slice t3.a1 t3.n1 t3.c1, .slice t3.a2 t3.n2 t3.c2] 52) := Lib.hid hR2
       clear hR0 hR1 hR2
       generalize w12'.heap.size = b_x at *
       obtain ⟨c_s_0, c_s_1, c_s_2, c_s_3, c_s_4, c_s_5, c_s_6, -, -, -, -, -, -, -, -, -⟩ := zs16 HR_s.out
       obtain ⟨c_n_0, c_n_1, c_n_2⟩ := zs3 HR_n.out
       obtain ⟨c_k_0, c_k_1, c_k_2⟩ := zs3 HR_k.out
       obtain ⟨c_m_0, c_m_1, c_m_2⟩ := zs3 HR_m.out
       refine Grow.wp_region_grow 14 [TP.eq (.pointer (some ⟨b_s, 1, none⟩)), TP.eq (.agg #[.bool st.x.b, .slice st.x.a1 st.x.n1 st.x.c1, .slice st.x.a2 st.x.n2 st.x.c2]), TP.eq (.agg #[.bool tn.b, .slice tn.a1 tn.n1 tn.c1, .slice tn.a2 tn.n2 tn.c2]), TP.xq xd, TP.eq (.agg #[.bool tk.b, .slice tk.a1 tk.n1 tk.c1, .slice tk.a2 tk.n2 tk.c2]), TP.eq (.pointer (some ⟨b_s, 4, none⟩)), TP.eq (.agg #[.bool st.y.b, .slice st.y.a1 st.y.n1 st.y.c1, .slice st.y.a2 st.y.n2 st.y.c2]), TP.eq (.agg #[.bool tn.b, .slice tn.a1 tn.n1 tn.c1, .slice tn.a2 tn.n2 tn.c2]), TP.xq yd, TP.eq (.agg #[.bool tm.b, .slice tm.a1 tm.n1 tm.c1, .slice tm.a2 tm.n2 tm.c2]), TP.xq df, TP.xq kd, TP.xq me, TP.row w13'.heap.size zeroX 52] [[], [0], [], [1, 2], [], [], [5], [], [6, 7], [], [8, 9], [4, 10], [3, 11], []] (by kernel_rfl) (by kernel_rfl) ⟨?o0e, ?o1e, ?o2e, ?o3e, ?o4e, ?o5e, ?o6e, ?o7e, ?o8e, ?o9e, ?o10e, ?o11e, ?o12e, ?o13e, trivial⟩ ?_
       case o0e | o5e =>
        intro w' hb
        show wpList _ _ _ _ _ _
        go_wp2
        exact ⟨rfl, Below.refl _ _, rfl⟩
       case o1e =>
        intro w' hb v1 hv1
        cases hv1
        have c_s_1' := zzc hb c_s_1
        have c_s_2' := zzc hb c_s_2
        have c_s_3' := zzc hb c_s_3
        show wpList _ _ _ _ _ _
        simp only [Grow.dstOf, zzp, Act.put]
        go_wp2
        exact ⟨rfl, Below.refl _ _, rfl⟩
       case o2e | o4e | o7e | o9e =>
        intro w' hb
        have c_n_0' := zzc hb c_n_0
        have c_n_1' := zzc hb c_n_1
        have c_n_2' := zzc hb c_n_2
        have c_k_0' := zzc hb c_k_0
        have c_k_1' := zzc hb c_k_1
        have c_k_2' := zzc hb c_k_2
        have c_m_0' := zzc hb c_m_0
        have c_m_1' := zzc hb c_m_1
        have c_m_2' := zzc hb c_m_2
        show wpList _ _ _ _ _ _
        go_wp2
        exact ⟨rfl, Below.refl _ _, rfl⟩
       case o3e =>
        intro w' hb v1 hv1 v2 hv2
        cases hv1
        cases hv2
        show wpList _ _ _ _ _ _
        simp only [Grow.dstOf, zzp, Act.put]
        go_wp2_with fail
        refine (mover_is xq sq xd E_xd.out HSZ.out _ _ w' (by have h := HX.out.x; rw [E_xq.out] at h; exact h.ext hb) (HXn.out.ext hb) (N_xq.out.sm (by omega) (by omega)) (N_sq.out.sm (by omega) (by omega))).mono ?_
        rintro e wz ⟨vz, rfl, hxz, hbz⟩
        go_wp2
        exact ⟨hxz, hbz, rfl⟩
       case o6e =>
        intro w' hb v1 hv1
        cases hv1
        have c_s_4' := zzc hb c_s_4
        have c_s_5' := zzc hb c_s_5
        have c_s_6' := zzc hb c_s_6
        show wpList _ _ _ _ _ _
        simp only [Grow.dstOf, zzp, Act.put]
        go_wp2
        exact ⟨rfl, Below.refl _ _, rfl⟩
       case o8e =>
        intro w' hb v1 hv1 v2 hv2
        cases hv1
        cases hv2
        show wpList _ _ _ _ _ _
        simp only [Grow.dstOf, zzp, Act.put]
        go_wp2_with fail
        refine (mover_is yq sq yd E_yd.out HSZ.out _ _ w' (by have h := HX.out.y; rw [E_yq.out] at h; exact h.ext hb) (HXn.out.ext hb) (N_yq.out.sm (by omega) (by omega)) (N_sq.out.sm (by omega) (by omega))).mono ?_
        rintro e wz ⟨vz, rfl, hxz, hbz⟩
        go_wp2
        exact ⟨hxz, hbz, rfl⟩
       case o10e =>
        intro w' hb v1 hv1 v2 hv2
        cases hv2
        have hv1' : XR w' v1 yd := hv1
        clear hv1
        show wpList _ _ _ _ _ _
        simp only [Grow.dstOf, zzp, Act.put]
        go_wp2_with fail
        refine (mminus_is yd mq df E_df.out _ _ w' hv1' (HXm.out.ext hb) (N_yd.out.sm (by omega) (by omega)) (N_mq.out.sm (by omega) (by omega))).mono ?_
        rintro e wz ⟨vz, rfl, hxz, hbz⟩
        go_wp2
        exact ⟨hxz, hbz, rfl⟩
       case o11e =>
        intro w' hb v1 hv1 v2 hv2
        cases hv1
        have hv2' : XR w' v2 df := hv2
        clear hv2
        show wpList _ _ _ _ _ _
        simp only [Grow.dstOf, zzp, Act.put]
        go_wp2_with fail
        refine (xtimes_sm kq df kd E_kd.out _ _ w' (HXk.out.ext hb) hv2' (N_kq.out.sm (by omega) (by omega)) (N_df.out.sm (by omega) (by omega))).mono ?_
        rintro e wz ⟨vz, rfl, hxz, hbz⟩
        go_wp2
        exact ⟨hxz, hbz, rfl⟩
       case o12e =>
        intro w' hb v1 hv1 v2 hv2
        have hv1' : XR w' v1 xd := hv1
        have hv2' : XR w' v2 kd := hv2
        clear hv1 hv2
        show wpList _ _ _ _ _ _
        simp only [Grow.dstOf, zzp, Act.put]
        go_wp2_with fail
        refine (mminus_is xd kd me E_me.out _ _ w' hv1' hv2' (N_xd.out.sm (by omega) (by omega)) (N_kd.out.sm (by omega) (by omega))).mono ?_
        rintro e wz ⟨vz, rfl, hxz, hbz⟩
        go_wp2
        exact ⟨hxz, hbz, rfl⟩
       case o13e =>
        intro w' hb
        show wpList _ _ _ _ _ _
        go_wp2
        exact ⟨⟨_, rfl, hb.size, RH.new _ _ _⟩, ext_alloc _ _, rfl⟩
       intro w14' hbz u0 hu0 u1 hu1 u2 hu2 u3 hu3 u4 hu4 u5 hu5 u6 hu6 u7 hu7 u8 hu8 u9 hu9 u10 hu10 u11 hu11 u12 hu12 u13 hu13
       have hv9 : XR w14' u12 me := hu12
       have hg9 : ∃ g, u13 = .pointer (some ⟨g, 0, none⟩) ∧ w13'.heap.size ≤ g ∧ RH w14' g zeroX 52 := hu13
       clear hu0 hu1 hu2 hu3 hu4 hu5 hu6 hu7 hu8 hu9 hu10 hu11 hu12 hu13
       obtain ⟨b_e, rfl, hgY, hRg⟩ := hg9
       have lt_k_e : b_k < b_e := Nat.lt_of_lt_of_le HR_k.out.lt hgY
       have lt_m_e : b_m < b_e := Nat.lt_of_lt_of_le HR_m.out.lt hgY
       have lt_s_e : b_s < b_e := Nat.lt_of_lt_of_le HR_s.out.lt hgY
       have lt_n_e : b_n < b_e := Nat.lt_of_lt_of_le HR_n.out.lt hgY
       have lt_x_e : b_x < b_e := Nat.lt_of_lt_of_le HR_x.out.lt hgY
       have lt_y_e : (b_x + 1) < b_e := Nat.lt_of_lt_of_le HR_y.out.lt hgY
       have lt_c_e : (b_x + 2) < b_e := Nat.lt_of_lt_of_le HR_c.out.lt hgY
       have le_e : Z.heap.size ≤ b_e := Nat.le_trans HW.out.size hgY
       clear hgY
       replace HR_k := Lib.hid (HR_k.out.ext hbz)
       replace HR_m := Lib.hid (HR_m.out.ext hbz)
       replace HR_s := Lib.hid (HR_s.out.ext hbz)
       replace HR_n := Lib.hid (HR_n.out.ext hbz)
       replace HR_x := Lib.hid (HR_x.out.ext hbz)
       replace HR_y := Lib.hid (HR_y.out.ext hbz)
       replace HR_c := Lib.hid (HR_c.out.ext hbz)
       replace HXk := Lib.hid (HXk.out.ext hbz)
       replace HXm := Lib.hid (HXm.out.ext hbz)
       replace HX := Lib.hid (HX.out.ext hbz)
       replace HXn := Lib.hid (HXn.out.ext hbz)
       replace HXx := Lib.hid (HXx.out.ext hbz)
       replace HXy := Lib.hid (HXy.out.ext hbz)
       replace HXc := Lib.hid (HXc.out.ext hbz)
       replace HW := Lib.hid (ext_trans HW.out hbz)
       clear c_s_0 c_s_1 c_s_2 c_s_3 c_s_4 c_s_5 c_s_6 c_n_0 c_n_1 c_n_2 c_k_0 c_k_1 c_k_2 c_m_0 c_m_1 c_m_2
       clear hbz
       obtain ⟨te, rfl, hx9⟩ := hv9.y3
       clear hv9
       have HXe : Hid (XR w14' (y3V te) me) := Lib.hid (hx9)
       clear hx9
       have HR_e : Hid (RH w14' b_e #[.bool false, .slice none 0 0, .slice none 0 0] 52) := Lib.hid hRg
       clear hRg
       show wpList _ _ _ _ _ _
       simp only [Act.put, zzp]
       obtain ⟨c_e_0, c_e_1, c_e_2⟩ := zs3 HR_e.out
       have f_e_0 := HR_e.out.fre 0
       have f_e_1 := HR_e.out.fre 1
       have f_e_2 := HR_e.out.fre 2
       go_upto_region 21 with (fail)
       obtain ⟨w15', hX⟩ : ∃ Z9, Z9 = (((w14'.setCell ⟨b_e, 0, none⟩ (.bool te.b)).setCell ⟨b_e, 1, none⟩ (.slice te.a1 te.n1 te.c1)).setCell ⟨b_e, 2, none⟩ (.slice te.a2 te.n2 te.c2)) := ⟨_, rfl⟩
       rw [← hX]
       have n_e : Hid (RH w15' b_e #[.bool te.b, .slice te.a1 te.n1 te.c1, .slice te.a2 te.n2 te.c2] 52) := by rw [hX]; exact Lib.hid ((((HR_e.out).set 0 (.bool te.b)).set 1 (.slice te.a1 te.n1 te.c1)).set 2 (.slice te.a2 te.n2 te.c2))
       have n_k : Hid (RH w15' b_k #[.bool tk.b, .slice tk.a1 tk.n1 tk.c1, .slice tk.a2 tk.n2 tk.c2] 52) := by rw [hX]; exact Lib.hid (zzo (zzo (zzo (HR_k.out) (by omega)) (by omega)) (by omega))
       have n_m : Hid (RH w15' b_m #[.bool tm.b, .slice tm.a1 tm.n1 tm.c1, .slice tm.a2 tm.n2 tm.c2] 52) := by rw [hX]; exact Lib.hid (zzo (zzo (zzo (HR_m.out) (by omega)) (by omega)) (by omega))
       have n_s : Hid (RH w15' b_s (smA (sn_) st) 59) := by rw [hX]; exact Lib.hid (zzo (zzo (zzo (HR_s.out) (by omega)) (by omega)) (by omega))
       have n_n : Hid (RH w15' b_n #[.bool tn.b, .slice tn.a1 tn.n1 tn.c1, .slice tn.a2 tn.n2 tn.c2] 52) := by rw [hX]; exact Lib.hid (zzo (zzo (zzo (HR_n.out) (by omega)) (by omega)) (by omega))
       have n_x : Hid (RH w15' b_x #[.bool t1.b, .slice t1.a1 t1.n1 t1.c1, .slice t1.a2 t1.n2 t1.c2] 52) := by rw [hX]; exact Lib.hid (zzo (zzo (zzo (HR_x.out) (by omega)) (by omega)) (by omega))
       have n_y : Hid (RH w15' (b_x + 1) #[.bool t2.b, .slice t2.a1 t2.n1 t2.c1, .slice t2.a2 t2.n2 t2.c2] 52) := by rw [hX]; exact Lib.hid (zzo (zzo (zzo (HR_y.out) (by omega)) (by omega)) (by omega))
       have n_c : Hid (RH w15' (b_x + 2) #[.bool t3.b, .slice t3.a1 t3.n1 t3.c1, .slice t3.a2 t3.n2 t3.c2] 52) := by rw [hX]; exact Lib.hid (zzo (zzo (zzo (HR_c.out) (by omega)) (by omega)) (by omega))
       have HK_ : ∀ p : Addr, p.block ≠ b_e → w15'.cell? p = w14'.cell? p := fun p hp => by rw [hX]; exact (cs_other hp).trans ((cs_other hp).trans (cs_other hp))
       have n_HXk : Hid (XR w15' (y3V tk) kq) := Lib.hid (HXk.out.far HR_e.out.box (noW_all (by simp [isWord])) HK_)
       have n_HXm : Hid (XR w15' (y3V tm) mq) := Lib.hid (HXm.out.far HR_e.out.box (noW_all (by simp [isWord])) HK_)
       have n_HX : Hid (SX w15' st aq) := Lib.hid (HX.out.far HR_e.out.box (noW_all (by simp [isWord])) HK_)
       have n_HXn : Hid (XR w15' (y3V tn) sq) := Lib.hid (HXn.out.far HR_e.out.box (noW_all (by simp [isWord])) HK_)
       have n_HXx : Hid (XR w15' (y3V t1) rA) := Lib.hid (HXx.out.far HR_e.out.box (noW_all (by simp [isWord])) HK_)
       have n_HXy : Hid (XR w15' (y3V t2) bq) := Lib.hid (HXy.out.far HR_e.out.box (noW_all (by simp [isWord])) HK_)
       have n_HXc : Hid (XR w15' (y3V t3) cq) := Lib.hid (HXc.out.far HR_e.out.box (noW_all (by simp [isWord])) HK_)
       have n_HXe : Hid (XR w15' (y3V te) me) := Lib.hid (HXe.out.far HR_e.out.box (noW_all (by simp [isWord])) HK_)
       have nW : Hid (Below Z.heap.size Z w15') := by rw [hX]; exact Lib.hid (zzw (zzw (zzw (HW.out) (by omega)) (by omega)) (by omega))
       clear c_e_0 c_e_1 c_e_2 f_e_0 f_e_1 f_e_2
       clear hX HK_ HW HR_k HR_m HR_s HR_n HR_x HR_y HR_c HR_e HXk HXm HX HXn HXx HXy HXc HXe
       have HR_k := n_k; clear n_k
       have HR_m := n_m; clear n_m
       have HR_s := n_s; clear n_s
       have HR_n := n_n; clear n_n
       have HR_x := n_x; clear n_x
       have HR_y := n_y; clear n_y
       have HR_c := n_c; clear n_c
       have HR_e := n_e; clear n_e
       have HXk := n_HXk; clear n_HXk
       have HXm := n_HXm; clear n_HXm
       have HX := n_HX; clear n_HX
       have HXn := n_HXn; clear n_HXn
       have HXx := n_HXx; clear n_HXx
       have HXy := n_HXy; clear n_HXy
       have HXc := n_HXc; clear n_HXc
       have HXe := n_HXe; clear n_HXe
       have HW := nW; clear nW
       clear HR_n
       clear HXn
       obtain ⟨c_x_0, c_x_1, c_x_2⟩ := zs3 HR_x.out
       obtain ⟨c_y_0, c_y_1, c_y_2⟩ := zs3 HR_y.out
       obtain ⟨c_c_0, c_c_1, c_c_2⟩ := zs3 HR_c.out
       obtain ⟨c_k_0, c_k_1, c_k_2⟩ := zs3 HR_k.out
       refine Grow.wp_region_grow 14 [TP.eq (.agg #[.bool t1.b, .slice t1.a1 t1.n1 t1.c1, .slice t1.a2 t1.n2 t1.c2]), TP.xq two, TP.eq (.agg #[.bool tk.b, .slice tk.a1 tk.n1 tk.c1, .slice tk.a2 tk.n2 tk.c2]), TP.xq tr, TP.eq (.agg #[.bool t3.b, .slice t3.a1 t3.n1 t3.c1, .slice t3.a2 t3.n2 t3.c2]), TP.xq tc, TP.xq d1, TP.eq (.agg #[.bool tk.b, .slice tk.a1 tk.n1 tk.c1, .slice tk.a2 tk.n2 tk.c2]), TP.eq (.agg #[.bool tk.b, .slice tk.a1 tk.n1 tk.c1, .slice tk.a2 tk.n2 tk.c2]), TP.xq rr, TP.eq (.agg #[.bool t2.b, .slice t2.a1 t2.n1 t2.c1, .slice t2.a2 t2.n2 t2.c2]), TP.xq rb, TP.xq re, TP.row w15'.heap.size zeroX 52] [[], [], [], [1, 2], [], [3, 4], [0, 5], [], [], [7, 8], [], [9, 10], [6, 11], []] (by kernel_rfl) (by kernel_rfl) ⟨?o0q, ?o1q, ?o2q, ?o3q, ?o4q, ?o5q, ?o6q, ?o7q, ?o8q, ?o9q, ?o10q, ?o11q, ?o12q, ?o13q, trivial⟩ ?_
       case o0q | o2q | o4q | o7q | o8q | o10q =>
        intro w' hb
        have c_x_0' := zzc hb c_x_0
        have c_x_1' := zzc hb c_x_1
        have c_x_2' := zzc hb c_x_2
        have c_k_0' := zzc hb c_k_0
        have c_k_1' := zzc hb c_k_1
        have c_k_2' := zzc hb c_k_2
        have c_c_0' := zzc hb c_c_0
        have c_c_1' := zzc hb c_c_1
        have c_c_2' := zzc hb c_c_2
        have c_y_0' := zzc hb c_y_0
        have c_y_1' := zzc hb c_y_1
        have c_y_2' := zzc hb c_y_2
        show wpList _ _ _ _ _ _
        go_wp2
        exact ⟨rfl, Below.refl _ _, rfl⟩
       case o1q =>
        intro w' hb
        show wpList _ _ _ _ _ _
        go_wp2_with fail
        refine (mwhole_is 2 two E_two.out (by decide) (by decide) w').mono ?_
        rintro e wz ⟨vz, rfl, hxz, hbz⟩
        go_wp2
        exact ⟨hxz, hbz, rfl⟩
       case o3q =>
        intro w' hb v1 hv1 v2 hv2
        cases hv2
        have hv1' : XR w' v1 two := hv1
        clear hv1
        show wpList _ _ _ _ _ _
        simp only [Grow.dstOf, zzp, Act.put]
        go_wp2_with fail
        refine (xtimes_sm two kq tr E_tr.out _ _ w' hv1' (HXk.out.ext hb) (N_two.out.sm (by omega) (by omega)) (N_kq.out.sm (by omega) (by omega))).mono ?_
        rintro e wz ⟨vz, rfl, hxz, hbz⟩
        go_wp2
        exact ⟨hxz, hbz, rfl⟩
       case o5q =>
        intro w' hb v1 hv1 v2 hv2
        cases hv2
        have hv1' : XR w' v1 tr := hv1
        clear hv1
        show wpList _ _ _ _ _ _
        simp only [Grow.dstOf, zzp, Act.put]
        go_wp2_with fail
        refine (xtimes_sm tr cq tc E_tc.out _ _ w' hv1' (HXc.out.ext hb) (N_tr.out.sm (by omega) (by omega)) (N_cq.out.sm (by omega) (by omega))).mono ?_
        rintro e wz ⟨vz, rfl, hxz, hbz⟩
        go_wp2
        exact ⟨hxz, hbz, rfl⟩
       case o6q =>
        intro w' hb v1 hv1 v2 hv2
        cases hv1
        have hv2' : XR w' v2 tc := hv2
        clear hv2
        show wpList _ _ _ _ _ _
        simp only [Grow.dstOf, zzp, Act.put]
        go_wp2_with fail
        refine (mminus_is rA tc d1 E_d1.out _ _ w' (HXx.out.ext hb) hv2' (N_rA.out.sm (by omega) (by omega)) (N_tc.out.sm (by omega) (by omega))).mono ?_
        rintro e wz ⟨vz, rfl, hxz, hbz⟩
        go_wp2
        exact ⟨hxz, hbz, rfl⟩
       case o9q =>
        intro w' hb v1 hv1 v2 hv2
        cases hv1
        cases hv2
        show wpList _ _ _ _ _ _
        simp only [Grow.dstOf, zzp, Act.put]
        go_wp2_with fail
        refine (xtimes_sm kq kq rr E_rr.out _ _ w' (HXk.out.ext hb) (HXk.out.ext hb) (N_kq.out.sm (by omega) (by omega)) (N_kq.out.sm (by omega) (by omega))).mono ?_
        rintro e wz ⟨vz, rfl, hxz, hbz⟩
        go_wp2
        exact ⟨hxz, hbz, rfl⟩
       case o11q =>
        intro w' hb v1 hv1 v2 hv2
        cases hv2
        have hv1' : XR w' v1 rr := hv1
        clear hv1
        show wpList _ _ _ _ _ _
        simp only [Grow.dstOf, zzp, Act.put]
        go_wp2_with fail
        refine (xtimes_sm rr bq rb E_rb.out _ _ w' hv1' (HXy.out.ext hb) (N_rr.out.sm (by omega) (by omega)) (N_bq.out.sm (by omega) (by omega))).mono ?_
        rintro e wz ⟨vz, rfl, hxz, hbz⟩
        go_wp2
        exact ⟨hxz, hbz, rfl⟩
       case o12q =>
        intro w' hb v1 hv1 v2 hv2
        have hv1' : XR w' v1 d1 := hv1
        have hv2' : XR w' v2 rb := hv2
        clear hv1 hv2
        show wpList _ _ _ _ _ _
        simp only [Grow.dstOf, zzp, Act.put]
        go_wp2_with fail
        refine (xplus_sm d1 rb re E_re.out _ _ w' hv1' hv2' (N_d1.out.sm (by omega) (by omega)) (N_rb.out.sm (by omega) (by omega))).mono ?_
        rintro e wz ⟨vz, rfl, hxz, hbz⟩
        go_wp2
        exact ⟨hxz, hbz, rfl⟩
       case o13q =>
        intro w' hb
        show wpList _ _ _ _ _ _
        go_wp2
        exact ⟨⟨_, rfl, hb.size, RH.new _ _ _⟩, ext_alloc _ _, rfl⟩
       intro w16' hbz u0 hu0 u1 hu1 u2 hu2 u3 hu3 u4 hu4 u5 hu5 u6 hu6 u7 hu7 u8 hu8 u9 hu9 u10 hu10 u11 hu11 u12 hu12 u13 hu13
       have hv9 : XR w16' u12 re := hu12
       have hg9 : ∃ g, u13 = .pointer (some ⟨g, 0, none⟩) ∧ w15'.heap.size ≤ g ∧ RH w16' g zeroX 52 := hu13
       clear hu0 hu1 hu2 hu3 hu4 hu5 hu6 hu7 hu8 hu9 hu10 hu11 hu12 hu13
       obtain ⟨b_g, rfl, hgY, hRg⟩ := hg9
       have lt_k_g : b_k < b_g := Nat.lt_of_lt_of_le HR_k.out.lt hgY
       have lt_m_g : b_m < b_g := Nat.lt_of_lt_of_le HR_m.out.lt hgY
       have lt_s_g : b_s < b_g := Nat.lt_of_lt_of_le HR_s.out.lt hgY
       have lt_x_g : b_x < b_g := Nat.lt_of_lt_of_le HR_x.out.lt hgY
       have lt_y_g : (b_x + 1) < b_g := Nat.lt_of_lt_of_le HR_y.out.lt hgY
       have lt_c_g : (b_x + 2) < b_g := Nat.lt_of_lt_of_le HR_c.out.lt hgY
       have lt_e_g : b_e < b_g := Nat.lt_of_lt_of_le HR_e.out.lt hgY
       have le_g : Z.heap.size ≤ b_g := Nat.le_trans HW.out.size hgY
       clear hgY
       replace HR_k := Lib.hid (HR_k.out.ext hbz)
       replace HR_m := Lib.hid (HR_m.out.ext hbz)
       replace HR_s := Lib.hid (HR_s.out.ext hbz)
       replace HR_x := Lib.hid (HR_x.out.ext hbz)
       replace HR_y := Lib.hid (HR_y.out.ext hbz)
       replace HR_c := Lib.hid (HR_c.out.ext hbz)
       replace HR_e := Lib.hid (HR_e.out.ext hbz)
       replace HXk := Lib.hid (HXk.out.ext hbz)
       replace HXm := Lib.hid (HXm.out.ext hbz)
       replace HX := Lib.hid (HX.out.ext hbz)
       replace HXx := Lib.hid (HXx.out.ext hbz)
       replace HXy := Lib.hid (HXy.out.ext hbz)
       replace HXc := Lib.hid (HXc.out.ext hbz)
       replace HXe := Lib.hid (HXe.out.ext hbz)
       replace HW := Lib.hid (ext_trans HW.out hbz)
       clear c_x_0 c_x_1 c_x_2 c_y_0 c_y_1 c_y_2 c_c_0 c_c_1 c_c_2 c_k_0 c_k_1 c_k_2
       clear hbz
       obtain ⟨t4, rfl, hx9⟩ := hv9.y3
       clear hv9
       have HXg : Hid (XR w16' (y3V t4) re) := Lib.hid (hx9)
       clear hx9
       have HR_g : Hid (RH w16' b_g #[.bool false, .slice none 0 0, .slice none 0 0] 52) := Lib.hid hRg
       clear hRg
       show wpList _ _ _ _ _ _
       simp only [Act.put, zzp]
       obtain ⟨c_g_0, c_g_1, c_g_2⟩ := zs3 HR_g.out
       have f_g_0 := HR_g.out.fre 0
       have f_g_1 := HR_g.out.fre 1
       have f_g_2 := HR_g.out.fre 2
       go_upto_region 22 with (fail)
       obtain ⟨w17', hX⟩ : ∃ Z9, Z9 = (((w16'.setCell ⟨b_g, 0, none⟩ (.bool t4.b)).setCell ⟨b_g, 1, none⟩ (.slice t4.a1 t4.n1 t4.c1)).setCell ⟨b_g, 2, none⟩ (.slice t4.a2 t4.n2 t4.c2)) := ⟨_, rfl⟩
       rw [← hX]
       have n_g : Hid (RH w17' b_g #[.bool t4.b, .slice t4.a1 t4.n1 t4.c1, .slice t4.a2 t4.n2 t4.c2] 52) := by rw [hX]; exact Lib.hid ((((HR_g.out).set 0 (.bool t4.b)).set 1 (.slice t4.a1 t4.n1 t4.c1)).set 2 (.slice t4.a2 t4.n2 t4.c2))
       have n_k : Hid (RH w17' b_k #[.bool tk.b, .slice tk.a1 tk.n1 tk.c1, .slice tk.a2 tk.n2 tk.c2] 52) := by rw [hX]; exact Lib.hid (zzo (zzo (zzo (HR_k.out) (by omega)) (by omega)) (by omega))
       have n_m : Hid (RH w17' b_m #[.bool tm.b, .slice tm.a1 tm.n1 tm.c1, .slice tm.a2 tm.n2 tm.c2] 52) := by rw [hX]; exact Lib.hid (zzo (zzo (zzo (HR_m.out) (by omega)) (by omega)) (by omega))
       have n_s : Hid (RH w17' b_s (smA (sn_) st) 59) := by rw [hX]; exact Lib.hid (zzo (zzo (zzo (HR_s.out) (by omega)) (by omega)) (by omega))
       have n_x : Hid (RH w17' b_x #[.bool t1.b, .slice t1.a1 t1.n1 t1.c1, .slice t1.a2 t1.n2 t1.c2] 52) := by rw [hX]; exact Lib.hid (zzo (zzo (zzo (HR_x.out) (by omega)) (by omega)) (by omega))
       have n_y : Hid (RH w17' (b_x + 1) #[.bool t2.b, .slice t2.a1 t2.n1 t2.c1, .slice t2.a2 t2.n2 t2.c2] 52) := by rw [hX]; exact Lib.hid (zzo (zzo (zzo (HR_y.out) (by omega)) (by omega)) (by omega))
       have n_c : Hid (RH w17' (b_x + 2) #[.bool t3.b, .slice t3.a1 t3.n1 t3.c1, .slice t3.a2 t3.n2 t3.c2] 52) := by rw [hX]; exact Lib.hid (zzo (zzo (zzo (HR_c.out) (by omega)) (by omega)) (by omega))
       have n_e : Hid (RH w17' b_e #[.bool te.b, .slice te.a1 te.n1 te.c1, .slice te.a2 te.n2 te.c2] 52) := by rw [hX]; exact Lib.hid (zzo (zzo (zzo (HR_e.out) (by omega)) (by omega)) (by omega))
       have HK_ : ∀ p : Addr, p.block ≠ b_g → w17'.cell? p = w16'.cell? p := fun p hp => by rw [hX]; exact (cs_other hp).trans ((cs_other hp).trans (cs_other hp))
       have n_HXk : Hid (XR w17' (y3V tk) kq) := Lib.hid (HXk.out.far HR_g.out.box (noW_all (by simp [isWord])) HK_)
       have n_HXm : Hid (XR w17' (y3V tm) mq) := Lib.hid (HXm.out.far HR_g.out.box (noW_all (by simp [isWord])) HK_)
       have n_HX : Hid (SX w17' st aq) := Lib.hid (HX.out.far HR_g.out.box (noW_all (by simp [isWord])) HK_)
       have n_HXx : Hid (XR w17' (y3V t1) rA) := Lib.hid (HXx.out.far HR_g.out.box (noW_all (by simp [isWord])) HK_)
       have n_HXy : Hid (XR w17' (y3V t2) bq) := Lib.hid (HXy.out.far HR_g.out.box (noW_all (by simp [isWord])) HK_)
       have n_HXc : Hid (XR w17' (y3V t3) cq) := Lib.hid (HXc.out.far HR_g.out.box (noW_all (by simp [isWord])) HK_)
       have n_HXe : Hid (XR w17' (y3V te) me) := Lib.hid (HXe.out.far HR_g.out.box (noW_all (by simp [isWord])) HK_)
       have n_HXg : Hid (XR w17' (y3V t4) re) := Lib.hid (HXg.out.far HR_g.out.box (noW_all (by simp [isWord])) HK_)
       have nW : Hid (Below Z.heap.size Z w17') := by rw [hX]; exact Lib.hid (zzw (zzw (zzw (HW.out) (by omega)) (by omega)) (by omega))
       clear c_g_0 c_g_1 c_g_2 f_g_0 f_g_1 f_g_2
       clear hX HK_ HW HR_k HR_m HR_s HR_x HR_y HR_c HR_e HR_g HXk HXm HX HXx HXy HXc HXe HXg
       have HR_k := n_k; clear n_k
       have HR_m := n_m; clear n_m
       have HR_s := n_s; clear n_s
       have HR_x := n_x; clear n_x
       have HR_y := n_y; clear n_y
       have HR_c := n_c; clear n_c
       have HR_e := n_e; clear n_e
       have HR_g := n_g; clear n_g
       have HXk := n_HXk; clear n_HXk
       have HXm := n_HXm; clear n_HXm
       have HX := n_HX; clear n_HX
       have HXx := n_HXx; clear n_HXx
       have HXy := n_HXy; clear n_HXy
       have HXc := n_HXc; clear n_HXc
       have HXe := n_HXe; clear n_HXe
       have HXg := n_HXg; clear n_HXg
       have HW := nW; clear nW
       clear HR_x
       clear HR_y
       clear HR_c
       clear HXx
       clear HXy
       clear HXc
       obtain ⟨c_s_0, -, -, -, -, -, -, -, -, -, -, -, -, -, -, -⟩ := zs16 HR_s.out
       obtain ⟨c_e_0, c_e_1, c_e_2⟩ := zs3 HR_e.out
       obtain ⟨c_g_0, c_g_1, c_g_2⟩ := zs3 HR_g.out
       refine Grow.wp_region_growf 16 14 [TP.eq (.pointer (some ⟨b_s, 0, none⟩)), TP.eq (.int .i64 sn_), TP.eq (.agg #[.bool te.b, .slice te.a1 te.n1 te.c1, .slice te.a2 te.n2 te.c2]), TP.eq (.agg #[.bool t4.b, .slice t4.a1 t4.n1 t4.c1, .slice t4.a2 t4.n2 t4.c2]), TP.eq (.pointer (some ⟨b_s, 0, none⟩)), TP.eq (.int .i64 sn_), TP.eq (.int .i64 m9), TP.eq (.pointer (some ⟨b_s, 0, none⟩)), TP.eq (.int .i64 sn_), TP.xq nn, TP.xq vq, TP.eq (.tuple #[.agg #[.int .i64 sn_, .string (showN me), .string (showD me), .string (showN vq), .string (showD vq)], .int .i64 0]), TP.eq (.tuple #[.agg #[.int .i64 sn_, .string (showN me), .string (showD me), .string (showN vq), .string (showD vq)], .int .i64 0]), TP.eq (.agg #[.int .i64 sn_, .string (showN me), .string (showD me), .string (showN vq), .string (showD vq)]), TP.eq (.int .i64 0), TP.row w17'.heap.size #[.int .i64 0, .string ⟨#[]⟩, .string ⟨#[]⟩, .string ⟨#[]⟩, .string ⟨#[]⟩] 33] [[], [0], [], [], [], [4], [5], [], [7], [6, 8], [3, 9], [1, 2, 10], [11], [12], [12], []] [0, 1, 2, 3, 4, 5, 6, 7, 8, 9, 10, 11, 12, 13, 14, 15] (by kernel_rfl) (by kernel_rfl) ⟨?o0o, ?o1o, ?o2o, ?o3o, ?o4o, ?o5o, ?o6o, ?o7o, ?o8o, ?o9o, ?o10o, ?o11o, ?o12o, ?o13o, ?o14o, ?o15o, trivial⟩ ?_
       case o0o | o4o | o7o =>
        intro w' hb
        show wpList _ _ _ _ _ _
        go_wp2
        exact ⟨rfl, Below.refl _ _, rfl⟩
       case o1o =>
        intro w' hb v1 hv1
        cases hv1
        have c_s_0' := zzc hb c_s_0
        show wpList _ _ _ _ _ _
        simp only [Grow.dstOf, zzp, Act.put]
        go_wp2
        exact ⟨rfl, Below.refl _ _, rfl⟩
       case o2o | o3o =>
        intro w' hb
        have c_e_0' := zzc hb c_e_0
        have c_e_1' := zzc hb c_e_1
        have c_e_2' := zzc hb c_e_2
        have c_g_0' := zzc hb c_g_0
        have c_g_1' := zzc hb c_g_1
        have c_g_2' := zzc hb c_g_2
        show wpList _ _ _ _ _ _
        go_wp2
        exact ⟨rfl, Below.refl _ _, rfl⟩
       case o5o | o8o =>
        intro w' hb v1 hv1
        cases hv1
        have c_s_0' := zzc hb c_s_0
        show wpList _ _ _ _ _ _
        simp only [Grow.dstOf, zzp, Act.put]
        go_wp2
        exact ⟨rfl, Below.refl _ _, rfl⟩
       case o6o | o12o | o13o | o14o =>
        intro w' hb v1 hv1
        cases hv1
        show wpList _ _ _ _ _ _
        simp only [Grow.dstOf, zzp, Act.put]
        go_wp2
        exact ⟨rfl, Below.refl _ _, rfl⟩
       case o9o =>
        intro w' hb v1 hv1 v2 hv2
        cases hv1
        cases hv2
        show wpList _ _ _ _ _ _
        simp only [Grow.dstOf, zzp, Act.put]
        go_wp2_with fail
        refine (mtimes_is m9 sn_ nn HNNQ.out (by omega) (by omega) (by omega) (by omega) w').mono ?_
        rintro e wz ⟨vz, rfl, hxz, hbz⟩
        go_wp2
        exact ⟨hxz, hbz, rfl⟩
       case o10o =>
        intro w' hb v1 hv1 v2 hv2
        cases hv1
        have hv2' : XR w' v2 nn := hv2
        clear hv2
        show wpList _ _ _ _ _ _
        simp only [Grow.dstOf, zzp, Act.put]
        go_wp2_with fail
        refine (mover_is re nn vq E_vq.out HNN.out _ _ w' (HXg.out.ext hb) hv2' (N_re.out.sm (by omega) (by omega)) (N_nn.out.sm (by omega) (by omega))).mono ?_
        rintro e wz ⟨vz, rfl, hxz, hbz⟩
        go_wp2
        exact ⟨hxz, hbz, rfl⟩
       case o11o =>
        intro w' hb v1 hv1 v2 hv2 v3 hv3
        cases hv1
        cases hv2
        have hv3' : XR w' v3 vq := hv3
        clear hv3
        obtain ⟨tv, rfl, hxv⟩ := hv3'.y3
        show wpList _ _ _ _ _ _
        simp only [Grow.dstOf, zzp, Act.put]
        go_wp2_with fail
        refine (estimate_at sn_ me vq te tv w' (HXe.out.ext hb) hxv ⟨⟨(N_me.out.fits (by omega) (by omega)), (N_me.out.sm (by omega) (by omega))⟩, (N_vq.out.fits (by omega) (by omega)), (N_vq.out.sm (by omega) (by omega))⟩).mono ?_
        rintro e wz ⟨rfl, hbz⟩
        go_wp2
        exact ⟨rfl, hbz, rfl⟩
       case o15o =>
        intro w' hb
        show wpList _ _ _ _ _ _
        go_wp2
        exact ⟨⟨_, rfl, hb.size, RH.new _ _ _⟩, ext_alloc _ _, rfl⟩
       intro w18' hbz u0 hu0 u1 hu1 u2 hu2 u3 hu3 u4 hu4 u5 hu5 u6 hu6 u7 hu7 u8 hu8 u9 hu9 u10 hu10 u11 hu11 u12 hu12 u13 hu13 u14 hu14 u15 hu15
       obtain rfl : u13 = _ := hu13
       obtain rfl : u14 = _ := hu14
       have hg9 : ∃ g, u15 = .pointer (some ⟨g, 0, none⟩) ∧ w17'.heap.size ≤ g ∧ RH w18' g #[.int .i64 0, .string ⟨#[]⟩, .string ⟨#[]⟩, .string ⟨#[]⟩, .string ⟨#[]⟩] 33 := hu15
       clear hu0 hu1 hu2 hu3 hu4 hu5 hu6 hu7 hu8 hu9 hu10 hu11 hu12 hu15
       obtain ⟨b_o, rfl, hgY, hRg⟩ := hg9
       have lt_k_o : b_k < b_o := Nat.lt_of_lt_of_le HR_k.out.lt hgY
       have lt_m_o : b_m < b_o := Nat.lt_of_lt_of_le HR_m.out.lt hgY
       have lt_s_o : b_s < b_o := Nat.lt_of_lt_of_le HR_s.out.lt hgY
       have lt_e_o : b_e < b_o := Nat.lt_of_lt_of_le HR_e.out.lt hgY
       have lt_g_o : b_g < b_o := Nat.lt_of_lt_of_le HR_g.out.lt hgY
       have le_o : Z.heap.size ≤ b_o := Nat.le_trans HW.out.size hgY
       clear hgY
       replace HR_k := Lib.hid (HR_k.out.ext hbz)
       replace HR_m := Lib.hid (HR_m.out.ext hbz)
       replace HR_s := Lib.hid (HR_s.out.ext hbz)
       replace HR_e := Lib.hid (HR_e.out.ext hbz)
       replace HR_g := Lib.hid (HR_g.out.ext hbz)
       replace HXk := Lib.hid (HXk.out.ext hbz)
       replace HXm := Lib.hid (HXm.out.ext hbz)
       replace HX := Lib.hid (HX.out.ext hbz)
       replace HXe := Lib.hid (HXe.out.ext hbz)
       replace HXg := Lib.hid (HXg.out.ext hbz)
       replace HW := Lib.hid (ext_trans HW.out hbz)
       clear c_s_0 c_e_0 c_e_1 c_e_2 c_g_0 c_g_1 c_g_2
       clear hbz
       have HR_o : Hid (RH w18' b_o #[.int .i64 0, .string ⟨#[]⟩, .string ⟨#[]⟩, .string ⟨#[]⟩, .string ⟨#[]⟩] 33) := Lib.hid hRg
       clear hRg
       obtain ⟨c_o_0, c_o_1, c_o_2, c_o_3, c_o_4⟩ := zs5 HR_o.out
       have f_o_0 := HR_o.out.fre 0
       have f_o_1 := HR_o.out.fre 1
       have f_o_2 := HR_o.out.fre 2
       have f_o_3 := HR_o.out.fre 3
       have f_o_4 := HR_o.out.fre 4
       refine ⟨?_, ?_⟩
       all_goals show wpList _ _ _ _ _ _
       all_goals simp only [Act.put, zzp]
       ·go_wp2 <;> rfl
       go_upto_region 23 with (fail)
       obtain ⟨w19', hX⟩ : ∃ Z9, Z9 = (((((w18'.setCell ⟨b_o, 0, none⟩ (.int .i64 sn_)).setCell ⟨b_o, 1, none⟩ (.string (showN me))).setCell ⟨b_o, 2, none⟩ (.string (showD me))).setCell ⟨b_o, 3, none⟩ (.string (showN vq))).setCell ⟨b_o, 4, none⟩ (.string (showD vq))) := ⟨_, rfl⟩
       rw [← hX]
       have n_o : Hid (RH w19' b_o #[.int .i64 sn_, .string (showN me), .string (showD me), .string (showN vq), .string (showD vq)] 33) := by rw [hX]; exact Lib.hid ((((((HR_o.out).set 0 (.int .i64 sn_)).set 1 (.string (showN me))).set 2 (.string (showD me))).set 3 (.string (showN vq))).set 4 (.string (showD vq)))
       have n_k : Hid (RH w19' b_k #[.bool tk.b, .slice tk.a1 tk.n1 tk.c1, .slice tk.a2 tk.n2 tk.c2] 52) := by rw [hX]; exact Lib.hid (zzo (zzo (zzo (zzo (zzo (HR_k.out) (by omega)) (by omega)) (by omega)) (by omega)) (by omega))
       have n_m : Hid (RH w19' b_m #[.bool tm.b, .slice tm.a1 tm.n1 tm.c1, .slice tm.a2 tm.n2 tm.c2] 52) := by rw [hX]; exact Lib.hid (zzo (zzo (zzo (zzo (zzo (HR_m.out) (by omega)) (by omega)) (by omega)) (by omega)) (by omega))
       have n_s : Hid (RH w19' b_s (smA (sn_) st) 59) := by rw [hX]; exact Lib.hid (zzo (zzo (zzo (zzo (zzo (HR_s.out) (by omega)) (by omega)) (by omega)) (by omega)) (by omega))
       have n_e : Hid (RH w19' b_e #[.bool te.b, .slice te.a1 te.n1 te.c1, .slice te.a2 te.n2 te.c2] 52) := by rw [hX]; exact Lib.hid (zzo (zzo (zzo (zzo (zzo (HR_e.out) (by omega)) (by omega)) (by omega)) (by omega)) (by omega))
       have n_g : Hid (RH w19' b_g #[.bool t4.b, .slice t4.a1 t4.n1 t4.c1, .slice t4.a2 t4.n2 t4.c2] 52) := by rw [hX]; exact Lib.hid (zzo (zzo (zzo (zzo (zzo (HR_g.out) (by omega)) (by omega)) (by omega)) (by omega)) (by omega))
       have HK_ : ∀ p : Addr, p.block ≠ b_o → w19'.cell? p = w18'.cell? p := fun p hp => by rw [hX]; exact (cs_other hp).trans ((cs_other hp).trans ((cs_other hp).trans ((cs_other hp).trans (cs_other hp))))
       have n_HXk : Hid (XR w19' (y3V tk) kq) := Lib.hid (HXk.out.far HR_o.out.box (noW_all (by simp [isWord])) HK_)
       have n_HXm : Hid (XR w19' (y3V tm) mq) := Lib.hid (HXm.out.far HR_o.out.box (noW_all (by simp [isWord])) HK_)
       have n_HX : Hid (SX w19' st aq) := Lib.hid (HX.out.far HR_o.out.box (noW_all (by simp [isWord])) HK_)
       have n_HXe : Hid (XR w19' (y3V te) me) := Lib.hid (HXe.out.far HR_o.out.box (noW_all (by simp [isWord])) HK_)
       have n_HXg : Hid (XR w19' (y3V t4) re) := Lib.hid (HXg.out.far HR_o.out.box (noW_all (by simp [isWord])) HK_)
       have nW : Hid (Below Z.heap.size Z w19') := by rw [hX]; exact Lib.hid (zzw (zzw (zzw (zzw (zzw (HW.out) (by omega)) (by omega)) (by omega)) (by omega)) (by omega))
       clear c_o_0 c_o_1 c_o_2 c_o_3 c_o_4 f_o_0 f_o_1 f_o_2 f_o_3 f_o_4
       clear hX HK_ HW HR_k HR_m HR_s HR_e HR_g HR_o HXk HXm HX HXe HXg
       have HR_k := n_k; clear n_k
       have HR_m := n_m; clear n_m
       have HR_s := n_s; clear n_s
       have HR_e := n_e; clear n_e
       have HR_g := n_g; clear n_g
       have HR_o := n_o; clear n_o
       have HXk := n_HXk; clear n_HXk
       have HXm := n_HXm; clear n_HXm
       have HX := n_HX; clear n_HX
       have HXe := n_HXe; clear n_HXe
       have HXg := n_HXg; clear n_HXg
       have HW := nW; clear nW
       clear HX
       clear HXe
       clear HXg
       clear HR_s
       clear HR_e
       clear HR_g
       obtain ⟨c_o_0, c_o_1, c_o_2, c_o_3, c_o_4⟩ := zs5 HR_o.out
       have HRA := Lib.hid (HEO.out.ext (ext_trans HW.out (ext_alloc w19' (.cells #[.int .i64 sn_, .string (showN me), .string (showD me), .string (showN vq), .string (showD vq)] 33))))
       have hk2 : k + 1 ≤ maxLen := by unfold maxLen; omega
       go_wp2_with (at_builtin; refine wpList_append_sl rfl _ _ 28 rfl w8'.heap.size 33 Tryz.underlying28 HI.out rfl (by decide) rfl HRA.out.own rfl (Sl.new w19' #[.int .i64 sn_, .string (showN me), .string (showD me), .string (showN vq), .string (showD vq)] _ 1 1 (by omega) (by decide)) rfl (by intro u hu; simp at hu; rcases hu with rfl | rfl | rfl | rfl | rfl <;> rfl) hk2 (by omega) HRA.out.low.size ?_; intro v7 w7 hown7 hg7 _; have HX7 := Lib.hid (HRA.out.push HGE.out hown7 hg7); clear hown7 hg7)
       go_roundw
       case rel => exact ⟨k + 1, by omega, by go_num, HX7⟩
       case measure => simp [intOf]; omega
      ·obtain rfl : k = ss.length := by omega
       have HO := Lib.hid (Sl.ofOwn HEO.out.own)
       have e9 : (ajL al).take ss.length = ajL al := by rw [HLS.out]; unfold ajL; rw [← List.length_map (f := ajE (slQ al) (mdQ al)), List.take_length]
       rw [e9] at HO
       clear e9
       obtain ⟨a9, c9, hv9, _⟩ := id HO.out
       subst hv9
       go_wp2
       exact bodyPost_ret (v := .tuple #[.slice a9 ss.length c9, .int .i64 0]) (by simp [results, Tryz.results7, go_sem]) rfl (HPF.out a9 c9 _ HO.out HW.out)
  ·have HP : Hid (raF 2 l = 9) := Lib.hid (by rw [HP2.out, if_pos (by rw [← HFEW.out, HBB.out])])
   go_wp2
   exact bodyPost_ret (v := .tuple #[.slice none 0 0, .int .i64 9]) (by simp [results, Tryz.results7, go_sem]) rfl (AjPost.bad HP.out (by decide) HW.out)
 ·have hne2 : (raF 1 l != 0) = true := by simp [hz]
  have HP : Hid (raF 2 l = raF 1 l) := Lib.hid (ra_two_ne hz)
  have HNE := Lib.hid hz
  clear hz hss
  go_wp2
  exact bodyPost_ret (v := .tuple #[.slice none 0 0, .int .i64 (raF 1 l)]) (by simp [results, Tryz.results7, go_sem]) rfl (AjPost.bad HP.out HNE.out HW.out)
end Nm
end Go.Proofs.YtlbnjgnbpiidaaaGreatDoor
