/- awake of package burgeelaw8. Printed by gen_lawadd.py. The walk of MetricSumsAdd. Printed by gen_lawadd.py. The frame of every law: a call that returns true, and leaves all that was there as it was, meets the row's post. How the arguments of a law, read as data, lie in memory: slices of whatever elements, field by field. Pairs and moments that are read as data. Printed by gen_lawsums.py. -/
import Derived.Test.YtilolnjbpokdnaaBd26
import Derived.Deep.Cut
import Derived.Test.YtilolnjbpokdnaaBd21
import Derived.Test.YtilolnjbpokdnaaBd22
import Derived.Test.YtilolnjbpokdnaaBd23
import Derived.Test.YtilolnjbpokdnaaRows
import Derived.WalkKit
import Derived.ProofKit
import Derived.SizedLaws
import Derived.OpenShut
import Derived.JoinedCond
import Derived.Deep.CondSized
import Derived.Test.YtilolnjbpokdnaaBd00
import Derived.ChangeArms
import Derived.DataReads
import Derived.Test.YtilolnjbpokdnaaProg
namespace Go.Proofs.Ytilolnjbpokdnaa
open Go.RowKit
theorem awake8_s : Qt.sortI [4, 1, 3] = [1, 3, 4] := by
 unfold Qt.sortI
 simp [List.mergeSort, List.MergeSort.Internal.splitInTwo]
theorem awake8_q : Qt.quantV [4, 1, 3] 500 = 3 ∧ Qt.quantF [4, 1, 3] 500 = 0 := by
 unfold Qt.quantV
 rw [awake8_s]
 decide
theorem awake8_at (w : World) : Calls Try.prog 4 #[] w fun e w' => e = .returned (.bool true) ∧ Below w.heap.size w w' := by
 have HP := Lib.hid awake8_q
 go_enter Try.func4, Try.ntmps4
 go_wp2_with fail
 refine (Qt.metric_Quantile [4, 1, 3] (some ⟨w.heap.size, 0, none⟩) 3 500 _ (Sl.new w #[.int .i64 4, .int .i64 1, .int .i64 3] _ 3 3 (by omega) (by decide))).mono ?_
 rintro e w1 ⟨rfl, hb⟩
 rw [HP.out.1, HP.out.2]
 have hbw := ext_trans (ext_alloc w _) hb
 clear hb
 go_wp2
 go_ret
 exact ⟨rfl, hbw⟩
end Go.Proofs.Ytilolnjbpokdnaa
namespace Go.Proofs.Ytilolnjbpokdnaa
open Go.RowKit
namespace Nm
open _root_.Go.Proofs.Ytilolnjbpokdnaa.Nt (RH RH.cell RH.box RH.row RH.lt RH.new RH.ext RH.fre RH.set RH.other RH.row_other store_cells)
theorem sumV5_any (l : List PX) : ∃ (n : Int) (r : R5), (sumV5 l).toArray = mrA n r := by
 by_cases h : sumF l = 0
 ·exact ⟨_, _, by unfold sumV5; rw [if_pos h]; exact moC_arr _ _⟩
 ·exact ⟨_, _, by unfold sumV5; rw [if_neg h]; exact moZ_arr⟩
theorem qf_ok {q : Q5} (h : QF q) : q.r.ok := ⟨show_size h.x, show_size h.y, show_size h.xx, show_size h.yy, show_size h.xy⟩
/-- all that the law leans on, under letters -/
theorem add_all (l m : List PX) : ∃ (n1 : Int) (r1 : R5) (f1 : Int) (n2 : Int) (r2 : R5) (f2 : Int) (n3 : Int) (r3 : R5) (f3 : Int),
  ((sumV5 l).toArray = mrA n1 r1 ∧ sumF l = f1) ∧ ((sumV5 m).toArray = mrA n2 r2 ∧ sumF m = f2) ∧ ((sumV5 (l ++ m)).toArray = mrA n3 r3 ∧ sumF (l ++ m) = f3) ∧
  (f1 = 0 → f2 = 0 → f3 = 0 → r1.ok ∧ r2.ok ∧ adF n1 n2 r1 r2 = 0 ∧ adA n1 n2 r1 r2 = mrA n3 r3) ∧ (f1 = 0 → f2 = 0 → f3 ≠ 0 → 20000 < l.length + m.length) := by
 have hlarge : sumF l = 0 → sumF m = 0 → sumF (l ++ m) ≠ 0 → 20000 < l.length + m.length := fun h1 h2 h3 => by
  rw [sumF_app h1 h2] at h3
  by_cases h : 20000 < l.length + m.length
  ·exact h
  ·rw [if_neg h] at h3; exact absurd rfl h3
 by_cases h : sumF l = 0 ∧ sumF m = 0 ∧ sumF (l ++ m) = 0
 ·obtain ⟨h1, h2, h3⟩ := h
  have hv : ∀ {x : List PX}, sumF x = 0 → (sumV5 x).toArray = mrA (x.length : Int) (m5q (m5L m5z x)).r := fun {x} hx => by unfold sumV5; rw [if_pos hx]; exact moC_arr _ _
  exact ⟨_, _, _, _, _, _, _, _, _, ⟨hv h1, rfl⟩, ⟨hv h2, rfl⟩, ⟨hv h3, rfl⟩, fun _ _ _ => ⟨qf_ok (sums_ln h1).qf, qf_ok (sums_ln h2).qf, (add_is h1 h2 h3).1, (add_is h1 h2 h3).2⟩, hlarge⟩
 ·obtain ⟨n1, r1, e1⟩ := sumV5_any l
  obtain ⟨n2, r2, e2⟩ := sumV5_any m
  obtain ⟨n3, r3, e3⟩ := sumV5_any (l ++ m)
  exact ⟨n1, r1, _, n2, r2, _, n3, r3, _, ⟨e1, rfl⟩, ⟨e2, rfl⟩, ⟨e3, rfl⟩, fun h1 h2 h3 => absurd ⟨h1, h2, h3⟩ h, hlarge⟩
set_option maxRecDepth 100000 in
set_option maxHeartbeats 16000000 in
theorem lawAdd_at (l m : List PX) (a b : Option Addr) (c d : Nat) (w : World) (hs : Sl w (.slice a l.length c) l.length (l.flatMap pxL)) (hs2 : Sl w (.slice b m.length d) m.length (m.flatMap pxL)) (ht : l.length + m.length ≤ 17592186044416) :
  Calls Try.prog 3 #[.slice a l.length c, .slice b m.length d] w fun e w' => e = .returned (.bool true) ∧ Below w.heap.size w w' := by
 have HS := Lib.hid (And.intro hs hs2)
 clear hs hs2
 obtain ⟨n1, r1, f1, n2, r2, f2, n3, r3, f3, h1, h2, h3, hD, hC⟩ := add_all l m
 have HA := Lib.hid (And.intro h1 (And.intro h2 (And.intro h3 (And.intro hD hC))))
 clear h1 h2 h3 hD hC
 obtain ⟨k, hk⟩ : ∃ z, l ++ m = z := ⟨_, rfl⟩
 have HK := Lib.hid hk
 have HKL : Hid (k.length = l.length + m.length) := Lib.hid (by rw [← hk, List.length_append])
 rw [hk] at HA
 clear hk
 go_enter Try.func3, Try.ntmps3
 have HW : Hid (Below w.heap.size w w) := Lib.hid (Below.refl _ _)
 go_wp2_with fail
 refine (awake8_at w).mono ?_
 rintro e w1' ⟨rfl, hbz⟩
 replace HW := Lib.hid (ext_trans HW.out hbz)
 clear hbz
 go_wp2_with fail
 refine (sumP_at l a c w1' (HS.out.1.ext HW.out)).mono ?_
 rintro e w2' ⟨rfl, hbz⟩
 rw [HA.out.1.1, HA.out.1.2]
 replace HW := Lib.hid (ext_trans HW.out hbz)
 clear hbz
 have hsz : (mrA (n1) r1).size = 11 := rfl
 have hsc := run_storeCells_new (P := Try.prog) w2' 27 #[.int .i64 0, .string ⟨#[]⟩, .string ⟨#[]⟩, .string ⟨#[]⟩, .string ⟨#[]⟩, .string ⟨#[]⟩, .string ⟨#[]⟩, .string ⟨#[]⟩, .string ⟨#[]⟩, .string ⟨#[]⟩, .string ⟨#[]⟩] (mrA (n1) r1) (mr_info _ _) rfl (mr_all _ _)
 go_upto_region 4 with (fail)
 clear hsc hsz
 refine wp_rows1 fun w3' hbz hR0 => ?_
 have le_x : w.heap.size ≤ w2'.heap.size := HW.out.size
 replace HW := Lib.hid (ext_trans HW.out hbz)
 clear hbz
 have HR_x : Hid (RH w3' w2'.heap.size (mrA (n1) r1) 27) := Lib.hid hR0
 clear hR0
 generalize w2'.heap.size = b_x at *
 go_wp2_with fail
 refine (sumP_at m b d w3' (HS.out.2.ext HW.out)).mono ?_
 rintro e w4' ⟨rfl, hbz⟩
 rw [HA.out.2.1.1, HA.out.2.1.2]
 replace HR_x := Lib.hid (HR_x.out.ext hbz)
 replace HW := Lib.hid (ext_trans HW.out hbz)
 clear hbz
 have hsz : (mrA (n2) r2).size = 11 := rfl
 have hsc := run_storeCells_new (P := Try.prog) w4' 27 #[.int .i64 0, .string ⟨#[]⟩, .string ⟨#[]⟩, .string ⟨#[]⟩, .string ⟨#[]⟩, .string ⟨#[]⟩, .string ⟨#[]⟩, .string ⟨#[]⟩, .string ⟨#[]⟩, .string ⟨#[]⟩, .string ⟨#[]⟩] (mrA (n2) r2) (mr_info _ _) rfl (mr_all _ _)
 go_upto_region 5 with (fail)
 clear hsc hsz
 refine wp_rows1 fun w5' hbz hR0 => ?_
 have lt_x_y : b_x < w4'.heap.size := HR_x.out.lt
 have le_y : w.heap.size ≤ w4'.heap.size := HW.out.size
 replace HR_x := Lib.hid (HR_x.out.ext hbz)
 replace HW := Lib.hid (ext_trans HW.out hbz)
 clear hbz
 have HR_y : Hid (RH w5' w4'.heap.size (mrA (n2) r2) 27) := Lib.hid hR0
 clear hR0
 generalize w4'.heap.size = b_y at *
 have hcc := CCCatP.cat_new' w5' a b c d l m (HS.out.1.ext HW.out) (HS.out.2.ext HW.out) ht
 rw [HK.out] at hcc
 go_wp2_with fail
 refine hcc.mono ?_
 rintro e w6' ⟨ca, ccap, rfl, hsc, _, hbz⟩
 clear hcc
 have HS3 := Lib.hid hsc
 clear hsc
 replace HR_x := Lib.hid (HR_x.out.ext hbz)
 replace HR_y := Lib.hid (HR_y.out.ext hbz)
 replace HW := Lib.hid (ext_trans HW.out hbz)
 clear hbz
 go_wp2_with fail
 refine (sumP_at k ca ccap w6' HS3.out).mono ?_
 rintro e w7' ⟨rfl, hbz⟩
 rw [HA.out.2.2.1.1, HA.out.2.2.1.2]
 replace HR_x := Lib.hid (HR_x.out.ext hbz)
 replace HR_y := Lib.hid (HR_y.out.ext hbz)
 replace HW := Lib.hid (ext_trans HW.out hbz)
 clear hbz
 have hsz : (mrA (n3) r3).size = 11 := rfl
 have hsc := run_storeCells_new (P := Try.prog) w7' 27 #[.int .i64 0, .string ⟨#[]⟩, .string ⟨#[]⟩, .string ⟨#[]⟩, .string ⟨#[]⟩, .string ⟨#[]⟩, .string ⟨#[]⟩, .string ⟨#[]⟩, .string ⟨#[]⟩, .string ⟨#[]⟩, .string ⟨#[]⟩] (mrA (n3) r3) (mr_info _ _) rfl (mr_all _ _)
 go_upto_region 6 with (fail)
 clear hsc hsz
 refine wp_rows1 fun w8' hbz hR0 => ?_
 have lt_x_z : b_x < w7'.heap.size := HR_x.out.lt
 have lt_y_z : b_y < w7'.heap.size := HR_y.out.lt
 have le_z : w.heap.size ≤ w7'.heap.size := HW.out.size
 replace HR_x := Lib.hid (HR_x.out.ext hbz)
 replace HR_y := Lib.hid (HR_y.out.ext hbz)
 replace HW := Lib.hid (ext_trans HW.out hbz)
 clear hbz
 have HR_z : Hid (RH w8' w7'.heap.size (mrA (n3) r3) 27) := Lib.hid hR0
 clear hR0
 generalize w7'.heap.size = b_z at *
 by_cases e1 : f1 = 0
 ·have t1 : (f1 != 0) = false := by simpa using e1
  by_cases e2 : f2 = 0
  ·have t2 : (f2 != 0) = false := by simpa using e2
   by_cases e3 : f3 = 0
   ·have t3 : (f3 != 0) = false := by simpa using e3
    have HD := Lib.hid (HA.out.2.2.2.1 e1 e2 e3)
    clear e1 e2 e3 HA
    go_wp2_with (first | (refine wpList_load_row rfl _ _ rfl b_x rfl _ (mrA (n1) r1) _ _ HR_x.out Try.underlying27 rfl (mr_info _ _) ?_) | (refine wpList_load_row rfl _ _ rfl b_y rfl _ (mrA (n2) r2) _ _ HR_y.out Try.underlying27 rfl (mr_info _ _) ?_))
    refine (addMom_at n1 n2 r1 r2 HD.out.1 HD.out.2.1 w8').mono ?_
    rintro e w9' ⟨rfl, hbz⟩
    rw [HD.out.2.2.1, HD.out.2.2.2]
    replace HR_x := Lib.hid (HR_x.out.ext hbz)
    replace HR_y := Lib.hid (HR_y.out.ext hbz)
    replace HR_z := Lib.hid (HR_z.out.ext hbz)
    replace HW := Lib.hid (ext_trans HW.out hbz)
    clear hbz
    have hsz : (mrA (n3) r3).size = 11 := rfl
    have hsc := run_storeCells_new (P := Try.prog) w9' 27 #[.int .i64 0, .string ⟨#[]⟩, .string ⟨#[]⟩, .string ⟨#[]⟩, .string ⟨#[]⟩, .string ⟨#[]⟩, .string ⟨#[]⟩, .string ⟨#[]⟩, .string ⟨#[]⟩, .string ⟨#[]⟩, .string ⟨#[]⟩] (mrA (n3) r3) (mr_info _ _) rfl (mr_all _ _)
    go_upto_region 9 with (fail)
    clear hsc hsz
    refine wp_rows1 fun w10' hbz hR0 => ?_
    have lt_x_v : b_x < w9'.heap.size := HR_x.out.lt
    have lt_y_v : b_y < w9'.heap.size := HR_y.out.lt
    have lt_z_v : b_z < w9'.heap.size := HR_z.out.lt
    have le_v : w.heap.size ≤ w9'.heap.size := HW.out.size
    replace HR_x := Lib.hid (HR_x.out.ext hbz)
    replace HR_y := Lib.hid (HR_y.out.ext hbz)
    replace HR_z := Lib.hid (HR_z.out.ext hbz)
    replace HW := Lib.hid (ext_trans HW.out hbz)
    clear hbz
    have HR_v : Hid (RH w10' w9'.heap.size (mrA (n3) r3) 27) := Lib.hid hR0
    clear hR0
    generalize w9'.heap.size = b_v at *
    obtain ⟨c_v_0, c_v_1, c_v_2, c_v_3, c_v_4, c_v_5, c_v_6, c_v_7, c_v_8, c_v_9, c_v_10⟩ := zs11 HR_v.out
    obtain ⟨c_z_0, c_z_1, c_z_2, c_z_3, c_z_4, c_z_5, c_z_6, c_z_7, c_z_8, c_z_9, c_z_10⟩ := zs11 HR_z.out
    go_wp2
    go_ret
    exact ⟨by simp, HW.out⟩
   ·have t3 : (f3 != 0) = true := by simpa using e3
    have hgt := HA.out.2.2.2.2 e1 e2 e3
    have hgt2 : (20000 : Int) < (l.length : Int) + (m.length : Int) := by omega
    clear e1 e2 e3
    go_wp2
    go_ret
    exact ⟨by simp, HW.out⟩
  ·have t2 : (f2 != 0) = true := by simpa using e2
   clear e1 e2
   go_wp2
   go_ret
   exact ⟨by simp, HW.out⟩
 ·have t1 : (f1 != 0) = true := by simpa using e1
  go_wp2
  go_ret
  exact ⟨by simp, HW.out⟩
end Nm
end Go.Proofs.Ytilolnjbpokdnaa
namespace Go.Proofs.Ytilolnjbpokdnaa
open Go.ChangeShapes Go.WideShapes Go.ChangeAt Go.RowKit

theorem own : ownKnob Try.prog.godebug = none := by kernel_rfl
theorem laidOut : laidOutB Try.prog = true := by kernel_rfl

theorem trodAll_below {H : Type} {enc : TypeId × Value → H} {P : Program} (hl : laidOutB P = true) {W W' : World} (hb : Below W.heap.size W W') :
    ∀ (ts : List TypeId) (vs : List Value) (ds : List (DataW H)) (ps : List MemPlace), (∀ t ∈ ts, P.readableRec t = true ∧ t < P.types.size) →
      DataW.TrodAll enc P W 0 (fun _ => true) true ts vs ds ps → (∀ x ∈ ps, x.block < W.heap.size) →
      DataW.TrodAll enc P W' 0 (fun b => decide (b < W.heap.size)) true ts vs ds ps
  | [], [], [], ps, _, h, _ => h
  | t :: ts, v :: vs, d :: ds, ps, hr, h, hlt => by
    obtain ⟨p, q, h1, h2, rfl⟩ := h
    refine ⟨p, q, Below.trod hl (hr t (by simp)).1 (hr t (by simp)).2 h1 hb (fun x hx => hlt x (by simp [hx])), ?_, rfl⟩
    exact trodAll_below hl hb ts vs ds q (fun t ht => hr t (by simp [ht])) h2 (fun x hx => hlt x (by simp [hx]))
  | [], [], _ :: _, _, _, h, _ => h.elim
  | [], _ :: _, [], _, _, h, _ => h.elim
  | [], _ :: _, _ :: _, _, _, h, _ => h.elim
  | _ :: _, [], [], _, _, h, _ => h.elim
  | _ :: _, [], _ :: _, _, _, h, _ => h.elim
  | _ :: _, _ :: _, [], _, _, h, _ => h.elim

theorem law_post {H : Type} {enc : TypeId × Value → H} {P : Program} (hl : laidOutB P = true) {f : Func} {s : ChangeSpec} (hv : s.vars = []) {W W' : World} {args : Array Value} {ds gs : List (DataW H)} {before : List MemPlace}
    (hW : DataW.Whole enc P f.params.toList s.vars false W args.toList ds gs before) (hb : Below W.heap.size W W')
    (hr0 : (f.params.toList.all fun t => P.readableRec t && decide (t < P.types.size)) = true) {tb : TypeId} (hres : f.resultTypes = #[tb]) (hub : P.underlying tb = some .bool)
    (hfn : s.fn H (ds ++ gs) = { results := [.lit (.bool true)], args := ds }) : s.post enc P f false true false false W args (.bool true) W' := by
  have hlt := hW.lt
  have hr : ∀ t ∈ f.params.toList, P.readableRec t = true ∧ t < P.types.size := fun t ht => by simpa using List.all_eq_true.1 hr0 t ht
  have hW' := hW
  obtain ⟨p, q, hA, hV, rfl, _, _⟩ := hW
  rw [hv] at hV
  obtain ⟨rfl, rfl⟩ := trodVars_none hV
  refine ⟨ds, [], _, [], p, [], hW', ?_, ?_, ?_, hb.frame _, fun h => by cases h⟩
  · rw [hfn, hres]
    exact trodAll_cons_mk (shut_bool hub true) trodAll_mk0
  · rw [hfn]
    exact trodAll_below hl hb _ _ _ _ hr hA (fun x hx => hlt x (by simp [hx]))
  · rw [hfn, hv]
    rfl
end Go.Proofs.Ytilolnjbpokdnaa
namespace Go.Proofs.Ytilolnjbpokdnaa
open Go.RowKit

/-- A list of things, each of which lies in some cells, one behind the other. -/
def Reps {α : Type} (R : α → List Value → Prop) : List α → List Value → Prop
  | [], cs => cs = []
  | x :: xs, cs => ∃ c r, cs = c ++ r ∧ R x c ∧ Reps R xs r

theorem Reps.mono {α : Type} {R R' : α → List Value → Prop} (h : ∀ x c, R x c → R' x c) : ∀ {l : List α} {cs : List Value}, Reps R l cs → Reps R' l cs
  | [], _, hr => hr
  | _ :: _, _, ⟨c, r, e, h1, h2⟩ => ⟨c, r, e, h _ _ h1, Reps.mono h h2⟩
theorem Reps.length {α : Type} {R : α → List Value → Prop} {sz : Nat} (hs : ∀ x c, R x c → c.length = sz) : ∀ {l : List α} {cs : List Value}, Reps R l cs → cs.length = l.length * sz
  | [], _, hr => by cases hr; simp
  | _ :: l, _, ⟨c, r, e, h1, h2⟩ => by
    subst e
    rw [List.length_append, hs _ _ h1, Reps.length hs h2, List.length_cons, Nat.add_mul]
    omega
theorem Reps.get {α : Type} {R : α → List Value → Prop} {sz : Nat} (hs : ∀ x c, R x c → c.length = sz) : ∀ {l : List α} {cs : List Value} {i : Nat} {x : α}, Reps R l cs → l[i]? = some x → ∃ c, R x c ∧ ∀ j u, c[j]? = some u → cs[i * sz + j]? = some u
  | [], _, _, _, _, hx => by simp at hx
  | y :: l, cs, 0, x, h, hx => by
    obtain ⟨c, r, rfl, h1, h2⟩ := h
    obtain rfl : y = x := by simpa using hx
    refine ⟨c, h1, fun j u hu => ?_⟩
    rw [Nat.zero_mul, Nat.zero_add, List.getElem?_append_left (List.getElem?_eq_some_iff.1 hu).1]; exact hu
  | y :: l, cs, i + 1, x, h, hx => by
    obtain ⟨c, r, rfl, h1, h2⟩ := h
    obtain ⟨c', h3, h4⟩ := Reps.get hs h2 (by simpa using hx)
    refine ⟨c', h3, fun j u hu => ?_⟩
    have hl := hs _ _ h1
    have e : (i + 1) * sz + j = c.length + (i * sz + j) := by rw [hl, Nat.add_mul]; omega
    rw [e, List.getElem?_append_right (by omega), ← h4 j u hu]
    congr 1; omega

theorem addr_of_cell {w : World} {a : Addr} {v : Value} (h : w.cell? a = some v) : a = ⟨a.block, a.off, none⟩ := by
  cases a with | mk b o s =>
  cases s with
  | none => rfl
  | some k =>
    exfalso
    unfold World.cell? at h
    simp only at h
    split at h <;> simp at h

theorem add_add_none (b o i j : Nat) : ((⟨b, o, none⟩ : Addr).add i).add j = ⟨b, o + (i + j), none⟩ := by
  rw [add_spot, add_spot, Nat.add_assoc]

/-- The elements of a slice that is read, one after the other, out of a reading of each. -/
theorem elems_reps {α : Type} {R : α → List Value → Prop} {sz : Nat} (hs : ∀ x c, R x c → c.length = sz) (f : Nat → List Value) :
    ∀ (n : Nat), (∀ i, i < n → ∃ x, R x (f i)) → ∃ l : List α, l.length = n ∧ Reps R l ((List.range n).flatMap f) ∧ ∀ i, i < n → ∀ j u, (f i)[j]? = some u → ((List.range n).flatMap f)[i * sz + j]? = some u
  | 0, _ => ⟨[], rfl, rfl, fun i h => by omega⟩
  | n + 1, h => by
    obtain ⟨l, hl, hr, hg⟩ := elems_reps hs f n (fun i hi => h i (by omega))
    obtain ⟨x, hx⟩ := h n (by omega)
    have hlen := Reps.length hs hr
    have happ : ∀ {l : List α} {cs : List Value}, Reps R l cs → Reps R (l ++ [x]) (cs ++ f n) := by
      intro l
      induction l with
      | nil => intro cs hc; cases hc; exact ⟨f n, [], by simp, hx, rfl⟩
      | cons y l ih =>
        rintro cs ⟨c, r, rfl, h1, h2⟩
        exact ⟨c, r ++ f n, by simp, h1, ih h2⟩
    have hfm : (List.range (n + 1)).flatMap f = (List.range n).flatMap f ++ f n := by
      rw [List.range_succ, List.flatMap_append]; simp
    refine ⟨l ++ [x], by simp [hl], by rw [hfm]; exact happ hr, fun i hi j u hu => ?_⟩
    rw [hfm]
    by_cases hin : i < n
    · have := hg i hin j u hu
      rw [List.getElem?_append_left (List.getElem?_eq_some_iff.1 this).1]; exact this
    · have : i = n := by omega
      subst this
      rw [hl] at hlen
      rw [List.getElem?_append_right (by omega), ← hu]
      congr 1; omega

/-- A slice that is read as data, out of how its elements are read. -/
theorem read_slice {H : Type} {enc : TypeId × Value → H} {P : Program} {W : World} {spare : Nat → Bool} {held : Bool} {α : Type} {R : α → List Value → Prop} {sz : Nat} (hs : ∀ x c, R x c → c.length = sz)
    {t e : TypeId} {fuel : Nat} {cs : List Value} {x : DataW H × List MemPlace} (ht : P.underlying t = some (.slice e)) (hC : P.cellsOf e = sz) (hsz : 0 < sz)
    (hel : ∀ n cs' y, n < fuel → DataW.trod enc P W 0 spare held n e cs' = some y → ∃ a, R a cs')
    (h : DataW.trod enc P W 0 spare held fuel t cs = some x) : ∃ (a : Option Addr) (l : List α) (cap : Nat) (cells : List Value), cs = [.slice a l.length cap] ∧ Sl W (.slice a l.length cap) l.length cells ∧ Reps R l cells := by
  rcases DataW.trod_slice ht h with ⟨rfl, _⟩ | ⟨a, len, cap, elems, rest, n, hn, rfl, hx, hb, hl, hm, hlen, hel', _⟩
  · exact ⟨none, [], 0, [], rfl, Sl.nil W, rfl⟩
  · rw [hC] at hel'
    have hget : ∀ i, i < len → ∃ c, (∀ j u, c[j]? = some u → W.cell? ((a.add (i * sz)).add j) = some u) ∧ ∃ y, R y c := by
      intro i hi
      have h1 := hel' i hi
      have hi' : i < elems.length := by omega
      rw [List.getElem?_eq_getElem hi'] at h1
      obtain ⟨c, hc, htr⟩ := Option.bind_eq_some_iff.1 h1
      obtain ⟨_, hcl, hat⟩ := World.cells?_some hc
      refine ⟨c, fun j u hu => ?_, hel n c _ (by omega) htr⟩
      rw [hat j (by have := (List.getElem?_eq_some_iff.1 hu).1; omega)]; exact hu
    have hget' : ∀ i, ∃ c, i < len → (∀ j u, c[j]? = some u → W.cell? ((a.add (i * sz)).add j) = some u) ∧ ∃ y, R y c := by
      intro i
      by_cases hi : i < len
      · obtain ⟨c, hc⟩ := hget i hi; exact ⟨c, fun _ => hc⟩
      · exact ⟨[], fun h => (hi h).elim⟩
    obtain ⟨f, hf⟩ := Classical.axiomOfChoice hget'
    obtain ⟨l, hll, hr, hg⟩ := elems_reps hs f len (fun i hi => (hf i hi).2)
    refine ⟨some a, l, cap, _, by rw [hll], ⟨_, _, rfl, by omega, hm, (fun h => by cases h), fun i u hu => ?_⟩, hr⟩
    have hrl := Reps.length hs hr
    have hi : i < len * sz := by have := (List.getElem?_eq_some_iff.1 hu).1; rw [hll] at hrl; omega
    have hid : i / sz < len := Nat.div_lt_of_lt_mul (by rw [Nat.mul_comm]; exact hi)
    obtain ⟨y, hy⟩ := (hf _ hid).2
    have hfl := hs _ _ hy
    have hj : i % sz < (f (i / sz)).length := by rw [hfl]; exact Nat.mod_lt _ hsz
    have h2 := hg _ hid _ _ (List.getElem?_eq_getElem hj)
    rw [Nat.div_add_mod' i sz, hu] at h2
    have hcell := (hf _ hid).1 _ _ (List.getElem?_eq_getElem hj)
    have h0 : 0 < len := Nat.lt_of_le_of_lt (Nat.zero_le _) hid
    obtain ⟨y0, hy0⟩ := (hf 0 h0).2
    have hj0 : 0 < (f 0).length := by rw [hs _ _ hy0]; exact hsz
    have hc0 := (hf 0 h0).1 _ _ (List.getElem?_eq_getElem hj0)
    rw [Nat.zero_mul] at hc0
    have ha : a = ⟨a.block, a.off, none⟩ := by
      have e : (a.add 0).add 0 = a := by simp [Addr.add]
      rw [e] at hc0
      exact addr_of_cell hc0
    refine ⟨a.block, a.off, by rw [← ha], ?_⟩
    rw [ha, add_add_none, Nat.div_add_mod' i sz] at hcell
    rw [hcell, Option.some.inj h2]

/-- How long a slice that is read can be. -/
theorem slice_sized {H : Type} {enc : TypeId × Value → H} {P : Program} {W : World} {spare : Nat → Bool} {held : Bool} {ts : List TypeId} {ds : List (DataW H)} (hsz : (DataW.weightsEach P ts ds).all (· ≤ reachBytes) = true) {j : Nat}
    {t e : TypeId} {fuel : Nat} {cs : List Value} {x : DataW H × List MemPlace} (ht : P.underlying t = some (.slice e)) (hj : ts[j]? = some t) (hd : ds[j]? = some x.1) (h : DataW.trod enc P W 0 spare held fuel t cs = some x) {a : Option Addr} {n cap : Nat} (hcs : cs = [.slice a n cap]) : n * P.bytesOf e ≤ reachBytes := by
  rcases DataW.trod_slice ht h with ⟨rfl, _⟩ | ⟨a', len, cap', elems, rest, m, hn, rfl, hx, hb, hl, hm, hlen, hel', _⟩
  · cases hcs; simp
  · cases hcs
    rw [hx] at hd
    have := sized_slice hsz hj hd ht
    simp only [List.length_map, hlen] at this
    exact Nat.le_trans (Nat.mul_le_mul_right _ (Nat.le_add_right _ _)) this
theorem i64ok_of {n : Int} (h : (Lit.int .i64 n).wf = true) : i64ok n := by
  simpa [Lit.wf, IntKind.min, IntKind.max, IntKind.signed, IntKind.bits, i64ok] using h
theorem uncons {l : List Value} {n : Nat} (h : l.length = n + 1) : ∃ c r, l = c :: r ∧ r.length = n := by
  cases l with
  | nil => cases h
  | cons c r => exact ⟨c, r, rfl, by simpa using h⟩
end Go.Proofs.Ytilolnjbpokdnaa
namespace Go.Proofs.Ytilolnjbpokdnaa
open Go.RowKit
theorem read_Pair {H : Type} {enc : TypeId × Value → H} {W : World} {spare : Nat → Bool} {held : Bool} (fuel : Nat) (cs : List Value) (x : DataW H × List MemPlace) (h : DataW.trod enc Try.prog W 0 spare held fuel 33 cs = some x) :
  ∃ (x0 : Int) (x1 : Int), cs = [.int .i64 x0, .int .i64 x1] ∧ i64ok x0 ∧ i64ok x1 := by
 obtain ⟨xs, n, rfl, _, hlen, hxl, hf⟩ := DataW.trod_struct Try.underlying33 h
 rw [show Try.prog.cellsOf 33 = 2 by kernel_rfl] at hlen
 obtain ⟨c0, r0, rfl, l0⟩ := uncons hlen
 obtain ⟨c1, r1, rfl, l1⟩ := uncons l0
 obtain rfl := List.length_eq_zero_iff.1 l1
 have hx : ∀ i, i < 2 → ∃ y, xs[i]? = some y := fun i hi => ⟨_, List.getElem?_eq_getElem (by rw [hxl]; exact hi)⟩
 have f0 : DataW.trod enc Try.prog W 0 spare held n 3 (List.take (Try.prog.cellsOf 3) (List.drop 0 [c0, c1])) = xs[0]? := hf 0 _ rfl
 rw [show Try.prog.cellsOf 3 = 1 by kernel_rfl] at f0
 simp only [List.drop, List.take] at f0
 obtain ⟨y0, e0⟩ := hx 0 (by omega)
 rw [e0] at f0
 obtain ⟨x0, h0, _, w0⟩ := DataW.trod_int Try.underlying3 f0
 have f1 : DataW.trod enc Try.prog W 0 spare held n 3 (List.take (Try.prog.cellsOf 3) (List.drop 1 [c0, c1])) = xs[1]? := hf 1 _ rfl
 rw [show Try.prog.cellsOf 3 = 1 by kernel_rfl] at f1
 simp only [List.drop, List.take] at f1
 obtain ⟨y1, e1⟩ := hx 1 (by omega)
 rw [e1] at f1
 obtain ⟨x1, h1, _, w1⟩ := DataW.trod_int Try.underlying3 f1
 cases h0
 cases h1
 exact ⟨x0, x1, rfl, i64ok_of w0, i64ok_of w1⟩
end Go.Proofs.Ytilolnjbpokdnaa
