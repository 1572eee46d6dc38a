/- estimate, CheckMoments, Add, Mean of package metric. Printed by gen_momf.py. readPlan of package decide. IsShort, IsMiss, CheckTest, enough of the references. Printed by gen_rdec.py. Decimal of package value. Printed by gen_dec.py. side of the reference: the capitals of bets on up. Printed by gen_side.py. Plain: moments as texts and as numbers: their faults, their sizes. No program stands in it. Plain: the slope over arms leaves least, and adjusting does not change the sum over all arms. No program stands in it. Plain: lists of moments, their faults, their sums. No program stands in it. Printed by gen_arm.py. What the functions of moments give, as values, and wrappers. Printed by gen_momf.py. A region that draws its order: operations that only read, and a chain of stores that may come up between them. Each operation is walked once. No program stands in it. some, Mean, around, Spread of the reference. Printed by gen_momt.py. Slope and Quotient of package metric. Printed by gen_adj.py. -/
import Derived.Test.YtlbnjgnbpiidaaaGreatDoorB835
import Derived.Test.YtlbnjgnbpiidaaaGreatDoorB813
import Derived.Test.YtlbnjgnbpiidaaaGreatDoorB800
import Derived.Test.YtlbnjgnbpiidaaaGreatDoorProg
import Derived.Test.YtlbnjgnbpiidaaaGreatDoorB801
import Derived.Test.YtlbnjgnbpiidaaaGreatDoorB802
import Derived.Test.YtlbnjgnbpiidaaaGreatDoorB803
import Derived.Test.YtlbnjgnbpiidaaaGreatDoorB804
import Derived.Test.YtlbnjgnbpiidaaaGreatDoorB805
import Derived.Test.YtlbnjgnbpiidaaaGreatDoorB806
import Derived.Test.YtlbnjgnbpiidaaaGreatDoorB807
import Derived.Test.YtlbnjgnbpiidaaaGreatDoorB808
import Derived.Test.YtlbnjgnbpiidaaaGreatDoorB809
import Derived.Test.YtlbnjgnbpiidaaaGreatDoorB810
import Derived.Test.YtlbnjgnbpiidaaaGreatDoorB811
import Derived.Test.YtlbnjgnbpiidaaaGreatDoorB827
import Derived.Test.YtlbnjgnbpiidaaaGreatDoorB814
import Derived.Test.YtlbnjgnbpiidaaaGreatDoorB815
import Derived.Test.YtlbnjgnbpiidaaaGreatDoorB816
import Derived.Test.YtlbnjgnbpiidaaaGreatDoorB817
import Derived.Test.YtlbnjgnbpiidaaaGreatDoorB818
import Derived.Test.YtlbnjgnbpiidaaaGreatDoorB819
import Derived.Test.YtlbnjgnbpiidaaaGreatDoorB820
import Derived.Test.YtlbnjgnbpiidaaaGreatDoorShelf
import Derived.Test.YtlbnjgnbpiidaaaGreatDoorB821
import Derived.Test.YtlbnjgnbpiidaaaGreatDoorB812
import Derived.Test.YtlbnjgnbpiidaaaGreatDoorB822
import Derived.Test.YtlbnjgnbpiidaaaGreatDoorB823
import Derived.Test.YtlbnjgnbpiidaaaGreatDoorB824
import Derived.Test.YtlbnjgnbpiidaaaGreatDoorB825
import Derived.Test.YtlbnjgnbpiidaaaGreatDoorB826
import Derived.Test.YtlbnjgnbpiidaaaGreatDoorB828
import Derived.Test.YtlbnjgnbpiidaaaGreatDoorB832
import Derived.Test.YtlbnjgnbpiidaaaGreatDoorB829
import Derived.Test.YtlbnjgnbpiidaaaGreatDoorB830
import Derived.Test.YtlbnjgnbpiidaaaGreatDoorB831
import Derived.Test.YtlbnjgnbpiidaaaGreatDoorB834
namespace Go.Proofs.YtlbnjgnbpiidaaaGreatDoor
open Go.RowKit
namespace Nm
open _root_.Go.Proofs.YtlbnjgnbpiidaaaGreatDoor.Nt (RH RH.cell RH.box RH.row RH.lt RH.new RH.ext RH.fre RH.set RH.other RH.row_other store_cells)
set_option maxRecDepth 100000 in
set_option maxHeartbeats 16000000 in
theorem estimate_at (n : Int) (m v : Rat) (tm tv : Y3) (w : World) (hx : XR w (y3V tm) m) (hy : XR w (y3V tv) v) (hf : (Fits m ∧ Sm m) ∧ Fits v ∧ Sm v) : Calls Tryz.prog 35 #[.int .i64 n, .agg #[.bool tm.b, .slice tm.a1 tm.n1 tm.c1, .slice tm.a2 tm.n2 tm.c2], .agg #[.bool tv.b, .slice tv.a1 tv.n1 tv.c1, .slice tv.a2 tv.n2 tv.c2]] w (fun e w' => e = .returned (.tuple #[.agg #[.int .i64 n, .string (showN m), .string (showD m), .string (showN v), .string (showD v)], .int .i64 0]) ∧ Below w.heap.size w w') := by
 have HA0 := Lib.hid hx
 have HB0 := Lib.hid hy
 have HF := Lib.hid hf
 clear hx hy hf
 go_enter Tryz.func35, Tryz.ntmps35
 go_upto_region 1 with (fail)
 refine wp_rows3 fun w1' hbz hR0 hR1 hR2 => ?_
 have HR_a : Hid (RH w1' w.heap.size #[.bool tm.b, .slice tm.a1 tm.n1 tm.c1, .slice tm.a2 tm.n2 tm.c2] 52) := Lib.hid hR0
 have HR_b : Hid (RH w1' (w.heap.size + 1) #[.bool tv.b, .slice tv.a1 tv.n1 tv.c1, .slice tv.a2 tv.n2 tv.c2] 52) := Lib.hid hR1
 have HR_o : Hid (RH w1' (w.heap.size + 2) #[.int .i64 0, .string ⟨#[]⟩, .string ⟨#[]⟩, .string ⟨#[]⟩, .string ⟨#[]⟩] 33) := Lib.hid hR2
 have HW := Lib.hid hbz
 clear hbz hR0 hR1 hR2
 have HXA : Hid (XR w1' (y3V tm) m) := Lib.hid (HA0.out.ext HW.out)
 have HXB : Hid (XR w1' (y3V tv) v) := Lib.hid (HB0.out.ext HW.out)
 clear HA0 HB0
 obtain ⟨c_a_0, c_a_1, c_a_2⟩ := zs3 HR_a.out
 obtain ⟨c_b_0, c_b_1, c_b_2⟩ := zs3 HR_b.out
 go_wp2_with fail
 refine (ratios2_at m v tm tv w1' HXA.out HXB.out HF.out).mono ?_
 rintro e w2' ⟨pa, pc, rfl, hs9, hbz⟩
 replace HR_a := Lib.hid (HR_a.out.ext hbz)
 replace HR_b := Lib.hid (HR_b.out.ext hbz)
 replace HR_o := Lib.hid (HR_o.out.ext hbz)
 replace HXA := Lib.hid (HXA.out.ext hbz)
 replace HXB := Lib.hid (HXB.out.ext hbz)
 replace HW := Lib.hid (ext_trans HW.out hbz)
 clear c_a_0 c_a_1 c_a_2 c_b_0 c_b_1 c_b_2
 clear hbz
 have HSL : Hid (Sl w2' (.slice pa 2 pc) 2 ([m, v].flatMap rtC)) := Lib.hid hs9
 clear hs9
 clear HXA
 clear HXB
 clear HR_a
 clear HR_b
 obtain ⟨pb0, po0, hp0, hc0⟩ := HSL.out.elem (l := [m, v]) (k := 0) (x := m) (f := rtC) (fun _ => rfl) (by omega : 0 < 2) rfl
 subst hp0
 have e00 : w2'.cell? ⟨pb0, po0, none⟩ = some (.string (showN m)) := hc0 0 _ rfl
 have e01 : w2'.cell? ⟨pb0, po0 + 1, none⟩ = some (.string (showD m)) := hc0 1 _ rfl
 clear hc0
 obtain ⟨pb1, po1, hp1, hc1⟩ := HSL.out.elem (l := [m, v]) (k := 1) (x := v) (f := rtC) (fun _ => rfl) (by omega : 0 < 2) rfl
 obtain ⟨rfl, rfl⟩ : pb0 = pb1 ∧ po0 = po1 := by cases hp1; exact ⟨rfl, rfl⟩
 clear hp1
 have e10 : w2'.cell? ⟨pb0, po0 + 2, none⟩ = some (.string (showN v)) := hc1 0 _ rfl
 have e11 : w2'.cell? ⟨pb0, po0 + 2 + 1, none⟩ = some (.string (showD v)) := hc1 1 _ rfl
 clear hc1
 go_upto_region 4 with (fail)
 refine Grow.wp_region_grow 8 [TP.eq (.int .i64 n), TP.eq (.slice (some ⟨pb0, po0, none⟩) 2 pc), TP.eq (.pointer (some ⟨pb0, po0, none⟩)), TP.eq (.agg #[.string (showN m), .string (showD m)]), TP.eq (.slice (some ⟨pb0, po0, none⟩) 2 pc), TP.eq (.pointer (some ⟨pb0, po0 + 2, none⟩)), TP.eq (.agg #[.string (showN v), .string (showD v)]), TP.eq (.agg #[.int .i64 n, .string (showN m), .string (showD m), .string (showN v), .string (showD v)])] [[], [], [1], [2], [], [4], [5], [0, 3, 6]] (by kernel_rfl) (by kernel_rfl) ⟨?o0e, ?o1e, ?o2e, ?o3e, ?o4e, ?o5e, ?o6e, ?o7e, trivial⟩ ?_
 case o0e | o1e | o4e =>
  intro w' hb
  show wpList _ _ _ _ _ _
  go_wp2
  exact ⟨rfl, Below.refl _ _, rfl⟩
 case o2e | o5e =>
  intro w' hb v1 hv1
  cases hv1
  show wpList _ _ _ _ _ _
  simp only [Grow.dstOf, zzp, Act.put]
  go_wp2
  exact ⟨rfl, Below.refl _ _, rfl⟩
 case o3e | o6e =>
  intro w' hb v1 hv1
  cases hv1
  have e00' := zzc hb e00
  have e01' := zzc hb e01
  have e10' := zzc hb e10
  have e11' := zzc hb e11
  show wpList _ _ _ _ _ _
  simp only [Grow.dstOf, zzp, Act.put]
  go_wp2
  exact ⟨rfl, Below.refl _ _, rfl⟩
 case o7e =>
  intro w' hb v1 hv1 v2 hv2 v3 hv3
  cases hv1
  cases hv2
  cases hv3
  show wpList _ _ _ _ _ _
  simp only [Grow.dstOf, zzp, Act.put]
  go_wp2
  exact ⟨rfl, Below.refl _ _, rfl⟩
 intro w3' hbz u0 hu0 u1 hu1 u2 hu2 u3 hu3 u4 hu4 u5 hu5 u6 hu6 u7 hu7
 obtain rfl : u7 = _ := hu7
 clear hu0 hu1 hu2 hu3 hu4 hu5 hu6
 replace HR_o := Lib.hid (HR_o.out.ext hbz)
 replace HSL := Lib.hid (HSL.out.ext hbz)
 replace HW := Lib.hid (ext_trans HW.out hbz)
 clear hbz
 clear HSL
 clear e00 e01 e10 e11
 show wpList _ _ _ _ _ _
 simp only [Act.put, zzp]
 obtain ⟨c_o_0, c_o_1, c_o_2, c_o_3, c_o_4⟩ := zs5 HR_o.out
 have f_o_0 := HR_o.out.fre 0
 have f_o_1 := HR_o.out.fre 1
 have f_o_2 := HR_o.out.fre 2
 have f_o_3 := HR_o.out.fre 3
 have f_o_4 := HR_o.out.fre 4
 go_wp2
 obtain ⟨w4', hX⟩ : ∃ Z9, Z9 = (((((w3'.setCell ⟨(w.heap.size + 2), 0, none⟩ (.int .i64 n)).setCell ⟨(w.heap.size + 2), 1, none⟩ (.string (showN m))).setCell ⟨(w.heap.size + 2), 2, none⟩ (.string (showD m))).setCell ⟨(w.heap.size + 2), 3, none⟩ (.string (showN v))).setCell ⟨(w.heap.size + 2), 4, none⟩ (.string (showD v))) := ⟨_, rfl⟩
 rw [← hX]
 have n_o : Hid (RH w4' (w.heap.size + 2) #[.int .i64 n, .string (showN m), .string (showD m), .string (showN v), .string (showD v)] 33) := by rw [hX]; exact Lib.hid ((((((HR_o.out).set 0 (.int .i64 n)).set 1 (.string (showN m))).set 2 (.string (showD m))).set 3 (.string (showN v))).set 4 (.string (showD v)))
 have HK_ : ∀ p : Addr, p.block ≠ (w.heap.size + 2) → w4'.cell? p = w3'.cell? p := fun p hp => by rw [hX]; exact (cs_other hp).trans ((cs_other hp).trans ((cs_other hp).trans ((cs_other hp).trans (cs_other hp))))
 have nW : Hid (Below w.heap.size w w4') := by rw [hX]; exact Lib.hid (zzw (zzw (zzw (zzw (zzw (HW.out) (by omega)) (by omega)) (by omega)) (by omega)) (by omega))
 clear c_o_0 c_o_1 c_o_2 c_o_3 c_o_4 f_o_0 f_o_1 f_o_2 f_o_3 f_o_4
 clear hX HK_ HW HR_o 
 have HR_o := n_o; clear n_o
 have HW := nW; clear nW
 refine bodyPost_ret (v := .tuple #[.agg #[.int .i64 n, .string (showN m), .string (showD m), .string (showN v), .string (showD v)], .int .i64 0]) ?_ rfl ⟨rfl, HW.out⟩
 have hld := run_loadVar_row (P := Tryz.prog) _ _ _ 33 _ _ _ HR_o.out Tryz.underlying33 rfl (by kernel_rfl : (Tryz.prog.info? 33).map (·.size) = some 5)
 rw [results_cell_tmp rfl]
 simp [asAddr, Result.andThen, hld]
end Nm
end Go.Proofs.YtlbnjgnbpiidaaaGreatDoor
namespace Go.Proofs.YtlbnjgnbpiidaaaGreatDoor
open Go.RowKit
namespace Nm
def rtL (r : RT) : List Value := [.string r.n, .string r.d]
end Nm
end Go.Proofs.YtlbnjgnbpiidaaaGreatDoor
namespace Go.Proofs.YtlbnjgnbpiidaaaGreatDoor
open Go.RowKit
namespace Nt
open _root_.Go.Proofs.YtlbnjgnbpiidaaaGreatDoor.Nm (showN showD Fits show_size show_back rF rQ cutS cutS_size cmpQ trimPrefix_at fits_int FPost)
theorem less_is (p q : Rat) (b : Bool) (h : decide (p < q) = b) (hp : Fits p) (hq : Fits q) (w : World) (ht : Tab w) : Calls Tryz.prog 16 #[rtV p, rtV q] w (fun e w' => e = .returned (.bool b) ∧ Below w.heap.size w w') := by subst h; exact mLessQ p q hp hq w ht
end Nt
end Go.Proofs.YtlbnjgnbpiidaaaGreatDoor
namespace Go.Proofs.YtlbnjgnbpiidaaaGreatDoor
open Go.RowKit
namespace Nm
theorem tail_none {P : Program} {ops : Array Oper} {Q : Exit → Act → World → Prop} {a : Act} {w : World} (h : Q .normal a w) : wpList P ops Q [] a w := h
end Nm
end Go.Proofs.YtlbnjgnbpiidaaaGreatDoor
namespace Go.Proofs.YtlbnjgnbpiidaaaGreatDoor
open Go.RowKit
namespace Nm
end Nm
namespace Nt
open _root_.Go.Proofs.YtlbnjgnbpiidaaaGreatDoor.Nm (showN showD Fits fits_int Ln AnsPost quoN quoD quoF)
theorem whole_is (z : Int) (n : Nat) (hz : z = (n : Int)) (hn : n ≤ 9223372036854775807) (w : World) (ht : Tab w) : Calls Tryz.prog 14 #[.int .i64 z] w (RtP w ((n : Nat) : Rat)) := by
 subst hz
 have h := mWholeQ (n : Int) (by omega) (by omega) w ht
 rw [Rat.intCast_natCast] at h
 exact h
end Nt
end Go.Proofs.YtlbnjgnbpiidaaaGreatDoor
namespace Go.Proofs.YtlbnjgnbpiidaaaGreatDoor
open Go.RowKit
namespace Nm
theorem zerB_iff {q : Q5} : zerB q = true ↔ q.x = 0 ∧ q.y = 0 ∧ q.xx = 0 ∧ q.yy = 0 ∧ q.xy = 0 := by
  unfold zerB; simp
theorem zero_pos1 {q : Q5} (h : zerB q = true) : posB1 0 q = true := by
  obtain ⟨h1, h2, h3, h4, h5⟩ := zerB_iff.1 h
  rw [posB1_iff]
  unfold dfA dfB dfC
  rw [h1, h2, h3, h4, h5]
  decide +kernel
/-- the reference asks in two steps -/
theorem posB_steps (n : Int) (q : Q5) : posB n q = (posB1 n q && (!decide (n = 0) || zerB q)) := by
  unfold posB
  by_cases h : n = 0
  · subst h
    rw [if_pos rfl]
    by_cases hz : zerB q = true
    · rw [hz, zero_pos1 hz]; rfl
    · have hz' : zerB q = false := by simpa using hz
      rw [hz']; simp
  · rw [if_neg h, decide_eq_false h]; simp
end Nm
end Go.Proofs.YtlbnjgnbpiidaaaGreatDoor
namespace Go.Proofs.YtlbnjgnbpiidaaaGreatDoor
open Go.RowKit
namespace Nm
theorem aY_app : ∀ (l : List Arm) (a : Arm), aY (l ++ [a]) = aY l + a.q.y
  | [], a => by simp only [List.nil_append, aY]; grind
  | b :: r, a => by have h := aY_app r a; simp only [List.cons_append, aY, h]; grind
end Nm
end Go.Proofs.YtlbnjgnbpiidaaaGreatDoor
namespace Go.Proofs.YtlbnjgnbpiidaaaGreatDoor
open Go.RowKit
namespace Nm
theorem fewL_step (c : Int) {l : List MV} {k : Nat} (h : k < l.length) : fewL c (l.drop k) = (decide (l[k].n < c) || fewL c (l.drop (k + 1))) := by
 rw [List.drop_eq_getElem_cons h]; rfl
theorem ra_one {l : List MV} (h : raF 2 l = 0) : raF 1 l = 0 := by
 obtain ⟨⟨h1, h2⟩, h3, h4⟩ := ra_parts h
 unfold raF
 rw [if_neg (by omega), if_neg (by omega), if_neg (fun g => g h3), if_neg]
 intro e
 obtain ⟨m, hm, he⟩ := List.any_eq_true.1 e
 have := fewL_no h4 m hm
 simp at he
 omega
end Nm
end Go.Proofs.YtlbnjgnbpiidaaaGreatDoor
namespace Go.Proofs.YtlbnjgnbpiidaaaGreatDoor
open Go.RowKit
namespace Nm
theorem nF_0 (n : Int) : nF 0 n = n := if_pos rfl
def EsPost (w : World) (f n : Int) (m v : Rat) (e : Ending) (w' : World) : Prop := e = .returned (.tuple #[.agg #[.int .i64 (nF f n), .string (rtN f m), .string (rtD f m), .string (rtN f v), .string (rtD f v)], .int .i64 f]) ∧ Below w.heap.size w w'
end Nm
end Go.Proofs.YtlbnjgnbpiidaaaGreatDoor
namespace Go.Proofs.YtlbnjgnbpiidaaaGreatDoor
open Go.RowKit
namespace Grow
section
variable {P : Program}
def vOf (Vs : List (Value → Prop)) (j : Nat) : Value → Prop := Vs.getD j fun _ => True
/-- what an operation waits for is there -/
def NeedV (ops : Array Oper) (Vs : List (Value → Prop)) (K : Act → Prop) : List Nat → Act → Prop
  | [], a => K a
  | j :: js, a => ∀ v, vOf Vs j v → NeedV ops Vs K js (a.put (dstOf ops j) v)
theorem NeedV.at {ops : Array Oper} {Vs : List (Value → Prop)} {K : Act → Prop} {vs : Nat → Value} : ∀ (D : List Nat) (a : Act), NeedV ops Vs K D a → (∀ j ∈ D, vOf Vs j (vs j)) → K (putD ops vs D a)
  | [], _, h, _ => h
  | j :: js, _, h, hv => NeedV.at js _ (h (vs j) (hv j (by simp))) (fun i hi => hv i (by simp [hi]))
/-- what is asked of one operation's walk: the world behind it is w1 -/
def PostV (o : Oper) (V : Value → Prop) (w1 : World) (ds : List Deferred) : Exit → Act → World → Prop
  | .normal, a', w' => (match o.dst with | some d => V (a'.eval (.tmp d)) | none => True) ∧ w' = w1 ∧ a'.defers = ds
  | _, _, _ => False
/-- operation i is store number j (some j) or reads (none); Xs: the worlds behind 0, 1 .. stores; C: what the reads ask of them -/
def HeadV (P : Program) (ops : Array Oper) (Vs : List (Value → Prop)) (Xs : List World) (w0 : World) (C : World → Prop) (a0 : Act) (D : List (List Nat)) : List Oper → List (Option Nat) → Nat → Prop
  | o :: l, none :: ks, i => (∀ w', C w' → NeedV ops Vs (fun a => wpList P ops (PostV o (vOf Vs i) w' a0.defers) [o] a w') (D.getD i []) a0) ∧ HeadV P ops Vs Xs w0 C a0 D l ks (i + 1)
  | o :: l, some j :: ks, i => NeedV ops Vs (fun a => wpList P ops (PostV o (vOf Vs i) (Xs.getD (j + 1) w0) a0.defers) [o] a (Xs.getD j w0)) (D.getD i []) a0 ∧ HeadV P ops Vs Xs w0 C a0 D l ks (i + 1)
  | _, _, _ => True
theorem HeadV.get {ops : Array Oper} {Vs : List (Value → Prop)} {Xs : List World} {w0 : World} {C : World → Prop} {a0 : Act} {D : List (List Nat)} : ∀ (l : List Oper) (ks : List (Option Nat)) (k : Nat), HeadV P ops Vs Xs w0 C a0 D l ks k → ∀ i o x, l[i]? = some o → ks[i]? = some x →
    (match x with
      | none => ∀ w', C w' → NeedV ops Vs (fun a => wpList P ops (PostV o (vOf Vs (k + i)) w' a0.defers) [o] a w') (D.getD (k + i) []) a0
      | some j => NeedV ops Vs (fun a => wpList P ops (PostV o (vOf Vs (k + i)) (Xs.getD (j + 1) w0) a0.defers) [o] a (Xs.getD j w0)) (D.getD (k + i) []) a0)
  | [], _, _, _, _, _, _, ho, _ => by simp at ho
  | _ :: _, [], _, _, _, _, _, _, hx => by simp at hx
  | o :: l, none :: ks, k, h, 0, _, _, ho, hx => by
    simp at ho hx; subst ho; subst hx; exact h.1
  | o :: l, some j :: ks, k, h, 0, _, _, ho, hx => by
    simp at ho hx; subst ho; subst hx; exact h.1
  | o :: l, none :: ks, k, h, i + 1, o', x, ho, hx => by
    have := HeadV.get l ks (k + 1) h.2 i o' x (by simpa using ho) (by simpa using hx)
    rw [show k + (i + 1) = k + 1 + i by omega]; exact this
  | o :: l, some j :: ks, k, h, i + 1, o', x, ho, hx => by
    have := HeadV.get l ks (k + 1) h.2 i o' x (by simpa using ho) (by simpa using hx)
    rw [show k + (i + 1) = k + 1 + i by omega]; exact this
def TailV (Vs : List (Value → Prop)) (K : Act → Prop) : List Oper → Nat → Act → Prop
  | [], _, a => K a
  | o :: l, i, a => ∀ v, (o.dst.isSome = true → vOf Vs i v) → TailV Vs K l (i + 1) (a.put o.dst v)
theorem TailV.at {Vs : List (Value → Prop)} {K : Act → Prop} {vs : Nat → Value} : ∀ (l : List Oper) (i : Nat) (a : Act), TailV Vs K l i a → (∀ j o, l[j]? = some o → o.dst.isSome = true → vOf Vs (i + j) (vs (i + j))) → K (foldPut vs l i a)
  | [], _, _, h, _ => h
  | o :: l, i, a, h, hv => TailV.at l (i + 1) _ (h (vs i) (fun hs => by simpa using hv 0 o rfl hs)) (fun j o' hj hs => by have := hv (j + 1) o' (by simpa using hj) hs; rwa [show i + (j + 1) = i + 1 + j by omega] at this)
theorem TailV.fin {Vs : List (Value → Prop)} {Q : Exit → Act → World → Prop} {w0 : World} {Xs : List World} {m i : Nat} {a : Act} (wm : World) (hw : Xs.getD m w0 = wm) (h : Q .normal a wm) : TailV Vs (fun a => Q .normal a (Xs.getD m w0)) [] i a := by
  subst hw; exact h
end
end Grow
end Go.Proofs.YtlbnjgnbpiidaaaGreatDoor
namespace Go.Proofs.YtlbnjgnbpiidaaaGreatDoor
open Go.RowKit
namespace Nt
open _root_.Go.Proofs.YtlbnjgnbpiidaaaGreatDoor.Nm (tl_lit rF rQ showN showD Fits show_size cutS cutS_size cutB cut_show cmpQ RT rtOk trimPrefix_at Ln QL QF QS Q5 R5 shR mrA mr_info NoW noW_all BF cs_other wp_rows1 wp_rows2 wp_rows3 wp_rows4 smF smL smL_step sm_five momF posB posB1 zerB dfA dfB dfC df_ln ln_n n_ne fits_int i64_ten BPost FPost spA spB spC sp_ln atF at_parts mom_parts vrQ rtC fq fr fr_get R5.ok_at rat_neg TP.row rtN rtD nF rtN_0 rtD_0 rtN_no rtD_no nF_no meQ RqPost mom_ql at_ql)
theorem whole_z (z : Int) (q : Rat) (hq : (z : Rat) = q) (h0 : -9223372036854775808 ≤ z) (h1 : z ≤ 9223372036854775807) (w : World) (ht : Tab w) : Calls Tryz.prog 14 #[.int .i64 z] w (RtP w q) := by
 subst hq; exact mWholeQ z h0 h1 w ht
end Nt
end Go.Proofs.YtlbnjgnbpiidaaaGreatDoor
namespace Go.Proofs.YtlbnjgnbpiidaaaGreatDoor
open Go.RowKit
namespace Nm
open _root_.Go.Proofs.YtlbnjgnbpiidaaaGreatDoor.Nt (RH RH.cell RH.box RH.row RH.lt RH.new RH.ext RH.fre RH.set RH.other RH.row_other store_cells)

set_option maxRecDepth 100000 in
set_option maxHeartbeats 16000000 in
theorem slopeM_at (l : List MV) (a : Option Addr) (c : Nat) (w : World) (hs : Sl w (.slice a l.length c) l.length (l.flatMap mnL)) (hok : ∀ m ∈ l, m.r.ok) : Calls Tryz.prog 5 #[.slice a l.length c] w (RqPost w (raF 1 l) (slQ (armL l))) := by
 have HS := Lib.hid hs
 have HOK := Lib.hid hok
 clear hs hok
 go_enter Tryz.func5, Tryz.ntmps5
 go_upto_region 1 with (fail)
 refine wp_rows1 fun w1' hbz hR0 => ?_
 have HR_o : Hid (RH w1' w.heap.size #[.string ⟨#[]⟩, .string ⟨#[]⟩] 24) := Lib.hid hR0
 have HW := Lib.hid hbz
 clear hbz hR0
 go_wp2_with fail
 refine (readAllM_at l a c w1' (HS.out.ext HW.out) HOK.out).mono ?_
 rintro e w2' ⟨ra, rc, ss, rfl, hss, hbz⟩
 replace HR_o := Lib.hid (HR_o.out.ext hbz)
 replace HW := Lib.hid (ext_trans HW.out hbz)
 clear hbz
 by_cases hz : raF 1 l = 0
 ·have hne2 : (raF 1 l != 0) = false := by simp [hz]
  have HZ := Lib.hid hz
  have HSA := Lib.hid (hss hz).arms
  have HAO := Lib.hid (arms_ok (Int.le_refl 1) hz)
  have HLN := Lib.hid (sl_ln HAO.out)
  clear hz hss
  go_wp2_with fail
  refine (slope_at (armL l) HAO.out ss ra rc w2' HSA.out).mono ?_
  rintro e w3' ⟨v1, rfl, hv1, hbz⟩
  replace HR_o := Lib.hid (HR_o.out.ext hbz)
  replace HW := Lib.hid (ext_trans HW.out hbz)
  clear hbz
  have HV1 : Hid (XR w3' v1 (slQ (armL l))) := Lib.hid hv1
  clear hv1
  go_wp2_with fail
  refine (ratio_is (slQ (armL l)) (HLN.out.fits (by omega) (by omega)) (HLN.out.sm (by omega) (by omega)) v1 w3' HV1.out).mono ?_
  rintro e w4' ⟨rfl, hbz⟩
  replace HR_o := Lib.hid (HR_o.out.ext hbz)
  replace HV1 := Lib.hid (HV1.out.ext hbz)
  replace HW := Lib.hid (ext_trans HW.out hbz)
  clear hbz
  obtain ⟨c_o_0, c_o_1⟩ := zs2 HR_o.out
  have f_o_0 := HR_o.out.fre 0
  have f_o_1 := HR_o.out.fre 1
  go_wp2
  obtain ⟨w5', hX⟩ : ∃ Z9, Z9 = ((w4'.setCell ⟨w.heap.size, 0, none⟩ (.string (showN (slQ (armL l))))).setCell ⟨w.heap.size, 1, none⟩ (.string (showD (slQ (armL l))))) := ⟨_, rfl⟩
  rw [← hX]
  have n_o : Hid (RH w5' w.heap.size #[.string (showN (slQ (armL l))), .string (showD (slQ (armL l)))] 24) := by rw [hX]; exact Lib.hid (((HR_o.out).set 0 (.string (showN (slQ (armL l))))).set 1 (.string (showD (slQ (armL l)))))
  have HK_ : ∀ p : Addr, p.block ≠ w.heap.size → w5'.cell? p = w4'.cell? p := fun p hp => by rw [hX]; exact (cs_other hp).trans (cs_other hp)
  have n_HV1 : Hid (XR w5' v1 (slQ (armL l))) := Lib.hid (HV1.out.far HR_o.out.box (noW_all (by simp [isWord])) HK_)
  have nW : Hid (Below w.heap.size w w5') := by rw [hX]; exact Lib.hid (zzw (zzw (HW.out) (by omega)) (by omega))
  clear c_o_0 c_o_1 f_o_0 f_o_1
  clear hX HK_ HW HR_o HV1
  have HR_o := n_o; clear n_o
  have HV1 := n_HV1; clear n_HV1
  have HW := nW; clear nW
  refine bodyPost_ret (v := .tuple #[.agg #[.string (showN (slQ (armL l))), .string (showD (slQ (armL l)))], .int .i64 0]) ?_ rfl ⟨by simp only [HZ.out, rtN_0, rtD_0], HW.out⟩
  have hld := run_loadVar_row (P := Tryz.prog) _ _ _ 24 _ _ _ HR_o.out Tryz.underlying24 rfl (by kernel_rfl : (Tryz.prog.info? 24).map (·.size) = some 2)
  rw [results_cell_tmp rfl]
  simp [asAddr, Result.andThen, hld]
 ·have hne2 : (raF 1 l != 0) = true := by simp [hz]
  have HNE := Lib.hid hz
  clear hz hss
  obtain ⟨c_o_0, c_o_1⟩ := zs2 HR_o.out
  have f_o_0 := HR_o.out.fre 0
  have f_o_1 := HR_o.out.fre 1
  go_wp2
  obtain ⟨w3', hX⟩ : ∃ Z9, Z9 = ((w2'.setCell ⟨w.heap.size, 0, none⟩ (.string ⟨#[]⟩)).setCell ⟨w.heap.size, 1, none⟩ (.string ⟨#[]⟩)) := ⟨_, rfl⟩
  rw [← hX]
  have n_o : Hid (RH w3' w.heap.size #[.string ⟨#[]⟩, .string ⟨#[]⟩] 24) := by rw [hX]; exact Lib.hid (((HR_o.out).set 0 (.string ⟨#[]⟩)).set 1 (.string ⟨#[]⟩))
  have HK_ : ∀ p : Addr, p.block ≠ w.heap.size → w3'.cell? p = w2'.cell? p := fun p hp => by rw [hX]; exact (cs_other hp).trans (cs_other hp)
  have nW : Hid (Below w.heap.size w w3') := by rw [hX]; exact Lib.hid (zzw (zzw (HW.out) (by omega)) (by omega))
  clear c_o_0 c_o_1 f_o_0 f_o_1
  clear hX HK_ HW HR_o 
  have HR_o := n_o; clear n_o
  have HW := nW; clear nW
  refine bodyPost_ret (v := .tuple #[.agg #[.string ⟨#[]⟩, .string ⟨#[]⟩], .int .i64 (raF 1 l)]) ?_ rfl ⟨by simp only [rtN_no HNE.out, rtD_no HNE.out], HW.out⟩
  have hld := run_loadVar_row (P := Tryz.prog) _ _ _ 24 _ _ _ HR_o.out Tryz.underlying24 rfl (by kernel_rfl : (Tryz.prog.info? 24).map (·.size) = some 2)
  rw [results_cell_tmp rfl]
  simp [asAddr, Result.andThen, hld]
end Nm
end Go.Proofs.YtlbnjgnbpiidaaaGreatDoor
