/- The law that Merge and Patch are as specified: the walk. Printed by gen_lawpms.py. How the arguments of a law, read as data, lie in memory: slices of whatever elements, field by field. Values that are read as data. Values that are read as data: how many parts they have, by the bulk of the datum. The frame of every law: a call that returns true, and leaves all that was there as it was, meets the row's post. -/
import Derived.Test.YtkjgifhklajifaaPm17
import Derived.Test.YtkjgifhklajifaaPm26
import Derived.Test.YtkjgifhklajifaaPm00
import Derived.ChangeArms
import Derived.DataReads
import Derived.SizedLaws
import Derived.Test.YtkjgifhklajifaaProg
import Derived.Test.YtkjgifhklajifaaPm04
import Derived.Test.YtkjgifhklajifaaRows
import Derived.WalkKit
import Derived.ProofKit
import Derived.OpenShut
import Derived.JoinedCond
import Derived.Deep.CondSized
namespace Go.Proofs.Ytkjgifhklajifaa
open Go.RowKit
namespace Fd
open _root_.Go.Proofs.Ytkjgifhklajifaa.Nt (RH RH.cell RH.box RH.lt RH.new RH.ext RH.fre RH.set RH.other)
open _root_.Go.Proofs.Ytkjgifhklajifaa.Rw (wpList_load_agg wp_stored Kept Fresh)
set_option maxRecDepth 100000 in
set_option maxHeartbeats 16000000 in
theorem lawPms_at (x y : V) (cx cy : List Value) (w : World) (hx : RepV w x cx) (hy : RepV w y cy) (px : pN x ≤ 1048576) (py : pN y ≤ 1048576) : Calls Try.prog 3 #[.agg cx.toArray, .agg cy.toArray] w fun e w' => e = .returned (.bool true) ∧ Below w.heap.size w w' := by
  obtain ⟨k1, n1, s1, b1, b2, b3, b4, b5, b6, rfl⟩ := V5 hx
  obtain ⟨k2, n2, s2, e1, e2, e3, e4, e5, e6, rfl⟩ := V5 hy
  have HX := Lib.hid hx
  have HY := Lib.hid hy
  have HPX := Lib.hid px
  have HPY := Lib.hid py
  obtain ⟨r, hr⟩ : ∃ r, MergeF x y = r := ⟨_, rfl⟩
  obtain ⟨p, hp⟩ : ∃ p, PatchF x y = p := ⟨_, rfl⟩
  have HR := Lib.hid hr
  have HP := Lib.hid hp
  have HSR : Hid (decide (cmpV r.1 r.1 = 0) = true) := Lib.hid (by rw [cmpV_self]; rfl)
  have HSP : Hid (decide (cmpV p.1 p.1 = 0) = true) := Lib.hid (by rw [cmpV_self]; rfl)
  obtain ⟨r1, r2⟩ := r
  obtain ⟨p1, p2⟩ := p
  clear hx hy hr hp px py
  go_enter Try.func3, Try.ntmps3
  go_upto_region 1 with (fail)
  refine wp_vr2 fun X0 hbW hR1 hR2 => ?_
  have HQ1 := Lib.hid hR1
  have HQ2 := Lib.hid hR2
  have HB0 := Lib.hid hbW
  clear hR1 hR2 hbW
  obtain ⟨a0, a1, a2, a3, a4⟩ := va5 HQ1.out
  obtain ⟨d0, d1, d2, d3, d4⟩ := va5 HQ2.out
  go_wp2_with fail
  refine (merge_at x y _ _ X0 (RepV.ext HB0.out HX.out) (RepV.ext HB0.out HY.out)).mono ?_
  rw [HR.out]
  rintro e w1 ⟨c1, rfl, hr1, hb1⟩
  obtain ⟨k91, n91, s91, a91, m91, rr1, aa1, mm1, rq1, rfl⟩ := V5 hr1
  have HV1 := Lib.hid hr1
  have HB1 := Lib.hid (ext_trans HB0.out hb1)
  replace HQ1 := Lib.hid (HQ1.out.ext hb1)
  replace HQ2 := Lib.hid (HQ2.out.ext hb1)
  clear hr1 hb1
  go_upto_region 2 with (refine wpList_store_row rfl _ _ _ rfl w1.heap.size (vAr k91 n91 s91 (.slice a91 m91 rr1) (.slice aa1 mm1 rq1)) rfl rfl _ _ (RH.new _ _ _) (v_inf5 _ _ _ _ _) rfl (v_all5 _ _ _ _ _ _ _ _ _) ?_)
  refine wp_stored fun X1 hbs hRs => ?_
  replace HV1 := Lib.hid (RepV.ext hbs HV1.out)
  replace HB1 := Lib.hid (ext_trans HB1.out hbs)
  replace HQ1 := Lib.hid (HQ1.out.ext hbs)
  replace HQ2 := Lib.hid (HQ2.out.ext hbs)
  have HN1 := Lib.hid hRs
  clear a0 a1 a2 a3 a4 d0 d1 d2 d3 d4 hbs hRs HB0
  generalize w1.heap.size = b91 at *
  obtain ⟨a0, a1, a2, a3, a4⟩ := va5 HQ1.out
  obtain ⟨d0, d1, d2, d3, d4⟩ := va5 HQ2.out
  go_wp2_with fail
  refine (refMerge_at x y _ _ X1 (RepV.ext HB1.out HX.out) (RepV.ext HB1.out HY.out) HPX.out HPY.out).mono ?_
  rw [HR.out]
  rintro e w2 ⟨c2, rfl, hr2, hb2⟩
  obtain ⟨k92, n92, s92, a92, m92, rr2, aa2, mm2, rq2, rfl⟩ := V5 hr2
  have HV2 := Lib.hid hr2
  have HB2 := Lib.hid (ext_trans HB1.out hb2)
  replace HQ1 := Lib.hid (HQ1.out.ext hb2)
  replace HQ2 := Lib.hid (HQ2.out.ext hb2)
  replace HV1 := Lib.hid (RepV.ext hb2 HV1.out)
  replace HN1 := Lib.hid (HN1.out.ext hb2)
  clear hr2 hb2
  go_upto_region 3 with (refine wpList_store_row rfl _ _ _ rfl w2.heap.size (vAr k92 n92 s92 (.slice a92 m92 rr2) (.slice aa2 mm2 rq2)) rfl rfl _ _ (RH.new _ _ _) (v_inf5 _ _ _ _ _) rfl (v_all5 _ _ _ _ _ _ _ _ _) ?_)
  refine wp_stored fun X2 hbs hRs => ?_
  replace HV2 := Lib.hid (RepV.ext hbs HV2.out)
  replace HB2 := Lib.hid (ext_trans HB2.out hbs)
  replace HQ1 := Lib.hid (HQ1.out.ext hbs)
  replace HQ2 := Lib.hid (HQ2.out.ext hbs)
  replace HV1 := Lib.hid (RepV.ext hbs HV1.out)
  replace HN1 := Lib.hid (HN1.out.ext hbs)
  have HN2 := Lib.hid hRs
  clear a0 a1 a2 a3 a4 d0 d1 d2 d3 d4 hbs hRs HB1
  generalize w2.heap.size = b92 at *
  obtain ⟨a0, a1, a2, a3, a4⟩ := va5 HQ1.out
  obtain ⟨d0, d1, d2, d3, d4⟩ := va5 HQ2.out
  go_wp2_with fail
  refine (patch_at x y _ _ X2 (RepV.ext HB2.out HX.out) (RepV.ext HB2.out HY.out)).mono ?_
  rw [HP.out]
  rintro e w3 ⟨c3, rfl, hr3, hb3⟩
  obtain ⟨k93, n93, s93, a93, m93, rr3, aa3, mm3, rq3, rfl⟩ := V5 hr3
  have HV3 := Lib.hid hr3
  have HB3 := Lib.hid (ext_trans HB2.out hb3)
  replace HQ1 := Lib.hid (HQ1.out.ext hb3)
  replace HQ2 := Lib.hid (HQ2.out.ext hb3)
  replace HV1 := Lib.hid (RepV.ext hb3 HV1.out)
  replace HN1 := Lib.hid (HN1.out.ext hb3)
  replace HV2 := Lib.hid (RepV.ext hb3 HV2.out)
  replace HN2 := Lib.hid (HN2.out.ext hb3)
  clear hr3 hb3
  go_upto_region 4 with (refine wpList_store_row rfl _ _ _ rfl w3.heap.size (vAr k93 n93 s93 (.slice a93 m93 rr3) (.slice aa3 mm3 rq3)) rfl rfl _ _ (RH.new _ _ _) (v_inf5 _ _ _ _ _) rfl (v_all5 _ _ _ _ _ _ _ _ _) ?_)
  refine wp_stored fun X3 hbs hRs => ?_
  replace HV3 := Lib.hid (RepV.ext hbs HV3.out)
  replace HB3 := Lib.hid (ext_trans HB3.out hbs)
  replace HQ1 := Lib.hid (HQ1.out.ext hbs)
  replace HQ2 := Lib.hid (HQ2.out.ext hbs)
  replace HV1 := Lib.hid (RepV.ext hbs HV1.out)
  replace HN1 := Lib.hid (HN1.out.ext hbs)
  replace HV2 := Lib.hid (RepV.ext hbs HV2.out)
  replace HN2 := Lib.hid (HN2.out.ext hbs)
  have HN3 := Lib.hid hRs
  clear a0 a1 a2 a3 a4 d0 d1 d2 d3 d4 hbs hRs HB2
  generalize w3.heap.size = b93 at *
  obtain ⟨a0, a1, a2, a3, a4⟩ := va5 HQ1.out
  obtain ⟨d0, d1, d2, d3, d4⟩ := va5 HQ2.out
  go_wp2_with fail
  refine (refPatch_at x y _ _ X3 (RepV.ext HB3.out HX.out) (RepV.ext HB3.out HY.out) HPX.out HPY.out).mono ?_
  rw [HP.out]
  rintro e w4 ⟨c4, rfl, hr4, hb4⟩
  obtain ⟨k94, n94, s94, a94, m94, rr4, aa4, mm4, rq4, rfl⟩ := V5 hr4
  have HV4 := Lib.hid hr4
  have HB4 := Lib.hid (ext_trans HB3.out hb4)
  replace HQ1 := Lib.hid (HQ1.out.ext hb4)
  replace HQ2 := Lib.hid (HQ2.out.ext hb4)
  replace HV1 := Lib.hid (RepV.ext hb4 HV1.out)
  replace HN1 := Lib.hid (HN1.out.ext hb4)
  replace HV2 := Lib.hid (RepV.ext hb4 HV2.out)
  replace HN2 := Lib.hid (HN2.out.ext hb4)
  replace HV3 := Lib.hid (RepV.ext hb4 HV3.out)
  replace HN3 := Lib.hid (HN3.out.ext hb4)
  clear hr4 hb4
  go_upto_region 5 with (refine wpList_store_row rfl _ _ _ rfl w4.heap.size (vAr k94 n94 s94 (.slice a94 m94 rr4) (.slice aa4 mm4 rq4)) rfl rfl _ _ (RH.new _ _ _) (v_inf5 _ _ _ _ _) rfl (v_all5 _ _ _ _ _ _ _ _ _) ?_)
  refine wp_stored fun X4 hbs hRs => ?_
  replace HV4 := Lib.hid (RepV.ext hbs HV4.out)
  replace HB4 := Lib.hid (ext_trans HB4.out hbs)
  replace HQ1 := Lib.hid (HQ1.out.ext hbs)
  replace HQ2 := Lib.hid (HQ2.out.ext hbs)
  replace HV1 := Lib.hid (RepV.ext hbs HV1.out)
  replace HN1 := Lib.hid (HN1.out.ext hbs)
  replace HV2 := Lib.hid (RepV.ext hbs HV2.out)
  replace HN2 := Lib.hid (HN2.out.ext hbs)
  replace HV3 := Lib.hid (RepV.ext hbs HV3.out)
  replace HN3 := Lib.hid (HN3.out.ext hbs)
  have HN4 := Lib.hid hRs
  clear a0 a1 a2 a3 a4 d0 d1 d2 d3 d4 hbs hRs HB3
  generalize w4.heap.size = b94 at *
  obtain ⟨f0, f1, f2, f3, f4⟩ := va5 HN1.out
  obtain ⟨g0, g1, g2, g3, g4⟩ := va5 HN2.out
  go_wp2_with fail
  refine (same_at r1 r1 _ _ X4 HV1.out HV2.out).mono ?_
  rw [HSR.out]
  rintro e w9 ⟨rfl, hb9⟩
  have HB9 := Lib.hid (ext_trans HB4.out hb9)
  have HV3' := Lib.hid (RepV.ext hb9 HV3.out)
  have HV4' := Lib.hid (RepV.ext hb9 HV4.out)
  have HN3' := Lib.hid (HN3.out.ext hb9)
  have HN4' := Lib.hid (HN4.out.ext hb9)
  clear f0 f1 f2 f3 f4 g0 g1 g2 g3 g4 hb9
  obtain ⟨f0, f1, f2, f3, f4⟩ := va5 HN3'.out
  obtain ⟨g0, g1, g2, g3, g4⟩ := va5 HN4'.out
  go_wp2_with fail
  refine (same_at p1 p1 _ _ w9 HV3'.out HV4'.out).mono ?_
  rw [HSP.out]
  rintro e w8 ⟨rfl, hb8⟩
  have HB8 := Lib.hid (ext_trans HB9.out hb8)
  clear f0 f1 f2 f3 f4 g0 g1 g2 g3 g4 hb8
  go_wp2
  go_ret
  exact ⟨by simp, HB8.out⟩
end Fd
end Go.Proofs.Ytkjgifhklajifaa
namespace Go.Proofs.Ytkjgifhklajifaa
open Go.RowKit

/-- A list of things, each of which lies in some cells, one behind the other. -/
def Reps {α : Type} (R : α → List Value → Prop) : List α → List Value → Prop
  | [], cs => cs = []
  | x :: xs, cs => ∃ c r, cs = c ++ r ∧ R x c ∧ Reps R xs r

theorem Reps.mono {α : Type} {R R' : α → List Value → Prop} (h : ∀ x c, R x c → R' x c) : ∀ {l : List α} {cs : List Value}, Reps R l cs → Reps R' l cs
  | [], _, hr => hr
  | _ :: _, _, ⟨c, r, e, h1, h2⟩ => ⟨c, r, e, h _ _ h1, Reps.mono h h2⟩
theorem Reps.length {α : Type} {R : α → List Value → Prop} {sz : Nat} (hs : ∀ x c, R x c → c.length = sz) : ∀ {l : List α} {cs : List Value}, Reps R l cs → cs.length = l.length * sz
  | [], _, hr => by cases hr; simp
  | _ :: l, _, ⟨c, r, e, h1, h2⟩ => by
    subst e
    rw [List.length_append, hs _ _ h1, Reps.length hs h2, List.length_cons, Nat.add_mul]
    omega
theorem Reps.get {α : Type} {R : α → List Value → Prop} {sz : Nat} (hs : ∀ x c, R x c → c.length = sz) : ∀ {l : List α} {cs : List Value} {i : Nat} {x : α}, Reps R l cs → l[i]? = some x → ∃ c, R x c ∧ ∀ j u, c[j]? = some u → cs[i * sz + j]? = some u
  | [], _, _, _, _, hx => by simp at hx
  | y :: l, cs, 0, x, h, hx => by
    obtain ⟨c, r, rfl, h1, h2⟩ := h
    obtain rfl : y = x := by simpa using hx
    refine ⟨c, h1, fun j u hu => ?_⟩
    rw [Nat.zero_mul, Nat.zero_add, List.getElem?_append_left (List.getElem?_eq_some_iff.1 hu).1]; exact hu
  | y :: l, cs, i + 1, x, h, hx => by
    obtain ⟨c, r, rfl, h1, h2⟩ := h
    obtain ⟨c', h3, h4⟩ := Reps.get hs h2 (by simpa using hx)
    refine ⟨c', h3, fun j u hu => ?_⟩
    have hl := hs _ _ h1
    have e : (i + 1) * sz + j = c.length + (i * sz + j) := by rw [hl, Nat.add_mul]; omega
    rw [e, List.getElem?_append_right (by omega), ← h4 j u hu]
    congr 1; omega

theorem addr_of_cell {w : World} {a : Addr} {v : Value} (h : w.cell? a = some v) : a = ⟨a.block, a.off, none⟩ := by
  cases a with | mk b o s =>
  cases s with
  | none => rfl
  | some k =>
    exfalso
    unfold World.cell? at h
    simp only at h
    split at h <;> simp at h

theorem add_add_none (b o i j : Nat) : ((⟨b, o, none⟩ : Addr).add i).add j = ⟨b, o + (i + j), none⟩ := by
  rw [add_spot, add_spot, Nat.add_assoc]

/-- A value of more cells than one is an aggregate of them. -/
theorem agg_of_cells {v : Value} (h : v.cells.toList.length ≠ 1) : v = .agg v.cells.toList.toArray := by
  cases v <;> simp_all [Value.cells]
theorem i64ok_of {n : Int} (h : (Lit.int .i64 n).wf = true) : i64ok n := by
  simpa [Lit.wf, IntKind.min, IntKind.max, IntKind.signed, IntKind.bits, i64ok] using h
end Go.Proofs.Ytkjgifhklajifaa
namespace Go.Proofs.Ytkjgifhklajifaa
open Go.RowKit
theorem cells_api_Value : Try.prog.cellsOf 25 = 5 := by kernel_rfl
theorem cells_api_Field : Try.prog.cellsOf 38 = 6 := by kernel_rfl
theorem cells_int : Try.prog.cellsOf 3 = 1 := by kernel_rfl
theorem cells_string : Try.prog.cellsOf 9 = 1 := by kernel_rfl
theorem cells_api_Values : Try.prog.cellsOf 22 = 1 := by kernel_rfl
theorem cells_api_Fields : Try.prog.cellsOf 23 = 1 := by kernel_rfl

theorem len5 {l : List Value} (h : l.length = 5) : ∃ a b c d e, l = [a, b, c, d, e] := by
  match l, h with
  | [a, b, c, d, e], _ => exact ⟨a, b, c, d, e, rfl⟩
theorem len6 {l : List Value} (h : l.length = 6) : ∃ a r, l = a :: r ∧ r.length = 5 := by
  match l, h with
  | a :: r, h => exact ⟨a, r, rfl, by simpa using h⟩

section
variable {H : Type} {enc : TypeId × Value → H} {W : World} {spare : Nat → Bool} {held : Bool}
end
end Go.Proofs.Ytkjgifhklajifaa
namespace Go.Proofs.Ytkjgifhklajifaa
open Go.RowKit
theorem elems_repsD {α β : Type} {R : α → List Value → Prop} {D : α → β} {sz : Nat} (hs : ∀ x c, R x c → c.length = sz) (f : Nat → List Value) (g : Nat → β) :
    ∀ (n : Nat), (∀ i, i < n → ∃ x, R x (f i) ∧ D x = g i) → ∃ l : List α, l.length = n ∧ Reps R l ((List.range n).flatMap f) ∧ (∀ i, i < n → ∀ j u, (f i)[j]? = some u → ((List.range n).flatMap f)[i * sz + j]? = some u) ∧ l.map D = (List.range n).map g
  | 0, _ => ⟨[], rfl, rfl, (fun i h => by omega), rfl⟩
  | n + 1, h => by
    obtain ⟨l, hl, hr, hg, hD⟩ := elems_repsD hs f g n (fun i hi => h i (by omega))
    obtain ⟨x, hx, hxD⟩ := h n (by omega)
    have hlen := Reps.length hs hr
    have happ : ∀ {l : List α} {cs : List Value}, Reps R l cs → Reps R (l ++ [x]) (cs ++ f n) := by
      intro l
      induction l with
      | nil => intro cs hc; cases hc; exact ⟨f n, [], by simp, hx, rfl⟩
      | cons y l ih =>
        rintro cs ⟨c, r, rfl, h1, h2⟩
        exact ⟨c, r ++ f n, by simp, h1, ih h2⟩
    have hfm : (List.range (n + 1)).flatMap f = (List.range n).flatMap f ++ f n := by
      rw [List.range_succ, List.flatMap_append]; simp
    refine ⟨l ++ [x], by simp [hl], by rw [hfm]; exact happ hr, fun i hi j u hu => ?_, by rw [List.range_succ, List.map_append, List.map_append, hD]; simp [hxD]⟩
    rw [hfm]
    by_cases hin : i < n
    · have := hg i hin j u hu
      rw [List.getElem?_append_left (List.getElem?_eq_some_iff.1 this).1]; exact this
    · have : i = n := by omega
      subst this
      rw [hl] at hlen
      rw [List.getElem?_append_right (by omega), ← hu]
      congr 1; omega
/-- A slice that is read as data, and the data of its elements. -/
theorem read_sliceD {H : Type} {enc : TypeId × Value → H} {P : Program} {W : World} {spare : Nat → Bool} {held : Bool} {α : Type} {R : α → List Value → Prop} {D : α → DataW H} {sz : Nat} (hs : ∀ x c, R x c → c.length = sz)
    {t e : TypeId} {fuel : Nat} {cs : List Value} {x : DataW H × List MemPlace} (ht : P.underlying t = some (.slice e)) (hC : P.cellsOf e = sz) (hsz : 0 < sz)
    (hel : ∀ n cs' y, n < fuel → DataW.trod enc P W 0 spare held n e cs' = some y → ∃ a, R a cs' ∧ D a = y.1)
    (h : DataW.trod enc P W 0 spare held fuel t cs = some x) : ∃ (a : Option Addr) (l : List α) (cap : Nat) (cells : List Value), cs = [.slice a l.length cap] ∧ Sl W (.slice a l.length cap) l.length cells ∧ Reps R l cells ∧ ((x.1 = .nil ∧ l = []) ∨ ∃ rest, x.1 = .slice (l.map D) rest) := by
  rcases DataW.trod_slice ht h with ⟨rfl, rfl⟩ | ⟨a, len, cap, elems, rest, n, hn, rfl, hx, hb, hl, hm, hlen, hel', _⟩
  · exact ⟨none, [], 0, [], rfl, Sl.nil W, rfl, .inl ⟨rfl, rfl⟩⟩
  · rw [hC] at hel'
    have hget : ∀ i, i < len → ∃ c, (∀ j u, c[j]? = some u → W.cell? ((a.add (i * sz)).add j) = some u) ∧ ∃ y, R y c ∧ D y = (elems.map (·.1)).getD i .nil := by
      intro i hi
      have h1 := hel' i hi
      have hi' : i < elems.length := by omega
      rw [List.getElem?_eq_getElem hi'] at h1
      obtain ⟨c, hc, htr⟩ := Option.bind_eq_some_iff.1 h1
      obtain ⟨_, hcl, hat⟩ := World.cells?_some hc
      obtain ⟨y, hy, hyD⟩ := hel n c _ (by omega) htr
      refine ⟨c, fun j u hu => ?_, y, hy, ?_⟩
      · rw [hat j (by have := (List.getElem?_eq_some_iff.1 hu).1; omega)]; exact hu
      · rw [hyD, List.getD_eq_getElem?_getD, List.getElem?_map, List.getElem?_eq_getElem hi']; rfl
    have hget' : ∀ i, ∃ c, i < len → (∀ j u, c[j]? = some u → W.cell? ((a.add (i * sz)).add j) = some u) ∧ ∃ y, R y c ∧ D y = (elems.map (·.1)).getD i .nil := by
      intro i
      by_cases hi : i < len
      · obtain ⟨c, hc⟩ := hget i hi; exact ⟨c, fun _ => hc⟩
      · exact ⟨[], fun h => (hi h).elim⟩
    obtain ⟨f, hf⟩ := Classical.axiomOfChoice hget'
    obtain ⟨l, hll, hr, hg, hD⟩ := elems_repsD hs f (fun i => (elems.map (·.1)).getD i .nil) len (fun i hi => (hf i hi).2)
    have hDe : l.map D = elems.map (·.1) := by
      rw [hD]
      apply List.ext_getElem?
      intro i
      rw [List.getElem?_map]
      by_cases hi : i < len
      · rw [List.getElem?_range hi]
        have hi' : i < (elems.map (·.1)).length := by rw [List.length_map]; omega
        show some ((elems.map (·.1)).getD i .nil) = _
        rw [List.getD_eq_getElem?_getD, List.getElem?_eq_getElem hi']; rfl
      · rw [List.getElem?_eq_none (by rw [List.length_range]; omega), List.getElem?_eq_none (by rw [List.length_map]; omega)]; rfl
    refine ⟨some a, l, cap, _, by rw [hll], ⟨_, _, rfl, by omega, hm, (fun h => by cases h), fun i u hu => ?_⟩, hr, .inr ⟨rest.map (·.1), by rw [hx, hDe]⟩⟩
    have hrl := Reps.length hs hr
    have hi : i < len * sz := by have := (List.getElem?_eq_some_iff.1 hu).1; rw [hll] at hrl; omega
    have hid : i / sz < len := Nat.div_lt_of_lt_mul (by rw [Nat.mul_comm]; exact hi)
    obtain ⟨y, hy, _⟩ := (hf _ hid).2
    have hfl := hs _ _ hy
    have hj : i % sz < (f (i / sz)).length := by rw [hfl]; exact Nat.mod_lt _ hsz
    have h2 := hg _ hid _ _ (List.getElem?_eq_getElem hj)
    rw [Nat.div_add_mod' i sz, hu] at h2
    have hcell := (hf _ hid).1 _ _ (List.getElem?_eq_getElem hj)
    have h0 : 0 < len := Nat.lt_of_le_of_lt (Nat.zero_le _) hid
    obtain ⟨y0, hy0, _⟩ := (hf 0 h0).2
    have hj0 : 0 < (f 0).length := by rw [hs _ _ hy0]; exact hsz
    have hc0 := (hf 0 h0).1 _ _ (List.getElem?_eq_getElem hj0)
    rw [Nat.zero_mul] at hc0
    have ha : a = ⟨a.block, a.off, none⟩ := by
      have e : (a.add 0).add 0 = a := by simp [Addr.add]
      rw [e] at hc0
      exact addr_of_cell hc0
    refine ⟨a.block, a.off, by rw [← ha], ?_⟩
    rw [ha, add_add_none, Nat.div_add_mod' i sz] at hcell
    rw [hcell, Option.some.inj h2]
section
variable {H : Type} {enc : TypeId × Value → H} {W : World} {spare : Nat → Bool} {held : Bool}
theorem repsD_V {l : List (V × DataW H)} : ∀ {cs : List Value}, Reps (fun (p : V × DataW H) c => RepV W p.1 c ∧ Fd.pN p.1 ≤ Rows.uptoBulk p.2) l cs → RepL W (l.map (·.1)) cs ∧ Fd.pNL (l.map (·.1)) ≤ Rows.uptoBulkAll (l.map (·.2)) := by
  induction l with
  | nil => intro cs h; simp only [List.map_nil, RepL, Fd.pNL]; exact ⟨h, Nat.zero_le _⟩
  | cons p r ih =>
    rintro cs ⟨c, q, e, h1, h2⟩
    obtain ⟨i1, i2⟩ := ih h2
    simp only [List.map_cons, RepL, Fd.pNL, Rows.uptoBulkAll]
    exact ⟨⟨c, q, e, h1.1, i1⟩, by have := h1.2; omega⟩
theorem repsD_F {l : List (F × DataW H)} : ∀ {cs : List Value}, Reps (fun (p : F × DataW H) c => RepF W p.1 c ∧ Fd.pN (Fd.vlF p.1) ≤ Rows.uptoBulk p.2) l cs → RepFs W (l.map (·.1)) cs ∧ Fd.pNF (l.map (·.1)) ≤ Rows.uptoBulkAll (l.map (·.2)) := by
  induction l with
  | nil => intro cs h; simp only [List.map_nil, RepFs, Fd.pNF]; exact ⟨h, Nat.zero_le _⟩
  | cons p r ih =>
    rintro cs ⟨c, q, e, h1, h2⟩
    obtain ⟨i1, i2⟩ := ih h2
    obtain ⟨⟨nm, v⟩, d⟩ := p
    simp only [List.map_cons, RepFs, Fd.pNF, Rows.uptoBulkAll]
    exact ⟨⟨c, q, e, h1.1, i1⟩, by have := h1.2; simp only [Fd.vlF] at this; omega⟩
/-- a value that is read, and its parts by the bulk of the datum -/
theorem read_VB : ∀ (fuel : Nat) (cs : List Value) (x : DataW H × List MemPlace), DataW.trod enc Try.prog W 0 spare held fuel 25 cs = some x → ∃ v, RepV W v cs ∧ Fd.pN v ≤ Rows.uptoBulk x.1 := by
  intro fuel
  induction fuel using Nat.strongRecOn with
  | _ fuel ih =>
  intro cs x h
  obtain ⟨xs, n, rfl, rfl, hlen, hxl, hf⟩ := DataW.trod_struct Try.underlying25 h
  rw [cells_api_Value] at hlen
  obtain ⟨c0, c1, c2, c3, c4, rfl⟩ := len5 hlen
  have f0 : DataW.trod enc Try.prog W 0 spare held n 3 (List.take (Try.prog.cellsOf 3) (List.drop 0 [c0, c1, c2, c3, c4])) = xs[0]? := hf 0 _ rfl
  rw [cells_int] at f0
  have f1 : DataW.trod enc Try.prog W 0 spare held n 3 (List.take (Try.prog.cellsOf 3) (List.drop 1 [c0, c1, c2, c3, c4])) = xs[1]? := hf 1 _ rfl
  rw [cells_int] at f1
  have f2 : DataW.trod enc Try.prog W 0 spare held n 9 (List.take (Try.prog.cellsOf 9) (List.drop 2 [c0, c1, c2, c3, c4])) = xs[2]? := hf 2 _ rfl
  rw [cells_string] at f2
  have f3 : DataW.trod enc Try.prog W 0 spare held n 22 (List.take (Try.prog.cellsOf 22) (List.drop 3 [c0, c1, c2, c3, c4])) = xs[3]? := hf 3 _ rfl
  rw [cells_api_Values] at f3
  have f4 : DataW.trod enc Try.prog W 0 spare held n 23 (List.take (Try.prog.cellsOf 23) (List.drop 4 [c0, c1, c2, c3, c4])) = xs[4]? := hf 4 _ rfl
  rw [cells_api_Fields] at f4
  simp only [List.drop, List.take] at f0 f1 f2 f3 f4
  have hxl5 : xs.length = 5 := by simp_all
  obtain ⟨y0, y1, y2, y3, y4, rfl⟩ : ∃ y0 y1 y2 y3 y4, xs = [y0, y1, y2, y3, y4] := by
    match xs, hxl5 with
    | [a, b, c, d, e], _ => exact ⟨a, b, c, d, e, rfl⟩
  simp only [List.getElem?_cons_zero, List.getElem?_cons_succ] at f0 f1 f2 f3 f4
  obtain ⟨k, h0, _, w0⟩ := DataW.trod_int Try.underlying3 f0
  obtain ⟨m, h1, _, w1⟩ := DataW.trod_int Try.underlying3 f1
  obtain ⟨s, h2, _, w2⟩ := DataW.trod_string Try.underlying9 f2
  obtain ⟨a3, is, q3, ics, h3, s3, r3, d3⟩ := read_sliceD (R := fun (p : V × DataW H) c => RepV W p.1 c ∧ Fd.pN p.1 ≤ Rows.uptoBulk p.2) (D := fun p => p.2) (fun _ _ h => RepV.len h.1) Try.underlying22 cells_api_Value (by omega) (fun j cs' y hj ht => by
    obtain ⟨v, hv, hp⟩ := ih j (by omega) cs' y ht
    exact ⟨(v, y.1), ⟨hv, hp⟩, rfl⟩) f3
  obtain ⟨a4, fs, q4, fcs, h4, s4, r4, d4⟩ := read_sliceD (R := fun (p : F × DataW H) c => RepF W p.1 c ∧ Fd.pN (Fd.vlF p.1) ≤ Rows.uptoBulk p.2) (D := fun p => p.2) (fun _ _ h => RepF.len h.1) Try.underlying23 cells_api_Field (by omega) (fun j cs' y hj ht => by
    obtain ⟨xs', n', rfl, rfl, hlen', hxl', hf'⟩ := DataW.trod_struct Try.underlying38 ht
    rw [cells_api_Field] at hlen'
    obtain ⟨d0, r, rfl, hr⟩ := len6 hlen'
    have g0 : DataW.trod enc Try.prog W 0 spare held n' 9 (List.take (Try.prog.cellsOf 9) (List.drop 0 (d0 :: r))) = xs'[0]? := hf' 0 _ rfl
    have g1 : DataW.trod enc Try.prog W 0 spare held n' 25 (List.take (Try.prog.cellsOf 25) (List.drop 1 (d0 :: r))) = xs'[1]? := hf' 1 _ rfl
    rw [cells_string] at g0
    rw [cells_api_Value] at g1
    simp only [List.drop, List.take] at g0
    rw [List.drop_succ_cons, List.drop_zero] at g1
    have hxl2 : xs'.length = 2 := by simp_all
    obtain ⟨z0, z1, rfl⟩ : ∃ z0 z1, xs' = [z0, z1] := by
      match xs', hxl2 with
      | [a, b], _ => exact ⟨a, b, rfl⟩
    simp only [List.getElem?_cons_zero, List.getElem?_cons_succ] at g0 g1
    rw [List.take_of_length_le (by omega)] at g1
    obtain ⟨nm, l0, _, wn⟩ := DataW.trod_string Try.underlying9 g0
    obtain ⟨v, hv, hp⟩ := ih n' (by omega) r _ g1
    cases l0
    refine ⟨(.mk nm v, .agg [z0.1, z1.1]), ⟨by simp only [RepF]; exact ⟨r, rfl, wn, hv⟩, ?_⟩, rfl⟩
    show Fd.pN v ≤ Rows.uptoBulk (.agg [z0.1, z1.1])
    simp only [Rows.uptoBulk, Rows.uptoBulkAll]
    omega) f4
  cases h0
  cases h1
  cases h2
  cases h3
  cases h4
  obtain ⟨l3, p3⟩ := repsD_V r3
  obtain ⟨l4, p4⟩ := repsD_F r4
  have b3 : Fd.pNL (is.map (·.1)) ≤ Rows.uptoBulk y3.1 := by
    rcases d3 with ⟨e, rfl⟩ | ⟨rest, e⟩
    · simp [Fd.pNL]
    · rw [e]; simp only [Rows.uptoBulk]; omega
  have b4 : Fd.pNF (fs.map (·.1)) ≤ Rows.uptoBulk y4.1 := by
    rcases d4 with ⟨e, rfl⟩ | ⟨rest, e⟩
    · simp [Fd.pNF]
    · rw [e]; simp only [Rows.uptoBulk]; omega
  refine ⟨.mk k m s (is.map (·.1)) (fs.map (·.1)), by simp only [RepV]; exact ⟨.slice a3 is.length q3, .slice a4 fs.length q4, ics, fcs, rfl, i64ok_of w0, i64ok_of w1, w2, by rw [List.length_map]; exact s3, l3, by rw [List.length_map]; exact s4, l4⟩, ?_⟩
  show Fd.pN _ ≤ Rows.uptoBulk (.agg [y0.1, y1.1, y2.1, y3.1, y4.1])
  simp only [Rows.uptoBulk, Rows.uptoBulkAll, Fd.pN]
  omega
end
end Go.Proofs.Ytkjgifhklajifaa
namespace Go.Proofs.Ytkjgifhklajifaa
open Go.ChangeShapes Go.WideShapes Go.ChangeAt Go.RowKit

theorem own : ownKnob Try.prog.godebug = none := by kernel_rfl
theorem laidOut : laidOutB Try.prog = true := by kernel_rfl

theorem trodAll_below {H : Type} {enc : TypeId × Value → H} {P : Program} (hl : laidOutB P = true) {W W' : World} (hb : Below W.heap.size W W') :
    ∀ (ts : List TypeId) (vs : List Value) (ds : List (DataW H)) (ps : List MemPlace), (∀ t ∈ ts, P.readableRec t = true ∧ t < P.types.size) →
      DataW.TrodAll enc P W 0 (fun _ => true) true ts vs ds ps → (∀ x ∈ ps, x.block < W.heap.size) →
      DataW.TrodAll enc P W' 0 (fun b => decide (b < W.heap.size)) true ts vs ds ps
  | [], [], [], ps, _, h, _ => h
  | t :: ts, v :: vs, d :: ds, ps, hr, h, hlt => by
    obtain ⟨p, q, h1, h2, rfl⟩ := h
    refine ⟨p, q, Below.trod hl (hr t (by simp)).1 (hr t (by simp)).2 h1 hb (fun x hx => hlt x (by simp [hx])), ?_, rfl⟩
    exact trodAll_below hl hb ts vs ds q (fun t ht => hr t (by simp [ht])) h2 (fun x hx => hlt x (by simp [hx]))
  | [], [], _ :: _, _, _, h, _ => h.elim
  | [], _ :: _, [], _, _, h, _ => h.elim
  | [], _ :: _, _ :: _, _, _, h, _ => h.elim
  | _ :: _, [], [], _, _, h, _ => h.elim
  | _ :: _, [], _ :: _, _, _, h, _ => h.elim
  | _ :: _, _ :: _, [], _, _, h, _ => h.elim

theorem law_post {H : Type} {enc : TypeId × Value → H} {P : Program} (hl : laidOutB P = true) {f : Func} {s : ChangeSpec} (hv : s.vars = []) {W W' : World} {args : Array Value} {ds gs : List (DataW H)} {before : List MemPlace}
    (hW : DataW.Whole enc P f.params.toList s.vars false W args.toList ds gs before) (hb : Below W.heap.size W W')
    (hr0 : (f.params.toList.all fun t => P.readableRec t && decide (t < P.types.size)) = true) {tb : TypeId} (hres : f.resultTypes = #[tb]) (hub : P.underlying tb = some .bool)
    (hfn : s.fn H (ds ++ gs) = { results := [.lit (.bool true)], args := ds }) : s.post enc P f false true false false W args (.bool true) W' := by
  have hlt := hW.lt
  have hr : ∀ t ∈ f.params.toList, P.readableRec t = true ∧ t < P.types.size := fun t ht => by simpa using List.all_eq_true.1 hr0 t ht
  have hW' := hW
  obtain ⟨p, q, hA, hV, rfl, _, _⟩ := hW
  rw [hv] at hV
  obtain ⟨rfl, rfl⟩ := trodVars_none hV
  refine ⟨ds, [], _, [], p, [], hW', ?_, ?_, ?_, hb.frame _, fun h => by cases h⟩
  · rw [hfn, hres]
    exact trodAll_cons_mk (shut_bool hub true) trodAll_mk0
  · rw [hfn]
    exact trodAll_below hl hb _ _ _ _ hr hA (fun x hx => hlt x (by simp [hx]))
  · rw [hfn, hv]
    rfl
end Go.Proofs.Ytkjgifhklajifaa
