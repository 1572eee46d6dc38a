/- Verdict of package decide: what it says, in plain words; rows of pairs in memory. CheckPlan of the reference and of the program. Printed by gen_rverd.py. -/
import Derived.Test.YtmnmepbljegjeaaGreatDoorBa62
import Derived.Test.YtmnmepbljegjeaaGreatDoorBa63
import Derived.Test.YtmnmepbljegjeaaGreatDoorBa53
namespace Go.Proofs.YtmnmepbljegjeaaGreatDoor
open Go.RowKit
namespace Nm
def pF : List (List Tri) → Int
  | [] => 0
  | l :: r => if pairF l ≠ 0 then pairF l else pF r
theorem pF_step {L : List (List Tri)} {k : Nat} {l : List Tri} (h : L[k]? = some l) : pF (L.drop k) = if pairF l ≠ 0 then pairF l else pF (L.drop (k + 1)) := by
  obtain ⟨hk, rfl⟩ := List.getElem?_eq_some_iff.1 h
  rw [List.drop_eq_getElem_cons hk]; rfl
def verF (P K : Int) (n m : ByteArray) (gs : List RT) (goal : List Tri) (guards : List (List Tri)) : Int :=
  if planF P K n m gs ≠ 0 then planF P K n m gs else if pF (goal :: guards) ≠ 0 then pF (goal :: guards) else if guards.length ≠ gs.length then 3 else 0
def minN : Nat → List (List Int) → Nat
  | n, [] => n
  | n, z :: r => minN (min n z.length) r
theorem minN_le : ∀ (zs : List (List Int)) (n : Nat), minN n zs ≤ n ∧ ∀ z ∈ zs, minN n zs ≤ z.length
  | [], n => ⟨Nat.le_refl _, fun z h => by cases h⟩
  | z :: r, n => by
    obtain ⟨h1, h2⟩ := minN_le r (min n z.length)
    refine ⟨Nat.le_trans h1 (Nat.min_le_left _ _), fun y hy => ?_⟩
    rcases List.mem_cons.1 hy with rfl | hy
    · exact Nat.le_trans h1 (Nat.min_le_right _ _)
    · exact h2 y hy
theorem minN_step {zs : List (List Int)} {k n : Nat} {z : List Int} (h : zs[k]? = some z) : minN n (zs.drop k) = minN (min n z.length) (zs.drop (k + 1)) := by
  obtain ⟨hk, rfl⟩ := List.getElem?_eq_some_iff.1 h
  rw [List.drop_eq_getElem_cons hk]; rfl
def stopStep (s h : Nat) : Nat := if 0 < h ∧ (s = 0 ∨ h < s) then h else s
def decG (K : Nat) (r : RT) (z : List Int) (n : Nat) : Nat := decAt (decB 2 K (rQ r.n r.d)⁻¹) 0 0 0 (z.take n)
def stopL (K n : Nat) : Nat → List RT → List (List Int) → Nat
  | s, r :: gs, z :: zs => stopL K n (stopStep s (decG K r z n)) gs zs
  | s, _, _ => s
theorem stopL_step {K n s k : Nat} {gs : List RT} {zs : List (List Int)} {r : RT} {z : List Int} (h1 : gs[k]? = some r) (h2 : zs[k]? = some z) : stopL K n s (gs.drop k) (zs.drop k) = stopL K n (stopStep s (decG K r z n)) (gs.drop (k + 1)) (zs.drop (k + 1)) := by
  obtain ⟨hk, rfl⟩ := List.getElem?_eq_some_iff.1 h1
  obtain ⟨hk', rfl⟩ := List.getElem?_eq_some_iff.1 h2
  rw [List.drop_eq_getElem_cons hk, List.drop_eq_getElem_cons hk']; rfl
def shipN (K : Nat) (n m : ByteArray) (z : List Int) (N : Nat) : Nat := decAt (decB 1 K (rQ n m)⁻¹) 0 0 0 (z.take N)
def verdV (ship stop N P : Nat) : Int := if 0 < stop ∧ (ship = 0 ∨ stop ≤ ship) then 3 else if 0 < ship then 2 else if N = P then 4 else 1
def verdN (ship stop : Nat) : Int := if 0 < stop ∧ (ship = 0 ∨ stop ≤ ship) then stop else if 0 < ship then ship else 0
/-- the verdict and its pair -/
def verA (P K : Int) (n m : ByteArray) (gs : List RT) (goal : List Tri) (guards : List (List Tri)) : Int × Int :=
  if verF P K n m gs goal guards = 0 then
    let N := minN P.toNat ((goal :: guards).map pairZ)
    let ship := shipN K.toNat n m (pairZ goal) N
    let stop := stopL K.toNat N 0 gs (guards.map pairZ)
    (verdV ship stop N P.toNat, verdN ship stop)
  else (0, 0)
def VerPost (w : World) (v n f : Int) (e : Ending) (w' : World) : Prop := e = .returned (.tuple #[.int .i64 v, .int .i64 n, .int .i64 f]) ∧ Below w.heap.size w w'
/-- a value that is a slice -/
def IsSl : Value → Prop
  | .slice _ _ _ => True
  | _ => False
def RowsZ (w : World) (pvs : List SV) (zs : List (List Int)) : Prop := pvs.length = zs.length ∧ ∀ (i : Nat) sv z, pvs[i]? = some sv → zs[i]? = some z → sv.n = z.length ∧ Sl w (.slice sv.a sv.n sv.c) sv.n (ics z)
theorem RowsZ.ext {w w' : World} {pvs : List SV} {zs : List (List Int)} (h : RowsZ w pvs zs) (hb : Below w.heap.size w w') : RowsZ w' pvs zs := ⟨h.1, fun i sv z h1 h2 => ⟨(h.2 i sv z h1 h2).1, (h.2 i sv z h1 h2).2.ext hb⟩⟩
theorem ics_not (z : List Int) : ∀ u ∈ ics z, ¬ IsSl u := by
  intro u hu h
  simp only [ics, List.mem_map] at hu
  obtain ⟨c, _, rfl⟩ := hu
  exact h
structure VL (w2 wr : World) (base : Nat) (v : Value) (k : Nat) (pvs : List SV) (zs : List (List Int)) : Prop where
  low : Below w2.heap.size w2 wr
  own : wr.ownsRow base 45 1 v k (pvs.flatMap svL)
  q : RowQ IsSl wr v
  rows : RowsZ wr pvs zs
  len : pvs.length = k
  bs : base ≤ wr.heap.size
  lb : w2.heap.size ≤ base
theorem VL.ext {w2 wr w' : World} {base : Nat} {v : Value} {k : Nat} {pvs : List SV} {zs : List (List Int)} (h : VL w2 wr base v k pvs zs) (hb : Below wr.heap.size wr w') : VL w2 w' base v k pvs zs :=
  ⟨ext_trans h.low hb, ownsRow_ext h.own hb, h.q.ext h.own hb, h.rows.ext hb, h.len, Nat.le_trans h.bs hb.size, h.lb⟩
theorem VL.push {w2 wr w' : World} {base : Nat} {v v' : Value} {k : Nat} {pvs : List SV} {zs : List (List Int)} (h : VL w2 wr base v k pvs zs) (pv : SV) (z : List Int) (hg : wr.grownBy w' v.ownBlock)
    (hown : w'.ownsRow base 45 1 v' (k + 1) (pvs.flatMap svL ++ [.slice pv.a pv.n pv.c])) (hq : RowQ IsSl w' v') (hn : pv.n = z.length) (hz : Sl wr (.slice pv.a pv.n pv.c) pv.n (ics z)) : VL w2 w' base v' (k + 1) (pvs ++ [pv]) (zs ++ [z]) := by
  have lt : ∀ q, v.ownBlock = some q → base ≤ q := fun q e => (h.own.lt q e).1
  have hlb := h.lb
  refine ⟨h.low.grown hg h.low.size (fun q e => by have := lt q e; omega), ?_, hq, ⟨by rw [List.length_append, List.length_append, h.rows.1]; rfl, ?_⟩, by rw [List.length_append, h.len]; rfl, Nat.le_trans h.bs hg.size, hlb⟩
  · rw [List.flatMap_append]; simpa [svL] using hown
  · intro i sv z' e1 e2
    rcases Nat.lt_or_ge i pvs.length with hi | hi
    · rw [List.getElem?_append_left hi] at e1
      rw [List.getElem?_append_left (by rw [← h.rows.1]; exact hi)] at e2
      obtain ⟨h1, h2⟩ := h.rows.2 i sv z' e1 e2
      exact ⟨h1, h2.keepQ (ics_not _) h.q hg⟩
    · rw [List.getElem?_append_right hi] at e1
      rw [List.getElem?_append_right (by rw [← h.rows.1]; exact hi), ← h.rows.1] at e2
      have hi' : i - pvs.length = 0 := by
        rcases Nat.eq_zero_or_pos (i - pvs.length) with h0 | h0
        · exact h0
        · rw [List.getElem?_eq_none (by simp; omega)] at e1; cases e1
      rw [hi'] at e1 e2
      obtain rfl : pv = sv := by simpa using e1
      obtain rfl : z = z' := by simpa using e2
      exact ⟨hn, hz.keepQ (ics_not _) h.q hg⟩
/-- the cell of a row of slices -/
theorem VL.cell {w2 wr : World} {base : Nat} {v : Value} {k : Nat} {pvs : List SV} {zs : List (List Int)} (h : VL w2 wr base v k pvs zs) {i : Nat} {pv : SV} (hi : pvs[i]? = some pv) : ∃ g cap, v = .slice (some ⟨g, 0, none⟩) k cap ∧ wr.cell? ⟨g, i, none⟩ = some (.slice pv.a pv.n pv.c) := by
  have hk : 0 < k := by have := (List.getElem?_eq_some_iff.1 hi).1; rw [h.len] at this; omega
  obtain ⟨g, cap, rfl⟩ := own_shape h.own hk
  have hs := Sl.ofOwn h.own
  have hc : (pvs.flatMap svL)[i]? = some (.slice pv.a pv.n pv.c) := by
    have := flat_get (f := svL) (sz := 1) (fun _ => rfl) pvs i pv hi 0 _ rfl
    simpa using this
  obtain ⟨b, o, e, hcell⟩ := sl_addr hs hc
  cases e
  exact ⟨g, cap, rfl, by simpa using hcell⟩
/-- held: the world is an extension of W, a block reads as it did, and so does a cell -/
abbrev SC (W : World) (b : Nat) (A : Array Value) (g o : Nat) (u : Value) (w' : World) : Prop := Below W.heap.size W w' ∧ (∀ j, w'.cell? ⟨b, j, none⟩ = A[j]?) ∧ w'.cell? ⟨g, o, none⟩ = some u
theorem SC.start {W : World} {b : Nat} {A : Array Value} {g o : Nat} {u : Value} (h1 : Box W b A) (h2 : W.cell? ⟨g, o, none⟩ = some u) : SC W b A g o u W.drew := ⟨(Below.refl _ _).drew, h1.2, h2⟩
theorem SC.ext {W w1 w2 : World} {b : Nat} {A : Array Value} {g o : Nat} {u : Value} (hb : Below w1.heap.size w1 w2) (h : SC W b A g o u w1) (h1 : Box W b A) : SC W b A g o u w2 :=
  ⟨ext_trans h.1 hb, fun j => (hb.cell (p := ⟨b, j, none⟩) (Nat.lt_of_lt_of_le h1.1 h.1.size)).trans (h.2.1 j), cell_later hb h.2.2⟩
theorem ints_info : (Tryz.prog.info? 45).map (fun i => (i.zero, i.size, i.bytes)) = some (some (.slice none 0 0), 1, 24) := by kernel_rfl
/-- Concat([goal], guards) at the world that two new blocks leave -/
theorem catL_new (w : World) (g : SV) (oa : Option Addr) (oc : Nat) (svs : List SV) (s1 : Sl w (.slice oa svs.length oc) svs.length (svs.flatMap svL)) (ht : svs.length ≤ 6000000000000) :
    Calls Tryz.prog 136 #[.slice (some ⟨w.heap.size + 1, 0, none⟩) 2 2] ((w.alloc (.cells #[.slice g.a g.n g.c] 38)).alloc (.cells #[.slice (some ⟨w.heap.size, 0, none⟩) 1 1, .slice oa svs.length oc] 80)) (CCCatL.CatFrom w (g :: svs)) := by
  have hb : Below w.heap.size w ((w.alloc (.cells #[.slice g.a g.n g.c] 38)).alloc (.cells #[.slice (some ⟨w.heap.size, 0, none⟩) 1 1, .slice oa svs.length oc] 80)) := by go_grown
  have s0 : Sl (w.alloc (.cells #[.slice g.a g.n g.c] 38)) (.slice (some ⟨w.heap.size, 0, none⟩) 1 1) 1 (CCCatL.cells [g]) := Sl.new w #[.slice g.a g.n g.c] _ 1 1 (by omega) (by decide)
  have hsz : (w.alloc (.cells #[.slice g.a g.n g.c] 38)).heap.size = w.heap.size + 1 := by simp
  refine (CCCatL.cat_two _ _ (some ⟨w.heap.size, 0, none⟩) oa 1 svs.length 1 oc [g] svs _ (by simp) (by simp) (s0.ext (ext_alloc _ _)) (s1.ext hb) rfl rfl (by omega)).mono ?_
  rintro e w' ⟨a, cap, rfl, h1, h2, h3⟩
  exact ⟨a, cap, rfl, h1, CCCatL.own_up h2 (by simp; omega), ext_trans hb h3⟩
end Nm
end Go.Proofs.YtmnmepbljegjeaaGreatDoor
namespace Go.Proofs.YtmnmepbljegjeaaGreatDoor
open Go.RowKit
namespace Nt
open _root_.Go.Proofs.YtmnmepbljegjeaaGreatDoor.Nm (showN showD Fits rQ missF FPost RT rtL rtOk gF gF_step planF betA PlanPost readPlan_at Ln)
open _root_.Go.Proofs.YtmnmepbljegjeaaGreatDoor.lawLine (miss_parts)
theorem planF_ok {P K : Int} {n m : ByteArray} {gs : List RT} (h : planF P K n m gs = 0) : (1 ≤ P ∧ P ≤ 60 ∧ 1 ≤ K ∧ K ≤ 5) ∧ missF n m = 0 ∧ gs.length ≤ 20 ∧ gF gs = 0 := by
  unfold planF at h
  by_cases h1 : 1 ≤ P ∧ P ≤ 60 ∧ 1 ≤ K ∧ K ≤ 5
  · rw [if_neg (fun h' => h' h1)] at h
    by_cases h2 : missF n m = 0
    · rw [if_neg (fun h' => h' h2)] at h
      by_cases h3 : 20 < gs.length
      · rw [if_pos h3] at h; cases h
      · rw [if_neg h3] at h
        exact ⟨h1, h2, by omega, h⟩
    · rw [if_pos h2] at h; exact absurd h h2
  · rw [if_pos h1] at h; cases h
theorem gF_all : ∀ {gs : List RT}, gF gs = 0 → ∀ r ∈ gs, missF r.n r.d = 0
  | [], _, r, hr => by cases hr
  | x :: t, h, r, hr => by
    unfold gF at h
    by_cases hx : missF x.n x.d = 0
    · rw [if_neg (fun h' => h' hx)] at h
      rcases List.mem_cons.1 hr with rfl | hr
      · exact hx
      · exact gF_all h r hr
    · rw [if_pos hx] at h; exact absurd h hx
set_option maxRecDepth 100000 in
set_option maxHeartbeats 8000000 in
theorem refCheckPlan_at (P K : Int) (n m : ByteArray) (hn : n.size ≤ maxLen) (hm : m.size ≤ maxLen) (gs : List RT) (hgs : ∀ r ∈ gs, rtOk r) (ga : Option Addr) (gc : Nat) (w : World) (hs : Sl w (.slice ga gs.length gc) gs.length (gs.flatMap rtL)) (ht : Tab w) : Calls Tryz.prog 68 #[.agg #[Value.int .i64 P, Value.int .i64 K, Value.string n, Value.string m, Value.slice ga gs.length gc]] w (FPost w (planF P K n m gs)) := by
  have HS := Lib.hid hs
  have HGS := Lib.hid hgs
  clear hs hgs
  go_enter Tryz.func68, Tryz.ntmps68
  have HT0 := Lib.hid ht
  clear ht
  go_upto_region 1 with (fail)
  refine wp_box1 fun w1' hsz hbW hA0 => ?_
  clear hsz
  have HB_p := Lib.hid hA0
  have HW := Lib.hid hbW
  clear hbW hA0
  have c_p_0 : w1'.cell? ⟨w.heap.size, 0, none⟩ = some (.int .i64 P) := HB_p.out.2 0
  have c_p_1 : w1'.cell? ⟨w.heap.size, 1, none⟩ = some (.int .i64 K) := HB_p.out.2 1
  have c_p_2 : w1'.cell? ⟨w.heap.size, 2, none⟩ = some (.string n) := HB_p.out.2 2
  have c_p_3 : w1'.cell? ⟨w.heap.size, 3, none⟩ = some (.string m) := HB_p.out.2 3
  have c_p_4 : w1'.cell? ⟨w.heap.size, 4, none⟩ = some (.slice ga gs.length gc) := HB_p.out.2 4
  by_cases h2 : P < 1
  · have HV : Hid (planF P K n m gs = 1) := Lib.hid (by unfold planF; rw [if_pos (by omega)])
    go_wp2
    exact bodyPost_ret (v := .int .i64 (1)) (by simp [results, Tryz.results68, go_sem]) rfl ⟨by rw [HV.out], HW.out⟩
  by_cases h2 : 60 < P
  · have HV : Hid (planF P K n m gs = 1) := Lib.hid (by unfold planF; rw [if_pos (by omega)])
    go_wp2
    exact bodyPost_ret (v := .int .i64 (1)) (by simp [results, Tryz.results68, go_sem]) rfl ⟨by rw [HV.out], HW.out⟩
  by_cases h2 : K < 1
  · have HV : Hid (planF P K n m gs = 1) := Lib.hid (by unfold planF; rw [if_pos (by omega)])
    go_wp2
    exact bodyPost_ret (v := .int .i64 (1)) (by simp [results, Tryz.results68, go_sem]) rfl ⟨by rw [HV.out], HW.out⟩
  by_cases h2 : 5 < K
  · have HV : Hid (planF P K n m gs = 1) := Lib.hid (by unfold planF; rw [if_pos (by omega)])
    go_wp2
    exact bodyPost_ret (v := .int .i64 (1)) (by simp [results, Tryz.results68, go_sem]) rfl ⟨by rw [HV.out], HW.out⟩
  have hPK : 1 ≤ P ∧ P ≤ 60 ∧ 1 ≤ K ∧ K ≤ 5 := by omega
  have HPK := Lib.hid hPK
  clear hPK
  go_wp2_with fail
  refine (isMiss_at n m hn hm w1' (HT0.out.ext HW.out)).mono ?_
  rintro e w2' ⟨rfl, hbz⟩
  replace HB_p := Lib.hid (HB_p.out.ext hbz)
  replace HW := Lib.hid (ext_trans HW.out hbz)
  clear c_p_0 c_p_1 c_p_2 c_p_3 c_p_4
  clear hbz
  by_cases hf : missF n m = 0
  · have hne : (missF n m != 0) = false := by simp [hf]
    have c_p_0 : w2'.cell? ⟨w.heap.size, 0, none⟩ = some (.int .i64 P) := HB_p.out.2 0
    have c_p_1 : w2'.cell? ⟨w.heap.size, 1, none⟩ = some (.int .i64 K) := HB_p.out.2 1
    have c_p_2 : w2'.cell? ⟨w.heap.size, 2, none⟩ = some (.string n) := HB_p.out.2 2
    have c_p_3 : w2'.cell? ⟨w.heap.size, 3, none⟩ = some (.string m) := HB_p.out.2 3
    have c_p_4 : w2'.cell? ⟨w.heap.size, 4, none⟩ = some (.slice ga gs.length gc) := HB_p.out.2 4
    by_cases hl : 20 < gs.length
    · have HV : Hid (planF P K n m gs = 2) := Lib.hid (by unfold planF; rw [if_neg (fun h => h HPK.out), if_neg (fun h => h hf), if_pos hl])
      clear hf
      go_wp2
      exact bodyPost_ret (v := .int .i64 (2)) (by simp [results, Tryz.results68, go_sem]) rfl ⟨by rw [HV.out], HW.out⟩
    · have HV : Hid (planF P K n m gs = gF gs) := Lib.hid (by unfold planF; rw [if_neg (fun h => h HPK.out), if_neg (fun h => h hf), if_neg hl])
      clear hf
      have hl20 : gs.length ≤ 20 := by omega
      go_wp2
      clear c_p_0 c_p_1 c_p_2 c_p_3 c_p_4
      go_loopw [6, 38] (fun _ i wr => ∃ k : Nat, k ≤ gs.length ∧ i = .int .i64 (k : Int) ∧ Hid (gF gs = gF (gs.drop k)) ∧ (Box wr w.heap.size #[.int .i64 P, .int .i64 K, .string n, .string m, .slice ga gs.length gc]) ∧ (Below w.heap.size w wr)) (fun _ i _ => gs.length - (intOf i).toNat)
      case atStart => exact ⟨0, by omega, rfl, rfl, HB_p.out, HW.out⟩
      case round =>
        obtain ⟨k, hk, rfl, HK, q_HB_p, q_HW⟩ := hrel
        clear HB_p HW
        have HB_p := Lib.hid q_HB_p
        have HW := Lib.hid q_HW
        clear q_HB_p q_HW
        generalize hX : wr = X at *
        clear hX
        by_cases hlt : k < gs.length
        · have hgk := List.getElem?_eq_getElem hlt
          have hok := HGS.out _ (List.getElem_mem hlt)
          generalize gs[k] = r at hgk hok
          obtain ⟨rn, rd⟩ := r
          have HST := Lib.hid (HK.out.trans (gF_step hgk))
          obtain ⟨pb, po, hp9, hcs⟩ := (HS.out.ext HW.out).elem (f := rtL) (fun _ => rfl) (by omega : 0 < 2) hgk
          have e0 := hcs 0 _ rfl
          have e1 := hcs 1 _ rfl
          rw [Nat.add_zero] at e0
          simp only at HST e0 e1
          subst hp9
          have hk0 : (0 : Int) ≤ (k : Int) := Int.natCast_nonneg _
          have hk1 : (k : Int) < (gs.length : Int) := by omega
          obtain ⟨ho1, ho2⟩ := hok
          clear hcs HK hgk
          have c_p_0 : X.cell? ⟨w.heap.size, 0, none⟩ = some (.int .i64 P) := HB_p.out.2 0
          have c_p_1 : X.cell? ⟨w.heap.size, 1, none⟩ = some (.int .i64 K) := HB_p.out.2 1
          have c_p_2 : X.cell? ⟨w.heap.size, 2, none⟩ = some (.string n) := HB_p.out.2 2
          have c_p_3 : X.cell? ⟨w.heap.size, 3, none⟩ = some (.string m) := HB_p.out.2 3
          have c_p_4 : X.cell? ⟨w.heap.size, 4, none⟩ = some (.slice (some ⟨pb, po, none⟩) gs.length gc) := HB_p.out.2 4
          go_upto_region 11 with (fail)
          refine wp_box1 fun w3' hsz hbz hC => ?_
          clear hsz
          have lt_p_r : w.heap.size < X.heap.size := HB_p.out.1
          have le_r : w.heap.size ≤ X.heap.size := HW.out.size
          replace HB_p := Lib.hid (HB_p.out.ext hbz)
          replace HW := Lib.hid (ext_trans HW.out hbz)
          clear c_p_0 c_p_1 c_p_2 c_p_3 c_p_4
          clear hbz e0 e1
          have HB_r := Lib.hid hC
          clear hC
          generalize X.heap.size = b_r at *
          have c_r_0 : w3'.cell? ⟨b_r, 0, none⟩ = some (.string rn) := HB_r.out.2 0
          have c_r_1 : w3'.cell? ⟨b_r, 1, none⟩ = some (.string rd) := HB_r.out.2 1
          go_wp2_with fail
          refine (isMiss_at rn rd ho1 ho2 w3' (HT0.out.ext HW.out)).mono ?_
          rintro e w4' ⟨rfl, hbz⟩
          replace HB_p := Lib.hid (HB_p.out.ext hbz)
          replace HB_r := Lib.hid (HB_r.out.ext hbz)
          replace HW := Lib.hid (ext_trans HW.out hbz)
          clear c_r_0 c_r_1
          clear hbz
          by_cases hg : missF rn rd = 0
          · have hne2 : (missF rn rd != 0) = false := by simp [hg]
            have HN : Hid (gF gs = gF (gs.drop (k + 1))) := Lib.hid (HST.out.trans (if_neg (fun h => h hg)))
            clear hg HST
            go_wp2
            go_roundw
            case rel => exact ⟨k + 1, by omega, by go_num, HN, HB_p.out, HW.out⟩
            case measure => simp [intOf]; omega
          · have hne2 : (missF rn rd != 0) = true := by simp [hg]
            replace HV : Hid (planF P K n m gs = missF rn rd) := Lib.hid (HV.out.trans (HST.out.trans (if_pos hg)))
            clear hg HST
            go_wp2
            exact bodyPost_ret (v := .int .i64 (missF rn rd)) (by simp [results, Tryz.results68, go_sem]) rfl ⟨by rw [HV.out], HW.out⟩
        · replace HV : Hid (planF P K n m gs = 0) := Lib.hid (by rw [HV.out, HK.out, List.drop_of_length_le (by omega)]; rfl)
          go_wp2
          exact bodyPost_ret (v := .int .i64 (0)) (by simp [results, Tryz.results68, go_sem]) rfl ⟨by rw [HV.out], HW.out⟩
  · have HV : Hid (planF P K n m gs = missF n m) := Lib.hid (by unfold planF; rw [if_neg (fun h => h HPK.out), if_pos hf])
    have hne : (missF n m != 0) = true := by simp [hf]
    clear hf
    go_wp2
    exact bodyPost_ret (v := .int .i64 (missF n m)) (by simp [results, Tryz.results68, go_sem]) rfl ⟨by rw [HV.out], HW.out⟩
set_option maxRecDepth 100000 in
set_option maxHeartbeats 8000000 in
theorem progCheckPlan_at (P K : Int) (n m : ByteArray) (hn : n.size ≤ maxLen) (hm : m.size ≤ maxLen) (gs : List RT) (hgs : ∀ r ∈ gs, rtOk r) (ga : Option Addr) (gc : Nat) (w : World) (hs : Sl w (.slice ga gs.length gc) gs.length (gs.flatMap rtL)) : Calls Tryz.prog 67 #[.agg #[Value.int .i64 P, Value.int .i64 K, Value.string n, Value.string m, Value.slice ga gs.length gc]] w (FPost w (planF P K n m gs)) := by
  have HS := Lib.hid hs
  clear hs
  go_enter Tryz.func67, Tryz.ntmps67
  go_upto_region 1 with (fail)
  refine wp_box1 fun w1' hsz hbW hA0 => ?_
  clear hsz
  have HB_p := Lib.hid hA0
  have HW := Lib.hid hbW
  clear hbW hA0
  have c_p_0 : w1'.cell? ⟨w.heap.size, 0, none⟩ = some (.int .i64 P) := HB_p.out.2 0
  have c_p_1 : w1'.cell? ⟨w.heap.size, 1, none⟩ = some (.int .i64 K) := HB_p.out.2 1
  have c_p_2 : w1'.cell? ⟨w.heap.size, 2, none⟩ = some (.string n) := HB_p.out.2 2
  have c_p_3 : w1'.cell? ⟨w.heap.size, 3, none⟩ = some (.string m) := HB_p.out.2 3
  have c_p_4 : w1'.cell? ⟨w.heap.size, 4, none⟩ = some (.slice ga gs.length gc) := HB_p.out.2 4
  go_wp2_with fail
  refine (readPlan_at P K n m hn hm gs hgs ga gc w1' (HS.out.ext HW.out)).mono ?_
  rintro e w2' ⟨dd, kk, b, a1, n1, c1, a2, n2, c2, a3, n3, c3, bvs, rfl, _, hbz⟩
  replace HB_p := Lib.hid (HB_p.out.ext hbz)
  replace HW := Lib.hid (ext_trans HW.out hbz)
  clear c_p_0 c_p_1 c_p_2 c_p_3 c_p_4
  clear hbz
  go_upto_region 2 with (fail)
  refine wp_box1 fun w3' hsz hbz hC => ?_
  clear hsz hC
  replace HB_p := Lib.hid (HB_p.out.ext hbz)
  replace HW := Lib.hid (ext_trans HW.out hbz)
  clear hbz
  go_wp2
  exact bodyPost_ret (v := .int .i64 (planF P K n m gs)) (by simp [results, Tryz.results67, go_sem]) rfl ⟨rfl, HW.out⟩
end Nt
end Go.Proofs.YtmnmepbljegjeaaGreatDoor
