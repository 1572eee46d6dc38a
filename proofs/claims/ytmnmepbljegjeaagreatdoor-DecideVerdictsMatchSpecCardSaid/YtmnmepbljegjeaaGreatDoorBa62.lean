/- readPlan of package decide. Slices as elements of slices. -/
import Derived.Test.YtmnmepbljegjeaaGreatDoorBa70
import Derived.Test.YtmnmepbljegjeaaGreatDoorBa48
import Derived.Test.YtmnmepbljegjeaaGreatDoorProg
import Derived.Test.YtmnmepbljegjeaaGreatDoorBa01
namespace Go.Proofs.YtmnmepbljegjeaaGreatDoor
open Go.RowKit
theorem Sl.keepQ {Q : Value → Prop} {w w' : World} {v r : Value} {n : Nat} {cs : List Value} (h : Sl w v n cs) (hq : ∀ u ∈ cs, ¬ Q u) (hR : RowQ Q w r) (hg : w.grownBy w' r.ownBlock) : Sl w' v n cs := by
  obtain ⟨a, cap, hv, h1, h2, h0, h3⟩ := h
  refine ⟨a, cap, hv, h1, h2, h0, fun i x hx => ?_⟩
  obtain ⟨b, o, ha, hc⟩ := h3 i x hx
  refine ⟨b, o, ha, hg.cell hc (fun e => ?_)⟩
  exact hq x (List.mem_of_getElem? hx) (hR b e.symm _ _ hc)
namespace Nm
def NW (u : Value) : Prop := isWord u = false
theorem N.keepQ {w w' : World} {v r : Value} {n : Nat} (h : N w v n) (hR : RowQ NW w r) (hg : w.grownBy w' r.ownBlock) : N w' v n := by
  refine Sl.keepQ h (fun u hu hw => ?_) hR hg
  simp only [wcs, List.mem_map] at hu
  obtain ⟨c, _, rfl⟩ := hu
  cases hw
theorem XR.keepQ {w w' : World} {v r : Value} {q : Rat} (h : XR w v q) (hR : RowQ NW w r) (hg : w.grownBy w' r.ownBlock) : XR w' v q := by
  obtain ⟨v1, v2, h0, h1, h2⟩ := h; exact ⟨v1, v2, h0, h1.keepQ hR hg, h2.keepQ hR hg⟩
structure BV where
  b : Bool
  a1 : Option Addr
  n1 : Nat
  c1 : Nat
  a2 : Option Addr
  n2 : Nat
  c2 : Nat
def bvL (K : Int) (v : BV) : List Value := [.int .i64 2, .int .i64 K, .bool v.b, .slice v.a1 v.n1 v.c1, .slice v.a2 v.n2 v.c2]
def BvOk (w : World) (K : Nat) (q : Rat) (v : BV) : Prop := Bett w 2 K q v.b v.a1 v.n1 v.c1 v.a2 v.n2 v.c2
theorem BvOk.ext {w w' : World} {K : Nat} {q : Rat} {v : BV} (h : BvOk w K q v) (hb : Below w.heap.size w w') : BvOk w' K q v := Bett.ext h hb
theorem BvOk.keepQ {w w' : World} {K : Nat} {q : Rat} {v : BV} {r : Value} (h : BvOk w K q v) (hR : RowQ NW w r) (hg : w.grownBy w' r.ownBlock) : BvOk w' K q v :=
  ⟨h.d1, h.d3, h.b1, h.b5, XR.keepQ h.need hR hg, h.s1, h.s2⟩
structure RT where
  n : ByteArray
  d : ByteArray
def rtL (r : RT) : List Value := [.string r.n, .string r.d]
def rtOk (r : RT) : Prop := r.n.size ≤ maxLen ∧ r.d.size ≤ maxLen
def gF : List RT → Int
  | [] => 0
  | r :: t => if missF r.n r.d ≠ 0 then missF r.n r.d else gF t
theorem gF_step {l : List RT} {k : Nat} {r : RT} (h : l[k]? = some r) : gF (l.drop k) = if missF r.n r.d ≠ 0 then missF r.n r.d else gF (l.drop (k + 1)) := by
  obtain ⟨hk, rfl⟩ := List.getElem?_eq_some_iff.1 h
  rw [List.drop_eq_getElem_cons hk]; rfl
def planF (P K : Int) (n m : ByteArray) (gs : List RT) : Int := if ¬ (1 ≤ P ∧ P ≤ 60 ∧ 1 ≤ K ∧ K ≤ 5) then 1 else if missF n m ≠ 0 then missF n m else if 20 < gs.length then 2 else gF gs
def GuardsOk (w : World) (K : Nat) (gs : List RT) (bvs : List BV) : Prop := bvs.length = gs.length ∧ ∀ (i : Nat) bv r, bvs[i]? = some bv → gs[i]? = some r → BvOk w K (rQ r.n r.d)⁻¹ bv
def PlanPost (w : World) (P K : Int) (n m : ByteArray) (gs : List RT) (e : Ending) (w' : World) : Prop :=
  ∃ dd kk b a1 n1 c1 a2 n2 c2 a3 n3 c3 bvs, e = .returned (.tuple #[.agg (betA dd kk b a1 n1 c1 a2 n2 c2), .slice a3 n3 c3, .int .i64 (planF P K n m gs)]) ∧
    (planF P K n m gs = 0 → dd = 1 ∧ kk = (K.toNat : Int) ∧ n3 = gs.length ∧ Bett w' 1 K.toNat (rQ n m)⁻¹ b a1 n1 c1 a2 n2 c2 ∧ Sl w' (.slice a3 n3 c3) n3 (bvs.flatMap (bvL (K.toNat : Int))) ∧ GuardsOk w' K.toNat gs bvs) ∧ Below w.heap.size w w'
structure PL (w wr : World) (planA : Array Value) (bM : Nat) (mA : Array Value) (qm : Rat) (base K : Nat) (gs : List RT) (v : Value) (k : Nat) (bvs : List BV) : Prop where
  low : Below w.heap.size w wr
  plan : Box wr w.heap.size planA
  res : Box wr (w.heap.size + 1) (betA 0 0 false none 0 0 none 0 0)
  fre : Fre wr (w.heap.size + 1)
  mis : Box wr bM mA
  xr : XR wr (.agg mA) qm
  own : wr.ownsRow base 133 5 v k (bvs.flatMap (bvL K))
  q : RowQ NW wr v
  len : bvs.length = k
  ok : ∀ (i : Nat) bv r, bvs[i]? = some bv → gs[i]? = some r → BvOk wr K (rQ r.n r.d)⁻¹ bv
  bs : base ≤ wr.heap.size
  lw : w.heap.size + 1 < base
  lm : bM < base
theorem PL.ext {w wr w' : World} {planA : Array Value} {bM : Nat} {mA : Array Value} {qm : Rat} {base K : Nat} {gs : List RT} {v : Value} {k : Nat} {bvs : List BV} (h : PL w wr planA bM mA qm base K gs v k bvs) (hb : Below wr.heap.size wr w') : PL w w' planA bM mA qm base K gs v k bvs :=
  ⟨ext_trans h.low hb, h.plan.ext hb, h.res.ext hb, h.fre.ext h.res hb, h.mis.ext hb, h.xr.ext hb, ownsRow_ext h.own hb, h.q.ext h.own hb, h.len, fun i bv r h1 h2 => (h.ok i bv r h1 h2).ext hb, Nat.le_trans h.bs hb.size, h.lw, h.lm⟩
theorem PL.push {w wr w' : World} {planA : Array Value} {bM : Nat} {mA : Array Value} {qm : Rat} {base K : Nat} {gs : List RT} {v v' : Value} {k : Nat} {bvs : List BV} (h : PL w wr planA bM mA qm base K gs v k bvs) (bv : BV) (hg : wr.grownBy w' v.ownBlock)
    (hown : w'.ownsRow base 133 5 v' (k + 1) (bvs.flatMap (bvL K) ++ bvL K bv)) (hq : RowQ NW w' v') {r : RT} (hr : gs[k]? = some r) (hbv : BvOk wr K (rQ r.n r.d)⁻¹ bv) : PL w w' planA bM mA qm base K gs v' (k + 1) (bvs ++ [bv]) := by
  have lt : ∀ q, v.ownBlock = some q → base ≤ q := fun q e => (h.own.lt q e).1
  have h1 := h.lw
  have h2 := h.lm
  have hne : ∀ x, x < base → ∀ q, v.ownBlock = some q → q ≠ x := fun x hx q e => by have := lt q e; omega
  refine ⟨h.low.grown hg h.low.size (fun q e => by have := lt q e; omega), box_grown hg h.plan (hne _ (by omega)), box_grown hg h.res (hne _ (by omega)), fre_grown h.fre h.res.1 hg (hne _ (by omega)), box_grown hg h.mis (hne _ h2), h.xr.keepQ h.q hg, ?_, hq, by rw [List.length_append, h.len]; rfl, ?_, Nat.le_trans h.bs hg.size, h1, h2⟩
  · rw [List.flatMap_append]; simpa using hown
  · intro i bv' r' e1 e2
    rcases Nat.lt_or_ge i k with hi | hi
    · rw [List.getElem?_append_left (by rw [h.len]; exact hi)] at e1
      exact (h.ok i bv' r' e1 e2).keepQ h.q hg
    · rw [List.getElem?_append_right (by rw [h.len]; exact hi), h.len] at e1
      have hi' : i - k = 0 := by
        rcases Nat.eq_zero_or_pos (i - k) with h0 | h0
        · exact h0
        · rw [List.getElem?_eq_none (by simp; omega)] at e1; cases e1
      rw [hi'] at e1
      obtain rfl : bv = bv' := by simpa using e1
      have hik : i = k := by omega
      subst hik
      rw [hr] at e2
      cases e2
      exact hbv.keepQ h.q hg
theorem bet_info : (Tryz.prog.info? 133).map (fun i => (i.zero, i.size, i.bytes)) = some (some (.agg #[.int .i64 0, .int .i64 0, .bool false, .slice none 0 0, .slice none 0 0]), 5, 72) := by kernel_rfl
set_option maxRecDepth 100000 in
set_option maxHeartbeats 16000000 in
theorem readPlan_at (P K : Int) (n m : ByteArray) (hn : n.size ≤ maxLen) (hm : m.size ≤ maxLen) (gs : List RT) (hgs : ∀ r ∈ gs, rtOk r) (ga : Option Addr) (gc : Nat) (w : World) (hs : Sl w (.slice ga gs.length gc) gs.length (gs.flatMap rtL)) :
    Calls Tryz.prog 135 #[.agg #[Value.int .i64 P, Value.int .i64 K, Value.string n, Value.string m, Value.slice ga gs.length gc]] w (PlanPost w P K n m gs) := by
  have HS := Lib.hid hs
  have HGS := Lib.hid hgs
  have HI := Lib.hid bet_info
  clear hs hgs
  go_enter Tryz.func135, Tryz.ntmps135
  go_upto_region 1 with (fail)
  refine wp_box2r fun w0 hsz hbw0 hA0 hC0 hF0 => ?_
  have t0 : w0.cell? ⟨w.heap.size, 0, none⟩ = some (.int .i64 P) := hA0.2 0
  have t1 : w0.cell? ⟨w.heap.size, 1, none⟩ = some (.int .i64 K) := hA0.2 1
  have t2 : w0.cell? ⟨w.heap.size, 2, none⟩ = some (.string n) := hA0.2 2
  have t3 : w0.cell? ⟨w.heap.size, 3, none⟩ = some (.string m) := hA0.2 3
  have t4 : w0.cell? ⟨w.heap.size, 4, none⟩ = some (.slice ga gs.length gc) := hA0.2 4
  clear hsz
  by_cases hP : 1 ≤ P ∧ P ≤ 60
  · go_wp2_with fail
    refine (dwithin_yes _ _ _ hP.1 hP.2 _).mono ?_
    rintro e w' ⟨rfl, rfl⟩
    by_cases hK : 1 ≤ K ∧ K ≤ 5
    · go_wp2_with fail
      refine (dwithin_yes _ _ _ hK.1 hK.2 _).mono ?_
      rintro e w' ⟨rfl, rfl⟩
      obtain ⟨kn, rfl⟩ : ∃ kn : Nat, K = (kn : Int) := ⟨K.toNat, by omega⟩
      have HPK := Lib.hid (And.intro hP hK)
      have HPF : Hid (planF P kn n m gs = if missF n m ≠ 0 then missF n m else if 20 < gs.length then 2 else gF gs) := by
        have : planF P kn n m gs = if missF n m ≠ 0 then missF n m else if 20 < gs.length then 2 else gF gs := by unfold planF; rw [if_neg (fun h => h ⟨hP.1, hP.2, hK.1, hK.2⟩)]
        exact this
      clear hP hK
      go_wp2_with fail
      refine (readMiss_at n m hn hm _).mono ?_
      rintro e w1 ⟨b, a1, n1, c1, a2, n2, c2, rfl, hx, hb1⟩
      have HX := Lib.hid hx
      have hA1 := hA0.ext hb1
      have hC1 := hC0.ext hb1
      have hF1 := hF0.ext hC0 hb1
      have hbw1 := ext_trans hbw0 hb1
      clear hx t0 t1 t2 t3 t4 hA0 hC0 hF0 hbw0 hb1
      go_upto_region 4 with (fail)
      refine wp_box1 fun w2 hsz2 hb2 hB2 => ?_
      have HX2 : Hid (missF n m = 0 → XR w2 (.agg #[.bool b, .slice a1 n1 c1, .slice a2 n2 c2]) (rQ n m)) := fun h => (HX.out h).ext hb2
      have hA2 := hA1.ext hb2
      have hC2 := hC1.ext hb2
      have hF2 := hF1.ext hC1 hb2
      have hbw2 := ext_trans hbw1 hb2
      have hlt1 : w.heap.size + 1 < w1.heap.size := hC1.1
      have hlt2 : w1.heap.size < w2.heap.size := hB2.1
      clear HX hA1 hC1 hF1 hbw1 hb2 hsz2
      by_cases hmf : missF n m = 0
      · have hne : (missF n m != 0) = false := by simp [hmf]
        have HMF := Lib.hid hmf
        have HXR := Lib.hid (HX2.out hmf)
        have HPF2 : Hid (planF P kn n m gs = if 20 < gs.length then 2 else gF gs) := by have := HPF.out; rw [if_neg (by simp [hmf])] at this; exact this
        have t4 : w2.cell? ⟨w.heap.size, 4, none⟩ = some (.slice ga gs.length gc) := hA2.2 4
        clear hmf HX2 HPF
        by_cases hlg : 20 < gs.length
        · have HTF : Hid (planF P kn n m gs = 2) := by have := HPF2.out; rw [if_pos hlg] at this; exact this
          have hdg : decide ((20 : Int) < (gs.length : Int)) = true := decide_eq_true (by omega)
          have HR := Lib.hid (res5 (.int .i64 0) (.int .i64 0) (.bool false) (.slice none 0 0) (.slice none 0 0) hC2 hbw2 (Nat.le_succ _))
          have g0 := hF2 0
          have g1 := hF2 1
          have g2 := hF2 2
          have g3 := hF2 3
          have g4 := hF2 4
          have r0 : w2.cell? ⟨w.heap.size + 1, 0, none⟩ = some (.int .i64 0) := hC2.2 0
          have r1 : w2.cell? ⟨w.heap.size + 1, 1, none⟩ = some (.int .i64 0) := hC2.2 1
          have r2 : w2.cell? ⟨w.heap.size + 1, 2, none⟩ = some (.bool false) := hC2.2 2
          have r3 : w2.cell? ⟨w.heap.size + 1, 3, none⟩ = some (.slice none 0 0) := hC2.2 3
          have r4 : w2.cell? ⟨w.heap.size + 1, 4, none⟩ = some (.slice none 0 0) := hC2.2 4
          obtain ⟨hbF, z0, z1, z2, z3, z4⟩ := id HR.out
          go_wp2
          exact bodyPost_ret (v := .tuple #[.agg (betA 0 0 false none 0 0 none 0 0), .slice none 0 0, .int .i64 2]) (by simp [results, Tryz.results135, go_sem, z0, z1, z2, z3, z4]) rfl ⟨0, 0, false, none, 0, 0, none, 0, 0, none, 0, 0, [], by rw [HTF.out], (fun h => by rw [HTF.out] at h; cases h), HR.out.1⟩
        · have HPF3 : Hid (planF P kn n m gs = gF gs) := by have := HPF2.out; rw [if_neg hlg] at this; exact this
          have HPL : Hid (PL w w2 #[Value.int .i64 P, Value.int .i64 (kn : Int), Value.string n, Value.string m, Value.slice ga gs.length gc] w1.heap.size #[.bool b, .slice a1 n1 c1, .slice a2 n2 c2] (rQ n m) w2.heap.size kn gs (.slice none 0 0) 0 []) :=
            ⟨hbw2, hA2, hC2, hF2, hB2, HXR.out, World.ownsRow_nil _ _ _ _, RowQ.nil _ _, rfl, (fun i bv r h => by simp at h), Nat.le_refl _, by omega, hlt2⟩
          clear HPF2 hA2 hC2 hF2 hB2 hbw2 HXR
          go_wp2
          clear t4
          obtain ⟨base, hbase⟩ : ∃ base, w2.heap.size = base := ⟨_, rfl⟩
          rw [hbase] at HPL
          have hlb : w.heap.size + 1 < base := by omega
          clear hbase
          go_loopw [3, 10, 42] (fun v _ i wr => ∃ (k : Nat) (bvs : List BV), k ≤ gs.length ∧ i = .int .i64 k ∧ Hid (gF gs = gF (gs.drop k)) ∧ Hid (PL w wr #[Value.int .i64 P, Value.int .i64 (kn : Int), Value.string n, Value.string m, Value.slice ga gs.length gc] w1.heap.size #[.bool b, .slice a1 n1 c1, .slice a2 n2 c2] (rQ n m) base kn gs v k bvs)) (fun _ _ i _ => gs.length - (intOf i).toNat)
          case atStart => exact ⟨0, [], by omega, rfl, rfl, HPL⟩
          case round =>
            clear HPL
            obtain ⟨k, bvs, hk, rfl, HK, HPL⟩ := hrel
            by_cases hlt : k < gs.length
            · have hgk := List.getElem?_eq_getElem hlt
              have HRO := Lib.hid (HGS.out gs[k] (List.getElem_mem _))
              generalize gs[k] = r at hgk HRO
              have HGK := Lib.hid hgk
              have HST : Hid (gF gs = if missF r.n r.d ≠ 0 then missF r.n r.d else gF (gs.drop (k + 1))) := by have := HK.out; rw [gF_step hgk] at this; exact this
              obtain ⟨bg, og, rfl, hcs⟩ := (HS.out.ext HPL.out.low).elem (f := rtL) (fun _ => rfl) (by omega : 0 < 2) hgk
              have e0 := hcs 0 _ rfl
              have e1 := hcs 1 _ rfl
              rw [Nat.add_zero] at e0
              clear hcs hgk HK
              obtain ⟨rn, rd⟩ := r
              simp only at e0 e1 HST
              go_upto_region 11 with (fail)
              clear e0 e1
              refine wp_box1 fun X hszX hbX hX => ?_
              have x0 : X.cell? ⟨wr.heap.size, 0, none⟩ = some (.string rn) := hX.2 0
              have x1 : X.cell? ⟨wr.heap.size, 1, none⟩ = some (.string rd) := hX.2 1
              have HPX := Lib.hid (HPL.out.ext hbX)
              clear hszX hbX hX HPL
              go_wp2_with fail
              refine (readMiss_at rn rd HRO.out.1 HRO.out.2 _).mono ?_
              rintro e w3 ⟨b', a1', n1', c1', a2', n2', c2', rfl, hx, hb3⟩
              have HX3 := Lib.hid hx
              have HP3 := Lib.hid (HPX.out.ext hb3)
              clear hx x0 x1 HPX hb3
              go_upto_region 12 with (fail)
              refine wp_box1 fun w4 hsz4 hb4 hB4 => ?_
              have HX4 : Hid (missF rn rd = 0 → XR w4 (.agg #[.bool b', .slice a1' n1' c1', .slice a2' n2' c2']) (rQ rn rd)) := fun h => (HX3.out h).ext hb4
              have HP4 := Lib.hid (HP3.out.ext hb4)
              have HOL : Hid (∀ q, u3.ownBlock = some q → q < w3.heap.size) := fun q hq => (HP3.out.own.lt q hq).2
              clear HX3 HP3 hb4 hsz4
              by_cases hmr : missF rn rd = 0
              · have hne2 : (missF rn rd != 0) = false := by simp [hmr]
                have HN : Hid (gF gs = gF (gs.drop (k + 1))) := by have := HST.out; rw [if_neg (by simp [hmr])] at this; exact this
                have HXR := Lib.hid (HX4.out hmr)
                have HOK := Lib.hid (missF_ok hmr)
                have HIN := Lib.hid (inv_facts (x := rQ rn rd) (by have := (missF_ok hmr).2; omega))
                have HSM := Lib.hid (miss_small (missF_ok hmr).1)
                have HN0 : Hid ((rQ rn rd).num ≠ 0) := by have h := (missF_ok hmr).2; exact (by omega : (rQ rn rd).num ≠ 0)
                obtain ⟨Q, HQQ⟩ : ∃ Q, Hid ((rQ rn rd)⁻¹ = Q) := ⟨_, rfl⟩
                have hA4 := HP4.out.plan
                have hbs4 := HP4.out.bs
                have HOB : Hid (∀ q, u3.ownBlock = some q → base ≤ q) := fun q hq => (HP4.out.own.lt q hq).1
                have HKN := HPK.out.2
                clear hmr HX4 HST
                go_wp2_with fail
                go_region_held3 (S2R w4 base w.heap.size #[Value.int .i64 P, Value.int .i64 (kn : Int), Value.string n, Value.string m, Value.slice (some ⟨bg, og, none⟩) gs.length gc] w3.heap.size #[Value.bool b', Value.slice a1' n1' c1', Value.slice a2' n2' c2']) (first | exact S2R.start hA4 hB4 | exact S2R.ext (by with_reducible assumption) (by with_reducible assumption) hbs4 hA4 hB4 | exact S2R.ext (ext_alloc _ _) (by with_reducible assumption) hbs4 hA4 hB4 | exact S2R.grown hg7 (by with_reducible assumption) hbs4 hA4 hB4 (fun q hq => ⟨HOB.out q hq, by have := HOB.out q hq; omega, by have := HOL.out q hq; omega⟩) | assumption) (first | (go_at_call 91; refine (turned_is (rQ rn rd) Q HQQ.out _ _ (HXR.out.ext (Below.refl w4.heap.size w4).drew) HN0.out).mono ?_; rintro e w5 ⟨vq, rfl, hq, hb5⟩; obtain ⟨p1, c5, p2, c6, rfl, _, _⟩ := hq.open_; have hc5 := Lib.hid (ext_trans (Below.refl w4.heap.size w4).drew hb5); have HQ := Lib.hid hq; have HP5 := Lib.hid (HP4.out.ext hc5.out); have hsz5 := HP5.out.bs; clear hq) | (refine step_append_q NW rfl _ _ 159 rfl base 133 Tryz.underlying159 HI.out rfl (by decide) rfl (HP5.out.ext (ext_alloc _ _)).own rfl (Sl.new w5 #[.int .i64 2, .int .i64 (kn : Int), .bool (decide (Q.num < 0)), .slice p1 (digs Q.num.natAbs).length c5, .slice p2 (digs Q.den).length c6] _ 1 1 (by omega) (by decide)) rfl (by intro u hu; simp at hu; rcases hu with rfl | rfl | rfl | rfl | rfl <;> rfl) (by unfold maxLen; omega) (by omega) (by simp; omega) (HP5.out.ext (ext_alloc _ _)).q (by intro u hu; simp [Value.cells] at hu; rcases hu with rfl | rfl | rfl | rfl | rfl <;> rfl) (by intro u hu; simp at hu; rcases hu with rfl | rfl | rfl | rfl | rfl <;> rfl) ?_; intro v7 w7 hown7 hg7 hat7 hq7))
                have HBV : Hid (BvOk (w5.alloc (.cells #[.int .i64 2, .int .i64 (kn : Int), .bool (decide (Q.num < 0)), .slice p1 (digs Q.num.natAbs).length c5, .slice p2 (digs Q.den).length c6] 133)) kn (rQ rn rd)⁻¹ ⟨decide (Q.num < 0), p1, (digs Q.num.natAbs).length, c5, p2, (digs Q.den).length, c6⟩) := by
                  have h : BvOk (w5.alloc (.cells #[.int .i64 2, .int .i64 (kn : Int), .bool (decide (Q.num < 0)), .slice p1 (digs Q.num.natAbs).length c5, .slice p2 (digs Q.den).length c6] 133)) kn (rQ rn rd)⁻¹ ⟨decide (Q.num < 0), p1, (digs Q.num.natAbs).length, c5, p2, (digs Q.den).length, c6⟩ := by
                    refine ⟨by decide, by decide, by omega, by omega, ?_, by rw [HIN.out.1]; exact HSM.out.2, by rw [HIN.out.2.1]; exact HSM.out.1⟩
                    rw [HQQ.out]; exact HQ.out.ext (ext_alloc _ _)
                  exact h
                have HP7 := Lib.hid ((HP5.out.ext (ext_alloc w5 _)).push _ hg7 hown7 hq7 HGK.out HBV.out)
                clear hown7 hg7 hat7 hq7
                go_wp2
                go_roundw
                case rel => exact ⟨k + 1, _, by omega, by go_num, HN, HP7⟩
                case measure => simp [intOf]; omega
              · have hne2 : (missF rn rd != 0) = true := by simp [hmr]
                have HNE := Lib.hid hmr
                have HTF : Hid (planF P kn n m gs = missF rn rd) := by have h1 := HPF3.out; rw [HST.out, if_pos hmr] at h1; exact h1
                have hC4 := HP4.out.res
                have hF4 := HP4.out.fre
                have hbw4 := HP4.out.low
                clear hmr HX4 HST hB4
                have HR := Lib.hid (res5 (.int .i64 0) (.int .i64 0) (.bool false) (.slice none 0 0) (.slice none 0 0) hC4 hbw4 (Nat.le_succ _))
                have g0 := hF4 0
                have g1 := hF4 1
                have g2 := hF4 2
                have g3 := hF4 3
                have g4 := hF4 4
                have r0 : w4.cell? ⟨w.heap.size + 1, 0, none⟩ = some (.int .i64 0) := hC4.2 0
                have r1 : w4.cell? ⟨w.heap.size + 1, 1, none⟩ = some (.int .i64 0) := hC4.2 1
                have r2 : w4.cell? ⟨w.heap.size + 1, 2, none⟩ = some (.bool false) := hC4.2 2
                have r3 : w4.cell? ⟨w.heap.size + 1, 3, none⟩ = some (.slice none 0 0) := hC4.2 3
                have r4 : w4.cell? ⟨w.heap.size + 1, 4, none⟩ = some (.slice none 0 0) := hC4.2 4
                obtain ⟨hbF, z0, z1, z2, z3, z4⟩ := id HR.out
                go_wp2
                exact bodyPost_ret (v := .tuple #[.agg (betA 0 0 false none 0 0 none 0 0), .slice none 0 0, .int .i64 (missF rn rd)]) (by simp [results, Tryz.results135, go_sem, z0, z1, z2, z3, z4]) rfl ⟨0, 0, false, none, 0, 0, none, 0, 0, none, 0, 0, [], by rw [HTF.out], (fun h => by rw [HTF.out] at h; exact absurd h HNE.out), HR.out.1⟩
            · have hkl : k = gs.length := by omega
              subst hkl
              have HT0 : Hid (planF P kn n m gs = 0) := by
                have h1 := HPF3.out
                have h2 := HK.out
                rw [List.drop_eq_nil_of_le (Nat.le_refl _)] at h2
                rw [h2] at h1; exact h1
              have HOK := Lib.hid (missF_ok HMF.out)
              have HIN := Lib.hid (inv_facts (x := rQ n m) (by have := (missF_ok HMF.out).2; omega))
              have HSM := Lib.hid (miss_small (missF_ok HMF.out).1)
              have HN0 : Hid ((rQ n m).num ≠ 0) := by have h := (missF_ok HMF.out).2; exact (by omega : (rQ n m).num ≠ 0)
              obtain ⟨Q, HQQ⟩ : ∃ Q, Hid ((rQ n m)⁻¹ = Q) := ⟨_, rfl⟩
              have hA2 := HPL.out.plan
              have hB2 := HPL.out.mis
              have hC2 := HPL.out.res
              have hF2 := HPL.out.fre
              have hlow : w.heap.size + 1 ≤ wr.heap.size := Nat.le_of_lt hC2.1
              have HKN := HPK.out.2
              obtain ⟨gA, gC, rfl⟩ := own_any HPL.out.own
              clear HK
              go_wp2_with fail
              go_region_held3 (S2R wr (w.heap.size + 1) w.heap.size #[Value.int .i64 P, Value.int .i64 (kn : Int), Value.string n, Value.string m, Value.slice ga gs.length gc] w1.heap.size #[Value.bool b, Value.slice a1 n1 c1, Value.slice a2 n2 c2]) (first | exact S2R.start hA2 hB2 | exact S2R.ext (by with_reducible assumption) (by with_reducible assumption) hlow hA2 hB2 | exact S2R.setN (S2R.setN (S2R.setN (S2R.setN (S2R.setN (by assumption) (Nat.le_refl _) (by simp) (Nat.ne_of_gt hlt1)) (Nat.le_refl _) (by simp) (Nat.ne_of_gt hlt1)) (Nat.le_refl _) (by simp) (Nat.ne_of_gt hlt1)) (Nat.le_refl _) (by simp) (Nat.ne_of_gt hlt1)) (Nat.le_refl _) (by simp) (Nat.ne_of_gt hlt1) | assumption) (first | (go_at_call 91; refine (turned_is (rQ n m) Q HQQ.out _ _ (HPL.out.xr.ext (Below.refl wr.heap.size wr).drew) HN0.out).mono ?_; rintro e w3 ⟨vq, rfl, hq, hb3⟩; obtain ⟨p1, c5, p2, c6, rfl, _, _⟩ := hq.open_; have hc3 := Lib.hid (ext_trans (Below.refl wr.heap.size wr).drew hb3); have HQ := Lib.hid hq; have hC3 := hC2.ext hc3.out; have hF3 := hF2.ext hC2 hc3.out; have r0 : w3.cell? ⟨w.heap.size + 1, 0, none⟩ = some (.int .i64 0) := hC3.2 0; have r1 : w3.cell? ⟨w.heap.size + 1, 1, none⟩ = some (.int .i64 0) := hC3.2 1; have r2 : w3.cell? ⟨w.heap.size + 1, 2, none⟩ = some (.bool false) := hC3.2 2; have r3 : w3.cell? ⟨w.heap.size + 1, 3, none⟩ = some (.slice none 0 0) := hC3.2 3; have r4 : w3.cell? ⟨w.heap.size + 1, 4, none⟩ = some (.slice none 0 0) := hC3.2 4; have g0 := hF3 0; have g1 := hF3 1; have g2 := hF3 2; have g3 := hF3 3; have g4 := hF3 4; clear hq))
              have HP3 := Lib.hid (HPL.out.ext hc3.out)
              have HR := Lib.hid (res5 (.int .i64 1) (.int .i64 (kn : Int)) (.bool (decide (Q.num < 0))) (.slice p1 (digs Q.num.natAbs).length c5) (.slice p2 (digs Q.den).length c6) hC3 HP3.out.low (Nat.le_succ _))
              have HK5 := Lib.hid (fun (v : Value) (q : Rat) (h : XR w3 v q) => h.keep5 (.int .i64 1) (.int .i64 (kn : Int)) (.bool (decide (Q.num < 0))) (.slice p1 (digs Q.num.natAbs).length c5) (.slice p2 (digs Q.den).length c6) hC3)
              have HO5 := Lib.hid (ownsRow_far (p := ⟨w.heap.size + 1, 4, none⟩) (ownsRow_far (p := ⟨w.heap.size + 1, 3, none⟩) (ownsRow_far (p := ⟨w.heap.size + 1, 2, none⟩) (ownsRow_far (p := ⟨w.heap.size + 1, 1, none⟩) (ownsRow_far (p := ⟨w.heap.size + 1, 0, none⟩) HP3.out.own hlb (.int .i64 1)) hlb (.int .i64 (kn : Int))) hlb (.bool (decide (Q.num < 0)))) hlb (.slice p1 (digs Q.num.natAbs).length c5)) hlb (.slice p2 (digs Q.den).length c6))
              obtain ⟨hbF, z0, z1, z2, z3, z4⟩ := id HR.out
              clear hC3 hF3 hbF
              go_wp2
              refine bodyPost_ret (v := .tuple #[.agg (betA 1 (kn : Int) (decide (Q.num < 0)) p1 (digs Q.num.natAbs).length c5 p2 (digs Q.den).length c6), .slice gA gs.length gC, .int .i64 0]) (by simp [results, Tryz.results135, go_sem, z0, z1, z2, z3, z4]) rfl ⟨_, _, _, _, _, _, _, _, _, _, _, _, bvs, by rw [HT0.out], (fun _ => ⟨rfl, by rw [Int.toNat_natCast], rfl, ?_, ?_, HP3.out.len, ?_⟩), HR.out.1⟩
              · rw [Int.toNat_natCast]
                refine ⟨by decide, by decide, by omega, by omega, ?_, by rw [HIN.out.1]; exact HSM.out.2, by rw [HIN.out.2.1]; exact HSM.out.1⟩
                rw [HQQ.out]; exact HK5.out _ _ HQ.out
              · rw [Int.toNat_natCast]; exact Sl.ofOwn HO5.out
              · intro i bv r h1 h2
                rw [Int.toNat_natCast]
                have h3 := HP3.out.ok i bv r h1 h2
                exact ⟨h3.d1, h3.d3, h3.b1, h3.b5, HK5.out _ _ h3.need, h3.s1, h3.s2⟩
      · have hne : (missF n m != 0) = true := by simp [hmf]
        have HNE := Lib.hid hmf
        have HTF : Hid (planF P kn n m gs = missF n m) := by have := HPF.out; rw [if_pos hmf] at this; exact this
        clear hmf HX2 HPF
        have HR := Lib.hid (res5 (.int .i64 0) (.int .i64 0) (.bool false) (.slice none 0 0) (.slice none 0 0) hC2 hbw2 (Nat.le_succ _))
        have g0 := hF2 0
        have g1 := hF2 1
        have g2 := hF2 2
        have g3 := hF2 3
        have g4 := hF2 4
        have r0 : w2.cell? ⟨w.heap.size + 1, 0, none⟩ = some (.int .i64 0) := hC2.2 0
        have r1 : w2.cell? ⟨w.heap.size + 1, 1, none⟩ = some (.int .i64 0) := hC2.2 1
        have r2 : w2.cell? ⟨w.heap.size + 1, 2, none⟩ = some (.bool false) := hC2.2 2
        have r3 : w2.cell? ⟨w.heap.size + 1, 3, none⟩ = some (.slice none 0 0) := hC2.2 3
        have r4 : w2.cell? ⟨w.heap.size + 1, 4, none⟩ = some (.slice none 0 0) := hC2.2 4
        obtain ⟨hbF, z0, z1, z2, z3, z4⟩ := id HR.out
        go_wp2
        exact bodyPost_ret (v := .tuple #[.agg (betA 0 0 false none 0 0 none 0 0), .slice none 0 0, .int .i64 (missF n m)]) (by simp [results, Tryz.results135, go_sem, z0, z1, z2, z3, z4]) rfl ⟨0, 0, false, none, 0, 0, none, 0, 0, none, 0, 0, [], by rw [HTF.out], (fun h => by rw [HTF.out] at h; exact absurd h HNE.out), HR.out.1⟩
    · go_wp2_with fail
      refine (dwithin_no _ _ _ (by omega) _).mono ?_
      rintro e w' ⟨rfl, rfl⟩
      have HTF : Hid (planF P K n m gs = 1) := by
        have : planF P K n m gs = 1 := by unfold planF; rw [if_pos (fun h => hK ⟨h.2.2.1, h.2.2.2⟩)]
        exact this
      clear hP hK
      have HR := Lib.hid (res5 (.int .i64 0) (.int .i64 0) (.bool false) (.slice none 0 0) (.slice none 0 0) hC0 hbw0 (Nat.le_succ _))
      have g0 := hF0 0
      have g1 := hF0 1
      have g2 := hF0 2
      have g3 := hF0 3
      have g4 := hF0 4
      have r0 : w0.cell? ⟨w.heap.size + 1, 0, none⟩ = some (.int .i64 0) := hC0.2 0
      have r1 : w0.cell? ⟨w.heap.size + 1, 1, none⟩ = some (.int .i64 0) := hC0.2 1
      have r2 : w0.cell? ⟨w.heap.size + 1, 2, none⟩ = some (.bool false) := hC0.2 2
      have r3 : w0.cell? ⟨w.heap.size + 1, 3, none⟩ = some (.slice none 0 0) := hC0.2 3
      have r4 : w0.cell? ⟨w.heap.size + 1, 4, none⟩ = some (.slice none 0 0) := hC0.2 4
      obtain ⟨hbF, z0, z1, z2, z3, z4⟩ := id HR.out
      go_wp2
      exact bodyPost_ret (v := .tuple #[.agg (betA 0 0 false none 0 0 none 0 0), .slice none 0 0, .int .i64 1]) (by simp [results, Tryz.results135, go_sem, z0, z1, z2, z3, z4]) rfl ⟨0, 0, false, none, 0, 0, none, 0, 0, none, 0, 0, [], by rw [HTF.out], (fun h => by rw [HTF.out] at h; cases h), HR.out.1⟩
  · go_wp2_with fail
    refine (dwithin_no _ _ _ (by omega) _).mono ?_
    rintro e w' ⟨rfl, rfl⟩
    have HTF : Hid (planF P K n m gs = 1) := by
      have : planF P K n m gs = 1 := by unfold planF; rw [if_pos (fun h => hP ⟨h.1, h.2.1⟩)]
      exact this
    clear hP
    have HR := Lib.hid (res5 (.int .i64 0) (.int .i64 0) (.bool false) (.slice none 0 0) (.slice none 0 0) hC0 hbw0 (Nat.le_succ _))
    have g0 := hF0 0
    have g1 := hF0 1
    have g2 := hF0 2
    have g3 := hF0 3
    have g4 := hF0 4
    have r0 : w0.cell? ⟨w.heap.size + 1, 0, none⟩ = some (.int .i64 0) := hC0.2 0
    have r1 : w0.cell? ⟨w.heap.size + 1, 1, none⟩ = some (.int .i64 0) := hC0.2 1
    have r2 : w0.cell? ⟨w.heap.size + 1, 2, none⟩ = some (.bool false) := hC0.2 2
    have r3 : w0.cell? ⟨w.heap.size + 1, 3, none⟩ = some (.slice none 0 0) := hC0.2 3
    have r4 : w0.cell? ⟨w.heap.size + 1, 4, none⟩ = some (.slice none 0 0) := hC0.2 4
    obtain ⟨hbF, z0, z1, z2, z3, z4⟩ := id HR.out
    go_wp2
    exact bodyPost_ret (v := .tuple #[.agg (betA 0 0 false none 0 0 none 0 0), .slice none 0 0, .int .i64 1]) (by simp [results, Tryz.results135, go_sem, z0, z1, z2, z3, z4]) rfl ⟨0, 0, false, none, 0, 0, none, 0, 0, none, 0, 0, [], by rw [HTF.out], (fun h => by rw [HTF.out] at h; cases h), HR.out.1⟩
end Nm
end Go.Proofs.YtmnmepbljegjeaaGreatDoor
namespace Go.Proofs.YtmnmepbljegjeaaGreatDoor
open Go.RowKit
structure SV where
  a : Option Addr
  n : Nat
  c : Nat
def svL (s : SV) : List Value := [.slice s.a s.n s.c]
/-- slices that lie in memory, and what each reads as -/
def RowsOf {α : Type} (w : World) (cells : α → List Value) (svs : List SV) (ls : List (List α)) : Prop :=
  svs.length = ls.length ∧ ∀ (i : Nat) sv l, svs[i]? = some sv → ls[i]? = some l → sv.n = l.length ∧ Sl w (.slice sv.a sv.n sv.c) sv.n (l.flatMap cells)
theorem RowsOf.ext {α : Type} {w w' : World} {cells : α → List Value} {svs : List SV} {ls : List (List α)} (h : RowsOf w cells svs ls) (hb : Below w.heap.size w w') : RowsOf w' cells svs ls :=
  ⟨h.1, fun i sv l h1 h2 => ⟨(h.2 i sv l h1 h2).1, (h.2 i sv l h1 h2).2.ext hb⟩⟩
end Go.Proofs.YtmnmepbljegjeaaGreatDoor
