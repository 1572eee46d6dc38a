/- Pairs of the reference: the program's terms (pairL, pairF). Printed by gen_rpairs.py. IsShort, IsMiss, CheckTest, enough of the references. Printed by gen_rdec.py. -/
import Derived.Test.YtemenlcigengeaaGreatDoorTq21
import Derived.Test.YtemenlcigengeaaGreatDoorTq02
import Derived.Test.YtemenlcigengeaaGreatDoorTq15
import Derived.Test.YtemenlcigengeaaGreatDoorTq36
import Derived.Test.YtemenlcigengeaaGreatDoorTq37
import Derived.Test.YtemenlcigengeaaGreatDoorTq00
import Derived.Test.YtemenlcigengeaaGreatDoorTq01
import Derived.Test.YtemenlcigengeaaGreatDoorTq03
import Derived.Test.YtemenlcigengeaaGreatDoorTq16
import Derived.Test.YtemenlcigengeaaGreatDoorProg
import Derived.Test.YtemenlcigengeaaGreatDoorTq05
import Derived.Test.YtemenlcigengeaaGreatDoorTq06
import Derived.Test.YtemenlcigengeaaGreatDoorTq07
import Derived.Test.YtemenlcigengeaaGreatDoorTq08
import Derived.Test.YtemenlcigengeaaGreatDoorTq17
import Derived.Test.YtemenlcigengeaaGreatDoorTq18
import Derived.Test.YtemenlcigengeaaGreatDoorTq19
import Derived.Test.YtemenlcigengeaaGreatDoorTq23
import Derived.Test.YtemenlcigengeaaGreatDoorTq24
import Derived.Test.YtemenlcigengeaaGreatDoorTq25
import Derived.Test.YtemenlcigengeaaGreatDoorTq26
import Derived.Test.YtemenlcigengeaaGreatDoorTq27
import Derived.Test.YtemenlcigengeaaGreatDoorTq28
import Derived.Test.YtemenlcigengeaaGreatDoorTq29
import Derived.Test.YtemenlcigengeaaGreatDoorShelf
import Derived.Test.YtemenlcigengeaaGreatDoorTq30
import Derived.Test.YtemenlcigengeaaGreatDoorTq20
import Derived.Test.YtemenlcigengeaaGreatDoorTq31
import Derived.Test.YtemenlcigengeaaGreatDoorTq32
import Derived.Test.YtemenlcigengeaaGreatDoorTq33
import Derived.Test.YtemenlcigengeaaGreatDoorTq34
import Derived.Test.YtemenlcigengeaaGreatDoorTq35
namespace Go.Proofs.YtemenlcigengeaaGreatDoor
open Go.RowKit
namespace Nt
structure PW (wr : World) (bW base : Nat) (v0 v1 : Value) (l0 l1 : List Int) : Prop where
  box : Box wr bW #[v0, v1]
  fre : Fre wr bW
  own0 : wr.ownsRow base 3 1 v0 l0.length (icells l0)
  own1 : wr.ownsRow base 3 1 v1 l1.length (icells l1)
  apart : ∀ k, v0.ownBlock = some k → v1.ownBlock = some k → False
  low : bW < base
theorem PW.ext {wr w' : World} {bW base : Nat} {v0 v1 : Value} {l0 l1 : List Int} (h : PW wr bW base v0 v1 l0 l1) (hb : Below wr.heap.size wr w') : PW w' bW base v0 v1 l0 l1 :=
  ⟨h.box.ext hb, h.fre.ext h.box hb, ownsRow_ext h.own0 hb, ownsRow_ext h.own1 hb, h.apart, h.low⟩
theorem PW.push0 {w w' : World} {bW base : Nat} {v0 v1 v' : Value} {l0 l1 : List Int} {x : Int} (h : PW w bW base v0 v1 l0 l1) (hown : w'.ownsRow base 3 1 v' (l0.length + 1) (icells l0 ++ [.int .i64 x])) (hg : w.grownBy w' v0.ownBlock)
    (hat : v'.ownBlock = v0.ownBlock ∨ v'.ownBlock = some w.heap.size) : PW (w'.setCell ⟨bW, 0, none⟩ v') bW base v' v1 (l0 ++ [x]) l1 := by
  have hr : ∀ q, v0.ownBlock = some q → q ≠ bW := fun q e => by have := (h.own0.lt q e).1; have := h.low; omega
  refine ⟨box_set (box_grown hg h.box hr), fre_set (fre_grown h.fre h.box.1 hg hr) _ _, ?_, ?_, ?_, h.low⟩
  · have : icells (l0 ++ [x]) = icells l0 ++ [.int .i64 x] := by simp [icells]
    rw [this, List.length_append]
    exact ownsRow_far hown h.low _
  · exact ownsRow_far (kept_apart h.own1 hg h.apart) h.low _
  · intro k e1 e2
    rcases hat with e | e
    · exact h.apart k (e ▸ e1) e2
    · rw [e1] at e; cases e; have := (h.own1.lt _ e2).2; omega
theorem PW.push1 {w w' : World} {bW base : Nat} {v0 v1 v' : Value} {l0 l1 : List Int} {x : Int} (h : PW w bW base v0 v1 l0 l1) (hown : w'.ownsRow base 3 1 v' (l1.length + 1) (icells l1 ++ [.int .i64 x])) (hg : w.grownBy w' v1.ownBlock)
    (hat : v'.ownBlock = v1.ownBlock ∨ v'.ownBlock = some w.heap.size) : PW (w'.setCell ⟨bW, 1, none⟩ v') bW base v0 v' l0 (l1 ++ [x]) := by
  have hr : ∀ q, v1.ownBlock = some q → q ≠ bW := fun q e => by have := (h.own1.lt q e).1; have := h.low; omega
  refine ⟨box_set1 (box_grown hg h.box hr), fre_set (fre_grown h.fre h.box.1 hg hr) _ _, ?_, ?_, ?_, h.low⟩
  · exact ownsRow_far (kept_apart h.own0 hg (fun k a b => h.apart k b a)) h.low _
  · have : icells (l1 ++ [x]) = icells l1 ++ [.int .i64 x] := by simp [icells]
    rw [this, List.length_append]
    exact ownsRow_far hown h.low _
  · intro k e1 e2
    rcases hat with e | e
    · exact h.apart k e1 (e ▸ e2)
    · rw [e2] at e; cases e; have := (h.own0.lt _ e1).2; omega

theorem PW.at {w w' : World} {bW base : Nat} {v0 v1 v : Value} {l0 l1 : List Int} (h : PW w bW base v0 v1 l0 l1) (hv : v = v0 ∨ v = v1) (hg : w.grownBy w' v.ownBlock) : (∀ j, w'.cell? ⟨bW, j, none⟩ = #[v0, v1][j]?) ∧ ∀ j, w'.frozen? ⟨bW, j, none⟩ = false := by
  have hr : ∀ q, v.ownBlock = some q → q ≠ bW := fun q e => by
    rcases hv with rfl | rfl
    · have := (h.own0.lt q e).1; have := h.low; omega
    · have := (h.own1.lt q e).1; have := h.low; omega
  exact ⟨(box_grown hg h.box hr).2, fre_grown h.fre h.box.1 hg hr⟩
theorem PW.step {w X Y w7 : World} {base : Nat} {v0 v1 v : Value} {l0 l1 : List Int} (hbx : Below w.heap.size w X) (h : PW X w.heap.size base v0 v1 l0 l1) (hXY : Below X.heap.size X Y) (hv : v = v0 ∨ v = v1) (hg : Y.grownBy w7 v.ownBlock) (j : Nat) (u : Value) :
    Below w.heap.size w (w7.setCell ⟨w.heap.size, j, none⟩ u) ∧ X.heap.size ≤ (w7.setCell ⟨w.heap.size, j, none⟩ u).heap.size := by
  have h1 := ext_trans hbx hXY
  refine ⟨(h1.grown hg h1.size (fun q e => ?_)).setCell (Nat.le_refl _) _, ?_⟩
  · have hl := h.low
    rcases hv with rfl | rfl
    · have := (h.own0.lt q e).1; omega
    · have := (h.own1.lt q e).1; omega
  · have h2 := hXY.size
    have h3 := hg.size
    simp [World.setCell]; omega

def bI (b : Bool) : Int := if b then 1 else 0
def wnI (a : Int) (l : List Tri) : List Int := (winsOf a l).map bI
theorem wnI_snoc (a : Int) (l : List Tri) (t : Tri) : wnI a (l ++ [t]) = wnI a l ++ (if t.arm = a then [bI t.win] else []) := by
  unfold wnI
  rw [winsOf_snoc, List.map_append]
  congr 1
  by_cases h : t.arm = a <;> simp [h]
theorem wnI_le (a : Int) (l : List Tri) : (wnI a l).length ≤ l.length := by unfold wnI; rw [List.length_map]; exact winsOf_le a l
def subI (z o : Int) : Int := o - z
theorem pairI_sub (z o : Bool) : pairI z o = subI (bI z) (bI o) := by cases z <;> cases o <;> rfl
theorem pairZ_sub (l : List Tri) : pairZ l = List.zipWith subI (wnI 0 l) (wnI 1 l) := by
  unfold pairZ wnI
  rw [List.zipWith_map]
  congr 1
  funext z o
  exact pairI_sub z o
theorem wnI_bit {a : Int} {l : List Tri} : ∀ x ∈ wnI a l, 0 ≤ x ∧ x ≤ 1 := by
  intro x hx
  unfold wnI at hx
  obtain ⟨b, _, rfl⟩ := List.mem_map.1 hx
  cases b <;> simp [bI]
theorem icells_get {l : List Int} {k : Nat} (h : k < l.length) : (icells l)[k]? = some (.int .i64 l[k]) := by simp [icells, h]
theorem zip_snocI {L0 L1 : List Int} {k : Nat} (h0 : k < L0.length) (h1 : k < L1.length) : (List.zipWith subI L0 L1).take (k + 1) = (List.zipWith subI L0 L1).take k ++ [subI L0[k] L1[k]] := by
  have hk : k < (List.zipWith subI L0 L1).length := by rw [List.length_zipWith]; omega
  rw [List.take_succ_eq_append_getElem hk, List.getElem_zipWith]
set_option maxHeartbeats 4000000 in
set_option maxRecDepth 100000 in
theorem refPairs_at (l : List Tri) (a : Option Addr) (c : Nat) (w : World) (hs : Sl w (.slice a l.length c) l.length (l.flatMap triL)) :
    Calls Tryz.prog 12 #[.slice a l.length c] w (IntsPost w (pairL l) (pairF l)) := by
  by_cases hl : 20000 < l.length
  · have hf : pairF l = 2 := by simp [pairF, hl]
    have hv : pairL l = [] := by simp [pairL, hf]
    rw [hf, hv]
    clear hf hv
    go_enter Tryz.func12, Tryz.ntmps12
    go_wp2
    go_ret2
    exact ⟨none, 0, rfl, Sl.nil _, Below.refl _ _⟩
  have HI := Lib.hid int_info
  have HFL : Hid (pairF l = if l.all okT = false then 1 else if 60 < (pairZ l).length then 2 else 0) := by
    have : pairF l = if l.all okT = false then 1 else if 60 < (pairZ l).length then 2 else 0 := by simp [pairF, hl]
    exact this
  go_enter Tryz.func12, Tryz.ntmps12
  go_upto_region 4 with (fail)
  refine wp_box1r fun W hsz hbW hC hF => ?_
  have hlow : w.heap.size < w.heap.size + 1 := by omega
  have hWs : w.heap.size + 1 ≤ W.heap.size := by omega
  have HPW : Hid (PW W w.heap.size (w.heap.size + 1) (.slice none 0 0) (.slice none 0 0) (wnI 0 (l.take 0)) (wnI 1 (l.take 0))) := ⟨hC, hF, World.ownsRow_nil _ _ _ _, World.ownsRow_nil _ _ _ _, (fun k e => by cases e), hlow⟩
  clear hsz hC hF
  go_wp2
  go_loopw [7, 15] (fun _ i wr => ∃ (k : Nat) (v0 v1 : Value), k ≤ l.length ∧ i = .int .i64 k ∧ Hid (PW wr w.heap.size (w.heap.size + 1) v0 v1 (wnI 0 (l.take k)) (wnI 1 (l.take k))) ∧ Hid ((l.take k).all okT = true) ∧ Below w.heap.size w wr ∧ w.heap.size + 1 ≤ wr.heap.size) (fun _ i _ => l.length - (intOf i).toNat)
  case atStart => exact ⟨0, _, _, by omega, rfl, HPW, rfl, hbW, hWs⟩
  case round =>
    obtain ⟨k, v0, v1, hk, rfl, HP, HOK, hb, hws⟩ := hrel
    clear HPW hbW hWs
    by_cases hlt : k < l.length
    · have hgk := List.getElem?_eq_getElem hlt
      have HW0 := Lib.hid (show wnI 0 (l.take (k + 1)) = wnI 0 (l.take k) ++ (if (l[k]).arm = 0 then [bI (l[k]).win] else []) by rw [take_succ_tri hlt, wnI_snoc])
      have HW1 := Lib.hid (show wnI 1 (l.take (k + 1)) = wnI 1 (l.take k) ++ (if (l[k]).arm = 1 then [bI (l[k]).win] else []) by rw [take_succ_tri hlt, wnI_snoc])
      have HA2 := Lib.hid (show (l.take (k + 1)).all okT = ((l.take k).all okT && okT l[k]) by rw [take_succ_tri hlt, List.all_append]; simp)
      have HALL := Lib.hid (show okT l[k] = false → l.all okT = false from fun h => by
        rw [List.all_eq_false]; exact ⟨l[k], List.getElem_mem _, by simp [h]⟩)
      generalize l[k] = t at hgk HW0 HW1 HA2 HALL
      obtain ⟨b, o, rfl, hcs⟩ := (hs.ext hb).elem (f := triL) (fun _ => rfl) (by omega : 0 < 2) hgk
      have e0 := hcs 0 _ rfl
      have e1 := hcs 1 _ rfl
      rw [Nat.add_zero] at e0
      clear hcs hgk
      obtain ⟨arm, win⟩ := t
      simp only at e0 e1 HW0 HW1
      go_upto_region 7 with (fail)
      clear e0 e1
      refine wp_box1 fun X hszX hbX hX => ?_
      have hx0 : X.cell? ⟨wr.heap.size, 0, none⟩ = some (.int .i64 arm) := hX.2 0
      have hx1 : X.cell? ⟨wr.heap.size, 1, none⟩ = some (.bool win) := hX.2 1
      have HPX := Lib.hid (HP.out.ext hbX)
      have hbx := ext_trans hb hbX
      have HNE : Hid ((∀ q, v0.ownBlock = some q → q ≠ wr.heap.size) ∧ ∀ q, v1.ownBlock = some q → q ≠ wr.heap.size) := ⟨fun q e => by have := (HP.out.own0.lt q e).2; omega, fun q e => by have := (HP.out.own1.lt q e).2; omega⟩
      have HBX := Lib.hid hX
      have hXs : w.heap.size + 1 ≤ X.heap.size := by omega
      have hX1 : w.heap.size < X.heap.size := by omega
      have hX2 : wr.heap.size < X.heap.size := by omega
      clear hX hszX hbX HP hb hws
      have c0 : X.cell? ⟨w.heap.size, 0, none⟩ = some v0 := HPX.out.box.2 0
      have c1 : X.cell? ⟨w.heap.size, 1, none⟩ = some v1 := HPX.out.box.2 1
      have f0 := HPX.out.fre 0
      have f1 := HPX.out.fre 1
      have HLE := Lib.hid (And.intro (Nat.le_trans (wnI_le 0 (l.take k)) (List.length_take_le _ _)) (Nat.le_trans (wnI_le 1 (l.take k)) (List.length_take_le _ _)))
      by_cases h0 : arm = 0
      · subst h0
        have HN : Hid (wnI 0 (l.take (k + 1)) = wnI 0 (l.take k) ++ [bI win] ∧ wnI 1 (l.take (k + 1)) = wnI 1 (l.take k)) := by
          have h1 := HW0.out
          have h2 := HW1.out
          simp at h1 h2
          exact ⟨h1, h2⟩
        have HOK2 : Hid ((l.take (k + 1)).all okT = true) := by
          have h1 := HA2.out
          rw [HOK.out] at h1
          have : (l.take (k + 1)).all okT = true := by rw [h1]; simp [okT]
          exact this
        clear HW0 HW1 HA2 HALL HOK HFL
        cases win with
        | false =>
          have HB9 : Hid (bI false = 0) := Lib.hid rfl
          rw [HB9.out] at HN
          clear HB9
          go_wp2
          go_region_law (refine step_append_at rfl (.tmp 34) (.tmp 36) 35 rfl (w.heap.size + 1) 3 Tryz.underlying35 HI.out rfl (by decide) (by simp [Act.eval]) (ownsRow_ext HPX.out.own0 (by go_grown)) (by simp [Act.eval]) (Sl.drew (Sl.new _ #[.int .i64 0] _ 1 1 (by omega) (by decide))) rfl (by intro u hu; simp at hu; subst hu; rfl) (by have := HLE.out; unfold maxLen; omega) (by have := HLE.out; omega) (by simp; omega) ?_; intro v7 w7 hown7 hg7 hat7; obtain ⟨g7, k7, rfl⟩ := own_shape hown7 (by omega); have HP7 := Lib.hid ((HPX.out.ext (by go_grown)).at (.inl rfl) hg7); have r0 := HP7.out.1 0; have r1 := HP7.out.2 0; have HB7 := Lib.hid (box_grown hg7 (HBX.out.ext (by go_grown)) HNE.out.1); have r2 := HB7.out.2 0; have r3 := HB7.out.2 1; have HQ := Lib.hid ((HPX.out.ext (by go_grown)).push0 hown7 hg7 hat7); have HST := Lib.hid (PW.step hbx HPX.out (by go_grown) (.inl rfl) hg7 0 (.slice (some ⟨g7, 0, none⟩) ((wnI 0 (l.take k)).length + 1) k7)); clear hown7 hg7 hat7)
          all_goals (go_wp2; exact ⟨⟨k + 1, _, _, by omega, by go_num, Lib.hid (by rw [HN.out.1, HN.out.2]; exact HQ.out), HOK2, HST.out.1, Nat.le_trans hXs HST.out.2⟩, by simp [intOf]; omega⟩)
        | true =>
          have HB9 : Hid (bI true = 1) := Lib.hid rfl
          rw [HB9.out] at HN
          clear HB9
          go_wp2
          go_region_law (refine step_append_at rfl (.tmp 34) (.tmp 36) 35 rfl (w.heap.size + 1) 3 Tryz.underlying35 HI.out rfl (by decide) (by simp [Act.eval]) (ownsRow_ext HPX.out.own0 (by go_grown)) (by simp [Act.eval]) (Sl.drew (Sl.new _ #[.int .i64 1] _ 1 1 (by omega) (by decide))) rfl (by intro u hu; simp at hu; subst hu; rfl) (by have := HLE.out; unfold maxLen; omega) (by have := HLE.out; omega) (by simp; omega) ?_; intro v7 w7 hown7 hg7 hat7; obtain ⟨g7, k7, rfl⟩ := own_shape hown7 (by omega); have HP7 := Lib.hid ((HPX.out.ext (by go_grown)).at (.inl rfl) hg7); have r0 := HP7.out.1 0; have r1 := HP7.out.2 0; have HB7 := Lib.hid (box_grown hg7 (HBX.out.ext (by go_grown)) HNE.out.1); have r2 := HB7.out.2 0; have r3 := HB7.out.2 1; have HQ := Lib.hid ((HPX.out.ext (by go_grown)).push0 hown7 hg7 hat7); have HST := Lib.hid (PW.step hbx HPX.out (by go_grown) (.inl rfl) hg7 0 (.slice (some ⟨g7, 0, none⟩) ((wnI 0 (l.take k)).length + 1) k7)); clear hown7 hg7 hat7)
          all_goals (go_wp2; exact ⟨⟨k + 1, _, _, by omega, by go_num, Lib.hid (by rw [HN.out.1, HN.out.2]; exact HQ.out), HOK2, HST.out.1, Nat.le_trans hXs HST.out.2⟩, by simp [intOf]; omega⟩)
      by_cases h1 : arm = 1
      · subst h1
        clear h0
        have HN : Hid (wnI 0 (l.take (k + 1)) = wnI 0 (l.take k) ∧ wnI 1 (l.take (k + 1)) = wnI 1 (l.take k) ++ [bI win]) := by
          have h1 := HW0.out
          have h2 := HW1.out
          simp at h1 h2
          exact ⟨h1, h2⟩
        have HOK2 : Hid ((l.take (k + 1)).all okT = true) := by
          have h1 := HA2.out
          rw [HOK.out] at h1
          have : (l.take (k + 1)).all okT = true := by rw [h1]; simp [okT]
          exact this
        clear HW0 HW1 HA2 HALL HOK HFL
        cases win with
        | false =>
          have HB9 : Hid (bI false = 0) := Lib.hid rfl
          rw [HB9.out] at HN
          clear HB9
          go_wp2
          go_region_law (refine step_append_at rfl (.tmp 34) (.tmp 36) 35 rfl (w.heap.size + 1) 3 Tryz.underlying35 HI.out rfl (by decide) (by simp [Act.eval]) (ownsRow_ext HPX.out.own1 (by go_grown)) (by simp [Act.eval]) (Sl.drew (Sl.new _ #[.int .i64 0] _ 1 1 (by omega) (by decide))) rfl (by intro u hu; simp at hu; subst hu; rfl) (by have := HLE.out; unfold maxLen; omega) (by have := HLE.out; omega) (by simp; omega) ?_; intro v7 w7 hown7 hg7 hat7; obtain ⟨g7, k7, rfl⟩ := own_shape hown7 (by omega); have HP7 := Lib.hid ((HPX.out.ext (by go_grown)).at (.inr rfl) hg7); have r0 := HP7.out.1 1; have r1 := HP7.out.2 1; have HB7 := Lib.hid (box_grown hg7 (HBX.out.ext (by go_grown)) HNE.out.2); have r2 := HB7.out.2 0; have r3 := HB7.out.2 1; have HQ := Lib.hid ((HPX.out.ext (by go_grown)).push1 hown7 hg7 hat7); have HST := Lib.hid (PW.step hbx HPX.out (by go_grown) (.inr rfl) hg7 1 (.slice (some ⟨g7, 0, none⟩) ((wnI 1 (l.take k)).length + 1) k7)); clear hown7 hg7 hat7)
          all_goals (go_wp2; exact ⟨⟨k + 1, _, _, by omega, by go_num, Lib.hid (by rw [HN.out.1, HN.out.2]; exact HQ.out), HOK2, HST.out.1, Nat.le_trans hXs HST.out.2⟩, by simp [intOf]; omega⟩)
        | true =>
          have HB9 : Hid (bI true = 1) := Lib.hid rfl
          rw [HB9.out] at HN
          clear HB9
          go_wp2
          go_region_law (refine step_append_at rfl (.tmp 34) (.tmp 36) 35 rfl (w.heap.size + 1) 3 Tryz.underlying35 HI.out rfl (by decide) (by simp [Act.eval]) (ownsRow_ext HPX.out.own1 (by go_grown)) (by simp [Act.eval]) (Sl.drew (Sl.new _ #[.int .i64 1] _ 1 1 (by omega) (by decide))) rfl (by intro u hu; simp at hu; subst hu; rfl) (by have := HLE.out; unfold maxLen; omega) (by have := HLE.out; omega) (by simp; omega) ?_; intro v7 w7 hown7 hg7 hat7; obtain ⟨g7, k7, rfl⟩ := own_shape hown7 (by omega); have HP7 := Lib.hid ((HPX.out.ext (by go_grown)).at (.inr rfl) hg7); have r0 := HP7.out.1 1; have r1 := HP7.out.2 1; have HB7 := Lib.hid (box_grown hg7 (HBX.out.ext (by go_grown)) HNE.out.2); have r2 := HB7.out.2 0; have r3 := HB7.out.2 1; have HQ := Lib.hid ((HPX.out.ext (by go_grown)).push1 hown7 hg7 hat7); have HST := Lib.hid (PW.step hbx HPX.out (by go_grown) (.inr rfl) hg7 1 (.slice (some ⟨g7, 0, none⟩) ((wnI 1 (l.take k)).length + 1) k7)); clear hown7 hg7 hat7)
          all_goals (go_wp2; exact ⟨⟨k + 1, _, _, by omega, by go_num, Lib.hid (by rw [HN.out.1, HN.out.2]; exact HQ.out), HOK2, HST.out.1, Nat.le_trans hXs HST.out.2⟩, by simp [intOf]; omega⟩)
      · have n0 : (arm != 0) = true := by simpa using h0
        have n1 : (arm != 1) = true := by simpa using h1
        have HF1 : Hid (pairF l = 1 ∧ pairL l = []) := by
          have hk : okT ⟨arm, win⟩ = false := by simp [okT]; omega
          have h1 := HFL.out
          rw [if_pos (HALL.out hk)] at h1
          exact ⟨h1, by simp [pairL, h1]⟩
        clear h0 h1
        go_wp2
        go_ret2
        refine ⟨none, 0, ?_, ?_, hbx⟩
        · rw [HF1.out.1, HF1.out.2]; rfl
        · rw [HF1.out.2]; exact Sl.nil _
    · have hkl : k = l.length := by omega
      have HT := Lib.hid (show l.take k = l from List.take_of_length_le (by omega))
      have HPW2 : Hid (PW wr w.heap.size (w.heap.size + 1) v0 v1 (wnI 0 l) (wnI 1 l)) := by have := HP.out; rw [HT.out] at this; exact this
      have HALL : Hid (l.all okT = true) := by have := HOK.out; rw [HT.out] at this; exact this
      have HF2 : Hid (pairF l = if 60 < (pairZ l).length then 2 else 0) := by
        have : pairF l = if 60 < (pairZ l).length then 2 else 0 := by have := HFL.out; rw [HALL.out] at this; simpa using this
        exact this
      clear HP HOK HFL HT hkl
      obtain ⟨p0, q0, rfl⟩ := own_any HPW2.out.own0
      obtain ⟨p1, q1, rfl⟩ := own_any HPW2.out.own1
      have c0 : wr.cell? ⟨w.heap.size, 0, none⟩ = some (.slice p0 (wnI 0 l).length q0) := HPW2.out.box.2 0
      have c1 : wr.cell? ⟨w.heap.size, 1, none⟩ = some (.slice p1 (wnI 1 l).length q1) := HPW2.out.box.2 1
      have HS0 := Lib.hid (Sl.ofOwn HPW2.out.own0)
      have HS1 := Lib.hid (Sl.ofOwn HPW2.out.own1)
      have HB := Lib.hid HPW2.out.box
      have hl0 := wnI_le 0 l
      have hl1 := wnI_le 1 l
      have HZ : Hid (pairZ l = List.zipWith subI (wnI 0 l) (wnI 1 l)) := pairZ_sub l
      have HBIT : Hid ((∀ x ∈ wnI 0 l, 0 ≤ x ∧ x ≤ 1) ∧ ∀ x ∈ wnI 1 l, 0 ≤ x ∧ x ≤ 1) := ⟨wnI_bit, wnI_bit⟩
      clear HPW2
      generalize wnI 0 l = L0 at *
      generalize wnI 1 l = L1 at *
      have HZL : Hid ((pairZ l).length = min L0.length L1.length) := by
        have : (pairZ l).length = min L0.length L1.length := by rw [HZ.out, List.length_zipWith]
        exact this
      have HI2 := Lib.hid int_info
      clear HI
      by_cases hord : L1.length < L0.length
      · have ho1 : (L1.length : Int) < (L0.length : Int) := by omega
        have HLZ : Hid ((List.zipWith subI L0 L1).length = L1.length) := by
          have : (List.zipWith subI L0 L1).length = L1.length := by rw [List.length_zipWith]; omega
          exact this
        go_wp2
        obtain ⟨w5, rfl⟩ : ∃ w5 : World, w5 = wr := ⟨_, rfl⟩
        go_loopw [8, 9, 47] (fun v _ i wr => ∃ k : Nat, k ≤ L1.length ∧ i = .int .i64 k ∧ wr.ownsRow w5.heap.size 3 1 v k (icells ((List.zipWith subI L0 L1).take k)) ∧ Below w5.heap.size w5 wr) (fun _ _ i _ => L1.length - (intOf i).toNat)
        case atStart => exact ⟨0, by omega, rfl, World.ownsRow_nil _ _ _ _, Below.refl _ _⟩
        case round =>
          obtain ⟨k, hk, rfl, hown, hbk⟩ := hrel
          by_cases hlt : k < L1.length
          · have hk0 : k < L0.length := by omega
            have hk1 : k < L1.length := by omega
            have HSN := Lib.hid (zip_snocI hk0 hk1)
            have hx0 := HBIT.out.1 _ (List.getElem_mem hk0)
            have hx1 := HBIT.out.2 _ (List.getElem_mem hk1)
            obtain ⟨b0, o0, rfl, z0⟩ := Nm.sl_addr (HS0.out.ext hbk) (icells_get hk0)
            obtain ⟨b1, o1, rfl, z1⟩ := Nm.sl_addr (HS1.out.ext hbk) (icells_get hk1)
            have HBK := Lib.hid (HB.out.ext hbk)
            have d0 : wr.cell? ⟨w.heap.size, 0, none⟩ = some (.slice (some ⟨b0, o0, none⟩) L0.length q0) := HBK.out.2 0
            have d1 : wr.cell? ⟨w.heap.size, 1, none⟩ = some (.slice (some ⟨b1, o1, none⟩) L1.length q1) := HBK.out.2 1
            have HOB : Hid (∀ q, u8.ownBlock = some q → w5.heap.size ≤ q) := fun q hq => (hown.lt q hq).1
            have hi0 : (0 : Int) ≤ (k : Int) := Int.natCast_nonneg _
            have hi1 : (k : Int) < (L0.length : Int) := by omega
            have hi2 : (k : Int) < (L1.length : Int) := by omega
            generalize L0[k] = x0 at z0 HSN hx0
            generalize L1[k] = x1 at z1 HSN hx1
            have hszk := hbk.size
            have e9 : IntKind.i64.wrap (x1 - x0) = subI x0 x1 := IntWalk.i64_in _ (by omega)
            generalize subI x0 x1 = y at HSN e9
            clear c0 c1
            have HOWN := Lib.hid hown
            have HBKW := Lib.hid hbk
            clear hown hx0 hx1
            go_wp2
            go_region_law (refine step_append_at rfl (.tmp 50) (.tmp 62) 35 rfl w5.heap.size 3 Tryz.underlying35 HI2.out rfl (by decide) (by simp [Act.eval]) (ownsRow_ext HOWN.out (by go_grown)) (by simp [Act.eval]) (Sl.drew (Sl.new _ #[.int .i64 y] _ 1 1 (by omega) (by decide))) rfl (by intro u hu; simp at hu; subst hu; rfl) (by unfold maxLen; omega) (by omega) (by simp; omega) ?_; intro v7 w7 hown7 hg7 hat7; have hb8 := Lib.hid ((ext_trans HBKW.out (by go_grown)).grown hg7 (by simp; omega) (fun q hq => HOB.out q hq)); have hown8 := Lib.hid hown7; clear hown7 hg7 hat7)
            all_goals (go_wp2; exact ⟨⟨k + 1, by omega, by go_num, by rw [HSN.out]; simpa [icells] using hown8.out, hb8.out⟩, by simp [intOf]; omega⟩)
          · have hkm : k = L1.length := by omega
            subst hkm
            have HOW : Hid (wr.ownsRow w5.heap.size 3 1 u8 L1.length (icells (List.zipWith subI L0 L1))) := by
              have := hown
              rw [List.take_of_length_le (by rw [HLZ.out]; exact Nat.le_refl _)] at this
              exact this
            obtain ⟨a9, c9, rfl⟩ := own_any hown
            clear hown
            by_cases h60 : 60 < L1.length
            · have HF3 : Hid (pairF l = 2 ∧ pairL l = []) := by
                have h1 := HF2.out
                rw [if_pos (by rw [HZL.out]; omega)] at h1
                exact ⟨h1, by simp [pairL, h1]⟩
              go_wp2
              go_ret2
              refine ⟨none, 0, ?_, ?_, ext_trans hb hbk⟩
              · rw [HF3.out.1, HF3.out.2]; rfl
              · rw [HF3.out.2]; exact Sl.nil _
            · have HF3 : Hid (pairF l = 0 ∧ pairL l = List.zipWith subI L0 L1) := by
                have h1 := HF2.out
                rw [if_neg (by rw [HZL.out]; omega)] at h1
                exact ⟨h1, by unfold pairL; rw [if_pos h1]; exact HZ.out⟩
              go_wp2
              go_ret2
              refine ⟨a9, c9, ?_, ?_, ext_trans hb hbk⟩
              · rw [HF3.out.1, HF3.out.2, HLZ.out]; rfl
              · rw [HF3.out.2, HLZ.out]; exact Sl.ofOwn HOW.out
      · have ho1 : (L0.length : Int) ≤ (L1.length : Int) := by omega
        have HLZ : Hid ((List.zipWith subI L0 L1).length = L0.length) := by
          have : (List.zipWith subI L0 L1).length = L0.length := by rw [List.length_zipWith]; omega
          exact this
        go_wp2
        obtain ⟨w5, rfl⟩ : ∃ w5 : World, w5 = wr := ⟨_, rfl⟩
        go_loopw [8, 9, 47] (fun v _ i wr => ∃ k : Nat, k ≤ L0.length ∧ i = .int .i64 k ∧ wr.ownsRow w5.heap.size 3 1 v k (icells ((List.zipWith subI L0 L1).take k)) ∧ Below w5.heap.size w5 wr) (fun _ _ i _ => L0.length - (intOf i).toNat)
        case atStart => exact ⟨0, by omega, rfl, World.ownsRow_nil _ _ _ _, Below.refl _ _⟩
        case round =>
          obtain ⟨k, hk, rfl, hown, hbk⟩ := hrel
          by_cases hlt : k < L0.length
          · have hk0 : k < L0.length := by omega
            have hk1 : k < L1.length := by omega
            have HSN := Lib.hid (zip_snocI hk0 hk1)
            have hx0 := HBIT.out.1 _ (List.getElem_mem hk0)
            have hx1 := HBIT.out.2 _ (List.getElem_mem hk1)
            obtain ⟨b0, o0, rfl, z0⟩ := Nm.sl_addr (HS0.out.ext hbk) (icells_get hk0)
            obtain ⟨b1, o1, rfl, z1⟩ := Nm.sl_addr (HS1.out.ext hbk) (icells_get hk1)
            have HBK := Lib.hid (HB.out.ext hbk)
            have d0 : wr.cell? ⟨w.heap.size, 0, none⟩ = some (.slice (some ⟨b0, o0, none⟩) L0.length q0) := HBK.out.2 0
            have d1 : wr.cell? ⟨w.heap.size, 1, none⟩ = some (.slice (some ⟨b1, o1, none⟩) L1.length q1) := HBK.out.2 1
            have HOB : Hid (∀ q, u8.ownBlock = some q → w5.heap.size ≤ q) := fun q hq => (hown.lt q hq).1
            have hi0 : (0 : Int) ≤ (k : Int) := Int.natCast_nonneg _
            have hi1 : (k : Int) < (L0.length : Int) := by omega
            have hi2 : (k : Int) < (L1.length : Int) := by omega
            generalize L0[k] = x0 at z0 HSN hx0
            generalize L1[k] = x1 at z1 HSN hx1
            have hszk := hbk.size
            have e9 : IntKind.i64.wrap (x1 - x0) = subI x0 x1 := IntWalk.i64_in _ (by omega)
            generalize subI x0 x1 = y at HSN e9
            clear c0 c1
            have HOWN := Lib.hid hown
            have HBKW := Lib.hid hbk
            clear hown hx0 hx1
            go_wp2
            go_region_law (refine step_append_at rfl (.tmp 50) (.tmp 62) 35 rfl w5.heap.size 3 Tryz.underlying35 HI2.out rfl (by decide) (by simp [Act.eval]) (ownsRow_ext HOWN.out (by go_grown)) (by simp [Act.eval]) (Sl.drew (Sl.new _ #[.int .i64 y] _ 1 1 (by omega) (by decide))) rfl (by intro u hu; simp at hu; subst hu; rfl) (by unfold maxLen; omega) (by omega) (by simp; omega) ?_; intro v7 w7 hown7 hg7 hat7; have hb8 := Lib.hid ((ext_trans HBKW.out (by go_grown)).grown hg7 (by simp; omega) (fun q hq => HOB.out q hq)); have hown8 := Lib.hid hown7; clear hown7 hg7 hat7)
            all_goals (go_wp2; exact ⟨⟨k + 1, by omega, by go_num, by rw [HSN.out]; simpa [icells] using hown8.out, hb8.out⟩, by simp [intOf]; omega⟩)
          · have hkm : k = L0.length := by omega
            subst hkm
            have HOW : Hid (wr.ownsRow w5.heap.size 3 1 u8 L0.length (icells (List.zipWith subI L0 L1))) := by
              have := hown
              rw [List.take_of_length_le (by rw [HLZ.out]; exact Nat.le_refl _)] at this
              exact this
            obtain ⟨a9, c9, rfl⟩ := own_any hown
            clear hown
            by_cases h60 : 60 < L0.length
            · have HF3 : Hid (pairF l = 2 ∧ pairL l = []) := by
                have h1 := HF2.out
                rw [if_pos (by rw [HZL.out]; omega)] at h1
                exact ⟨h1, by simp [pairL, h1]⟩
              go_wp2
              go_ret2
              refine ⟨none, 0, ?_, ?_, ext_trans hb hbk⟩
              · rw [HF3.out.1, HF3.out.2]; rfl
              · rw [HF3.out.2]; exact Sl.nil _
            · have HF3 : Hid (pairF l = 0 ∧ pairL l = List.zipWith subI L0 L1) := by
                have h1 := HF2.out
                rw [if_neg (by rw [HZL.out]; omega)] at h1
                exact ⟨h1, by unfold pairL; rw [if_pos h1]; exact HZ.out⟩
              go_wp2
              go_ret2
              refine ⟨a9, c9, ?_, ?_, ext_trans hb hbk⟩
              · rw [HF3.out.1, HF3.out.2, HLZ.out]; rfl
              · rw [HF3.out.2, HLZ.out]; exact Sl.ofOwn HOW.out
end Nt
end Go.Proofs.YtemenlcigengeaaGreatDoor
namespace Go.Proofs.YtemenlcigengeaaGreatDoor
open Go.RowKit
namespace Nt
open _root_.Go.Proofs.YtemenlcigengeaaGreatDoor.Nm (showN showD Fits show_size show_back rF rQ cutS cutS_size longB okM missF testF cmpQ cmpQ_m1 trimPrefix_at fits_int FPost)
set_option maxRecDepth 100000 in
set_option maxHeartbeats 8000000 in
theorem checkTest_at (d k : Int) (n m : ByteArray) (hn : n.size ≤ maxLen) (hm : m.size ≤ maxLen) (w : World) (ht : Tab w) : Calls Tryz.prog 9 #[.agg #[.int .i64 d, .int .i64 k, .string n, .string m]] w (FPost w (testF d k n m)) := by
  have HU : Hid (testF d k n m = if ¬ (1 ≤ d ∧ d ≤ 3) then 4 else if ¬ (1 ≤ k ∧ k ≤ 5) then 1 else missF n m) := Lib.hid rfl
  generalize testF d k n m = tf at *
  go_enter Tryz.func9, Tryz.ntmps9
  have HT0 := Lib.hid ht
  clear ht
  go_upto_region 1 with (fail)
  refine wp_box1 fun w1' hsz hbW hA0 => ?_
  clear hsz
  have HB_t := Lib.hid hA0
  have HW := Lib.hid hbW
  clear hbW hA0
  have c_t_0 : w1'.cell? ⟨w.heap.size, 0, none⟩ = some (.int .i64 d) := HB_t.out.2 0
  have c_t_1 : w1'.cell? ⟨w.heap.size, 1, none⟩ = some (.int .i64 k) := HB_t.out.2 1
  have c_t_2 : w1'.cell? ⟨w.heap.size, 2, none⟩ = some (.string n) := HB_t.out.2 2
  have c_t_3 : w1'.cell? ⟨w.heap.size, 3, none⟩ = some (.string m) := HB_t.out.2 3
  by_cases h1 : d < 1
  · have HV : Hid (tf = 4) := Lib.hid (by rw [HU.out, if_pos (by omega)])
    clear HU
    go_wp2
    go_ret
    exact ⟨ret_int HV.out.symm, HW.out⟩
  · by_cases h2 : 3 < d
    · have HV : Hid (tf = 4) := Lib.hid (by rw [HU.out, if_pos (by omega)])
      clear HU
      go_wp2
      go_ret
      exact ⟨ret_int HV.out.symm, HW.out⟩
    · by_cases h3 : k < 1
      · have HV : Hid (tf = 1) := Lib.hid (by rw [HU.out, if_neg (by omega), if_pos (by omega)])
        clear HU
        go_wp2
        go_ret
        exact ⟨ret_int HV.out.symm, HW.out⟩
      · by_cases h4 : 5 < k
        · have HV : Hid (tf = 1) := Lib.hid (by rw [HU.out, if_neg (by omega), if_pos (by omega)])
          clear HU
          go_wp2
          go_ret
          exact ⟨ret_int HV.out.symm, HW.out⟩
        · have HV : Hid (tf = missF n m) := Lib.hid (by rw [HU.out, if_neg (by omega), if_neg (by omega)])
          clear HU
          go_wp2_with fail
          refine (isMiss_at n m hn hm w1' (HT0.out.ext HW.out)).mono ?_
          rintro e w2' ⟨rfl, hbz⟩
          replace HB_t := Lib.hid (HB_t.out.ext hbz)
          replace HW := Lib.hid (ext_trans HW.out hbz)
          clear c_t_0 c_t_1 c_t_2 c_t_3
          clear hbz
          go_wp2
          go_ret
          exact ⟨ret_int HV.out.symm, HW.out⟩
end Nt
end Go.Proofs.YtemenlcigengeaaGreatDoor
