/- What a region that draws its order holds on to, where it ends in a store into a block of the call's own. No program stands in it. Pairs of package decide: two rows of the call's own that grow, in an array of two. readTest of package decide. -/
import Derived.Test.YtemenlcigengeaaGreatDoorTq00
import Derived.Deep.RegionHeld3
import Derived.Test.YtemenlcigengeaaGreatDoorTq03
import Derived.Test.YtemenlcigengeaaGreatDoorProg
import Derived.Maps.AppendAt
import Derived.Deep.RegionLaw
import Derived.Deep.Cut
import Derived.Deep.QuietTactic
import Derived.BigQuiet
import Derived.BigRegion
import Derived.IntWalk
import Derived.Test.YtemenlcigengeaaGreatDoorTq21
import Derived.Test.YtemenlcigengeaaGreatDoorTq05
import Derived.Test.YtemenlcigengeaaGreatDoorTq16
import Derived.Test.YtemenlcigengeaaGreatDoorTq06
import Derived.Test.YtemenlcigengeaaGreatDoorTq07
import Derived.Test.YtemenlcigengeaaGreatDoorTq08
import Derived.Test.YtemenlcigengeaaGreatDoorTq17
import Derived.Test.YtemenlcigengeaaGreatDoorTq18
import Derived.Test.YtemenlcigengeaaGreatDoorTq19
import Derived.Test.YtemenlcigengeaaGreatDoorTq20
namespace Go.Proofs.YtemenlcigengeaaGreatDoor
open Go.RowKit
theorem flat_length {α : Type} {f : α → List Value} {sz : Nat} (hs : ∀ x, (f x).length = sz) (l : List α) : (l.flatMap f).length = l.length * sz := by
  induction l with
  | nil => simp
  | cons y l ih => rw [List.flatMap_cons, List.length_append, hs, ih, List.length_cons, Nat.add_mul]; omega
end Go.Proofs.YtemenlcigengeaaGreatDoor
namespace Go.Proofs.YtemenlcigengeaaGreatDoor
open Go.RowKit

structure Tri where
  arm : Int
  win : Bool
def triL (t : Tri) : List Value := [.int .i64 t.arm, .bool t.win]
/-- append at a step of a region that draws its order, with the place of what comes back -/
theorem step_append_at {P : Program} {w : World} {ops : Array Oper} {o : Oper} {a : Act} {K : Act → World → Prop} {Q : Exit → Act → World → Prop} {E : Prop} (hgd : o.guard = none) (s x : Operand) (t : TypeId)
    (ho : o.op = .call { callee := .builtin .append, args := #[s, x], argTypes := #[t, t] })
    (base : Nat) (e : TypeId) {z : Value} {size bytes : Nat} (ht : P.underlying t = some (.slice e)) (hinfo : (P.info? e).map (fun i => (i.zero, i.size, i.bytes)) = some (some z, size, bytes))
    (hzs : z.cells.size = size) (hsz : 0 < size)
    {v : Value} {n : Nat} {xs : List Value} (hs : a.eval s = v) (hown : w.ownsRow base e size v n xs)
    {ad : Addr} {m c : Nat} {news : List Value} (hx : a.eval x = .slice (some ad) m c) (hsl : Sl w (.slice (some ad) m c) m news) (hl : news.length = m * size) (h1 : ∀ u ∈ news, u.oneCell' = true)
    (h63 : n + m ≤ maxLen) (hbytes : (n + m) * bytes ≤ 140737488355328) (hbase : base ≤ w.heap.size)
    (h : ∀ v' w', w'.ownsRow base e size v' (n + m) (xs ++ news) → w.grownBy w' v.ownBlock → (v'.ownBlock = v.ownBlock ∨ v'.ownBlock = some w.heap.size) → K (a.put o.dst v') w') :
    if Region.wanted o (yielded ops a.tmps) = true then Oper.wp P o a w K Q else E := by
  have hw : Region.wanted o (yielded ops a.tmps) = true := by simp [Region.wanted, hgd]
  rw [if_pos hw]
  obtain ⟨i, hi, hz0, hz1, hz2⟩ := info_parts hinfo
  rcases hsl.src with ⟨h0, _⟩ | ⟨ad', c', e', hnews⟩
  · cases h0
  · cases e'
    obtain ⟨v', w', hr, h2, h3, h4, h5⟩ := run_append_own_at (P := P) w base t o.type e i z size bytes ht hi hz0 hz1 hz2 hzs hsz v n xs hown ad m c news hl hnews h1 h63 hbytes hbase
    unfold Oper.wp execOp
    simp only [ho, resolve, invoke, builtin, Sem.run_bind, Sem.run_pure, Result.andThen_ok, List.map_toArray, List.map_cons, List.map_nil, hs, hx, hr]
    exact h v' w' h2 h3 h5

theorem box_set {w : World} {b : Nat} {v0 v1 u : Value} (h : Box w b #[v0, v1]) : Box (w.setCell ⟨b, 0, none⟩ u) b #[u, v1] := by
  refine ⟨by simpa [World.setCell] using h.1, fun j => ?_⟩
  by_cases e : j = 0
  · subst e
    rw [World.cell?_setCell_same _ _ _ (h.2 0)]; rfl
  · rw [World.cell?_setCell_other _ _ _ _ (by intro e'; cases e'; exact e rfl), h.2 j]
    obtain ⟨k, rfl⟩ : ∃ k, j = k + 1 := ⟨j - 1, by omega⟩
    simp
theorem box_set1 {w : World} {b : Nat} {v0 v1 u : Value} (h : Box w b #[v0, v1]) : Box (w.setCell ⟨b, 1, none⟩ u) b #[v0, u] := by
  refine ⟨by simpa [World.setCell] using h.1, fun j => ?_⟩
  by_cases e : j = 1
  · subst e
    rw [World.cell?_setCell_same _ _ _ (h.2 1)]; rfl
  · rw [World.cell?_setCell_other _ _ _ _ (by intro e'; cases e'; exact e rfl), h.2 j]
    match j with
    | 0 => rfl
    | 1 => exact absurd rfl e
    | k + 2 => simp
theorem kept_apart {w w' : World} {base e size n : Nat} {v u : Value} {xs : List Value} (h : w.ownsRow base e size v n xs) (hg : w.grownBy w' u.ownBlock) (ha : ∀ k, u.ownBlock = some k → v.ownBlock = some k → False) : w'.ownsRow base e size v n xs := by
  refine h.kept hg ?_
  cases e : v.ownBlock with
  | none => exact .inl rfl
  | some k => exact .inr (fun e' => ha k e'.symm e)
theorem PW.push0 {w w' : World} {bW base : Nat} {v0 v1 v' : Value} {l0 l1 : List Bool} {x : Bool} (h : PW w bW base v0 v1 l0 l1) (hown : w'.ownsRow base 4 1 v' (l0.length + 1) (bcs l0 ++ [.bool x])) (hg : w.grownBy w' v0.ownBlock)
    (hat : v'.ownBlock = v0.ownBlock ∨ v'.ownBlock = some w.heap.size) : PW (w'.setCell ⟨bW, 0, none⟩ v') bW base v' v1 (l0 ++ [x]) l1 := by
  have hr : ∀ q, v0.ownBlock = some q → q ≠ bW := fun q e => by have := (h.own0.lt q e).1; have := h.low; omega
  refine ⟨box_set (box_grown hg h.box hr), fre_set (fre_grown h.fre h.box.1 hg hr) _ _, ?_, ?_, ?_, h.low⟩
  · have : bcs (l0 ++ [x]) = bcs l0 ++ [.bool x] := by simp [bcs]
    rw [this, List.length_append]
    exact ownsRow_far hown h.low _
  · exact ownsRow_far (kept_apart h.own1 hg h.apart) h.low _
  · intro k e1 e2
    rcases hat with e | e
    · exact h.apart k (e ▸ e1) e2
    · rw [e1] at e; cases e; have := (h.own1.lt _ e2).2; omega
theorem PW.push1 {w w' : World} {bW base : Nat} {v0 v1 v' : Value} {l0 l1 : List Bool} {x : Bool} (h : PW w bW base v0 v1 l0 l1) (hown : w'.ownsRow base 4 1 v' (l1.length + 1) (bcs l1 ++ [.bool x])) (hg : w.grownBy w' v1.ownBlock)
    (hat : v'.ownBlock = v1.ownBlock ∨ v'.ownBlock = some w.heap.size) : PW (w'.setCell ⟨bW, 1, none⟩ v') bW base v0 v' l0 (l1 ++ [x]) := by
  have hr : ∀ q, v1.ownBlock = some q → q ≠ bW := fun q e => by have := (h.own1.lt q e).1; have := h.low; omega
  refine ⟨box_set1 (box_grown hg h.box hr), fre_set (fre_grown h.fre h.box.1 hg hr) _ _, ?_, ?_, ?_, h.low⟩
  · exact ownsRow_far (kept_apart h.own0 hg (fun k a b => h.apart k b a)) h.low _
  · have : bcs (l1 ++ [x]) = bcs l1 ++ [.bool x] := by simp [bcs]
    rw [this, List.length_append]
    exact ownsRow_far hown h.low _
  · intro k e1 e2
    rcases hat with e | e
    · exact h.apart k e1 (e ▸ e2)
    · rw [e2] at e; cases e; have := (h.own0.lt _ e1).2; omega

theorem own_shape {w : World} {base e size n : Nat} {v : Value} {xs : List Value} (h : w.ownsRow base e size v n xs) (hn : 0 < n) : ∃ g cap, v = .slice (some ⟨g, 0, none⟩) n cap := by
  obtain ⟨h1, ⟨_, h2⟩ | ⟨g, cap, cur, rfl, _⟩⟩ := h
  · omega
  · exact ⟨g, cap, rfl⟩
theorem dwithin_yes (n low high : Int) (h1 : low ≤ n) (h2 : n ≤ high) (w : World) : Calls Tryz.prog 27 #[.int .i64 n, .int .i64 low, .int .i64 high] w fun e w' => e = .returned (.bool true) ∧ w = w' := by
  go_enter Tryz.func27, Tryz.ntmps27
  go_wp2
  go_ret
  exact ⟨rfl, rfl⟩
theorem dwithin_no (n low high : Int) (h : n < low ∨ high < n) (w : World) : Calls Tryz.prog 27 #[.int .i64 n, .int .i64 low, .int .i64 high] w fun e w' => e = .returned (.bool false) ∧ w = w' := by
  by_cases h1 : n < low
  · clear h
    go_enter Tryz.func27, Tryz.ntmps27
    go_wp2
    go_ret
    exact ⟨rfl, rfl⟩
  · have h2 : decide (n ≤ high) = false := decide_eq_false (by omega)
    have h3 : low ≤ n := by omega
    clear h h1
    go_enter Tryz.func27, Tryz.ntmps27
    go_wp2
    go_ret
    exact ⟨rfl, rfl⟩

def okT (t : Tri) : Bool := decide (0 ≤ t.arm) && decide (t.arm ≤ 1)
def winsOf (a : Int) (l : List Tri) : List Bool := (l.filter fun t => decide (t.arm = a)).map Tri.win
def pairI (z o : Bool) : Int := if z = o then 0 else if o then 1 else -1
def pairZ (l : List Tri) : List Int := List.zipWith pairI (winsOf 0 l) (winsOf 1 l)
def pairF (l : List Tri) : Int := if 20000 < l.length then 2 else if l.all okT = false then 1 else if 60 < (pairZ l).length then 2 else 0
def pairL (l : List Tri) : List Int := if pairF l = 0 then pairZ l else []
def icells (l : List Int) : List Value := l.map (Value.int .i64)
def IntsPost (w : World) (l : List Int) (f : Int) (e : Ending) (w' : World) : Prop := ∃ a cap, e = .returned (.tuple #[.slice a l.length cap, .int .i64 f]) ∧ Sl w' (.slice a l.length cap) l.length (icells l) ∧ Below w.heap.size w w'
theorem winsOf_snoc (a : Int) (l : List Tri) (t : Tri) : winsOf a (l ++ [t]) = winsOf a l ++ (if t.arm = a then [t.win] else []) := by
  unfold winsOf
  rw [List.filter_append, List.map_append]
  congr 1
  by_cases h : t.arm = a <;> simp [h]
theorem winsOf_le (a : Int) (l : List Tri) : (winsOf a l).length ≤ l.length := by
  unfold winsOf; rw [List.length_map]; exact List.length_filter_le _ _
theorem take_succ_tri {l : List Tri} {k : Nat} (h : k < l.length) : l.take (k + 1) = l.take k ++ [l[k]] := List.take_succ_eq_append_getElem h
theorem int_info : (Tryz.prog.info? 3).map (fun i => (i.zero, i.size, i.bytes)) = some (some (.int .i64 0), 1, 8) := by kernel_rfl
theorem zip_snoc {L0 L1 : List Bool} {k : Nat} (h0 : k < L0.length) (h1 : k < L1.length) : (List.zipWith pairI L0 L1).take (k + 1) = (List.zipWith pairI L0 L1).take k ++ [pairI L0[k] L1[k]] := by
  have hk : k < (List.zipWith pairI L0 L1).length := by rw [List.length_zipWith]; omega
  rw [List.take_succ_eq_append_getElem hk, List.getElem_zipWith]
theorem sl_bool {w : World} {a : Option Addr} {n c k : Nat} {l : List Bool} (h : Sl w (.slice a n c) n (bcs l)) (hk : k < l.length) : ∃ b o, a = some ⟨b, o, none⟩ ∧ w.cell? ⟨b, o + k, none⟩ = some (.bool l[k]) := by
  obtain ⟨a', cap, hv, _, _, _, h3⟩ := h
  cases hv
  obtain ⟨b, o, e, hc⟩ := h3 k _ (bcs_get hk)
  exact ⟨b, o, e, hc⟩
set_option maxHeartbeats 4000000 in
set_option maxRecDepth 100000 in
theorem decide_Pairs (l : List Tri) (a : Option Addr) (c : Nat) (w : World) (hs : Sl w (.slice a l.length c) l.length (l.flatMap triL)) :
    Calls Tryz.prog 11 #[.slice a l.length c] w (IntsPost w (pairL l) (pairF l)) := by
  by_cases hl : 20000 < l.length
  · have hf : pairF l = 2 := by simp [pairF, hl]
    have hv : pairL l = [] := by simp [pairL, hf]
    rw [hf, hv]
    clear hf hv
    go_enter Tryz.func11, Tryz.ntmps11
    go_wp2
    go_ret2
    exact ⟨none, 0, rfl, Sl.nil _, Below.refl _ _⟩
  have HI := Lib.hid bool_info
  have HFL : Hid (pairF l = if l.all okT = false then 1 else if 60 < (pairZ l).length then 2 else 0) := by
    have : pairF l = if l.all okT = false then 1 else if 60 < (pairZ l).length then 2 else 0 := by simp [pairF, hl]
    exact this
  go_enter Tryz.func11, Tryz.ntmps11
  go_upto_region 4 with (fail)
  refine wp_box1r fun W hsz hbW hC hF => ?_
  have hlow : w.heap.size < w.heap.size + 1 := by omega
  have hWs : w.heap.size + 1 ≤ W.heap.size := by omega
  have HPW : Hid (PW W w.heap.size (w.heap.size + 1) (.slice none 0 0) (.slice none 0 0) (winsOf 0 (l.take 0)) (winsOf 1 (l.take 0))) := ⟨hC, hF, World.ownsRow_nil _ _ _ _, World.ownsRow_nil _ _ _ _, (fun k e => by cases e), hlow⟩
  clear hsz hC hF
  go_wp2
  go_loopw [17] (fun i wr => ∃ (k : Nat) (v0 v1 : Value), k ≤ l.length ∧ i = .int .i64 k ∧ Hid (PW wr w.heap.size (w.heap.size + 1) v0 v1 (winsOf 0 (l.take k)) (winsOf 1 (l.take k))) ∧ Hid ((l.take k).all okT = true) ∧ Below w.heap.size w wr ∧ w.heap.size + 1 ≤ wr.heap.size) (fun i _ => l.length - (intOf i).toNat)
  case atStart => exact ⟨0, _, _, by omega, rfl, HPW, rfl, hbW, hWs⟩
  case round =>
    obtain ⟨k, v0, v1, hk, rfl, HP, HOK, hb, hws⟩ := hrel
    clear HPW hbW hWs
    by_cases hlt : k < l.length
    · have hgk := List.getElem?_eq_getElem hlt
      have HW0 := Lib.hid (show winsOf 0 (l.take (k + 1)) = winsOf 0 (l.take k) ++ (if (l[k]).arm = 0 then [(l[k]).win] else []) by rw [take_succ_tri hlt, winsOf_snoc])
      have HW1 := Lib.hid (show winsOf 1 (l.take (k + 1)) = winsOf 1 (l.take k) ++ (if (l[k]).arm = 1 then [(l[k]).win] else []) by rw [take_succ_tri hlt, winsOf_snoc])
      have HA2 := Lib.hid (show (l.take (k + 1)).all okT = ((l.take k).all okT && okT l[k]) by rw [take_succ_tri hlt, List.all_append]; simp)
      have HALL := Lib.hid (show okT l[k] = false → l.all okT = false from fun h => by
        rw [List.all_eq_false]; exact ⟨l[k], List.getElem_mem _, by simp [h]⟩)
      generalize l[k] = t at hgk HW0 HW1 HA2 HALL
      obtain ⟨b, o, rfl, hcs⟩ := (hs.ext hb).elem (f := triL) (fun _ => rfl) (by omega : 0 < 2) hgk
      have e0 := hcs 0 _ rfl
      have e1 := hcs 1 _ rfl
      rw [Nat.add_zero] at e0
      clear hcs hgk
      obtain ⟨arm, win⟩ := t
      simp only at e0 e1 HW0 HW1
      go_upto_region 7 with (fail)
      clear e0 e1
      refine wp_box1 fun X hszX hbX hX => ?_
      have hx0 : X.cell? ⟨wr.heap.size, 0, none⟩ = some (.int .i64 arm) := hX.2 0
      have hx1 : X.cell? ⟨wr.heap.size, 1, none⟩ = some (.bool win) := hX.2 1
      have HPX := Lib.hid (HP.out.ext hbX)
      have hbx := ext_trans hb hbX
      have HNE : Hid ((∀ q, v0.ownBlock = some q → q ≠ wr.heap.size) ∧ ∀ q, v1.ownBlock = some q → q ≠ wr.heap.size) := ⟨fun q e => by have := (HP.out.own0.lt q e).2; omega, fun q e => by have := (HP.out.own1.lt q e).2; omega⟩
      have HBX := Lib.hid hX
      have hXs : w.heap.size + 1 ≤ X.heap.size := by omega
      have hX1 : w.heap.size < X.heap.size := by omega
      have hX2 : wr.heap.size < X.heap.size := by omega
      clear hX hszX hbX HP hb hws
      by_cases h01 : arm = 0 ∨ arm = 1
      · go_wp2_with fail
        refine (dwithin_yes _ _ _ (by omega) (by omega) _).mono ?_
        rintro e w' ⟨rfl, rfl⟩
        have c0 : X.cell? ⟨w.heap.size, 0, none⟩ = some v0 := HPX.out.box.2 0
        have c1 : X.cell? ⟨w.heap.size, 1, none⟩ = some v1 := HPX.out.box.2 1
        have f0 := HPX.out.fre 0
        have f1 := HPX.out.fre 1
        have HLE := Lib.hid (And.intro (Nat.le_trans (winsOf_le 0 (l.take k)) (List.length_take_le _ _)) (Nat.le_trans (winsOf_le 1 (l.take k)) (List.length_take_le _ _)))
        by_cases h0 : arm = 0
        · subst h0
          clear h01
          have HN : Hid (winsOf 0 (l.take (k + 1)) = winsOf 0 (l.take k) ++ [win] ∧ winsOf 1 (l.take (k + 1)) = winsOf 1 (l.take k)) := by
            have h1 := HW0.out
            have h2 := HW1.out
            simp at h1 h2
            exact ⟨h1, h2⟩
          have HOK2 : Hid ((l.take (k + 1)).all okT = true) := by
            have h1 := HA2.out
            rw [HOK.out] at h1
            have : (l.take (k + 1)).all okT = true := by rw [h1]; simp [okT]
            exact this
          clear HW0 HW1 HA2 HALL HOK HFL
          go_wp2
          go_region_law (refine step_append_at rfl (.tmp 30) (.tmp 33) 44 rfl (w.heap.size + 1) 4 Tryz.underlying44 HI.out rfl (by decide) (by simp [Act.eval]) (ownsRow_ext HPX.out.own0 (by go_grown)) (by simp [Act.eval]) (Sl.drew (Sl.new _ #[.bool win] _ 1 1 (by omega) (by decide))) rfl (by intro u hu; simp at hu; subst hu; rfl) (by have := HLE.out; unfold maxLen; omega) (by have := HLE.out; omega) (by simp; omega) ?_; intro v7 w7 hown7 hg7 hat7; obtain ⟨g7, k7, rfl⟩ := own_shape hown7 (by omega); have HP7 := Lib.hid ((HPX.out.ext (by go_grown)).at (.inl rfl) hg7); have r0 := HP7.out.1 0; have r1 := HP7.out.2 0; have HB7 := Lib.hid (box_grown hg7 (HBX.out.ext (by go_grown)) HNE.out.1); have r2 := HB7.out.2 0; have r3 := HB7.out.2 1; have HQ := Lib.hid ((HPX.out.ext (by go_grown)).push0 hown7 hg7 hat7); have HST := Lib.hid (PW.step hbx HPX.out (by go_grown) (.inl rfl) hg7 0 (.slice (some ⟨g7, 0, none⟩) ((winsOf 0 (l.take k)).length + 1) k7)); clear hown7 hg7 hat7)
          all_goals (go_wp2; exact ⟨⟨k + 1, _, _, by omega, by go_num, Lib.hid (by rw [HN.out.1, HN.out.2]; exact HQ.out), HOK2, HST.out.1, Nat.le_trans hXs HST.out.2⟩, by simp [intOf]; omega⟩)
        · obtain rfl : arm = 1 := by omega
          clear h01 h0
          have HN : Hid (winsOf 0 (l.take (k + 1)) = winsOf 0 (l.take k) ∧ winsOf 1 (l.take (k + 1)) = winsOf 1 (l.take k) ++ [win]) := by
            have h1 := HW0.out
            have h2 := HW1.out
            simp at h1 h2
            exact ⟨h1, h2⟩
          have HOK2 : Hid ((l.take (k + 1)).all okT = true) := by
            have h1 := HA2.out
            rw [HOK.out] at h1
            have : (l.take (k + 1)).all okT = true := by rw [h1]; simp [okT]
            exact this
          clear HW0 HW1 HA2 HALL HOK HFL
          go_wp2
          go_region_law (refine step_append_at rfl (.tmp 30) (.tmp 33) 44 rfl (w.heap.size + 1) 4 Tryz.underlying44 HI.out rfl (by decide) (by simp [Act.eval]) (ownsRow_ext HPX.out.own1 (by go_grown)) (by simp [Act.eval]) (Sl.drew (Sl.new _ #[.bool win] _ 1 1 (by omega) (by decide))) rfl (by intro u hu; simp at hu; subst hu; rfl) (by have := HLE.out; unfold maxLen; omega) (by have := HLE.out; omega) (by simp; omega) ?_; intro v7 w7 hown7 hg7 hat7; obtain ⟨g7, k7, rfl⟩ := own_shape hown7 (by omega); have HP7 := Lib.hid ((HPX.out.ext (by go_grown)).at (.inr rfl) hg7); have r0 := HP7.out.1 1; have r1 := HP7.out.2 1; have HB7 := Lib.hid (box_grown hg7 (HBX.out.ext (by go_grown)) HNE.out.2); have r2 := HB7.out.2 0; have r3 := HB7.out.2 1; have HQ := Lib.hid ((HPX.out.ext (by go_grown)).push1 hown7 hg7 hat7); have HST := Lib.hid (PW.step hbx HPX.out (by go_grown) (.inr rfl) hg7 1 (.slice (some ⟨g7, 0, none⟩) ((winsOf 1 (l.take k)).length + 1) k7)); clear hown7 hg7 hat7)
          all_goals (go_wp2; exact ⟨⟨k + 1, _, _, by omega, by go_num, Lib.hid (by rw [HN.out.1, HN.out.2]; exact HQ.out), HOK2, HST.out.1, Nat.le_trans hXs HST.out.2⟩, by simp [intOf]; omega⟩)
      · go_wp2_with fail
        refine (dwithin_no _ _ _ (by omega) _).mono ?_
        rintro e w' ⟨rfl, rfl⟩
        have HF1 : Hid (pairF l = 1 ∧ pairL l = []) := by
          have hk : okT ⟨arm, win⟩ = false := by simp [okT]; omega
          have h1 := HFL.out
          rw [if_pos (HALL.out hk)] at h1
          exact ⟨h1, by simp [pairL, h1]⟩
        go_wp2
        go_ret2
        refine ⟨none, 0, ?_, ?_, hbx⟩
        · rw [HF1.out.1, HF1.out.2]; rfl
        · rw [HF1.out.2]; exact Sl.nil _
    · have hkl : k = l.length := by omega
      have HT := Lib.hid (show l.take k = l from List.take_of_length_le (by omega))
      have HPW2 : Hid (PW wr w.heap.size (w.heap.size + 1) v0 v1 (winsOf 0 l) (winsOf 1 l)) := by have := HP.out; rw [HT.out] at this; exact this
      have HALL : Hid (l.all okT = true) := by have := HOK.out; rw [HT.out] at this; exact this
      have HF2 : Hid (pairF l = if 60 < (pairZ l).length then 2 else 0) := by
        have : pairF l = if 60 < (pairZ l).length then 2 else 0 := by have := HFL.out; rw [HALL.out] at this; simpa using this
        exact this
      clear HP HOK HFL HT hkl
      obtain ⟨p0, q0, rfl⟩ := own_any HPW2.out.own0
      obtain ⟨p1, q1, rfl⟩ := own_any HPW2.out.own1
      have c0 : wr.cell? ⟨w.heap.size, 0, none⟩ = some (.slice p0 (winsOf 0 l).length q0) := HPW2.out.box.2 0
      have c1 : wr.cell? ⟨w.heap.size, 1, none⟩ = some (.slice p1 (winsOf 1 l).length q1) := HPW2.out.box.2 1
      have HS0 := Lib.hid (Sl.ofOwn HPW2.out.own0)
      have HS1 := Lib.hid (Sl.ofOwn HPW2.out.own1)
      have HB := Lib.hid HPW2.out.box
      have hl0 := winsOf_le 0 l
      have hl1 := winsOf_le 1 l
      have HZ : Hid (pairZ l = List.zipWith pairI (winsOf 0 l) (winsOf 1 l)) := rfl
      clear HPW2
      generalize winsOf 0 l = L0 at *
      generalize winsOf 1 l = L1 at *
      have HZL : Hid ((pairZ l).length = min L0.length L1.length) := by
        have : (pairZ l).length = min L0.length L1.length := by rw [HZ.out, List.length_zipWith]
        exact this
      have HI2 := Lib.hid int_info
      clear HI
      by_cases hord : L1.length < L0.length
      · have ho1 : (L1.length : Int) < (L0.length : Int) := by omega
        by_cases h60 : 60 < L1.length
        · have HF3 : Hid (pairF l = 2 ∧ pairL l = []) := by
            have h1 := HF2.out
            rw [if_pos (by rw [HZL.out]; omega)] at h1
            exact ⟨h1, by simp [pairL, h1]⟩
          go_wp2
          go_ret2
          refine ⟨none, 0, ?_, ?_, hb⟩
          · rw [HF3.out.1, HF3.out.2]; rfl
          · rw [HF3.out.2]; exact Sl.nil _
        · have HF3 : Hid (pairF l = 0 ∧ pairL l = List.zipWith pairI L0 L1) := by
            have h1 := HF2.out
            rw [if_neg (by rw [HZL.out]; omega)] at h1
            exact ⟨h1, by unfold pairL; rw [if_pos h1]; exact HZ.out⟩
          have HLZ : Hid ((List.zipWith pairI L0 L1).length = L1.length) := by
            have : (List.zipWith pairI L0 L1).length = L1.length := by rw [List.length_zipWith]; omega
            exact this
          clear HF2 HZL HZ
          go_wp2
          obtain ⟨w5, rfl⟩ : ∃ w5 : World, w5 = wr := ⟨_, rfl⟩
          go_loopw [8, 9, 10, 11, 47] (fun v _ _ _ i wr => ∃ k : Nat, k ≤ L1.length ∧ i = .int .i64 k ∧ wr.ownsRow w5.heap.size 3 1 v k (icells ((List.zipWith pairI L0 L1).take k)) ∧ Below w5.heap.size w5 wr) (fun _ _ _ _ i _ => L1.length - (intOf i).toNat)
          case atStart => exact ⟨0, by omega, rfl, World.ownsRow_nil _ _ _ _, Below.refl _ _⟩
          case round =>
            obtain ⟨k, hk, rfl, hown, hbk⟩ := hrel
            by_cases hlt : k < L1.length
            · have hk0 : k < L0.length := by omega
              have hk1 : k < L1.length := by omega
              have HSN := Lib.hid (zip_snoc hk0 hk1)
              obtain ⟨b0, o0, rfl, z0⟩ := sl_bool (HS0.out.ext hbk) hk0
              obtain ⟨b1, o1, rfl, z1⟩ := sl_bool (HS1.out.ext hbk) hk1
              have HBK := Lib.hid (HB.out.ext hbk)
              have d0 : wr.cell? ⟨w.heap.size, 0, none⟩ = some (.slice (some ⟨b0, o0, none⟩) L0.length q0) := HBK.out.2 0
              have d1 : wr.cell? ⟨w.heap.size, 1, none⟩ = some (.slice (some ⟨b1, o1, none⟩) L1.length q1) := HBK.out.2 1
              have HOB : Hid (∀ q, u8.ownBlock = some q → w5.heap.size ≤ q) := fun q hq => (hown.lt q hq).1
              have hi0 : (0 : Int) ≤ (k : Int) := Int.natCast_nonneg _
              have hi1 : (k : Int) < (L0.length : Int) := by omega
              have hi2 : (k : Int) < (L1.length : Int) := by omega
              generalize L0[k] = x0 at z0 HSN
              generalize L1[k] = x1 at z1 HSN
              go_wp2_with fail
              go_quiet (fail)
              have hszk := hbk.size
              clear z0 z1 d0 d1 c0 c1
              cases x0 <;> cases x1
              all_goals
                go_wp2_with (at_builtin; refine wpList_append_sl rfl _ _ 35 rfl w5.heap.size 3 Tryz.underlying35 HI2.out rfl (by decide) rfl (ownsRow_ext (ownsRow_ext hown (below_drewN (Below.refl _ _) nq)) (ext_alloc _ _)) rfl (Sl.new _ _ _ 1 1 (by omega) (by decide)) rfl (by intro u hu; simp at hu; subst hu; rfl) (by unfold maxLen; omega) (by omega) (by simp; omega) ?_; intro v7 w7 hown7 hg7 _; have hb8 := Lib.hid ((ext_trans (ext_trans hbk (below_drewN (Below.refl _ _) nq)) (ext_alloc _ _)).grown hg7 (by simp; omega) (fun q hq => HOB.out q hq)); have hown8 := Lib.hid hown7; clear hown7 hg7)
                exact ⟨⟨k + 1, by omega, by go_num, by rw [HSN.out]; simpa [icells, pairI] using hown8.out, hb8.out⟩, by simp [intOf]; omega⟩
            · have hkm : k = L1.length := by omega
              subst hkm
              have HOW : Hid (wr.ownsRow w5.heap.size 3 1 u8 L1.length (icells (List.zipWith pairI L0 L1))) := by
                have := hown
                rw [List.take_of_length_le (by rw [HLZ.out]; exact Nat.le_refl _)] at this
                exact this
              obtain ⟨a9, c9, rfl⟩ := own_any hown
              clear hown
              go_wp2
              go_ret2
              refine ⟨a9, c9, ?_, ?_, ext_trans hb hbk⟩
              · rw [HF3.out.1, HF3.out.2, HLZ.out]; rfl
              · rw [HF3.out.2, HLZ.out]; exact Sl.ofOwn HOW.out
      · have ho1 : (L0.length : Int) ≤ (L1.length : Int) := by omega
        by_cases h60 : 60 < L0.length
        · have HF3 : Hid (pairF l = 2 ∧ pairL l = []) := by
            have h1 := HF2.out
            rw [if_pos (by rw [HZL.out]; omega)] at h1
            exact ⟨h1, by simp [pairL, h1]⟩
          go_wp2
          go_ret2
          refine ⟨none, 0, ?_, ?_, hb⟩
          · rw [HF3.out.1, HF3.out.2]; rfl
          · rw [HF3.out.2]; exact Sl.nil _
        · have HF3 : Hid (pairF l = 0 ∧ pairL l = List.zipWith pairI L0 L1) := by
            have h1 := HF2.out
            rw [if_neg (by rw [HZL.out]; omega)] at h1
            exact ⟨h1, by unfold pairL; rw [if_pos h1]; exact HZ.out⟩
          have HLZ : Hid ((List.zipWith pairI L0 L1).length = L0.length) := by
            have : (List.zipWith pairI L0 L1).length = L0.length := by rw [List.length_zipWith]; omega
            exact this
          clear HF2 HZL HZ
          go_wp2
          obtain ⟨w5, rfl⟩ : ∃ w5 : World, w5 = wr := ⟨_, rfl⟩
          go_loopw [8, 9, 10, 11, 47] (fun v _ _ _ i wr => ∃ k : Nat, k ≤ L0.length ∧ i = .int .i64 k ∧ wr.ownsRow w5.heap.size 3 1 v k (icells ((List.zipWith pairI L0 L1).take k)) ∧ Below w5.heap.size w5 wr) (fun _ _ _ _ i _ => L0.length - (intOf i).toNat)
          case atStart => exact ⟨0, by omega, rfl, World.ownsRow_nil _ _ _ _, Below.refl _ _⟩
          case round =>
            obtain ⟨k, hk, rfl, hown, hbk⟩ := hrel
            by_cases hlt : k < L0.length
            · have hk0 : k < L0.length := by omega
              have hk1 : k < L1.length := by omega
              have HSN := Lib.hid (zip_snoc hk0 hk1)
              obtain ⟨b0, o0, rfl, z0⟩ := sl_bool (HS0.out.ext hbk) hk0
              obtain ⟨b1, o1, rfl, z1⟩ := sl_bool (HS1.out.ext hbk) hk1
              have HBK := Lib.hid (HB.out.ext hbk)
              have d0 : wr.cell? ⟨w.heap.size, 0, none⟩ = some (.slice (some ⟨b0, o0, none⟩) L0.length q0) := HBK.out.2 0
              have d1 : wr.cell? ⟨w.heap.size, 1, none⟩ = some (.slice (some ⟨b1, o1, none⟩) L1.length q1) := HBK.out.2 1
              have HOB : Hid (∀ q, u8.ownBlock = some q → w5.heap.size ≤ q) := fun q hq => (hown.lt q hq).1
              have hi0 : (0 : Int) ≤ (k : Int) := Int.natCast_nonneg _
              have hi1 : (k : Int) < (L0.length : Int) := by omega
              have hi2 : (k : Int) < (L1.length : Int) := by omega
              generalize L0[k] = x0 at z0 HSN
              generalize L1[k] = x1 at z1 HSN
              go_wp2_with fail
              go_quiet (fail)
              have hszk := hbk.size
              clear z0 z1 d0 d1 c0 c1
              cases x0 <;> cases x1
              all_goals
                go_wp2_with (at_builtin; refine wpList_append_sl rfl _ _ 35 rfl w5.heap.size 3 Tryz.underlying35 HI2.out rfl (by decide) rfl (ownsRow_ext (ownsRow_ext hown (below_drewN (Below.refl _ _) nq)) (ext_alloc _ _)) rfl (Sl.new _ _ _ 1 1 (by omega) (by decide)) rfl (by intro u hu; simp at hu; subst hu; rfl) (by unfold maxLen; omega) (by omega) (by simp; omega) ?_; intro v7 w7 hown7 hg7 _; have hb8 := Lib.hid ((ext_trans (ext_trans hbk (below_drewN (Below.refl _ _) nq)) (ext_alloc _ _)).grown hg7 (by simp; omega) (fun q hq => HOB.out q hq)); have hown8 := Lib.hid hown7; clear hown7 hg7)
                exact ⟨⟨k + 1, by omega, by go_num, by rw [HSN.out]; simpa [icells, pairI] using hown8.out, hb8.out⟩, by simp [intOf]; omega⟩
            · have hkm : k = L0.length := by omega
              subst hkm
              have HOW : Hid (wr.ownsRow w5.heap.size 3 1 u8 L0.length (icells (List.zipWith pairI L0 L1))) := by
                have := hown
                rw [List.take_of_length_le (by rw [HLZ.out]; exact Nat.le_refl _)] at this
                exact this
              obtain ⟨a9, c9, rfl⟩ := own_any hown
              clear hown
              go_wp2
              go_ret2
              refine ⟨a9, c9, ?_, ?_, ext_trans hb hbk⟩
              · rw [HF3.out.1, HF3.out.2, HLZ.out]; rfl
              · rw [HF3.out.2, HLZ.out]; exact Sl.ofOwn HOW.out
end Go.Proofs.YtemenlcigengeaaGreatDoor
namespace Go.Proofs.YtemenlcigengeaaGreatDoor
open Go.RowKit
namespace Nm
def testF (d k : Int) (n m : ByteArray) : Int := if ¬ (1 ≤ d ∧ d ≤ 3) then 4 else if ¬ (1 ≤ k ∧ k ≤ 5) then 1 else missF n m
end Nm
end Go.Proofs.YtemenlcigengeaaGreatDoor
