/- Trials of the reference. Printed by gen_trl.py. decided and readTest of package decide. readTest of package decide. -/
import Derived.Test.YtemenlcigengeaaGreatDoorTq13
import Derived.Test.YtemenlcigengeaaGreatDoorTq14
import Derived.Test.YtemenlcigengeaaGreatDoorTq21
import Derived.Test.YtemenlcigengeaaGreatDoorProg
import Derived.Test.YtemenlcigengeaaGreatDoorTq00
import Derived.Test.YtemenlcigengeaaGreatDoorTq03
import Derived.Test.YtemenlcigengeaaGreatDoorTq05
import Derived.Test.YtemenlcigengeaaGreatDoorTq02
import Derived.Test.YtemenlcigengeaaGreatDoorTq01
import Derived.Test.YtemenlcigengeaaGreatDoorTq16
import Derived.Test.YtemenlcigengeaaGreatDoorTq06
import Derived.Test.YtemenlcigengeaaGreatDoorTq07
import Derived.Test.YtemenlcigengeaaGreatDoorTq08
import Derived.Test.YtemenlcigengeaaGreatDoorTq17
import Derived.Test.YtemenlcigengeaaGreatDoorTq18
import Derived.Test.YtemenlcigengeaaGreatDoorTq19
import Derived.Test.YtemenlcigengeaaGreatDoorTq20
namespace Go.Proofs.YtemenlcigengeaaGreatDoor
open Go.RowKit
namespace Tr
set_option maxRecDepth 100000 in
set_option maxHeartbeats 16000000 in
theorem refTrials_at (l : List Sbj) (z o : Int) (a : Option Addr) (c : Nat) (w : World) (hs : Sl w (.slice a l.length c) l.length (l.flatMap sbL)) :
    Calls Tryz.prog 7 #[.slice a l.length c, .int .i64 z, .int .i64 o] w (TrPost l z o w) := by
  have HS := Lib.hid hs
  clear hs
  go_enter Tryz.func7, Tryz.ntmps7
  by_cases hl : 20000 < l.length
  · have hF : Hid (trlF l.length z o = 2) := Lib.hid (by exact if_pos hl)
    go_wp2
    go_ret2
    exact trl_bad hF.out (by decide) (Below.refl _ _)
  have hl2 : l.length ≤ 20000 := by omega
  by_cases hz1 : z < 0
  · have hF : Hid (trlF l.length z o = 1) := Lib.hid (by unfold trlF; rw [if_neg hl, if_pos (by omega)])
    go_wp2
    go_ret2
    exact trl_bad hF.out (by decide) (Below.refl _ _)
  have hz1' : ¬ z < 0 := hz1
  by_cases hz2 : 20 ≤ z
  · have hF : Hid (trlF l.length z o = 1) := Lib.hid (by unfold trlF; rw [if_neg hl, if_pos (by omega)])
    go_wp2
    go_ret2
    exact trl_bad hF.out (by decide) (Below.refl _ _)
  by_cases ho1 : o < 0
  · have hF : Hid (trlF l.length z o = 1) := Lib.hid (by unfold trlF; rw [if_neg hl, if_pos (by omega)])
    go_wp2
    go_ret2
    exact trl_bad hF.out (by decide) (Below.refl _ _)
  by_cases ho2 : 20 ≤ o
  · have hF : Hid (trlF l.length z o = 1) := Lib.hid (by unfold trlF; rw [if_neg hl, if_pos (by omega)])
    go_wp2
    go_ret2
    exact trl_bad hF.out (by decide) (Below.refl _ _)
  by_cases hzo : z = o
  · have hF : Hid (trlF l.length z o = 13) := Lib.hid (by unfold trlF; rw [if_neg hl, if_neg (by omega), if_pos hzo])
    subst hzo
    go_wp2
    go_ret2
    exact trl_bad hF.out (by decide) (Below.refl _ _)
  have hF : Hid (trlF l.length z o = 0) := Lib.hid (by unfold trlF; rw [if_neg hl, if_neg (by omega), if_neg hzo])
  have HOA := Lib.hid (inOrder_at (l.length + 1) l a c w (Nat.lt_succ_self _) (by omega) HS.out)
  go_wp2_with fail
  refine HOA.out.mono ?_
  rintro e w4 ⟨R, g3, k3, rfl, hs4, hRl, hst, hb4⟩
  have HSR := Lib.hid hs4
  have HST : Hid (Stable (l.filter (keepB z o)) (R.filter (keepB z o))) := Lib.hid (hst.filter _)
  have HB5 := Lib.hid hb4
  have hR2 : R.length ≤ 20000 := by omega
  clear hs4 hst hb4 hRl HOA hl hl2 hz1 hz1' hz2 ho1 ho2
  have HT0 : Hid (([] : List Tri) = ((R.take 0).filter (keepB z o)).map (trial o)) := Lib.hid rfl
  go_wp2_with fail
  go_loopw [8, 38] (fun v8 i wr => ∃ (k : Nat) (L : List Tri), k ≤ R.length ∧ i = .int .i64 (k : Int) ∧ Hid (L = ((R.take k).filter (keepB z o)).map (trial o)) ∧ L.length ≤ k ∧ wr.ownsRow w4.heap.size 34 2 v8 L.length (L.flatMap triL) ∧ Below w4.heap.size w4 wr) (fun _ i _ => R.length - (intOf i).toNat)
  case atStart => exact ⟨0, [], by omega, rfl, HT0, Nat.le_refl _, World.ownsRow_nil _ _ _ _, Below.refl _ _⟩
  case round =>
    obtain ⟨k, L, hk, rfl, HL, hLk, hown, hbr⟩ := hrel
    clear HT0
    by_cases hlt : k < R.length
    · have hgk := List.getElem?_eq_getElem hlt
      have HTK := Lib.hid (show (R.take (k + 1)) = R.take k ++ [R[k]] from List.take_succ_eq_append_getElem hlt)
      generalize R[k] = s at hgk HTK
      obtain ⟨b, oo, rfl, e0, e1, e2, e3, e4, e5, e6, e7⟩ := sb_cells (HSR.out.ext hbr) hgk
      have hk0 : (0 : Int) ≤ (k : Int) := Int.natCast_nonneg _
      have hk1 : (k : Int) < (R.length : Int) := by omega
      clear hgk
      go_upto_region 11 with (fail)
      clear e0 e1 e2 e3 e4 e5 e6 e7
      refine wp_box1 fun X hszX hbX hX => ?_
      obtain ⟨g0, g1, g2, g3, g4, g5, g6, g7⟩ := box_sb hX
      have hown1 := ownsRow_ext hown hbX
      have HLT := Lib.hid (fun q9 h9 => Nat.lt_of_lt_of_le (hown.lt q9 h9).2 hbX.size)
      have hb1 := hbr.trans (hbX.mono hbr.size)
      clear hown hX hszX
      have hcase : s.closed = false ∨ (s.closed = true ∧ s.arm ≠ z ∧ s.arm ≠ o) ∨ (s.closed = true ∧ s.arm = o) ∨ (s.closed = true ∧ s.arm = z ∧ s.arm ≠ o) := by
        cases s.closed
        · exact .inl rfl
        · by_cases h1 : s.arm = o
          · exact .inr (.inr (.inl ⟨rfl, h1⟩))
          · by_cases h2 : s.arm = z
            · exact .inr (.inr (.inr ⟨rfl, h2, h1⟩))
            · exact .inr (.inl ⟨rfl, h2, h1⟩)
      rcases hcase with hcl | ⟨hcl, hz9, ho9⟩ | ⟨hcl, harm⟩ | ⟨hcl, hz9, harm⟩
      · have HKF : Hid (keepB z o s = false) := Lib.hid (by unfold keepB; rw [hcl]; rfl)
        rw [hcl] at g7
        clear hcl
        have HL2 : Hid (L = ((R.take (k + 1)).filter (keepB z o)).map (trial o)) := Lib.hid (by rw [HTK.out, HL.out, List.filter_append, List.filter_cons_of_neg (by rw [HKF.out]; simp)]; simp)
        clear g0 g1 g3 g4 g5 g6
        have hb9 := hb1
        clear hb1 hbX hbr
        go_wp2
        go_roundw
        case rel => exact ⟨k + 1, L, by omega, by go_num, HL2, by omega, hown1, hb9⟩
        case measure => simp [intOf]; omega
      · have HKF : Hid (keepB z o s = false) := Lib.hid (by unfold keepB; rw [decide_eq_false hz9, decide_eq_false ho9]; simp)
        rw [hcl] at g7
        have b1 : (s.arm != z) = true := by simpa using hz9
        have b2 : (s.arm != o) = true := by simpa using ho9
        clear hcl
        have HL2 : Hid (L = ((R.take (k + 1)).filter (keepB z o)).map (trial o)) := Lib.hid (by rw [HTK.out, HL.out, List.filter_append, List.filter_cons_of_neg (by rw [HKF.out]; simp)]; simp)
        clear g0 g1 g3 g4 g5 g6
        have hb9 := hb1
        clear hb1 hbX hbr
        go_wp2
        go_roundw
        case rel => exact ⟨k + 1, L, by omega, by go_num, HL2, by omega, hown1, hb9⟩
        case measure => simp [intOf]; omega
      · have HKB : Hid (keepB z o s = true) := Lib.hid (by unfold keepB; rw [hcl, decide_eq_true harm]; simp)
        have hz9 : s.arm ≠ z := by omega
        rw [hcl] at g7
        have b1 : (s.arm != z) = true := by simpa using hz9
        have b2 : (s.arm != o) = false := by simpa using harm
        clear hcl
        obtain ⟨wb, hwb⟩ : ∃ x, decide (0 < s.count) = x := ⟨_, rfl⟩
        have HWB := Lib.hid hwb
        go_upto_region 13 with (fail)
        refine wp_box1r fun Y hszY hbY hY hFY => ?_
        have hown2 := ownsRow_ext hown1 hbY
        have hb2 := hb1.trans (hbY.mono hb1.size)
        replace g2 : Y.cell? ⟨_, 2, none⟩ = some (.int .i64 s.arm) := cell_later' hbY g2
        have h0 : Y.cell? ⟨X.heap.size, 0, none⟩ = some (.int .i64 0) := hY.2 0
        have h1 : Y.cell? ⟨X.heap.size, 1, none⟩ = some (.bool wb) := by have h9 := hY.2 1; simpa [hwb] using h9
        have hz0 := hFY 0
        clear hbX hbr hown1 g0 g1 g3 g4 g5 g6 g7 hszY hbY hY hFY hwb
        have HTR : Hid (trial o s = ⟨1, wb⟩) := Lib.hid (by unfold trial; rw [if_pos harm, HWB.out])
        go_upto_region 15 with (fail)
        have hown3 := own_skip hown2 (p := ⟨X.heap.size, 0, none⟩) (fun q9 h9 => by have := HLT.out q9 h9; show q9 ≠ X.heap.size; omega) (.int .i64 1)
        have hb3 := (Below.refl Y.heap.size Y)
        have hbZ : Below w4.heap.size w4 (Y.setCell ⟨X.heap.size, 0, none⟩ (.int .i64 1)) := hb2.setCell (p := ⟨X.heap.size, 0, none⟩) hb1.size _
        have j0 : (Y.setCell ⟨X.heap.size, 0, none⟩ (.int .i64 1)).cell? ⟨X.heap.size, 0, none⟩ = some (.int .i64 1) := World.cell?_setCell_same _ _ _ h0
        have j1 : (Y.setCell ⟨X.heap.size, 0, none⟩ (.int .i64 1)).cell? ⟨X.heap.size, 1, none⟩ = some (.bool wb) := (World.cell?_setCell_other _ _ _ _ (by simp)).trans h1
        clear h0 h1 hz0 hown2 hb3 hb2
        generalize Y.setCell ⟨X.heap.size, 0, none⟩ (.int .i64 1) = Z at *
        have hZs := hbZ.size
        skip
        go_wp2_with (at_builtin; refine wpList_append_sl rfl _ _ 27 rfl w4.heap.size 34 Tryz.underlying27 tri_info rfl (by decide) rfl (ownsRow_ext hown3 (ext_alloc _ _)) rfl (Sl.new Z _ _ 1 1 (by omega) (by decide)) rfl (by intro u hu; simp at hu; rcases hu with rfl | rfl <;> rfl) (by unfold maxLen; omega) (by omega) (by simp; omega) ?_; intro v7 w7 hown7 hg7 _)
        have hL : L.flatMap triL ++ [Value.int .i64 1, .bool wb] = (L ++ [trial o s]).flatMap triL := by rw [List.flatMap_append, HTR.out]; simp [triL]
        have hown8 : w7.ownsRow w4.heap.size 34 2 v7 (L ++ [trial o s]).length ((L ++ [trial o s]).flatMap triL) := by rw [← hL, List.length_append]; exact hown7
        have hb8 : Below w4.heap.size w4 w7 := Rw.below_own (hbZ.trans ((ext_alloc Z _).mono hZs)) (ownsRow_ext hown3 (ext_alloc _ _)) hg7 (by simp; omega)
        have HL2 : Hid (L ++ [trial o s] = ((R.take (k + 1)).filter (keepB z o)).map (trial o)) := Lib.hid (by rw [HTK.out, HL.out]; simp [HKB.out])
        have HLE : Hid ((L ++ [trial o s]).length ≤ k + 1) := Lib.hid (by rw [List.length_append]; simp; omega)
        clear hown7 hg7 hown3 hbZ hL j0 j1
        go_wp2
        go_roundw
        case rel => exact ⟨k + 1, L ++ [trial o s], by omega, by go_num, HL2, HLE.out, hown8, hb8⟩
        case measure => simp [intOf]; omega
      · have HKB : Hid (keepB z o s = true) := Lib.hid (by unfold keepB; rw [hcl, decide_eq_true hz9]; simp)
        rw [hcl] at g7
        have b1 : (s.arm != z) = false := by simpa using hz9
        have b2 : (s.arm != o) = true := by simpa using harm
        clear hcl
        obtain ⟨wb, hwb⟩ : ∃ x, decide (0 < s.count) = x := ⟨_, rfl⟩
        have HWB := Lib.hid hwb
        go_upto_region 13 with (fail)
        refine wp_box1r fun Y hszY hbY hY hFY => ?_
        have hown2 := ownsRow_ext hown1 hbY
        have hb2 := hb1.trans (hbY.mono hb1.size)
        replace g2 : Y.cell? ⟨_, 2, none⟩ = some (.int .i64 s.arm) := cell_later' hbY g2
        have h0 : Y.cell? ⟨X.heap.size, 0, none⟩ = some (.int .i64 0) := hY.2 0
        have h1 : Y.cell? ⟨X.heap.size, 1, none⟩ = some (.bool wb) := by have h9 := hY.2 1; simpa [hwb] using h9
        have hz0 := hFY 0
        clear hbX hbr hown1 g0 g1 g3 g4 g5 g6 g7 hszY hbY hY hFY hwb
        have HTR : Hid (trial o s = ⟨0, wb⟩) := Lib.hid (by unfold trial; rw [if_neg harm, HWB.out])
        have hown3 := hown2
        have hbZ := hb2
        have j0 := h0
        have j1 := h1
        clear h0 h1 hz0 hown2 hb2
        generalize Y = Z at *
        have hZs := hbZ.size
        skip
        go_wp2_with (at_builtin; refine wpList_append_sl rfl _ _ 27 rfl w4.heap.size 34 Tryz.underlying27 tri_info rfl (by decide) rfl (ownsRow_ext hown3 (ext_alloc _ _)) rfl (Sl.new Z _ _ 1 1 (by omega) (by decide)) rfl (by intro u hu; simp at hu; rcases hu with rfl | rfl <;> rfl) (by unfold maxLen; omega) (by omega) (by simp; omega) ?_; intro v7 w7 hown7 hg7 _)
        have hL : L.flatMap triL ++ [Value.int .i64 0, .bool wb] = (L ++ [trial o s]).flatMap triL := by rw [List.flatMap_append, HTR.out]; simp [triL]
        have hown8 : w7.ownsRow w4.heap.size 34 2 v7 (L ++ [trial o s]).length ((L ++ [trial o s]).flatMap triL) := by rw [← hL, List.length_append]; exact hown7
        have hb8 : Below w4.heap.size w4 w7 := Rw.below_own (hbZ.trans ((ext_alloc Z _).mono hZs)) (ownsRow_ext hown3 (ext_alloc _ _)) hg7 (by simp; omega)
        have HL2 : Hid (L ++ [trial o s] = ((R.take (k + 1)).filter (keepB z o)).map (trial o)) := Lib.hid (by rw [HTK.out, HL.out]; simp [HKB.out])
        have HLE : Hid ((L ++ [trial o s]).length ≤ k + 1) := Lib.hid (by rw [List.length_append]; simp; omega)
        clear hown7 hg7 hown3 hbZ hL j0 j1
        go_wp2
        go_roundw
        case rel => exact ⟨k + 1, L ++ [trial o s], by omega, by go_num, HL2, HLE.out, hown8, hb8⟩
        case measure => simp [intOf]; omega
    · obtain rfl : k = R.length := by omega
      obtain ⟨a8, c8, rfl, _⟩ := Sl.ofOwn hown
      have HP : Hid (TrPost l z o w (.returned (.tuple #[.slice a8 L.length c8, .int .i64 0])) wr) := Lib.hid ⟨L, a8, c8, by rw [hF.out], Sl.ofOwn hown, by
        unfold TrR
        rw [hF.out, if_pos rfl]
        exact ⟨_, HST.out, by rw [HL.out, List.take_length]⟩, HB5.out.trans (hbr.mono HB5.out.size)⟩
      clear hown hbr HL
      go_wp2
      go_ret2
      exact HP.out
end Tr
end Go.Proofs.YtemenlcigengeaaGreatDoor
namespace Go.Proofs.YtemenlcigengeaaGreatDoor
open Go.RowKit
theorem S2R.setN {W w1 : World} {B b1 : Nat} {A1 : Array Value} {b2 : Nat} {A2 : Array Value} {p : Addr} {v : Value} (h : S2R W B b1 A1 b2 A2 w1) (hp : B ≤ p.block) (h1 : b1 ≠ p.block) (h2 : b2 ≠ p.block) : S2R W B b1 A1 b2 A2 (w1.setCell p v) :=
  ⟨h.1.setCell hp _, fun j => by rw [World.cell?_setCell_other _ _ _ _ (fun e => h1 (by rw [e]))]; exact h.2.1 j, fun j => by rw [World.cell?_setCell_other _ _ _ _ (fun e => h2 (by rw [e]))]; exact h.2.2 j⟩
namespace Nm
end Nm
end Go.Proofs.YtemenlcigengeaaGreatDoor
namespace Go.Proofs.YtemenlcigengeaaGreatDoor
open Go.RowKit
namespace Nm
theorem zeroB_word : ∀ (j : Nat) (u : Value), (betA 0 0 false none 0 0 none 0 0)[j]? = some u → isWord u = false := by
  intro j u h
  match j with
  | 0 => cases h; rfl
  | 1 => cases h; rfl
  | 2 => cases h; rfl
  | 3 => cases h; rfl
  | 4 => cases h; rfl
  | n + 5 => simp at h
theorem five_other {w : World} {b : Nat} (u0 u1 u2 u3 u4 : Value) : ∀ p : Addr, p.block ≠ b → (((((w.setCell ⟨b, 0, none⟩ u0).setCell ⟨b, 1, none⟩ u1).setCell ⟨b, 2, none⟩ u2).setCell ⟨b, 3, none⟩ u3).setCell ⟨b, 4, none⟩ u4).cell? p = w.cell? p := by
  intro p hp
  have h : ∀ (w : World) (j : Nat) (u : Value), (w.setCell ⟨b, j, none⟩ u).cell? p = w.cell? p := fun w j u => World.cell?_setCell_other _ _ _ _ (fun e => hp (by rw [← e]))
  rw [h, h, h, h, h]
theorem res5 {w0 w : World} {b : Nat} (u0 u1 u2 u3 u4 : Value) (hC : Box w b (betA 0 0 false none 0 0 none 0 0)) (hb : Below w0.heap.size w0 w) (hle : w0.heap.size ≤ b) :
    let w' := (((((w.setCell ⟨b, 0, none⟩ u0).setCell ⟨b, 1, none⟩ u1).setCell ⟨b, 2, none⟩ u2).setCell ⟨b, 3, none⟩ u3).setCell ⟨b, 4, none⟩ u4)
    Below w0.heap.size w0 w' ∧ w'.cell? ⟨b, 0, none⟩ = some u0 ∧ w'.cell? ⟨b, 1, none⟩ = some u1 ∧ w'.cell? ⟨b, 2, none⟩ = some u2 ∧ w'.cell? ⟨b, 3, none⟩ = some u3 ∧ w'.cell? ⟨b, 4, none⟩ = some u4 := by
  have h := five u0 u1 u2 u3 u4 hC
  exact ⟨((((hb.setCell hle _).setCell hle _).setCell hle _).setCell hle _).setCell hle _, h.2 0, h.2 1, h.2 2, h.2 3, h.2 4⟩
theorem XR.keep5 {w : World} {b : Nat} {v : Value} {q : Rat} (u0 u1 u2 u3 u4 : Value) (h : XR w v q) (hC : Box w b (betA 0 0 false none 0 0 none 0 0)) : XR (((((w.setCell ⟨b, 0, none⟩ u0).setCell ⟨b, 1, none⟩ u1).setCell ⟨b, 2, none⟩ u2).setCell ⟨b, 3, none⟩ u3).setCell ⟨b, 4, none⟩ u4) v q := by
  obtain ⟨v1, v2, h0, h1, h2⟩ := h
  exact ⟨v1, v2, h0, h1.keepBox hC zeroB_word (five_other _ _ _ _ _), h2.keepBox hC zeroB_word (five_other _ _ _ _ _)⟩
def TestPost (w : World) (d k : Int) (n m : ByteArray) (e : Ending) (w' : World) : Prop := ∃ dd kk b a1 n1 c1 a2 n2 c2, e = .returned (.tuple #[.agg (betA dd kk b a1 n1 c1 a2 n2 c2), .int .i64 (testF d k n m)]) ∧ (testF d k n m = 0 → dd = d ∧ kk = (k.toNat : Int) ∧ Bett w' d k.toNat (rQ n m)⁻¹ b a1 n1 c1 a2 n2 c2) ∧ Below w.heap.size w w'
theorem turned_is (q Q : Rat) (hQ : q⁻¹ = Q) (v : Value) (w : World) (hx : XR w v q) (h0 : q.num ≠ 0) : Calls Tryz.prog 45 #[v] w (XPost w Q) := by subst hQ; exact turned_at q v w hx h0
set_option maxHeartbeats 8000000 in
theorem readTest_at (d k : Int) (n m : ByteArray) (hn : n.size ≤ maxLen) (hm : m.size ≤ maxLen) (w : World) : Calls Tryz.prog 37 #[.agg #[.int .i64 d, .int .i64 k, .string n, .string m]] w (TestPost w d k n m) := by
  go_enter Tryz.func37, Tryz.ntmps37
  go_upto_region 1 with (fail)
  refine wp_box2r fun w0 hsz hbw0 hA0 hC0 hF0 => ?_
  have t0 : w0.cell? ⟨w.heap.size, 0, none⟩ = some (.int .i64 d) := hA0.2 0
  have t1 : w0.cell? ⟨w.heap.size, 1, none⟩ = some (.int .i64 k) := hA0.2 1
  have t2 : w0.cell? ⟨w.heap.size, 2, none⟩ = some (.string n) := hA0.2 2
  have t3 : w0.cell? ⟨w.heap.size, 3, none⟩ = some (.string m) := hA0.2 3
  clear hsz
  by_cases hd : 1 ≤ d ∧ d ≤ 3
  · go_wp2_with fail
    refine (dwithin_yes _ _ _ hd.1 hd.2 _).mono ?_
    rintro e w' ⟨rfl, rfl⟩
    by_cases hk : 1 ≤ k ∧ k ≤ 5
    · go_wp2_with fail
      refine (dwithin_yes _ _ _ hk.1 hk.2 _).mono ?_
      rintro e w' ⟨rfl, rfl⟩
      have HTF : Hid (testF d k n m = missF n m) := by
        have : testF d k n m = missF n m := by unfold testF; rw [if_neg (fun h => h hd), if_neg (fun h => h hk)]
        exact this
      have HDK := Lib.hid (And.intro hd hk)
      clear hd hk
      go_wp2_with fail
      refine (readMiss_at n m hn hm _).mono ?_
      rintro e w1 ⟨b, a1, n1, c1, a2, n2, c2, rfl, hx, hb1⟩
      have HX := Lib.hid hx
      have hA1 := hA0.ext hb1
      have hC1 := hC0.ext hb1
      have hF1 := hF0.ext hC0 hb1
      have hbw1 := ext_trans hbw0 hb1
      clear hx t0 t1 t2 t3 hA0 hC0 hF0 hbw0 hb1
      go_upto_region 6 with (fail)
      refine wp_box1 fun w2 hsz2 hb2 hB2 => ?_
      have HX2 : Hid (missF n m = 0 → XR w2 (.agg #[.bool b, .slice a1 n1 c1, .slice a2 n2 c2]) (rQ n m)) := fun h => (HX.out h).ext hb2
      have hA2 := hA1.ext hb2
      have hC2 := hC1.ext hb2
      have hF2 := hF1.ext hC1 hb2
      have hbw2 := ext_trans hbw1 hb2
      have hlt1 : w.heap.size + 1 < w1.heap.size := hC1.1
      clear HX hA1 hC1 hF1 hbw1 hb2 hsz2
      by_cases hmf : missF n m = 0
      · have hne : (missF n m != 0) = false := by simp [hmf]
        have HMF := Lib.hid hmf
        have HT0 : Hid (testF d k n m = 0) := by have := HTF.out; rw [HMF.out] at this; exact this
        have HXR := Lib.hid (HX2.out hmf)
        have HOK := Lib.hid (missF_ok hmf)
        have HIN := Lib.hid (inv_facts (x := rQ n m) (by have := (missF_ok hmf).2; omega))
        have HSM := Lib.hid (miss_small (missF_ok hmf).1)
        have HN0 : Hid ((rQ n m).num ≠ 0) := by have h := (missF_ok hmf).2; exact (by omega : (rQ n m).num ≠ 0)
        obtain ⟨Q, HQQ⟩ : ∃ Q, Hid ((rQ n m)⁻¹ = Q) := ⟨_, rfl⟩
        clear hmf HX2 HTF
        obtain ⟨kn, hkn⟩ : ∃ kn : Nat, k = (kn : Int) := ⟨k.toNat, by have := HDK.out.2.1; omega⟩
        subst hkn
        have hlow : w.heap.size + 1 ≤ w2.heap.size := Nat.le_of_lt hC2.1
        go_wp2_with fail
        go_region_held3 (S2R w2 (w.heap.size + 1) w.heap.size #[Value.int .i64 d, Value.int .i64 (kn : Int), Value.string n, Value.string m] w1.heap.size #[Value.bool b, Value.slice a1 n1 c1, Value.slice a2 n2 c2]) (first | exact S2R.start hA2 hB2 | exact S2R.ext (by with_reducible assumption) (by with_reducible assumption) hlow hA2 hB2 | exact S2R.setN (S2R.setN (S2R.setN (S2R.setN (S2R.setN (by assumption) (Nat.le_refl _) (by simp) (Nat.ne_of_gt hlt1)) (Nat.le_refl _) (by simp) (Nat.ne_of_gt hlt1)) (Nat.le_refl _) (by simp) (Nat.ne_of_gt hlt1)) (Nat.le_refl _) (by simp) (Nat.ne_of_gt hlt1)) (Nat.le_refl _) (by simp) (Nat.ne_of_gt hlt1) | assumption) (first | (go_at_call 45; refine (turned_is (rQ n m) Q HQQ.out _ _ (HXR.out.ext (Below.refl w2.heap.size w2).drew) HN0.out).mono ?_; rintro e w3 ⟨vq, rfl, hq, hb3⟩; obtain ⟨p1, c5, p2, c6, rfl, _, _⟩ := hq.open_; have hc3 := Lib.hid (ext_trans (Below.refl w2.heap.size w2).drew hb3); have HQ := Lib.hid hq; have hC3 := hC2.ext hc3.out; have hF3 := hF2.ext hC2 hc3.out; have r0 : w3.cell? ⟨w.heap.size + 1, 0, none⟩ = some (.int .i64 0) := hC3.2 0; have r1 : w3.cell? ⟨w.heap.size + 1, 1, none⟩ = some (.int .i64 0) := hC3.2 1; have r2 : w3.cell? ⟨w.heap.size + 1, 2, none⟩ = some (.bool false) := hC3.2 2; have r3 : w3.cell? ⟨w.heap.size + 1, 3, none⟩ = some (.slice none 0 0) := hC3.2 3; have r4 : w3.cell? ⟨w.heap.size + 1, 4, none⟩ = some (.slice none 0 0) := hC3.2 4; have g0 := hF3 0; have g1 := hF3 1; have g2 := hF3 2; have g3 := hF3 3; have g4 := hF3 4; clear hq))
        have HR := Lib.hid (res5 (.int .i64 d) (.int .i64 (kn : Int)) (.bool (decide (Q.num < 0))) (.slice p1 (digs Q.num.natAbs).length c5) (.slice p2 (digs Q.den).length c6) hC3 (ext_trans hbw2 hc3.out) (Nat.le_succ _))
        have HQ5 := Lib.hid (HQ.out.keep5 (.int .i64 d) (.int .i64 (kn : Int)) (.bool (decide (Q.num < 0))) (.slice p1 (digs Q.num.natAbs).length c5) (.slice p2 (digs Q.den).length c6) hC3)
        obtain ⟨hbF, z0, z1, z2, z3, z4⟩ := id HR.out
        clear hC3 hF3 hbF
        go_wp2
        refine bodyPost_ret (v := .tuple #[.agg (betA d (kn : Int) (decide (Q.num < 0)) p1 (digs Q.num.natAbs).length c5 p2 (digs Q.den).length c6), .int .i64 0]) (by simp [results, Tryz.results37, go_sem, z0, z1, z2, z3, z4]) rfl ⟨_, _, _, _, _, _, _, _, _, by rw [HT0.out], (fun _ => ⟨rfl, by rw [Int.toNat_natCast], ?_⟩), HR.out.1⟩
        rw [HQQ.out]
        refine ⟨HDK.out.1.1, HDK.out.1.2, by have := HDK.out.2; omega, by have := HDK.out.2; omega, HQ5.out, ?_, ?_⟩
        · rw [← HQQ.out, HIN.out.1]; exact HSM.out.2
        · rw [← HQQ.out, HIN.out.2.1]; exact HSM.out.1
      · have hne : (missF n m != 0) = true := by simp [hmf]
        have HNE := Lib.hid hmf
        clear hmf HX2
        have HR := Lib.hid (res5 (.int .i64 0) (.int .i64 0) (.bool false) (.slice none 0 0) (.slice none 0 0) hC2 hbw2 (Nat.le_succ _))
        have g0 := hF2 0
        have g1 := hF2 1
        have g2 := hF2 2
        have g3 := hF2 3
        have g4 := hF2 4
        have r0 : w2.cell? ⟨w.heap.size + 1, 0, none⟩ = some (.int .i64 0) := hC2.2 0
        have r1 : w2.cell? ⟨w.heap.size + 1, 1, none⟩ = some (.int .i64 0) := hC2.2 1
        have r2 : w2.cell? ⟨w.heap.size + 1, 2, none⟩ = some (.bool false) := hC2.2 2
        have r3 : w2.cell? ⟨w.heap.size + 1, 3, none⟩ = some (.slice none 0 0) := hC2.2 3
        have r4 : w2.cell? ⟨w.heap.size + 1, 4, none⟩ = some (.slice none 0 0) := hC2.2 4
        obtain ⟨hbF, z0, z1, z2, z3, z4⟩ := id HR.out
        go_wp2
        exact bodyPost_ret (v := .tuple #[.agg (betA 0 0 false none 0 0 none 0 0), .int .i64 (missF n m)]) (by simp [results, Tryz.results37, go_sem, z0, z1, z2, z3, z4]) rfl ⟨_, _, _, _, _, _, _, _, _, by rw [HTF.out], (fun h => by rw [HTF.out] at h; exact absurd h HNE.out), HR.out.1⟩
    · go_wp2_with fail
      refine (dwithin_no _ _ _ (by omega) _).mono ?_
      rintro e w' ⟨rfl, rfl⟩
      have HTF : Hid (testF d k n m = 1) := by
        have : testF d k n m = 1 := by unfold testF; rw [if_neg (fun h => h hd), if_pos hk]
        exact this
      clear hd hk
      have HR := Lib.hid (res5 (.int .i64 0) (.int .i64 0) (.bool false) (.slice none 0 0) (.slice none 0 0) hC0 hbw0 (Nat.le_succ _))
      have g0 := hF0 0
      have g1 := hF0 1
      have g2 := hF0 2
      have g3 := hF0 3
      have g4 := hF0 4
      have r0 : w0.cell? ⟨w.heap.size + 1, 0, none⟩ = some (.int .i64 0) := hC0.2 0
      have r1 : w0.cell? ⟨w.heap.size + 1, 1, none⟩ = some (.int .i64 0) := hC0.2 1
      have r2 : w0.cell? ⟨w.heap.size + 1, 2, none⟩ = some (.bool false) := hC0.2 2
      have r3 : w0.cell? ⟨w.heap.size + 1, 3, none⟩ = some (.slice none 0 0) := hC0.2 3
      have r4 : w0.cell? ⟨w.heap.size + 1, 4, none⟩ = some (.slice none 0 0) := hC0.2 4
      obtain ⟨hbF, z0, z1, z2, z3, z4⟩ := id HR.out
      go_wp2
      exact bodyPost_ret (v := .tuple #[.agg (betA 0 0 false none 0 0 none 0 0), .int .i64 1]) (by simp [results, Tryz.results37, go_sem, z0, z1, z2, z3, z4]) rfl ⟨_, _, _, _, _, _, _, _, _, by rw [HTF.out], (fun h => by rw [HTF.out] at h; cases h), HR.out.1⟩
  · go_wp2_with fail
    refine (dwithin_no _ _ _ (by omega) _).mono ?_
    rintro e w' ⟨rfl, rfl⟩
    have HTF : Hid (testF d k n m = 4) := by
      have : testF d k n m = 4 := by unfold testF; rw [if_pos hd]
      exact this
    clear hd
    have HR := Lib.hid (res5 (.int .i64 0) (.int .i64 0) (.bool false) (.slice none 0 0) (.slice none 0 0) hC0 hbw0 (Nat.le_succ _))
    have g0 := hF0 0
    have g1 := hF0 1
    have g2 := hF0 2
    have g3 := hF0 3
    have g4 := hF0 4
    have r0 : w0.cell? ⟨w.heap.size + 1, 0, none⟩ = some (.int .i64 0) := hC0.2 0
    have r1 : w0.cell? ⟨w.heap.size + 1, 1, none⟩ = some (.int .i64 0) := hC0.2 1
    have r2 : w0.cell? ⟨w.heap.size + 1, 2, none⟩ = some (.bool false) := hC0.2 2
    have r3 : w0.cell? ⟨w.heap.size + 1, 3, none⟩ = some (.slice none 0 0) := hC0.2 3
    have r4 : w0.cell? ⟨w.heap.size + 1, 4, none⟩ = some (.slice none 0 0) := hC0.2 4
    obtain ⟨hbF, z0, z1, z2, z3, z4⟩ := id HR.out
    go_wp2
    exact bodyPost_ret (v := .tuple #[.agg (betA 0 0 false none 0 0 none 0 0), .int .i64 4]) (by simp [results, Tryz.results37, go_sem, z0, z1, z2, z3, z4]) rfl ⟨_, _, _, _, _, _, _, _, _, by rw [HTF.out], (fun h => by rw [HTF.out] at h; cases h), HR.out.1⟩
end Nm
end Go.Proofs.YtemenlcigengeaaGreatDoor
