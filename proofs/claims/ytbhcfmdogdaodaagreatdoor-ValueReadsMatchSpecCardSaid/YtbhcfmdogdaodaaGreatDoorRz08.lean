/- slices.Insert of a field. Printed by gen_vdel.py. merge of package value. Printed by gen_vmrg.py. seen and spare of package value. Printed by gen_vchk.py. -/
import Derived.Test.YtbhcfmdogdaodaaGreatDoorRz05
import Derived.Deep.RegionLaw
import Derived.Sort.WalkB12
import Derived.Lib.SlicesDelete
import Derived.Lib.Walk
import Derived.Maps.AppendAt
import Derived.Test.YtbhcfmdogdaodaaGreatDoorRz06
import Derived.Test.YtbhcfmdogdaodaaGreatDoorRz07
import Derived.Deep.RegionWith
import Derived.Test.YtbhcfmdogdaodaaGreatDoorRz03
import Derived.Test.YtbhcfmdogdaodaaGreatDoorRz01
import Derived.Deep.Cut
import Derived.Deep.DeepCutAuto
namespace Go.Proofs.YtbhcfmdogdaodaaGreatDoor
open Go.RowKit
namespace Fd
open _root_.Go.Proofs.YtbhcfmdogdaodaaGreatDoor.Nt (RH RH.cell RH.box RH.lt RH.new RH.ext RH.fre RH.set RH.other)
set_option maxRecDepth 100000 in
set_option maxHeartbeats 8000000 in
theorem insF_end (w : World) (base : Nat) (v : Value) (n : Nat) (xs : List Value) (hown : w.ownsRow base 54 6 v n xs) (B c : Nat) (L : List Value) (hL : L.length = 6) (tB : TypeId) (hB : RH w B L.toArray tB) (h1 : ∀ u ∈ L, u.oneCell' = true)
    (hn : n ≤ 100000) (hbase : base ≤ w.heap.size) :
    Calls Tryz.prog 67 #[v, .int .i64 (n : Int), .slice (some ⟨B, 0, none⟩) 1 c] w fun e w' => ∃ v', e = .returned v' ∧ w'.ownsRow base 54 6 v' (n + 1) (xs ++ L) ∧ w.grownBy w' v.ownBlock ∧ (v'.ownBlock = v.ownBlock ∨ v'.ownBlock = some w.heap.size) := by
  obtain ⟨J, hJ⟩ : ∃ i, Tryz.prog.info? 54 = some i := by
    cases hq : Tryz.prog.info? 54 with
    | none => have := fI; rw [hq] at this; cases this
    | some i => exact ⟨i, rfl⟩
  have hci := fI
  rw [hJ] at hci
  simp only [Option.map_some, Option.some.injEq, Prod.mk.injEq] at hci
  obtain ⟨hz1, hz2, hz3⟩ := hci
  have hsz : (Tryz.prog.info? 54).map (·.size) = some 6 := by rw [hJ]; simp [hz2]
  have hcB : ∀ (j : Nat) (u : Value), L[j]? = some u → w.cell? ((⟨B, 0, none⟩ : Addr).add j) = some u := fun j u hu => by
    rw [add_spot, Nat.zero_add, hB.cell]; exact (List.getElem?_toArray).trans hu
  have HO := Lib.hid hown
  have hb9 : (n + 1) * 96 ≤ 140737488355328 := by omega
  have hb8 : n + 1 ≤ maxLen := by unfold maxLen; omega
  rcases id hown with ⟨hxl, ⟨rfl, rfl⟩ | ⟨g, cap, cur, rfl, _, _, hnc, hm, _, _⟩⟩
  · clear hxl hown
    go_enter Tryz.func67, Tryz.ntmps67
    go_wp2_with (at_builtin; refine wpList_append_own_at _ rfl _ _ _ rfl base _ J _ 6 96 Tryz.underlying23 hJ hz1 hz2 hz3 rfl (by decide) _ _ _ rfl HO.out ⟨B, 0, none⟩ 1 c L rfl (by rw [hL]) hcB h1 hb8 hb9 hbase ?_; intro v' w' g1 g2 _ g3)
    go_ret
    exact ⟨v', rfl, g1, g2, g3⟩
  · have hni : (n : Int) ≤ 100000 := by omega
    have hci : (n : Int) ≤ (cap : Int) := by omega
    clear hxl hown
    go_enter Tryz.func67, Tryz.ntmps67
    go_wp2_with (at_builtin; refine wpList_append_own_at _ rfl _ _ _ rfl base _ J _ 6 96 Tryz.underlying23 hJ hz1 hz2 hz3 rfl (by decide) _ _ _ rfl HO.out ⟨B, 0, none⟩ 1 c L rfl (by rw [hL]) hcB h1 hb8 hb9 hbase ?_; intro v' w' g1 g2 _ g3)
    all_goals (go_ret; exact ⟨v', rfl, g1, g2, g3⟩)
set_option maxRecDepth 100000 in
set_option maxHeartbeats 8000000 in
theorem insF_room (w : World) (base g n cap i : Nat) (xs : List Value) (hown : w.ownsRow base 54 6 (.slice (some ⟨g, 0, none⟩) n cap) n xs) (hi : i < n) (hroom : n + 1 ≤ cap) (B c : Nat) (L : List Value) (hL : L.length = 6) (tB : TypeId) (hB : RH w B L.toArray tB) (h1 : ∀ u ∈ L, u.oneCell' = true) (h1x : ∀ u ∈ xs, u.oneCell' = true)
    (hne : B ≠ g) (hn : n ≤ 100000) :
    Calls Tryz.prog 67 #[.slice (some ⟨g, 0, none⟩) n cap, .int .i64 (i : Int), .slice (some ⟨B, 0, none⟩) 1 c] w fun e w' => ∃ v', e = .returned v' ∧ w'.ownsRow base 54 6 v' (n + 1) (xs.take (i * 6) ++ L ++ xs.drop (i * 6)) ∧ w.grownBy w' (some g) ∧ (v'.ownBlock = some g ∨ v'.ownBlock = some w.heap.size) := by
  obtain ⟨J, hJ⟩ : ∃ i, Tryz.prog.info? 54 = some i := by
    cases hq : Tryz.prog.info? 54 with
    | none => have := fI; rw [hq] at this; cases this
    | some i => exact ⟨i, rfl⟩
  have hci := fI
  rw [hJ] at hci
  simp only [Option.map_some, Option.some.injEq, Prod.mk.injEq] at hci
  obtain ⟨hz1, hz2, hz3⟩ := hci
  have hsz : (Tryz.prog.info? 54).map (·.size) = some 6 := by rw [hJ]; simp [hz2]
  have hxl : xs.length = n * 6 := hown.1
  have hm : cap ≤ maxLen := by
    rcases hown.2 with ⟨h, _⟩ | ⟨_, _, _, h, _, _, _, h5, _⟩
    · cases h
    · cases h; exact h5
  have hm63 : (cap : Int) ≤ 9223372036854775807 := by unfold maxLen at hm; omega
  obtain ⟨tg, kg, hsg, hkg⟩ : ∃ tg kg, w.shape? g = some (tg, kg) ∧ kg ≠ 0 := by
    rcases hown.2 with ⟨h, _⟩ | ⟨_, _, cur, h, _, hg, _, _, hcs, _⟩
    · cases h
    · cases h
      exact ⟨(54), cur.size, by simp [World.shape?, hg], by omega⟩
  obtain ⟨sp, hsp, hown2⟩ := Rw.own_more hown hroom
  have hbf : ∀ j, w.frozen? ⟨B, j, none⟩ = false := hB.fre
  have hbs : w.shape? B = some (tB, L.toArray.size) := by unfold RH at hB; simp [World.shape?, hB]
  have hov : ∀ lb cb, (callFunc 89 #[.slice (some ⟨B, 0, none⟩) 1 c, .slice (some ⟨g, (i + 1) * 6, none⟩) lb cb]).run Tryz.prog w = .ok (.value (.bool false)) w := fun lb cb => by
    rw [run_callFunc_extern Tryz.func89 (by kernel_rfl) (by kernel_rfl) (by kernel_rfl) (e := Extern.SlicesOverlaps.overlaps #[23, 23] #[4]) (by kernel_rfl),
      Lib.run_overlaps_apart w 23 4 54 Tryz.underlying23 6 Tryz.sizeOf54 ⟨B, 0, none⟩ ⟨g, (i + 1) * 6, none⟩ 1 c lb cb hne tB tg _ kg hbs hsg hkg (hbf 0) (hbf _)]
    rfl
  have hdl : (xs.drop (i * 6)).length = (n - i) * 6 := by rw [List.length_drop, hxl]; omega
  have hcp1 : ∀ ty dc sc, (Builtin.copy_ #[23, 23] ty #[.slice (some ⟨g, (i + 1) * 6, none⟩) (n - i) dc, .slice (some ⟨g, i * 6, none⟩) (n + 1 - i) sc]).run Tryz.prog w.drew = .ok (goInt (Nat.min (n + 1 - i) (n - i))) (w.drew.setCells g ((i + 1) * 6) (xs.drop (i * 6))) := fun ty dc sc =>
    Rw.run_copy_own (P := Tryz.prog) (w := w.drew) hown2.drew 23 23 ty _ _ dc ⟨g, i * 6, none⟩ (n + 1 - i) sc _ Tryz.underlying23 hsz (by rw [hdl]; simp only [Nat.min_def]; split <;> omega) (fun j v hj => by
      rw [add_spot]
      have hj2 : i * 6 + j < n * 6 := by have := (List.getElem?_eq_some_iff.1 hj).1; rw [hdl] at this; omega
      show w.cell? _ = _
      rw [hown.cellAt (i * 6 + j) hj2]
      rwa [List.getElem?_drop] at hj) (by rw [hdl]; omega) (fun v hv => h1x v (List.mem_of_mem_drop hv))
  obtain ⟨W1, hW1⟩ : ∃ W1, W1 = w.drew.setCells g ((i + 1) * 6) (xs.drop (i * 6)) := ⟨_, rfl⟩
  obtain ⟨hO1, hG1⟩ : W1.ownsRow base 54 6 (.slice (some ⟨g, 0, none⟩) (n + 1) cap) (n + 1) (Rw.setL (xs ++ sp) ((i + 1) * 6) (xs.drop (i * 6))) ∧ w.grownBy W1 (some g) := by
    rw [hW1]
    have h := Rw.ownsRow_setCells (xs.drop (i * 6)) ((i + 1) * 6) w.drew (xs ++ sp) hown2.drew
    exact ⟨h.1, (⟨rfl, rfl, rfl, Nat.le_refl _, fun _ _ _ => rfl⟩ : w.grownBy w.drew (some g)).trans h.2⟩
  have hcp2 : ∀ ty dc, (Builtin.copy_ #[23, 23] ty #[.slice (some ⟨g, i * 6, none⟩) (n + 1 - i) dc, .slice (some ⟨B, 0, none⟩) 1 c]).run Tryz.prog W1 = .ok (goInt (Nat.min 1 (n + 1 - i))) (W1.setCells g (i * 6) L) := fun ty dc =>
    Rw.run_copy_own (P := Tryz.prog) hO1 23 23 ty _ _ dc ⟨B, 0, none⟩ 1 c L Tryz.underlying23 hsz (by rw [hL]; simp only [Nat.min_def]; split <;> omega) (fun j v hj => by
      rw [add_spot, Nat.zero_add]
      have h0 : W1.heap[B]? = w.heap[B]? := hG1.block B hB.lt (by simpa using hne)
      rw [World.cell?_of_block (a := ⟨B, j, none⟩) h0, hB.cell]
      exact (List.getElem?_toArray).trans hj) (by rw [hL]; omega) h1
  rw [← hW1] at hcp1
  have HFIN : Hid (∃ v', Ending.returned (.slice (some ⟨g, 0, none⟩) (n + 1) cap) = .returned v' ∧ (W1.setCells g (i * 6) L).ownsRow base 54 6 v' (n + 1) (xs.take (i * 6) ++ L ++ xs.drop (i * 6)) ∧ w.grownBy (W1.setCells g (i * 6) L) (some g) ∧ (v'.ownBlock = some g ∨ v'.ownBlock = some w.heap.size)) := Lib.hid (by
    have h := Rw.ownsRow_setCells L (i * 6) W1 _ hO1
    rw [Rw.ins_shift xs sp L hxl hsp hL (by omega)] at h
    exact ⟨_, rfl, h.1, hG1.trans h.2, .inl rfl⟩)
  have hw1 : IntKind.i64.wrap ((i : Int) + 1) = (i : Int) + 1 := by rw [IntKind.wrap_i64]; omega
  have hw2 : IntKind.i64.wrap ((n : Int) + 1) = (n : Int) + 1 := by rw [IntKind.wrap_i64]; omega
  have hz2' : ¬ ((i : Int) = (n : Int)) := by omega
  have hb1 : (0 : Int) ≤ (i : Int) + 1 := by omega
  have hin : i ≤ n := by omega
  have htn : ((i : Int) + 1).toNat = i + 1 := by omega
  have htn2 : ((n : Int) + 1).toNat = n + 1 := by omega
  have hb2 : ¬ (cap = i + 1) := by omega
  have hb3 : (i : Int) ≤ (n : Int) + 1 := by omega
  have hb4 : ¬ (cap = i) := by omega
  have hr1 : (n : Int) + 1 ≤ (cap : Int) := by omega
  clear hO1 hG1 hown2 hsp hsg hkg hbs hbf hB hdl hown hxl hW1 hJ hz1 hz2 hz3 hm hroom hi
  go_enter Tryz.func67, Tryz.ntmps67
  go_wp2_with (simp only [hov])
  go_region_law (refine step_copy_runI rfl _ _ 23 23 rfl _ _ (by simp [Act.eval, Act.put]) (by simp [Act.eval, Act.put]) (hcp1 _ _ _) ?_)
  go_wp2_with (at_builtin; refine wpList_copy_runI _ rfl _ _ 23 23 rfl _ _ rfl rfl (hcp2 _ _) ?_)
  go_ret
  exact HFIN.out
set_option maxRecDepth 100000 in
set_option maxHeartbeats 8000000 in
theorem insF_grow (w : World) (base g n cap i : Nat) (xs : List Value) (hown : w.ownsRow base 54 6 (.slice (some ⟨g, 0, none⟩) n cap) n xs) (hi : i < n) (hroom : cap < n + 1) (B c : Nat) (L : List Value) (hL : L.length = 6) (tB : TypeId) (hB : RH w B L.toArray tB) (h1 : ∀ u ∈ L, u.oneCell' = true) (h1x : ∀ u ∈ xs, u.oneCell' = true)
    (hn : n ≤ 100000) (hbase : base ≤ w.heap.size) :
    Calls Tryz.prog 67 #[.slice (some ⟨g, 0, none⟩) n cap, .int .i64 (i : Int), .slice (some ⟨B, 0, none⟩) 1 c] w fun e w' => ∃ v', e = .returned v' ∧ w'.ownsRow base 54 6 v' (n + 1) (xs.take (i * 6) ++ L ++ xs.drop (i * 6)) ∧ w.grownBy w' (some g) ∧ (v'.ownBlock = some g ∨ v'.ownBlock = some w.heap.size) := by
  obtain ⟨J, hJ⟩ : ∃ i, Tryz.prog.info? 54 = some i := by
    cases hq : Tryz.prog.info? 54 with
    | none => have := fI; rw [hq] at this; cases this
    | some i => exact ⟨i, rfl⟩
  have hci := fI
  rw [hJ] at hci
  simp only [Option.map_some, Option.some.injEq, Prod.mk.injEq] at hci
  obtain ⟨hz1, hz2, hz3⟩ := hci
  have hsz : (Tryz.prog.info? 54).map (·.size) = some 6 := by rw [hJ]; simp [hz2]
  have hxl : xs.length = n * 6 := hown.1
  have hnc : n ≤ cap := by
    rcases hown.2 with ⟨h, _⟩ | ⟨_, _, _, h, _, _, h5, _⟩
    · cases h
    · cases h; exact h5
  have hgw : g < w.heap.size := by
    obtain ⟨g', c', h, _, h2⟩ := hown.form (by omega)
    cases h; exact h2
  have htl : (xs.take (i * 6)).length = i * 6 := by rw [List.length_take, hxl]; omega
  have hold : (Builtin.firstCells J.size i (.slice (some ⟨g, 0, none⟩) i cap)).run Tryz.prog w.drew = .ok (xs.take (i * 6)).toArray w.drew := by
    rw [hz2]
    exact run_firstCells_some w.drew 6 i ⟨g, 0, none⟩ i cap (xs.take (i * 6)) htl (fun j v hj => by
      rw [add_spot, Nat.zero_add]
      have hj2 : j < i * 6 := by have := (List.getElem?_eq_some_iff.1 hj).1; rwa [htl] at this
      show w.cell? _ = _
      rw [hown.cellAt j (by omega)]
      rwa [List.getElem?_take_of_lt hj2] at hj)
  have hik : i + (n + 1 - i) = n + 1 := by omega
  have hkk : (n : Int) + 1 - (i : Int) = ((n + 1 - i : Nat) : Int) := by omega
  obtain ⟨Z, hZ⟩ : ∃ z : Value, some z = J.zero := ⟨_, hz1.symm⟩
  have hZz : Z.cells.size = 6 := by
    rw [hz1] at hZ
    injection hZ with hZ
    rw [hZ]; rfl
  obtain ⟨G, hG⟩ : ∃ G, G = grownCap w (n + 1) cap 54 := ⟨_, rfl⟩
  have hGn : n + 1 ≤ G := by rw [hG]; exact grownCap_ge w _ _ _
  have hGm : G ≤ maxLen := by rw [hG]; exact grownCap_le_maxLen w (n + 1) cap 54 (by unfold maxLen; omega)
  obtain ⟨ROW, hROW⟩ : ∃ ROW : Array Value, ROW = (xs.take (i * 6)).toArray ++ Builtin.zeroCells Z.cells (n + 1 - i) ++ Builtin.zeroCells Z.cells (G - (n + 1)) := ⟨_, rfl⟩
  have hrz : ∀ ty, (Builtin.append_ #[23, 3] ty #[.slice (some ⟨g, 0, none⟩) i cap, .int .i64 ((n : Int) + 1 - (i : Int))]).run Tryz.prog w =
      .ok (.slice (some ⟨w.heap.size, 0, none⟩) (n + 1) G) (w.drew.alloc (.cells ROW 54)) := fun ty => by
    have h := Lib.run_append_grow_zeros w 23 3 ty 54 J Z .i64 .i64 Tryz.underlying23 Tryz.underlying3 hJ hZ.symm (some ⟨g, 0, none⟩) i cap (xs.take (i * 6)) hold (n + 1 - i) (by omega) (by omega) (by omega) (by omega) (by rw [hz3]; omega) (by rw [hz3, hik]; exact growslice_fits (by omega) (by omega))
    rw [hik, ← hG, ← hROW] at h
    rw [hkk]
    exact h
  obtain ⟨W1, hW1⟩ : ∃ W1, W1 = w.drew.alloc (.cells ROW 54) := ⟨_, rfl⟩
  have hzl : (Builtin.zeroCells Z.cells (n + 1 - i)).size = (n + 1 - i) * 6 := by rw [size_zeroCells, hZz]
  have hRS : ROW.size = G * 6 := by
    rw [hROW, Array.size_append, Array.size_append, size_zeroCells, size_zeroCells, hZz, List.size_toArray, htl]
    omega
  have hO1 : W1.ownsRow base 54 6 (.slice (some ⟨w.heap.size, 0, none⟩) (n + 1) G) (n + 1) (xs.take (i * 6) ++ (Builtin.zeroCells Z.cells (n + 1 - i)).toList) := by
    refine ⟨by rw [List.length_append, htl, Array.length_toList, hzl]; omega, .inr ⟨w.heap.size, G, ROW, rfl, hbase, by rw [hW1]; exact heap_alloc_new w.drew _, hGn, hGm, hRS, ?_⟩⟩
    rw [hROW, Array.toList_append, Array.toList_append, List.take_append_of_le_length (by
      rw [List.length_append, Array.length_toList, Array.length_toList, hzl, List.size_toArray, htl]; omega)]
    exact List.take_of_length_le (by rw [List.length_append, Array.length_toList, Array.length_toList, hzl, List.size_toArray, htl]; omega)
  have hG1 : w.grownBy W1 (some g) := by
    rw [hW1]
    exact (⟨rfl, rfl, rfl, Nat.le_refl _, fun _ _ _ => rfl⟩ : w.grownBy w.drew (some g)).trans (World.grownBy_alloc w.drew _ _)
  have hold1 : ∀ q, q < w.heap.size → W1.heap[q]? = w.heap[q]? := fun q hq => by
    rw [hW1]; exact heap_alloc_old w.drew _ hq
  rw [← hW1] at hrz
  have hcA : ∀ ty dc, (Builtin.copy_ #[23, 23] ty #[.slice (some ⟨w.heap.size, i * 6, none⟩) (n + 1 - i) dc, .slice (some ⟨B, 0, none⟩) 1 c]).run Tryz.prog W1 = .ok (goInt (Nat.min 1 (n + 1 - i))) (W1.setCells w.heap.size (i * 6) L) := fun ty dc =>
    Rw.run_copy_own (P := Tryz.prog) hO1 23 23 ty _ _ dc ⟨B, 0, none⟩ 1 c L Tryz.underlying23 hsz (by rw [hL]; simp only [Nat.min_def]; split <;> omega) (fun j v hj => by
      rw [add_spot, Nat.zero_add, World.cell?_of_block (a := ⟨B, j, none⟩) (hold1 B hB.lt), hB.cell]
      exact (List.getElem?_toArray).trans hj) (by rw [hL]; omega) h1
  obtain ⟨W2, hW2⟩ : ∃ W2, W2 = W1.setCells w.heap.size (i * 6) L := ⟨_, rfl⟩
  rw [← hW2] at hcA
  obtain ⟨hO2, hG2⟩ : W2.ownsRow base 54 6 (.slice (some ⟨w.heap.size, 0, none⟩) (n + 1) G) (n + 1) (Rw.setL (xs.take (i * 6) ++ (Builtin.zeroCells Z.cells (n + 1 - i)).toList) (i * 6) L) ∧ W1.grownBy W2 (some w.heap.size) := by
    rw [hW2]; exact Rw.ownsRow_setCells L (i * 6) W1 _ hO1
  have hsz1 : W1.heap.size = w.heap.size + 1 := by rw [hW1]; show (w.heap.push _).size = _; simp
  have hold2 : ∀ q, q < w.heap.size → W2.heap[q]? = w.heap[q]? := fun q hq => (hG2.block q (by omega) (by simp; omega)).trans (hold1 q hq)
  have hdl : (xs.drop (i * 6)).length = (n - i) * 6 := by rw [List.length_drop, hxl]; omega
  have hcB : ∀ ty dc sc, (Builtin.copy_ #[23, 23] ty #[.slice (some ⟨w.heap.size, (i + 1) * 6, none⟩) (n - i) dc, .slice (some ⟨g, i * 6, none⟩) (n - i) sc]).run Tryz.prog W2.drew = .ok (goInt (Nat.min (n - i) (n - i))) (W2.drew.setCells w.heap.size ((i + 1) * 6) (xs.drop (i * 6))) := fun ty dc sc =>
    Rw.run_copy_own (P := Tryz.prog) (w := W2.drew) hO2.drew 23 23 ty _ _ dc ⟨g, i * 6, none⟩ (n - i) sc _ Tryz.underlying23 hsz (by rw [hdl]; simp only [Nat.min_def]; split <;> omega) (fun j v hj => by
      rw [add_spot]
      have hj2 : i * 6 + j < n * 6 := by have := (List.getElem?_eq_some_iff.1 hj).1; rw [hdl] at this; omega
      show W2.cell? _ = _
      rw [World.cell?_of_block (a := ⟨g, i * 6 + j, none⟩) (hold2 g hgw), hown.cellAt (i * 6 + j) hj2]
      rwa [List.getElem?_drop] at hj) (by rw [hdl]; omega) (fun v hv => h1x v (List.mem_of_mem_drop hv))
  have HFIN : Hid (∃ v', Ending.returned (.slice (some ⟨w.heap.size, 0, none⟩) (n + 1) G) = .returned v' ∧ (W2.drew.setCells w.heap.size ((i + 1) * 6) (xs.drop (i * 6))).ownsRow base 54 6 v' (n + 1) (xs.take (i * 6) ++ L ++ xs.drop (i * 6)) ∧ w.grownBy (W2.drew.setCells w.heap.size ((i + 1) * 6) (xs.drop (i * 6))) (some g) ∧ (v'.ownBlock = some g ∨ v'.ownBlock = some w.heap.size)) := Lib.hid (by
    have h := Rw.ownsRow_setCells (xs.drop (i * 6)) ((i + 1) * 6) W2.drew _ hO2.drew
    rw [Rw.ins_grow xs _ L hxl (by rw [Array.length_toList, hzl]) hL (by omega)] at h
    refine ⟨_, rfl, h.1, ⟨h.2.os.trans (hG2.os.trans hG1.os), h.2.tape.trans (hG2.tape.trans hG1.tape), h.2.output.trans (hG2.output.trans hG1.output), Nat.le_trans hG1.size (Nat.le_trans hG2.size h.2.size), fun q hq _ => ?_⟩, .inr rfl⟩
    refine (h.2.block q (by show q < W2.heap.size; have := hG2.size; omega) (by simp; omega)).trans (hold2 q hq))
  have hw1 : IntKind.i64.wrap ((i : Int) + 1) = (i : Int) + 1 := by rw [IntKind.wrap_i64]; omega
  have hw2 : IntKind.i64.wrap ((n : Int) + 1) = (n : Int) + 1 := by rw [IntKind.wrap_i64]; omega
  have hw3 : IntKind.i64.wrap ((n : Int) + 1 - (i : Int)) = (n : Int) + 1 - (i : Int) := by rw [IntKind.wrap_i64]; omega
  have hz2' : ¬ ((i : Int) = (n : Int)) := by omega
  have hb1 : (0 : Int) ≤ (i : Int) + 1 := by omega
  have hin : i ≤ n := by omega
  have htn : ((i : Int) + 1).toNat = i + 1 := by omega
  have hGi : ¬ (G = i) := by omega
  have hGim : ¬ (G = i + 1) := by omega
  have hb3 : (i : Int) ≤ (n : Int) + 1 := by omega
  have hb5 : (i : Int) ≤ (n : Int) := by omega
  have hb4 : ¬ (cap = i) := by omega
  have hr1 : (cap : Int) < (n : Int) + 1 := by omega
  have hic : i ≤ cap := by omega
  have hic2 : (i : Int) ≤ (cap : Int) := by omega
  have hG63 : (G : Int) ≤ 9223372036854775807 := by unfold maxLen at hGm; omega
  clear hO1 hG1 hO2 hG2 hold hold1 hold2 hROW hRS hzl hZ hZz hsz1 hB hdl hown hxl hW1 hW2 hJ hz1 hz2 hz3 hroom hi hG hGm hik hkk htl hgw hnc
  go_enter Tryz.func67, Tryz.ntmps67
  go_wp2_with (first
    | (at_builtin; refine Lib.wpList_append_run _ rfl _ _ _ _ rfl _ _ rfl rfl _ _ (hrz _) ?_)
    | (at_builtin; refine wpList_copy_runI _ rfl _ _ 23 23 rfl _ _ rfl rfl (hcA _ _) ?_))
  go_region_law (refine step_copy_runI rfl _ _ 23 23 rfl _ _ (by simp [Act.eval, Act.put]) (by simp [Act.eval, Act.put]) (hcB _ _ _) ?_)
  go_wp2
  go_ret
  exact HFIN.out
/-- slices.Insert of one element into a row of the call's own -/
theorem insF_at (w : World) (base : Nat) (v : Value) (n i : Nat) (xs : List Value) (hown : w.ownsRow base 54 6 v n xs) (hi : i ≤ n) (B c : Nat) (L : List Value) (hL : L.length = 6) (tB : TypeId) (hB : RH w B L.toArray tB) (h1 : ∀ u ∈ L, u.oneCell' = true) (h1x : ∀ u ∈ xs, u.oneCell' = true)
    (hne : v.ownBlock ≠ some B) (hn : n ≤ 100000) (hbase : base ≤ w.heap.size) :
    Calls Tryz.prog 67 #[v, .int .i64 (i : Int), .slice (some ⟨B, 0, none⟩) 1 c] w fun e w' => ∃ v', e = .returned v' ∧ w'.ownsRow base 54 6 v' (n + 1) (xs.take (i * 6) ++ L ++ xs.drop (i * 6)) ∧ w.grownBy w' v.ownBlock ∧ (v'.ownBlock = v.ownBlock ∨ v'.ownBlock = some w.heap.size) := by
  by_cases hin : i = n
  · subst hin
    have hxl : xs.length = i * 6 := hown.1
    rw [List.take_of_length_le (by omega), List.drop_eq_nil_of_le (by omega), List.append_nil]
    exact insF_end w base v i xs hown B c L hL tB hB h1 hn hbase
  · obtain ⟨g, cap, rfl, hg1, hg2⟩ := hown.form (by omega)
    by_cases hr : n + 1 ≤ cap
    · exact insF_room w base g n cap i xs hown (by omega) hr B c L hL tB hB h1 h1x (fun e => hne (by rw [e]; rfl)) hn
    · exact insF_grow w base g n cap i xs hown (by omega) (by omega) B c L hL tB hB h1 h1x hn hbase
end Fd
end Go.Proofs.YtbhcfmdogdaodaaGreatDoor
namespace Go.Proofs.YtbhcfmdogdaodaaGreatDoor
open Go.RowKit
namespace Fd
open _root_.Go.Proofs.YtbhcfmdogdaodaaGreatDoor.Nt (RH RH.cell RH.box RH.lt RH.new RH.ext RH.fre RH.set RH.other)
open _root_.Go.Proofs.YtbhcfmdogdaodaaGreatDoor.Rw (All2 All2.get All2.length wpList_load_agg wp_stored fl_at Kept Fresh own_mono own_base)
theorem v_inf5 (k n : Int) (s : ByteArray) (v1 v2 : Value) : (Tryz.prog.info? 25).map (·.size) = some (vAr k n s v1 v2).size := by
  show (Tryz.prog.info? 25).map (·.size) = some 5
  kernel_rfl
theorem v_all5 (k n : Int) (s : ByteArray) (a1 a2 : Option Addr) (m1 m2 q1 q2 : Nat) : (vAr k n s (.slice a1 m1 q1) (.slice a2 m2 q2)).all (·.oneCell') = true := by simp [vAr, Value.oneCell']
abbrev eB : ByteArray := ⟨#[]⟩
/-- what stands while a patch is laid on: the variable that is answered, and the result's block -/
structure MInv (w X : World) (d : Nat) (vi v4 : Value) : Prop where
  rd : RH X d (vAr 5 0 eB vi v4) 25
  rr : ∃ A, RH X (w.heap.size + 2) A 25 ∧ A.size = 5
  bx : Below w.heap.size w X
section
variable {w X X' : World} {d : Nat} {vi v4 : Value}
theorem MInv.ext (h : MInv w X d vi v4) (hb : Below X.heap.size X X') : MInv w X' d vi v4 :=
  ⟨h.rd.ext hb, by obtain ⟨A, a, b⟩ := h.rr; exact ⟨A, a.ext hb, b⟩, ext_trans h.bx hb⟩
theorem MInv.grown (h : MInv w X d vi v4) (hd : w.heap.size + 2 < d) {r : Option Nat} (hg : X.grownBy X' r) (hr : ∀ q, r = some q → d < q) : MInv w X' d vi v4 :=
  ⟨Rw.rh_grown h.rd hg (fun e => by have := hr d e.symm; omega), by obtain ⟨A, a, b⟩ := h.rr; exact ⟨A, Rw.rh_grown a hg (fun e => by have := hr _ e.symm; omega), b⟩, h.bx.grown hg h.bx.size (fun q hq => by have := hr q hq; omega)⟩
theorem MInv.c4 (h : MInv w X d vi v4) : X.cell? ⟨d, 4, none⟩ = some v4 := h.rd.cell 4
end
theorem vAr_cell {X : World} {d : Nat} {k n : Int} {s : ByteArray} {v1 v2 : Value} {t : TypeId} (h : RH X d (vAr k n s v1 v2) t) : ∀ (j : Nat) (v : Value), [Value.int .i64 k, .int .i64 n, .string s, v1, v2][j]? = some v → X.cell? ⟨d, 0 + j, none⟩ = some v := fun j v hj => by
  rw [Nat.zero_add, h.cell]; simpa [vAr] using hj
theorem rep_zero (w : World) : RepV w V0 [.int .i64 0, .int .i64 0, .string eB, .slice none 0 0, .slice none 0 0] := by
  have := rep_mk (w := w) (k := 0) (n := 0) (s := ByteArray.empty) (is := []) (fs := []) (EI := []) (E := []) ⟨by unfold i64ok; omega, by unfold i64ok; omega, by decide⟩ (Sl.nil w) trivial (Sl.nil w) trivial
  exact this
end Fd
end Go.Proofs.YtbhcfmdogdaodaaGreatDoor
namespace Go.Proofs.YtbhcfmdogdaodaaGreatDoor
open Go.RowKit
namespace Fd
open _root_.Go.Proofs.YtbhcfmdogdaodaaGreatDoor.Nt (RH RH.cell RH.box RH.lt RH.new RH.ext RH.fre RH.set RH.other)
theorem ret_bool {a b : Bool} (h : a = b) : Ending.returned (.bool a) = .returned (.bool b) := by rw [h]
theorem take_byte (s : ByteArray) (k : Nat) (hk : k < s.size) : s.data.toList.take (k + 1) = s.data.toList.take k ++ [s[k]] := by
  have h : k < s.data.toList.length := by simpa using hk
  rw [List.take_succ_eq_append_getElem h]; rfl
theorem toList_nil {s : ByteArray} : s.toList = [] ↔ s.size = 0 := by
  rw [ByteArray.toList_eq]
  have h : s.data.toList.length = s.size := Array.length_toList
  constructor
  · intro e; rw [e] at h; exact h.symm
  · intro e; exact List.eq_nil_of_length_eq_zero (h.trans e)
theorem all_snoc (p : UInt8 → Bool) (s : ByteArray) (k : Nat) (hk : k < s.size) (h : (s.data.toList.take k).all p = true) (hp : p s[k] = true) : (s.data.toList.take (k + 1)).all p = true := by
  rw [take_byte s k hk, List.all_append, h]; simp [hp]
theorem all_not (p : UInt8 → Bool) (s : ByteArray) (k : Nat) (hk : k < s.size) (hp : p s[k] = false) : s.data.toList.all p = false := by
  rw [List.all_eq_false]
  exact ⟨s[k], by rw [show s[k] = s.data.toList[k]'(by simpa using hk) from rfl]; exact List.getElem_mem _, by simp [hp]⟩
theorem all_end (p : UInt8 → Bool) (s : ByteArray) (k : Nat) (hk : ¬ k < s.size) (h : (s.data.toList.take k).all p = true) : s.data.toList.all p = true := by
  rwa [List.take_of_length_le (by simp; omega)] at h
set_option maxRecDepth 100000 in
set_option maxHeartbeats 8000000 in
theorem seen_at (s : ByteArray) (hs : s.size ≤ maxLen) (w : World) : Calls Tryz.prog 64 #[.string s] w fun e w' => e = .returned (.bool (seenB s)) ∧ w = w' := by
  unfold maxLen at hs
  go_enter Tryz.func64, Tryz.ntmps64
  go_wp2
  go_loop [6] (fun i => ∃ k : Nat, k ≤ s.size ∧ i = .int .i64 k ∧ Hid ((s.data.toList.take k).all seenC = true)) (fun i => s.size - (intOf i).toNat)
  case atStart => exact ⟨0, by omega, rfl, rfl⟩
  case round =>
    obtain ⟨k, hk, rfl, HA⟩ := hrel
    by_cases hlt : k < s.size
    · by_cases h1 : 32 ≤ (s[k].toNat : Int)
      · by_cases h2 : (s[k].toNat : Int) ≤ 126
        · have HW : Hid (seenC s[k] = true) := by exact (by unfold seenC; simp; omega : seenC s[k] = true)
          go_wp2
          go_round
          case rel => exact ⟨k + 1, by omega, by go_num, all_snoc _ _ _ hlt HA.out HW.out⟩
          case measure => simp [intOf]; omega
        · have HW : Hid (seenB s = false) := Lib.hid (all_not seenC _ _ hlt (by unfold seenC; simp; omega))
          go_wp2
          go_ret
          exact ⟨ret_bool HW.out.symm, rfl⟩
      · have HW : Hid (seenB s = false) := Lib.hid (all_not seenC _ _ hlt (by unfold seenC; simp; omega))
        go_wp2
        go_ret
        exact ⟨ret_bool HW.out.symm, rfl⟩
    · have HW : Hid (seenB s = true) := Lib.hid (all_end seenC _ _ hlt HA.out)
      go_wp2
      go_ret
      exact ⟨ret_bool HW.out.symm, rfl⟩
set_option maxRecDepth 100000 in
set_option maxHeartbeats 8000000 in
theorem spare_at (k n : Int) (s : ByteArray) (ai af : Option Addr) (ni nf ci cf : Nat) (_h1 : ni ≤ maxLen) (_h2 : nf ≤ maxLen) (_h3 : s.size ≤ maxLen) (w : World) :
    Calls Tryz.prog 63 #[.agg #[.int .i64 k, .int .i64 n, .string s, .slice ai ni ci, .slice af nf cf]] w fun e w' => e = .returned (.bool (spareB k n s ni nf)) ∧ Below w.heap.size w w' := by
  unfold maxLen at _h1 _h2 _h3
  have HSP : Hid (spareB k n s ni nf = ((decide (n ≠ 0) && decide (k ≠ 1) && decide (k ≠ 2)) || (decide (s.toList ≠ []) && decide (k ≠ 3)) || (decide (0 < ni) && decide (k ≠ 4)) || (decide (0 < nf) && decide (k ≠ 5)))) := Lib.hid (by
    have e1 : decide (s.toList ≠ []) = decide (s.size ≠ 0) := by rw [decide_eq_decide]; exact not_congr toList_nil
    rw [e1]; rfl)
  generalize spareB k n s ni nf = B at *
  go_enter Tryz.func63, Tryz.ntmps63
  go_upto_region 1 with (fail)
  refine wp_box1 fun W hszW hbW hA => ?_
  have a0 : W.cell? ⟨w.heap.size, 0, none⟩ = some (.int .i64 k) := hA.2 0
  have a1 : W.cell? ⟨w.heap.size, 1, none⟩ = some (.int .i64 n) := hA.2 1
  have a2 : W.cell? ⟨w.heap.size, 2, none⟩ = some (.string s) := hA.2 2
  have a3 : W.cell? ⟨w.heap.size, 3, none⟩ = some (.slice ai ni ci) := hA.2 3
  have a4 : W.cell? ⟨w.heap.size, 4, none⟩ = some (.slice af nf cf) := hA.2 4
  clear hszW hA
  go_wp2_with fail
  all_goals go_ret
  all_goals refine ⟨ret_bool ?_, hbW⟩
  all_goals rw [HSP.out]
  all_goals clear a0 a1 a2 a3 a4 HSP hbW
  all_goals simp_all
  all_goals first | done | omega | (rw [Bool.eq_iff_iff]; simp; done) | trace_state
end Fd
end Go.Proofs.YtbhcfmdogdaodaaGreatDoor
