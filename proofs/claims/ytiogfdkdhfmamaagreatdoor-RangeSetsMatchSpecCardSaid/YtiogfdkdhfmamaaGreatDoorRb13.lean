/- Rows of the call's own: what an insertion leaves (plain), copies within rows. No program stands in it. Printed by gen_ins.py. slices.Insert at cuts. Printed by gen_ins.py. Regions of reads and of calls that only make the memory grow, in text order. No program stands in it. Printed by gen_tog.py. -/
import Derived.Test.YtiogfdkdhfmamaaGreatDoorRb12
import Derived.Shelf.Spec.SlicesInsertGrow
import Derived.Test.YtiogfdkdhfmamaaGreatDoorRb03
import Derived.Deep.QuietTactic
namespace Go.Proofs.YtiogfdkdhfmamaaGreatDoor
open Go.RowKit
namespace Rg
/-- copy of rows of k cells an element -/
theorem run_copy_k {P : Program} (w : World) (dT sT ty elem : TypeId) (k b o dLen dCap : Nat) (a : Addr) (sLen sCap : Nat) (cs : List Value)
    (hu : P.underlying dT = some (.slice elem)) (hs : (P.info? elem).map (·.size) = some k) (hn : cs.length = Nat.min sLen dLen * k)
    (hsrc : ∀ j v, cs[j]? = some v → w.cell? (a.add j) = some v) (hc : ∀ j, j < cs.length → (w.cell? ⟨b, o + j, none⟩).isSome = true) (hf : ∀ j, j < cs.length → w.frozen? ⟨b, o + j, none⟩ = false) (h1 : ∀ v ∈ cs, v.oneCell' = true) :
    (Builtin.copy_ #[dT, sT] ty #[.slice (some ⟨b, o, none⟩) dLen dCap, .slice (some a) sLen sCap]).run P w = .ok (goInt (Nat.min sLen dLen)) (w.setCells b o cs) := by
  have hl := run_loadCells_list (P := P) w a cs hsrc
  have hst := run_storeCells_cells (P := P) b o cs 0 w (by simpa using hc) (by simpa using hf) h1
  cases hq : P.info? elem with
  | none => simp [hq] at hs
  | some i =>
    have hi : i.size = k := by simpa [hq] using hs
    simp [Builtin.copy_, run_underlying hu, Builtin.lenOf, Builtin.firstCells, sizeOf, typeInfo, hq, hi, ← hn, hl, hst]
theorem run_copy_own {P : Program} {w : World} {base : Nat} {e : TypeId} {k g n cap : Nat} {ys : List Value} (hown : w.ownsRow base e k (.slice (some ⟨g, 0, none⟩) n cap) n ys) (dT sT ty : TypeId) (o dLen dCap : Nat) (a : Addr) (sLen sCap : Nat) (cs : List Value)
    (hu : P.underlying dT = some (.slice e)) (hs : (P.info? e).map (·.size) = some k) (hn : cs.length = Nat.min sLen dLen * k)
    (hsrc : ∀ j v, cs[j]? = some v → w.cell? (a.add j) = some v) (hfit : o + cs.length ≤ n * k) (h1 : ∀ v ∈ cs, v.oneCell' = true) :
    (Builtin.copy_ #[dT, sT] ty #[.slice (some ⟨g, o, none⟩) dLen dCap, .slice (some a) sLen sCap]).run P w = .ok (goInt (Nat.min sLen dLen)) (w.setCells g o cs) :=
  run_copy_k w dT sT ty e k g o dLen dCap a sLen sCap cs hu hs hn hsrc (fun j hj => by
    have hl : ys.length = n * k := hown.1
    rw [hown.cellAt (o + j) (by omega), List.getElem?_eq_getElem (by omega)]; rfl) (fun j _ => hown.frozenAt _) h1
/-- one more element of a row's block in sight -/
theorem own_more {w : World} {base : Nat} {e : TypeId} {k g n cap : Nat} {xs : List Value} (h : w.ownsRow base e k (.slice (some ⟨g, 0, none⟩) n cap) n xs) (hc : n + 1 ≤ cap) :
    ∃ sp : List Value, sp.length = k ∧ w.ownsRow base e k (.slice (some ⟨g, 0, none⟩) (n + 1) cap) (n + 1) (xs ++ sp) := by
  obtain ⟨h1, h2⟩ := h
  rcases h2 with ⟨h', _⟩ | ⟨g', cap', cur, h', hb, hg, hn, hm, hs, ht⟩
  · simp at h'
  · simp only [Value.slice.injEq, Option.some.injEq, Addr.mk.injEq, and_true, true_and] at h'
    obtain ⟨rfl, rfl⟩ := h'
    have hle : (n + 1) * k ≤ cur.toList.length := by rw [Array.length_toList, hs]; exact Nat.mul_le_mul_right k hc
    have hnk : (n + 1) * k = n * k + k := Nat.succ_mul n k
    refine ⟨(cur.toList.drop (n * k)).take k, by rw [List.length_take, List.length_drop]; omega, ?_, .inr ⟨g, cap, cur, rfl, hb, hg, hc, hm, hs, ?_⟩⟩
    · rw [List.length_append, List.length_take, List.length_drop, h1]; omega
    · rw [← ht, hnk, List.take_add]
/-- shifted up in place, then the new one laid in -/
theorem ins_shift {k n i : Nat} (xs sp L : List Value) (hx : xs.length = n * k) (hsp : sp.length = k) (hL : L.length = k) (hi : i ≤ n) :
    setL (setL (xs ++ sp) ((i + 1) * k) (xs.drop (i * k))) (i * k) L = xs.take (i * k) ++ L ++ xs.drop (i * k) := by
  have hik : (i + 1) * k = i * k + k := Nat.succ_mul i k
  have hink : i * k ≤ n * k := Nat.mul_le_mul_right k hi
  have hl : (xs ++ sp).length = n * k + k := by rw [List.length_append, hx, hsp]
  have e0 : xs ++ sp = (xs ++ sp).take ((i + 1) * k) ++ ((xs ++ sp).drop ((i + 1) * k) ++ []) := by rw [List.append_nil, List.take_append_drop]
  have la : ((xs ++ sp).take ((i + 1) * k)).length = (i + 1) * k := by rw [List.length_take]; omega
  have h1 := setL_mid (xs.drop (i * k)) ((xs ++ sp).take ((i + 1) * k)) ((xs ++ sp).drop ((i + 1) * k)) [] (by rw [List.length_drop, List.length_drop]; omega)
  rw [la, ← e0, List.append_nil] at h1
  rw [h1]
  have e1 : (xs ++ sp).take ((i + 1) * k) = xs.take (i * k) ++ ((xs ++ sp).drop (i * k)).take k := by
    rw [hik, List.take_add, List.take_append_of_le_length (by omega)]
  have lb : (xs.take (i * k)).length = i * k := by rw [List.length_take]; omega
  have h2 := setL_mid L (xs.take (i * k)) (((xs ++ sp).drop (i * k)).take k) (xs.drop (i * k)) (by rw [List.length_take, List.length_drop]; omega)
  rw [lb] at h2
  rw [e1, List.append_assoc, h2, List.append_assoc]
/-- a new row: the new one laid in, then what stood behind -/
theorem ins_grow {k n i : Nat} (xs Z L : List Value) (hx : xs.length = n * k) (hZ : Z.length = (n + 1 - i) * k) (hL : L.length = k) (hi : i ≤ n) :
    setL (setL (xs.take (i * k) ++ Z) (i * k) L) ((i + 1) * k) (xs.drop (i * k)) = xs.take (i * k) ++ L ++ xs.drop (i * k) := by
  have hik : (i + 1) * k = i * k + k := Nat.succ_mul i k
  have hink : i * k ≤ n * k := Nat.mul_le_mul_right k hi
  have hz : (n + 1 - i) * k = (n - i) * k + k := by rw [show n + 1 - i = (n - i) + 1 by omega, Nat.succ_mul]
  have hni : (n - i) * k = n * k - i * k := Nat.sub_mul n i k
  have lb : (xs.take (i * k)).length = i * k := by rw [List.length_take]; omega
  have h1 := setL_mid L (xs.take (i * k)) (Z.take k) (Z.drop k) (by rw [List.length_take]; omega)
  rw [lb, List.take_append_drop] at h1
  rw [h1]
  have lc : (xs.take (i * k) ++ L).length = (i + 1) * k := by rw [List.length_append, lb]; omega
  have h2 := setL_mid (xs.drop (i * k)) (xs.take (i * k) ++ L) (Z.drop k) [] (by rw [List.length_drop, List.length_drop]; omega)
  rw [lc, List.append_nil, List.append_nil, List.append_assoc] at h2
  rw [h2, List.append_assoc]
end Rg
end Go.Proofs.YtiogfdkdhfmamaaGreatDoor
namespace Go.Proofs.YtiogfdkdhfmamaaGreatDoor
open Go.RowKit
namespace Rg
open _root_.Go.Proofs.YtiogfdkdhfmamaaGreatDoor.Nt (RH RH.cell RH.box RH.lt RH.new RH.ext RH.fre RH.set RH.other)
set_option maxRecDepth 100000 in
set_option maxHeartbeats 8000000 in
theorem insertCut_end (w : World) (base : Nat) (v : Value) (n : Nat) (xs : List Value) (hown : w.ownsRow base 31 5 v n xs) (B c : Nat) (L : List Value) (hL : L.length = 5) (tB : TypeId) (hB : RH w B L.toArray tB) (h1 : ∀ u ∈ L, u.oneCell' = true)
    (hn : n ≤ 100000) (hbase : base ≤ w.heap.size) :
    Calls Tryz.prog 49 #[v, .int .i64 (n : Int), .slice (some ⟨B, 0, none⟩) 1 c] w fun e w' => ∃ v', e = .returned v' ∧ w'.ownsRow base 31 5 v' (n + 1) (xs ++ L) ∧ w.grownBy w' v.ownBlock := by
  obtain ⟨J, hJ⟩ : ∃ i, Tryz.prog.info? 31 = some i := by
    cases hq : Tryz.prog.info? 31 with
    | none => have := cut_info; rw [hq] at this; cases this
    | some i => exact ⟨i, rfl⟩
  have hci := cut_info
  rw [hJ] at hci
  simp only [Option.map_some, Option.some.injEq, Prod.mk.injEq] at hci
  obtain ⟨hz1, hz2, hz3⟩ := hci
  have hsz : (Tryz.prog.info? 31).map (·.size) = some 5 := by rw [hJ]; simp [hz2]
  have hcB : ∀ (j : Nat) (u : Value), L[j]? = some u → w.cell? ((⟨B, 0, none⟩ : Addr).add j) = some u := fun j u hu => by
    rw [add_spot, Nat.zero_add, hB.cell]; exact (List.getElem?_toArray).trans hu
  have HO := Lib.hid hown
  have hb9 : (n + 1) * 56 ≤ 140737488355328 := by omega
  have hb8 : n + 1 ≤ maxLen := by unfold maxLen; omega
  rcases id hown with ⟨hxl, ⟨rfl, rfl⟩ | ⟨g, cap, cur, rfl, _, _, hnc, hm, _, _⟩⟩
  · clear hxl hown
    go_enter Tryz.func49, Tryz.ntmps49
    go_wp2_with (at_builtin; refine wpList_append_own _ rfl _ _ _ rfl base _ J _ 5 56 Tryz.underlying46 hJ hz1 hz2 hz3 rfl (by decide) _ _ _ rfl HO.out ⟨B, 0, none⟩ 1 c L rfl (by rw [hL]) hcB h1 hb8 hb9 hbase ?_; intro v' w' g1 g2 _)
    go_ret
    exact ⟨v', rfl, g1, g2⟩
  · have hni : (n : Int) ≤ 100000 := by omega
    have hci : (n : Int) ≤ (cap : Int) := by omega
    clear hxl hown
    go_enter Tryz.func49, Tryz.ntmps49
    go_wp2_with (at_builtin; refine wpList_append_own _ rfl _ _ _ rfl base _ J _ 5 56 Tryz.underlying46 hJ hz1 hz2 hz3 rfl (by decide) _ _ _ rfl HO.out ⟨B, 0, none⟩ 1 c L rfl (by rw [hL]) hcB h1 hb8 hb9 hbase ?_; intro v' w' g1 g2 _)
    all_goals (go_ret; exact ⟨v', rfl, g1, g2⟩)
set_option maxRecDepth 100000 in
set_option maxHeartbeats 8000000 in
theorem insertCut_room (w : World) (base g n cap i : Nat) (xs : List Value) (hown : w.ownsRow base 31 5 (.slice (some ⟨g, 0, none⟩) n cap) n xs) (hi : i < n) (hroom : n + 1 ≤ cap) (B c : Nat) (L : List Value) (hL : L.length = 5) (tB : TypeId) (hB : RH w B L.toArray tB) (h1 : ∀ u ∈ L, u.oneCell' = true) (h1x : ∀ u ∈ xs, u.oneCell' = true)
    (hne : B ≠ g) (hn : n ≤ 100000) :
    Calls Tryz.prog 49 #[.slice (some ⟨g, 0, none⟩) n cap, .int .i64 (i : Int), .slice (some ⟨B, 0, none⟩) 1 c] w fun e w' => ∃ v', e = .returned v' ∧ w'.ownsRow base 31 5 v' (n + 1) (xs.take (i * 5) ++ L ++ xs.drop (i * 5)) ∧ w.grownBy w' (some g) := by
  obtain ⟨J, hJ⟩ : ∃ i, Tryz.prog.info? 31 = some i := by
    cases hq : Tryz.prog.info? 31 with
    | none => have := cut_info; rw [hq] at this; cases this
    | some i => exact ⟨i, rfl⟩
  have hci := cut_info
  rw [hJ] at hci
  simp only [Option.map_some, Option.some.injEq, Prod.mk.injEq] at hci
  obtain ⟨hz1, hz2, hz3⟩ := hci
  have hsz : (Tryz.prog.info? 31).map (·.size) = some 5 := by rw [hJ]; simp [hz2]
  have hxl : xs.length = n * 5 := hown.1
  have hm : cap ≤ maxLen := by
    rcases hown.2 with ⟨h, _⟩ | ⟨_, _, _, h, _, _, _, h5, _⟩
    · cases h
    · cases h; exact h5
  have hm63 : (cap : Int) ≤ 9223372036854775807 := by unfold maxLen at hm; omega
  obtain ⟨tg, kg, hsg, hkg⟩ : ∃ tg kg, w.shape? g = some (tg, kg) ∧ kg ≠ 0 := by
    rcases hown.2 with ⟨h, _⟩ | ⟨_, _, cur, h, _, hg, _, _, hcs, _⟩
    · cases h
    · cases h
      exact ⟨(31), cur.size, by simp [World.shape?, hg], by omega⟩
  obtain ⟨sp, hsp, hown2⟩ := own_more hown hroom
  have hbf : ∀ j, w.frozen? ⟨B, j, none⟩ = false := hB.fre
  have hbs : w.shape? B = some (tB, L.toArray.size) := by unfold RH at hB; simp [World.shape?, hB]
  have hov : ∀ lb cb, (callFunc 72 #[.slice (some ⟨B, 0, none⟩) 1 c, .slice (some ⟨g, (i + 1) * 5, none⟩) lb cb]).run Tryz.prog w = .ok (.value (.bool false)) w := fun lb cb => by
    rw [run_callFunc_extern Tryz.func72 (by kernel_rfl) (by kernel_rfl) (by kernel_rfl) (e := Extern.SlicesOverlaps.overlaps #[46, 46] #[4]) (by kernel_rfl),
      Lib.run_overlaps_apart w 46 4 31 Tryz.underlying46 5 Tryz.sizeOf31 ⟨B, 0, none⟩ ⟨g, (i + 1) * 5, none⟩ 1 c lb cb hne tB tg _ kg hbs hsg hkg (hbf 0) (hbf _)]
    rfl
  have hdl : (xs.drop (i * 5)).length = (n - i) * 5 := by rw [List.length_drop, hxl]; omega
  have hcp1 : ∀ ty dc sc, (Builtin.copy_ #[46, 46] ty #[.slice (some ⟨g, (i + 1) * 5, none⟩) (n - i) dc, .slice (some ⟨g, i * 5, none⟩) (n + 1 - i) sc]).run Tryz.prog w.drew = .ok (goInt (Nat.min (n + 1 - i) (n - i))) (w.drew.setCells g ((i + 1) * 5) (xs.drop (i * 5))) := fun ty dc sc =>
    run_copy_own (P := Tryz.prog) (w := w.drew) hown2.drew 46 46 ty _ _ dc ⟨g, i * 5, none⟩ (n + 1 - i) sc _ Tryz.underlying46 hsz (by rw [hdl]; simp only [Nat.min_def]; split <;> omega) (fun j v hj => by
      rw [add_spot]
      have hj2 : i * 5 + j < n * 5 := by have := (List.getElem?_eq_some_iff.1 hj).1; rw [hdl] at this; omega
      show w.cell? _ = _
      rw [hown.cellAt (i * 5 + j) hj2]
      rwa [List.getElem?_drop] at hj) (by rw [hdl]; omega) (fun v hv => h1x v (List.mem_of_mem_drop hv))
  obtain ⟨W1, hW1⟩ : ∃ W1, W1 = w.drew.setCells g ((i + 1) * 5) (xs.drop (i * 5)) := ⟨_, rfl⟩
  obtain ⟨hO1, hG1⟩ : W1.ownsRow base 31 5 (.slice (some ⟨g, 0, none⟩) (n + 1) cap) (n + 1) (setL (xs ++ sp) ((i + 1) * 5) (xs.drop (i * 5))) ∧ w.grownBy W1 (some g) := by
    rw [hW1]
    have h := ownsRow_setCells (xs.drop (i * 5)) ((i + 1) * 5) w.drew (xs ++ sp) hown2.drew
    exact ⟨h.1, (⟨rfl, rfl, rfl, Nat.le_refl _, fun _ _ _ => rfl⟩ : w.grownBy w.drew (some g)).trans h.2⟩
  have hcp2 : ∀ ty dc, (Builtin.copy_ #[46, 46] ty #[.slice (some ⟨g, i * 5, none⟩) (n + 1 - i) dc, .slice (some ⟨B, 0, none⟩) 1 c]).run Tryz.prog W1 = .ok (goInt (Nat.min 1 (n + 1 - i))) (W1.setCells g (i * 5) L) := fun ty dc =>
    run_copy_own (P := Tryz.prog) hO1 46 46 ty _ _ dc ⟨B, 0, none⟩ 1 c L Tryz.underlying46 hsz (by rw [hL]; simp only [Nat.min_def]; split <;> omega) (fun j v hj => by
      rw [add_spot, Nat.zero_add]
      have h0 : W1.heap[B]? = w.heap[B]? := hG1.block B hB.lt (by simpa using hne)
      rw [World.cell?_of_block (a := ⟨B, j, none⟩) h0, hB.cell]
      exact (List.getElem?_toArray).trans hj) (by rw [hL]; omega) h1
  rw [← hW1] at hcp1
  have HFIN : Hid (∃ v', Ending.returned (.slice (some ⟨g, 0, none⟩) (n + 1) cap) = .returned v' ∧ (W1.setCells g (i * 5) L).ownsRow base 31 5 v' (n + 1) (xs.take (i * 5) ++ L ++ xs.drop (i * 5)) ∧ w.grownBy (W1.setCells g (i * 5) L) (some g)) := Lib.hid (by
    have h := ownsRow_setCells L (i * 5) W1 _ hO1
    rw [ins_shift xs sp L hxl hsp hL (by omega)] at h
    exact ⟨_, rfl, h.1, hG1.trans h.2⟩)
  have hw1 : IntKind.i64.wrap ((i : Int) + 1) = (i : Int) + 1 := by rw [IntKind.wrap_i64]; omega
  have hw2 : IntKind.i64.wrap ((n : Int) + 1) = (n : Int) + 1 := by rw [IntKind.wrap_i64]; omega
  have hz2' : ¬ ((i : Int) = (n : Int)) := by omega
  have hb1 : (0 : Int) ≤ (i : Int) + 1 := by omega
  have hin : i ≤ n := by omega
  have htn : ((i : Int) + 1).toNat = i + 1 := by omega
  have htn2 : ((n : Int) + 1).toNat = n + 1 := by omega
  have hb2 : ¬ (cap = i + 1) := by omega
  have hb3 : (i : Int) ≤ (n : Int) + 1 := by omega
  have hb4 : ¬ (cap = i) := by omega
  have hr1 : (n : Int) + 1 ≤ (cap : Int) := by omega
  clear hO1 hG1 hown2 hsp hsg hkg hbs hbf hB hdl hown hxl hW1 hJ hz1 hz2 hz3 hm hroom hi
  go_enter Tryz.func49, Tryz.ntmps49
  go_wp2_with (simp only [hov])
  go_region_law (refine step_copy_runI rfl _ _ 46 46 rfl _ _ (by simp [Act.eval, Act.put]) (by simp [Act.eval, Act.put]) (hcp1 _ _ _) ?_)
  go_wp2_with (at_builtin; refine wpList_copy_runI _ rfl _ _ 46 46 rfl _ _ rfl rfl (hcp2 _ _) ?_)
  go_ret
  exact HFIN.out
set_option maxRecDepth 100000 in
set_option maxHeartbeats 8000000 in
theorem insertCut_grow (w : World) (base g n cap i : Nat) (xs : List Value) (hown : w.ownsRow base 31 5 (.slice (some ⟨g, 0, none⟩) n cap) n xs) (hi : i < n) (hroom : cap < n + 1) (B c : Nat) (L : List Value) (hL : L.length = 5) (tB : TypeId) (hB : RH w B L.toArray tB) (h1 : ∀ u ∈ L, u.oneCell' = true) (h1x : ∀ u ∈ xs, u.oneCell' = true)
    (hn : n ≤ 100000) (hbase : base ≤ w.heap.size) :
    Calls Tryz.prog 49 #[.slice (some ⟨g, 0, none⟩) n cap, .int .i64 (i : Int), .slice (some ⟨B, 0, none⟩) 1 c] w fun e w' => ∃ v', e = .returned v' ∧ w'.ownsRow base 31 5 v' (n + 1) (xs.take (i * 5) ++ L ++ xs.drop (i * 5)) ∧ w.grownBy w' (some g) := by
  obtain ⟨J, hJ⟩ : ∃ i, Tryz.prog.info? 31 = some i := by
    cases hq : Tryz.prog.info? 31 with
    | none => have := cut_info; rw [hq] at this; cases this
    | some i => exact ⟨i, rfl⟩
  have hci := cut_info
  rw [hJ] at hci
  simp only [Option.map_some, Option.some.injEq, Prod.mk.injEq] at hci
  obtain ⟨hz1, hz2, hz3⟩ := hci
  have hsz : (Tryz.prog.info? 31).map (·.size) = some 5 := by rw [hJ]; simp [hz2]
  have hxl : xs.length = n * 5 := hown.1
  have hnc : n ≤ cap := by
    rcases hown.2 with ⟨h, _⟩ | ⟨_, _, _, h, _, _, h5, _⟩
    · cases h
    · cases h; exact h5
  have hgw : g < w.heap.size := by
    obtain ⟨g', c', h, _, h2⟩ := hown.form (by omega)
    cases h; exact h2
  have htl : (xs.take (i * 5)).length = i * 5 := by rw [List.length_take, hxl]; omega
  have hold : (Builtin.firstCells J.size i (.slice (some ⟨g, 0, none⟩) i cap)).run Tryz.prog w.drew = .ok (xs.take (i * 5)).toArray w.drew := by
    rw [hz2]
    exact run_firstCells_some w.drew 5 i ⟨g, 0, none⟩ i cap (xs.take (i * 5)) htl (fun j v hj => by
      rw [add_spot, Nat.zero_add]
      have hj2 : j < i * 5 := by have := (List.getElem?_eq_some_iff.1 hj).1; rwa [htl] at this
      show w.cell? _ = _
      rw [hown.cellAt j (by omega)]
      rwa [List.getElem?_take_of_lt hj2] at hj)
  have hik : i + (n + 1 - i) = n + 1 := by omega
  have hkk : (n : Int) + 1 - (i : Int) = ((n + 1 - i : Nat) : Int) := by omega
  obtain ⟨Z, hZ⟩ : ∃ z : Value, some z = J.zero := ⟨_, hz1.symm⟩
  have hZz : Z.cells.size = 5 := by
    rw [hz1] at hZ
    injection hZ with hZ
    rw [hZ]; rfl
  obtain ⟨G, hG⟩ : ∃ G, G = grownCap w (n + 1) cap 31 := ⟨_, rfl⟩
  have hGn : n + 1 ≤ G := by rw [hG]; exact grownCap_ge w _ _ _
  have hGm : G ≤ maxLen := by rw [hG]; exact grownCap_le_maxLen w (n + 1) cap 31 (by unfold maxLen; omega)
  obtain ⟨ROW, hROW⟩ : ∃ ROW : Array Value, ROW = (xs.take (i * 5)).toArray ++ Builtin.zeroCells Z.cells (n + 1 - i) ++ Builtin.zeroCells Z.cells (G - (n + 1)) := ⟨_, rfl⟩
  have hrz : ∀ ty, (Builtin.append_ #[46, 3] ty #[.slice (some ⟨g, 0, none⟩) i cap, .int .i64 ((n : Int) + 1 - (i : Int))]).run Tryz.prog w =
      .ok (.slice (some ⟨w.heap.size, 0, none⟩) (n + 1) G) (w.drew.alloc (.cells ROW 31)) := fun ty => by
    have h := Lib.run_append_grow_zeros w 46 3 ty 31 J Z .i64 .i64 Tryz.underlying46 Tryz.underlying3 hJ hZ.symm (some ⟨g, 0, none⟩) i cap (xs.take (i * 5)) hold (n + 1 - i) (by omega) (by omega) (by omega) (by omega) (by rw [hz3]; omega) (by rw [hz3, hik]; exact growslice_fits (by omega) (by omega))
    rw [hik, ← hG, ← hROW] at h
    rw [hkk]
    exact h
  obtain ⟨W1, hW1⟩ : ∃ W1, W1 = w.drew.alloc (.cells ROW 31) := ⟨_, rfl⟩
  have hzl : (Builtin.zeroCells Z.cells (n + 1 - i)).size = (n + 1 - i) * 5 := by rw [size_zeroCells, hZz]
  have hRS : ROW.size = G * 5 := by
    rw [hROW, Array.size_append, Array.size_append, size_zeroCells, size_zeroCells, hZz, List.size_toArray, htl]
    omega
  have hO1 : W1.ownsRow base 31 5 (.slice (some ⟨w.heap.size, 0, none⟩) (n + 1) G) (n + 1) (xs.take (i * 5) ++ (Builtin.zeroCells Z.cells (n + 1 - i)).toList) := by
    refine ⟨by rw [List.length_append, htl, Array.length_toList, hzl]; omega, .inr ⟨w.heap.size, G, ROW, rfl, hbase, by rw [hW1]; exact heap_alloc_new w.drew _, hGn, hGm, hRS, ?_⟩⟩
    rw [hROW, Array.toList_append, Array.toList_append, List.take_append_of_le_length (by
      rw [List.length_append, Array.length_toList, Array.length_toList, hzl, List.size_toArray, htl]; omega)]
    exact List.take_of_length_le (by rw [List.length_append, Array.length_toList, Array.length_toList, hzl, List.size_toArray, htl]; omega)
  have hG1 : w.grownBy W1 (some g) := by
    rw [hW1]
    exact (⟨rfl, rfl, rfl, Nat.le_refl _, fun _ _ _ => rfl⟩ : w.grownBy w.drew (some g)).trans (World.grownBy_alloc w.drew _ _)
  have hold1 : ∀ q, q < w.heap.size → W1.heap[q]? = w.heap[q]? := fun q hq => by
    rw [hW1]; exact heap_alloc_old w.drew _ hq
  rw [← hW1] at hrz
  have hcA : ∀ ty dc, (Builtin.copy_ #[46, 46] ty #[.slice (some ⟨w.heap.size, i * 5, none⟩) (n + 1 - i) dc, .slice (some ⟨B, 0, none⟩) 1 c]).run Tryz.prog W1 = .ok (goInt (Nat.min 1 (n + 1 - i))) (W1.setCells w.heap.size (i * 5) L) := fun ty dc =>
    run_copy_own (P := Tryz.prog) hO1 46 46 ty _ _ dc ⟨B, 0, none⟩ 1 c L Tryz.underlying46 hsz (by rw [hL]; simp only [Nat.min_def]; split <;> omega) (fun j v hj => by
      rw [add_spot, Nat.zero_add, World.cell?_of_block (a := ⟨B, j, none⟩) (hold1 B hB.lt), hB.cell]
      exact (List.getElem?_toArray).trans hj) (by rw [hL]; omega) h1
  obtain ⟨W2, hW2⟩ : ∃ W2, W2 = W1.setCells w.heap.size (i * 5) L := ⟨_, rfl⟩
  rw [← hW2] at hcA
  obtain ⟨hO2, hG2⟩ : W2.ownsRow base 31 5 (.slice (some ⟨w.heap.size, 0, none⟩) (n + 1) G) (n + 1) (setL (xs.take (i * 5) ++ (Builtin.zeroCells Z.cells (n + 1 - i)).toList) (i * 5) L) ∧ W1.grownBy W2 (some w.heap.size) := by
    rw [hW2]; exact ownsRow_setCells L (i * 5) W1 _ hO1
  have hsz1 : W1.heap.size = w.heap.size + 1 := by rw [hW1]; show (w.heap.push _).size = _; simp
  have hold2 : ∀ q, q < w.heap.size → W2.heap[q]? = w.heap[q]? := fun q hq => (hG2.block q (by omega) (by simp; omega)).trans (hold1 q hq)
  have hdl : (xs.drop (i * 5)).length = (n - i) * 5 := by rw [List.length_drop, hxl]; omega
  have hcB : ∀ ty dc sc, (Builtin.copy_ #[46, 46] ty #[.slice (some ⟨w.heap.size, (i + 1) * 5, none⟩) (n - i) dc, .slice (some ⟨g, i * 5, none⟩) (n - i) sc]).run Tryz.prog W2.drew = .ok (goInt (Nat.min (n - i) (n - i))) (W2.drew.setCells w.heap.size ((i + 1) * 5) (xs.drop (i * 5))) := fun ty dc sc =>
    run_copy_own (P := Tryz.prog) (w := W2.drew) hO2.drew 46 46 ty _ _ dc ⟨g, i * 5, none⟩ (n - i) sc _ Tryz.underlying46 hsz (by rw [hdl]; simp only [Nat.min_def]; split <;> omega) (fun j v hj => by
      rw [add_spot]
      have hj2 : i * 5 + j < n * 5 := by have := (List.getElem?_eq_some_iff.1 hj).1; rw [hdl] at this; omega
      show W2.cell? _ = _
      rw [World.cell?_of_block (a := ⟨g, i * 5 + j, none⟩) (hold2 g hgw), hown.cellAt (i * 5 + j) hj2]
      rwa [List.getElem?_drop] at hj) (by rw [hdl]; omega) (fun v hv => h1x v (List.mem_of_mem_drop hv))
  have HFIN : Hid (∃ v', Ending.returned (.slice (some ⟨w.heap.size, 0, none⟩) (n + 1) G) = .returned v' ∧ (W2.drew.setCells w.heap.size ((i + 1) * 5) (xs.drop (i * 5))).ownsRow base 31 5 v' (n + 1) (xs.take (i * 5) ++ L ++ xs.drop (i * 5)) ∧ w.grownBy (W2.drew.setCells w.heap.size ((i + 1) * 5) (xs.drop (i * 5))) (some g)) := Lib.hid (by
    have h := ownsRow_setCells (xs.drop (i * 5)) ((i + 1) * 5) W2.drew _ hO2.drew
    rw [ins_grow xs _ L hxl (by rw [Array.length_toList, hzl]) hL (by omega)] at h
    refine ⟨_, rfl, h.1, h.2.os.trans (hG2.os.trans hG1.os), h.2.tape.trans (hG2.tape.trans hG1.tape), h.2.output.trans (hG2.output.trans hG1.output), Nat.le_trans hG1.size (Nat.le_trans hG2.size h.2.size), fun q hq _ => ?_⟩
    refine (h.2.block q (by show q < W2.heap.size; have := hG2.size; omega) (by simp; omega)).trans (hold2 q hq))
  have hw1 : IntKind.i64.wrap ((i : Int) + 1) = (i : Int) + 1 := by rw [IntKind.wrap_i64]; omega
  have hw2 : IntKind.i64.wrap ((n : Int) + 1) = (n : Int) + 1 := by rw [IntKind.wrap_i64]; omega
  have hw3 : IntKind.i64.wrap ((n : Int) + 1 - (i : Int)) = (n : Int) + 1 - (i : Int) := by rw [IntKind.wrap_i64]; omega
  have hz2' : ¬ ((i : Int) = (n : Int)) := by omega
  have hb1 : (0 : Int) ≤ (i : Int) + 1 := by omega
  have hin : i ≤ n := by omega
  have htn : ((i : Int) + 1).toNat = i + 1 := by omega
  have hGi : ¬ (G = i) := by omega
  have hGim : ¬ (G = i + 1) := by omega
  have hb3 : (i : Int) ≤ (n : Int) + 1 := by omega
  have hb5 : (i : Int) ≤ (n : Int) := by omega
  have hb4 : ¬ (cap = i) := by omega
  have hr1 : (cap : Int) < (n : Int) + 1 := by omega
  have hic : i ≤ cap := by omega
  have hic2 : (i : Int) ≤ (cap : Int) := by omega
  have hG63 : (G : Int) ≤ 9223372036854775807 := by unfold maxLen at hGm; omega
  clear hO1 hG1 hO2 hG2 hold hold1 hold2 hROW hRS hzl hZ hZz hsz1 hB hdl hown hxl hW1 hW2 hJ hz1 hz2 hz3 hroom hi hG hGm hik hkk htl hgw hnc
  go_enter Tryz.func49, Tryz.ntmps49
  go_wp2_with (first
    | (at_builtin; refine Lib.wpList_append_run _ rfl _ _ _ _ rfl _ _ rfl rfl _ _ (hrz _) ?_)
    | (at_builtin; refine wpList_copy_runI _ rfl _ _ 46 46 rfl _ _ rfl rfl (hcA _ _) ?_))
  go_region_law (refine step_copy_runI rfl _ _ 46 46 rfl _ _ (by simp [Act.eval, Act.put]) (by simp [Act.eval, Act.put]) (hcB _ _ _) ?_)
  go_wp2
  go_ret
  exact HFIN.out
/-- slices.Insert of one element into a row of the call's own -/
theorem insertCut_at (w : World) (base : Nat) (v : Value) (n i : Nat) (xs : List Value) (hown : w.ownsRow base 31 5 v n xs) (hi : i ≤ n) (B c : Nat) (L : List Value) (hL : L.length = 5) (tB : TypeId) (hB : RH w B L.toArray tB) (h1 : ∀ u ∈ L, u.oneCell' = true) (h1x : ∀ u ∈ xs, u.oneCell' = true)
    (hne : v.ownBlock ≠ some B) (hn : n ≤ 100000) (hbase : base ≤ w.heap.size) :
    Calls Tryz.prog 49 #[v, .int .i64 (i : Int), .slice (some ⟨B, 0, none⟩) 1 c] w fun e w' => ∃ v', e = .returned v' ∧ w'.ownsRow base 31 5 v' (n + 1) (xs.take (i * 5) ++ L ++ xs.drop (i * 5)) ∧ w.grownBy w' v.ownBlock := by
  by_cases hin : i = n
  · subst hin
    have hxl : xs.length = i * 5 := hown.1
    rw [List.take_of_length_le (by omega), List.drop_eq_nil_of_le (by omega), List.append_nil]
    exact insertCut_end w base v i xs hown B c L hL tB hB h1 hn hbase
  · obtain ⟨g, cap, rfl, hg1, hg2⟩ := hown.form (by omega)
    by_cases hr : n + 1 ≤ cap
    · exact insertCut_room w base g n cap i xs hown (by omega) hr B c L hL tB hB h1 h1x (fun e => hne (by rw [e]; rfl)) hn
    · exact insertCut_grow w base g n cap i xs hown (by omega) (by omega) B c L hL tB hB h1 h1x hn hbase
end Rg
end Go.Proofs.YtiogfdkdhfmamaaGreatDoor
namespace Go.Proofs.YtiogfdkdhfmamaaGreatDoor
open Go.RowKit
namespace Rg
/-- a world grown from w -/
structure GrownOf (w : World) where
  v : World
  b : Below w.heap.size w v
instance (w : World) : Inhabited (GrownOf w) := ⟨⟨w, Below.refl _ _⟩⟩
theorem wp_region_below {P : Program} {id : Nat} {Q : Exit → Act → World → Prop} {a : Act} {w : World} {l : List Oper} (hm : P.follows .mixedOrders = true) (hB : Region.lexB .any l.toArray = true)
    (h : wpQuiet P l.toArray (fun w' => ∃ p : GrownOf w, w' = p.v) (fun a' => ∀ w', (∃ p : GrownOf w, w' = p.v) → Q .normal a' w') l a) : (Code.region id l.toArray true).wp P Q a w :=
  wp_region_quiet (C := fun w' => ∃ p : GrownOf w, w' = p.v) hm hB ⟨⟨w.drew, by go_grown⟩, rfl⟩ (by simpa using h)
theorem callsGrow {P : Program} {f : FuncId} {args : Array Value} {w : World} {p : GrownOf w} {v : Value}
    (h : Calls P f args p.v fun e w' => e = .returned v ∧ Below p.v.heap.size p.v w') : Calls P f args p.v fun e w'' => e = .returned v ∧ ∃ q : GrownOf w, w'' = q.v :=
  h.mono fun _ w' ⟨he, hb⟩ => ⟨he, ⟨w', ext_trans p.b hb⟩, rfl⟩
theorem GrownOf.of {w w' : World} (h : ∃ p : GrownOf w, w' = p.v) : Below w.heap.size w w' := by
  obtain ⟨p, rfl⟩ := h
  exact p.b
end Rg
end Go.Proofs.YtiogfdkdhfmamaaGreatDoor
